/-
Levels and rows of the program. No conditions.
-/
import Derived.Test.YtpjcmiaanjcanaaGreatDoorValF
set_option linter.all false

namespace Go.Proofs.YtpjcmiaanjcanaaGreatDoor
open Go Go.Vm Go.Vm.T
set_option maxRecDepth 100000
set_option linter.unusedSimpArgs false
set_option linter.unusedVariables false
attribute [local simp] inFrame startLoc startVals Loc.clear blockC Loc.putO Loc.put idx evO constV Loc.get Vm.look intA unwindA resultsA resultV actA pureA storeA loadA fillE repElems TI.zeroV fieldOf fieldAddrA fieldA elemsA retE cellsOf? setCells nowhere

set_option maxHeartbeats 4000000

/-! levels -/
structure Level (N : Nat) (es : List (Int × Int)) (d : List Int) : Prop where
  len : d.length = N
  edge : ∀ e ∈ es, d.getD e.1.toNat 0 + 1 ≤ d.getD e.2.toNat 0
  near : ∀ i, i < N → d.getD i 0 = 0 ∨ ∃ e ∈ es, e.2.toNat = i ∧ d.getD i 0 = d.getD e.1.toNat 0 + 1
  low : ∀ i, i < N → 0 ≤ d.getD i 0
  high : ∀ i, i < N → d.getD i 0 ≤ N

/-- nodes none of which can be the first -/
def Stuck (N : Nat) (es : List (Int × Int)) : Prop := ∃ U : Nat → Prop, (∃ i, U i) ∧ ∀ i, U i → i < N ∧ ∃ e ∈ es, e.2.toNat = i ∧ U e.1.toNat

def cntOut (es : List (Int × Int)) (P : List Int) (i : Nat) : Nat := (es.filter fun e => decide (e.2.toNat = i ∧ P.getD e.1.toNat 0 < 0)).length
def inD (es : List (Int × Int)) (i : Nat) : Nat := (es.filter fun e => decide (e.2.toNat = i)).length
def indeg (N : Nat) (es : List (Int × Int)) : List Int := (List.range N).map fun i => (inD es i : Int)

theorem indeg_len (N : Nat) (es : List (Int × Int)) : (indeg N es).length = N := by simp [indeg]
theorem indeg_get {N i : Nat} (es : List (Int × Int)) (h : i < N) : (indeg N es).getD i 0 = inD es i := by simp [indeg, List.getD_eq_getElem?_getD, h]
theorem inD_le (es : List (Int × Int)) (i : Nat) : inD es i ≤ es.length := List.length_filter_le _ _
theorem inD_take {es : List (Int × Int)} {j : Nat} (hj : j < es.length) (i : Nat) : inD (es.take (j + 1)) i = if es[j].2.toNat = i then inD (es.take j) i + 1 else inD (es.take j) i := by
  unfold inD
  rw [List.take_add_one, List.getElem?_eq_getElem hj, List.filter_append, List.length_append]
  simp only [Option.toList_some, List.filter_cons, List.filter_nil]
  split <;> simp_all
theorem indeg_take {N : Nat} {es : List (Int × Int)} {j y : Nat} (hj : j < es.length) (hy : es[j].2.toNat = y) (hyN : y < N) : indeg N (es.take (j + 1)) = (indeg N (es.take j)).set y ((inD (es.take j) y : Int) + 1) := by
  apply List.ext_getElem
  · simp [indeg]
  · intro i h1 h2
    simp only [indeg, List.getElem_map, List.getElem_range, List.getElem_set, inD_take hj, hy]
    by_cases h : y = i
    · subst h; simp
    · simp [h]

theorem cnt_start (es : List (Int × Int)) {N : Nat} (hin : InGraph N es) (i : Nat) : cntOut es (List.replicate N (-1)) i = inD es i := by
  unfold cntOut inD
  congr 1
  apply List.filter_congr
  intro e he
  have := hin e he
  have h2 : (List.replicate N (-1 : Int)).getD e.1.toNat 0 = -1 := by simp [List.getD_eq_getElem?_getD, show e.1.toNat < N by omega]
  rw [h2]
  simp

theorem cnt_cons (e : Int × Int) (r : List (Int × Int)) (P : List Int) (i : Nat) : cntOut (e :: r) P i = (if e.2.toNat = i ∧ P.getD e.1.toNat 0 < 0 then 1 else 0) + cntOut r P i := by
  unfold cntOut
  rw [List.filter_cons]
  by_cases h : e.2.toNat = i ∧ P.getD e.1.toNat 0 < 0
  · rw [decide_eq_true h, if_pos h, if_pos rfl, List.length_cons, Nat.add_comm]
  · rw [decide_eq_false h, if_neg h, if_neg (by decide), Nat.zero_add]

theorem nbr_cons (e : Int × Int) (r : List (Int × Int)) (a i : Nat) : (nbrs (e :: r) a).count i = (if e.2.toNat = i ∧ e.1.toNat = a then 1 else 0) + (nbrs r a).count i := by
  unfold nbrs
  rw [List.filter_cons]
  by_cases h : e.1.toNat = a
  · rw [decide_eq_true h, if_pos rfl, List.map_cons, List.count_cons]
    by_cases h2 : e.2.toNat = i
    · simp [h, h2]; omega
    · simp [h, h2]
  · rw [decide_eq_false h, if_neg (by decide), if_neg (fun k => h k.2), Nat.zero_add]

theorem cnt_pop {P : List Int} {a : Nat} (ha : a < P.length) (hP : P.getD a 0 < 0) (i : Nat) : ∀ es : List (Int × Int), cntOut es P i = cntOut es (P.set a 0) i + (nbrs es a).count i
  | [] => rfl
  | e :: r => by
    have ih := cnt_pop ha hP i r
    have hg := getD_set (d := P) (k := e.1.toNat) (z := 0) ha
    rw [cnt_cons, cnt_cons, nbr_cons, ih, hg]
    by_cases h1 : e.1.toNat = a
    · rw [if_pos h1, h1]
      by_cases h2 : e.2.toNat = i
      · rw [if_pos ⟨h2, hP⟩, if_neg (by omega), if_pos ⟨h2, rfl⟩]; omega
      · rw [if_neg (fun k => h2 k.1), if_neg (fun k => h2 k.1), if_neg (fun k => h2 k.1)]; omega
    · rw [if_neg h1, if_neg (fun k : e.2.toNat = i ∧ e.1.toNat = a => h1 k.2)]; omega

theorem fresh_le (P : List Int) : fresh P ≤ P.length := List.length_filter_le _ _
theorem fresh_zero : ∀ {P : List Int}, fresh P = 0 → ∀ i, i < P.length → 0 ≤ P.getD i 0
  | x :: r, h, i, hi => by
    unfold fresh at h
    rw [List.length_eq_zero_iff, List.filter_eq_nil_iff] at h
    have := h ((x :: r).getD i 0) (by
      rw [List.getD_eq_getElem?_getD, List.getElem?_eq_getElem hi]
      exact List.getElem_mem hi)
    simpa using this
theorem fresh_pos : ∀ {P : List Int}, fresh P ≠ 0 → ∃ i, i < P.length ∧ P.getD i 0 < 0
  | [], h => absurd rfl h
  | x :: r, h => by
    by_cases hx : x < 0
    · exact ⟨0, by simp, by simpa using hx⟩
    · obtain ⟨i, h1, h2⟩ := fresh_pos (P := r) (fun e => h (by unfold fresh at e ⊢; simp only [List.filter_cons, hx, decide_false, Bool.false_eq_true, if_false]; exact e))
      exact ⟨i + 1, by simpa using h1, by simpa using h2⟩

/-- on the way: levels so far, nodes that are done (0) or not (-1), edges that still lead to each, the queue, and what is left of the neighbours of the node at hand -/
structure Kahn (N : Nat) (es : List (Int × Int)) (d P op : List Int) (q rest : List Nat) (a : Nat) : Prop where
  dl : d.length = N
  pl : P.length = N
  ol : op.length = N
  cnt : ∀ i, i < N → op.getD i 0 = (cntOut es P i + rest.count i : Nat)
  zero : ∀ i, i < N → ((0 ≤ P.getD i 0 ∨ i ∈ q) ↔ op.getD i 0 = 0)
  qin : ∀ i ∈ q, i < N ∧ P.getD i 0 < 0
  qnd : q.Nodup
  edge : ∀ e ∈ es, 0 ≤ P.getD e.1.toNat 0 → d.getD e.1.toNat 0 + 1 ≤ d.getD e.2.toNat 0 ∨ (e.1.toNat = a ∧ e.2.toNat ∈ rest)
  near : ∀ i, i < N → d.getD i 0 = 0 ∨ ∃ e ∈ es, e.2.toNat = i ∧ 0 ≤ P.getD e.1.toNat 0 ∧ d.getD i 0 = d.getD e.1.toNat 0 + 1
  low : ∀ i, i < N → 0 ≤ d.getD i 0
  high : ∀ i, i < N → d.getD i 0 + fresh P ≤ N
  cur : rest ≠ [] → a < N ∧ 0 ≤ P.getD a 0 ∧ d.getD a 0 + 1 + fresh P ≤ N
  rin : ∀ y ∈ rest, y < N ∧ ∃ e ∈ es, e.1.toNat = a ∧ e.2.toNat = y

theorem Kahn.start {N : Nat} {es : List (Int × Int)} (hin : InGraph N es) : Kahn N es (List.replicate N 0) (List.replicate N (-1)) (indeg N es) ((List.range N).filter fun i => decide (inD es i = 0)) [] 0 := by
  have hr : ∀ k, k < N → (List.replicate N (-1 : Int)).getD k 0 = -1 := fun k hk => by simp [List.getD_eq_getElem?_getD, hk]
  have h0 : ∀ k, (List.replicate N (0 : Int)).getD k 0 = 0 := fun k => by
    by_cases h : k < N
    · simp [List.getD_eq_getElem?_getD, h]
    · simp [List.getD_eq_getElem?_getD, show N ≤ k by omega]
  refine ⟨by simp, by simp, indeg_len N es, fun i hi => ?_, fun i hi => ?_, fun i hi => ?_, ?_, fun e he hp => ?_, fun i hi => .inl (h0 i), fun i hi => by rw [h0]; exact Int.le_refl 0, fun i hi => by rw [h0, fresh_rep]; omega, by simp, by simp⟩
  · rw [indeg_get es hi, cnt_start es hin]; simp
  · rw [indeg_get es hi, hr i hi]
    simp [hi]
  · have := (List.mem_filter.1 hi).1
    have : i < N := by simpa using this
    exact ⟨this, by rw [hr i this]; omega⟩
  · exact List.Nodup.sublist List.filter_sublist List.nodup_range
  · have := hin e he
    rw [hr _ (by omega)] at hp
    omega

theorem Kahn.pop {N : Nat} {es : List (Int × Int)} {d P op : List Int} {a a0 : Nat} {q : List Nat} (h : Kahn N es d P op (a :: q) [] a0) (hin : InGraph N es) : Kahn N es d (P.set a 0) op q (nbrs es a) a ∧ fresh (P.set a 0) + 1 = fresh P := by
  obtain ⟨haN, haP⟩ := h.qin a (by simp)
  have hal : a < P.length := by rw [h.pl]; exact haN
  have hg := fun k => getD_set (d := P) (k := k) (z := 0) hal
  have hf := fresh_set (d := P) (i := a) (z := 0) hal haP (by omega)
  obtain ⟨hna, hnq⟩ := List.nodup_cons.1 h.qnd
  refine ⟨⟨h.dl, by simp [h.pl], h.ol, fun i hi => ?_, fun i hi => ?_, fun i hi => ?_, hnq, fun e he hp => ?_, fun i hi => ?_, h.low, fun i hi => ?_, fun _ => ⟨haN, ?_, ?_⟩, fun y hy => ?_⟩, hf⟩
  · rw [h.cnt i hi, cnt_pop hal haP i es]; simp
  · rw [← h.zero i hi, hg]
    by_cases e : i = a
    · subst e; simp
    · simp [e]
  · obtain ⟨h1, h2⟩ := h.qin i (by simp [hi])
    refine ⟨h1, ?_⟩
    rw [hg, if_neg (fun e => hna (by rw [← e]; exact hi))]
    exact h2
  · rw [hg] at hp
    by_cases e1 : e.1.toNat = a
    · exact .inr ⟨e1, mem_nbrs.2 ⟨e, he, e1, rfl⟩⟩
    · rw [if_neg e1] at hp
      rcases h.edge e he hp with k | ⟨_, k⟩
      · exact .inl k
      · simp at k
  · rcases h.near i hi with k | ⟨e, k1, k2, k3, k4⟩
    · exact .inl k
    · refine .inr ⟨e, k1, k2, ?_, k4⟩
      rw [hg]
      split
      · omega
      · exact k3
  · have := h.high i hi; omega
  · rw [hg, if_pos rfl]; omega
  · have := h.high a haN; omega
  · obtain ⟨e, h1, h2, h3⟩ := mem_nbrs.1 hy
    have := hin e h1
    exact ⟨by omega, e, h1, h2, h3⟩

theorem Kahn.step {N : Nat} {es : List (Int × Int)} {d P op : List Int} {a y : Nat} {q rest : List Nat} (h : Kahn N es d P op q (y :: rest) a) :
    y < N ∧ 0 ≤ op.getD y 0 - 1 ∧ Kahn N es (d.set y (max (d.getD y 0) (d.getD a 0 + 1))) P (op.set y (op.getD y 0 - 1)) (if op.getD y 0 - 1 = 0 then q ++ [y] else q) rest a := by
  obtain ⟨hyN, e0, he0, ha0, hy0⟩ := h.rin y (by simp)
  obtain ⟨haN, haP, had⟩ := h.cur (by simp)
  have hyd : y < d.length := by rw [h.dl]; exact hyN
  have hyo : y < op.length := by rw [h.ol]; exact hyN
  have hgd := fun k => getD_set (d := d) (k := k) (z := max (d.getD y 0) (d.getD a 0 + 1)) hyd
  have hgo := fun k => getD_set (d := op) (k := k) (z := op.getD y 0 - 1) hyo
  obtain ⟨z, hz⟩ : ∃ z, z = max (d.getD y 0) (d.getD a 0 + 1) := ⟨_, rfl⟩
  rw [← hz] at hgd ⊢
  have hcy := h.cnt y hyN
  have hcy2 : op.getD y 0 ≥ 1 := by rw [hcy, List.count_cons_self]; omega
  have hnz : ¬ (0 ≤ P.getD y 0 ∨ y ∈ q) := fun k => by have := (h.zero y hyN).1 k; omega
  have hyP : P.getD y 0 < 0 := by have := not_or.1 hnz; omega
  have hyq : y ∉ q := (not_or.1 hnz).2
  have hay : a ≠ y := fun e => by subst e; omega
  have hne : ∀ e : Int × Int, 0 ≤ P.getD e.1.toNat 0 → e.1.toNat ≠ y := fun e k k' => by rw [k'] at k; omega
  refine ⟨hyN, by omega, by simp [h.dl], h.pl, by simp [h.ol], fun i hi => ?_, fun i hi => ?_, fun i hi => ?_, ?_, fun e he hp => ?_, fun i hi => ?_, fun i hi => ?_, fun i hi => ?_, fun hr => ⟨haN, haP, ?_⟩, fun z hz => h.rin z (by simp [hz])⟩
  · rw [hgo]
    by_cases e : i = y
    · subst e
      rw [if_pos rfl, hcy, List.count_cons_self]
      omega
    · rw [if_neg e, h.cnt i hi, List.count_cons_of_ne (Ne.symm e)]
  · rw [hgo]
    by_cases e : i = y
    · subst e
      rw [if_pos rfl]
      by_cases hz : op.getD i 0 - 1 = 0
      · rw [if_pos hz]; simp [hz, -List.getD_eq_getElem?_getD]
      · rw [if_neg hz]
        constructor
        · intro k; exact absurd k hnz
        · intro k; exact absurd k hz
    · rw [if_neg e, ← h.zero i hi]
      split
      · simp [e]
      · rfl
  · split at hi
    · rcases List.mem_append.1 hi with hi | hi
      · exact h.qin i hi
      · have := List.mem_singleton.1 hi
        subst this
        exact ⟨hyN, hyP⟩
    · exact h.qin i hi
  · split
    · rw [List.nodup_append]
      refine ⟨h.qnd, by simp, fun x hx z hz => ?_⟩
      have := List.mem_singleton.1 hz
      subst this
      exact fun e => hyq (by rw [← e]; exact hx)
    · exact h.qnd
  · have hn := hne e hp
    rw [hgd, if_neg hn, hgd]
    rcases h.edge e he hp with k | ⟨k1, k2⟩
    · left
      split
      · rename_i e2; rw [e2] at k; omega
      · exact k
    · rcases List.mem_cons.1 k2 with k2 | k2
      · left
        rw [if_pos k2, k1]
        omega
      · exact .inr ⟨k1, k2⟩
  · rw [hgd]
    by_cases e : i = y
    · subst e
      rw [if_pos rfl]
      by_cases hm : d.getD a 0 + 1 ≤ d.getD i 0
      · have hz2 : z = d.getD i 0 := by omega
        rcases h.near i hi with k | ⟨e, k1, k2, k3, k4⟩
        · exact .inl (hz2.trans k)
        · refine .inr ⟨e, k1, k2, k3, ?_⟩
          rw [hgd, if_neg (hne e k3), hz2]
          exact k4
      · have hz2 : z = d.getD a 0 + 1 := by omega
        refine .inr ⟨e0, he0, hy0, by rw [ha0]; exact haP, ?_⟩
        rw [ha0, hgd, if_neg hay]
        exact hz2
    · rw [if_neg e]
      rcases h.near i hi with k | ⟨e, k1, k2, k3, k4⟩
      · exact .inl k
      · refine .inr ⟨e, k1, k2, k3, ?_⟩
        rw [hgd, if_neg (hne e k3)]
        exact k4
  · rw [hgd]
    have := h.low i hi
    split
    · rename_i e; subst e; omega
    · exact this
  · rw [hgd]
    have := h.high i hi
    split
    · rename_i e; subst e; omega
    · exact this
  · rw [hgd, if_neg hay]; exact had

theorem Kahn.done {N : Nat} {es : List (Int × Int)} {d P op : List Int} {a : Nat} (h : Kahn N es d P op [] [] a) (hf : fresh P = 0) (hin : InGraph N es) : Level N es d := by
  have hz := fresh_zero hf
  rw [h.pl] at hz
  refine ⟨h.dl, fun e he => ?_, fun i hi => ?_, h.low, fun i hi => by have := h.high i hi; omega⟩
  · have := hin e he
    rcases h.edge e he (hz _ (by omega)) with k | ⟨_, k⟩
    · exact k
    · simp at k
  · rcases h.near i hi with k | ⟨e, k1, k2, k3, k4⟩
    · exact .inl k
    · exact .inr ⟨e, k1, k2, k4⟩

theorem Kahn.stuck {N : Nat} {es : List (Int × Int)} {d P op : List Int} {a : Nat} (h : Kahn N es d P op [] [] a) (hf : fresh P ≠ 0) (hin : InGraph N es) : Stuck N es := by
  obtain ⟨i0, h1, h2⟩ := fresh_pos hf
  rw [h.pl] at h1
  refine ⟨fun i => i < N ∧ P.getD i 0 < 0, ⟨i0, h1, h2⟩, fun i ⟨hi, hp⟩ => ⟨hi, ?_⟩⟩
  have hz : op.getD i 0 ≠ 0 := fun e => by
    rcases (h.zero i hi).2 e with k | k
    · omega
    · simp at k
  rw [h.cnt i hi] at hz
  have hc : cntOut es P i ≠ 0 := by simpa using hz
  unfold cntOut at hc
  have hc2 := fun k => hc (List.length_eq_zero_iff.2 k)
  obtain ⟨e, he⟩ := List.exists_mem_of_ne_nil _ hc2
  obtain ⟨k1, k2⟩ := List.mem_filter.1 he
  have := hin e k1
  obtain ⟨k3, k4⟩ := of_decide_eq_true k2
  exact ⟨e, k1, k3, by omega, k4⟩

/-- edges that lead from lesser to greater nodes -/

theorem inD_add (l : List (Int × Int)) (e : Int × Int) (i : Nat) : inD (l ++ [e]) i = if e.2.toNat = i then inD l i + 1 else inD l i := by
  unfold inD
  rw [List.filter_append, List.length_append]
  simp only [List.filter_cons, List.filter_nil]
  split <;> simp_all
theorem indeg_add {N y : Nat} (l : List (Int × Int)) (e : Int × Int) (hy : e.2.toNat = y) (hyN : y < N) : indeg N (l ++ [e]) = (indeg N l).set y ((inD l y : Int) + 1) := by
  apply List.ext_getElem
  · simp [indeg]
  · intro i h1 h2
    simp only [indeg, List.getElem_map, List.getElem_range, List.getElem_set, inD_add, hy]
    by_cases h : y = i
    · subst h; simp
    · simp [h]

theorem Level.le {N : Nat} {es : List (Int × Int)} {d e : List Int} (h : Level N es d) (k : Level N es e) (hg : InGraph N es) : ∀ (n i : Nat), i < N → d.getD i 0 = n → (n : Int) ≤ e.getD i 0 := by
  intro n
  induction n with
  | zero => intro i hi _; have := k.low i hi; omega
  | succ n ih =>
    intro i hi hz
    rcases h.near i hi with q | ⟨a, k1, k2, k3⟩
    · omega
    · have hgr := hg a k1
      have h1 := ih a.1.toNat (by omega) (by omega)
      have hc := k.edge a k1
      rw [k2] at hc
      omega
theorem Level.uniq {N : Nat} {es : List (Int × Int)} {d e : List Int} (h : Level N es d) (k : Level N es e) (hg : InGraph N es) : d = e := by
  apply List.ext_getElem (by rw [h.len, k.len])
  intro i h1 h2
  have hi : i < N := by rw [← h.len]; exact h1
  have e1 : d.getD i 0 = d[i] := by simp [List.getD_eq_getElem?_getD, h1]
  have e2 : e.getD i 0 = e[i] := by simp [List.getD_eq_getElem?_getD, h2]
  rw [← e1, ← e2]
  have a1 := h.low i hi
  have a2 := k.low i hi
  have b1 := h.le k hg (d.getD i 0).toNat i hi (by omega)
  have b2 := k.le h hg (e.getD i 0).toNat i hi (by omega)
  omega
theorem Stuck.none {N : Nat} {es : List (Int × Int)} {d : List Int} (h : Stuck N es) (k : Level N es d) (hg : InGraph N es) : False := by
  obtain ⟨U, ⟨i0, h0⟩, hU⟩ := h
  have key : ∀ (n i : Nat), U i → d.getD i 0 < n → False := by
    intro n
    induction n with
    | zero =>
      intro i hi hl
      obtain ⟨h1, _⟩ := hU i hi
      have := k.low i h1
      omega
    | succ n ih =>
      intro i hi hl
      obtain ⟨h1, e, k1, k2, k3⟩ := hU i hi
      have := k.edge e k1
      rw [k2] at this
      exact ih _ k3 (by omega)
  obtain ⟨h1, _⟩ := hU i0 h0
  exact key (d.getD i0 0 + 1).toNat i0 h0 (by have := k.low i0 h1; omega)

/-- an edge from none to a node -/
def wrongL (N : Nat) (e : Int × Int) : Bool := inN N e.2 && !inN N e.1
def badL (N : Nat) (es : List (Int × Int)) : Bool := es.any (wrongL N)
theorem badL_of {N : Nat} {es : List (Int × Int)} {j : Nat} (hj : j < es.length) (h : wrongL N es[j] = true) : badL N es = true := List.any_eq_true.2 ⟨_, List.getElem_mem hj, h⟩
theorem badL_take {N : Nat} {es : List (Int × Int)} {j : Nat} (hj : j < es.length) : badL N (es.take (j + 1)) = (badL N (es.take j) || wrongL N es[j]) := by
  unfold badL
  rw [List.take_add_one, List.getElem?_eq_getElem hj, List.any_append]
  simp
open Classical in
noncomputable def levelOut (N : Nat) (es : List (Int × Int)) : Option (List Int) :=
  if badL N es then none else if h : ∃ d, Level N (keptG N es) d then some h.choose else none
theorem levelOut_bad {N : Nat} {es : List (Int × Int)} (h : badL N es = true) : levelOut N es = none := by
  unfold levelOut
  rw [if_pos h]
theorem levelOut_some {N : Nat} {es : List (Int × Int)} {d : List Int} (h : badL N es = false) (hd : Level N (keptG N es) d) : levelOut N es = some d := by
  unfold levelOut
  have hex : ∃ d, Level N (keptG N es) d := ⟨d, hd⟩
  rw [if_neg (by rw [h]; simp), dif_pos hex]
  exact congrArg some (hex.choose_spec.uniq hd (keptG_in N es))
theorem levelOut_none {N : Nat} {es : List (Int × Int)} (h : badL N es = false) (hd : Stuck N (keptG N es)) : levelOut N es = none := by
  unfold levelOut
  rw [if_neg (by rw [h]; simp), dif_neg]
  rintro ⟨d, k⟩
  exact hd.none k (keptG_in N es)

end Go.Proofs.YtpjcmiaanjcanaaGreatDoor

namespace Go.Proofs.YtpjcmiaanjcanaaGreatDoor
open Go Go.Vm Go.Vm.T
set_option maxRecDepth 100000
set_option linter.unusedSimpArgs false
set_option linter.unusedVariables false
attribute [local simp] inFrame startLoc startVals Loc.clear blockC Loc.putO Loc.put idx evO constV Loc.get Vm.look intA unwindA resultsA resultV actA pureA storeA loadA fillE repElems TI.zeroV fieldOf fieldAddrA fieldA elemsA retE cellsOf? setCells nowhere

set_option maxHeartbeats 4000000

noncomputable def asg34 : Code := (rfA Tryz.f43 0).1
noncomputable def body34 : Code := (rfA Tryz.f43 0).2

noncomputable def loop34 (A : AV) (N : Nat) : ALoop :=
  { state := .ready, pend := none, fid := 43, vals := [A, .ptr 0 0, .nils, .ptr 1 0, .rsl 2 0 N N, .ptr 3 0, .ptr 4 0, .undef, .undef, .undef, .undef, .undef, .undef, .undef, .fn 93 [] [.ptr 7 0, .ptr 8 0], .undef, .undef, .undef, .undef, .undef, .undef, .undef, .undef], params := #[35, 36], asg := asg34, body := body34, dfr := 9 }

/-- what goes on to hold while the edges are gone over -/
structure J34 (A D : AV) (N : Nat) (es : List (Int × Int)) (j : Nat) (S : St) : Prop where
  g10 : S.get 10 = some (.loop (loop34 A N))
  g9 : S.get 9 = some (.dfr false)
  c1 : S.cells? 1 = some [D, .int .i64 N]
  c2 : S.cells? 2 = some (ints (List.replicate N 0))
  c3 : S.cells? 3 = some [.rsl 5 0 N N]
  c4 : S.cells? 4 = some [.rsl 6 0 N N]
  c7 : S.cells? 7 = some [D]
  c8 : S.cells? 8 = some [.int .i64 N]
  c6 : S.cells? 6 = some (ints (indeg N (keptG N (es.take j))))
  c5 : ∃ vs, S.cells? 5 = some vs ∧ Fam S N vs (nbrs (keptG N (es.take j)))

theorem J34.box {A D : AV} {N : Nat} {es : List (Int × Int)} {j : Nat} {S : St} (h : J34 A D N es j S) (o o' : AO) : J34 A D N es j ((S.push o).put S.n o') := by
  obtain ⟨vs, h5, hf⟩ := h.c5
  exact ⟨get_box h.g10, get_box h.g9, cells_box h.c1, cells_box h.c2, cells_box h.c3, cells_box h.c4, cells_box h.c7, cells_box h.c8, cells_box h.c6, vs, cells_box h5, hf.keep fun i b k => get_box k⟩

theorem J34.same {A D : AV} {N : Nat} {es : List (Int × Int)} {j : Nat} {S : St} (h : J34 A D N es j S) (hj : j < es.length) (hn : (inN N es[j].1 && inN N es[j].2) = false) : J34 A D N es (j + 1) S := by
  have e : keptG N (es.take (j + 1)) = keptG N (es.take j) := by rw [keptG_take hj, hn]; simp
  obtain ⟨vs, h5, hf⟩ := h.c5
  refine ⟨h.g10, h.g9, h.c1, h.c2, h.c3, h.c4, h.c7, h.c8, by rw [e]; exact h.c6, vs, h5, ?_⟩
  rw [e]; exact hf

/-- what is left of a trap within a range -/
structure K34 (N : Nat) (es : List (Int × Int)) (S : St) : Prop where
  bad : badL N es = true
  g9 : S.get 9 = some (.dfr false)

theorem round34_out {cs : List Con} (h48 : sumOf cs 70 = needC.look) {A D : AV} {N : Nat} {es : List (Int × Int)} {j n : Nat} {S : St} (hj : j < es.length) (hy : inN N es[j].2 = true) (hx : inN N es[j].1 = false) (h : J34 A D N es j S) :
    ∃ S', callS ED (sumOf cs) (n + 1) (.yld 10) [duoA es[j], .bool false] S = some (.pan trapV, S') ∧ K34 N es S' := by
  have hbd : badL N es = true := badL_of (N := N) hj (by simp [wrongL, hy, hx])
  have uN := fun (n : Nat) (b : Bool) (S : St) => need_use (cs := cs) h48 (n := n) (b := b) (S := S)
  have hdu : duoA es[j] = .agg [.int .i64 es[j].1, .int .i64 es[j].2] := rfl
  rw [hdu]
  generalize es[j].1 = x at *
  generalize es[j].2 = y at *
  have hb := h.box (.cells [.int .i64 0, .int .i64 0]) (.cells [.int .i64 x, .int .i64 y])
  have b8 := cells?_put_push S (.cells [.int .i64 0, .int .i64 0]) [.int .i64 x, .int .i64 y]
  obtain ⟨g10, g9, c1, c2, c3, c4, c7, c8, c6, vs', c5, hf'⟩ := hb
  generalize hS1 : (S.push (.cells [.int .i64 0, .int .i64 0])).put S.n (.cells [.int .i64 x, .int .i64 y]) = S1 at *
  have q10 := get_put_self (o' := .loop { loop34 A N with state := .busy }) g10
  have hasg : evalC ⟨ED, callS ED (sumOf cs) n, iter n, 43, fi43.vars, fi43.fn.ntmps⟩ asg34 { vals := [A, .ptr 0 0, .nils, .ptr 1 0, .rsl 2 0 N N, .ptr 3 0, .ptr 4 0, .undef, .undef, .undef, .undef, .undef, .undef, .undef, .fn 93 [] [.ptr 7 0, .ptr 8 0], .agg [.int .i64 x, .int .i64 y], .bool false, .undef, .undef, .undef, .undef, .undef, .undef], sc := [], defers := [], recs := .no, rnd := some 10 } S =
      some (.normal, { vals := [A, .ptr 0 0, .nils, .ptr 1 0, .rsl 2 0 N N, .ptr 3 0, .ptr 4 0, .ptr S.n 0, .bool false, .undef, .undef, .undef, .undef, .undef, .fn 93 [] [.ptr 7 0, .ptr 8 0], .agg [.int .i64 x, .int .i64 y], .bool false, .undef, .undef, .undef, .undef, .undef, .undef], sc := [], defers := [], recs := .no, rnd := some 10 }, S1) := by
    simp only [asg34, rfA, rangesOf, drA, drawsOf, Option.getD_some, List.nil_append, List.append_nil, List.getD_cons_zero, List.getD_cons_succ, List.cons_append, Tryz.f43, fi43]
    simp [vmS, hS1]
  have hbody : Got (evalC ⟨ED, callS ED (sumOf cs) n, iter n, 43, fi43.vars, fi43.fn.ntmps⟩ body34 { vals := [A, .ptr 0 0, .nils, .ptr 1 0, .rsl 2 0 N N, .ptr 3 0, .ptr 4 0, .ptr S.n 0, .bool false, .undef, .undef, .undef, .undef, .undef, .fn 93 [] [.ptr 7 0, .ptr 8 0], .agg [.int .i64 x, .int .i64 y], .bool false, .undef, .undef, .undef, .undef, .undef, .undef], sc := [], defers := [], recs := .no, rnd := some 10 } (S1.put 10 (.loop { loop34 A N with state := .busy }))) (fun e L S => e = .pan trapV ∧ L.defers = [] ∧ S = S1.put 10 (.loop { loop34 A N with state := .busy })) := by
    generalize S1.put 10 (.loop { loop34 A N with state := .busy }) = SB at *
    simp only [body34, rfA, rangesOf, drA, drawsOf, Option.getD_some, List.nil_append, List.append_nil, List.getD_cons_zero, List.getD_cons_succ, List.cons_append, Tryz.f43, fi43]
    simp [vmS, uN, stepE_pan]
  obtain ⟨e, L2, S2, hbody, rfl, hL2, rfl⟩ := got_iff.1 hbody
  refine ⟨S1.put 10 (.loop { loop34 A N with state := .busy }), ?_, hbd, ?_⟩
  · rw [callS_yld]
    exact yld_pan (E := ED) (call := callS ED (sumOf cs) n) (it := iter n) (l := 10) (S := S) (fi := fi43) h.g10 rfl rfl rfl hasg g10 rfl hbody hL2 q10
  · rw [get_put_ne (by decide)]; exact g9

theorem round34 {cs : List Con} (h48 : sumOf cs 70 = needC.look) {A D : AV} {N : Nat} {es : List (Int × Int)} {j n : Nat} {S : St} (hj : j < es.length) (hlen : es.length ≤ 4096) (hx' : inN N es[j].1 = true) (hy' : inN N es[j].2 = true) (h : J34 A D N es j S) :
    ∃ S', callS ED (sumOf cs) (n + 1) (.yld 10) [duoA es[j], .bool true] S = some (.ret (.bool true), S') ∧ J34 A D N es (j + 1) S' := by
  obtain ⟨vs, h5, hf⟩ := h.c5
  obtain ⟨x0, x1⟩ := inN_t.1 hx'
  obtain ⟨y0, y1⟩ := inN_t.1 hy'
  obtain ⟨x, hx⟩ := Int.eq_ofNat_of_zero_le x0
  obtain ⟨y, hy⟩ := Int.eq_ofNat_of_zero_le y0
  have hxN : x < N := by omega
  have hyN : y < N := by omega
  have hvl : x < vs.length := by rw [hf.len]; exact hxN
  have hvl2 : x + 1 ≤ vs.length := hvl
  have d2 := @dr43_2
  simp only [drA, drawsOf, Option.getD_some, List.nil_append, List.append_nil, List.getD_cons_zero, List.getD_cons_succ, List.cons_append, Tryz.f43] at d2
  have uN := fun (n : Nat) (S : St) => need_use (cs := cs) h48 (n := n) (b := true) (S := S)
  have hb := h.box (.cells [.int .i64 0, .int .i64 0]) (.cells [.int .i64 x, .int .i64 y])
  have b8 := cells?_put_push S (.cells [.int .i64 0, .int .i64 0]) [.int .i64 x, .int .i64 y]
  obtain ⟨g10, g9, c1, c2, c3, c4, c7, c8, c6, vs', c5, hf'⟩ := hb
  have hvs : vs' = vs := by
    have := cells_box (o := .cells [.int .i64 0, .int .i64 0]) (o' := .cells [.int .i64 x, .int .i64 y]) h5
    rw [c5] at this
    exact Option.some.inj this
  subst hvs
  have h10lt := St.get_lt h.g10
  have hind := inD_le (keptG N (es.take j)) y
  have hind2 : (keptG N (es.take j)).length ≤ 4096 := by
    have h2 := keptG_len N (es.take j)
    have h3 := List.length_take_le j es
    have h4 := List.length_take_le' j es
    omega
  have hkt : keptG N (es.take (j + 1)) = keptG N (es.take j) ++ [es[j]] := by rw [keptG_take hj, hx', hy']; rfl
  have hopn : indeg N (keptG N (es.take (j + 1))) = (indeg N (keptG N (es.take j))).set y ((inD (keptG N (es.take j)) y : Int) + 1) := by rw [hkt]; exact indeg_add _ _ (by omega) hyN
  have hopg : (ints (indeg N (keptG N (es.take j))))[y]? = some (.int .i64 (inD (keptG N (es.take j)) y : Nat)) := ints_get (by simp [indeg, hyN])
  have hopl : y + 1 ≤ (indeg N (keptG N (es.take j))).length := by rw [indeg_len]; exact hyN
  have hst := ints_set (indeg N (keptG N (es.take j))) y ((inD (keptG N (es.take j)) y : Int) + 1)
  rw [← hopn] at hst
  have hwd : IntKind.i64.wrap ((inD (keptG N (es.take j)) y : Int) + 1) = (inD (keptG N (es.take j)) y : Int) + 1 := wrap_id (by omega) (by omega)
  generalize hop1 : indeg N (keptG N (es.take (j + 1))) = op1 at *
  generalize indeg N (keptG N (es.take j)) = op0 at *
  generalize inD (keptG N (es.take j)) y = dy at *
  generalize hS1 : (S.push (.cells [.int .i64 0, .int .i64 0])).put S.n (.cells [.int .i64 x, .int .i64 y]) = S1 at *
  have busyc : ∀ o k cs', k ≠ 10 → S1.cells? k = some cs' → (S1.put 10 o).cells? k = some cs' := fun o k cs' hk hc => by
    rw [cells?_put_ne _ _ _ hk]; exact hc
  have hfB : ∀ a, Fam (S1.put 10 (.loop a)) N vs' (nbrs (keptG N (es.take j))) := fun a => hf'.keep fun i b k => by
    rw [get_put_ne (fun e => by subst e; rw [g10] at k; cases k)]; exact k
  have hnl : (nbrs (keptG N (es.take j)) x).length ≤ 10000 := by
    have := nbrs_len (keptG N (es.take j)) x
    omega
  obtain ⟨v', S2, T, k1, k2, k3, k4, k5, k6⟩ := (hfB { loop34 A N with state := .busy }).append y hxN hnl
  have q10 := k3.get 10 _ (k4 10 _ (get_put_self g10) (by simp)) (get_put_self (o' := .loop { loop34 A N with state := .busy }) g10)
  have q9 := k3.get 9 _ (k4 9 _ (by rw [get_put_ne (by decide)]; exact g9) (by simp)) (by rw [get_put_ne (by decide)]; exact g9)
  have e1 := busyc (.loop { loop34 A N with state := .busy }) 1 _ (by decide) c1
  have e2 := busyc (.loop { loop34 A N with state := .busy }) 2 _ (by decide) c2
  have e3 := busyc (.loop { loop34 A N with state := .busy }) 3 _ (by decide) c3
  have e4 := busyc (.loop { loop34 A N with state := .busy }) 4 _ (by decide) c4
  have e5 := busyc (.loop { loop34 A N with state := .busy }) 5 _ (by decide) c5
  have e6 := busyc (.loop { loop34 A N with state := .busy }) 6 _ (by decide) c6
  have e7 := busyc (.loop { loop34 A N with state := .busy }) 7 _ (by decide) c7
  have e8 := busyc (.loop { loop34 A N with state := .busy }) 8 _ (by decide) c8
  have eb := busyc (.loop { loop34 A N with state := .busy }) S.n _ (by omega) b8
  have f3 := k3.cells _ _ e3
  have f4 := k3.cells _ _ e4
  have f5 := k3.cells _ _ e5
  have f6 := k3.cells _ _ e6
  have fb := k3.cells _ _ eb
  have hix := index83 (i := 5) (c := N) hxN
  have hix6 := index22 (i := 6) (c := N) hyN
  have hget := set_getD hvl
  generalize vs'.getD x .undef = vx at hget k1
  have p4 := cells_put (o := .cells (vs'.set x v')) f5 f4 (by decide)
  have p6 := cells_put (o := .cells (vs'.set x v')) f5 f6 (by decide)
  have pb := cells_put (o := .cells (vs'.set x v')) f5 fb (by omega)
  have p55 := cells_put_self (ds := vs'.set x v') f5
  have r10 : ((S2.put 5 (.cells (vs'.set x v'))).put 6 (.cells (ints op1))).get 10 = some (.loop { loop34 A N with state := .busy }) := by rw [get_put_ne (by decide), get_put_ne (by decide)]; exact q10
  refine ⟨((S2.put 5 (.cells (vs'.set x v'))).put 6 (.cells (ints op1))).put 10 (.loop (loop34 A N)), ?_, ?_⟩
  · rw [callS_yld]
    obtain ⟨w1, w2, w3⟩ := k5
    have hasg : evalC ⟨ED, callS ED (sumOf cs) n, iter n, 43, fi43.vars, fi43.fn.ntmps⟩ asg34 { vals := [A, .ptr 0 0, .nils, .ptr 1 0, .rsl 2 0 N N, .ptr 3 0, .ptr 4 0, .undef, .undef, .undef, .undef, .undef, .undef, .undef, .fn 93 [] [.ptr 7 0, .ptr 8 0], .agg [.int .i64 x, .int .i64 y], .bool true, .undef, .undef, .undef, .undef, .undef, .undef], sc := [], defers := [], recs := .no, rnd := some 10 } S =
        some (.normal, { vals := [A, .ptr 0 0, .nils, .ptr 1 0, .rsl 2 0 N N, .ptr 3 0, .ptr 4 0, .ptr S.n 0, .bool true, .undef, .undef, .undef, .undef, .undef, .fn 93 [] [.ptr 7 0, .ptr 8 0], .agg [.int .i64 x, .int .i64 y], .bool true, .undef, .undef, .undef, .undef, .undef, .undef], sc := [], defers := [], recs := .no, rnd := some 10 }, S1) := by
      simp only [asg34, rfA, rangesOf, drA, drawsOf, Option.getD_some, List.nil_append, List.append_nil, List.getD_cons_zero, List.getD_cons_succ, List.cons_append, Tryz.f43, fi43]
      simp [vmS, hS1]
    have hbody : evalC ⟨ED, callS ED (sumOf cs) n, iter n, 43, fi43.vars, fi43.fn.ntmps⟩ body34 { vals := [A, .ptr 0 0, .nils, .ptr 1 0, .rsl 2 0 N N, .ptr 3 0, .ptr 4 0, .ptr S.n 0, .bool true, .undef, .undef, .undef, .undef, .undef, .fn 93 [] [.ptr 7 0, .ptr 8 0], .agg [.int .i64 x, .int .i64 y], .bool true, .undef, .undef, .undef, .undef, .undef, .undef], sc := [], defers := [], recs := .no, rnd := some 10 } (S1.put 10 (.loop { loop34 A N with state := .busy })) =
        some (.normal, { vals := [A, .ptr 0 0, .nils, .ptr 1 0, .rsl 2 0 N N, .ptr 3 0, .ptr 4 0, .ptr S.n 0, .bool true, .undef, .undef, .undef, .undef, .undef, .fn 93 [] [.ptr 7 0, .ptr 8 0], .agg [.int .i64 x, .int .i64 y], .bool true, .undef, .undef, .undef, .undef, .undef, .undef], sc := [(58, .ptr 6 y), (57, .int .i64 ((dy : Int) + 1)), (56, .int .i64 dy), (55, .ptr 6 y), (54, .int .i64 y), (53, .ptr S.n 1), (52, .rsl 6 0 N N)], defers := [], recs := .no, rnd := some 10 }, (S2.put 5 (.cells (vs'.set x v'))).put 6 (.cells (ints op1))) := by
      generalize S1.put 10 (.loop { loop34 A N with state := .busy }) = SB at *
      simp only [body34, rfA, rangesOf, drA, drawsOf, Option.getD_some, List.nil_append, List.append_nil, List.getD_cons_zero, List.getD_cons_succ, List.cons_append, Tryz.f43, fi43]
      simp [vmS, runC_nil, runC_cons, pickC_some, wantC_tt, wantC_tf, effC_val, ifC_true, checkC, inPairs, keepC, okC, readsC_load, readV_some, AV.beq_self, wantA_n, wantA_g, wantD_some, d2, e3, e4, e5, e6, eb, uN, hix, hix6, hget, k1, w1, w2, w3, f3, f4, f5, fb, hvl2, p4, p6, pb, hopg, hopl, hwd, hst]
    have hyr := yld_round (E := ED) (call := callS ED (sumOf cs) n) (it := iter n) (l := 10) (args := [duoA es[j], .bool true]) (S := S) (fi := fi43) h.g10 rfl rfl rfl (by rw [show (duoA es[j]) = .agg [.int .i64 x, .int .i64 y] from by simp [duoA, hx, hy]]; exact hasg) g10 rfl hbody rfl r10
    exact hyr
  · have rk : ∀ k cs', k ≠ 5 → k ≠ 6 → S2.cells? k = some cs' → (((S2.put 5 (.cells (vs'.set x v'))).put 6 (.cells (ints op1))).put 10 (.loop (loop34 A N))).cells? k = some cs' := by
      intro k cs' hk hk6 hc
      have hk10 : k ≠ 10 := fun e => by
        subst e
        have := cells?_inv hc
        rw [q10] at this
        cases this
      rw [cells?_put_ne _ _ _ hk10]
      exact cells_put p6 (cells_put f5 hc hk) hk6
    refine ⟨get_put_self (o' := .loop (loop34 A N)) r10, ?_, rk 1 _ (by decide) (by decide) (k3.cells _ _ e1), rk 2 _ (by decide) (by decide) (k3.cells _ _ e2), rk 3 _ (by decide) (by decide) f3, rk 4 _ (by decide) (by decide) f4, rk 7 _ (by decide) (by decide) (k3.cells _ _ e7), rk 8 _ (by decide) (by decide) (k3.cells _ _ e8), ?_, vs'.set x v', ?_, ?_⟩
    · rw [get_put_ne (by decide), get_put_ne (by decide), get_put_ne (by decide)]; exact q9
    · rw [hop1, cells?_put_ne _ _ _ (by decide)]
      exact cells_put_self p6
    · rw [cells?_put_ne _ _ _ (by decide)]; exact cells_put p6 p55 (by decide)
    · have hnb : nbrs (keptG N (es.take (j + 1))) = fun z => if x = z then nbrs (keptG N (es.take j)) z ++ [y] else nbrs (keptG N (es.take j)) z := by
        funext z
        rw [hkt, nbrs_add, hx, hy]
        rfl
      rw [hnb]
      refine k6.keep fun i b k => ?_
      rw [get_put_ne (fun e => by subst e; rw [q10] at k; cases k), get_put_ne (fun e => by subst e; rw [cells?_inv f6] at k; cases k), get_put_ne (fun e => by subst e; rw [cells?_inv f5] at k; cases k)]
      exact k

end Go.Proofs.YtpjcmiaanjcanaaGreatDoor

namespace Go.Proofs.YtpjcmiaanjcanaaGreatDoor
open Go Go.Vm Go.Vm.T
set_option maxRecDepth 100000
set_option linter.unusedSimpArgs false
set_option linter.unusedVariables false
attribute [local simp] inFrame startLoc startVals Loc.clear blockC Loc.putO Loc.put idx evO constV Loc.get Vm.look intA unwindA resultsA resultV actA pureA storeA loadA fillE repElems TI.zeroV fieldOf fieldAddrA fieldA elemsA retE cellsOf? setCells nowhere

set_option maxHeartbeats 4000000

theorem sub_len {l m : List Nat} (h : l.Nodup) (hs : ∀ i ∈ l, i ∈ m) : l.length ≤ m.length := by
  induction l generalizing m with
  | nil => simp
  | cons a l ih =>
    obtain ⟨h1, h2⟩ := List.nodup_cons.1 h
    have ha := hs a (by simp)
    have := ih (m := m.erase a) h2 (fun i hi => (List.mem_erase_of_ne (fun e => h1 (by rw [← e]; exact hi))).2 (hs i (by simp [hi])))
    rw [List.length_erase_of_mem ha] at this
    have := List.length_pos_of_mem ha
    simp only [List.length_cons]
    omega
theorem nodup_len {l : List Nat} {N : Nat} (h : l.Nodup) (hs : ∀ i ∈ l, i < N) : l.length ≤ N := by
  have := sub_len h (m := List.range N) (fun i hi => by simpa using hs i hi)
  simpa using this

theorem stepE_pan' {vars : List Tmp} {dst : Option Tmp} {L : Vm.Loc} {S S' : St} {v : AV} : stepE vars dst L S (some (.pan v S')) = some (.pan v L S') := rfl

theorem melt_at {S : St} {i N : Nat} {d : List Int} (h : S.cells? i = some (ints d)) (hl : d.length = N) : (FRes.ret (.rsl i 0 N N)).melt S = .ret (slcI d) := by
  have htk : (ints d).take N = ints d := List.take_of_length_le (by simp [hl])
  have hall := ints_all d
  simp [FRes.melt, AV.melt, h, hl, slcI, htk, ints_dead]
  exact hall

theorem fold_maxI (a b : Int) : foldA (maxA .max) (.int .i64 a) [.int .i64 b] = some (.int .i64 (max a b)) := by
  simp only [foldA, maxA, Option.some.injEq, AV.int.injEq, true_and]
  split <;> omega

/-- what holds while nodes are gone over -/
structure B34 (D : AV) (N : Nat) (vs : List AV) (S : St) (d op : List Int) : Prop where
  g9 : S.get 9 = some (.dfr false)
  c1 : S.cells? 1 = some [D, .int .i64 N]
  c2 : S.cells? 2 = some (ints d)
  c3 : S.cells? 3 = some [.rsl 5 0 N N]
  c4 : S.cells? 4 = some [.rsl 6 0 N N]
  c5 : S.cells? 5 = some vs
  c6 : S.cells? 6 = some (ints op)

theorem B34.keep {D : AV} {N : Nat} {vs : List AV} {S S' : St} {d op : List Int} (h : B34 D N vs S d op) {T : Option Nat} (k : Kept T S S') (hT : T ≠ some 9) : B34 D N vs S' d op :=
  ⟨k.get _ _ hT h.g9, k.cells _ _ h.c1, k.cells _ _ h.c2, k.cells _ _ h.c3, k.cells _ _ h.c4, k.cells _ _ h.c5, k.cells _ _ h.c6⟩
theorem B34.set2 {D : AV} {N : Nat} {vs : List AV} {S : St} {d op : List Int} (h : B34 D N vs S d op) (e : List Int) : B34 D N vs (S.put 2 (.cells (ints e))) e op :=
  ⟨by rw [get_put_ne (by decide)]; exact h.g9, cells_put h.c2 h.c1 (by decide), cells_put_self h.c2, cells_put h.c2 h.c3 (by decide), cells_put h.c2 h.c4 (by decide), cells_put h.c2 h.c5 (by decide), cells_put h.c2 h.c6 (by decide)⟩
theorem B34.set6 {D : AV} {N : Nat} {vs : List AV} {S : St} {d op : List Int} (h : B34 D N vs S d op) (e : List Int) : B34 D N vs (S.put 6 (.cells (ints e))) d e :=
  ⟨by rw [get_put_ne (by decide)]; exact h.g9, cells_put h.c6 h.c1 (by decide), cells_put h.c6 h.c2 (by decide), cells_put h.c6 h.c3 (by decide), cells_put h.c6 h.c4 (by decide), cells_put h.c6 h.c5 (by decide), cells_put_self h.c6⟩

theorem getD_int {d : List Int} {y : Nat} (h : y < d.length) : (ints d)[y]? = some (.int .i64 (d.getD y 0)) := ints_get (by simp [List.getD_eq_getElem?_getD, h])

theorem ints_rep (n : Nat) (z : Int) : ints (List.replicate n z) = List.replicate n (.int .i64 z) := by simp [ints]
theorem indeg_nil (N : Nat) : indeg N [] = List.replicate N 0 := by
  apply List.ext_getElem
  · simp [indeg]
  · intro i h1 h2
    simp [indeg, inD]

noncomputable def levelC : Con := rvC 43 graphDom fun v => graphR (gN v) slcI (levelOut (gN v).toNat (gE v))

theorem level_ok : levelC.Ok Tryz.prog ED := by
  refine Con.ok_at ED_ok ED_pers csD csD_ok (fun (v : RV) _ => ⟨rv_pers v, graphR_slc _ _⟩) ?_
  intro (v : RV) hv
  obtain ⟨hv2, hdu⟩ := (hv : graphDom v)
  show ∃ n, ∀ p : FRes → St → Prop, (∀ r S', r.melt S' = graphR (gN v) slcI (levelOut (gN v).toNat (gE v)) → p r S') → GotF (callS ED (sumOf csD) n (.fn 43) [v.enc] S0) p
  refine ⟨12000, fun p hp => ?_⟩
  have d0 := @dr43_0
  have d1 := @dr43_1
  simp only [drA, drawsOf, Option.getD_some, List.nil_append, List.append_nil, List.getD_cons_zero, List.getD_cons_succ, List.cons_append, Tryz.f43] at d0 d1
  rw [callS_fn rfl]
  have f1 := fun (n : Nat) (S : St) => side_use (cs := csD) (f := 67) (i := 0) rfl (n := n) (S := S) hv2
  have s1 := fun (n : Nat) (S : St) => side_use (cs := csD) (f := 68) (i := 1) (by funext a; rfl) (n := n) (S := S) hv2
  have hg := fun (n : Nat) (S : St) (m : Int) => graph_use (cs := csD) (by funext a; rfl) (n := n) (S := S) (m := m) hdu
  have hes : (gE v).length ≤ 4096 := by have := hdu.1; simpa [gE, RV.duos] using this
  change ∀ n S m, _ = some (graphRes m (gE v), S) at hg
  unfold gN at hp
  have e := v.look
  obtain ⟨c1, c2, c3⟩ := v.cell
  have x0 := (v.kids.getD 0 dflt).look
  obtain ⟨x1, x2, x3⟩ := (v.kids.getD 0 dflt).cell
  have y0 := (v.kids.getD 1 dflt).look
  obtain ⟨y1, y2, y3⟩ := (v.kids.getD 1 dflt).cell
  rw [x0] at f1
  rw [y0] at s1 hg
  rw [e] at f1 s1 ⊢
  generalize gE v = es at *
  generalize v.lst = A at *
  generalize v.kind = vk at *
  generalize v.num = vn at *
  generalize (v.kids.getD 0 dflt).num = nn at *
  generalize (v.kids.getD 0 dflt).kind = k0 at *
  generalize (v.kids.getD 0 dflt).lst = A0 at *
  generalize (v.kids.getD 1 dflt).num = n1 at *
  generalize (v.kids.getD 1 dflt).kind = k1 at *
  generalize (v.kids.getD 1 dflt).lst = A1 at *
  have hp1 : ∀ k z A, partA ED 3 [.int .i64 k, .int .i64 z, A] 1 = some (.int .i64 z) := fun _ _ _ => rfl
  by_cases hnn : 0 ≤ nn ∧ nn ≤ 4096
  rotate_left
  · have hg' := fun n S => hg n S nn
    simp only [graphRes, if_neg hnn] at hg'
    rw [graphR, if_neg hnn] at hp
    simp only [fnA, ED_fn43, fi43, Tryz.f43]
    simp [vmS, runC_nil, runC_cons, pickC_some, wantC_tt, wantC_tf, effC_val, ifC_true, checkC, inPairs, keepC, okC, readsC_load, readV_some, AV.beq_self, wantA_n, wantA_g, wantD_some, d0, f1, s1, hg', c1, c2, x1, x2, y1, y2, hp1, effC_pan]
    exact hp _ _ rfl
  rw [graphR, if_pos hnn] at hp
  obtain ⟨N, rfl⟩ := Int.eq_ofNat_of_zero_le hnn.1
  have hN : N ≤ 4096 := by omega
  have hg' := fun n S => hg n S N
  simp only [graphRes, if_pos hnn, duosA] at hg'
  rw [Int.toNat_natCast] at hp
  obtain ⟨hdc, hdk⟩ := duoAs_cell es
  have hdcells : (lst (es.map duoA)).cells = [lst (es.map duoA)] := by cases es <;> rfl
  have hroom : (N : Int) * 9 ≤ (roomMost : Nat) := by unfold roomMost; omega
  have hroom2 : (N : Int) * 25 ≤ (roomMost : Nat) := by unfold roomMost; omega
  generalize hD : lst (es.map duoA) = D at *
  have d3 := @dr43_3
  have d4 := @dr43_4
  simp only [drA, drawsOf, Option.getD_some, List.nil_append, List.append_nil, List.getD_cons_zero, List.getD_cons_succ, List.cons_append, Tryz.f43] at d3 d4
  have hall := fun (n : Nat) (S : St) => all49 (cs := csD) rfl (n := n) (D := D) (N := N) (S := S) hdc
  generalize hA : AV.agg [AV.int IntKind.i64 vk, AV.int IntKind.i64 vn, A] = B at *
  have hAc : B.cells = [AV.int IntKind.i64 vk, AV.int IntKind.i64 vn, A] := by rw [← hA]; rfl
  have hAk : B.known = true := by rw [← hA]; rfl
  simp only [fnA, ED_fn43, fi43, Tryz.f43]
  simp [vmS, runC_nil, runC_cons, pickC_some, wantC_tt, wantC_tf, effC_val, ifC_true, checkC, inPairs, keepC, okC, readsC_load, readV_some, AV.beq_self, wantA_n, wantA_g, wantD_some, d0, d1, f1, s1, hg', c1, c2, x1, x2, y1, y2, hdc, hdk, hdcells, hp1, len22, hroom, hroom2, flat_rep, flat_rep2, hAc, hAk, hA, hall]
  generalize hS2 : (St.push _ (.cells [.int .i64 (N : Int)])) = S2
  have n2 : S2.n = 9 := by rw [← hS2]; simp [n_push', n_put']
  have k1 : S2.cells? 1 = some [D, .int .i64 N] := by rw [← hS2]; simp [push_at, put_at, n_push', n_put', cellsOf?]
  have k2 : S2.cells? 2 = some (ints (List.replicate N 0)) := by rw [← hS2, ints_rep]; simp [push_at, put_at, n_push', n_put', cellsOf?]
  have k3 : S2.cells? 3 = some [.rsl 5 0 N N] := by rw [← hS2]; simp [push_at, put_at, n_push', n_put', cellsOf?]
  have k4 : S2.cells? 4 = some [.rsl 6 0 N N] := by rw [← hS2]; simp [push_at, put_at, n_push', n_put', cellsOf?]
  have k5 : S2.cells? 5 = some (List.replicate N .nils) := by rw [← hS2]; simp [push_at, put_at, n_push', n_put', cellsOf?]
  have k6 : S2.cells? 6 = some (ints (indeg N (keptG N (es.take 0)))) := by rw [← hS2, List.take_zero, show keptG N [] = [] from rfl, indeg_nil, ints_rep]; simp [push_at, put_at, n_push', n_put', cellsOf?]
  have k7 : S2.cells? 7 = some [D] := by rw [← hS2]; simp [push_at, put_at, n_push', n_put', cellsOf?]
  have k8 : S2.cells? 8 = some [.int .i64 N] := by rw [← hS2]; simp [push_at, put_at, n_push', n_put', cellsOf?]
  clear hS2 hall hg hg' f1 s1 e hA hAc hAk
  have J0 : J34 B D N es 0 ((S2.push (.dfr false)).push (.loop (loop34 B N))) := by
    refine ⟨?_, ?_, cells_push (cells_push k1), cells_push (cells_push k2), cells_push (cells_push k3), cells_push (cells_push k4), cells_push (cells_push k7), cells_push (cells_push k8), cells_push (cells_push k6), _, cells_push (cells_push k5), ?_⟩
    · have := St.get_push_self (S2.push (.dfr false)) (.loop (loop34 B N))
      rw [n_push', n2] at this
      exact this
    · apply St.get_push_of
      have := St.get_push_self S2 (.dfr false)
      rw [n2] at this
      exact this
    · exact Fam.start _ _
  have hall := all_ev csD rfl es N 10 7 8 11998 hes (by omega) (fun j S => J34 B D N es j S ∧ badL N (es.take j) = false) (K34 N es) (fun j S o o' h => ⟨h.1.box o o', h.2⟩) (fun j S h => by rw [hD]; exact h.1.c7) (fun j S h => h.1.c8)
    (fun j S hj hy h => ⟨h.1.same hj (by rw [hy, Bool.and_false]), by rw [badL_take hj, h.2]; simp [wrongL, hy]⟩)
    (fun j S hj hy h => by
      by_cases hx : inN N es[j].1 = true
      · obtain ⟨S', h1, h2⟩ := round34 (n := 11997) (cs := csD) (by funext a; rfl) hj hes hx hy h.1
        rw [hx]
        exact .inl ⟨S', h1, h2, by rw [badL_take hj, h.2]; simp [wrongL, hx]⟩
      · have hx' : inN N es[j].1 = false := by simpa using hx
        rw [hx']
        exact .inr (round34_out (n := 11997) (cs := csD) (by funext a; rfl) hj hy hx' h.1)) _ ⟨J0, by simp [badL]⟩
  rcases hall with ⟨S3, hcall, J1, hgd⟩ | ⟨S3, hcall, hK⟩
  rotate_left
  · have hb9 := hK.g9
    rw [levelOut_bad hK.bad] at hp
    simp only [loop34, asg34, body34, rfA, rangesOf, drA, drawsOf, Option.getD_some, List.nil_append, List.append_nil, List.getD_cons_zero, List.getD_cons_succ, List.cons_append, Tryz.f43] at hcall
    simp [evalC_range, vmS, rangeC_fn, n2, hcall, endC_pan, hb9]
    exact hp _ _ rfl
  rw [List.take_length] at hgd
  have hend := fun (L : Vm.Loc) (v : AV) => endC_ok (L := L) (v := v) J1.g10 rfl rfl
  simp only [loop34, asg34, body34, rfA, rangesOf, drA, drawsOf, Option.getD_some, List.nil_append, List.append_nil, List.getD_cons_zero, List.getD_cons_succ, List.cons_append, Tryz.f43] at hcall hend
  simp [evalC_range, vmS, rangeC_fn, n2, hcall, hend]
  generalize hS4 : S3.put 10 _ = S4
  obtain ⟨vs, j5, hfam⟩ := J1.c5
  have j6 := J1.c6
  rw [List.take_length] at hfam j6
  have ho : ∀ d, Level N (keptG N es) d → levelOut N es = some d := fun d hd => levelOut_some hgd hd
  have ho2 : Stuck N (keptG N es) → levelOut N es = none := fun h => levelOut_none hgd h
  have hin := keptG_in N es
  have hesk : (keptG N es).length ≤ 4096 := Nat.le_trans (keptG_len N es) hes
  generalize keptG N es = ke at *
  have hB : B34 D N vs S4 (List.replicate N 0) (indeg N ke) := by
    subst hS4
    exact ⟨by rw [get_put_ne (by decide)]; exact J1.g9, by rw [cells?_put_ne _ _ _ (by decide)]; exact J1.c1, by rw [cells?_put_ne _ _ _ (by decide)]; exact J1.c2, by rw [cells?_put_ne _ _ _ (by decide)]; exact J1.c3, by rw [cells?_put_ne _ _ _ (by decide)]; exact J1.c4, by rw [cells?_put_ne _ _ _ (by decide)]; exact j5, by rw [cells?_put_ne _ _ _ (by decide)]; exact j6⟩
  have hvl := hfam.len
  obtain ⟨T0, hrow, _⟩ := hfam.live
  have hrl : ∀ x, x < N → lenA ED 62 (vs.getD x .undef) = some (.int .i64 (nbrs ke x).length) := fun x hx => nat_len (hrow x hx)
  have hrx : ∀ x, x < N → ∀ k (hk : k < (nbrs ke x).length), indexAddrA ED 62 (vs.getD x .undef) (.int .i64 k) = some (.rptr [.int .i64 ((nbrs ke x)[k] : Nat)]) := fun x hx k hk => nat_index (hrow x hx) hk
  have hrc : ∀ x, x < N → (vs.getD x .undef).isCell = true ∧ (vs.getD x .undef).known = true ∧ (vs.getD x .undef).cells = [vs.getD x .undef] := fun x hx => nat_cell (hrow x hx)
  clear hS4 j5 j6 J1 hrow hfam hcall hend J0 hgd k1 k2 k3 k4 k5 k6 k7 k8 n2
  have hb4 := hB.c4
  simp [vmS, hb4, len22]
  generalize hc : iter _ _ _ _ = c
  obtain ⟨e1, L1, S5, rfl, hq⟩ := loop_of hc
    (fun r L S => ∃ j v T sc a10 a11, j + r = N ∧ L = vlocD [B, .ptr 0 0, .nils, .ptr 1 0, .rsl 2 0 N N, .ptr 3 0, .ptr 4 0, .undef, .undef, v, a10, a11, .undef, .undef, .fn 93 [] [.ptr 7 0, .ptr 8 0], .undef, .undef, .rsl 6 0 N N, .int .i64 N, .int .i64 (j : Nat), .undef, .undef, .undef] sc [.coll 9] ∧
      LiveT S 1 v (nats ((List.range j).filter fun i => decide (inD ke i = 0))) T ∧ B34 D N vs S (List.replicate N 0) (indeg N ke))
    (fun e L S => e = .exit 2 ∧ ∃ v T sc a10 a11 a61, L = vlocD [B, .ptr 0 0, .nils, .ptr 1 0, .rsl 2 0 N N, .ptr 3 0, .ptr 4 0, .undef, .undef, v, a10, a11, .undef, .undef, .fn 93 [] [.ptr 7 0, .ptr 8 0], .undef, .undef, .rsl 6 0 N N, .int .i64 N, a61, .undef, .undef, .undef] sc [.coll 9] ∧
      LiveT S 1 v (nats ((List.range N).filter fun i => decide (inD ke i = 0))) T ∧ B34 D N vs S (List.replicate N 0) (indeg N ke))
    N (by omega)
    ⟨0, .nils, none, _, _, _, by simp, rfl, .inl ⟨rfl, rfl⟩, hB⟩
    (by
      rintro r L S ⟨j, v, T, sc, a10, a11, hjk, rfl, hL, hB⟩ p' hq1 hq2
      have hb6 := hB.c6
      by_cases hj : j < N
      · have hw : IntKind.i64.wrap ((j : Int) + 1) = ((j : Int) + 1) := wrap_id (by omega) (by omega)
        have hgj := getD_int (d := indeg N ke) (y := j) (by rw [indeg_len]; exact hj)
        have hj1 : j + 1 ≤ (indeg N ke).length := by rw [indeg_len]; exact hj
        rw [indeg_get ke hj] at hgj
        by_cases hz : inD ke j = 0
        · have hfl : ((List.range j).filter fun i => decide (inD ke i = 0)).length ≤ 10000 := by
            have := List.length_filter_le (fun i => decide (inD ke i = 0)) (List.range j)
            simp at this
            omega
          obtain ⟨v', S', c1, c2, c3, c4⟩ := append_nat j hL hfl
          rw [hz] at hgj
          simp [vmS, vlocD, hj, index22 hj, hb6, hgj, hj1, c1, hw]
          refine hq1 (r - 1) _ _ (by omega) ⟨j + 1, v', some S.n, _, _, _, by omega, rfl, ?_, hB.keep c4 (liveT_getne hL hB.g9 (by simp))⟩
          rw [List.range_succ, List.filter_append]
          simpa [hz] using c2
        · have hz' : ¬ ((inD ke j : Nat) : Int) = 0 := by omega
          simp [vmS, vlocD, hj, index22 hj, hb6, hgj, hj1, hz, hz', hw]
          refine hq1 (r - 1) _ _ (by omega) ⟨j + 1, v, T, _, _, _, by omega, rfl, ?_, hB⟩
          rw [List.range_succ, List.filter_append]
          simpa [hz] using hL
      · have hjl : j = N := by omega
        subst hjl
        simp [vmS, vlocD]
        exact hq2 _ _ _ (by simp) ⟨rfl, v, T, _, _, _, _, rfl, hL, hB⟩)
  obtain ⟨rfl, v, T, sc, a10, a11, a61, rfl, hL, hB⟩ := hq
  have hK := Kahn.start hin
  simp [vmS, vlocD]
  have hfp : fresh (List.replicate N (-1)) = N := fresh_rep N
  generalize hc : iter _ _ _ _ = c
  obtain ⟨e1, L1, S6, rfl, hq⟩ := loop_of hc
    (fun r L S => ∃ d P op q a s v T sc a14 a85 a86 a87, fresh P = r ∧ s + r = N ∧ L = vlocD [B, .ptr 0 0, .nils, .ptr 1 0, .rsl 2 0 N N, .ptr 3 0, .ptr 4 0, .undef, .undef, v, a10, a11, .int .i64 (s : Nat), a14, .fn 93 [] [.ptr 7 0, .ptr 8 0], .undef, .undef, .rsl 6 0 N N, .int .i64 N, a61, a85, a86, a87] sc [.coll 9] ∧
      Kahn N ke d P op q [] a ∧ LiveT S 1 v (nats q) T ∧ B34 D N vs S d op)
    (fun e L S => e = .exit 4 ∧ ∃ d P op a s v sc a14 a85 a86 a87, s + fresh P = N ∧ L = vlocD [B, .ptr 0 0, .nils, .ptr 1 0, .rsl 2 0 N N, .ptr 3 0, .ptr 4 0, .undef, .undef, v, a10, a11, .int .i64 (s : Nat), a14, .fn 93 [] [.ptr 7 0, .ptr 8 0], .undef, .undef, .rsl 6 0 N N, .int .i64 N, a61, a85, a86, a87] sc [.coll 9] ∧
      Kahn N ke d P op [] [] a ∧ B34 D N vs S d op)
    N (by omega)
    ⟨_, _, _, _, _, 0, v, T, _, _, _, _, _, hfp, by simp, rfl, hK, hL, hB⟩
    (by
      clear hK hL hB hfp
      rintro r L S ⟨d, P, op, q, a0, s, v, T, sc, a14, a85, a86, a87, hr, hs, rfl, hK, hL, hB⟩ p' hq1 hq2
      have hlen := nat_len hL
      have hb3 := hB.c3
      have hb5 := hB.c5
      cases q with
      | nil =>
        simp [vmS, vlocD, hlen]
        exact hq2 _ _ _ (by simp) ⟨rfl, d, P, op, a0, s, v, _, _, _, _, _, by omega, rfl, hK, hB⟩
      | cons a q =>
        obtain ⟨haN, haP⟩ := hK.qin a (by simp)
        obtain ⟨hK0, hf0⟩ := hK.pop hin
        have hix0 : indexAddrA ED 62 v (.int .i64 0) = some (.rptr [.int .i64 a]) := nat_index hL (k := 0) (by simp)
        have hvl2 : a + 1 ≤ vs.length := by omega
        have hix := index83 (i := 5) (c := N) haN
        have hget := set_getD (vs := vs) (x := a) (by omega)
        have w0 := hrl a haN
        have w1 := hrx a haN
        obtain ⟨w2, w3, w4⟩ := hrc a haN
        have hnl := nbrs_len ke a
        have hws : IntKind.i64.wrap ((s : Int) + 1) = ((s : Int) + 1) := wrap_id (by omega) (by omega)
        generalize vs.getD a .undef = vx at hget w0 w1 w2 w3 w4
        generalize hns : nbrs ke a = ns at *
        simp [vmS, runC_nil, runC_cons, pickC_some, wantC_tt, wantC_tf, effC_val, ifC_true, checkC, inPairs, keepC, okC, readsC_load, readV_some, AV.beq_self, wantA_n, wantA_g, wantD_some, d3, vlocD, hlen, hix0, hb3, hb5, hix, hvl2, hget, w0, w2, w3, w4, hws]
        generalize P.set a 0 = P1 at *
        generalize hc2 : iter _ _ _ _ = c2
        obtain ⟨e2, L2, S2, rfl, hq'⟩ := loop_of hc2
          (fun r2 L S => ∃ j d op q v T sc a14, j + r2 = ns.length ∧ L = vlocD [B, .ptr 0 0, .nils, .ptr 1 0, .rsl 2 0 N N, .ptr 3 0, .ptr 4 0, .undef, .undef, v, a10, a11, .int .i64 ((s : Int) + 1), a14, .fn 93 [] [.ptr 7 0, .ptr 8 0], .undef, .undef, .rsl 6 0 N N, .int .i64 N, a61, vx, .int .i64 ns.length, .int .i64 (j : Nat)] sc [.coll 9] ∧
            Kahn N ke d P1 op q (ns.drop j) a ∧ LiveT S 1 v (nats (a :: q)) T ∧ B34 D N vs S d op)
          (fun e L S => e = .exit 6 ∧ ∃ d op q v T sc a14 a87, L = vlocD [B, .ptr 0 0, .nils, .ptr 1 0, .rsl 2 0 N N, .ptr 3 0, .ptr 4 0, .undef, .undef, v, a10, a11, .int .i64 ((s : Int) + 1), a14, .fn 93 [] [.ptr 7 0, .ptr 8 0], .undef, .undef, .rsl 6 0 N N, .int .i64 N, a61, vx, .int .i64 ns.length, a87] sc [.coll 9] ∧
            Kahn N ke d P1 op q [] a ∧ LiveT S 1 v (nats (a :: q)) T ∧ B34 D N vs S d op)
          ns.length (by omega)
          ⟨0, d, op, q, v, T, _, _, by simp, rfl, by simpa using hK0, hL, hB⟩
          (by
            clear hK hK0 hL hB hb3 hb5 hix0 hlen hget
            rintro r2 L S ⟨j, d, op, q, v, T, sc, a14, hjk, rfl, hK, hL, hB⟩ p'' hq1' hq2'
            have hb2 := hB.c2
            have hb4 := hB.c4
            have hb6 := hB.c6
            by_cases hj : j < ns.length
            · have hwj : IntKind.i64.wrap ((j : Int) + 1) = ((j : Int) + 1) := wrap_id (by omega) (by omega)
              have hdrop : ns.drop j = ns[j] :: ns.drop (j + 1) := by rw [List.drop_eq_getElem_cons hj]
              rw [hdrop] at hK
              have hix := w1 j hj
              generalize ns[j] = y at hK hix
              obtain ⟨hyN, hop0, hKn⟩ := hK.step
              obtain ⟨oy, hoyd⟩ : ∃ oy, oy = op.getD y 0 - 1 := ⟨_, rfl⟩
              rw [← hoyd] at hop0 hKn
              have hdl := hK.dl
              have hol := hK.ol
              have hqnd := hK.qnd
              have hqin := hK.qin
              have hy1 : y + 1 ≤ d.length := by omega
              have ha1 : a + 1 ≤ d.length := by omega
              have hyo1 : y + 1 ≤ op.length := by omega
              have hgy := getD_int (d := d) (y := y) (by omega)
              have hga := getD_int (d := d) (y := a) (by omega)
              have hgo := getD_int (d := op) (y := y) (by omega)
              have hda := hK.high a haN
              have hda0 := hK.low a haN
              have hoy := hK.cnt y hyN
              have hcl : (cntOut ke P1 y + (y :: ns.drop (j + 1)).count y) ≤ 9000 := by
                have h1 : cntOut ke P1 y ≤ ke.length := List.length_filter_le _ _
                have h2 : (y :: ns.drop (j + 1)).count y ≤ (y :: ns.drop (j + 1)).length := List.count_le_length
                simp only [List.length_cons, List.length_drop] at h2
                omega
              have hix0 : indexAddrA ED 62 v (.int .i64 0) = some (.rptr [.int .i64 a]) := nat_index hL (k := 0) (by simp)
              have hwa : IntKind.i64.wrap (d.getD a 0 + 1) = d.getD a 0 + 1 := wrap_id (by omega) (by omega)
              have hwo : IntKind.i64.wrap (op.getD y 0 - 1) = oy := by rw [hoyd]; exact wrap_id (by omega) (by omega)
              have hmx := fold_maxI (d.getD y 0) (d.getD a 0 + 1)
              have hst1 := ints_set d y (max (d.getD y 0) (d.getD a 0 + 1))
              have hst2 := ints_set op y oy
              have hB1 := hB.set2 (d.set y (max (d.getD y 0) (d.getD a 0 + 1)))
              have hB2 := hB1.set6 (op.set y oy)
              have hL1 : LiveT (S.put 2 (.cells (ints (d.set y (max (d.getD y 0) (d.getD a 0 + 1)))))) 1 v (nats (a :: q)) T := hL.put hb2
              have hL2 : LiveT ((S.put 2 (.cells (ints (d.set y (max (d.getD y 0) (d.getD a 0 + 1)))))).put 6 (.cells (ints (op.set y oy)))) 1 v (nats (a :: q)) T := hL1.put hB1.c6
              have hgo1 := getD_int (d := op.set y oy) (y := y) (by simp; omega)
              have hyo2 : y + 1 ≤ (op.set y oy).length := by simp; omega
              rw [getD_set (by omega), if_pos rfl] at hgo1
              generalize max (d.getD y 0) (d.getD a 0 + 1) = mx at *
              generalize d.set y mx = d1 at *
              generalize op.set y oy = op1 at *
              generalize op.getD y 0 = oy0 at *
              generalize d.getD a 0 = da at *
              generalize d.getD y 0 = dy at *
              have m4 := hB1.c4
              have m6 := hB1.c6
              have n4 := hB2.c4
              have n6 := hB2.c6
              by_cases hz : oy = 0
              · have hql : (a :: q).length ≤ 10000 := by
                  have h1 := nodup_len (l := q) (N := N) hqnd (fun i hi => (hqin i hi).1)
                  simp only [List.length_cons]
                  omega
                obtain ⟨v', S', c1, c2, c3, c4⟩ := append_nat y hL2 hql
                obtain ⟨w5, w6, w7⟩ := nat_cell c2
                subst hz
                simp [vmS, runC_nil, runC_cons, pickC_some, wantC_tt, wantC_tf, effC_val, ifC_true, checkC, inPairs, keepC, okC, readsC_load, readV_some, AV.beq_self, wantA_n, wantA_g, wantD_some, d4, vlocD, hj, hix, hb2, hgy, hga, hy1, ha1, hix0, hwa, hmx, hst1, index22 hyN, index22 haN, m4, m6, hgo, hyo1, hwo, hst2, n4, n6, hgo1, hyo2, c1, hwj, w5, w6, w7]
                rw [if_pos rfl] at hKn
                exact hq1' (r2 - 1) _ _ (by omega) ⟨j + 1, d1, op1, q ++ [y], v', some _, _, _, by omega, rfl, hKn, c2, hB2.keep c4 (liveT_getne hL2 hB2.g9 (by simp))⟩
              · simp [vmS, runC_nil, runC_cons, pickC_some, wantC_tt, wantC_tf, effC_val, ifC_true, checkC, inPairs, keepC, okC, readsC_load, readV_some, AV.beq_self, wantA_n, wantA_g, wantD_some, d4, vlocD, hj, hix, hb2, hgy, hga, hy1, ha1, hix0, hwa, hmx, hst1, index22 hyN, index22 haN, m4, m6, hgo, hyo1, hwo, hst2, n4, n6, hgo1, hyo2, hz, hwj]
                rw [if_neg hz] at hKn
                exact hq1' (r2 - 1) _ _ (by omega) ⟨j + 1, d1, op1, q, v, T, _, _, by omega, rfl, hKn, hL2, hB2⟩
            · have hjl : j = ns.length := by omega
              subst hjl
              simp [vmS, vlocD]
              exact hq2' _ _ _ (by simp) ⟨rfl, d, op, q, v, T, _, _, _, rfl, by simpa using hK, hL, hB⟩)
        obtain ⟨rfl, d', op', q', v', T', sc', a14', a87', rfl, hK', hL', hB'⟩ := hq'
        obtain ⟨v2, hs2, hl2⟩ := live_tail hL'
        simp [vmS, vlocD, hs2]
        exact hq1 (r - 1) _ _ (by omega) ⟨d', P1, op', q', a, s + 1, v2, T', _, _, _, _, _, by omega, by omega, rfl, hK', hl2, hB'⟩)
  obtain ⟨rfl, d, P, op, a, s, v, sc, a14, a85, a86, a87, hs, rfl, hK, hB⟩ := hq
  have hb9 := hB.g9
  have hb1 := hB.c1
  have uN := fun (n : Nat) (S : St) (b : Bool) => need_use (cs := csD) (by funext a; rfl) (n := n) (b := b) (S := S)
  by_cases hf : fresh P = 0
  · have hsN : s = N := by omega
    subst hsN
    have uN1 := fun (n : Nat) (S : St) => uN n S true
    simp [vmS, vlocD, hb9, hb1, uN1]
    rw [ho d (hK.done hf hin)] at hp
    refine hp _ _ (melt_at ?_ hK.dl)
    rw [cells?_put_ne _ _ _ (by decide)]
    exact hB.c2
  · have hsN : ¬ (s : Int) = (N : Int) := by omega
    have uN1 := fun (n : Nat) (S : St) => uN n S false
    simp only [Bool.false_eq_true, if_false] at uN1
    simp [vmS, vlocD, hb9, hb1, hsN, uN1, stepE_pan', contR_pan, outC_pan, thenC_pan]
    rw [ho2 (hK.stuck hf hin)] at hp
    exact hp _ _ rfl

theorem level_use {cs : List Con} (h : sumOf cs 43 = levelC.look) {n : Nat} {v : RV} {S : St} (hv : graphDom v) : callS ED (sumOf cs) n (.fn 43) [v.enc] S = some (graphR (gN v) slcI (levelOut (gN v).toNat (gE v)), S) := rv_use h hv

end Go.Proofs.YtpjcmiaanjcanaaGreatDoor

namespace Go.Proofs.YtpjcmiaanjcanaaGreatDoor
open Go Go.Vm Go.Vm.T
set_option maxRecDepth 100000
set_option linter.unusedSimpArgs false
set_option linter.unusedVariables false
attribute [local simp] inFrame startLoc startVals Loc.clear blockC Loc.putO Loc.put idx evO constV Loc.get Vm.look intA unwindA resultsA resultV actA pureA storeA loadA fillE repElems TI.zeroV fieldOf fieldAddrA fieldA elemsA retE cellsOf? setCells nowhere

set_option maxHeartbeats 4000000

def stepRow (l : List Int) : Option Int → Int × Int → Option Int
  | none, _ => none
  | some s, e => if inN l.length e.1 then some (wordZ (IntKind.i64.wrap (s + wordZ (IntKind.i64.wrap (e.2 * l.getD e.1.toNat 0))))) else none
def sumRow (l : List Int) (row : List (Int × Int)) : Option Int := row.foldl (stepRow l) (some 0)
def stepT (l : List Int) : Option (List Int) → List (Int × Int) → Option (List Int)
  | none, _ => none
  | some zs, r => (sumRow l r).map fun s => zs ++ [s]
def timesL (rs : List (List (Int × Int))) (l : List Int) : Option (List Int) := rs.foldl (stepT l) (some [])
theorem fold_none {α β : Type} {f : Option α → β → Option α} (hf : ∀ b, f none b = none) : ∀ l : List β, l.foldl f none = none
  | [] => rfl
  | b :: l => by rw [List.foldl_cons, hf, fold_none hf l]
theorem fold_take {α β : Type} {f : Option α → β → Option α} (hf : ∀ b, f none b = none) {l : List β} {a : Option α} {j : Nat} (h : (l.take j).foldl f a = none) : l.foldl f a = none := by
  rw [← List.take_append_drop j l, List.foldl_append, h, fold_none hf]
theorem fold_succ {α β : Type} {f : α → β → α} {l : List β} {a : α} {j : Nat} (h : j < l.length) : (l.take (j + 1)).foldl f a = f ((l.take j).foldl f a) l[j] := by
  rw [List.take_add_one, List.getElem?_eq_getElem h, List.foldl_append]
  rfl
theorem timesL_len {rs : List (List (Int × Int))} {l zs : List Int} (h : timesL rs l = some zs) : zs.length = rs.length := by
  suffices hg : ∀ (rs : List (List (Int × Int))) (a zs : List Int), rs.foldl (stepT l) (some a) = some zs → zs.length = a.length + rs.length by
    simpa using hg rs [] zs h
  intro rs
  induction rs with
  | nil => intro a zs h; cases h; simp
  | cons r rs ih =>
    intro a zs h
    rw [List.foldl_cons] at h
    cases hs : sumRow l r with
    | none => rw [show stepT l (some a) r = none from by simp [stepT, hs], fold_none (fun _ => rfl)] at h; cases h
    | some z =>
      rw [show stepT l (some a) r = some (a ++ [z]) from by simp [stepT, hs]] at h
      have := ih _ _ h
      simp at this ⊢
      omega

structure TimesX where
  rs : List (List (Int × Int))
  l : List Int
def RowsOk (rs : List (List (Int × Int))) : Prop := rs.length ≤ 4096 ∧ ∀ r ∈ rs, r.length ≤ 4096
def timesC : Con where
  f := 72
  X := TimesX
  dom x := RowsOk x.rs
  enc x := [rowsA x.rs, lstI x.l]
  res x := optR lstI (timesL x.rs x.l)

theorem lstI_index {zs : List Int} {j : Nat} (h : j < zs.length) : indexAddrA ED 62 (lstI zs) (.int .i64 j) = some (.rptr [.int .i64 zs[j]]) := (lstI_D zs).index h
theorem lstI_len {zs : List Int} : lenA ED 62 (lstI zs) = some (.int .i64 zs.length) := (lstI_D zs).len

theorem rowAs_get {rs : List (List (Int × Int))} {j : Nat} (h : j < rs.length) : indexAddrA ED 102 (lst (rs.map rowA)) (.int .i64 j) = some (.rptr [rowA rs[j]]) := by
  cases rs with
  | nil => simp at h
  | cons a r =>
    have e : (rowA a :: r.map rowA)[j]? = some (rowA (a :: r)[j]) := by
      rw [show rowA a :: r.map rowA = (a :: r).map rowA from rfl, List.getElem?_map, List.getElem?_eq_getElem h]
      rfl
    simp only [List.map_cons, lst, indexAddrA, ED_desc102, ED_size88, Int.toNat_natCast]
    have h1 : (0 : Int) ≤ (j : Int) ∧ (j : Int) < ((rowA a :: r.map rowA).length : Nat) := by
      simp only [List.length_cons, List.length_map] at h ⊢
      omega
    rw [if_pos h1, e]
    simp [(rowA_cell _).2.2]
theorem len87 {rs : List AV} : lenA ED 102 (lst rs) = some (.int .i64 rs.length) := by cases rs <;> rfl

theorem times_ok : timesC.Ok Tryz.prog ED := by
  refine Con.ok_at ED_ok ED_pers [needC, wrapC 94] (by simpa using ⟨need_ok, wrapped_ok⟩) (fun (x : TimesX) _ => ⟨by show AV.persL [rowsA x.rs, lstI x.l] = true; simp [AV.persL, rowsA_pers, lstI_pers], optR_lst _⟩) ?_
  rintro ⟨rs, l⟩ ⟨h1, h2⟩
  replace h1 : rs.length ≤ 4096 := h1
  replace h2 : ∀ r ∈ rs, r.length ≤ 4096 := h2
  show ∃ n, ∀ p : FRes → St → Prop, (∀ r S', r.melt S' = optR lstI (timesL rs l) → p r S') → GotF (callS ED (sumOf [needC, wrapC 94]) n (.fn 72) [rowsA rs, lstI l] S0) p
  refine ⟨5000, fun p hp => ?_⟩
  rw [callS_fn rfl]
  have d0 := @dr72_0
  simp only [drA, drawsOf, Option.getD_some, List.nil_append, List.append_nil, List.getD_cons_zero, List.getD_cons_succ, List.cons_append, Tryz.f72] at d0
  have uN := fun (n : Nat) (b : Bool) (S : St) => need_use (cs := [needC, wrapC 94]) rfl (n := n) (b := b) (S := S)
  have uW := fun (n : Nat) (a : Int) (S : St) => wrapped_use (cs := [needC, wrapC 94]) (by funext a; rfl) (n := n) (a := a) (S := S)
  have hll : lenA ED 62 (lstI l) = some (.int .i64 l.length) := lstI_len
  have hli := fun (j : Nat) (hj : j < l.length) => lstI_index hj
  have hlR : lenA ED 102 (rowsA rs) = some (.int .i64 rs.length) := by rw [rowsA, len87]; simp
  have hRi := fun (j : Nat) (hj : j < rs.length) => rowAs_get hj
  change ∀ j hj, indexAddrA ED 102 (rowsA rs) _ = _ at hRi
  generalize lstI l = V at *
  generalize rowsA rs = R at *
  simp only [fnA, ED_fn72, fi72, Tryz.f72]
  simp [vmS, hlR]
  generalize hc : iter _ _ _ _ = c
  obtain ⟨e1, L1, S1, rfl, hq⟩ := loop_of hc
    (fun r L S => ∃ j sc a7 a8 a10 a17 a18 a19 v T zs, j + r = rs.length ∧ L = vloc [R, V, .nils, v, a7, a8, a10, R, .int .i64 rs.length, .int .i64 (j : Nat), a17, a18, a19] sc ∧ timesL (rs.take j) l = some zs ∧ LiveT S 1 v (ints zs) T ∧ (ints zs = [] → v = .nils))
    (fun e L S => (e = .pan trapV ∧ timesL rs l = none ∧ ∃ vs sc, L = vloc vs sc) ∨ e = .exit 0 ∧ ∃ sc a7 a8 a10 a13 a17 a18 a19 v T zs, L = vloc [R, V, .nils, v, a7, a8, a10, R, .int .i64 rs.length, a13, a17, a18, a19] sc ∧ timesL rs l = some zs ∧ LiveT S 1 v (ints zs) T ∧ (ints zs = [] → v = .nils))
    rs.length (by omega)
    ⟨0, _, _, _, _, _, _, _, .nils, none, [], by simp, rfl, rfl, .inl ⟨rfl, by simp [ints]⟩, by simp⟩
    (by
      rintro r L S ⟨j, sc, a7, a8, a10, a17, a18, a19, v, T, zs, hjk, rfl, hz, hl, hn⟩ q hq1 hq2
      by_cases hj : j < rs.length
      · have hw : IntKind.i64.wrap ((j : Int) + 1) = ((j : Int) + 1) := wrap_id (by omega) (by omega)
        have hix := hRi j hj
        have hrl := h2 rs[j] (List.getElem_mem hj)
        have hzl : zs.length ≤ 10000 := by have := timesL_len hz; simp at this; omega
        have e1 : timesL (rs.take (j + 1)) l = (sumRow l rs[j]).map fun s => zs ++ [s] := by
          unfold timesL at hz ⊢
          rw [fold_succ hj, hz]; rfl
        have e2 : sumRow l rs[j] = none → timesL rs l = none := fun h => by
          rw [h] at e1
          exact fold_take (fun _ => rfl) e1
        generalize rs[j] = row at *
        have hlr : lenA ED 88 (rowA row) = some (.int .i64 row.length) := by unfold rowA; rw [len73]; simp
        have hri := fun (k : Nat) (hk : k < row.length) => duoAs_get hk
        change ∀ k hk, indexAddrA ED 88 (rowA row) _ = _ at hri
        simp [vmS, vloc, hj, hix, hlr]
        generalize hc2 : iter _ _ _ _ = c2
        obtain ⟨e2', L2, S2, rfl, hq'⟩ := loop_of hc2
          (fun r2 L S => ∃ k sc a10 s, k + r2 = row.length ∧ L = vloc [R, V, .nils, v, rowA row, .int .i64 s, a10, R, .int .i64 rs.length, .int .i64 (j : Nat), rowA row, .int .i64 row.length, .int .i64 (k : Nat)] sc ∧ sumRow l (row.take k) = some s ∧ LiveT S 1 v (ints zs) T)
          (fun e L S => (e = .pan trapV ∧ sumRow l row = none ∧ ∃ vs sc, L = vloc vs sc) ∨ e = .exit 2 ∧ ∃ sc a10 a19 s, L = vloc [R, V, .nils, v, rowA row, .int .i64 s, a10, R, .int .i64 rs.length, .int .i64 (j : Nat), rowA row, .int .i64 row.length, a19] sc ∧ sumRow l row = some s ∧ LiveT S 1 v (ints zs) T)
          row.length (by omega)
          ⟨0, _, _, 0, by simp, rfl, rfl, hl⟩
          (by
            rintro r2 L S ⟨k, sc, a10, s0, hkk, rfl, hs0, hl⟩ q' hq1' hq2'
            by_cases hk : k < row.length
            · have hw' : IntKind.i64.wrap ((k : Int) + 1) = ((k : Int) + 1) := wrap_id (by omega) (by omega)
              have hx := hri k hk
              have hsum : sumRow l (row.take (k + 1)) = stepRow l (some s0) row[k] := by
                unfold sumRow at hs0 ⊢
                rw [fold_succ hk, hs0]
              have hnone : stepRow l (some s0) row[k] = none → sumRow l row = none := fun h => by
                rw [h] at hsum
                exact fold_take (fun _ => rfl) hsum
              simp only [stepRow] at hsum hnone
              generalize row[k].1 = x at *
              generalize row[k].2 = y at *
              by_cases hin : inN l.length x = true
              · obtain ⟨p0, p1⟩ := inN_t.1 hin
                rw [if_pos hin] at hsum
                obtain ⟨x, rfl⟩ := Int.eq_ofNat_of_zero_le p0
                have hxl : x < l.length := by omega
                have hli' := hli x hxl
                have hget : l.getD (x : Int).toNat 0 = l[x] := by simp [List.getD_eq_getElem?_getD, hxl]
                rw [hget] at hsum
                generalize l[x] = z at *
                simp [vmS, runC_nil, runC_cons, pickC_some, wantC_tt, wantC_tf, effC_val, ifC_true, checkC, inPairs, keepC, okC, readsC_load, readV_some, AV.beq_self, wantA_n, wantA_g, wantD_some, d0, vloc, hk, hx, hll, hxl, uN, hli', uW, hw']
                refine hq1' (r2 - 1) _ _ (by omega) ⟨k + 1, _, _, _, by omega, rfl, hsum, ?_⟩
                refine hl.keep (U := none) ⟨by rw [n_put', n_push']; omega, fun i o _ h => ?_, fun i cs h => cells_box h⟩ (fun _ _ => by simp)
                rw [St.get_put_ne _ _ _ (by have := St.get_lt h; omega)]
                exact St.get_push_of S _ h
              · have hno := hnone (by rw [if_neg hin])
                by_cases x0 : 0 ≤ x
                · have xN : ¬ x < (l.length : Int) := fun h => hin (inN_t.2 ⟨x0, h⟩)
                  simp [vmS, vloc, hk, hx, hll, x0, xN, uN, stepE_pan]
                  exact hq2' _ _ _ (by simp) (.inl ⟨rfl, hno, _, _, rfl⟩)
                · simp [vmS, vloc, hk, hx, hll, x0, uN, stepE_pan]
                  exact hq2' _ _ _ (by simp) (.inl ⟨rfl, hno, _, _, rfl⟩)
            · have hkl : k = row.length := by omega
              subst hkl
              simp [vmS, vloc]
              refine hq2' _ _ _ (by simp) (.inr ⟨rfl, _, a10, _, s0, rfl, by simpa using hs0, hl⟩))
        rcases hq' with ⟨rfl, hno, vs, sc', rfl⟩ | ⟨rfl, sc', a10', a19', s, rfl, hs, hl2⟩
        · simp [vmS, vloc]
          exact hq2 _ _ _ (by simp) (.inl ⟨rfl, e2 hno, _, _, rfl⟩)
        rw [hs] at e1
        obtain ⟨v', S', ha, hl', hn', hk⟩ := append_int s hl2 hzl
        simp [vmS, vloc, ha, hw]
        refine hq1 (r - 1) _ _ (by omega) ⟨j + 1, _, _, _, _, _, _, _, v', some S2.n, zs ++ [s], by omega, rfl, e1, hl', ?_⟩
        intro h
        have := congrArg List.length h
        simp at this
      · have hjl : j = rs.length := by omega
        subst hjl
        simp [vmS, vloc]
        refine hq2 _ _ _ (by simp) (.inr ⟨rfl, _, a7, a8, a10, _, a17, a18, a19, v, T, zs, rfl, by simpa using hz, hl, hn⟩))
  rcases hq with ⟨rfl, hno, vs, sc, rfl⟩ | ⟨rfl, sc, a7, a8, a10, a13, a17, a18, a19, v, T, zs, rfl, hz, hl, hn⟩
  · rw [hno] at hp
    simp [vmS, vloc]
    exact hp _ _ rfl
  rw [hz] at hp
  simp [vmS, vloc]
  refine hp _ _ ?_
  have hd := dead_lst hl hn (ints_pers _)
  rcases hl.cases with ⟨rfl, h2⟩ | ⟨tk, rfl⟩
  · simp only [FRes.melt, AV.melt, hd, lstI, optR]
  · simp only [FRes.melt, AV.melt, hd, lstI, optR]

theorem lst_inj {a b : List AV} (h : lst a = lst b) : a = b := by
  cases a <;> cases b <;> simp_all [lst]

theorem rowA_inj {a b : List (Int × Int)} (h : rowA a = rowA b) : a = b := duoAs_inj (lst_inj h)
theorem rowAs_inj {a b : List (List (Int × Int))} (h : lst (a.map rowA) = lst (b.map rowA)) : a = b := by
  have h1 := lst_inj h
  clear h
  induction a generalizing b with
  | nil => cases b with
    | nil => rfl
    | cons y b => simp at h1
  | cons x a ih => cases b with
    | nil => simp at h1
    | cons y b =>
      simp only [List.map_cons, List.cons.injEq] at h1
      rw [rowA_inj h1.1, ih h1.2]
theorem lstI_inj {a b : List Int} (h : lstI a = lstI b) : a = b := ints_inj (lst_inj h)

theorem times_use {cs : List Con} (h : sumOf cs 72 = timesC.look) {n : Nat} {rs : List (List (Int × Int))} {l : List Int} {S : St} (hok : RowsOk rs) :
    callS ED (sumOf cs) n (.fn 72) [rowsA rs, lstI l] S = some (optR lstI (timesL rs l), S) :=
  Con.use (c := timesC) (fun (x y : TimesX) hx hy h => by
    obtain ⟨a, b⟩ := x
    obtain ⟨c, d⟩ := y
    have h' : [rowsA a, lstI b] = [rowsA c, lstI d] := h
    simp only [List.cons.injEq, and_true] at h'
    rw [rowAs_inj h'.1, lstI_inj h'.2]) h ⟨rs, l⟩ hok (by show [(rowsA rs).dead, (lstI l).dead] = [rowsA rs, lstI l]; rw [dead_of_pers _ (rowsA_pers rs), lstI_dead])

/-! spmv -/
theorem lstI_melt (zs : List Int) (S : St) : (lstI zs).melt S = lstI zs := melt_pers (lstI_pers zs) S
theorem RV.rowsOk.rows {v : RV} (h : v.rowsOk) : RowsOk v.rows := by
  refine ⟨by simpa [RV.rows] using h.1, fun r hr => ?_⟩
  obtain ⟨k, hk, rfl⟩ := List.mem_map.1 hr
  simpa [RV.duos] using (h.2 k hk).1

def sRows (v : RV) : List (List (Int × Int)) := (v.kids.getD 0 dflt).rows
def sWds (v : RV) : List Int := (v.kids.getD 1 dflt).wds
def spmvDom (v : RV) : Prop := v.has2 ∧ (v.kids.getD 0 dflt).rowsOk ∧ (v.kids.getD 1 dflt).kids.length ≤ 4096
def spmvC : Con := rvC 45 spmvDom fun v => optR lstI (timesL (sRows v) (sWds v))
def csS : List Con := [sideC 67 0, sideC 68 1, rowsC, wordsC2, timesC]
theorem csS_ok : ∀ d ∈ csS, d.Ok Tryz.prog ED := by simpa [csS] using ⟨first_ok, second_ok, rows_ok, words2_ok, times_ok⟩

theorem spmv_ok : spmvC.Ok Tryz.prog ED := by
  refine Con.ok_at ED_ok ED_pers csS csS_ok (fun (v : RV) _ => ⟨rv_pers v, optR_lst _⟩) ?_
  intro (v : RV) hv
  obtain ⟨hv2, hro, hwo⟩ := (hv : spmvDom v)
  show ∃ n, ∀ p : FRes → St → Prop, (∀ r S', r.melt S' = optR lstI (timesL (sRows v) (sWds v)) → p r S') → GotF (callS ED (sumOf csS) n (.fn 45) [v.enc] S0) p
  refine ⟨1, fun p hp => ?_⟩
  have d0 := @dr45_0
  simp only [drA, drawsOf, Option.getD_some, List.nil_append, List.append_nil, List.getD_cons_zero, List.getD_cons_succ, List.cons_append, Tryz.f45] at d0
  rw [callS_fn rfl]
  have f1 := fun (n : Nat) (S : St) => side_use (cs := csS) (f := 67) (i := 0) rfl (n := n) (S := S) hv2
  have s1 := fun (n : Nat) (S : St) => side_use (cs := csS) (f := 68) (i := 1) (by funext a; rfl) (n := n) (S := S) hv2
  have hr := fun (n : Nat) (S : St) => rv_use (cs := csS) (f := 73) (dom := RV.rowsOk) (res := fun v => .ret (rowsA v.rows)) (by funext a; rfl) (n := n) (S := S) hro
  have hw := fun (n : Nat) (S : St) => rv_use (cs := csS) (f := 74) (dom := fun v => v.kids.length ≤ 4096) (res := fun v => .ret (lstI v.wds)) (by funext a; rfl) (n := n) (S := S) hwo
  have ht := fun (n : Nat) (S : St) => times_use (cs := csS) (by funext a; rfl) (n := n) (S := S) (l := sWds v) hro.rows
  change ∀ n S, _ = some (FRes.ret (rowsA (sRows v)), S) at hr
  change ∀ n S, _ = some (FRes.ret (lstI (sWds v)), S) at hw
  change ∀ n S, _ = some (optR lstI (timesL (sRows v) (sWds v)), S) at ht
  rw [show (v.kids.getD 0 dflt).rows = sRows v from rfl] at ht
  have e := v.look
  obtain ⟨c1, c2, c3⟩ := v.cell
  have x0 := (v.kids.getD 0 dflt).look
  obtain ⟨x1, x2, x3⟩ := (v.kids.getD 0 dflt).cell
  have y0 := (v.kids.getD 1 dflt).look
  obtain ⟨y1, y2, y3⟩ := (v.kids.getD 1 dflt).cell
  rw [x0] at f1 hr
  rw [y0] at s1 hw
  rw [e] at f1 s1 ⊢
  have hR := dead_of_pers _ (rowsA_pers (sRows v))
  generalize sRows v = rs at *
  generalize sWds v = ws at *
  generalize v.lst = A at *
  generalize (v.kids.getD 0 dflt).num = n0 at *
  generalize (v.kids.getD 0 dflt).kind = k0 at *
  generalize (v.kids.getD 0 dflt).lst = A0 at *
  generalize (v.kids.getD 1 dflt).num = n1 at *
  generalize (v.kids.getD 1 dflt).kind = k1 at *
  generalize (v.kids.getD 1 dflt).lst = A1 at *
  simp only [fnA, ED_fn45, fi45, Tryz.f45]
  cases ho : timesL rs ws with
  | none =>
    rw [ho] at hp ht
    simp only [optR] at hp ht
    simp [vmS, runC_nil, runC_cons, pickC_some, wantC_tt, wantC_tf, effC_val, ifC_true, checkC, inPairs, keepC, okC, readsC_load, readV_some, AV.beq_self, wantA_n, wantA_g, wantD_some, d0, f1, s1, hr, hw, ht, c1, c2, x1, x2, y1, y2, effC_pan]
    exact hp _ _ rfl
  | some zs =>
    rw [ho] at hp ht
    simp only [optR] at hp ht
    simp [vmS, runC_nil, runC_cons, pickC_some, wantC_tt, wantC_tf, effC_val, ifC_true, checkC, inPairs, keepC, okC, readsC_load, readV_some, AV.beq_self, wantA_n, wantA_g, wantD_some, d0, f1, s1, hr, hw, ht, c1, c2, x1, x2, y1, y2]
    exact hp _ _ (congrArg FRes.ret (lstI_melt _ _))
theorem spmv_use {cs : List Con} (h : sumOf cs 45 = spmvC.look) {n : Nat} {v : RV} {S : St} (hv : spmvDom v) : callS ED (sumOf cs) n (.fn 45) [v.enc] S = some (optR lstI (timesL (sRows v) (sWds v)), S) := rv_use h hv

end Go.Proofs.YtpjcmiaanjcanaaGreatDoor

namespace Go.Proofs.YtpjcmiaanjcanaaGreatDoor
open Go Go.Vm Go.Vm.T
set_option maxRecDepth 100000
set_option linter.unusedSimpArgs false
set_option linter.unusedVariables false
attribute [local simp] inFrame startLoc startVals Loc.clear blockC Loc.putO Loc.put idx evO constV Loc.get Vm.look intA unwindA resultsA resultV actA pureA storeA loadA fillE repElems TI.zeroV fieldOf fieldAddrA fieldA elemsA retE cellsOf? setCells nowhere

set_option maxHeartbeats 4000000

def walkF (rs : List (List (Int × Int))) : Nat → List Int → Option (List Int)
  | 0, l => some l
  | n + 1, l => match timesL rs l with
    | some m => walkF rs n m
    | none => none
def walkOut (n : Int) (rs : List (List (Int × Int))) (l : List Int) : Option (List Int) := if n ≤ 30 then walkF rs n.toNat l else none
theorem walkF_succ {rs : List (List (Int × Int))} {n : Nat} {l m : List Int} (h : timesL rs l = some m) : walkF rs (n + 1) l = walkF rs n m := by simp only [walkF, h]
theorem walkF_none {rs : List (List (Int × Int))} {n : Nat} {l : List Int} (h : timesL rs l = none) : walkF rs (n + 1) l = none := by simp only [walkF, h]

theorem max_zeroI (n : Int) : foldA (maxA .max) (.int .i64 0) [.int .i64 n] = some (.int .i64 (n.toNat : Nat)) := by
  simp only [foldA, maxA, Option.some.injEq, AV.int.injEq, true_and]
  split <;> omega

def wRows (v : RV) : List (List (Int × Int)) := ((v.kids.getD 1 dflt).kids.getD 0 dflt).rows
def wWds (v : RV) : List Int := ((v.kids.getD 1 dflt).kids.getD 1 dflt).wds
def walkDom (v : RV) : Prop := v.has2 ∧ (v.kids.getD 1 dflt).has2 ∧ ((v.kids.getD 1 dflt).kids.getD 0 dflt).rowsOk ∧ ((v.kids.getD 1 dflt).kids.getD 1 dflt).kids.length ≤ 4096
def walkC : Con := rvC 46 walkDom fun v => optR lstI (walkOut (gN v) (wRows v) (wWds v))
def csW : List Con := [sideC 67 0, sideC 68 1, needC, rowsC, wordsC2, timesC]
theorem csW_ok : ∀ d ∈ csW, d.Ok Tryz.prog ED := by simpa [csW] using ⟨first_ok, second_ok, need_ok, rows_ok, words2_ok, times_ok⟩

theorem walk_ok : walkC.Ok Tryz.prog ED := by
  refine Con.ok_at ED_ok ED_pers csW csW_ok (fun (v : RV) _ => ⟨rv_pers v, optR_lst _⟩) ?_
  intro (v : RV) hv
  obtain ⟨hv2, hv3, hro, hwo⟩ := (hv : walkDom v)
  show ∃ n, ∀ p : FRes → St → Prop, (∀ r S', r.melt S' = optR lstI (walkOut (gN v) (wRows v) (wWds v)) → p r S') → GotF (callS ED (sumOf csW) n (.fn 46) [v.enc] S0) p
  refine ⟨100, fun p hp => ?_⟩
  have d0 := @dr46_0
  simp only [drA, drawsOf, Option.getD_some, List.nil_append, List.append_nil, List.getD_cons_zero, List.getD_cons_succ, List.cons_append, Tryz.f46] at d0
  rw [callS_fn rfl]
  have f1 := fun (n : Nat) (S : St) => side_use (cs := csW) (f := 67) (i := 0) rfl (n := n) (S := S) hv2
  have s1 := fun (n : Nat) (S : St) => side_use (cs := csW) (f := 68) (i := 1) (by funext a; rfl) (n := n) (S := S) hv2
  have f2 := fun (n : Nat) (S : St) => side_use (cs := csW) (f := 67) (i := 0) rfl (n := n) (S := S) hv3
  have s2 := fun (n : Nat) (S : St) => side_use (cs := csW) (f := 68) (i := 1) (by funext a; rfl) (n := n) (S := S) hv3
  have uN := fun (n : Nat) (b : Bool) (S : St) => need_use (cs := csW) (by funext a; rfl) (n := n) (b := b) (S := S)
  have hr := fun (n : Nat) (S : St) => rv_use (cs := csW) (f := 73) (dom := RV.rowsOk) (res := fun v => .ret (rowsA v.rows)) (by funext a; rfl) (n := n) (S := S) hro
  have hw := fun (n : Nat) (S : St) => rv_use (cs := csW) (f := 74) (dom := fun v => v.kids.length ≤ 4096) (res := fun v => .ret (lstI v.wds)) (by funext a; rfl) (n := n) (S := S) hwo
  have ht := fun (n : Nat) (S : St) (l : List Int) => times_use (cs := csW) (by funext a; rfl) (n := n) (S := S) (l := l) hro.rows
  change ∀ n S, _ = some (FRes.ret (rowsA (wRows v)), S) at hr
  change ∀ n S, _ = some (FRes.ret (lstI (wWds v)), S) at hw
  rw [show ((v.kids.getD 1 dflt).kids.getD 0 dflt).rows = wRows v from rfl] at ht
  unfold gN at hp
  have e := v.look
  obtain ⟨c1, c2, c3⟩ := v.cell
  have e0 := (v.kids.getD 0 dflt).look
  obtain ⟨x1, x2, x3⟩ := (v.kids.getD 0 dflt).cell
  have e1 := (v.kids.getD 1 dflt).look
  obtain ⟨y1, y2, y3⟩ := (v.kids.getD 1 dflt).cell
  have e10 := ((v.kids.getD 1 dflt).kids.getD 0 dflt).look
  obtain ⟨z1, z2, z3⟩ := ((v.kids.getD 1 dflt).kids.getD 0 dflt).cell
  have e11 := ((v.kids.getD 1 dflt).kids.getD 1 dflt).look
  obtain ⟨w1, w2, w3⟩ := ((v.kids.getD 1 dflt).kids.getD 1 dflt).cell
  rw [e0] at f1
  rw [e1] at s1 f2 s2
  rw [e10] at f2 hr
  rw [e11] at s2 hw
  rw [e] at f1 s1 ⊢
  generalize wRows v = rs at *
  generalize wWds v = ws at *
  generalize v.lst = A at *
  generalize v.kind = vk at *
  generalize v.num = vn at *
  generalize ((v.kids.getD 1 dflt).kids.getD 0 dflt).num = n10 at *
  generalize ((v.kids.getD 1 dflt).kids.getD 0 dflt).kind = k10 at *
  generalize ((v.kids.getD 1 dflt).kids.getD 0 dflt).lst = A10 at *
  generalize ((v.kids.getD 1 dflt).kids.getD 1 dflt).num = n11 at *
  generalize ((v.kids.getD 1 dflt).kids.getD 1 dflt).kind = k11 at *
  generalize ((v.kids.getD 1 dflt).kids.getD 1 dflt).lst = A11 at *
  generalize (v.kids.getD 0 dflt).num = nn at *
  generalize (v.kids.getD 0 dflt).kind = k0 at *
  generalize (v.kids.getD 0 dflt).lst = A0 at *
  generalize (v.kids.getD 1 dflt).num = n1 at *
  generalize (v.kids.getD 1 dflt).kind = k1 at *
  generalize (v.kids.getD 1 dflt).lst = A1 at *
  have hp1 : ∀ k z A, partA ED 3 [.int .i64 k, .int .i64 z, A] 1 = some (.int .i64 z) := fun _ _ _ => rfl
  have hmx := max_zeroI nn
  unfold walkOut at hp
  simp only [fnA, ED_fn46, fi46, Tryz.f46]
  by_cases hnn : nn ≤ 30
  rotate_left
  · rw [if_neg hnn] at hp
    simp [vmS, runC_nil, runC_cons, pickC_some, wantC_tt, wantC_tf, effC_val, ifC_true, checkC, inPairs, keepC, okC, readsC_load, readV_some, AV.beq_self, wantA_n, wantA_g, wantD_some, d0, f1, s1, f2, s2, hr, hw, c1, c2, x1, x2, y1, y2, z1, z2, w1, w2, hp1, hnn, uN, stepE_pan]
    exact hp _ _ rfl
  rw [if_pos hnn] at hp
  generalize hNd : nn.toNat = N at *
  simp [vmS, runC_nil, runC_cons, pickC_some, wantC_tt, wantC_tf, effC_val, ifC_true, checkC, inPairs, keepC, okC, readsC_load, readV_some, AV.beq_self, wantA_n, wantA_g, wantD_some, d0, f1, s1, f2, s2, hr, hw, c1, c2, x1, x2, y1, y2, z1, z2, w1, w2, hp1, hnn, uN, hmx]
  generalize hA : AV.agg [AV.int IntKind.i64 vk, AV.int IntKind.i64 vn, A] = B
  have hN30 : N ≤ 30 := by omega
  generalize hc : iter _ _ _ _ = c
  obtain ⟨e1, L1, S1, rfl, hq⟩ := loop_of hc
    (fun r L S => ∃ j l sc, j + r = N ∧ walkF rs r l = walkF rs N ws ∧ L = vloc [B, .ptr 0 0, .nils, .int .i64 nn, lstI l, rowsA rs, .int .i64 N, .int .i64 (j : Nat)] sc)
    (fun e L S => (e = .pan trapV ∧ walkF rs N ws = none ∧ ∃ vs sc, L = vloc vs sc) ∨ e = .exit 0 ∧ ∃ l sc i, walkF rs N ws = some l ∧ L = vloc [B, .ptr 0 0, .nils, .int .i64 nn, lstI l, rowsA rs, .int .i64 N, i] sc)
    N (by omega)
    ⟨0, ws, _, by simp, rfl, rfl⟩
    (by
      rintro r L S ⟨j, l, sc, hjk, hz, rfl⟩ q hq1 hq2
      by_cases hj : j < N
      · have hwr : IntKind.i64.wrap ((j : Int) + 1) = ((j : Int) + 1) := wrap_id (by omega) (by omega)
        have ht' := fun n S => ht n S l
        obtain ⟨r, rfl⟩ : ∃ r', r = r' + 1 := ⟨r - 1, by omega⟩
        cases hto : timesL rs l with
        | none =>
          rw [hto] at ht'
          simp only [optR] at ht'
          rw [walkF_none hto] at hz
          simp [vmS, vloc, hj, ht', stepE_pan]
          exact hq2 _ _ _ (by simp) (.inl ⟨rfl, hz.symm, _, _, rfl⟩)
        | some m =>
          rw [hto] at ht'
          simp only [optR] at ht'
          rw [walkF_succ hto] at hz
          simp [vmS, vloc, hj, ht', hwr]
          exact hq1 r _ _ (by omega) ⟨j + 1, m, _, by omega, hz, rfl⟩
      · have hjl : j = N := by omega
        subst hjl
        have hr0 : r = 0 := by omega
        subst hr0
        simp [vmS, vloc]
        exact hq2 _ _ _ (by simp) (.inr ⟨rfl, l, _, _, hz.symm, rfl⟩))
  rcases hq with ⟨rfl, hno, vs, sc, rfl⟩ | ⟨rfl, l, sc, i, hz, rfl⟩
  · rw [hno] at hp
    simp [vmS, vloc]
    exact hp _ _ rfl
  rw [hz] at hp
  simp [vmS, vloc]
  exact hp _ _ (congrArg FRes.ret (lstI_melt _ _))
theorem walk_use {cs : List Con} (h : sumOf cs 46 = walkC.look) {n : Nat} {v : RV} {S : St} (hv : walkDom v) : callS ED (sumOf cs) n (.fn 46) [v.enc] S = some (optR lstI (walkOut (gN v) (wRows v) (wWds v)), S) := rv_use h hv

end Go.Proofs.YtpjcmiaanjcanaaGreatDoor
