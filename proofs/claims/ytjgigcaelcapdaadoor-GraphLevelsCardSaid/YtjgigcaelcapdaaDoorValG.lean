/-
What the law's own functions return, and the law. No conditions.
-/
import Derived.Test.YtjgigcaelcapdaaDoorValF
import Derived.Test.YtjgigcaelcapdaaDoorExamples
set_option linter.all false

namespace Go.Proofs.YtjgigcaelcapdaaDoor
open Go Go.Vm Go.Vm.T
set_option maxRecDepth 100000
set_option linter.unusedSimpArgs false
set_option linter.unusedVariables false

theorem csD_ok : ∀ d ∈ csD, d.Ok Tryd.prog ED := by simpa [csD] using ⟨first_ok, second_ok, graph_ok, need_ok⟩

def distDom (g : GV) : Prop := ∃ (N start : Nat) (es : List (Int × Int)), g = .pair (.num N) (.pair (.num start) (duosV es)) ∧ 1 ≤ N ∧ N ≤ 1000 ∧ start ≤ N ∧ es.length ≤ 1000 ∧ InGraph N es
def DistP (g : GV) (d : List Int) : Prop :=
  (∀ (N start : Nat) (es : List (Int × Int)), g = .pair (.num N) (.pair (.num start) (duosV es)) → Dist N start es d) ∧ ∃ n r S', callS ED (sumOf csD) n (.fn 33) [g.enc] S0 = some (r, S') ∧ r.melt S' = .ret (lstI d)
open Classical in
noncomputable def distOut (g : GV) : Option (List Int) := if h : ∃ d, DistP g d then some h.choose else none

theorem duosV_inj2 {a b : List (Int × Int)} (h : duosV a = duosV b) : a = b := by
  have := congrArg edgesOf h
  rwa [edgesOf_duos, edgesOf_duos] at this

theorem dist_out {N start : Nat} {es : List (Int × Int)} (hN1 : 1 ≤ N) (hN : N ≤ 1000) (hs : start ≤ N) (hes : es.length ≤ 1000) (hin : InGraph N es) :
    ∃ d, distOut (.pair (.num N) (.pair (.num start) (duosV es))) = some d ∧ DistP (.pair (.num N) (.pair (.num start) (duosV es))) d := by
  obtain ⟨d, h1, h2⟩ := dist_run hN1 hN hs hes hin
  have hex : ∃ d, DistP (.pair (.num N) (.pair (.num start) (duosV es))) d := by
    refine ⟨d, fun N' start' es' e => ?_, h2⟩
    simp only [GV.pair.injEq, GV.num.injEq] at e
    obtain ⟨e1, e2, e3⟩ := e
    have := duosV_inj2 e3
    subst this
    obtain rfl : N = N' := by omega
    obtain rfl : start = start' := by omega
    exact h1
  exact ⟨hex.choose, by unfold distOut; rw [dif_pos hex], hex.choose_spec⟩

theorem dist_ok : (valueC 33 distDom distOut).Ok Tryd.prog ED := by
  refine Con.ok_at ED_ok ED_pers csD csD_ok (fun (g : GV) _ => ⟨by show AV.persL [g.enc] = true; simp [AV.persL, GV.pers], ?_⟩) ?_
  · simp only [valueC]
    cases distOut g with
    | none => rfl
    | some zs => exact lstI_pers zs
  rintro g ⟨N, start, es, rfl, hN1, hN, hs, hes, hin⟩
  obtain ⟨d, h1, h2, n, r, S', h3, h4⟩ := dist_out hN1 hN hs hes hin
  show ∃ n, ∀ p : FRes → St → Prop, (∀ r S', r.melt S' = (match distOut (.pair (.num N) (.pair (.num start) (duosV es))) with | some zs => .ret (lstI zs) | none => .pan trapV) → p r S') → GotF (callS ED (sumOf csD) n (.fn 33) [(GV.pair (.num N) (.pair (.num start) (duosV es))).enc] S0) p
  rw [h1]
  refine ⟨n, fun p hp => ?_⟩
  rw [h3]
  exact hp _ _ h4

noncomputable def distD : Con := defineC nDist tDist distDom distOut
theorem distD_ok : distD.Ok Tryd.prog ED := define_ok headDist (.inr (.inl rfl)) (by decide) (by decide) (by decide) dist_ok

theorem distD_use {cs : List Con} (h : sumOf cs 9 = distD.look) {N start : Nat} {es : List (Int × Int)} (h1 : 1 ≤ N) (h2 : N ≤ 1000) (h3 : start ≤ N) (h4 : es.length ≤ 1000) (h5 : InGraph N es) :
    ∃ d, Dist N start es d ∧ ∀ n S, callS ED (sumOf cs) n (.fn 9) [.str nDist, (GV.pair (.num N) (.pair (.num start) (duosV es))).enc] S = some (.ret (.tup [(nums d).enc, .int .i64 0]), S) := by
  obtain ⟨d, hout, hP⟩ := dist_out h1 h2 h3 h4 h5
  have hd := hP.1 _ _ _ rfl
  refine ⟨d, hd, fun n S => ?_⟩
  obtain ⟨f1, f2, f3⟩ := duos_facts es
  have hw : WordsE es := by
    intro e he
    have := h5 e he
    unfold isWord
    omega
  have := define_use h (n := n) (S := S) (g := .pair (.num N) (.pair (.num start) (duosV es))) ⟨N, start, es, rfl, h1, h2, h3, h4, h5⟩
    ⟨by show isWord (N : Int); unfold isWord; omega, by show isWord (start : Int); unfold isWord; omega, duos_ty hw h4⟩ ⟨trivial, trivial, by simpa using h4, f1⟩
    (by simp only [GV.nodes, duosV, f2]; omega) (by simp only [GV.deep, duosV]; omega) (fun zs hz => by rw [hout] at hz; cases hz; rw [hd.len]; exact h2)
  rw [hout] at this
  exact this

end Go.Proofs.YtjgigcaelcapdaaDoor

namespace Go.Proofs.YtjgigcaelcapdaaDoor
open Go Go.Vm Go.Vm.T
set_option maxRecDepth 100000
set_option linter.unusedSimpArgs false
set_option linter.unusedVariables false

/-! levels -/
structure Level (N : Nat) (es : List (Int × Int)) (d : List Int) : Prop where
  len : d.length = N
  edge : ∀ e ∈ es, d.getD e.1.toNat 0 + 1 ≤ d.getD e.2.toNat 0
  near : ∀ i, i < N → d.getD i 0 = 0 ∨ ∃ e ∈ es, e.2.toNat = i ∧ d.getD i 0 = d.getD e.1.toNat 0 + 1
  low : ∀ i, i < N → 0 ≤ d.getD i 0
  high : ∀ i, i < N → d.getD i 0 ≤ N

/-- nodes none of which can be the first -/
def Stuck (N : Nat) (es : List (Int × Int)) : Prop := ∃ U : Nat → Prop, (∃ i, U i) ∧ ∀ i, U i → i < N ∧ ∃ e ∈ es, e.2.toNat = i ∧ U e.1.toNat

def cntOut (es : List (Int × Int)) (P : List Int) (i : Nat) : Nat := (es.filter fun e => decide (e.2.toNat = i ∧ P.getD e.1.toNat 0 < 0)).length
def inD (es : List (Int × Int)) (i : Nat) : Nat := (es.filter fun e => decide (e.2.toNat = i)).length
def indeg (N : Nat) (es : List (Int × Int)) : List Int := (List.range N).map fun i => (inD es i : Int)

theorem indeg_len (N : Nat) (es : List (Int × Int)) : (indeg N es).length = N := by simp [indeg]
theorem indeg_get {N i : Nat} (es : List (Int × Int)) (h : i < N) : (indeg N es).getD i 0 = inD es i := by simp [indeg, List.getD_eq_getElem?_getD, h]
theorem inD_le (es : List (Int × Int)) (i : Nat) : inD es i ≤ es.length := List.length_filter_le _ _
theorem inD_take {es : List (Int × Int)} {j : Nat} (hj : j < es.length) (i : Nat) : inD (es.take (j + 1)) i = if es[j].2.toNat = i then inD (es.take j) i + 1 else inD (es.take j) i := by
  unfold inD
  rw [List.take_add_one, List.getElem?_eq_getElem hj, List.filter_append, List.length_append]
  simp only [Option.toList_some, List.filter_cons, List.filter_nil]
  split <;> simp_all
theorem indeg_take {N : Nat} {es : List (Int × Int)} {j y : Nat} (hj : j < es.length) (hy : es[j].2.toNat = y) (hyN : y < N) : indeg N (es.take (j + 1)) = (indeg N (es.take j)).set y ((inD (es.take j) y : Int) + 1) := by
  apply List.ext_getElem
  · simp [indeg]
  · intro i h1 h2
    simp only [indeg, List.getElem_map, List.getElem_range, List.getElem_set, inD_take hj, hy]
    by_cases h : y = i
    · subst h; simp
    · simp [h]

theorem cnt_start (es : List (Int × Int)) {N : Nat} (hin : InGraph N es) (i : Nat) : cntOut es (List.replicate N (-1)) i = inD es i := by
  unfold cntOut inD
  congr 1
  apply List.filter_congr
  intro e he
  have := hin e he
  have h2 : (List.replicate N (-1 : Int)).getD e.1.toNat 0 = -1 := by simp [List.getD_eq_getElem?_getD, show e.1.toNat < N by omega]
  rw [h2]
  simp

theorem cnt_cons (e : Int × Int) (r : List (Int × Int)) (P : List Int) (i : Nat) : cntOut (e :: r) P i = (if e.2.toNat = i ∧ P.getD e.1.toNat 0 < 0 then 1 else 0) + cntOut r P i := by
  unfold cntOut
  rw [List.filter_cons]
  by_cases h : e.2.toNat = i ∧ P.getD e.1.toNat 0 < 0
  · rw [decide_eq_true h, if_pos h, if_pos rfl, List.length_cons, Nat.add_comm]
  · rw [decide_eq_false h, if_neg h, if_neg (by decide), Nat.zero_add]

theorem nbr_cons (e : Int × Int) (r : List (Int × Int)) (a i : Nat) : (nbrs (e :: r) a).count i = (if e.2.toNat = i ∧ e.1.toNat = a then 1 else 0) + (nbrs r a).count i := by
  unfold nbrs
  rw [List.filter_cons]
  by_cases h : e.1.toNat = a
  · rw [decide_eq_true h, if_pos rfl, List.map_cons, List.count_cons]
    by_cases h2 : e.2.toNat = i
    · simp [h, h2]; omega
    · simp [h, h2]
  · rw [decide_eq_false h, if_neg (by decide), if_neg (fun k => h k.2), Nat.zero_add]

theorem cnt_pop {P : List Int} {a : Nat} (ha : a < P.length) (hP : P.getD a 0 < 0) (i : Nat) : ∀ es : List (Int × Int), cntOut es P i = cntOut es (P.set a 0) i + (nbrs es a).count i
  | [] => rfl
  | e :: r => by
    have ih := cnt_pop ha hP i r
    have hg := getD_set (d := P) (k := e.1.toNat) (z := 0) ha
    rw [cnt_cons, cnt_cons, nbr_cons, ih, hg]
    by_cases h1 : e.1.toNat = a
    · rw [if_pos h1, h1]
      by_cases h2 : e.2.toNat = i
      · rw [if_pos ⟨h2, hP⟩, if_neg (by omega), if_pos ⟨h2, rfl⟩]; omega
      · rw [if_neg (fun k => h2 k.1), if_neg (fun k => h2 k.1), if_neg (fun k => h2 k.1)]; omega
    · rw [if_neg h1, if_neg (fun k : e.2.toNat = i ∧ e.1.toNat = a => h1 k.2)]; omega

theorem fresh_le (P : List Int) : fresh P ≤ P.length := List.length_filter_le _ _
theorem fresh_zero : ∀ {P : List Int}, fresh P = 0 → ∀ i, i < P.length → 0 ≤ P.getD i 0
  | x :: r, h, i, hi => by
    unfold fresh at h
    rw [List.length_eq_zero_iff, List.filter_eq_nil_iff] at h
    have := h ((x :: r).getD i 0) (by
      rw [List.getD_eq_getElem?_getD, List.getElem?_eq_getElem hi]
      exact List.getElem_mem hi)
    simpa using this
theorem fresh_pos : ∀ {P : List Int}, fresh P ≠ 0 → ∃ i, i < P.length ∧ P.getD i 0 < 0
  | [], h => absurd rfl h
  | x :: r, h => by
    by_cases hx : x < 0
    · exact ⟨0, by simp, by simpa using hx⟩
    · obtain ⟨i, h1, h2⟩ := fresh_pos (P := r) (fun e => h (by unfold fresh at e ⊢; simp only [List.filter_cons, hx, decide_false, Bool.false_eq_true, if_false]; exact e))
      exact ⟨i + 1, by simpa using h1, by simpa using h2⟩

/-- on the way: levels so far, nodes that are done (0) or not (-1), edges that still lead to each, the queue, and what is left of the neighbours of the node at hand -/
structure Kahn (N : Nat) (es : List (Int × Int)) (d P op : List Int) (q rest : List Nat) (a : Nat) : Prop where
  dl : d.length = N
  pl : P.length = N
  ol : op.length = N
  cnt : ∀ i, i < N → op.getD i 0 = (cntOut es P i + rest.count i : Nat)
  zero : ∀ i, i < N → ((0 ≤ P.getD i 0 ∨ i ∈ q) ↔ op.getD i 0 = 0)
  qin : ∀ i ∈ q, i < N ∧ P.getD i 0 < 0
  qnd : q.Nodup
  edge : ∀ e ∈ es, 0 ≤ P.getD e.1.toNat 0 → d.getD e.1.toNat 0 + 1 ≤ d.getD e.2.toNat 0 ∨ (e.1.toNat = a ∧ e.2.toNat ∈ rest)
  near : ∀ i, i < N → d.getD i 0 = 0 ∨ ∃ e ∈ es, e.2.toNat = i ∧ 0 ≤ P.getD e.1.toNat 0 ∧ d.getD i 0 = d.getD e.1.toNat 0 + 1
  low : ∀ i, i < N → 0 ≤ d.getD i 0
  high : ∀ i, i < N → d.getD i 0 + fresh P ≤ N
  cur : rest ≠ [] → a < N ∧ 0 ≤ P.getD a 0 ∧ d.getD a 0 + 1 + fresh P ≤ N
  rin : ∀ y ∈ rest, y < N ∧ ∃ e ∈ es, e.1.toNat = a ∧ e.2.toNat = y

theorem Kahn.start {N : Nat} {es : List (Int × Int)} (hin : InGraph N es) : Kahn N es (List.replicate N 0) (List.replicate N (-1)) (indeg N es) ((List.range N).filter fun i => decide (inD es i = 0)) [] 0 := by
  have hr : ∀ k, k < N → (List.replicate N (-1 : Int)).getD k 0 = -1 := fun k hk => by simp [List.getD_eq_getElem?_getD, hk]
  have h0 : ∀ k, (List.replicate N (0 : Int)).getD k 0 = 0 := fun k => by
    by_cases h : k < N
    · simp [List.getD_eq_getElem?_getD, h]
    · simp [List.getD_eq_getElem?_getD, show N ≤ k by omega]
  refine ⟨by simp, by simp, indeg_len N es, fun i hi => ?_, fun i hi => ?_, fun i hi => ?_, ?_, fun e he hp => ?_, fun i hi => .inl (h0 i), fun i hi => by rw [h0]; exact Int.le_refl 0, fun i hi => by rw [h0, fresh_rep]; omega, by simp, by simp⟩
  · rw [indeg_get es hi, cnt_start es hin]; simp
  · rw [indeg_get es hi, hr i hi]
    simp [hi]
  · have := (List.mem_filter.1 hi).1
    have : i < N := by simpa using this
    exact ⟨this, by rw [hr i this]; omega⟩
  · exact List.Nodup.sublist List.filter_sublist List.nodup_range
  · have := hin e he
    rw [hr _ (by omega)] at hp
    omega

theorem Kahn.pop {N : Nat} {es : List (Int × Int)} {d P op : List Int} {a a0 : Nat} {q : List Nat} (h : Kahn N es d P op (a :: q) [] a0) (hin : InGraph N es) : Kahn N es d (P.set a 0) op q (nbrs es a) a ∧ fresh (P.set a 0) + 1 = fresh P := by
  obtain ⟨haN, haP⟩ := h.qin a (by simp)
  have hal : a < P.length := by rw [h.pl]; exact haN
  have hg := fun k => getD_set (d := P) (k := k) (z := 0) hal
  have hf := fresh_set (d := P) (i := a) (z := 0) hal haP (by omega)
  obtain ⟨hna, hnq⟩ := List.nodup_cons.1 h.qnd
  refine ⟨⟨h.dl, by simp [h.pl], h.ol, fun i hi => ?_, fun i hi => ?_, fun i hi => ?_, hnq, fun e he hp => ?_, fun i hi => ?_, h.low, fun i hi => ?_, fun _ => ⟨haN, ?_, ?_⟩, fun y hy => ?_⟩, hf⟩
  · rw [h.cnt i hi, cnt_pop hal haP i es]; simp
  · rw [← h.zero i hi, hg]
    by_cases e : i = a
    · subst e; simp
    · simp [e]
  · obtain ⟨h1, h2⟩ := h.qin i (by simp [hi])
    refine ⟨h1, ?_⟩
    rw [hg, if_neg (fun e => hna (by rw [← e]; exact hi))]
    exact h2
  · rw [hg] at hp
    by_cases e1 : e.1.toNat = a
    · exact .inr ⟨e1, mem_nbrs.2 ⟨e, he, e1, rfl⟩⟩
    · rw [if_neg e1] at hp
      rcases h.edge e he hp with k | ⟨_, k⟩
      · exact .inl k
      · simp at k
  · rcases h.near i hi with k | ⟨e, k1, k2, k3, k4⟩
    · exact .inl k
    · refine .inr ⟨e, k1, k2, ?_, k4⟩
      rw [hg]
      split
      · omega
      · exact k3
  · have := h.high i hi; omega
  · rw [hg, if_pos rfl]; omega
  · have := h.high a haN; omega
  · obtain ⟨e, h1, h2, h3⟩ := mem_nbrs.1 hy
    have := hin e h1
    exact ⟨by omega, e, h1, h2, h3⟩

theorem Kahn.step {N : Nat} {es : List (Int × Int)} {d P op : List Int} {a y : Nat} {q rest : List Nat} (h : Kahn N es d P op q (y :: rest) a) :
    y < N ∧ 0 ≤ op.getD y 0 - 1 ∧ Kahn N es (d.set y (max (d.getD y 0) (d.getD a 0 + 1))) P (op.set y (op.getD y 0 - 1)) (if op.getD y 0 - 1 = 0 then q ++ [y] else q) rest a := by
  obtain ⟨hyN, e0, he0, ha0, hy0⟩ := h.rin y (by simp)
  obtain ⟨haN, haP, had⟩ := h.cur (by simp)
  have hyd : y < d.length := by rw [h.dl]; exact hyN
  have hyo : y < op.length := by rw [h.ol]; exact hyN
  have hgd := fun k => getD_set (d := d) (k := k) (z := max (d.getD y 0) (d.getD a 0 + 1)) hyd
  have hgo := fun k => getD_set (d := op) (k := k) (z := op.getD y 0 - 1) hyo
  obtain ⟨z, hz⟩ : ∃ z, z = max (d.getD y 0) (d.getD a 0 + 1) := ⟨_, rfl⟩
  rw [← hz] at hgd ⊢
  have hcy := h.cnt y hyN
  have hcy2 : op.getD y 0 ≥ 1 := by rw [hcy, List.count_cons_self]; omega
  have hnz : ¬ (0 ≤ P.getD y 0 ∨ y ∈ q) := fun k => by have := (h.zero y hyN).1 k; omega
  have hyP : P.getD y 0 < 0 := by have := not_or.1 hnz; omega
  have hyq : y ∉ q := (not_or.1 hnz).2
  have hay : a ≠ y := fun e => by subst e; omega
  have hne : ∀ e : Int × Int, 0 ≤ P.getD e.1.toNat 0 → e.1.toNat ≠ y := fun e k k' => by rw [k'] at k; omega
  refine ⟨hyN, by omega, by simp [h.dl], h.pl, by simp [h.ol], fun i hi => ?_, fun i hi => ?_, fun i hi => ?_, ?_, fun e he hp => ?_, fun i hi => ?_, fun i hi => ?_, fun i hi => ?_, fun hr => ⟨haN, haP, ?_⟩, fun z hz => h.rin z (by simp [hz])⟩
  · rw [hgo]
    by_cases e : i = y
    · subst e
      rw [if_pos rfl, hcy, List.count_cons_self]
      omega
    · rw [if_neg e, h.cnt i hi, List.count_cons_of_ne (Ne.symm e)]
  · rw [hgo]
    by_cases e : i = y
    · subst e
      rw [if_pos rfl]
      by_cases hz : op.getD i 0 - 1 = 0
      · rw [if_pos hz]; simp [hz, -List.getD_eq_getElem?_getD]
      · rw [if_neg hz]
        constructor
        · intro k; exact absurd k hnz
        · intro k; exact absurd k hz
    · rw [if_neg e, ← h.zero i hi]
      split
      · simp [e]
      · rfl
  · split at hi
    · rcases List.mem_append.1 hi with hi | hi
      · exact h.qin i hi
      · have := List.mem_singleton.1 hi
        subst this
        exact ⟨hyN, hyP⟩
    · exact h.qin i hi
  · split
    · rw [List.nodup_append]
      refine ⟨h.qnd, by simp, fun x hx z hz => ?_⟩
      have := List.mem_singleton.1 hz
      subst this
      exact fun e => hyq (by rw [← e]; exact hx)
    · exact h.qnd
  · have hn := hne e hp
    rw [hgd, if_neg hn, hgd]
    rcases h.edge e he hp with k | ⟨k1, k2⟩
    · left
      split
      · rename_i e2; rw [e2] at k; omega
      · exact k
    · rcases List.mem_cons.1 k2 with k2 | k2
      · left
        rw [if_pos k2, k1]
        omega
      · exact .inr ⟨k1, k2⟩
  · rw [hgd]
    by_cases e : i = y
    · subst e
      rw [if_pos rfl]
      by_cases hm : d.getD a 0 + 1 ≤ d.getD i 0
      · have hz2 : z = d.getD i 0 := by omega
        rcases h.near i hi with k | ⟨e, k1, k2, k3, k4⟩
        · exact .inl (hz2.trans k)
        · refine .inr ⟨e, k1, k2, k3, ?_⟩
          rw [hgd, if_neg (hne e k3), hz2]
          exact k4
      · have hz2 : z = d.getD a 0 + 1 := by omega
        refine .inr ⟨e0, he0, hy0, by rw [ha0]; exact haP, ?_⟩
        rw [ha0, hgd, if_neg hay]
        exact hz2
    · rw [if_neg e]
      rcases h.near i hi with k | ⟨e, k1, k2, k3, k4⟩
      · exact .inl k
      · refine .inr ⟨e, k1, k2, k3, ?_⟩
        rw [hgd, if_neg (hne e k3)]
        exact k4
  · rw [hgd]
    have := h.low i hi
    split
    · rename_i e; subst e; omega
    · exact this
  · rw [hgd]
    have := h.high i hi
    split
    · rename_i e; subst e; omega
    · exact this
  · rw [hgd, if_neg hay]; exact had

theorem Kahn.done {N : Nat} {es : List (Int × Int)} {d P op : List Int} {a : Nat} (h : Kahn N es d P op [] [] a) (hf : fresh P = 0) (hin : InGraph N es) : Level N es d := by
  have hz := fresh_zero hf
  rw [h.pl] at hz
  refine ⟨h.dl, fun e he => ?_, fun i hi => ?_, h.low, fun i hi => by have := h.high i hi; omega⟩
  · have := hin e he
    rcases h.edge e he (hz _ (by omega)) with k | ⟨_, k⟩
    · exact k
    · simp at k
  · rcases h.near i hi with k | ⟨e, k1, k2, k3, k4⟩
    · exact .inl k
    · exact .inr ⟨e, k1, k2, k4⟩

theorem Kahn.stuck {N : Nat} {es : List (Int × Int)} {d P op : List Int} {a : Nat} (h : Kahn N es d P op [] [] a) (hf : fresh P ≠ 0) (hin : InGraph N es) : Stuck N es := by
  obtain ⟨i0, h1, h2⟩ := fresh_pos hf
  rw [h.pl] at h1
  refine ⟨fun i => i < N ∧ P.getD i 0 < 0, ⟨i0, h1, h2⟩, fun i ⟨hi, hp⟩ => ⟨hi, ?_⟩⟩
  have hz : op.getD i 0 ≠ 0 := fun e => by
    rcases (h.zero i hi).2 e with k | k
    · omega
    · simp at k
  rw [h.cnt i hi] at hz
  have hc : cntOut es P i ≠ 0 := by simpa using hz
  unfold cntOut at hc
  have hc2 := fun k => hc (List.length_eq_zero_iff.2 k)
  obtain ⟨e, he⟩ := List.exists_mem_of_ne_nil _ hc2
  obtain ⟨k1, k2⟩ := List.mem_filter.1 he
  have := hin e k1
  obtain ⟨k3, k4⟩ := of_decide_eq_true k2
  exact ⟨e, k1, k3, by omega, k4⟩

/-- edges that lead from lesser to greater nodes -/
theorem Stuck.not_up {N : Nat} {es : List (Int × Int)} (h : Stuck N es) (hup : ∀ e ∈ es, e.1.toNat < e.2.toNat) : False := by
  obtain ⟨U, ⟨i0, hi0⟩, hU⟩ := h
  have : ∀ i, ¬ U i := by
    intro i
    induction i using Nat.strongRecOn with
    | ind i ih =>
      intro hi
      obtain ⟨_, e, he, h1, h2⟩ := hU i hi
      exact ih _ (by have := hup e he; omega) h2
  exact this i0 hi0

/-- an edge and one back over it -/
theorem Level.no_back {N : Nat} {es : List (Int × Int)} {d : List Int} (h : Level N es d) {e f : Int × Int} (he : e ∈ es) (hf : f ∈ es) (h1 : e.1 = f.2) (h2 : e.2 = f.1) : False := by
  have k1 := h.edge e he
  have k2 := h.edge f hf
  rw [h1, h2] at k1
  omega

end Go.Proofs.YtjgigcaelcapdaaDoor

namespace Go.Proofs.YtjgigcaelcapdaaDoor
open Go Go.Vm Go.Vm.T
set_option maxRecDepth 100000
set_option linter.unusedSimpArgs false
set_option linter.unusedVariables false

set_option maxHeartbeats 4000000

noncomputable def asg34 : Code := (rfA Tryd.f34 0).1
noncomputable def body34 : Code := (rfA Tryd.f34 0).2

noncomputable def loop34 (A : AV) (N : Nat) : ALoop :=
  { state := .ready, pend := none, fid := 34, vals := [A, .ptr 0 0, .nils, .ptr 1 0, .rsl 2 0 N N, .ptr 3 0, .ptr 4 0, .undef, .undef, .undef, .undef, .undef, .undef, .undef, .fn 63 [] [.ptr 7 0, .ptr 8 0], .undef, .undef, .undef, .undef, .undef, .undef, .undef, .undef], params := #[35, 36], asg := asg34, body := body34, dfr := 9 }

/-- what goes on to hold while the edges are gone over -/
structure J34 (A D : AV) (N : Nat) (es : List (Int × Int)) (j : Nat) (S : St) : Prop where
  g10 : S.get 10 = some (.loop (loop34 A N))
  g9 : S.get 9 = some (.dfr false)
  c1 : S.cells? 1 = some [D, .int .i64 N]
  c2 : S.cells? 2 = some (ints (List.replicate N 0))
  c3 : S.cells? 3 = some [.rsl 5 0 N N]
  c4 : S.cells? 4 = some [.rsl 6 0 N N]
  c7 : S.cells? 7 = some [D]
  c8 : S.cells? 8 = some [.int .i64 N]
  c6 : S.cells? 6 = some (ints (indeg N (es.take j)))
  c5 : ∃ vs, S.cells? 5 = some vs ∧ Fam S N vs (nbrs (es.take j))

theorem J34.box {A D : AV} {N : Nat} {es : List (Int × Int)} {j : Nat} {S : St} (h : J34 A D N es j S) (o o' : AO) : J34 A D N es j ((S.push o).put S.n o') := by
  obtain ⟨vs, h5, hf⟩ := h.c5
  exact ⟨get_box h.g10, get_box h.g9, cells_box h.c1, cells_box h.c2, cells_box h.c3, cells_box h.c4, cells_box h.c7, cells_box h.c8, cells_box h.c6, vs, cells_box h5, hf.keep fun i b k => get_box k⟩

theorem round34 {cs : List Con} (h48 : sumOf cs 48 = needC.look) {A D : AV} {N : Nat} {es : List (Int × Int)} {j n : Nat} {S : St} (hj : j < es.length) (hlen : es.length ≤ 1000) (hin : InGraph N es) (h : J34 A D N es j S) :
    ∃ S', callS ED (sumOf cs) (n + 1) (.yld 10) [duoA es[j], .bool true] S = some (.ret (.bool true), S') ∧ J34 A D N es (j + 1) S' := by
  obtain ⟨vs, h5, hf⟩ := h.c5
  obtain ⟨⟨x0, x1⟩, y0, y1⟩ := hin es[j] (List.getElem_mem hj)
  obtain ⟨x, hx⟩ := Int.eq_ofNat_of_zero_le x0
  obtain ⟨y, hy⟩ := Int.eq_ofNat_of_zero_le y0
  have hxN : x < N := by omega
  have hyN : y < N := by omega
  have hvl : x < vs.length := by rw [hf.len]; exact hxN
  have hvl2 : x + 1 ≤ vs.length := hvl
  have d2 := @dr34_2
  simp only [drA, drawsOf, Option.getD_some, List.nil_append, List.append_nil, List.getD_cons_zero, List.getD_cons_succ, List.cons_append, Tryd.f34] at d2
  have uN := fun (n : Nat) (S : St) => need_use (cs := cs) h48 (n := n) (b := true) (S := S)
  have hb := h.box (.cells [.int .i64 0, .int .i64 0]) (.cells [.int .i64 x, .int .i64 y])
  have b8 := cells?_put_push S (.cells [.int .i64 0, .int .i64 0]) [.int .i64 x, .int .i64 y]
  obtain ⟨g10, g9, c1, c2, c3, c4, c7, c8, c6, vs', c5, hf'⟩ := hb
  have hvs : vs' = vs := by
    have := cells_box (o := .cells [.int .i64 0, .int .i64 0]) (o' := .cells [.int .i64 x, .int .i64 y]) h5
    rw [c5] at this
    exact Option.some.inj this
  subst hvs
  have h10lt := St.get_lt h.g10
  have hind := inD_le (es.take j) y
  have hind2 : (es.take j).length ≤ 1000 := by simp; omega
  have hopn : indeg N (es.take (j + 1)) = (indeg N (es.take j)).set y ((inD (es.take j) y : Int) + 1) := indeg_take hj (by omega) hyN
  have hopg : (ints (indeg N (es.take j)))[y]? = some (.int .i64 (inD (es.take j) y : Nat)) := ints_get (by simp [indeg, hyN])
  have hopl : y + 1 ≤ (indeg N (es.take j)).length := by rw [indeg_len]; exact hyN
  have hst := ints_set (indeg N (es.take j)) y ((inD (es.take j) y : Int) + 1)
  rw [← hopn] at hst
  have hwd : IntKind.i64.wrap ((inD (es.take j) y : Int) + 1) = (inD (es.take j) y : Int) + 1 := wrap_id (by omega) (by omega)
  generalize hop1 : indeg N (es.take (j + 1)) = op1 at *
  generalize indeg N (es.take j) = op0 at *
  generalize inD (es.take j) y = dy at *
  generalize hS1 : (S.push (.cells [.int .i64 0, .int .i64 0])).put S.n (.cells [.int .i64 x, .int .i64 y]) = S1 at *
  have busyc : ∀ o k cs', k ≠ 10 → S1.cells? k = some cs' → (S1.put 10 o).cells? k = some cs' := fun o k cs' hk hc => by
    rw [cells?_put_ne _ _ _ hk]; exact hc
  have hfB : ∀ a, Fam (S1.put 10 (.loop a)) N vs' (nbrs (es.take j)) := fun a => hf'.keep fun i b k => by
    rw [get_put_ne (fun e => by subst e; rw [g10] at k; cases k)]; exact k
  have hnl : (nbrs (es.take j) x).length ≤ 10000 := by
    have := nbrs_len (es.take j) x
    omega
  obtain ⟨v', S2, T, k1, k2, k3, k4, k5, k6⟩ := (hfB { loop34 A N with state := .busy }).append y hxN hnl
  have q10 := k3.get 10 _ (k4 10 _ (get_put_self g10) (by simp)) (get_put_self (o' := .loop { loop34 A N with state := .busy }) g10)
  have q9 := k3.get 9 _ (k4 9 _ (by rw [get_put_ne (by decide)]; exact g9) (by simp)) (by rw [get_put_ne (by decide)]; exact g9)
  have e1 := busyc (.loop { loop34 A N with state := .busy }) 1 _ (by decide) c1
  have e2 := busyc (.loop { loop34 A N with state := .busy }) 2 _ (by decide) c2
  have e3 := busyc (.loop { loop34 A N with state := .busy }) 3 _ (by decide) c3
  have e4 := busyc (.loop { loop34 A N with state := .busy }) 4 _ (by decide) c4
  have e5 := busyc (.loop { loop34 A N with state := .busy }) 5 _ (by decide) c5
  have e6 := busyc (.loop { loop34 A N with state := .busy }) 6 _ (by decide) c6
  have e7 := busyc (.loop { loop34 A N with state := .busy }) 7 _ (by decide) c7
  have e8 := busyc (.loop { loop34 A N with state := .busy }) 8 _ (by decide) c8
  have eb := busyc (.loop { loop34 A N with state := .busy }) S.n _ (by omega) b8
  have f3 := k3.cells _ _ e3
  have f4 := k3.cells _ _ e4
  have f5 := k3.cells _ _ e5
  have f6 := k3.cells _ _ e6
  have fb := k3.cells _ _ eb
  have hix := index83 (i := 5) (c := N) hxN
  have hix6 := index22 (i := 6) (c := N) hyN
  have hget := set_getD hvl
  generalize vs'.getD x .undef = vx at hget k1
  have p4 := cells_put (o := .cells (vs'.set x v')) f5 f4 (by decide)
  have p6 := cells_put (o := .cells (vs'.set x v')) f5 f6 (by decide)
  have pb := cells_put (o := .cells (vs'.set x v')) f5 fb (by omega)
  have p55 := cells_put_self (ds := vs'.set x v') f5
  have r10 : ((S2.put 5 (.cells (vs'.set x v'))).put 6 (.cells (ints op1))).get 10 = some (.loop { loop34 A N with state := .busy }) := by rw [get_put_ne (by decide), get_put_ne (by decide)]; exact q10
  refine ⟨((S2.put 5 (.cells (vs'.set x v'))).put 6 (.cells (ints op1))).put 10 (.loop (loop34 A N)), ?_, ?_⟩
  · rw [callS_yld]
    obtain ⟨w1, w2, w3⟩ := k5
    have hasg : evalC ⟨ED, callS ED (sumOf cs) n, iter n, 34, fi34.vars, fi34.fn.ntmps⟩ asg34 { vals := [A, .ptr 0 0, .nils, .ptr 1 0, .rsl 2 0 N N, .ptr 3 0, .ptr 4 0, .undef, .undef, .undef, .undef, .undef, .undef, .undef, .fn 63 [] [.ptr 7 0, .ptr 8 0], .agg [.int .i64 x, .int .i64 y], .bool true, .undef, .undef, .undef, .undef, .undef, .undef], sc := [], defers := [], recs := .no, rnd := some 10 } S =
        some (.normal, { vals := [A, .ptr 0 0, .nils, .ptr 1 0, .rsl 2 0 N N, .ptr 3 0, .ptr 4 0, .ptr S.n 0, .bool true, .undef, .undef, .undef, .undef, .undef, .fn 63 [] [.ptr 7 0, .ptr 8 0], .agg [.int .i64 x, .int .i64 y], .bool true, .undef, .undef, .undef, .undef, .undef, .undef], sc := [], defers := [], recs := .no, rnd := some 10 }, S1) := by
      simp only [asg34, rfA, rangesOf, drA, drawsOf, Option.getD_some, List.nil_append, List.append_nil, List.getD_cons_zero, List.getD_cons_succ, List.cons_append, Tryd.f34, fi34]
      simp [evalC_seq, evalC_region, runA_cons', runA_consN, runA_consG, guardR_true, guardR_false, guardV_bool, guardV_tup, runA_nil', inFrame, startLoc, startVals, Loc.clear, eff_move, eff_assign, eff_binOp, eff_build, eff_buildSlice, eff_alloc, eff_box, eff_store, eff_load, eff_fieldAddr, eff_field, eff_indexAddr, eff_slice, eff_extract, eff_pick, eff_unOp, eff_convert, eff_makeSlice, eff_makeFunc, eff_makeInterface, eff_nilCheck, eff_panic, eff_len1, eff_max2, eff_min2, eff_append2, eff_callV, stepE_val, contR_ok, contR_pan, outC_ok, outC_pan, thenC_normal, thenC_ret, thenC_exit, thenC_pan, blockC, evalC_ret, evalC_skip, evalC_exit, evalC_block, evalC_scope, evalC_loop, Loc.putO, Loc.put, idx, evO, constV, Loc.get, Vm.look, valO_some, bin_int, intA, evalC_cond, condC_true, condC_false, unwindA, resultsA, resultV, actA, pureA, storeA, loadA, fillE, repElems, TI.zeroV, fieldOf, fieldAddrA, fieldA, elemsA, retE, cells?_put_push, push_at, put_at, cellsOf?, Nat.add_assoc, n_push', n_put', isCell_undef, known_undef, cells_undef, isCell_bool, known_bool, cells_bool, isCell_int, known_int, cells_int, isCell_str, known_str, cells_str, isCell_nilp, known_nilp, cells_nilp, isCell_ptr, known_ptr, cells_ptr, isCell_rptr, known_rptr, cells_rptr, isCell_nils, known_nils, cells_nils, isCell_slice, known_slice, cells_slice, isCell_rsl, known_rsl, cells_rsl, isCell_nilm, known_nilm, cells_nilm, isCell_map, known_map, cells_map, isCell_fn, known_fn, cells_fn, isCell_yld, known_yld, cells_yld, isCell_nilf, known_nilf, cells_nilf, isCell_iface, known_iface, cells_iface, isCell_nili, known_nili, cells_nili, isCell_agg, known_agg, cells_agg, isCell_tup, known_tup, cells_tup, setCells, nowhere, GotF_some, Got_some, int_beq, int_bne, hS1]
    have hbody : evalC ⟨ED, callS ED (sumOf cs) n, iter n, 34, fi34.vars, fi34.fn.ntmps⟩ body34 { vals := [A, .ptr 0 0, .nils, .ptr 1 0, .rsl 2 0 N N, .ptr 3 0, .ptr 4 0, .ptr S.n 0, .bool true, .undef, .undef, .undef, .undef, .undef, .fn 63 [] [.ptr 7 0, .ptr 8 0], .agg [.int .i64 x, .int .i64 y], .bool true, .undef, .undef, .undef, .undef, .undef, .undef], sc := [], defers := [], recs := .no, rnd := some 10 } (S1.put 10 (.loop { loop34 A N with state := .busy })) =
        some (.normal, { vals := [A, .ptr 0 0, .nils, .ptr 1 0, .rsl 2 0 N N, .ptr 3 0, .ptr 4 0, .ptr S.n 0, .bool true, .undef, .undef, .undef, .undef, .undef, .fn 63 [] [.ptr 7 0, .ptr 8 0], .agg [.int .i64 x, .int .i64 y], .bool true, .undef, .undef, .undef, .undef, .undef, .undef], sc := [(58, .ptr 6 y), (57, .int .i64 ((dy : Int) + 1)), (56, .int .i64 dy), (55, .ptr 6 y), (54, .int .i64 y), (53, .ptr S.n 1), (52, .rsl 6 0 N N)], defers := [], recs := .no, rnd := some 10 }, (S2.put 5 (.cells (vs'.set x v'))).put 6 (.cells (ints op1))) := by
      generalize S1.put 10 (.loop { loop34 A N with state := .busy }) = SB at *
      simp only [body34, rfA, rangesOf, drA, drawsOf, Option.getD_some, List.nil_append, List.append_nil, List.getD_cons_zero, List.getD_cons_succ, List.cons_append, Tryd.f34, fi34]
      simp [evalC_seq, evalC_region, runA_cons', runA_consN, runA_consG, guardR_true, guardR_false, guardV_bool, guardV_tup, runA_nil', inFrame, startLoc, startVals, Loc.clear, eff_move, eff_assign, eff_binOp, eff_build, eff_buildSlice, eff_alloc, eff_box, eff_store, eff_load, eff_fieldAddr, eff_field, eff_indexAddr, eff_slice, eff_extract, eff_pick, eff_unOp, eff_convert, eff_makeSlice, eff_makeFunc, eff_makeInterface, eff_nilCheck, eff_panic, eff_len1, eff_max2, eff_min2, eff_append2, eff_callV, stepE_val, contR_ok, contR_pan, outC_ok, outC_pan, thenC_normal, thenC_ret, thenC_exit, thenC_pan, blockC, evalC_ret, evalC_skip, evalC_exit, evalC_block, evalC_scope, evalC_loop, Loc.putO, Loc.put, idx, evO, constV, Loc.get, Vm.look, valO_some, bin_int, intA, evalC_cond, condC_true, condC_false, unwindA, resultsA, resultV, actA, pureA, storeA, loadA, fillE, repElems, TI.zeroV, fieldOf, fieldAddrA, fieldA, elemsA, retE, cells?_put_push, push_at, put_at, cellsOf?, Nat.add_assoc, n_push', n_put', isCell_undef, known_undef, cells_undef, isCell_bool, known_bool, cells_bool, isCell_int, known_int, cells_int, isCell_str, known_str, cells_str, isCell_nilp, known_nilp, cells_nilp, isCell_ptr, known_ptr, cells_ptr, isCell_rptr, known_rptr, cells_rptr, isCell_nils, known_nils, cells_nils, isCell_slice, known_slice, cells_slice, isCell_rsl, known_rsl, cells_rsl, isCell_nilm, known_nilm, cells_nilm, isCell_map, known_map, cells_map, isCell_fn, known_fn, cells_fn, isCell_yld, known_yld, cells_yld, isCell_nilf, known_nilf, cells_nilf, isCell_iface, known_iface, cells_iface, isCell_nili, known_nili, cells_nili, isCell_agg, known_agg, cells_agg, isCell_tup, known_tup, cells_tup, setCells, nowhere, GotF_some, Got_some, int_beq, int_bne, runC_nil, runC_cons, pickC_some, wantC_tt, wantC_tf, effC_val, ifC_true, checkC, inPairs, keepC, okC, readsC_load, readV_some, AV.beq_self, wantA_n, wantA_g, wantD_some, d2, e3, e4, e5, e6, eb, uN, hix, hix6, hget, k1, w1, w2, w3, f3, f4, f5, fb, hvl2, p4, p6, pb, hopg, hopl, hwd, hst]
    have hyr := yld_round (E := ED) (call := callS ED (sumOf cs) n) (it := iter n) (l := 10) (args := [duoA es[j], .bool true]) (S := S) (fi := fi34) h.g10 rfl rfl rfl (by rw [show (duoA es[j]) = .agg [.int .i64 x, .int .i64 y] from by simp [duoA, hx, hy]]; exact hasg) g10 rfl hbody rfl r10
    exact hyr
  · have rk : ∀ k cs', k ≠ 5 → k ≠ 6 → S2.cells? k = some cs' → (((S2.put 5 (.cells (vs'.set x v'))).put 6 (.cells (ints op1))).put 10 (.loop (loop34 A N))).cells? k = some cs' := by
      intro k cs' hk hk6 hc
      have hk10 : k ≠ 10 := fun e => by
        subst e
        have := cells?_inv hc
        rw [q10] at this
        cases this
      rw [cells?_put_ne _ _ _ hk10]
      exact cells_put p6 (cells_put f5 hc hk) hk6
    refine ⟨get_put_self (o' := .loop (loop34 A N)) r10, ?_, rk 1 _ (by decide) (by decide) (k3.cells _ _ e1), rk 2 _ (by decide) (by decide) (k3.cells _ _ e2), rk 3 _ (by decide) (by decide) f3, rk 4 _ (by decide) (by decide) f4, rk 7 _ (by decide) (by decide) (k3.cells _ _ e7), rk 8 _ (by decide) (by decide) (k3.cells _ _ e8), ?_, vs'.set x v', ?_, ?_⟩
    · rw [get_put_ne (by decide), get_put_ne (by decide), get_put_ne (by decide)]; exact q9
    · rw [hop1, cells?_put_ne _ _ _ (by decide)]
      exact cells_put_self p6
    · rw [cells?_put_ne _ _ _ (by decide)]; exact cells_put p6 p55 (by decide)
    · have hnb : nbrs (es.take (j + 1)) = fun z => if x = z then nbrs (es.take j) z ++ [y] else nbrs (es.take j) z := by
        funext z
        rw [nbrs_take hj, hx, hy]
        rfl
      rw [hnb]
      refine k6.keep fun i b k => ?_
      rw [get_put_ne (fun e => by subst e; rw [q10] at k; cases k), get_put_ne (fun e => by subst e; rw [cells?_inv f6] at k; cases k), get_put_ne (fun e => by subst e; rw [cells?_inv f5] at k; cases k)]
      exact k

end Go.Proofs.YtjgigcaelcapdaaDoor

namespace Go.Proofs.YtjgigcaelcapdaaDoor
open Go Go.Vm Go.Vm.T
set_option maxRecDepth 100000
set_option linter.unusedSimpArgs false
set_option linter.unusedVariables false

set_option maxHeartbeats 4000000

theorem sub_len {l m : List Nat} (h : l.Nodup) (hs : ∀ i ∈ l, i ∈ m) : l.length ≤ m.length := by
  induction l generalizing m with
  | nil => simp
  | cons a l ih =>
    obtain ⟨h1, h2⟩ := List.nodup_cons.1 h
    have ha := hs a (by simp)
    have := ih (m := m.erase a) h2 (fun i hi => (List.mem_erase_of_ne (fun e => h1 (by rw [← e]; exact hi))).2 (hs i (by simp [hi])))
    rw [List.length_erase_of_mem ha] at this
    have := List.length_pos_of_mem ha
    simp only [List.length_cons]
    omega
theorem nodup_len {l : List Nat} {N : Nat} (h : l.Nodup) (hs : ∀ i ∈ l, i < N) : l.length ≤ N := by
  have := sub_len h (m := List.range N) (fun i hi => by simpa using hs i hi)
  simpa using this

theorem stepE_pan' {vars : List Tmp} {dst : Option Tmp} {L : Vm.Loc} {S S' : St} {v : AV} : stepE vars dst L S (some (.pan v S')) = some (.pan v L S') := rfl

def LevelP (N : Nat) (es : List (Int × Int)) : Option (List Int) → Prop
  | some d => Level N es d
  | none => Stuck N es

def levelRes : Option (List Int) → FRes
  | some d => .ret (lstI d)
  | none => .pan trapV

theorem melt_at {S : St} {i N : Nat} {d : List Int} (h : S.cells? i = some (ints d)) (hl : d.length = N) (hN : 1 ≤ N) : (FRes.ret (.rsl i 0 N N)).melt S = .ret (lstI d) := by
  have hl2 : lst (ints d) = .slice (ints d) .dead := by
    cases d with
    | nil => simp at hl; omega
    | cons a r => rfl
  have htk : (ints d).take N = ints d := List.take_of_length_le (by simp [hl])
  have hall := ints_all d
  simp [FRes.melt, AV.melt, h, hl, lstI, hl2, htk, ints_dead]
  exact hall

theorem fold_maxI (a b : Int) : foldA (maxA .max) (.int .i64 a) [.int .i64 b] = some (.int .i64 (max a b)) := by
  simp only [foldA, maxA, Option.some.injEq, AV.int.injEq, true_and]
  split <;> omega

/-- what holds while nodes are gone over -/
structure B34 (D : AV) (N : Nat) (vs : List AV) (S : St) (d op : List Int) : Prop where
  g9 : S.get 9 = some (.dfr false)
  c1 : S.cells? 1 = some [D, .int .i64 N]
  c2 : S.cells? 2 = some (ints d)
  c3 : S.cells? 3 = some [.rsl 5 0 N N]
  c4 : S.cells? 4 = some [.rsl 6 0 N N]
  c5 : S.cells? 5 = some vs
  c6 : S.cells? 6 = some (ints op)

theorem B34.keep {D : AV} {N : Nat} {vs : List AV} {S S' : St} {d op : List Int} (h : B34 D N vs S d op) {T : Option Nat} (k : Kept T S S') (hT : T ≠ some 9) : B34 D N vs S' d op :=
  ⟨k.get _ _ hT h.g9, k.cells _ _ h.c1, k.cells _ _ h.c2, k.cells _ _ h.c3, k.cells _ _ h.c4, k.cells _ _ h.c5, k.cells _ _ h.c6⟩
theorem B34.set2 {D : AV} {N : Nat} {vs : List AV} {S : St} {d op : List Int} (h : B34 D N vs S d op) (e : List Int) : B34 D N vs (S.put 2 (.cells (ints e))) e op :=
  ⟨by rw [get_put_ne (by decide)]; exact h.g9, cells_put h.c2 h.c1 (by decide), cells_put_self h.c2, cells_put h.c2 h.c3 (by decide), cells_put h.c2 h.c4 (by decide), cells_put h.c2 h.c5 (by decide), cells_put h.c2 h.c6 (by decide)⟩
theorem B34.set6 {D : AV} {N : Nat} {vs : List AV} {S : St} {d op : List Int} (h : B34 D N vs S d op) (e : List Int) : B34 D N vs (S.put 6 (.cells (ints e))) d e :=
  ⟨by rw [get_put_ne (by decide)]; exact h.g9, cells_put h.c6 h.c1 (by decide), cells_put h.c6 h.c2 (by decide), cells_put h.c6 h.c3 (by decide), cells_put h.c6 h.c4 (by decide), cells_put h.c6 h.c5 (by decide), cells_put_self h.c6⟩

theorem getD_int {d : List Int} {y : Nat} (h : y < d.length) : (ints d)[y]? = some (.int .i64 (d.getD y 0)) := ints_get (by simp [List.getD_eq_getElem?_getD, h])

theorem ints_rep (n : Nat) (z : Int) : ints (List.replicate n z) = List.replicate n (.int .i64 z) := by simp [ints]
theorem indeg_nil (N : Nat) : indeg N [] = List.replicate N 0 := by
  apply List.ext_getElem
  · simp [indeg]
  · intro i h1 h2
    simp [indeg, inD]

theorem level_run {N : Nat} {es : List (Int × Int)} (hN1 : 1 ≤ N) (hN : N ≤ 1000) (hes : es.length ≤ 1000) (hin : InGraph N es) :
    ∃ o, LevelP N es o ∧ ∃ n r S', callS ED (sumOf csD) n (.fn 34) [(GV.pair (.num N) (duosV es)).enc] S0 = some (r, S') ∧ r.melt S' = levelRes o := by
  suffices hgot : ∃ n, ∀ p : FRes → St → Prop, (∀ r S' o, LevelP N es o → r.melt S' = levelRes o → p r S') → GotF (callS ED (sumOf csD) n (.fn 34) [(GV.pair (.num N) (duosV es)).enc] S0) p by
    obtain ⟨n, hn⟩ := hgot
    obtain ⟨r, S', h1, d, h2, h3⟩ := gotF_iff.1 (hn (fun r S' => ∃ o, LevelP N es o ∧ r.melt S' = levelRes o) (fun r S' o h1 h2 => ⟨o, h1, h2⟩))
    exact ⟨d, h2, n, r, S', h1, h3⟩
  refine ⟨3000, fun p hp => ?_⟩
  have d0 := @dr34_0
  have d1 := @dr34_1
  simp only [drA, drawsOf, Option.getD_some, List.nil_append, List.append_nil, List.getD_cons_zero, List.getD_cons_succ, List.cons_append, Tryd.f34] at d0 d1
  rw [callS_fn rfl]
  have f1 := fun (n : Nat) (S : St) => side_use (cs := csD) (f := 45) (b := false) rfl (n := n) (S := S) (x := .num N) (y := duosV es)
  have s1 := fun (n : Nat) (S : St) => side_use (cs := csD) (f := 46) (b := true) (by funext a; rfl) (n := n) (S := S) (x := .num N) (y := duosV es)
  have hg := fun (n : Nat) (S : St) => graph_use (cs := csD) (by funext a; rfl) (n := n) (S := S) (m := N) (es := es) (by omega) (by omega) hes
  simp only [Bool.false_eq_true, if_false, if_true] at f1 s1
  obtain ⟨k, z, e⟩ := (duosV es).look
  have hlk := gv_lst (l := (duosV es).kids)
  obtain ⟨hdc, hdk⟩ := duoAs_cell es
  have hdcells : (lst (es.map duoA)).cells = [lst (es.map duoA)] := by cases es <;> rfl
  simp only [GV.enc.eq_2, GV.enc.eq_1, pv, wv, e] at f1 s1 hg ⊢
  generalize lst (GV.encs (duosV es).kids) = y at *
  have hp1 : ∀ z, partA ED 3 [.int .i64 1, .int .i64 z, .nils] 1 = some (.int .i64 z) := fun _ => rfl
  have hroom : (N : Int) * 9 ≤ (roomMost : Nat) := by unfold roomMost; omega
  have hroom2 : (N : Int) * 25 ≤ (roomMost : Nat) := by unfold roomMost; omega
  generalize hD : lst (es.map duoA) = D at *
  have d3 := @dr34_3
  have d4 := @dr34_4
  simp only [drA, drawsOf, Option.getD_some, List.nil_append, List.append_nil, List.getD_cons_zero, List.getD_cons_succ, List.cons_append, Tryd.f34] at d3 d4
  have hall := fun (n : Nat) (S : St) => all49 (cs := csD) rfl (n := n) (D := D) (N := N) (S := S) hdc
  generalize hA : AV.agg [AV.int IntKind.i64 2, AV.int IntKind.i64 0, AV.slice [AV.agg [AV.int IntKind.i64 1, AV.int IntKind.i64 ↑N, AV.nils], AV.agg [AV.int IntKind.i64 k, AV.int IntKind.i64 z, y]] Tk.dead] = A at *
  have hAc : A.cells = [AV.int IntKind.i64 2, AV.int IntKind.i64 0, AV.slice [AV.agg [AV.int IntKind.i64 1, AV.int IntKind.i64 ↑N, AV.nils], AV.agg [AV.int IntKind.i64 k, AV.int IntKind.i64 z, y]] Tk.dead] := by rw [← hA]; rfl
  have hAk : A.known = true := by rw [← hA]; rfl
  simp only [fnA, ED_fn34, fi34, Tryd.f34]
  simp [evalC_seq, evalC_region, runA_cons', runA_consN, runA_consG, guardR_true, guardR_false, guardV_bool, guardV_tup, runA_nil', inFrame, startLoc, startVals, Loc.clear, eff_move, eff_assign, eff_binOp, eff_build, eff_buildSlice, eff_alloc, eff_box, eff_store, eff_load, eff_fieldAddr, eff_field, eff_indexAddr, eff_slice, eff_extract, eff_pick, eff_unOp, eff_convert, eff_makeSlice, eff_makeFunc, eff_makeInterface, eff_nilCheck, eff_panic, eff_len1, eff_max2, eff_min2, eff_append2, eff_callV, stepE_val, contR_ok, contR_pan, outC_ok, outC_pan, thenC_normal, thenC_ret, thenC_exit, thenC_pan, blockC, evalC_ret, evalC_skip, evalC_exit, evalC_block, evalC_scope, evalC_loop, Loc.putO, Loc.put, idx, evO, constV, Loc.get, Vm.look, valO_some, bin_int, intA, evalC_cond, condC_true, condC_false, unwindA, resultsA, resultV, actA, pureA, storeA, loadA, fillE, repElems, TI.zeroV, fieldOf, fieldAddrA, fieldA, elemsA, retE, cells?_put_push, push_at, put_at, cellsOf?, Nat.add_assoc, n_push', n_put', isCell_undef, known_undef, cells_undef, isCell_bool, known_bool, cells_bool, isCell_int, known_int, cells_int, isCell_str, known_str, cells_str, isCell_nilp, known_nilp, cells_nilp, isCell_ptr, known_ptr, cells_ptr, isCell_rptr, known_rptr, cells_rptr, isCell_nils, known_nils, cells_nils, isCell_slice, known_slice, cells_slice, isCell_rsl, known_rsl, cells_rsl, isCell_nilm, known_nilm, cells_nilm, isCell_map, known_map, cells_map, isCell_fn, known_fn, cells_fn, isCell_yld, known_yld, cells_yld, isCell_nilf, known_nilf, cells_nilf, isCell_iface, known_iface, cells_iface, isCell_nili, known_nili, cells_nili, isCell_agg, known_agg, cells_agg, isCell_tup, known_tup, cells_tup, setCells, nowhere, GotF_some, Got_some, int_beq, int_bne, runC_nil, runC_cons, pickC_some, wantC_tt, wantC_tf, effC_val, ifC_true, checkC, inPairs, keepC, okC, readsC_load, readV_some, AV.beq_self, wantA_n, wantA_g, wantD_some, d0, d1, f1, s1, hg, hlk, hdc, hdk, hdcells, hp1, len22, hroom, hroom2, flat_rep, flat_rep2, hAc, hAk, hA, hall]
  generalize hS2 : (St.push _ (.cells [.int .i64 (N : Int)])) = S2
  have n2 : S2.n = 9 := by rw [← hS2]; simp [n_push', n_put']
  have k1 : S2.cells? 1 = some [D, .int .i64 N] := by rw [← hS2]; simp [push_at, put_at, n_push', n_put', cellsOf?]
  have k2 : S2.cells? 2 = some (ints (List.replicate N 0)) := by rw [← hS2, ints_rep]; simp [push_at, put_at, n_push', n_put', cellsOf?]
  have k3 : S2.cells? 3 = some [.rsl 5 0 N N] := by rw [← hS2]; simp [push_at, put_at, n_push', n_put', cellsOf?]
  have k4 : S2.cells? 4 = some [.rsl 6 0 N N] := by rw [← hS2]; simp [push_at, put_at, n_push', n_put', cellsOf?]
  have k5 : S2.cells? 5 = some (List.replicate N .nils) := by rw [← hS2]; simp [push_at, put_at, n_push', n_put', cellsOf?]
  have k6 : S2.cells? 6 = some (ints (indeg N (es.take 0))) := by rw [← hS2, List.take_zero, indeg_nil, ints_rep]; simp [push_at, put_at, n_push', n_put', cellsOf?]
  have k7 : S2.cells? 7 = some [D] := by rw [← hS2]; simp [push_at, put_at, n_push', n_put', cellsOf?]
  have k8 : S2.cells? 8 = some [.int .i64 N] := by rw [← hS2]; simp [push_at, put_at, n_push', n_put', cellsOf?]
  clear hS2 hall hg f1 s1 hlk e hA hAc hAk
  have J0 : J34 A D N es 0 ((S2.push (.dfr false)).push (.loop (loop34 A N))) := by
    refine ⟨?_, ?_, cells_push (cells_push k1), cells_push (cells_push k2), cells_push (cells_push k3), cells_push (cells_push k4), cells_push (cells_push k7), cells_push (cells_push k8), cells_push (cells_push k6), _, cells_push (cells_push k5), ?_⟩
    · have := St.get_push_self (S2.push (.dfr false)) (.loop (loop34 A N))
      rw [n_push', n2] at this
      exact this
    · apply St.get_push_of
      have := St.get_push_self S2 (.dfr false)
      rw [n2] at this
      exact this
    · exact Fam.start _ _
  have hall := all_ev csD rfl es N 10 7 8 2998 hes (by omega) hin (fun j S => J34 A D N es j S) (fun j S o o' h => h.box o o') (fun j S h => by rw [hD]; exact h.c7) (fun j S h => h.c8)
    (fun j S hj h => round34 (n := 2997) (by funext a; rfl) hj hes hin h) _ J0
  obtain ⟨S3, hcall, J1⟩ := hall
  have hend := fun (L : Vm.Loc) (v : AV) => endC_ok (L := L) (v := v) J1.g10 rfl rfl
  simp only [loop34, asg34, body34, rfA, rangesOf, drA, drawsOf, Option.getD_some, List.nil_append, List.append_nil, List.getD_cons_zero, List.getD_cons_succ, List.cons_append, Tryd.f34] at hcall hend
  simp [evalC_range, evalC_seq, evalC_region, runA_cons', runA_consN, runA_consG, guardR_true, guardR_false, guardV_bool, guardV_tup, runA_nil', inFrame, startLoc, startVals, Loc.clear, eff_move, eff_assign, eff_binOp, eff_build, eff_buildSlice, eff_alloc, eff_box, eff_store, eff_load, eff_fieldAddr, eff_field, eff_indexAddr, eff_slice, eff_extract, eff_pick, eff_unOp, eff_convert, eff_makeSlice, eff_makeFunc, eff_makeInterface, eff_nilCheck, eff_panic, eff_len1, eff_max2, eff_min2, eff_append2, eff_callV, stepE_val, contR_ok, contR_pan, outC_ok, outC_pan, thenC_normal, thenC_ret, thenC_exit, thenC_pan, blockC, evalC_ret, evalC_skip, evalC_exit, evalC_block, evalC_scope, evalC_loop, Loc.putO, Loc.put, idx, evO, constV, Loc.get, Vm.look, valO_some, bin_int, intA, evalC_cond, condC_true, condC_false, unwindA, resultsA, resultV, actA, pureA, storeA, loadA, fillE, repElems, TI.zeroV, fieldOf, fieldAddrA, fieldA, elemsA, retE, cells?_put_push, push_at, put_at, cellsOf?, Nat.add_assoc, n_push', n_put', isCell_undef, known_undef, cells_undef, isCell_bool, known_bool, cells_bool, isCell_int, known_int, cells_int, isCell_str, known_str, cells_str, isCell_nilp, known_nilp, cells_nilp, isCell_ptr, known_ptr, cells_ptr, isCell_rptr, known_rptr, cells_rptr, isCell_nils, known_nils, cells_nils, isCell_slice, known_slice, cells_slice, isCell_rsl, known_rsl, cells_rsl, isCell_nilm, known_nilm, cells_nilm, isCell_map, known_map, cells_map, isCell_fn, known_fn, cells_fn, isCell_yld, known_yld, cells_yld, isCell_nilf, known_nilf, cells_nilf, isCell_iface, known_iface, cells_iface, isCell_nili, known_nili, cells_nili, isCell_agg, known_agg, cells_agg, isCell_tup, known_tup, cells_tup, setCells, nowhere, GotF_some, Got_some, int_beq, int_bne, rangeC_fn, n2, hcall, hend]
  generalize hS4 : S3.put 10 _ = S4
  obtain ⟨vs, j5, hfam⟩ := J1.c5
  have j6 := J1.c6
  rw [List.take_length] at hfam j6
  have hB : B34 D N vs S4 (List.replicate N 0) (indeg N es) := by
    subst hS4
    exact ⟨by rw [get_put_ne (by decide)]; exact J1.g9, by rw [cells?_put_ne _ _ _ (by decide)]; exact J1.c1, by rw [cells?_put_ne _ _ _ (by decide)]; exact J1.c2, by rw [cells?_put_ne _ _ _ (by decide)]; exact J1.c3, by rw [cells?_put_ne _ _ _ (by decide)]; exact J1.c4, by rw [cells?_put_ne _ _ _ (by decide)]; exact j5, by rw [cells?_put_ne _ _ _ (by decide)]; exact j6⟩
  have hvl := hfam.len
  obtain ⟨T0, hrow, _⟩ := hfam.live
  have hrl : ∀ x, x < N → lenA ED 22 (vs.getD x .undef) = some (.int .i64 (nbrs es x).length) := fun x hx => nat_len (hrow x hx)
  have hrx : ∀ x, x < N → ∀ k (hk : k < (nbrs es x).length), indexAddrA ED 22 (vs.getD x .undef) (.int .i64 k) = some (.rptr [.int .i64 ((nbrs es x)[k] : Nat)]) := fun x hx k hk => nat_index (hrow x hx) hk
  have hrc : ∀ x, x < N → (vs.getD x .undef).isCell = true ∧ (vs.getD x .undef).known = true ∧ (vs.getD x .undef).cells = [vs.getD x .undef] := fun x hx => nat_cell (hrow x hx)
  clear hS4 j5 j6 J1 hrow hfam hcall hend J0 k1 k2 k3 k4 k5 k6 k7 k8 n2
  have hb4 := hB.c4
  simp [evalC_seq, evalC_region, runA_cons', runA_consN, runA_consG, guardR_true, guardR_false, guardV_bool, guardV_tup, runA_nil', inFrame, startLoc, startVals, Loc.clear, eff_move, eff_assign, eff_binOp, eff_build, eff_buildSlice, eff_alloc, eff_box, eff_store, eff_load, eff_fieldAddr, eff_field, eff_indexAddr, eff_slice, eff_extract, eff_pick, eff_unOp, eff_convert, eff_makeSlice, eff_makeFunc, eff_makeInterface, eff_nilCheck, eff_panic, eff_len1, eff_max2, eff_min2, eff_append2, eff_callV, stepE_val, contR_ok, contR_pan, outC_ok, outC_pan, thenC_normal, thenC_ret, thenC_exit, thenC_pan, blockC, evalC_ret, evalC_skip, evalC_exit, evalC_block, evalC_scope, evalC_loop, Loc.putO, Loc.put, idx, evO, constV, Loc.get, Vm.look, valO_some, bin_int, intA, evalC_cond, condC_true, condC_false, unwindA, resultsA, resultV, actA, pureA, storeA, loadA, fillE, repElems, TI.zeroV, fieldOf, fieldAddrA, fieldA, elemsA, retE, cells?_put_push, push_at, put_at, cellsOf?, Nat.add_assoc, n_push', n_put', isCell_undef, known_undef, cells_undef, isCell_bool, known_bool, cells_bool, isCell_int, known_int, cells_int, isCell_str, known_str, cells_str, isCell_nilp, known_nilp, cells_nilp, isCell_ptr, known_ptr, cells_ptr, isCell_rptr, known_rptr, cells_rptr, isCell_nils, known_nils, cells_nils, isCell_slice, known_slice, cells_slice, isCell_rsl, known_rsl, cells_rsl, isCell_nilm, known_nilm, cells_nilm, isCell_map, known_map, cells_map, isCell_fn, known_fn, cells_fn, isCell_yld, known_yld, cells_yld, isCell_nilf, known_nilf, cells_nilf, isCell_iface, known_iface, cells_iface, isCell_nili, known_nili, cells_nili, isCell_agg, known_agg, cells_agg, isCell_tup, known_tup, cells_tup, setCells, nowhere, GotF_some, Got_some, int_beq, int_bne, hb4, len22]
  generalize hc : iter _ _ _ _ = c
  obtain ⟨e1, L1, S5, rfl, hq⟩ := loop_of hc
    (fun r L S => ∃ j v T sc a10 a11, j + r = N ∧ L = vlocD [A, .ptr 0 0, .nils, .ptr 1 0, .rsl 2 0 N N, .ptr 3 0, .ptr 4 0, .undef, .undef, v, a10, a11, .undef, .undef, .fn 63 [] [.ptr 7 0, .ptr 8 0], .undef, .undef, .rsl 6 0 N N, .int .i64 N, .int .i64 (j : Nat), .undef, .undef, .undef] sc [.coll 9] ∧
      LiveT S 1 v (nats ((List.range j).filter fun i => decide (inD es i = 0))) T ∧ B34 D N vs S (List.replicate N 0) (indeg N es))
    (fun e L S => e = .exit 2 ∧ ∃ v T sc a10 a11 a61, L = vlocD [A, .ptr 0 0, .nils, .ptr 1 0, .rsl 2 0 N N, .ptr 3 0, .ptr 4 0, .undef, .undef, v, a10, a11, .undef, .undef, .fn 63 [] [.ptr 7 0, .ptr 8 0], .undef, .undef, .rsl 6 0 N N, .int .i64 N, a61, .undef, .undef, .undef] sc [.coll 9] ∧
      LiveT S 1 v (nats ((List.range N).filter fun i => decide (inD es i = 0))) T ∧ B34 D N vs S (List.replicate N 0) (indeg N es))
    N (by omega)
    ⟨0, .nils, none, _, _, _, by simp, rfl, .inl ⟨rfl, rfl⟩, hB⟩
    (by
      rintro r L S ⟨j, v, T, sc, a10, a11, hjk, rfl, hL, hB⟩ p' hq1 hq2
      have hb6 := hB.c6
      by_cases hj : j < N
      · have hw : IntKind.i64.wrap ((j : Int) + 1) = ((j : Int) + 1) := wrap_id (by omega) (by omega)
        have hgj := getD_int (d := indeg N es) (y := j) (by rw [indeg_len]; exact hj)
        have hj1 : j + 1 ≤ (indeg N es).length := by rw [indeg_len]; exact hj
        rw [indeg_get es hj] at hgj
        by_cases hz : inD es j = 0
        · have hfl : ((List.range j).filter fun i => decide (inD es i = 0)).length ≤ 10000 := by
            have := List.length_filter_le (fun i => decide (inD es i = 0)) (List.range j)
            simp at this
            omega
          obtain ⟨v', S', c1, c2, c3, c4⟩ := append_nat j hL hfl
          rw [hz] at hgj
          simp [evalC_seq, evalC_region, runA_cons', runA_consN, runA_consG, guardR_true, guardR_false, guardV_bool, guardV_tup, runA_nil', inFrame, startLoc, startVals, Loc.clear, eff_move, eff_assign, eff_binOp, eff_build, eff_buildSlice, eff_alloc, eff_box, eff_store, eff_load, eff_fieldAddr, eff_field, eff_indexAddr, eff_slice, eff_extract, eff_pick, eff_unOp, eff_convert, eff_makeSlice, eff_makeFunc, eff_makeInterface, eff_nilCheck, eff_panic, eff_len1, eff_max2, eff_min2, eff_append2, eff_callV, stepE_val, contR_ok, contR_pan, outC_ok, outC_pan, thenC_normal, thenC_ret, thenC_exit, thenC_pan, blockC, evalC_ret, evalC_skip, evalC_exit, evalC_block, evalC_scope, evalC_loop, Loc.putO, Loc.put, idx, evO, constV, Loc.get, Vm.look, valO_some, bin_int, intA, evalC_cond, condC_true, condC_false, unwindA, resultsA, resultV, actA, pureA, storeA, loadA, fillE, repElems, TI.zeroV, fieldOf, fieldAddrA, fieldA, elemsA, retE, cells?_put_push, push_at, put_at, cellsOf?, Nat.add_assoc, n_push', n_put', isCell_undef, known_undef, cells_undef, isCell_bool, known_bool, cells_bool, isCell_int, known_int, cells_int, isCell_str, known_str, cells_str, isCell_nilp, known_nilp, cells_nilp, isCell_ptr, known_ptr, cells_ptr, isCell_rptr, known_rptr, cells_rptr, isCell_nils, known_nils, cells_nils, isCell_slice, known_slice, cells_slice, isCell_rsl, known_rsl, cells_rsl, isCell_nilm, known_nilm, cells_nilm, isCell_map, known_map, cells_map, isCell_fn, known_fn, cells_fn, isCell_yld, known_yld, cells_yld, isCell_nilf, known_nilf, cells_nilf, isCell_iface, known_iface, cells_iface, isCell_nili, known_nili, cells_nili, isCell_agg, known_agg, cells_agg, isCell_tup, known_tup, cells_tup, setCells, nowhere, GotF_some, Got_some, int_beq, int_bne, vlocD, hj, index22 hj, hb6, hgj, hj1, c1, hw]
          refine hq1 (r - 1) _ _ (by omega) ⟨j + 1, v', some S.n, _, _, _, by omega, rfl, ?_, hB.keep c4 (liveT_getne hL hB.g9 (by simp))⟩
          rw [List.range_succ, List.filter_append]
          simpa [hz] using c2
        · have hz' : ¬ ((inD es j : Nat) : Int) = 0 := by omega
          simp [evalC_seq, evalC_region, runA_cons', runA_consN, runA_consG, guardR_true, guardR_false, guardV_bool, guardV_tup, runA_nil', inFrame, startLoc, startVals, Loc.clear, eff_move, eff_assign, eff_binOp, eff_build, eff_buildSlice, eff_alloc, eff_box, eff_store, eff_load, eff_fieldAddr, eff_field, eff_indexAddr, eff_slice, eff_extract, eff_pick, eff_unOp, eff_convert, eff_makeSlice, eff_makeFunc, eff_makeInterface, eff_nilCheck, eff_panic, eff_len1, eff_max2, eff_min2, eff_append2, eff_callV, stepE_val, contR_ok, contR_pan, outC_ok, outC_pan, thenC_normal, thenC_ret, thenC_exit, thenC_pan, blockC, evalC_ret, evalC_skip, evalC_exit, evalC_block, evalC_scope, evalC_loop, Loc.putO, Loc.put, idx, evO, constV, Loc.get, Vm.look, valO_some, bin_int, intA, evalC_cond, condC_true, condC_false, unwindA, resultsA, resultV, actA, pureA, storeA, loadA, fillE, repElems, TI.zeroV, fieldOf, fieldAddrA, fieldA, elemsA, retE, cells?_put_push, push_at, put_at, cellsOf?, Nat.add_assoc, n_push', n_put', isCell_undef, known_undef, cells_undef, isCell_bool, known_bool, cells_bool, isCell_int, known_int, cells_int, isCell_str, known_str, cells_str, isCell_nilp, known_nilp, cells_nilp, isCell_ptr, known_ptr, cells_ptr, isCell_rptr, known_rptr, cells_rptr, isCell_nils, known_nils, cells_nils, isCell_slice, known_slice, cells_slice, isCell_rsl, known_rsl, cells_rsl, isCell_nilm, known_nilm, cells_nilm, isCell_map, known_map, cells_map, isCell_fn, known_fn, cells_fn, isCell_yld, known_yld, cells_yld, isCell_nilf, known_nilf, cells_nilf, isCell_iface, known_iface, cells_iface, isCell_nili, known_nili, cells_nili, isCell_agg, known_agg, cells_agg, isCell_tup, known_tup, cells_tup, setCells, nowhere, GotF_some, Got_some, int_beq, int_bne, vlocD, hj, index22 hj, hb6, hgj, hj1, hz, hz', hw]
          refine hq1 (r - 1) _ _ (by omega) ⟨j + 1, v, T, _, _, _, by omega, rfl, ?_, hB⟩
          rw [List.range_succ, List.filter_append]
          simpa [hz] using hL
      · have hjl : j = N := by omega
        subst hjl
        simp [evalC_seq, evalC_region, runA_cons', runA_consN, runA_consG, guardR_true, guardR_false, guardV_bool, guardV_tup, runA_nil', inFrame, startLoc, startVals, Loc.clear, eff_move, eff_assign, eff_binOp, eff_build, eff_buildSlice, eff_alloc, eff_box, eff_store, eff_load, eff_fieldAddr, eff_field, eff_indexAddr, eff_slice, eff_extract, eff_pick, eff_unOp, eff_convert, eff_makeSlice, eff_makeFunc, eff_makeInterface, eff_nilCheck, eff_panic, eff_len1, eff_max2, eff_min2, eff_append2, eff_callV, stepE_val, contR_ok, contR_pan, outC_ok, outC_pan, thenC_normal, thenC_ret, thenC_exit, thenC_pan, blockC, evalC_ret, evalC_skip, evalC_exit, evalC_block, evalC_scope, evalC_loop, Loc.putO, Loc.put, idx, evO, constV, Loc.get, Vm.look, valO_some, bin_int, intA, evalC_cond, condC_true, condC_false, unwindA, resultsA, resultV, actA, pureA, storeA, loadA, fillE, repElems, TI.zeroV, fieldOf, fieldAddrA, fieldA, elemsA, retE, cells?_put_push, push_at, put_at, cellsOf?, Nat.add_assoc, n_push', n_put', isCell_undef, known_undef, cells_undef, isCell_bool, known_bool, cells_bool, isCell_int, known_int, cells_int, isCell_str, known_str, cells_str, isCell_nilp, known_nilp, cells_nilp, isCell_ptr, known_ptr, cells_ptr, isCell_rptr, known_rptr, cells_rptr, isCell_nils, known_nils, cells_nils, isCell_slice, known_slice, cells_slice, isCell_rsl, known_rsl, cells_rsl, isCell_nilm, known_nilm, cells_nilm, isCell_map, known_map, cells_map, isCell_fn, known_fn, cells_fn, isCell_yld, known_yld, cells_yld, isCell_nilf, known_nilf, cells_nilf, isCell_iface, known_iface, cells_iface, isCell_nili, known_nili, cells_nili, isCell_agg, known_agg, cells_agg, isCell_tup, known_tup, cells_tup, setCells, nowhere, GotF_some, Got_some, int_beq, int_bne, vlocD]
        exact hq2 _ _ _ (by simp) ⟨rfl, v, T, _, _, _, _, rfl, hL, hB⟩)
  obtain ⟨rfl, v, T, sc, a10, a11, a61, rfl, hL, hB⟩ := hq
  have hK := Kahn.start hin
  simp [evalC_seq, evalC_region, runA_cons', runA_consN, runA_consG, guardR_true, guardR_false, guardV_bool, guardV_tup, runA_nil', inFrame, startLoc, startVals, Loc.clear, eff_move, eff_assign, eff_binOp, eff_build, eff_buildSlice, eff_alloc, eff_box, eff_store, eff_load, eff_fieldAddr, eff_field, eff_indexAddr, eff_slice, eff_extract, eff_pick, eff_unOp, eff_convert, eff_makeSlice, eff_makeFunc, eff_makeInterface, eff_nilCheck, eff_panic, eff_len1, eff_max2, eff_min2, eff_append2, eff_callV, stepE_val, contR_ok, contR_pan, outC_ok, outC_pan, thenC_normal, thenC_ret, thenC_exit, thenC_pan, blockC, evalC_ret, evalC_skip, evalC_exit, evalC_block, evalC_scope, evalC_loop, Loc.putO, Loc.put, idx, evO, constV, Loc.get, Vm.look, valO_some, bin_int, intA, evalC_cond, condC_true, condC_false, unwindA, resultsA, resultV, actA, pureA, storeA, loadA, fillE, repElems, TI.zeroV, fieldOf, fieldAddrA, fieldA, elemsA, retE, cells?_put_push, push_at, put_at, cellsOf?, Nat.add_assoc, n_push', n_put', isCell_undef, known_undef, cells_undef, isCell_bool, known_bool, cells_bool, isCell_int, known_int, cells_int, isCell_str, known_str, cells_str, isCell_nilp, known_nilp, cells_nilp, isCell_ptr, known_ptr, cells_ptr, isCell_rptr, known_rptr, cells_rptr, isCell_nils, known_nils, cells_nils, isCell_slice, known_slice, cells_slice, isCell_rsl, known_rsl, cells_rsl, isCell_nilm, known_nilm, cells_nilm, isCell_map, known_map, cells_map, isCell_fn, known_fn, cells_fn, isCell_yld, known_yld, cells_yld, isCell_nilf, known_nilf, cells_nilf, isCell_iface, known_iface, cells_iface, isCell_nili, known_nili, cells_nili, isCell_agg, known_agg, cells_agg, isCell_tup, known_tup, cells_tup, setCells, nowhere, GotF_some, Got_some, int_beq, int_bne, vlocD]
  have hfp : fresh (List.replicate N (-1)) = N := fresh_rep N
  generalize hc : iter _ _ _ _ = c
  obtain ⟨e1, L1, S6, rfl, hq⟩ := loop_of hc
    (fun r L S => ∃ d P op q a s v T sc a14 a85 a86 a87, fresh P = r ∧ s + r = N ∧ L = vlocD [A, .ptr 0 0, .nils, .ptr 1 0, .rsl 2 0 N N, .ptr 3 0, .ptr 4 0, .undef, .undef, v, a10, a11, .int .i64 (s : Nat), a14, .fn 63 [] [.ptr 7 0, .ptr 8 0], .undef, .undef, .rsl 6 0 N N, .int .i64 N, a61, a85, a86, a87] sc [.coll 9] ∧
      Kahn N es d P op q [] a ∧ LiveT S 1 v (nats q) T ∧ B34 D N vs S d op)
    (fun e L S => e = .exit 4 ∧ ∃ d P op a s v sc a14 a85 a86 a87, s + fresh P = N ∧ L = vlocD [A, .ptr 0 0, .nils, .ptr 1 0, .rsl 2 0 N N, .ptr 3 0, .ptr 4 0, .undef, .undef, v, a10, a11, .int .i64 (s : Nat), a14, .fn 63 [] [.ptr 7 0, .ptr 8 0], .undef, .undef, .rsl 6 0 N N, .int .i64 N, a61, a85, a86, a87] sc [.coll 9] ∧
      Kahn N es d P op [] [] a ∧ B34 D N vs S d op)
    N (by omega)
    ⟨_, _, _, _, _, 0, v, T, _, _, _, _, _, hfp, by simp, rfl, hK, hL, hB⟩
    (by
      clear hK hL hB hfp
      rintro r L S ⟨d, P, op, q, a0, s, v, T, sc, a14, a85, a86, a87, hr, hs, rfl, hK, hL, hB⟩ p' hq1 hq2
      have hlen := nat_len hL
      have hb3 := hB.c3
      have hb5 := hB.c5
      cases q with
      | nil =>
        simp [evalC_seq, evalC_region, runA_cons', runA_consN, runA_consG, guardR_true, guardR_false, guardV_bool, guardV_tup, runA_nil', inFrame, startLoc, startVals, Loc.clear, eff_move, eff_assign, eff_binOp, eff_build, eff_buildSlice, eff_alloc, eff_box, eff_store, eff_load, eff_fieldAddr, eff_field, eff_indexAddr, eff_slice, eff_extract, eff_pick, eff_unOp, eff_convert, eff_makeSlice, eff_makeFunc, eff_makeInterface, eff_nilCheck, eff_panic, eff_len1, eff_max2, eff_min2, eff_append2, eff_callV, stepE_val, contR_ok, contR_pan, outC_ok, outC_pan, thenC_normal, thenC_ret, thenC_exit, thenC_pan, blockC, evalC_ret, evalC_skip, evalC_exit, evalC_block, evalC_scope, evalC_loop, Loc.putO, Loc.put, idx, evO, constV, Loc.get, Vm.look, valO_some, bin_int, intA, evalC_cond, condC_true, condC_false, unwindA, resultsA, resultV, actA, pureA, storeA, loadA, fillE, repElems, TI.zeroV, fieldOf, fieldAddrA, fieldA, elemsA, retE, cells?_put_push, push_at, put_at, cellsOf?, Nat.add_assoc, n_push', n_put', isCell_undef, known_undef, cells_undef, isCell_bool, known_bool, cells_bool, isCell_int, known_int, cells_int, isCell_str, known_str, cells_str, isCell_nilp, known_nilp, cells_nilp, isCell_ptr, known_ptr, cells_ptr, isCell_rptr, known_rptr, cells_rptr, isCell_nils, known_nils, cells_nils, isCell_slice, known_slice, cells_slice, isCell_rsl, known_rsl, cells_rsl, isCell_nilm, known_nilm, cells_nilm, isCell_map, known_map, cells_map, isCell_fn, known_fn, cells_fn, isCell_yld, known_yld, cells_yld, isCell_nilf, known_nilf, cells_nilf, isCell_iface, known_iface, cells_iface, isCell_nili, known_nili, cells_nili, isCell_agg, known_agg, cells_agg, isCell_tup, known_tup, cells_tup, setCells, nowhere, GotF_some, Got_some, int_beq, int_bne, vlocD, hlen]
        exact hq2 _ _ _ (by simp) ⟨rfl, d, P, op, a0, s, v, _, _, _, _, _, by omega, rfl, hK, hB⟩
      | cons a q =>
        obtain ⟨haN, haP⟩ := hK.qin a (by simp)
        obtain ⟨hK0, hf0⟩ := hK.pop hin
        have hix0 : indexAddrA ED 22 v (.int .i64 0) = some (.rptr [.int .i64 a]) := nat_index hL (k := 0) (by simp)
        have hvl2 : a + 1 ≤ vs.length := by omega
        have hix := index83 (i := 5) (c := N) haN
        have hget := set_getD (vs := vs) (x := a) (by omega)
        have w0 := hrl a haN
        have w1 := hrx a haN
        obtain ⟨w2, w3, w4⟩ := hrc a haN
        have hnl := nbrs_len es a
        have hws : IntKind.i64.wrap ((s : Int) + 1) = ((s : Int) + 1) := wrap_id (by omega) (by omega)
        generalize vs.getD a .undef = vx at hget w0 w1 w2 w3 w4
        generalize hns : nbrs es a = ns at *
        simp [evalC_seq, evalC_region, runA_cons', runA_consN, runA_consG, guardR_true, guardR_false, guardV_bool, guardV_tup, runA_nil', inFrame, startLoc, startVals, Loc.clear, eff_move, eff_assign, eff_binOp, eff_build, eff_buildSlice, eff_alloc, eff_box, eff_store, eff_load, eff_fieldAddr, eff_field, eff_indexAddr, eff_slice, eff_extract, eff_pick, eff_unOp, eff_convert, eff_makeSlice, eff_makeFunc, eff_makeInterface, eff_nilCheck, eff_panic, eff_len1, eff_max2, eff_min2, eff_append2, eff_callV, stepE_val, contR_ok, contR_pan, outC_ok, outC_pan, thenC_normal, thenC_ret, thenC_exit, thenC_pan, blockC, evalC_ret, evalC_skip, evalC_exit, evalC_block, evalC_scope, evalC_loop, Loc.putO, Loc.put, idx, evO, constV, Loc.get, Vm.look, valO_some, bin_int, intA, evalC_cond, condC_true, condC_false, unwindA, resultsA, resultV, actA, pureA, storeA, loadA, fillE, repElems, TI.zeroV, fieldOf, fieldAddrA, fieldA, elemsA, retE, cells?_put_push, push_at, put_at, cellsOf?, Nat.add_assoc, n_push', n_put', isCell_undef, known_undef, cells_undef, isCell_bool, known_bool, cells_bool, isCell_int, known_int, cells_int, isCell_str, known_str, cells_str, isCell_nilp, known_nilp, cells_nilp, isCell_ptr, known_ptr, cells_ptr, isCell_rptr, known_rptr, cells_rptr, isCell_nils, known_nils, cells_nils, isCell_slice, known_slice, cells_slice, isCell_rsl, known_rsl, cells_rsl, isCell_nilm, known_nilm, cells_nilm, isCell_map, known_map, cells_map, isCell_fn, known_fn, cells_fn, isCell_yld, known_yld, cells_yld, isCell_nilf, known_nilf, cells_nilf, isCell_iface, known_iface, cells_iface, isCell_nili, known_nili, cells_nili, isCell_agg, known_agg, cells_agg, isCell_tup, known_tup, cells_tup, setCells, nowhere, GotF_some, Got_some, int_beq, int_bne, runC_nil, runC_cons, pickC_some, wantC_tt, wantC_tf, effC_val, ifC_true, checkC, inPairs, keepC, okC, readsC_load, readV_some, AV.beq_self, wantA_n, wantA_g, wantD_some, d3, vlocD, hlen, hix0, hb3, hb5, hix, hvl2, hget, w0, w2, w3, w4, hws]
        generalize P.set a 0 = P1 at *
        generalize hc2 : iter _ _ _ _ = c2
        obtain ⟨e2, L2, S2, rfl, hq'⟩ := loop_of hc2
          (fun r2 L S => ∃ j d op q v T sc a14, j + r2 = ns.length ∧ L = vlocD [A, .ptr 0 0, .nils, .ptr 1 0, .rsl 2 0 N N, .ptr 3 0, .ptr 4 0, .undef, .undef, v, a10, a11, .int .i64 ((s : Int) + 1), a14, .fn 63 [] [.ptr 7 0, .ptr 8 0], .undef, .undef, .rsl 6 0 N N, .int .i64 N, a61, vx, .int .i64 ns.length, .int .i64 (j : Nat)] sc [.coll 9] ∧
            Kahn N es d P1 op q (ns.drop j) a ∧ LiveT S 1 v (nats (a :: q)) T ∧ B34 D N vs S d op)
          (fun e L S => e = .exit 6 ∧ ∃ d op q v T sc a14 a87, L = vlocD [A, .ptr 0 0, .nils, .ptr 1 0, .rsl 2 0 N N, .ptr 3 0, .ptr 4 0, .undef, .undef, v, a10, a11, .int .i64 ((s : Int) + 1), a14, .fn 63 [] [.ptr 7 0, .ptr 8 0], .undef, .undef, .rsl 6 0 N N, .int .i64 N, a61, vx, .int .i64 ns.length, a87] sc [.coll 9] ∧
            Kahn N es d P1 op q [] a ∧ LiveT S 1 v (nats (a :: q)) T ∧ B34 D N vs S d op)
          ns.length (by omega)
          ⟨0, d, op, q, v, T, _, _, by simp, rfl, by simpa using hK0, hL, hB⟩
          (by
            clear hK hK0 hL hB hb3 hb5 hix0 hlen hget
            rintro r2 L S ⟨j, d, op, q, v, T, sc, a14, hjk, rfl, hK, hL, hB⟩ p'' hq1' hq2'
            have hb2 := hB.c2
            have hb4 := hB.c4
            have hb6 := hB.c6
            by_cases hj : j < ns.length
            · have hwj : IntKind.i64.wrap ((j : Int) + 1) = ((j : Int) + 1) := wrap_id (by omega) (by omega)
              have hdrop : ns.drop j = ns[j] :: ns.drop (j + 1) := by rw [List.drop_eq_getElem_cons hj]
              rw [hdrop] at hK
              have hix := w1 j hj
              generalize ns[j] = y at hK hix
              obtain ⟨hyN, hop0, hKn⟩ := hK.step
              obtain ⟨oy, hoyd⟩ : ∃ oy, oy = op.getD y 0 - 1 := ⟨_, rfl⟩
              rw [← hoyd] at hop0 hKn
              have hdl := hK.dl
              have hol := hK.ol
              have hqnd := hK.qnd
              have hqin := hK.qin
              have hy1 : y + 1 ≤ d.length := by omega
              have ha1 : a + 1 ≤ d.length := by omega
              have hyo1 : y + 1 ≤ op.length := by omega
              have hgy := getD_int (d := d) (y := y) (by omega)
              have hga := getD_int (d := d) (y := a) (by omega)
              have hgo := getD_int (d := op) (y := y) (by omega)
              have hda := hK.high a haN
              have hda0 := hK.low a haN
              have hoy := hK.cnt y hyN
              have hcl : (cntOut es P1 y + (y :: ns.drop (j + 1)).count y) ≤ 3000 := by
                have h1 : cntOut es P1 y ≤ es.length := List.length_filter_le _ _
                have h2 : (y :: ns.drop (j + 1)).count y ≤ (y :: ns.drop (j + 1)).length := List.count_le_length
                simp only [List.length_cons, List.length_drop] at h2
                omega
              have hix0 : indexAddrA ED 22 v (.int .i64 0) = some (.rptr [.int .i64 a]) := nat_index hL (k := 0) (by simp)
              have hwa : IntKind.i64.wrap (d.getD a 0 + 1) = d.getD a 0 + 1 := wrap_id (by omega) (by omega)
              have hwo : IntKind.i64.wrap (op.getD y 0 - 1) = oy := by rw [hoyd]; exact wrap_id (by omega) (by omega)
              have hmx := fold_maxI (d.getD y 0) (d.getD a 0 + 1)
              have hst1 := ints_set d y (max (d.getD y 0) (d.getD a 0 + 1))
              have hst2 := ints_set op y oy
              have hB1 := hB.set2 (d.set y (max (d.getD y 0) (d.getD a 0 + 1)))
              have hB2 := hB1.set6 (op.set y oy)
              have hL1 : LiveT (S.put 2 (.cells (ints (d.set y (max (d.getD y 0) (d.getD a 0 + 1)))))) 1 v (nats (a :: q)) T := hL.put hb2
              have hL2 : LiveT ((S.put 2 (.cells (ints (d.set y (max (d.getD y 0) (d.getD a 0 + 1)))))).put 6 (.cells (ints (op.set y oy)))) 1 v (nats (a :: q)) T := hL1.put hB1.c6
              have hgo1 := getD_int (d := op.set y oy) (y := y) (by simp; omega)
              have hyo2 : y + 1 ≤ (op.set y oy).length := by simp; omega
              rw [getD_set (by omega), if_pos rfl] at hgo1
              generalize max (d.getD y 0) (d.getD a 0 + 1) = mx at *
              generalize d.set y mx = d1 at *
              generalize op.set y oy = op1 at *
              generalize op.getD y 0 = oy0 at *
              generalize d.getD a 0 = da at *
              generalize d.getD y 0 = dy at *
              have m4 := hB1.c4
              have m6 := hB1.c6
              have n4 := hB2.c4
              have n6 := hB2.c6
              by_cases hz : oy = 0
              · have hql : (a :: q).length ≤ 10000 := by
                  have h1 := nodup_len (l := q) (N := N) hqnd (fun i hi => (hqin i hi).1)
                  simp only [List.length_cons]
                  omega
                obtain ⟨v', S', c1, c2, c3, c4⟩ := append_nat y hL2 hql
                obtain ⟨w5, w6, w7⟩ := nat_cell c2
                subst hz
                simp [evalC_seq, evalC_region, runA_cons', runA_consN, runA_consG, guardR_true, guardR_false, guardV_bool, guardV_tup, runA_nil', inFrame, startLoc, startVals, Loc.clear, eff_move, eff_assign, eff_binOp, eff_build, eff_buildSlice, eff_alloc, eff_box, eff_store, eff_load, eff_fieldAddr, eff_field, eff_indexAddr, eff_slice, eff_extract, eff_pick, eff_unOp, eff_convert, eff_makeSlice, eff_makeFunc, eff_makeInterface, eff_nilCheck, eff_panic, eff_len1, eff_max2, eff_min2, eff_append2, eff_callV, stepE_val, contR_ok, contR_pan, outC_ok, outC_pan, thenC_normal, thenC_ret, thenC_exit, thenC_pan, blockC, evalC_ret, evalC_skip, evalC_exit, evalC_block, evalC_scope, evalC_loop, Loc.putO, Loc.put, idx, evO, constV, Loc.get, Vm.look, valO_some, bin_int, intA, evalC_cond, condC_true, condC_false, unwindA, resultsA, resultV, actA, pureA, storeA, loadA, fillE, repElems, TI.zeroV, fieldOf, fieldAddrA, fieldA, elemsA, retE, cells?_put_push, push_at, put_at, cellsOf?, Nat.add_assoc, n_push', n_put', isCell_undef, known_undef, cells_undef, isCell_bool, known_bool, cells_bool, isCell_int, known_int, cells_int, isCell_str, known_str, cells_str, isCell_nilp, known_nilp, cells_nilp, isCell_ptr, known_ptr, cells_ptr, isCell_rptr, known_rptr, cells_rptr, isCell_nils, known_nils, cells_nils, isCell_slice, known_slice, cells_slice, isCell_rsl, known_rsl, cells_rsl, isCell_nilm, known_nilm, cells_nilm, isCell_map, known_map, cells_map, isCell_fn, known_fn, cells_fn, isCell_yld, known_yld, cells_yld, isCell_nilf, known_nilf, cells_nilf, isCell_iface, known_iface, cells_iface, isCell_nili, known_nili, cells_nili, isCell_agg, known_agg, cells_agg, isCell_tup, known_tup, cells_tup, setCells, nowhere, GotF_some, Got_some, int_beq, int_bne, runC_nil, runC_cons, pickC_some, wantC_tt, wantC_tf, effC_val, ifC_true, checkC, inPairs, keepC, okC, readsC_load, readV_some, AV.beq_self, wantA_n, wantA_g, wantD_some, d4, vlocD, hj, hix, hb2, hgy, hga, hy1, ha1, hix0, hwa, hmx, hst1, index22 hyN, index22 haN, m4, m6, hgo, hyo1, hwo, hst2, n4, n6, hgo1, hyo2, c1, hwj, w5, w6, w7]
                rw [if_pos rfl] at hKn
                exact hq1' (r2 - 1) _ _ (by omega) ⟨j + 1, d1, op1, q ++ [y], v', some _, _, _, by omega, rfl, hKn, c2, hB2.keep c4 (liveT_getne hL2 hB2.g9 (by simp))⟩
              · simp [evalC_seq, evalC_region, runA_cons', runA_consN, runA_consG, guardR_true, guardR_false, guardV_bool, guardV_tup, runA_nil', inFrame, startLoc, startVals, Loc.clear, eff_move, eff_assign, eff_binOp, eff_build, eff_buildSlice, eff_alloc, eff_box, eff_store, eff_load, eff_fieldAddr, eff_field, eff_indexAddr, eff_slice, eff_extract, eff_pick, eff_unOp, eff_convert, eff_makeSlice, eff_makeFunc, eff_makeInterface, eff_nilCheck, eff_panic, eff_len1, eff_max2, eff_min2, eff_append2, eff_callV, stepE_val, contR_ok, contR_pan, outC_ok, outC_pan, thenC_normal, thenC_ret, thenC_exit, thenC_pan, blockC, evalC_ret, evalC_skip, evalC_exit, evalC_block, evalC_scope, evalC_loop, Loc.putO, Loc.put, idx, evO, constV, Loc.get, Vm.look, valO_some, bin_int, intA, evalC_cond, condC_true, condC_false, unwindA, resultsA, resultV, actA, pureA, storeA, loadA, fillE, repElems, TI.zeroV, fieldOf, fieldAddrA, fieldA, elemsA, retE, cells?_put_push, push_at, put_at, cellsOf?, Nat.add_assoc, n_push', n_put', isCell_undef, known_undef, cells_undef, isCell_bool, known_bool, cells_bool, isCell_int, known_int, cells_int, isCell_str, known_str, cells_str, isCell_nilp, known_nilp, cells_nilp, isCell_ptr, known_ptr, cells_ptr, isCell_rptr, known_rptr, cells_rptr, isCell_nils, known_nils, cells_nils, isCell_slice, known_slice, cells_slice, isCell_rsl, known_rsl, cells_rsl, isCell_nilm, known_nilm, cells_nilm, isCell_map, known_map, cells_map, isCell_fn, known_fn, cells_fn, isCell_yld, known_yld, cells_yld, isCell_nilf, known_nilf, cells_nilf, isCell_iface, known_iface, cells_iface, isCell_nili, known_nili, cells_nili, isCell_agg, known_agg, cells_agg, isCell_tup, known_tup, cells_tup, setCells, nowhere, GotF_some, Got_some, int_beq, int_bne, runC_nil, runC_cons, pickC_some, wantC_tt, wantC_tf, effC_val, ifC_true, checkC, inPairs, keepC, okC, readsC_load, readV_some, AV.beq_self, wantA_n, wantA_g, wantD_some, d4, vlocD, hj, hix, hb2, hgy, hga, hy1, ha1, hix0, hwa, hmx, hst1, index22 hyN, index22 haN, m4, m6, hgo, hyo1, hwo, hst2, n4, n6, hgo1, hyo2, hz, hwj]
                rw [if_neg hz] at hKn
                exact hq1' (r2 - 1) _ _ (by omega) ⟨j + 1, d1, op1, q, v, T, _, _, by omega, rfl, hKn, hL2, hB2⟩
            · have hjl : j = ns.length := by omega
              subst hjl
              simp [evalC_seq, evalC_region, runA_cons', runA_consN, runA_consG, guardR_true, guardR_false, guardV_bool, guardV_tup, runA_nil', inFrame, startLoc, startVals, Loc.clear, eff_move, eff_assign, eff_binOp, eff_build, eff_buildSlice, eff_alloc, eff_box, eff_store, eff_load, eff_fieldAddr, eff_field, eff_indexAddr, eff_slice, eff_extract, eff_pick, eff_unOp, eff_convert, eff_makeSlice, eff_makeFunc, eff_makeInterface, eff_nilCheck, eff_panic, eff_len1, eff_max2, eff_min2, eff_append2, eff_callV, stepE_val, contR_ok, contR_pan, outC_ok, outC_pan, thenC_normal, thenC_ret, thenC_exit, thenC_pan, blockC, evalC_ret, evalC_skip, evalC_exit, evalC_block, evalC_scope, evalC_loop, Loc.putO, Loc.put, idx, evO, constV, Loc.get, Vm.look, valO_some, bin_int, intA, evalC_cond, condC_true, condC_false, unwindA, resultsA, resultV, actA, pureA, storeA, loadA, fillE, repElems, TI.zeroV, fieldOf, fieldAddrA, fieldA, elemsA, retE, cells?_put_push, push_at, put_at, cellsOf?, Nat.add_assoc, n_push', n_put', isCell_undef, known_undef, cells_undef, isCell_bool, known_bool, cells_bool, isCell_int, known_int, cells_int, isCell_str, known_str, cells_str, isCell_nilp, known_nilp, cells_nilp, isCell_ptr, known_ptr, cells_ptr, isCell_rptr, known_rptr, cells_rptr, isCell_nils, known_nils, cells_nils, isCell_slice, known_slice, cells_slice, isCell_rsl, known_rsl, cells_rsl, isCell_nilm, known_nilm, cells_nilm, isCell_map, known_map, cells_map, isCell_fn, known_fn, cells_fn, isCell_yld, known_yld, cells_yld, isCell_nilf, known_nilf, cells_nilf, isCell_iface, known_iface, cells_iface, isCell_nili, known_nili, cells_nili, isCell_agg, known_agg, cells_agg, isCell_tup, known_tup, cells_tup, setCells, nowhere, GotF_some, Got_some, int_beq, int_bne, vlocD]
              exact hq2' _ _ _ (by simp) ⟨rfl, d, op, q, v, T, _, _, _, rfl, by simpa using hK, hL, hB⟩)
        obtain ⟨rfl, d', op', q', v', T', sc', a14', a87', rfl, hK', hL', hB'⟩ := hq'
        obtain ⟨v2, hs2, hl2⟩ := live_tail hL'
        simp [evalC_seq, evalC_region, runA_cons', runA_consN, runA_consG, guardR_true, guardR_false, guardV_bool, guardV_tup, runA_nil', inFrame, startLoc, startVals, Loc.clear, eff_move, eff_assign, eff_binOp, eff_build, eff_buildSlice, eff_alloc, eff_box, eff_store, eff_load, eff_fieldAddr, eff_field, eff_indexAddr, eff_slice, eff_extract, eff_pick, eff_unOp, eff_convert, eff_makeSlice, eff_makeFunc, eff_makeInterface, eff_nilCheck, eff_panic, eff_len1, eff_max2, eff_min2, eff_append2, eff_callV, stepE_val, contR_ok, contR_pan, outC_ok, outC_pan, thenC_normal, thenC_ret, thenC_exit, thenC_pan, blockC, evalC_ret, evalC_skip, evalC_exit, evalC_block, evalC_scope, evalC_loop, Loc.putO, Loc.put, idx, evO, constV, Loc.get, Vm.look, valO_some, bin_int, intA, evalC_cond, condC_true, condC_false, unwindA, resultsA, resultV, actA, pureA, storeA, loadA, fillE, repElems, TI.zeroV, fieldOf, fieldAddrA, fieldA, elemsA, retE, cells?_put_push, push_at, put_at, cellsOf?, Nat.add_assoc, n_push', n_put', isCell_undef, known_undef, cells_undef, isCell_bool, known_bool, cells_bool, isCell_int, known_int, cells_int, isCell_str, known_str, cells_str, isCell_nilp, known_nilp, cells_nilp, isCell_ptr, known_ptr, cells_ptr, isCell_rptr, known_rptr, cells_rptr, isCell_nils, known_nils, cells_nils, isCell_slice, known_slice, cells_slice, isCell_rsl, known_rsl, cells_rsl, isCell_nilm, known_nilm, cells_nilm, isCell_map, known_map, cells_map, isCell_fn, known_fn, cells_fn, isCell_yld, known_yld, cells_yld, isCell_nilf, known_nilf, cells_nilf, isCell_iface, known_iface, cells_iface, isCell_nili, known_nili, cells_nili, isCell_agg, known_agg, cells_agg, isCell_tup, known_tup, cells_tup, setCells, nowhere, GotF_some, Got_some, int_beq, int_bne, vlocD, hs2]
        exact hq1 (r - 1) _ _ (by omega) ⟨d', P1, op', q', a, s + 1, v2, T', _, _, _, _, _, by omega, by omega, rfl, hK', hl2, hB'⟩)
  obtain ⟨rfl, d, P, op, a, s, v, sc, a14, a85, a86, a87, hs, rfl, hK, hB⟩ := hq
  have hb9 := hB.g9
  have hb1 := hB.c1
  have uN := fun (n : Nat) (S : St) (b : Bool) => need_use (cs := csD) (by funext a; rfl) (n := n) (b := b) (S := S)
  by_cases hf : fresh P = 0
  · have hsN : s = N := by omega
    subst hsN
    have uN1 := fun (n : Nat) (S : St) => uN n S true
    simp [evalC_seq, evalC_region, runA_cons', runA_consN, runA_consG, guardR_true, guardR_false, guardV_bool, guardV_tup, runA_nil', inFrame, startLoc, startVals, Loc.clear, eff_move, eff_assign, eff_binOp, eff_build, eff_buildSlice, eff_alloc, eff_box, eff_store, eff_load, eff_fieldAddr, eff_field, eff_indexAddr, eff_slice, eff_extract, eff_pick, eff_unOp, eff_convert, eff_makeSlice, eff_makeFunc, eff_makeInterface, eff_nilCheck, eff_panic, eff_len1, eff_max2, eff_min2, eff_append2, eff_callV, stepE_val, contR_ok, contR_pan, outC_ok, outC_pan, thenC_normal, thenC_ret, thenC_exit, thenC_pan, blockC, evalC_ret, evalC_skip, evalC_exit, evalC_block, evalC_scope, evalC_loop, Loc.putO, Loc.put, idx, evO, constV, Loc.get, Vm.look, valO_some, bin_int, intA, evalC_cond, condC_true, condC_false, unwindA, resultsA, resultV, actA, pureA, storeA, loadA, fillE, repElems, TI.zeroV, fieldOf, fieldAddrA, fieldA, elemsA, retE, cells?_put_push, push_at, put_at, cellsOf?, Nat.add_assoc, n_push', n_put', isCell_undef, known_undef, cells_undef, isCell_bool, known_bool, cells_bool, isCell_int, known_int, cells_int, isCell_str, known_str, cells_str, isCell_nilp, known_nilp, cells_nilp, isCell_ptr, known_ptr, cells_ptr, isCell_rptr, known_rptr, cells_rptr, isCell_nils, known_nils, cells_nils, isCell_slice, known_slice, cells_slice, isCell_rsl, known_rsl, cells_rsl, isCell_nilm, known_nilm, cells_nilm, isCell_map, known_map, cells_map, isCell_fn, known_fn, cells_fn, isCell_yld, known_yld, cells_yld, isCell_nilf, known_nilf, cells_nilf, isCell_iface, known_iface, cells_iface, isCell_nili, known_nili, cells_nili, isCell_agg, known_agg, cells_agg, isCell_tup, known_tup, cells_tup, setCells, nowhere, GotF_some, Got_some, int_beq, int_bne, vlocD, hb9, hb1, uN1]
    refine hp _ _ (some d) (hK.done hf hin) (melt_at ?_ hK.dl hN1)
    rw [cells?_put_ne _ _ _ (by decide)]
    exact hB.c2
  · have hsN : ¬ (s : Int) = (N : Int) := by omega
    have uN1 := fun (n : Nat) (S : St) => uN n S false
    simp only [Bool.false_eq_true, if_false] at uN1
    simp [evalC_seq, evalC_region, runA_cons', runA_consN, runA_consG, guardR_true, guardR_false, guardV_bool, guardV_tup, runA_nil', inFrame, startLoc, startVals, Loc.clear, eff_move, eff_assign, eff_binOp, eff_build, eff_buildSlice, eff_alloc, eff_box, eff_store, eff_load, eff_fieldAddr, eff_field, eff_indexAddr, eff_slice, eff_extract, eff_pick, eff_unOp, eff_convert, eff_makeSlice, eff_makeFunc, eff_makeInterface, eff_nilCheck, eff_panic, eff_len1, eff_max2, eff_min2, eff_append2, eff_callV, stepE_val, contR_ok, contR_pan, outC_ok, outC_pan, thenC_normal, thenC_ret, thenC_exit, thenC_pan, blockC, evalC_ret, evalC_skip, evalC_exit, evalC_block, evalC_scope, evalC_loop, Loc.putO, Loc.put, idx, evO, constV, Loc.get, Vm.look, valO_some, bin_int, intA, evalC_cond, condC_true, condC_false, unwindA, resultsA, resultV, actA, pureA, storeA, loadA, fillE, repElems, TI.zeroV, fieldOf, fieldAddrA, fieldA, elemsA, retE, cells?_put_push, push_at, put_at, cellsOf?, Nat.add_assoc, n_push', n_put', isCell_undef, known_undef, cells_undef, isCell_bool, known_bool, cells_bool, isCell_int, known_int, cells_int, isCell_str, known_str, cells_str, isCell_nilp, known_nilp, cells_nilp, isCell_ptr, known_ptr, cells_ptr, isCell_rptr, known_rptr, cells_rptr, isCell_nils, known_nils, cells_nils, isCell_slice, known_slice, cells_slice, isCell_rsl, known_rsl, cells_rsl, isCell_nilm, known_nilm, cells_nilm, isCell_map, known_map, cells_map, isCell_fn, known_fn, cells_fn, isCell_yld, known_yld, cells_yld, isCell_nilf, known_nilf, cells_nilf, isCell_iface, known_iface, cells_iface, isCell_nili, known_nili, cells_nili, isCell_agg, known_agg, cells_agg, isCell_tup, known_tup, cells_tup, setCells, nowhere, GotF_some, Got_some, int_beq, int_bne, vlocD, hb9, hb1, hsN, uN1, stepE_pan', contR_pan, outC_pan, thenC_pan]
    refine hp _ _ none (hK.stuck hf hin) ?_
    rfl

end Go.Proofs.YtjgigcaelcapdaaDoor
