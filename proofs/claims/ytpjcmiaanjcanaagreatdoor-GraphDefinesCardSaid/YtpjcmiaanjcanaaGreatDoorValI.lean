/-
Words, couples, components and levels of the reference. No conditions.
-/
import Derived.Test.YtpjcmiaanjcanaaGreatDoorValH
set_option linter.all false

namespace Go.Proofs.YtpjcmiaanjcanaaGreatDoor
open Go Go.Vm Go.Vm.T
set_option maxRecDepth 100000
set_option linter.unusedSimpArgs false
set_option linter.unusedVariables false
attribute [local simp] inFrame startLoc startVals Loc.clear blockC Loc.putO Loc.put idx evO constV Loc.get Vm.look intA unwindA resultsA resultV actA pureA storeA loadA fillE repElems TI.zeroV fieldOf fieldAddrA fieldA elemsA retE cellsOf? setCells nowhere

set_option maxHeartbeats 4000000

/-! the reference's lists -/
theorem appendG_int {S : St} {v : AV} {zs : List Int} {B : Nat} (z : Int) (hl : GrowL B S v (ints zs)) (hB : B ≤ S.n) (hlen : zs.length ≤ 10000) :
    ∃ v' S', appendA ED S 3 v [.int .i64 z] = some (v', S') ∧ GrowL B S' v' (ints (zs ++ [z])) ∧ OldB B S S' := by
  rw [ints_append]
  exact append_G (i := ti3) ED_ti3 rfl hl hB (List.all_eq_true.2 (fun y hy => by
    unfold ints at hy
    obtain ⟨z, _, rfl⟩ := List.mem_map.1 hy
    rfl)) rfl rfl (by simp [roomOk, roomMost, ti3]; omega)
theorem appendG_slc {S : St} {v : AV} {rs : List AV} {B : Nat} (x : List Int) (hl : GrowL B S v rs) (hB : B ≤ S.n) (hall : rs.all AV.isCell = true) (hlen : rs.length ≤ 10000) :
    ∃ v' S', appendA ED S 62 v [slcI x] = some (v', S') ∧ GrowL B S' v' (rs ++ [slcI x]) ∧ OldB B S S' :=
  append_G (i := ti62) ED_ti62 rfl hl hB hall rfl rfl (by
    show decide ((rs.length + 1) * (24 + 1) ≤ roomMost) = true
    rw [decide_eq_true_iff]
    unfold roomMost
    omega)
theorem oldB_isn {B : Nat} {S S' : St} (h : OldB B S S') (k : B ≤ S.n) : B ≤ S'.n := Nat.le_trans k h.n
theorem ints_isCell (zs : List Int) : (ints zs).all AV.isCell = true := List.all_eq_true.2 (fun y hy => by
    unfold ints at hy
    obtain ⟨z, _, rfl⟩ := List.mem_map.1 hy
    rfl)
theorem growL_slc {B : Nat} {S : St} {v : AV} {zs : List Int} (h : GrowL B S v (ints zs)) : (FRes.ret v).melt S = .ret (slcI zs) := by
  show FRes.ret (v.melt S) = _
  rw [h.melt (ints_isCell zs), ints_dead]
  rfl

def wordsRC : Con := rvC 59 (fun v => v.kids.length ≤ 4096) fun v => .ret (slcI v.wds)
theorem wordsR_ok : wordsRC.Ok Tryz.prog ED := by
  refine Con.ok_at ED_ok ED_pers [] (by simp) (fun (v : RV) _ => ⟨rv_pers v, slcI_pers _⟩) ?_
  intro (v : RV) hlen
  replace hlen : v.kids.length ≤ 4096 := hlen
  show ∃ n, ∀ p : FRes → St → Prop, (∀ r S', r.melt S' = .ret (slcI v.wds) → p r S') → GotF (callS ED (sumOf []) n (.fn 59) [v.enc] S0) p
  refine ⟨v.kids.length + 2, fun p hp => ?_⟩
  rw [callS_fn rfl]
  unfold RV.wds at hp
  have e := v.look
  obtain ⟨c1, c2, c3⟩ := v.cell
  have hvl := v.len
  have hidx := fun j (hj : j < v.kids.length) => v.index hj
  rw [e]
  generalize v.lst = A at *
  generalize v.kind = vk at *
  generalize v.num = vn at *
  generalize v.kids = es at *
  simp only [fnA, ED_fn59, fi59, Tryz.f59]
  simp [vmS, c1]
  generalize hc : iter _ _ _ _ = c
  obtain ⟨e, L', S', rfl, hq⟩ := loop_of hc
    (fun r L S => ∃ j sc w, j + r = es.length ∧ L = vloc [.agg [.int .i64 vk, .int .i64 vn, A], .ptr 0 0, .nils, w, .int .i64 (j : Nat)] sc ∧
      S.cells? 0 = some [.int .i64 vk, .int .i64 vn, A] ∧ GrowL 1 S w (ints ((es.take j).map RV.num)) ∧ 1 ≤ S.n)
    (fun e L S => e = .exit 0 ∧ ∃ sc w i, L = vloc [.agg [.int .i64 vk, .int .i64 vn, A], .ptr 0 0, .nils, w, i] sc ∧
      GrowL 1 S w (ints (es.map RV.num)))
    es.length (by omega)
    (by
      refine ⟨0, _, _, by simp, rfl, ?_, .inl ⟨rfl, by simp [ints]⟩, ?_⟩
      · simp [push_at, cellsOf?]
      · rw [n_push']; omega)
    (by
      rintro r L S ⟨j, sc, w, hjk, rfl, g1, hl, hn⟩ q hq1 hq2
      by_cases hj : j < es.length
      · obtain ⟨v', S', ha, hl', hold⟩ := appendG_int (RV.num es[j]) hl hn (by simp; omega)
        have hw : IntKind.i64.wrap ((j : Int) + 1) = ((j : Int) + 1) := wrap_id (by omega) (by omega)
        have x1 := hidx j hj
        have e1 : (es.take (j + 1)).map RV.num = (es.take j).map RV.num ++ [RV.num es[j]] := by
          rw [List.take_add_one, List.getElem?_eq_getElem hj, List.map_append]; rfl
        rw [← e1] at hl'
        obtain ⟨y1, y2, y3⟩ := es[j].cell
        rw [es[j].look] at x1
        simp [vmS, vloc, hvl, hj, g1, x1, ha, hw, y1, y2, y3]
        exact hq1 (r - 1) _ _ (by omega) ⟨j + 1, _, v', by omega, rfl, hold.cells (by decide) g1, hl', oldB_isn hold hn⟩
      · have hjl : j = es.length := by omega
        subst hjl
        simp [vmS, vloc, hvl, g1]
        refine hq2 _ _ _ (by simp) ⟨rfl, _, w, _, rfl, by simpa using hl⟩)
  obtain ⟨rfl, sc, w, i, rfl, hl⟩ := hq
  simp [vmS, vloc]
  exact hp _ _ (growL_slc hl)
theorem wordsR_use {cs : List Con} (h : sumOf cs 59 = wordsRC.look) {n : Nat} {v : RV} {S : St} (hv : v.kids.length ≤ 4096) : callS ED (sumOf cs) n (.fn 59) [v.enc] S = some (.ret (slcI v.wds), S) := rv_use h hv

/-! couples -/
def cplA (rs : List (List Int)) : AV := .slice (rs.map slcI) .dead
theorem slcs_pers (rs : List (List Int)) : AV.persL (rs.map slcI) = true := by
  rw [AV.persL_iff]
  intro x hx
  obtain ⟨e, _, rfl⟩ := List.mem_map.1 hx
  exact slcI_pers e
theorem cplA_pers (rs : List (List Int)) : (cplA rs).pers = true := by simp [cplA, AV.pers, slcs_pers]
theorem slcs_cell (rs : List (List Int)) : (rs.map slcI).all AV.isCell = true := List.all_eq_true.2 (fun x hx => by
  obtain ⟨e, _, rfl⟩ := List.mem_map.1 hx
  rfl)
theorem slcs_dead (rs : List (List Int)) : AV.deadL (rs.map slcI) = rs.map slcI := by
  rw [AV.deadL_map]; exact map_dead (fun x hx => dead_of_pers x (AV.persL_iff.1 (slcs_pers rs) x hx))
def RV.cpl (v : RV) : List (List Int) := v.kids.map RV.wds
def couplesC : Con := rvC 62 (fun v => v.kids.length ≤ 4096 ∧ ∀ k ∈ v.kids, k.kids.length ≤ 4096) fun v => .ret (cplA v.cpl)
theorem couples_ok : couplesC.Ok Tryz.prog ED := by
  refine Con.ok_at ED_ok ED_pers [wordsRC] (by simpa using wordsR_ok) (fun (v : RV) _ => ⟨rv_pers v, cplA_pers _⟩) ?_
  intro (v : RV) hlen
  obtain ⟨hlen, hk⟩ := (hlen : v.kids.length ≤ 4096 ∧ ∀ k ∈ v.kids, k.kids.length ≤ 4096)
  show ∃ n, ∀ p : FRes → St → Prop, (∀ r S', r.melt S' = .ret (cplA v.cpl) → p r S') → GotF (callS ED (sumOf [wordsRC]) n (.fn 62) [v.enc] S0) p
  refine ⟨v.kids.length + 2, fun p hp => ?_⟩
  rw [callS_fn rfl]
  unfold RV.cpl at hp
  have hu := fun (n : Nat) (S : St) (x : RV) (hx : x ∈ v.kids) => wordsR_use (cs := [wordsRC]) rfl (n := n) (S := S) (v := x) (hk x hx)
  have e := v.look
  obtain ⟨c1, c2, c3⟩ := v.cell
  have hvl := v.len
  have hidx := fun j (hj : j < v.kids.length) => v.index hj
  rw [e]
  generalize v.lst = A at *
  generalize v.kind = vk at *
  generalize v.num = vn at *
  generalize v.kids = es at *
  simp only [fnA, ED_fn62, fi62, Tryz.f62]
  simp [vmS, c1]
  generalize hc : iter _ _ _ _ = c
  obtain ⟨e, L', S', rfl, hq⟩ := loop_of hc
    (fun r L S => ∃ j sc w, j + r = es.length ∧ L = vloc [.agg [.int .i64 vk, .int .i64 vn, A], .ptr 0 0, .nils, w, .int .i64 (j : Nat)] sc ∧
      S.cells? 0 = some [.int .i64 vk, .int .i64 vn, A] ∧ GrowL 1 S w (((es.take j).map RV.wds).map slcI) ∧ 1 ≤ S.n)
    (fun e L S => e = .exit 0 ∧ ∃ sc w i, L = vloc [.agg [.int .i64 vk, .int .i64 vn, A], .ptr 0 0, .nils, w, i] sc ∧
      GrowL 1 S w ((es.map RV.wds).map slcI))
    es.length (by omega)
    (by
      refine ⟨0, _, _, by simp, rfl, ?_, .inl ⟨rfl, by simp⟩, ?_⟩
      · simp [push_at, cellsOf?]
      · rw [n_push']; omega)
    (by
      rintro r L S ⟨j, sc, w, hjk, rfl, g1, hl, hn⟩ q hq1 hq2
      by_cases hj : j < es.length
      · obtain ⟨v', S', ha, hl', hold⟩ := appendG_slc (RV.wds es[j]) hl hn (slcs_cell _) (by simp; omega)
        have hw : IntKind.i64.wrap ((j : Int) + 1) = ((j : Int) + 1) := wrap_id (by omega) (by omega)
        have x1 := hidx j hj
        have x2 := fun n S => hu n S es[j] (List.getElem_mem hj)
        have e1 : ((es.take (j + 1)).map RV.wds).map slcI = ((es.take j).map RV.wds).map slcI ++ [slcI (RV.wds es[j])] := by
          rw [List.take_add_one, List.getElem?_eq_getElem hj, List.map_append, List.map_append]; rfl
        rw [← e1] at hl'
        obtain ⟨y1, y2, y3⟩ := es[j].cell
        rw [es[j].look] at x1 x2
        unfold slcI at ha x2
        simp [vmS, vloc, hvl, hj, g1, x1, x2, ha, hw, y1, y2, y3]
        exact hq1 (r - 1) _ _ (by omega) ⟨j + 1, _, v', by omega, rfl, hold.cells (by decide) g1, hl', oldB_isn hold hn⟩
      · have hjl : j = es.length := by omega
        subst hjl
        simp [vmS, vloc, hvl, g1]
        refine hq2 _ _ _ (by simp) ⟨rfl, _, w, _, rfl, by simpa using hl⟩)
  obtain ⟨rfl, sc, w, i, rfl, hl⟩ := hq
  simp [vmS, vloc]
  refine hp _ _ ?_
  show FRes.ret (w.melt S') = _
  rw [hl.melt (slcs_cell _), slcs_dead]
  rfl
theorem couples_use {cs : List Con} (h : sumOf cs 62 = couplesC.look) {n : Nat} {v : RV} {S : St} (hv : v.kids.length ≤ 4096 ∧ ∀ k ∈ v.kids, k.kids.length ≤ 4096) : callS ED (sumOf cs) n (.fn 62) [v.enc] S = some (.ret (cplA v.cpl), S) := rv_use h hv

/-! is a number a node? -/
def nodeC : Con where
  f := 91
  X := Int × Nat
  dom x := x.2 ≤ 4096
  enc x := [.int .i64 x.1, .int .i64 x.2]
  res x := .ret (.bool (inN x.2 x.1))
theorem node_ok : nodeC.Ok Tryz.prog ED := by
  refine Con.ok_at ED_ok ED_pers [liesC] (by simpa using lies_ok) (fun x _ => ⟨rfl, rfl⟩) ?_
  rintro ⟨a, N⟩ hN
  replace hN : N ≤ 4096 := hN
  show ∃ n, ∀ p : FRes → St → Prop, (∀ r S', r.melt S' = .ret (.bool (inN N a)) → p r S') → GotF (callS ED (sumOf [liesC]) n (.fn 91) [.int .i64 a, .int .i64 N] S0) p
  refine ⟨1, fun p hp => ?_⟩
  rw [callS_fn rfl]
  have hl := fun (n : Nat) (S : St) (a b c : Int) => lies_use (cs := [liesC]) rfl (n := n) (S := S) (a := a) (b := b) (c := c)
  have hw : IntKind.i64.wrap ((N : Int) - 1) = (N : Int) - 1 := wrap_id (by omega) (by omega)
  have he : (decide (0 ≤ a) && decide (a ≤ (N : Int) - 1)) = inN N a := by
    unfold inN
    by_cases h1 : 0 ≤ a <;> by_cases h2 : a < (N : Int)
    · simp [h1, h2]; omega
    · simp [h1, h2]; omega
    · simp [h1]
    · simp [h1]
  have hl' := fun (n : Nat) (S : St) => hl n S a 0 ((N : Int) - 1)
  rw [he] at hl'
  simp only [fnA, ED_fn91, fi91, Tryz.f91]
  simp [vmS, lenA, indexAddrA, hw, hl']
  exact hp _ _ rfl
theorem node_use {cs : List Con} (h : sumOf cs 91 = nodeC.look) {n : Nat} {a : Int} {N : Nat} {S : St} (hN : N ≤ 4096) : callS ED (sumOf cs) n (.fn 91) [.int .i64 a, .int .i64 N] S = some (.ret (.bool (inN N a)), S) :=
  Con.use (c := nodeC) (fun (x y : Int × Nat) _ _ h => by
    obtain ⟨a, b⟩ := x
    obtain ⟨c, d⟩ := y
    have h' : [AV.int .i64 a, AV.int .i64 (b : Int)] = [AV.int .i64 c, AV.int .i64 (d : Int)] := h
    simp only [List.cons.injEq, AV.int.injEq, true_and, and_true] at h'
    have h2 : b = d := by have := h'.2; omega
    rw [h'.1, h2]) h ((a, N) : Int × Nat) hN rfl

end Go.Proofs.YtpjcmiaanjcanaaGreatDoor

namespace Go.Proofs.YtpjcmiaanjcanaaGreatDoor
open Go Go.Vm Go.Vm.T
set_option maxRecDepth 100000
set_option linter.unusedSimpArgs false
set_option linter.unusedVariables false
attribute [local simp] inFrame startLoc startVals Loc.clear blockC Loc.putO Loc.put idx evO constV Loc.get Vm.look intA unwindA resultsA resultV actA pureA storeA loadA fillE repElems TI.zeroV fieldOf fieldAddrA fieldA elemsA retE cellsOf? setCells nowhere

set_option maxHeartbeats 4000000

/-! loops over edges until nothing changes: what they end with -/
theorem sum_set : ∀ {l : List Nat} {i v : Nat}, i < l.length → (l.set i v).sum + l.getD i 0 = l.sum + v
  | x :: l, 0, v, _ => by simp only [List.set_cons_zero, List.sum_cons, List.getD_cons_zero]; omega
  | x :: l, i + 1, v, h => by
    have := sum_set (l := l) (i := i) (v := v) (by simpa using h)
    simp only [List.set_cons_succ, List.sum_cons, List.getD_cons_succ]
    omega
theorem getD_setN {d : List Nat} {i k : Nat} {z : Nat} (hi : i < d.length) : (d.set i z).getD k 0 = if k = i then z else d.getD k 0 := by
  simp only [List.getD_eq_getElem?_getD, List.getElem?_set]
  by_cases h : i = k
  · subst h; simp [hi]
  · rw [if_neg h, if_neg (Ne.symm h)]
theorem ext_getD {a b : List Nat} (h : a.length = b.length) (hg : ∀ i, i < a.length → a.getD i 0 = b.getD i 0) : a = b := by
  apply List.ext_getElem h
  intro i h1 h2
  have := hg i h1
  simpa [List.getD_eq_getElem?_getD, h1, h2] using this
theorem ext_getZ {a b : List Int} (h : a.length = b.length) (hg : ∀ i, i < a.length → a.getD i 0 = b.getD i 0) : a = b := by
  apply List.ext_getElem h
  intro i h1 h2
  have := hg i h1
  simpa [List.getD_eq_getElem?_getD, h1, h2] using this

/-! components -/
def relC (u : List Nat) (x y : Nat) : List Nat := (u.set x (min (u.getD x 0) (u.getD y 0))).set y (min (u.getD x 0) (u.getD y 0))

structure RelI (N : Nat) (es : List (Int × Int)) (u : List Nat) : Prop where
  len : u.length = N
  low : ∀ i, i < N → (compsL N es).getD i 0 ≤ u.getD i 0
  high : ∀ i, i < N → u.getD i 0 ≤ i

theorem RelI.start {N : Nat} {es : List (Int × Int)} (hg : InGraph N es) : RelI N es (List.range N) := by
  obtain ⟨⟨u, hu, hl⟩, _⟩ := comps_up hg
  have hr : ∀ i, i < N → (List.range N).getD i 0 = i := fun i hi => by simp [List.getD_eq_getElem?_getD, hi]
  exact ⟨by simp, fun i hi => by rw [hr i hi]; exact hu.lowR i, fun i hi => by rw [hr i hi]; exact Nat.le_refl _⟩

theorem RelI.step {N : Nat} {es : List (Int × Int)} {u : List Nat} {e : Int × Int} {x y : Nat} (h : RelI N es u) (hg : InGraph N es) (he : e ∈ es) (hx : e.1.toNat = x) (hy : e.2.toNat = y) (hne : u.getD x 0 ≠ u.getD y 0) :
    RelI N es (relC u x y) ∧ (relC u x y).sum < u.sum := by
  obtain ⟨⟨⟨a1, a2⟩, a3, a4⟩, hR⟩ := And.intro (hg e he) ((comps_up hg).2 e he)
  rw [hx, hy] at hR
  have hxN : x < N := by omega
  have hyN : y < N := by omega
  have hxy : x ≠ y := fun k => hne (by rw [k])
  have hlx := h.low x hxN
  have hly := h.low y hyN
  have hhx := h.high x hxN
  have hhy := h.high y hyN
  have hxl : x < u.length := by rw [h.len]; exact hxN
  have hyl : y < u.length := by rw [h.len]; exact hyN
  obtain ⟨m, hm⟩ : ∃ m, m = min (u.getD x 0) (u.getD y 0) := ⟨_, rfl⟩
  have hyl' : y < (u.set x m).length := by simpa using hyl
  have e1 : ∀ k, ((u.set x m).set y m).getD k 0 = if k = y then m else if k = x then m else u.getD k 0 := fun k => by
    rw [getD_setN hyl', getD_setN hxl]
  unfold relC
  rw [← hm]
  refine ⟨⟨by simp [h.len], fun i hi => ?_, fun i hi => ?_⟩, ?_⟩
  · rw [e1]
    by_cases k1 : i = y
    · subst k1; rw [if_pos rfl]; omega
    · rw [if_neg k1]
      by_cases k2 : i = x
      · subst k2; rw [if_pos rfl]; omega
      · rw [if_neg k2]; exact h.low i hi
  · rw [e1]
    by_cases k1 : i = y
    · subst k1; rw [if_pos rfl]; omega
    · rw [if_neg k1]
      by_cases k2 : i = x
      · subst k2; rw [if_pos rfl]; omega
      · rw [if_neg k2]; exact h.high i hi
  · have s1 := sum_set (v := m) hxl
    have s2 := sum_set (v := m) hyl'
    rw [getD_setN hxl, if_neg (Ne.symm hxy)] at s2
    omega

theorem same_class {N : Nat} {u : List Nat} : ∀ (n : Nat) (es : List (Int × Int)), es.length = n → InGraph N es → (∀ e ∈ es, u.getD e.1.toNat 0 = u.getD e.2.toNat 0) → ∀ i, i < N → u.getD ((compsL N es).getD i 0) 0 = u.getD i 0 := by
  intro n
  induction n with
  | zero =>
    intro es hl _ _ i hi
    have := List.length_eq_zero_iff.1 hl
    subst this
    have : (compsL N []).getD i 0 = i := by simp [compsL, List.getD_eq_getElem?_getD, hi]
    rw [this]
  | succ n ih =>
    intro es hln hg hu i hi
    obtain ⟨l, e, rfl⟩ : ∃ m r, es = m ++ [r] := by
      have hne : es ≠ [] := by intro e; subst e; simp at hln
      exact ⟨es.dropLast, es.getLast hne, (List.dropLast_concat_getLast hne).symm⟩
    have hgl : InGraph N l := fun a ha => hg a (by simp [ha])
    have hge := hg e (by simp)
    have ih' := ih l (by simpa using hln) hgl (fun a ha => hu a (by simp [ha]))
    obtain ⟨f1, f2, f3⟩ := comps_facts hgl (e := e) hge i hi
    have i1 := ih' i hi
    have ix := ih' e.1.toNat (by omega)
    have iy := ih' e.2.toNat (by omega)
    have hue := hu e (by simp)
    rw [f3]
    generalize (compsL N l).getD e.1.toNat 0 = a at *
    generalize (compsL N l).getD e.2.toNat 0 = b at *
    generalize (compsL N l).getD i 0 = c at *
    split
    · rename_i k
      rcases Nat.le_total a b with q | q
      · rw [Nat.min_eq_left q]
        rcases k with k | k
        · rw [← k]; exact i1
        · rw [ix, hue, ← iy, ← k]; exact i1
      · rw [Nat.min_eq_right q]
        rcases k with k | k
        · rw [iy, ← hue, ← ix, ← k]; exact i1
        · rw [← k]; exact i1
    · exact i1

theorem RelI.done {N : Nat} {es : List (Int × Int)} {u : List Nat} (h : RelI N es u) (hg : InGraph N es) (hu : ∀ e ∈ es, u.getD e.1.toNat 0 = u.getD e.2.toNat 0) : u = compsL N es := by
  refine ext_getD (by rw [h.len, compsL_len]) fun i hi => ?_
  rw [h.len] at hi
  obtain ⟨⟨r, hr, hl⟩, _⟩ := comps_up hg
  have h1 := same_class es.length es rfl hg hu i hi
  have h2 := hr.lowR i
  have h3 := hr.idem i (by omega)
  have h4 := h.low _ (show (compsL N es).getD i 0 < N by omega)
  have h5 := h.high _ (show (compsL N es).getD i 0 < N by omega)
  omega

/-! distances -/
def sumD (N : Nat) (d : List Int) : Nat := (d.map fun z => if z < 0 then N else z.toNat).sum

structure DisI (N start : Nat) (D d : List Int) : Prop where
  len : d.length = N
  at0 : start < N → d.getD start 0 = 0
  some : ∀ i, i < N → d.getD i 0 = -1 ∨ (0 ≤ D.getD i 0 ∧ D.getD i 0 ≤ d.getD i 0 ∧ d.getD i 0 + fresh d + 1 ≤ N)

theorem sumD_set {N : Nat} {d : List Int} {i : Nat} {z : Int} (hi : i < d.length) : sumD N (d.set i z) + (if d.getD i 0 < 0 then N else (d.getD i 0).toNat) = sumD N d + (if z < 0 then N else z.toNat) := by
  unfold sumD
  rw [List.map_set]
  have := sum_set (l := d.map fun z => if z < 0 then N else z.toNat) (i := i) (v := if z < 0 then N else z.toNat) (by simpa using hi)
  have e : (d.map fun z => if z < 0 then N else z.toNat).getD i 0 = (if d.getD i 0 < 0 then N else (d.getD i 0).toNat) := by
    simp [List.getD_eq_getElem?_getD, hi]
  rw [e] at this
  exact this
theorem fresh_same : ∀ {d : List Int} {i : Nat} {z : Int}, i < d.length → 0 ≤ d.getD i 0 → 0 ≤ z → fresh (d.set i z) = fresh d
  | x :: d, 0, z, _, h, hz => by
    simp only [List.getD_cons_zero] at h
    simp [fresh, show ¬ x < 0 by omega, show ¬ z < 0 by omega]
  | x :: d, i + 1, z, hi, h, hz => by
    have ih := fresh_same (d := d) (i := i) (z := z) (by simpa using hi) (by simpa using h) hz
    unfold fresh at ih ⊢
    simp only [List.set_cons_succ, List.filter_cons]
    split <;> simp_all

theorem DisI.step {N start : Nat} {es : List (Int × Int)} {D d : List Int} {e : Int × Int} {x y : Nat} (h : DisI N start D d) (hD : Dist N start es D) (hg : InGraph N es) (he : e ∈ es) (hx : e.1.toNat = x) (hy : e.2.toNat = y)
    (h1 : 0 ≤ d.getD x 0) (h2 : d.getD y 0 < 0 ∨ d.getD x 0 + 1 < d.getD y 0) : DisI N start D (d.set y (d.getD x 0 + 1)) ∧ sumD N (d.set y (d.getD x 0 + 1)) < sumD N d := by
  have hgr := hg e he
  have hxN : x < N := by omega
  have hyN : y < N := by omega
  have hyl : y < d.length := by rw [h.len]; exact hyN
  have hE := hD.edge e he
  rw [hx, hy] at hE
  have sx := h.some x hxN
  have sy := h.some y hyN
  have hgd := fun k => getD_set (d := d) (k := k) (z := d.getD x 0 + 1) hyl
  have sm := sumD_set (N := N) (z := d.getD x 0 + 1) hyl
  rw [if_neg (show ¬ d.getD x 0 + 1 < 0 by omega)] at sm
  by_cases hn : d.getD y 0 < 0
  · have hf := fresh_set (z := d.getD x 0 + 1) hyl hn (by omega)
    refine ⟨⟨by simp [h.len], fun hs => ?_, fun i hi => ?_⟩, ?_⟩
    · rw [hgd]
      by_cases k : start = y
      · subst k; have := h.at0 hs; omega
      · rw [if_neg k]; exact h.at0 hs
    · rw [hgd]
      by_cases k : i = y
      · subst k; rw [if_pos rfl]; right; omega
      · rw [if_neg k]
        rcases h.some i hi with q | q
        · exact .inl q
        · right; omega
    · rw [if_pos hn] at sm; omega
  · have hf := fresh_same (z := d.getD x 0 + 1) hyl (by omega) (by omega)
    have h2' : d.getD x 0 + 1 < d.getD y 0 := by omega
    refine ⟨⟨by simp [h.len], fun hs => ?_, fun i hi => ?_⟩, ?_⟩
    · rw [hgd]
      by_cases k : start = y
      · subst k; have := h.at0 hs; omega
      · rw [if_neg k]; exact h.at0 hs
    · rw [hgd]
      by_cases k : i = y
      · subst k; rw [if_pos rfl]; right; omega
      · rw [if_neg k, hf]; exact h.some i hi
    · rw [if_neg hn] at sm; omega

theorem DisI.done {N start : Nat} {es : List (Int × Int)} {D d : List Int} (h : DisI N start D d) (hD : Dist N start es D) (hg : InGraph N es)
    (hc : ∀ e ∈ es, 0 ≤ d.getD e.1.toNat 0 → 0 ≤ d.getD e.2.toNat 0 ∧ d.getD e.2.toNat 0 ≤ d.getD e.1.toNat 0 + 1) : d = D := by
  have key : ∀ (n i : Nat), i < N → D.getD i 0 = n → 0 ≤ d.getD i 0 ∧ d.getD i 0 ≤ n := by
    intro n
    induction n with
    | zero =>
      intro i hi hz
      have := (hD.zero i hi).1 (by simpa using hz)
      subst this
      rw [h.at0 hi]
      simp
    | succ n ih =>
      intro i hi hz
      obtain ⟨e, k1, k2, k3, k4⟩ := hD.near i hi (by omega)
      have hgr := hg e k1
      have := ih e.1.toNat (by omega) (by omega)
      have hc' := hc e k1 this.1
      rw [k2] at hc'
      omega
  refine ext_getZ (by rw [h.len, hD.len]) fun i hi => ?_
  rw [h.len] at hi
  have hl := hD.low i hi
  rcases h.some i hi with q | ⟨q1, q2, q3⟩
  · by_cases k : 0 ≤ D.getD i 0
    · have := key (D.getD i 0).toNat i hi (by omega); omega
    · omega
  · have := key (D.getD i 0).toNat i hi (by omega); omega

theorem DisI.start {N start : Nat} {es : List (Int × Int)} {D : List Int} (hD : Dist N start es D) : DisI N start D ((List.range N).map fun i => if i = start then 0 else -1) := by
  have hg : ∀ i, i < N → ((List.range N).map fun i => if i = start then (0 : Int) else -1).getD i 0 = if i = start then 0 else -1 := fun i hi => by
    simp [List.getD_eq_getElem?_getD, hi]
  have hf : start < N → fresh ((List.range N).map fun i => if i = start then (0 : Int) else -1) + 1 ≤ N := by
    intro hs
    have : fresh ((List.range N).map fun i => if i = start then (0 : Int) else -1) < ((List.range N).map fun i => if i = start then (0 : Int) else -1).length := by
      unfold fresh
      rcases Nat.lt_or_eq_of_le (List.length_filter_le (fun z : Int => decide (z < 0)) ((List.range N).map fun i => if i = start then (0 : Int) else -1)) with k | k
      · exact k
      · exfalso
        have := List.length_filter_eq_length_iff.1 k 0 (by
          refine List.mem_map.2 ⟨start, by simpa using hs, by simp⟩)
        simp at this
    simp only [List.length_map, List.length_range] at this
    omega
  refine ⟨by simp, fun hs => by rw [hg _ hs]; simp, fun i hi => ?_⟩
  rw [hg i hi]
  by_cases k : i = start
  · rw [if_pos k]
    right
    have hz := (hD.zero i hi).2 k
    have := hf (by omega)
    omega
  · rw [if_neg k]; exact .inl rfl

/-! levels -/
def sumL (N : Nat) (d : List Int) : Nat := (d.map fun z => ((N : Int) - z).toNat).sum
theorem sumL_set {N : Nat} {d : List Int} {i : Nat} {z : Int} (hi : i < d.length) : sumL N (d.set i z) + ((N : Int) - d.getD i 0).toNat = sumL N d + ((N : Int) - z).toNat := by
  unfold sumL
  rw [List.map_set]
  have := sum_set (l := d.map fun z => ((N : Int) - z).toNat) (i := i) (v := ((N : Int) - z).toNat) (by simpa using hi)
  have e : (d.map fun z => ((N : Int) - z).toNat).getD i 0 = ((N : Int) - d.getD i 0).toNat := by
    simp [List.getD_eq_getElem?_getD, hi]
  rw [e] at this
  exact this

structure LevI (N : Nat) (d : List Int) : Prop where
  len : d.length = N
  low : ∀ i, i < N → 0 ≤ d.getD i 0
  high : ∀ i, i < N → d.getD i 0 < N

theorem LevI.step {N : Nat} {d : List Int} {x y : Nat} (h : LevI N d) (hxN : x < N) (hyN : y < N) (hlt : d.getD y 0 < d.getD x 0 + 1) (hb : d.getD x 0 + 1 < N) :
    LevI N (d.set y (d.getD x 0 + 1)) ∧ sumL N (d.set y (d.getD x 0 + 1)) < sumL N d := by
  have hyl : y < d.length := by rw [h.len]; exact hyN
  have hgd := fun k => getD_set (d := d) (k := k) (z := d.getD x 0 + 1) hyl
  have sm := sumL_set (N := N) (z := d.getD x 0 + 1) hyl
  have lx := h.low x hxN
  refine ⟨⟨by simp [h.len], fun i hi => ?_, fun i hi => ?_⟩, ?_⟩
  · rw [hgd]; split
    · omega
    · exact h.low i hi
  · rw [hgd]; split
    · omega
    · exact h.high i hi
  · omega

/-- below the levels, as long as it goes on -/
def Under (N : Nat) (D d : List Int) : Prop := ∀ i, i < N → d.getD i 0 ≤ D.getD i 0

theorem Level.all {N : Nat} {es : List (Int × Int)} {D : List Int} (h : Level N es D) (hg : InGraph N es) : ∀ (n i : Nat), i < N → D.getD i 0 = n → ∀ k, k ≤ n → ∃ j, j < N ∧ D.getD j 0 = (k : Nat) := by
  intro n
  induction n with
  | zero => intro i hi hz k hk; exact ⟨i, hi, by rw [hz]; congr 1; omega⟩
  | succ n ih =>
    intro i hi hz k hk
    by_cases e : k = n + 1
    · exact ⟨i, hi, by rw [hz, e]⟩
    · rcases h.near i hi with q | ⟨e', k1, k2, k3⟩
      · omega
      · have hgr := hg e' k1
        exact ih e'.1.toNat (by omega) (by omega) k (by omega)

theorem sub_lenN {l m : List Nat} (h : l.Nodup) (hs : ∀ i ∈ l, i ∈ m) : l.length ≤ m.length := by
  induction l generalizing m with
  | nil => simp
  | cons a l ih =>
    obtain ⟨h1, h2⟩ := List.nodup_cons.1 h
    have ha := hs a (by simp)
    have := ih (m := m.erase a) h2 (fun i hi => (List.mem_erase_of_ne (fun e => h1 (by rw [← e]; exact hi))).2 (hs i (by simp [hi])))
    rw [List.length_erase_of_mem ha] at this
    have := List.length_pos_of_mem ha
    simp only [List.length_cons]
    omega

theorem Level.lt {N : Nat} {es : List (Int × Int)} {D : List Int} (h : Level N es D) (hg : InGraph N es) (i : Nat) (hi : i < N) : D.getD i 0 < N := by
  have hl := h.low i hi
  obtain ⟨n, hn⟩ := Int.eq_ofNat_of_zero_le hl
  have ha := h.all hg n i hi hn
  have := sub_lenN (l := List.range (n + 1)) (m := (List.range N).map fun j => (D.getD j 0).toNat) List.nodup_range (fun k hk => by
    obtain ⟨j, j1, j2⟩ := ha k (by have := List.mem_range.1 hk; omega)
    exact List.mem_map.2 ⟨j, by simpa using j1, by omega⟩)
  simp only [List.length_range, List.length_map] at this
  omega

theorem Under.step {N : Nat} {es : List (Int × Int)} {D d : List Int} {e : Int × Int} {x y : Nat} (h : Under N D d) (hl : d.length = N) (hD : Level N es D) (hg : InGraph N es) (he : e ∈ es) (hx : e.1.toNat = x) (hy : e.2.toNat = y) :
    Under N D (d.set y (d.getD x 0 + 1)) ∧ d.getD x 0 + 1 < N := by
  have hgr := hg e he
  have hE := hD.edge e he
  rw [hx, hy] at hE
  have hxN : x < N := by omega
  have hyN : y < N := by omega
  have := h x hxN
  have hlt := hD.lt hg y hyN
  refine ⟨fun i hi => ?_, by omega⟩
  rw [getD_set (by omega)]
  split
  · rename_i k; subst k; omega
  · exact h i hi

theorem Under.done {N : Nat} {es : List (Int × Int)} {D d : List Int} (h : Under N D d) (hI : LevI N d) (hD : Level N es D) (hg : InGraph N es) (hc : ∀ e ∈ es, d.getD e.1.toNat 0 + 1 ≤ d.getD e.2.toNat 0) : d = D := by
  have key : ∀ (n i : Nat), i < N → D.getD i 0 = n → (n : Int) ≤ d.getD i 0 := by
    intro n
    induction n with
    | zero => intro i hi _; have := hI.low i hi; omega
    | succ n ih =>
      intro i hi hz
      rcases hD.near i hi with q | ⟨e, k1, k2, k3⟩
      · omega
      · have hgr := hg e k1
        have := ih e.1.toNat (by omega) (by omega)
        have hc' := hc e k1
        rw [k2] at hc'
        omega
  refine ext_getZ (by rw [hI.len, hD.len]) fun i hi => ?_
  rw [hI.len] at hi
  have := key (D.getD i 0).toNat i hi (by have := hD.low i hi; omega)
  have := h i hi
  have := hD.low i hi
  omega

theorem Stuck.no_end {N : Nat} {es : List (Int × Int)} {d : List Int} (h : Stuck N es) (hI : LevI N d) (hg : InGraph N es) (hc : ∀ e ∈ es, d.getD e.1.toNat 0 + 1 ≤ d.getD e.2.toNat 0) : False := by
  obtain ⟨U, ⟨i0, h0⟩, hU⟩ := h
  have key : ∀ (n i : Nat), U i → d.getD i 0 < n → False := by
    intro n
    induction n with
    | zero =>
      intro i hi hl
      obtain ⟨h1, _⟩ := hU i hi
      have := hI.low i h1
      omega
    | succ n ih =>
      intro i hi hl
      obtain ⟨h1, e, k1, k2, k3⟩ := hU i hi
      have := hc e k1
      rw [k2] at this
      exact ih _ k3 (by omega)
  obtain ⟨h1, _⟩ := hU i0 h0
  exact key (d.getD i0 0 + 1).toNat i0 h0 (by have := hI.low i0 h1; omega)
theorem LevI.start (N : Nat) : LevI N (List.replicate N 0) := by
  have h0 : ∀ k, (List.replicate N (0 : Int)).getD k 0 = 0 := fun k => by
    by_cases h : k < N
    · simp [List.getD_eq_getElem?_getD, h]
    · simp [List.getD_eq_getElem?_getD, show N ≤ k by omega]
  exact ⟨by simp, fun i hi => by rw [h0]; exact Int.le_refl _, fun i hi => by rw [h0]; omega⟩

end Go.Proofs.YtpjcmiaanjcanaaGreatDoor

namespace Go.Proofs.YtpjcmiaanjcanaaGreatDoor
open Go Go.Vm Go.Vm.T
set_option maxRecDepth 100000
set_option linter.unusedSimpArgs false
set_option linter.unusedVariables false
attribute [local simp] inFrame startLoc startVals Loc.clear blockC Loc.putO Loc.put idx evO constV Loc.get Vm.look intA unwindA resultsA resultV actA pureA storeA loadA fillE repElems TI.zeroV fieldOf fieldAddrA fieldA elemsA retE cellsOf? setCells nowhere

set_option maxHeartbeats 4000000

/-! the reference's components -/
def duoL (e : Int × Int) : List Int := [e.1, e.2]
def edgesA (es : List (Int × Int)) : AV := cplA (es.map duoL)
theorem edgesA_pers (es : List (Int × Int)) : (edgesA es).pers = true := cplA_pers _
theorem slcI_inj {a b : List Int} (h : slcI a = slcI b) : a = b := by
  simp only [slcI, AV.slice.injEq, and_true] at h
  exact ints_inj h
theorem cplA_inj {a b : List (List Int)} (h : cplA a = cplA b) : a = b := by
  simp only [cplA, AV.slice.injEq, and_true] at h
  exact (List.map_inj_right (fun _ _ k => slcI_inj k)).1 h
theorem edgesA_inj {a b : List (Int × Int)} (h : edgesA a = edgesA b) : a = b :=
  (List.map_inj_right (fun x y k => by
    simp only [duoL, List.cons.injEq, and_true] at k
    exact Prod.ext k.1 k.2)).1 (cplA_inj h)
theorem edges_len (es : List (Int × Int)) : lenA ED 84 (edgesA es) = some (.int .i64 es.length) := by simp [edgesA, cplA, lenA]
theorem edges_get {es : List (Int × Int)} {j : Nat} (h : j < es.length) : indexAddrA ED 84 (edgesA es) (.int .i64 (j : Nat)) = some (.rptr [slcI [es[j].1, es[j].2]]) := by
  have e : ((es.map duoL).map slcI)[j]? = some (slcI [es[j].1, es[j].2]) := by simp [duoL, h]
  have h1 : (0 : Int) ≤ (j : Int) ∧ (j : Int) < (((es.map duoL).map slcI).length : Nat) := by
    simp only [List.length_map]; omega
  have hs : ED.size 62 = some 1 := rfl
  have hd : ED.desc 84 = some (.slice 62) := rfl
  simp only [edgesA, cplA, indexAddrA, hd, hs, Int.toNat_natCast]
  rw [if_pos h1, e]
  rfl
theorem edgesA_cell (es : List (Int × Int)) : (edgesA es).isCell = true ∧ (edgesA es).known = true ∧ (edgesA es).cells = [edgesA es] := ⟨rfl, rfl, rfl⟩
theorem slcI_cell (zs : List Int) : (slcI zs).isCell = true ∧ (slcI zs).known = true ∧ (slcI zs).cells = [slcI zs] := ⟨rfl, rfl, rfl⟩
theorem duo_at0 (a b : Int) : indexAddrA ED 62 (slcI [a, b]) (.int .i64 0) = some (.rptr [.int .i64 a]) := rfl
theorem duo_at1 (a b : Int) : indexAddrA ED 62 (slcI [a, b]) (.int .i64 1) = some (.rptr [.int .i64 b]) := rfl
theorem neq_bool2 {x y : Operand} {a b : Bool} : binA ED .neq 4 x y (.bool a) (.bool b) = some (.bool (a != b)) := by
  cases x <;> cases y <;> cases a <;> cases b <;> rfl

def optT (f : List Int → AV) : Option (List Int) → FRes
  | some zs => .ret (.tup [f zs, .bool true])
  | none => .ret (.tup [.nils, .bool false])
theorem optT_slc (o : Option (List Int)) : (optT slcI o).pers = true := by
  cases o with
  | none => rfl
  | some zs => simp [optT, FRes.pers, AV.pers, AV.persL, slcI_pers]

structure GrX where
  N : Nat
  es : List (Int × Int)
def grC (f : FuncId) (out : Nat → List (Int × Int) → Option (List Int)) : Con where
  f := f
  X := GrX
  dom x := x.N ≤ 4096 ∧ x.es.length ≤ 4096
  enc x := [.int .i64 x.N, edgesA x.es]
  res x := optT slcI (out x.N x.es)
theorem gr_use {cs : List Con} {f : FuncId} {out : Nat → List (Int × Int) → Option (List Int)} (h : sumOf cs f = (grC f out).look) {n N : Nat} {es : List (Int × Int)} {S : St} (hN : N ≤ 4096) (hl : es.length ≤ 4096) :
    callS ED (sumOf cs) n (.fn f) [.int .i64 N, edgesA es] S = some (optT slcI (out N es), S) :=
  Con.use (c := grC f out) (fun (x y : GrX) _ _ h => by
    obtain ⟨a, b⟩ := x
    obtain ⟨c, d⟩ := y
    have h' : [AV.int .i64 (a : Int), edgesA b] = [AV.int .i64 (c : Int), edgesA d] := h
    simp only [List.cons.injEq, AV.int.injEq, true_and, and_true] at h'
    have h1 : a = c := by have := h'.1; omega
    have h2 := edgesA_inj h'.2
    rw [h1, h2]) h (⟨N, es⟩ : GrX) ⟨hN, hl⟩ (by show [AV.int .i64 (N : Int), (edgesA es).dead] = [AV.int .i64 (N : Int), edgesA es]; rw [dead_of_pers _ (edgesA_pers es)])
theorem gr_pers (x : GrX) : AV.persL [.int .i64 x.N, edgesA x.es] = true := by simp [AV.persL, AV.pers, edgesA_pers]

theorem sum_le_mul : ∀ {l : List Nat} {M : Nat}, (∀ x ∈ l, x ≤ M) → l.sum ≤ l.length * M
  | [], M, _ => by simp
  | a :: l, M, h => by
    have h1 := h a (by simp)
    have h2 := sum_le_mul (l := l) (M := M) (fun x hx => h x (by simp [hx]))
    simp only [List.sum_cons, List.length_cons, Nat.add_mul]
    omega
theorem nats_get {u : List Nat} {x : Nat} (h : x < u.length) : (nats u)[x]? = some (.int .i64 ((u.getD x 0 : Nat) : Int)) := by
  rw [nats, List.getElem?_map, List.getElem?_eq_getElem h]
  simp [List.getD_eq_getElem?_getD, h]
theorem nats_ne {u : List Nat} (h : u.length ≠ 0) : nats u ≠ [] := fun e => h (by have := congrArg List.length e; simpa using this)

theorem growL_tup {B : Nat} {S : St} {v : AV} {zs : List Int} (h : GrowL B S v (ints zs)) : (FRes.ret (.tup [v, .bool true])).melt S = optT slcI (some zs) := by
  have hc := ints_isCell zs
  have hd := ints_dead zs
  rcases h with ⟨rfl, h⟩ | ⟨j, hj, rfl, h1, h2, h3⟩
  · cases zs with
    | nil => rfl
    | cons a r => cases h
  · simp only [FRes.melt, AV.melt, List.map_cons, List.map_nil, AV.meltE, h2, Nat.zero_add, List.drop_zero, List.take_length, optT, slcI, AV.dead]
    rw [if_pos ⟨Nat.le_refl _, .inr trivial, hc⟩, hd]

def compsRC : Con := grC 63 compsOut
theorem compsR_ok : compsRC.Ok Tryz.prog ED := by
  refine Con.ok_at ED_ok ED_pers [nodeC] (by simpa using node_ok) (fun (x : GrX) _ => ⟨gr_pers x, optT_slc _⟩) ?_
  rintro ⟨N, es⟩ ⟨hN, hes⟩
  replace hN : N ≤ 4096 := hN
  replace hes : es.length ≤ 4096 := hes
  show ∃ n, ∀ p : FRes → St → Prop, (∀ r S', r.melt S' = optT slcI (compsOut N es) → p r S') → GotF (callS ED (sumOf [nodeC]) n (.fn 63) [.int .i64 N, edgesA es] S0) p
  refine ⟨20000000, fun p hp => ?_⟩
  have d0 := @dr63_0
  have d1 := @dr63_1
  have d2 := @dr63_2
  simp only [drA, drawsOf, Option.getD_some, List.nil_append, List.append_nil, List.getD_cons_zero, List.getD_cons_succ, List.cons_append, Tryz.f63] at d0 d1 d2
  rw [callS_fn rfl]
  have hn := fun (n : Nat) (S : St) (a : Int) => node_use (cs := [nodeC]) rfl (n := n) (S := S) (a := a) hN
  have hEl := edges_len es
  have hEx := fun (j : Nat) (hj : j < es.length) => edges_get hj
  obtain ⟨hE1, hE2, hE3⟩ := edgesA_cell es
  generalize edgesA es = E at *
  simp only [fnA, ED_fn63, fi63, Tryz.f63]
  simp [vmS]
  generalize hc : iter _ _ _ _ = c
  obtain ⟨e1, L1, S1, rfl, hq⟩ := loop_of hc
    (fun r L S => ∃ j w sc, j + r = N ∧ L = vloc [.int .i64 N, E, .nils, .bool false, w, .int .i64 (j : Nat), .undef, .undef, .undef, .undef] sc ∧ GrowL 0 S w (nats (List.range j)))
    (fun e L S => e = .exit 0 ∧ ∃ w t7 sc, L = vloc [.int .i64 N, E, .nils, .bool false, w, t7, .undef, .undef, .undef, .undef] sc ∧ GrowL 0 S w (nats (List.range N)))
    N (by omega)
    ⟨0, _, _, by simp, rfl, .inl ⟨rfl, rfl⟩⟩
    (by
      rintro r L S ⟨j, w, sc, hjk, rfl, hl⟩ q hq1 hq2
      by_cases hj : j < N
      · have hw : IntKind.i64.wrap ((j : Int) + 1) = ((j : Int) + 1) := wrap_id (by omega) (by omega)
        rw [← ints_ofN] at hl
        obtain ⟨v', S', ha, hl', hold⟩ := appendG_int (j : Int) hl (Nat.zero_le _) (by simp [ofN]; omega)
        have e1 : ofN (List.range j) ++ [(j : Int)] = ofN (List.range (j + 1)) := by simp [ofN, List.range_succ]
        rw [e1, ints_ofN] at hl'
        simp [vmS, vloc, hj, ha, hw]
        exact hq1 (r - 1) _ _ (by omega) ⟨j + 1, v', _, by omega, rfl, hl'⟩
      · have hjl : j = N := by omega
        subst hjl
        simp [vmS, vloc]
        exact hq2 _ _ _ (by simp) ⟨rfl, w, _, _, rfl, hl⟩)
  obtain ⟨rfl, w, t7, sc, rfl, hl⟩ := hq
  simp [vmS, vloc]
  have hg := keptG_in N es
  have hR := RelI.start hg
  have hsum : (List.range N).sum + 1 < 19999999 := by
    have h1 := sum_le_mul (l := List.range N) (M := N) (fun x hx => by have := List.mem_range.1 hx; omega)
    rw [List.length_range] at h1
    have h2 : N * N ≤ 4096 * 4096 := Nat.mul_le_mul hN hN
    omega
  generalize hc : iter _ _ _ _ = c
  obtain ⟨e1, L1, S2, rfl, hq⟩ := loop_of hc
    (fun r L S => ∃ m u w t9 t10 t11 sc, L = vloc [.int .i64 N, E, .nils, .bool false, w, t7, .bool m, t9, t10, t11] sc ∧ GrowL 0 S w (nats u) ∧ RelI N (keptG N es) u ∧ r = (if m = true then u.sum + 1 else 0) ∧
      (m = false → evenG N es = true ∧ ∀ e ∈ keptG N es, u.getD e.1.toNat 0 = u.getD e.2.toNat 0))
    (fun e L S => (e = .ret ∧ evenG N es = false ∧ ∃ w t7 t8 t9 t10 t11 sc, L = vloc [.int .i64 N, E, .nils, .bool false, w, t7, t8, t9, t10, t11] sc) ∨
      e = .exit 2 ∧ ∃ u w t8 t9 t10 t11 sc, L = vloc [.int .i64 N, E, .nils, .bool false, w, t7, t8, t9, t10, t11] sc ∧ GrowL 0 S w (nats u) ∧ RelI N (keptG N es) u ∧ evenG N es = true ∧ ∀ e ∈ keptG N es, u.getD e.1.toNat 0 = u.getD e.2.toNat 0)
    ((List.range N).sum + 1) (by omega)
    ⟨true, _, w, _, _, _, _, rfl, hl, hR, by simp, fun h => by simp at h⟩
    (by
      clear hl hR hsum
      rintro r L S ⟨m, u, w, t9, t10, t11, sc, rfl, hl, hR, rfl, hdone⟩ q hq1 hq2
      cases m with
      | false =>
        obtain ⟨h1, h2⟩ := hdone rfl
        simp [vmS, vloc]
        exact hq2 _ _ _ (by simp) (.inr ⟨rfl, u, w, _, _, _, _, _, rfl, hl, hR, h1, h2⟩)
      | true =>
        clear hdone
        simp [vmS, vloc]
        generalize hc2 : iter _ _ _ _ = c2
        obtain ⟨e2, L2, S3, rfl, hq'⟩ := loop_of hc2
          (fun r2 L S => ∃ j m' u' w' t10 t11 sc, j + r2 = es.length ∧ L = vloc [.int .i64 N, E, .nils, .bool false, w', t7, .bool m', .int .i64 (j : Nat), t10, t11] sc ∧ GrowL 0 S w' (nats u') ∧ RelI N (keptG N es) u' ∧ evenG N (es.take j) = true ∧
            u'.sum + (if m' = true then 1 else 0) ≤ u.sum ∧ (m' = false → ∀ e ∈ keptG N (es.take j), u'.getD e.1.toNat 0 = u'.getD e.2.toNat 0))
          (fun e L S => (e = .ret ∧ evenG N es = false ∧ ∃ w t7 t8 t9 t10 t11 sc, L = vloc [.int .i64 N, E, .nils, .bool false, w, t7, t8, t9, t10, t11] sc) ∨
            e = .exit 4 ∧ ∃ m' u' w' t9 t10 t11 sc, L = vloc [.int .i64 N, E, .nils, .bool false, w', t7, .bool m', t9, t10, t11] sc ∧ GrowL 0 S w' (nats u') ∧ RelI N (keptG N es) u' ∧ evenG N es = true ∧
            u'.sum + (if m' = true then 1 else 0) ≤ u.sum ∧ (m' = false → ∀ e ∈ keptG N es, u'.getD e.1.toNat 0 = u'.getD e.2.toNat 0))
          es.length (by omega)
          ⟨0, false, u, w, _, _, _, by simp, rfl, hl, hR, by simp [evenG], by simp, fun _ e he => by simp [keptG] at he⟩
          (by
            clear hl hR
            rintro r2 L S ⟨j, m', u', w', t10, t11, sc, hjk, rfl, hl, hR, hev, hsm, hdn⟩ q' hq1' hq2'
            by_cases hj : j < es.length
            · have hw : IntKind.i64.wrap ((j : Int) + 1) = ((j : Int) + 1) := wrap_id (by omega) (by omega)
              have hix := hEx j hj
              have hkt := keptG_take (N := N) hj
              have hvt := evenG_take (N := N) hj
              have hbad := evenG_bad (N := N) hj
              rw [hev] at hvt
              have hmem : inN N es[j].1 = true → inN N es[j].2 = true → es[j] ∈ keptG N es := fun h1 h2 => List.mem_filter.2 ⟨List.getElem_mem hj, by simp [h1, h2]⟩
              have hstp := fun x y (h1 : inN N es[j].1 = true) (h2 : inN N es[j].2 = true) hx hy => hR.step hg (hmem h1 h2) (x := x) (y := y) hx hy
              have heq : ∀ e, e = es[j] → e.1 = es[j].1 ∧ e.2 = es[j].2 := fun e h => by rw [h]; exact ⟨rfl, rfl⟩
              have hnA := fun n S => hn n S es[j].1
              have hnB := fun n S => hn n S es[j].2
              have hP0 := duo_at0 es[j].1 es[j].2
              have hP1 := duo_at1 es[j].1 es[j].2
              obtain ⟨p1, p2, p3⟩ := slcI_cell [es[j].1, es[j].2]
              generalize slcI [es[j].1, es[j].2] = P at *
              generalize es[j] = ej at *
              obtain ⟨a, b⟩ := ej
              simp only at hix hkt hvt hbad hmem hstp hnA hnB hP0 hP1
              by_cases hA : inN N a = true
              · by_cases hB : inN N b = true
                · rw [hA] at hnA
                  rw [hB] at hnB
                  rw [hA, hB] at hkt hvt
                  simp only [Bool.and_self, if_true, beq_self_eq_true] at hkt hvt
                  obtain ⟨ha0, ha1⟩ := inN_t.1 hA
                  obtain ⟨hb0, hb1⟩ := inN_t.1 hB
                  obtain ⟨x, rfl⟩ := Int.eq_ofNat_of_zero_le ha0
                  obtain ⟨y, rfl⟩ := Int.eq_ofNat_of_zero_le hb0
                  have hst := hstp x y hA hB rfl rfl
                  have hxN : x < N := by omega
                  have hyN : y < N := by omega
                  have hul := hR.len
                  have hne : nats u' ≠ [] := nats_ne (by omega)
                  obtain ⟨i, hi0, rfl, hcl, htk, _⟩ := hl.index (E := ED) (t := 62) (e := 3) rfl rfl hne
                  have hgx := nats_get (u := u') (x := x) (by omega)
                  have hgy := nats_get (u := u') (x := y) (by omega)
                  have hx1 : x + 1 ≤ u'.length := by omega
                  have hy1 : y + 1 ≤ u'.length := by omega
                  have hixx := index22 (i := i) (c := 0) (show x < (nats u').length by simp; omega)
                  have hixy := index22 (i := i) (c := 0) (show y < (nats u').length by simp; omega)
                  by_cases hq0 : u'.getD x 0 = u'.getD y 0
                  · have hq0' : ((u'.getD x 0 : Nat) : Int) = ((u'.getD y 0 : Nat) : Int) := by rw [hq0]
                    have hkeep : m' = false → ∀ e ∈ keptG N (es.take (j + 1)), u'.getD e.1.toNat 0 = u'.getD e.2.toNat 0 := fun hm e he => by
                      rw [hkt] at he
                      rcases List.mem_append.1 he with he | he
                      · exact hdn hm e he
                      · have := List.mem_singleton.1 he
                        subst this
                        exact hq0
                    generalize u'.getD x 0 = ux at *
                    generalize u'.getD y 0 = uy at *
                    subst hq0
                    generalize (nats u').length = M at *
                    simp [vmS, runC_nil, runC_cons, pickC_some, wantC_tt, wantC_tf, effC_val, ifC_true, checkC, inPairs, keepC, okC, readsC_load, readV_some, AV.beq_self, wantA_n, wantA_g, wantD_some, d0, d1, vloc, hEl, hj, hix, p1, p2, p3, hP0, hP1, hnA, hnB, neq_bool2, hixx, hixy, hcl, hgx, hgy, hx1, hy1, hw]
                    exact hq1' (r2 - 1) _ _ (by omega) ⟨j + 1, m', u', _, _, _, _, by omega, rfl, hl, hR, hvt, hsm, hkeep⟩
                  · obtain ⟨hR', hsum'⟩ := hst hq0
                    have hq0' : ¬ ((u'.getD x 0 : Nat) : Int) = ((u'.getD y 0 : Nat) : Int) := by omega
                    have hmn := fold_min (u'.getD x 0) (u'.getD y 0)
                    unfold relC at hR' hsum'
                    generalize min (u'.getD x 0) (u'.getD y 0) = mn at *
                    generalize u'.getD x 0 = ux at *
                    generalize u'.getD y 0 = uy at *
                    have hcl1 := cells_put_self (ds := nats (u'.set x mn)) hcl
                    have hg1 := GrowL.put (B := 0) (ds := nats (u'.set x mn)) hi0 hcl htk (by simp) hne
                    have htk1 : (S.put i (.cells (nats (u'.set x mn)))).get (i + 1) = some (.tok false) := by rw [St.get_put_ne _ _ _ (by omega)]; exact htk
                    have hg2 := GrowL.put (B := 0) (ds := nats ((u'.set x mn).set y mn)) hi0 hcl1 htk1 (by simp) (nats_ne (u := u'.set x mn) (by rw [List.length_set]; omega))
                    have hg2' := hg2.1
                    rw [show (nats (u'.set x mn)).length = (nats u').length from by simp] at hg2'
                    generalize (nats u').length = M at *
                    simp [vmS, runC_nil, runC_cons, pickC_some, wantC_tt, wantC_tf, effC_val, ifC_true, checkC, inPairs, keepC, okC, readsC_load, readV_some, AV.beq_self, wantA_n, wantA_g, wantD_some, d0, d1, d2, vloc, hEl, hj, hix, p1, p2, p3, hP0, hP1, hnA, hnB, neq_bool2, hixx, hixy, hcl, hgx, hgy, hx1, hy1, hq0', hmn, hcl1, hw]
                    exact hq1' (r2 - 1) _ _ (by omega) ⟨j + 1, true, _, _, _, _, _, by omega, rfl, hg2', hR', hvt, by have := Nat.le_trans (Nat.le_add_right u'.sum (if m' = true then 1 else 0)) hsm; rw [if_pos rfl]; exact Nat.le_trans hsum' this, fun h => by simp at h⟩
                · have hB' : inN N b = false := by simpa using hB
                  have hbd := hbad (by rw [hA, hB']; simp)
                  rw [hA] at hnA
                  rw [hB'] at hnB
                  simp [vmS, runC_nil, runC_cons, pickC_some, wantC_tt, wantC_tf, effC_val, ifC_true, checkC, inPairs, keepC, okC, readsC_load, readV_some, AV.beq_self, wantA_n, wantA_g, wantD_some, d0, vloc, hEl, hj, hix, p1, p2, p3, hP0, hP1, hnA, hnB, neq_bool2]
                  exact hq2' _ _ _ (by simp) (.inl ⟨rfl, hbd, _, _, _, _, _, _, _, rfl⟩)
              · have hA' : inN N a = false := by simpa using hA
                by_cases hB : inN N b = true
                · have hbd := hbad (by rw [hA', hB]; simp)
                  rw [hA'] at hnA
                  rw [hB] at hnB
                  simp [vmS, runC_nil, runC_cons, pickC_some, wantC_tt, wantC_tf, effC_val, ifC_true, checkC, inPairs, keepC, okC, readsC_load, readV_some, AV.beq_self, wantA_n, wantA_g, wantD_some, d0, vloc, hEl, hj, hix, p1, p2, p3, hP0, hP1, hnA, hnB, neq_bool2]
                  exact hq2' _ _ _ (by simp) (.inl ⟨rfl, hbd, _, _, _, _, _, _, _, rfl⟩)
                · have hB' : inN N b = false := by simpa using hB
                  rw [hA'] at hnA
                  rw [hB'] at hnB
                  rw [hA', hB'] at hkt hvt
                  simp only [Bool.and_self, Bool.false_eq_true, if_false, List.append_nil, beq_self_eq_true] at hkt hvt
                  simp [vmS, runC_nil, runC_cons, pickC_some, wantC_tt, wantC_tf, effC_val, ifC_true, checkC, inPairs, keepC, okC, readsC_load, readV_some, AV.beq_self, wantA_n, wantA_g, wantD_some, d0, d1, vloc, hEl, hj, hix, p1, p2, p3, hP0, hP1, hnA, hnB, neq_bool2, hw]
                  exact hq1' (r2 - 1) _ _ (by omega) ⟨j + 1, m', u', w', _, _, _, by omega, rfl, hl, hR, hvt, hsm, by rw [hkt]; exact hdn⟩
            · have hjl : j = es.length := by omega
              subst hjl
              rw [List.take_length] at hev hdn
              simp [vmS, vloc, hEl]
              exact hq2' _ _ _ (by simp) (.inr ⟨rfl, m', u', w', _, _, _, _, rfl, hl, hR, hev, hsm, hdn⟩))
        rcases hq' with ⟨rfl, hbd, w', a7, a8, a9, a10, a11, sc', rfl⟩ | ⟨rfl, m', u', w', a9, a10, a11, sc', rfl, hl', hR', hev, hsm, hdn⟩
        · simp [vmS, vloc]
          exact hq2 _ _ _ (by simp) (.inl ⟨rfl, hbd, _, _, _, _, _, _, _, rfl⟩)
        · simp [vmS, vloc]
          refine hq1 (if m' = true then u'.sum + 1 else 0) _ _ ?_ ⟨m', u', w', _, _, _, _, rfl, hl', hR', rfl, fun h => ⟨hev, hdn h⟩⟩
          cases m' with
          | true => simp at hsm ⊢; omega
          | false => simp)
  rcases hq with ⟨rfl, hbd, w', a7, a8, a9, a10, a11, sc', rfl⟩ | ⟨rfl, u, w', a8, a9, a10, a11, sc', rfl, hl', hR', hev, hdn⟩
  · rw [show compsOut N es = none from by unfold compsOut; rw [if_neg (by rw [hbd]; simp)]] at hp
    simp [vmS, vloc]
    exact hp _ _ rfl
  · have hu := hR'.done hg hdn
    rw [show compsOut N es = some (ofN u) from by unfold compsOut; rw [if_pos hev, hu]] at hp
    simp [vmS, vloc]
    refine hp _ _ ?_
    rw [← ints_ofN] at hl'
    exact growL_tup hl'
theorem compsR_use {cs : List Con} (h : sumOf cs 63 = compsRC.look) {n N : Nat} {es : List (Int × Int)} {S : St} (hN : N ≤ 4096) (hl : es.length ≤ 4096) :
    callS ED (sumOf cs) n (.fn 63) [.int .i64 N, edgesA es] S = some (optT slcI (compsOut N es), S) := gr_use h hN hl

end Go.Proofs.YtpjcmiaanjcanaaGreatDoor

namespace Go.Proofs.YtpjcmiaanjcanaaGreatDoor
open Go Go.Vm Go.Vm.T
set_option maxRecDepth 100000
set_option linter.unusedSimpArgs false
set_option linter.unusedVariables false
attribute [local simp] inFrame startLoc startVals Loc.clear blockC Loc.putO Loc.put idx evO constV Loc.get Vm.look intA unwindA resultsA resultV actA pureA storeA loadA fillE repElems TI.zeroV fieldOf fieldAddrA fieldA elemsA retE cellsOf? setCells nowhere

set_option maxHeartbeats 4000000

/-! the reference's levels -/
def NearL (es : List (Int × Int)) (N : Nat) (d : List Int) : Prop := ∀ i, i < N → d.getD i 0 = 0 ∨ ∃ e ∈ es, e.2.toNat = i ∧ d.getD i 0 ≤ d.getD e.1.toNat 0 + 1
theorem nearL_start (es : List (Int × Int)) (N : Nat) : NearL es N (List.replicate N 0) := fun i hi => .inl (by simp [List.getD_eq_getElem?_getD, hi])
theorem nearL_set {es : List (Int × Int)} {N x y : Nat} {d : List Int} {e : Int × Int} (h : NearL es N d) (hl : d.length = N) (he : e ∈ es) (hx : e.1.toNat = x) (hy : e.2.toNat = y) (hyN : y < N) (hlt : d.getD y 0 < d.getD x 0 + 1) : NearL es N (d.set y (d.getD x 0 + 1)) := by
  intro i hi
  have hg := fun k => getD_set (d := d) (k := k) (z := d.getD x 0 + 1) (show y < d.length by omega)
  by_cases hiy : i = y
  · right
    refine ⟨e, he, by rw [hy, hiy], ?_⟩
    rw [hg, if_pos hiy, hx, hg]
    split
    · rename_i hxy; rw [hxy] at hlt; omega
    · omega
  · rcases h i hi with q | ⟨f, k1, k2, k3⟩
    · left; rw [hg, if_neg hiy]; exact q
    · right
      refine ⟨f, k1, k2, ?_⟩
      rw [hg, if_neg hiy, hg]
      split
      · rename_i hxy; rw [hxy] at k3; omega
      · exact k3
theorem nearL_done {es : List (Int × Int)} {N : Nat} {d : List Int} (h : NearL es N d) (hI : LevI N d) (hc : ∀ e ∈ es, d.getD e.1.toNat 0 + 1 ≤ d.getD e.2.toNat 0) : Level N es d := by
  refine ⟨hI.len, hc, fun i hi => ?_, hI.low, fun i hi => by have := hI.high i hi; omega⟩
  rcases h i hi with q | ⟨e, k1, k2, k3⟩
  · exact .inl q
  · right
    have := hc e k1
    rw [k2] at this
    exact ⟨e, k1, k2, by omega⟩
def UnderAll (N : Nat) (es : List (Int × Int)) (d : List Int) : Prop := ∀ D, Level N es D → Under N D d
theorem underAll_start (N : Nat) (es : List (Int × Int)) : UnderAll N es (List.replicate N 0) := fun D hD i hi => by
  have := hD.low i hi
  have e : (List.replicate N (0 : Int)).getD i 0 = 0 := by simp [List.getD_eq_getElem?_getD, hi]
  rw [e]; exact this
theorem levelOut_no {N : Nat} {es : List (Int × Int)} (h : ¬ ∃ d, Level N (keptG N es) d) : levelOut N es = none := by
  by_cases hb : badL N es = true
  · exact levelOut_bad hb
  · unfold levelOut
    rw [if_neg hb, dif_neg h]
theorem sumL_le {N : Nat} {d : List Int} (hl : d.length = N) (h : ∀ i, i < N → 0 ≤ d.getD i 0) : sumL N d ≤ N * N := by
  unfold sumL
  have := sum_le_mul (l := d.map fun z => ((N : Int) - z).toNat) (M := N) (fun x hx => by
    obtain ⟨z, hz, rfl⟩ := List.mem_map.1 hx
    obtain ⟨i, hi, rfl⟩ := List.getElem_of_mem hz
    have := h i (by omega)
    have e : d.getD i 0 = d[i] := by simp [List.getD_eq_getElem?_getD, hi]
    rw [e] at this
    omega)
  rw [List.length_map, hl] at this
  exact this

theorem slc_tup {S : St} {i N : Nat} {d : List Int} (h : S.cells? i = some (ints d)) (hl : d.length = N) : (FRes.ret (.tup [.rsl i 0 N N, .bool true])).melt S = optT slcI (some d) := by
  have htk : (ints d).take N = ints d := List.take_of_length_le (by simp [hl])
  have hall := ints_isCell d
  have hd := ints_dead d
  simp only [FRes.melt, AV.melt, List.map_cons, List.map_nil, AV.meltE, h, Nat.zero_add, List.drop_zero, htk, optT, slcI, AV.dead]
  rw [if_pos ⟨by simp [hl], .inl (Nat.le_refl _), hall⟩, hd]

noncomputable def levelRC : Con := grC 64 levelOut
theorem levelR_ok : levelRC.Ok Tryz.prog ED := by
  refine Con.ok_at ED_ok ED_pers [nodeC] (by simpa using node_ok) (fun (x : GrX) _ => ⟨gr_pers x, optT_slc _⟩) ?_
  rintro ⟨N, es⟩ ⟨hN, hes⟩
  replace hN : N ≤ 4096 := hN
  replace hes : es.length ≤ 4096 := hes
  show ∃ n, ∀ p : FRes → St → Prop, (∀ r S', r.melt S' = optT slcI (levelOut N es) → p r S') → GotF (callS ED (sumOf [nodeC]) n (.fn 64) [.int .i64 N, edgesA es] S0) p
  refine ⟨20000000, fun p hp => ?_⟩
  have d0 := @dr64_0
  have d1 := @dr64_1
  simp only [drA, drawsOf, Option.getD_some, List.nil_append, List.append_nil, List.getD_cons_zero, List.getD_cons_succ, List.cons_append, Tryz.f64] at d0 d1
  rw [callS_fn rfl]
  have hn := fun (n : Nat) (S : St) (a : Int) => node_use (cs := [nodeC]) rfl (n := n) (S := S) (a := a) hN
  have hEl := edges_len es
  have hEx := fun (j : Nat) (hj : j < es.length) => edges_get hj
  obtain ⟨hE1, hE2, hE3⟩ := edgesA_cell es
  have hroom : (N : Int) * 9 ≤ (roomMost : Nat) := by unfold roomMost; omega
  generalize edgesA es = E at *
  simp only [fnA, ED_fn64, fi64, Tryz.f64]
  simp [vmS, hroom, flat_rep]
  have hg := keptG_in N es
  have hsum : sumL N (List.replicate N 0) + 1 < 19999999 := by
    have h1 := sumL_le (N := N) (d := List.replicate N 0) (by simp) (LevI.start N).low
    have h2 : N * N ≤ 4096 * 4096 := Nat.mul_le_mul hN hN
    omega
  generalize hc : iter _ _ _ _ = c
  obtain ⟨e1, L1, S2, rfl, hq⟩ := loop_of hc
    (fun r L S => ∃ m d t8 t9 t10 sc, L = vloc [.int .i64 N, E, .nils, .bool false, .rsl 0 0 N N, .bool m, t8, t9, t10] sc ∧ S.cells? 0 = some (ints d) ∧ LevI N d ∧ NearL (keptG N es) N d ∧ UnderAll N (keptG N es) d ∧ r = (if m = true then sumL N d + 1 else 0) ∧
      (m = false → badL N es = false ∧ ∀ e ∈ keptG N es, d.getD e.1.toNat 0 + 1 ≤ d.getD e.2.toNat 0))
    (fun e L S => (e = .ret ∧ levelOut N es = none ∧ ∃ t6 t7 t8 t9 t10 sc, L = vloc [.int .i64 N, E, .nils, .bool false, t6, t7, t8, t9, t10] sc) ∨
      e = .exit 0 ∧ ∃ d t7 t8 t9 t10 sc, L = vloc [.int .i64 N, E, .nils, .bool false, .rsl 0 0 N N, t7, t8, t9, t10] sc ∧ S.cells? 0 = some (ints d) ∧ LevI N d ∧ levelOut N es = some d)
    (sumL N (List.replicate N 0) + 1) (by omega)
    ⟨true, List.replicate N 0, _, _, _, _, rfl, by rw [ints_rep]; simp [push_at, cellsOf?], LevI.start N, nearL_start _ _, underAll_start _ _, by simp, fun h => by simp at h⟩
    (by
      clear hsum
      rintro r L S ⟨m, d, t8, t9, t10, sc, rfl, hcl, hI, hNr, hUn, rfl, hdone⟩ q hq1 hq2
      cases m with
      | false =>
        obtain ⟨h1, h2⟩ := hdone rfl
        simp [vmS, vloc]
        exact hq2 _ _ _ (by simp) (.inr ⟨rfl, d, _, _, _, _, _, rfl, hcl, hI, levelOut_some h1 (nearL_done hNr hI h2)⟩)
      | true =>
        clear hdone
        simp [vmS, vloc]
        generalize hc2 : iter _ _ _ _ = c2
        obtain ⟨e2, L2, S3, rfl, hq'⟩ := loop_of hc2
          (fun r2 L S => ∃ j m' d' t9 t10 sc, j + r2 = es.length ∧ L = vloc [.int .i64 N, E, .nils, .bool false, .rsl 0 0 N N, .bool m', .int .i64 (j : Nat), t9, t10] sc ∧ S.cells? 0 = some (ints d') ∧ LevI N d' ∧ NearL (keptG N es) N d' ∧ UnderAll N (keptG N es) d' ∧ badL N (es.take j) = false ∧
            sumL N d' + (if m' = true then 1 else 0) ≤ sumL N d ∧ (m' = false → ∀ e ∈ keptG N (es.take j), d'.getD e.1.toNat 0 + 1 ≤ d'.getD e.2.toNat 0))
          (fun e L S => (e = .ret ∧ levelOut N es = none ∧ ∃ t6 t7 t8 t9 t10 sc, L = vloc [.int .i64 N, E, .nils, .bool false, t6, t7, t8, t9, t10] sc) ∨
            e = .exit 2 ∧ ∃ m' d' t8 t9 t10 sc, L = vloc [.int .i64 N, E, .nils, .bool false, .rsl 0 0 N N, .bool m', t8, t9, t10] sc ∧ S.cells? 0 = some (ints d') ∧ LevI N d' ∧ NearL (keptG N es) N d' ∧ UnderAll N (keptG N es) d' ∧ badL N es = false ∧
            sumL N d' + (if m' = true then 1 else 0) ≤ sumL N d ∧ (m' = false → ∀ e ∈ keptG N es, d'.getD e.1.toNat 0 + 1 ≤ d'.getD e.2.toNat 0))
          es.length (by omega)
          ⟨0, false, d, _, _, _, by simp, rfl, hcl, hI, hNr, hUn, by simp [badL], by simp, fun _ e he => by simp [keptG] at he⟩
          (by
            clear hcl hI hNr hUn
            rintro r2 L S ⟨j, m', d', t9, t10, sc, hjk, rfl, hcl, hI, hNr, hUn, hev, hsm, hdn⟩ q' hq1' hq2'
            by_cases hj : j < es.length
            · have hw : IntKind.i64.wrap ((j : Int) + 1) = ((j : Int) + 1) := wrap_id (by omega) (by omega)
              have hix := hEx j hj
              have hkt := keptG_take (N := N) hj
              have hvt := badL_take (N := N) hj
              have hbad := badL_of (N := N) hj
              rw [hev] at hvt
              have hmem : inN N es[j].1 = true → inN N es[j].2 = true → es[j] ∈ keptG N es := fun h1 h2 => List.mem_filter.2 ⟨List.getElem_mem hj, by simp [h1, h2]⟩
              have hnA := fun n S => hn n S es[j].1
              have hnB := fun n S => hn n S es[j].2
              have hP0 := duo_at0 es[j].1 es[j].2
              have hP1 := duo_at1 es[j].1 es[j].2
              obtain ⟨p1, p2, p3⟩ := slcI_cell [es[j].1, es[j].2]
              unfold wrongL at hvt hbad
              generalize slcI [es[j].1, es[j].2] = P at *
              generalize es[j] = ej at *
              obtain ⟨a, b⟩ := ej
              simp only at hix hkt hvt hbad hmem hnA hnB hP0 hP1
              by_cases hB : inN N b = true
              rotate_left
              · have hB' : inN N b = false := by simpa using hB
                rw [hB'] at hnB
                rw [hB'] at hkt hvt
                simp only [Bool.and_false, Bool.false_and, Bool.or_false, Bool.false_eq_true, if_false, List.append_nil] at hkt hvt
                simp [vmS, runC_nil, runC_cons, pickC_some, wantC_tt, wantC_tf, effC_val, ifC_true, checkC, inPairs, keepC, okC, readsC_load, readV_some, AV.beq_self, wantA_n, wantA_g, wantD_some, d0, vloc, hEl, hj, hix, p1, p2, p3, hP0, hP1, hnB, unA, hw]
                exact hq1' (r2 - 1) _ _ (by omega) ⟨j + 1, m', d', _, _, _, by omega, rfl, hcl, hI, hNr, hUn, hvt, hsm, by rw [hkt]; exact hdn⟩
              rw [hB] at hnB
              by_cases hA : inN N a = true
              rotate_left
              · have hA' : inN N a = false := by simpa using hA
                rw [hA'] at hnA
                have hbd := levelOut_bad (hbad (by rw [hA', hB]; rfl))
                simp [vmS, runC_nil, runC_cons, pickC_some, wantC_tt, wantC_tf, effC_val, ifC_true, checkC, inPairs, keepC, okC, readsC_load, readV_some, AV.beq_self, wantA_n, wantA_g, wantD_some, d0, vloc, hEl, hj, hix, p1, p2, p3, hP0, hP1, hnA, hnB, unA]
                exact hq2' _ _ _ (by simp) (.inl ⟨rfl, hbd, _, _, _, _, _, _, rfl⟩)
              rw [hA] at hnA
              rw [hA, hB] at hkt hvt
              simp only [Bool.and_self, Bool.not_true, Bool.and_false, Bool.or_false, if_true] at hkt hvt
              obtain ⟨ha0, ha1⟩ := inN_t.1 hA
              obtain ⟨hb0, hb1⟩ := inN_t.1 hB
              obtain ⟨x, rfl⟩ := Int.eq_ofNat_of_zero_le ha0
              obtain ⟨y, rfl⟩ := Int.eq_ofNat_of_zero_le hb0
              have hxN : x < N := by omega
              have hyN : y < N := by omega
              have hm := hmem hA hB
              have hdl := hI.len
              have hlx := hI.low x hxN
              have hhx := hI.high x hxN
              have hhy := hI.high y hyN
              have hly := hI.low y hyN
              have hgx := getD_int (d := d') (y := x) (by omega)
              have hgy := getD_int (d := d') (y := y) (by omega)
              have hx1 : x + 1 ≤ d'.length := by omega
              have hy1 : y + 1 ≤ d'.length := by omega
              have hixx := index22 (i := 0) (c := N) hxN
              have hixy := index22 (i := 0) (c := N) hyN
              have hwa : IntKind.i64.wrap (d'.getD x 0 + 1) = d'.getD x 0 + 1 := wrap_id (by omega) (by omega)
              by_cases hlt : d'.getD y 0 < d'.getD x 0 + 1
              rotate_left
              · have hkeep : m' = false → ∀ e ∈ keptG N (es.take (j + 1)), d'.getD e.1.toNat 0 + 1 ≤ d'.getD e.2.toNat 0 := fun hm e he => by
                  rw [hkt] at he
                  rcases List.mem_append.1 he with he | he
                  · exact hdn hm e he
                  · have := List.mem_singleton.1 he
                    subst this
                    show d'.getD x 0 + 1 ≤ d'.getD y 0
                    omega
                generalize d'.getD x 0 = dx at *
                generalize d'.getD y 0 = dy at *
                have hnge : ¬ (N : Int) ≤ dy := by omega
                simp [vmS, runC_nil, runC_cons, pickC_some, wantC_tt, wantC_tf, effC_val, ifC_true, checkC, inPairs, keepC, okC, readsC_load, readV_some, AV.beq_self, wantA_n, wantA_g, wantD_some, d0, d1, vloc, hEl, hj, hix, p1, p2, p3, hP0, hP1, hnA, hnB, unA, hixx, hixy, hcl, hgx, hgy, hx1, hy1, hwa, hlt, hnge, hw]
                exact hq1' (r2 - 1) _ _ (by omega) ⟨j + 1, m', d', _, _, _, by omega, rfl, hcl, hI, hNr, hUn, hvt, hsm, hkeep⟩
              have hNr' := nearL_set (x := x) (y := y) hNr hdl hm rfl rfl hyN hlt
              have hUn' : d'.getD x 0 + 1 < N ∧ UnderAll N (keptG N es) (d'.set y (d'.getD x 0 + 1)) ∨ ¬ ∃ D, Level N (keptG N es) D := by
                by_cases hex : ∃ D, Level N (keptG N es) D
                · left
                  obtain ⟨D, hD⟩ := hex
                  exact ⟨((hUn D hD).step (x := x) (y := y) hdl hD hg hm rfl rfl).2, fun D' hD' => ((hUn D' hD').step (x := x) (y := y) hdl hD' hg hm rfl rfl).1⟩
                · exact .inr hex
              have hst := fun hb => hI.step hxN hyN hlt hb
              have hset := ints_set d' y (d'.getD x 0 + 1)
              have hcl1 := cells_put_self (ds := ints (d'.set y (d'.getD x 0 + 1))) hcl
              have hgy1 : (ints (d'.set y (d'.getD x 0 + 1)))[y]? = some (.int .i64 (d'.getD x 0 + 1)) := by
                rw [getD_int (by simp; omega), getD_set (by omega), if_pos rfl]
              have hy2 : y + 1 ≤ (d'.set y (d'.getD x 0 + 1)).length := by simp; omega
              by_cases hge : (N : Int) ≤ d'.getD x 0 + 1
              · have hno : levelOut N es = none := levelOut_no (by
                  rcases hUn' with h | h
                  · omega
                  · exact h)
                generalize d'.set y (d'.getD x 0 + 1) = d1' at *
                generalize d'.getD x 0 = dx at *
                generalize d'.getD y 0 = dy at *
                simp [vmS, runC_nil, runC_cons, pickC_some, wantC_tt, wantC_tf, effC_val, ifC_true, checkC, inPairs, keepC, okC, readsC_load, readV_some, AV.beq_self, wantA_n, wantA_g, wantD_some, d0, d1, vloc, hEl, hj, hix, p1, p2, p3, hP0, hP1, hnA, hnB, unA, hixx, hixy, hcl, hgx, hgy, hx1, hy1, hwa, hlt, hge, hset, hcl1, hgy1, hy2]
                exact hq2' _ _ _ (by simp) (.inl ⟨rfl, hno, _, _, _, _, _, _, rfl⟩)
              · obtain ⟨hI', hs'⟩ := hst (by omega)
                have hUn2 : UnderAll N (keptG N es) (d'.set y (d'.getD x 0 + 1)) := by
                  rcases hUn' with h | h
                  · exact h.2
                  · exact fun D hD => absurd ⟨D, hD⟩ h
                generalize d'.set y (d'.getD x 0 + 1) = d1' at *
                generalize d'.getD x 0 = dx at *
                generalize d'.getD y 0 = dy at *
                simp [vmS, runC_nil, runC_cons, pickC_some, wantC_tt, wantC_tf, effC_val, ifC_true, checkC, inPairs, keepC, okC, readsC_load, readV_some, AV.beq_self, wantA_n, wantA_g, wantD_some, d0, d1, vloc, hEl, hj, hix, p1, p2, p3, hP0, hP1, hnA, hnB, unA, hixx, hixy, hcl, hgx, hgy, hx1, hy1, hwa, hlt, hge, hset, hcl1, hgy1, hy2, hw]
                exact hq1' (r2 - 1) _ _ (by omega) ⟨j + 1, true, d1', _, _, _, by omega, rfl, hcl1, hI', hNr', hUn2, hvt, by have := Nat.le_trans (Nat.le_add_right (sumL N d') (if m' = true then 1 else 0)) hsm; rw [if_pos rfl]; omega, fun h => by simp at h⟩
            · have hjl : j = es.length := by omega
              subst hjl
              rw [List.take_length] at hev hdn
              simp [vmS, vloc, hEl]
              exact hq2' _ _ _ (by simp) (.inr ⟨rfl, m', d', _, _, _, _, rfl, hcl, hI, hNr, hUn, hev, hsm, hdn⟩))
        rcases hq' with ⟨rfl, hbd, a6, a7, a8, a9, a10, sc', rfl⟩ | ⟨rfl, m', d', a8, a9, a10, sc', rfl, hcl', hI', hNr', hUn', hev, hsm, hdn⟩
        · simp [vmS, vloc]
          exact hq2 _ _ _ (by simp) (.inl ⟨rfl, hbd, _, _, _, _, _, _, rfl⟩)
        · simp [vmS, vloc]
          refine hq1 (if m' = true then sumL N d' + 1 else 0) _ _ ?_ ⟨m', d', _, _, _, _, rfl, hcl', hI', hNr', hUn', rfl, fun h => ⟨hev, hdn h⟩⟩
          cases m' with
          | true => simp at hsm ⊢; omega
          | false => simp)
  rcases hq with ⟨rfl, hbd, a6, a7, a8, a9, a10, sc', rfl⟩ | ⟨rfl, d, a7, a8, a9, a10, sc', rfl, hcl, hI, ho⟩
  · rw [hbd] at hp
    simp [vmS, vloc]
    exact hp _ _ rfl
  · rw [ho] at hp
    simp [vmS, vloc]
    exact hp _ _ (slc_tup hcl hI.len)
theorem levelR_use {cs : List Con} (h : sumOf cs 64 = levelRC.look) {n N : Nat} {es : List (Int × Int)} {S : St} (hN : N ≤ 4096) (hl : es.length ≤ 4096) :
    callS ED (sumOf cs) n (.fn 64) [.int .i64 N, edgesA es] S = some (optT slcI (levelOut N es), S) := gr_use h hN hl

end Go.Proofs.YtpjcmiaanjcanaaGreatDoor
