/-
What the law's own functions return, and the law. No conditions.
-/
import Derived.Test.YtjgigcaelcapdaaDoorValC
set_option linter.all false

namespace Go.Proofs.YtjgigcaelcapdaaDoor
open Go Go.Vm Go.Vm.T
set_option maxRecDepth 100000
set_option linter.unusedSimpArgs false
set_option linter.unusedVariables false

def nats (u : List Nat) : List AV := u.map fun k => .int .i64 (k : Nat)
@[simp] theorem nats_length (u : List Nat) : (nats u).length = u.length := by simp [nats]
@[simp] theorem nats_getElem {u : List Nat} {i : Nat} (h : i < (nats u).length) : (nats u)[i] = .int .i64 ((u[i]'(by simpa using h) : Nat) : Int) := by simp [nats]
@[simp] theorem nats_set (u : List Nat) (i r : Nat) : (nats u).set i (.int .i64 (r : Nat)) = nats (u.set i r) := by
  unfold nats
  rw [List.map_set]
@[simp] theorem nats_cell (u : List Nat) : (nats u).all AV.isCell = true := by simp [nats, AV.isCell]

/-- u leads from each node on to that of its component in R -/
structure Up (u R : List Nat) : Prop where
  len : R.length = u.length
  low : ∀ i (h : i < u.length), u[i] ≤ i
  lowR : ∀ i, R.getD i 0 ≤ i
  idem : ∀ i, i < u.length → R.getD (R.getD i 0) 0 = R.getD i 0
  step : ∀ i (h : i < u.length), R.getD u[i] 0 = R.getD i 0
  top : ∀ i (h : i < u.length), u[i] = i → R.getD i 0 = i

theorem Up.set {u R : List Nat} (h : Up u R) (i : Nat) : Up (u.set i (R.getD i 0)) R := by
  refine ⟨by simp [h.len], fun k hk => ?_, h.lowR, fun k hk => h.idem k (by simpa using hk), fun k hk => ?_, fun k hk => ?_⟩
  · rw [List.getElem_set]
    split
    · rename_i e; subst e; exact h.lowR _
    · exact h.low k (by simpa using hk)
  · rw [List.getElem_set]
    split
    · rename_i e; subst e; exact h.idem _ (by simpa using hk)
    · exact h.step k (by simpa using hk)
  · rw [List.getElem_set]
    split
    · rename_i e; subst e; exact id
    · exact h.top k (by simpa using hk)

theorem root_ev (cs : List Con) (hcs : sumOf cs 47 = fun _ => none) (N : Nat) (hN : N ≤ 4096) : ∀ (d i : Nat), i < d → ∀ (n : Nat) (u R : List Nat) (S : St), d + 1 ≤ n → i < N → u.length = N → Up u R →
    S.cells? 3 = some [.rsl 2 0 N N] → S.cells? 4 = some [.fn 47 [] [.ptr 3 0, .ptr 4 0]] → S.cells? 2 = some (nats u) →
    ∃ S' u', callS ED (sumOf cs) n (.fn 47) [.int .i64 i, .ptr 3 0, .ptr 4 0] S = some (.ret (.int .i64 (R.getD i 0 : Nat)), S') ∧ Up u' R ∧ u'.length = N ∧ Same 2 S S' ∧ S'.cells? 2 = some (nats u') ∧
      ∀ k, u.getD k 0 = R.getD k 0 → u'.getD k 0 = R.getD k 0 := by
  intro d
  induction d with
  | zero => intro i h; omega
  | succ d ih =>
    intro i hid n u R S hn hi hu hup h3 h4 h2
    obtain ⟨n, rfl⟩ : ∃ n', n = n' + 1 := ⟨n - 1, by omega⟩
    suffices hgot : ∀ p : FRes → St → Prop, (∀ S' u', Up u' R → u'.length = N → Same 2 S S' → S'.cells? 2 = some (nats u') → (∀ k, u.getD k 0 = R.getD k 0 → u'.getD k 0 = R.getD k 0) → p (.ret (.int .i64 (R.getD i 0 : Nat))) S') →
        GotF (callS ED (sumOf cs) (n + 1) (.fn 47) [.int .i64 i, .ptr 3 0, .ptr 4 0] S) p by
      obtain ⟨r, S', h1, rfl, u', k1, k2, k3, k4, k5⟩ := gotF_iff.1 (hgot (fun r S' => r = .ret (.int .i64 (R.getD i 0 : Nat)) ∧ ∃ u', Up u' R ∧ u'.length = N ∧ Same 2 S S' ∧ S'.cells? 2 = some (nats u') ∧ ∀ k, u.getD k 0 = R.getD k 0 → u'.getD k 0 = R.getD k 0)
        (fun S' u' k1 k2 k3 k4 k5 => ⟨rfl, u', k1, k2, k3, k4, k5⟩))
      exact ⟨S', u', h1, k1, k2, k3, k4, k5⟩
    intro p hp
    have d0 := @dr47_0
    simp only [drA, drawsOf, Option.getD_some, List.nil_append, List.append_nil, List.getD_cons_zero, List.getD_cons_succ, List.cons_append, Tryd.f47] at d0
    rw [callS_fn hcs]
    simp only [fnA, ED_fn47, fi47, Tryd.f47]
    have hiu : i < u.length := by omega
    by_cases he : u[i] = i
    · simp [evalC_seq, evalC_region, runA_cons', runA_consN, runA_consG, guardR_true, guardR_false, guardV_bool, guardV_tup, runA_nil', inFrame, startLoc, startVals, Loc.clear, eff_move, eff_assign, eff_binOp, eff_build, eff_buildSlice, eff_alloc, eff_box, eff_store, eff_load, eff_fieldAddr, eff_field, eff_indexAddr, eff_slice, eff_extract, eff_pick, eff_unOp, eff_convert, eff_makeSlice, eff_makeFunc, eff_makeInterface, eff_nilCheck, eff_panic, eff_len1, eff_max2, eff_min2, eff_append2, eff_callV, stepE_val, contR_ok, contR_pan, outC_ok, outC_pan, thenC_normal, thenC_ret, thenC_exit, thenC_pan, blockC, evalC_ret, evalC_skip, evalC_exit, evalC_block, evalC_scope, evalC_loop, Loc.putO, Loc.put, idx, evO, constV, Loc.get, Vm.look, valO_some, bin_int, intA, evalC_cond, condC_true, condC_false, unwindA, resultsA, resultV, actA, pureA, storeA, loadA, fillE, repElems, TI.zeroV, fieldOf, fieldAddrA, fieldA, elemsA, retE, cells?_put_push, push_at, put_at, cellsOf?, Nat.add_assoc, n_push', n_put', isCell_undef, known_undef, cells_undef, isCell_bool, known_bool, cells_bool, isCell_int, known_int, cells_int, isCell_str, known_str, cells_str, isCell_nilp, known_nilp, cells_nilp, isCell_ptr, known_ptr, cells_ptr, isCell_rptr, known_rptr, cells_rptr, isCell_nils, known_nils, cells_nils, isCell_slice, known_slice, cells_slice, isCell_rsl, known_rsl, cells_rsl, isCell_nilm, known_nilm, cells_nilm, isCell_map, known_map, cells_map, isCell_fn, known_fn, cells_fn, isCell_yld, known_yld, cells_yld, isCell_nilf, known_nilf, cells_nilf, isCell_iface, known_iface, cells_iface, isCell_nili, known_nili, cells_nili, isCell_agg, known_agg, cells_agg, isCell_tup, known_tup, cells_tup, setCells, nowhere, GotF_some, Got_some, int_beq, int_bne, lenA, indexAddrA, h3, h2, hi, hiu, he]
      have hr := hup.top i hiu he
      rw [hr] at hp
      exact hp _ u hup hu ⟨Nat.le_refl _, fun _ _ _ h => h⟩ h2 (fun _ h => h)
    · have hlow := hup.low i hiu
      have hj : u[i] < N := by omega
      obtain ⟨S', u', hcall, k1, k2, k3, k4, k5⟩ := ih u[i] (by omega) n u R S (by omega) hj hu hup h3 h4 h2
      rw [hup.step i hiu] at hcall
      have h3' := k3.cells _ _ (by decide) h3
      have hiu' : i < u'.length := by omega
      have hiu2 : i + 1 ≤ u'.length := by omega
      have hset := cells_put_self (ds := nats (u'.set i (R.getD i 0))) k4
      have h3'' := cells_put (o := .cells (nats (u'.set i (R.getD i 0)))) k4 h3' (by decide)
      have hne : ¬ ((u[i] : Nat) : Int) = (i : Int) := by omega
      have hg : R[i]?.getD 0 = R.getD i 0 := by simp [List.getD_eq_getElem?_getD]
      simp only [List.getD_eq_getElem?_getD] at hcall hset h3'' hp
      simp [evalC_seq, evalC_region, runA_cons', runA_consN, runA_consG, guardR_true, guardR_false, guardV_bool, guardV_tup, runA_nil', inFrame, startLoc, startVals, Loc.clear, eff_move, eff_assign, eff_binOp, eff_build, eff_buildSlice, eff_alloc, eff_box, eff_store, eff_load, eff_fieldAddr, eff_field, eff_indexAddr, eff_slice, eff_extract, eff_pick, eff_unOp, eff_convert, eff_makeSlice, eff_makeFunc, eff_makeInterface, eff_nilCheck, eff_panic, eff_len1, eff_max2, eff_min2, eff_append2, eff_callV, stepE_val, contR_ok, contR_pan, outC_ok, outC_pan, thenC_normal, thenC_ret, thenC_exit, thenC_pan, blockC, evalC_ret, evalC_skip, evalC_exit, evalC_block, evalC_scope, evalC_loop, Loc.putO, Loc.put, idx, evO, constV, Loc.get, Vm.look, valO_some, bin_int, intA, evalC_cond, condC_true, condC_false, unwindA, resultsA, resultV, actA, pureA, storeA, loadA, fillE, repElems, TI.zeroV, fieldOf, fieldAddrA, fieldA, elemsA, retE, cells?_put_push, push_at, put_at, cellsOf?, Nat.add_assoc, n_push', n_put', isCell_undef, known_undef, cells_undef, isCell_bool, known_bool, cells_bool, isCell_int, known_int, cells_int, isCell_str, known_str, cells_str, isCell_nilp, known_nilp, cells_nilp, isCell_ptr, known_ptr, cells_ptr, isCell_rptr, known_rptr, cells_rptr, isCell_nils, known_nils, cells_nils, isCell_slice, known_slice, cells_slice, isCell_rsl, known_rsl, cells_rsl, isCell_nilm, known_nilm, cells_nilm, isCell_map, known_map, cells_map, isCell_fn, known_fn, cells_fn, isCell_yld, known_yld, cells_yld, isCell_nilf, known_nilf, cells_nilf, isCell_iface, known_iface, cells_iface, isCell_nili, known_nili, cells_nili, isCell_agg, known_agg, cells_agg, isCell_tup, known_tup, cells_tup, setCells, nowhere, GotF_some, Got_some, int_beq, int_bne, lenA, indexAddrA, runC_nil, runC_cons, pickC_some, wantC_tt, wantC_tf, effC_val, ifC_true, checkC, inPairs, keepC, okC, readsC_load, readV_some, AV.beq_self, wantA_n, wantA_g, wantD_some, d0, h3, h2, h4, hi, hiu, he, hne, hcall, h3', k4, hiu', hiu2, hset, h3'']
      refine hp _ (u'.set i (R[i]?.getD 0)) (by simpa [List.getD_eq_getElem?_getD] using k1.set i) (by simp [k2]) (k3.trans (Same.put k4)) hset ?_
      intro k hk
      have := k5 k (by simpa [List.getD_eq_getElem?_getD] using hk)
      simp only [List.getD_eq_getElem?_getD] at this
      rw [List.getElem?_set]
      split
      · rename_i e
        subst e
        simp
      · exact this

end Go.Proofs.YtjgigcaelcapdaaDoor

namespace Go.Proofs.YtjgigcaelcapdaaDoor
open Go Go.Vm Go.Vm.T
set_option maxRecDepth 100000
set_option linter.unusedSimpArgs false
set_option linter.unusedVariables false

def mergeR (R : List Nat) (e : Int × Int) : List Nat :=
  R.map fun r => if r = max (R.getD e.1.toNat 0) (R.getD e.2.toNat 0) then min (R.getD e.1.toNat 0) (R.getD e.2.toNat 0) else r

def compsL (n : Nat) (es : List (Int × Int)) : List Nat := es.foldl mergeR (List.range n)

def edgesOf : GV → List (Int × Int)
  | .seq l => l.map fun
    | .pair (.num a) (.num b) => (a, b)
    | _ => (0, 0)
  | _ => []

theorem edgesOf_duos (es : List (Int × Int)) : edgesOf (duosV es) = es := by
  simp only [edgesOf, duosV, List.map_map]
  induction es with
  | nil => rfl
  | cons e r ih => simp only [List.map_cons, ih]; rfl

def InGraph (n : Nat) (es : List (Int × Int)) : Prop := ∀ e ∈ es, (0 ≤ e.1 ∧ e.1 < n) ∧ (0 ≤ e.2 ∧ e.2 < n)

def ofN (u : List Nat) : List Int := u.map fun k : Nat => (k : Int)
theorem ints_ofN (u : List Nat) : ints (ofN u) = nats u := by simp [ints, ofN, nats]

def compsOut : GV → Option (List Int)
  | .pair (.num n) d => some (ofN (compsL n.toNat (edgesOf d)))
  | _ => none

def compsDom (g : GV) : Prop := ∃ (n : Nat) (es : List (Int × Int)), g = .pair (.num n) (duosV es) ∧ 1 ≤ n ∧ n ≤ 1000 ∧ es.length ≤ 1000 ∧ InGraph n es

theorem mergeR_len (R : List Nat) (e : Int × Int) : (mergeR R e).length = R.length := by simp [mergeR]

theorem mergeR_get {R : List Nat} {e : Int × Int} {i : Nat} (hi : i < R.length) : (mergeR R e).getD i 0 =
    if R.getD i 0 = max (R.getD e.1.toNat 0) (R.getD e.2.toNat 0) then min (R.getD e.1.toNat 0) (R.getD e.2.toNat 0) else R.getD i 0 := by
  simp [mergeR, List.getD_eq_getElem?_getD, hi]

theorem Up.merge {u R : List Nat} {x y : Nat} {e : Int × Int} (h : Up u R) (hx : x < u.length) (hy : y < u.length) (ex : e.1.toNat = x) (ey : e.2.toNat = y) :
    Up (u.set (max (R.getD x 0) (R.getD y 0)) (min (R.getD x 0) (R.getD y 0))) (mergeR R e) := by
  have hlx := h.lowR x
  have hly := h.lowR y
  have ha := h.idem x hx
  have hb := h.idem y hy
  have hget : ∀ i, i < u.length → (mergeR R e).getD i 0 = if R.getD i 0 = max (R.getD x 0) (R.getD y 0) then min (R.getD x 0) (R.getD y 0) else R.getD i 0 := by
    intro i hi
    rw [mergeR_get (by rw [h.len]; exact hi), ex, ey]
  generalize hA : R.getD x 0 = A at *
  generalize hB : R.getD y 0 = B at *
  have hM : max A B < u.length := by omega
  have hmm : R.getD (min A B) 0 = min A B := by
    rcases Nat.le_total A B with k | k
    · rw [Nat.min_eq_left k]; exact ha
    · rw [Nat.min_eq_right k]; exact hb
  have hMM : R.getD (max A B) 0 = max A B := by
    rcases Nat.le_total A B with k | k
    · rw [Nat.max_eq_right k]; exact hb
    · rw [Nat.max_eq_left k]; exact ha
  have hm' : (mergeR R e).getD (min A B) 0 = min A B := by
    rw [hget _ (by omega), hmm]
    split <;> omega
  refine ⟨by simp [mergeR_len, h.len], fun i hi => ?_, fun i => ?_, fun i hi => ?_, fun i hi => ?_, fun i hi => ?_⟩
  · rw [List.getElem_set]
    split
    · rename_i e; subst e; omega
    · exact h.low i (by simpa using hi)
  · rcases Nat.lt_or_ge i u.length with hi | hi
    · rw [hget i hi]
      have := h.lowR i
      split <;> omega
    · simp [List.getD_eq_getElem?_getD, mergeR, List.getElem?_eq_none (show R.length ≤ i by rw [h.len]; exact hi)]
  · have hi' : i < u.length := by simpa using hi
    rw [hget i hi']
    have hli := h.lowR i
    split
    · exact hm'
    · rename_i hne
      rw [hget _ (by omega), h.idem i hi', if_neg hne]
  · have hi' : i < u.length := by simpa using hi
    rw [List.getElem_set]
    split
    · rename_i e; subst e
      rw [hm', hget _ hM, hMM, if_pos rfl]
    · have hlow := h.low i hi'
      rw [hget i hi', hget _ (by omega), h.step i hi']
  · have hi' : i < u.length := by simpa using hi
    rw [List.getElem_set]
    split
    · rename_i e; subst e
      intro e
      rw [hget _ hM, hMM, if_pos rfl, e]
    · rename_i hne
      intro e
      rw [hget i hi', h.top i hi' e, if_neg (fun e => hne e.symm)]

theorem up_range (n : Nat) : Up (List.range n) (List.range n) := by
  have hg : ∀ i, (List.range n).getD i 0 ≤ i := by
    intro i
    rw [List.getD_eq_getElem?_getD]
    rcases Nat.lt_or_ge i n with h | h
    · simp [h]
    · simp [List.getElem?_eq_none (show (List.range n).length ≤ i by simpa using h)]
  have hg' : ∀ i, i < n → (List.range n).getD i 0 = i := by
    intro i h
    rw [List.getD_eq_getElem?_getD]
    simp [h]
  refine ⟨rfl, fun i h => by simp, hg, fun i h => ?_, fun i h => ?_, fun i h _ => hg' i (by simpa using h)⟩
  · rw [hg' i (by simpa using h), hg' i (by simpa using h)]
  · simp

def fillU (n j : Nat) : List Nat := (List.range n).map fun k => if k < j then k else 0
theorem fillU_len (n j : Nat) : (fillU n j).length = n := by simp [fillU]
theorem fillU_set {n j : Nat} (hj : j < n) : (fillU n j).set j j = fillU n (j + 1) := by
  apply List.ext_getElem
  · simp [fillU]
  · intro i h1 h2
    rw [List.getElem_set]
    simp only [fillU, List.getElem_map, List.getElem_range]
    split
    · rename_i e; subst e; simp
    · rename_i hne
      by_cases h : i < j
      · rw [if_pos h, if_pos (by omega)]
      · rw [if_neg h, if_neg (by omega)]
theorem fillU_zero (n : Nat) : nats (fillU n 0) = List.replicate n (.int .i64 0) := by
  apply List.ext_getElem
  · simp [fillU]
  · intro i h1 h2
    simp [fillU]
theorem fillU_all (n : Nat) : fillU n n = List.range n := by
  apply List.ext_getElem
  · simp [fillU]
  · intro i h1 h2
    simp [fillU] at h1 ⊢
    omega

end Go.Proofs.YtjgigcaelcapdaaDoor

namespace Go.Proofs.YtjgigcaelcapdaaDoor
open Go Go.Vm Go.Vm.T
set_option maxRecDepth 100000
set_option linter.unusedSimpArgs false
set_option linter.unusedVariables false

theorem duoAs_get {es : List (Int × Int)} {j : Nat} (h : j < es.length) : indexAddrA ED 73 (lst (es.map duoA)) (.int .i64 j) = some (.rptr [.int .i64 es[j].1, .int .i64 es[j].2]) := by
  cases es with
  | nil => simp at h
  | cons a r =>
    have e : (duoA a :: r.map duoA)[j]? = some (duoA (a :: r)[j]) := by
      rw [show duoA a :: r.map duoA = (a :: r).map duoA from rfl, List.getElem?_map, List.getElem?_eq_getElem h]
      rfl
    simp only [List.map_cons, lst, indexAddrA, ED_desc73, ED_size81, Int.toNat_natCast]
    have h1 : (0 : Int) ≤ (j : Int) ∧ (j : Int) < ((duoA a :: r.map duoA).length : Nat) := by
      simp only [List.length_cons, List.length_map] at h ⊢
      omega
    rw [if_pos h1, e]
    simp [duoA, AV.cells]

theorem len73 {es : List AV} : lenA ED 73 (lst es) = some (.int .i64 es.length) := by cases es <;> rfl
theorem len22 {i o l c : Nat} : lenA ED 22 (.rsl i o l c) = some (.int .i64 l) := rfl
theorem index22 {i l c n : Nat} (h : n < l) : indexAddrA ED 22 (.rsl i 0 l c) (.int .i64 n) = some (.ptr i n) := by
  simp [indexAddrA, h]

theorem duoAs_cell (es : List (Int × Int)) : (lst (es.map duoA)).isCell = true ∧ (lst (es.map duoA)).known = true := by cases es <;> exact ⟨rfl, rfl⟩

theorem fold_max (a b : Nat) : foldA (maxA .max) (.int .i64 a) [.int .i64 b] = some (.int .i64 ((max a b : Nat) : Int)) := by
  simp only [foldA, maxA, Option.some.injEq, AV.int.injEq, true_and]
  split <;> omega
theorem fold_min (a b : Nat) : foldA (maxA .min) (.int .i64 a) [.int .i64 b] = some (.int .i64 ((min a b : Nat) : Int)) := by
  simp only [foldA, maxA, Option.some.injEq, AV.int.injEq, true_and]
  split <;> omega
theorem eq_bool {x y : Operand} : binA ED .eql 4 x y (.bool true) (.bool true) = some (.bool true) := by
  cases x <;> cases y <;> rfl

theorem flat_rep (n : Nat) : repeatL n [AV.int .i64 0] = List.replicate n (.int .i64 0) := by
  unfold repeatL
  induction n with
  | zero => rfl
  | succ n ih => rw [List.replicate_succ, List.flatten_cons, ih]; rfl

theorem comps_ok : (valueC 32 compsDom compsOut).Ok Tryd.prog ED := by
  refine Con.ok_at ED_ok ED_pers [sideC 45 false, sideC 46 true, graphC, needC] (by simpa using ⟨first_ok, second_ok, graph_ok, need_ok⟩) (fun (g : GV) _ => ⟨by show AV.persL [g.enc] = true; simp [AV.persL, GV.pers], ?_⟩) ?_
  · simp only [valueC]
    cases compsOut g with
    | none => rfl
    | some zs => exact lstI_pers zs
  rintro g ⟨N, es, rfl, hN1, hN, hes, hin⟩
  have hout : compsOut (.pair (.num N) (duosV es)) = some (ofN (compsL N es)) := by
    simp [compsOut, edgesOf_duos]
  show ∃ n, ∀ p : FRes → St → Prop, (∀ r S', r.melt S' = (match compsOut (.pair (.num N) (duosV es)) with | some zs => .ret (lstI zs) | none => .pan trapV) → p r S') → GotF (callS ED (sumOf [sideC 45 false, sideC 46 true, graphC, needC]) n (.fn 32) [(GV.pair (.num N) (duosV es)).enc] S0) p
  simp only [hout]
  refine ⟨3000, fun p hp => ?_⟩
  have d0 := @dr32_0
  have d1 := @dr32_1
  have d2 := @dr32_2
  have d3 := @dr32_3
  simp only [drA, drawsOf, Option.getD_some, List.nil_append, List.append_nil, List.getD_cons_zero, List.getD_cons_succ, List.cons_append, Tryd.f32] at d0 d1 d2 d3
  rw [callS_fn rfl]
  have hf := fun (n : Nat) (S : St) => side_use (cs := [sideC 45 false, sideC 46 true, graphC, needC]) (f := 45) (b := false) rfl (n := n) (S := S) (x := .num N) (y := duosV es)
  have hs := fun (n : Nat) (S : St) => side_use (cs := [sideC 45 false, sideC 46 true, graphC, needC]) (f := 46) (b := true) (by funext a; rfl) (n := n) (S := S) (x := .num N) (y := duosV es)
  have hg := fun (n : Nat) (S : St) => graph_use (cs := [sideC 45 false, sideC 46 true, graphC, needC]) (by funext a; rfl) (n := n) (S := S) (m := N) (es := es) (by omega) (by omega) hes
  have hne := fun (n : Nat) (S : St) (b : Bool) => need_use (cs := [sideC 45 false, sideC 46 true, graphC, needC]) (by funext a; rfl) (n := n) (S := S) (b := b)
  obtain ⟨k, z, e⟩ := (duosV es).look
  have hlk := gv_lst (l := (duosV es).kids)
  obtain ⟨hdc, hdk⟩ := duoAs_cell es
  have hdl : lenA ED 73 (lst (es.map duoA)) = some (.int .i64 es.length) := by rw [len73]; simp
  have hdx := fun (j : Nat) (hj : j < es.length) => duoAs_get hj
  simp only [GV.enc, pv, wv, e] at hf hs hg ⊢
  simp only [Bool.false_eq_true, if_false, if_true] at hf hs
  generalize lst (GV.encs (duosV es).kids) = y at *
  generalize lst (es.map duoA) = D at *
  have hp1 : ∀ z, partA ED 3 [.int .i64 1, .int .i64 z, .nils] 1 = some (.int .i64 z) := fun _ => rfl
  have hroom : (N : Int) * 9 ≤ (roomMost : Nat) := by unfold roomMost; omega
  simp only [fnA, ED_fn32, fi32, Tryd.f32]
  simp [evalC_seq, evalC_region, runA_cons', runA_consN, runA_consG, guardR_true, guardR_false, guardV_bool, guardV_tup, runA_nil', inFrame, startLoc, startVals, Loc.clear, eff_move, eff_assign, eff_binOp, eff_build, eff_buildSlice, eff_alloc, eff_box, eff_store, eff_load, eff_fieldAddr, eff_field, eff_indexAddr, eff_slice, eff_extract, eff_pick, eff_unOp, eff_convert, eff_makeSlice, eff_makeFunc, eff_makeInterface, eff_nilCheck, eff_panic, eff_len1, eff_max2, eff_min2, eff_append2, eff_callV, stepE_val, contR_ok, contR_pan, outC_ok, outC_pan, thenC_normal, thenC_ret, thenC_exit, thenC_pan, blockC, evalC_ret, evalC_skip, evalC_exit, evalC_block, evalC_scope, evalC_loop, Loc.putO, Loc.put, idx, evO, constV, Loc.get, Vm.look, valO_some, bin_int, intA, evalC_cond, condC_true, condC_false, unwindA, resultsA, resultV, actA, pureA, storeA, loadA, fillE, repElems, TI.zeroV, fieldOf, fieldAddrA, fieldA, elemsA, retE, cells?_put_push, push_at, put_at, cellsOf?, Nat.add_assoc, n_push', n_put', isCell_undef, known_undef, cells_undef, isCell_bool, known_bool, cells_bool, isCell_int, known_int, cells_int, isCell_str, known_str, cells_str, isCell_nilp, known_nilp, cells_nilp, isCell_ptr, known_ptr, cells_ptr, isCell_rptr, known_rptr, cells_rptr, isCell_nils, known_nils, cells_nils, isCell_slice, known_slice, cells_slice, isCell_rsl, known_rsl, cells_rsl, isCell_nilm, known_nilm, cells_nilm, isCell_map, known_map, cells_map, isCell_fn, known_fn, cells_fn, isCell_yld, known_yld, cells_yld, isCell_nilf, known_nilf, cells_nilf, isCell_iface, known_iface, cells_iface, isCell_nili, known_nili, cells_nili, isCell_agg, known_agg, cells_agg, isCell_tup, known_tup, cells_tup, setCells, nowhere, GotF_some, Got_some, int_beq, int_bne, runC_nil, runC_cons, pickC_some, wantC_tt, wantC_tf, effC_val, ifC_true, checkC, inPairs, keepC, okC, readsC_load, readV_some, AV.beq_self, wantA_n, wantA_g, wantD_some, d0, hf, hs, hg, hlk, hdc, hdk, hp1, len22, hroom, flat_rep]
  generalize hA : AV.agg [AV.int IntKind.i64 2, AV.int IntKind.i64 0, AV.slice [AV.agg [AV.int IntKind.i64 1, AV.int IntKind.i64 ↑N, AV.nils], AV.agg [AV.int IntKind.i64 k, AV.int IntKind.i64 z, y]] Tk.dead] = A
  generalize hc : iter _ _ _ _ = c
  obtain ⟨e1, L1, S1, rfl, hq⟩ := loop_of hc
    (fun r L S => ∃ j sc a5, j + r = N ∧ L = vloc [A, .ptr 0 0, .nils, .ptr 1 0, .ptr 3 0, a5, .undef, .undef, .undef, .undef, .undef, .undef, .undef, .int .i64 N, .int .i64 (j : Nat), .undef, .undef, .undef, .undef, .undef] sc ∧
      S.cells? 1 = some [D, .int .i64 N] ∧ S.cells? 2 = some (nats (fillU N j)) ∧ S.cells? 3 = some [.rsl 2 0 N N] ∧ S.n = 4)
    (fun e L S => e = .exit 0 ∧ ∃ sc a5 a25, L = vloc [A, .ptr 0 0, .nils, .ptr 1 0, .ptr 3 0, a5, .undef, .undef, .undef, .undef, .undef, .undef, .undef, .int .i64 N, a25, .undef, .undef, .undef, .undef, .undef] sc ∧
      S.cells? 1 = some [D, .int .i64 N] ∧ S.cells? 2 = some (nats (List.range N)) ∧ S.cells? 3 = some [.rsl 2 0 N N] ∧ S.n = 4)
    N (by omega)
    (by
      refine ⟨0, _, _, by simp, rfl, ?_, ?_, ?_, ?_⟩
      · simp [push_at, put_at, n_push', n_put', cellsOf?]
      · rw [fillU_zero]; simp [push_at, put_at, n_push', n_put', cellsOf?]
      · simp [push_at, put_at, n_push', n_put', cellsOf?]
      · simp [n_push', n_put'])
    (by
      rintro r L S ⟨j, sc, a5, hjk, rfl, g1, g2, g3, g4⟩ q hq1 hq2
      by_cases hj : j < N
      · have hw : IntKind.i64.wrap ((j : Int) + 1) = ((j : Int) + 1) := wrap_id (by omega) (by omega)
        have hl := fillU_len N j
        have hj1 : j + 1 ≤ N := hj
        simp [evalC_seq, evalC_region, runA_cons', runA_consN, runA_consG, guardR_true, guardR_false, guardV_bool, guardV_tup, runA_nil', inFrame, startLoc, startVals, Loc.clear, eff_move, eff_assign, eff_binOp, eff_build, eff_buildSlice, eff_alloc, eff_box, eff_store, eff_load, eff_fieldAddr, eff_field, eff_indexAddr, eff_slice, eff_extract, eff_pick, eff_unOp, eff_convert, eff_makeSlice, eff_makeFunc, eff_makeInterface, eff_nilCheck, eff_panic, eff_len1, eff_max2, eff_min2, eff_append2, eff_callV, stepE_val, contR_ok, contR_pan, outC_ok, outC_pan, thenC_normal, thenC_ret, thenC_exit, thenC_pan, blockC, evalC_ret, evalC_skip, evalC_exit, evalC_block, evalC_scope, evalC_loop, Loc.putO, Loc.put, idx, evO, constV, Loc.get, Vm.look, valO_some, bin_int, intA, evalC_cond, condC_true, condC_false, unwindA, resultsA, resultV, actA, pureA, storeA, loadA, fillE, repElems, TI.zeroV, fieldOf, fieldAddrA, fieldA, elemsA, retE, cells?_put_push, push_at, put_at, cellsOf?, Nat.add_assoc, n_push', n_put', isCell_undef, known_undef, cells_undef, isCell_bool, known_bool, cells_bool, isCell_int, known_int, cells_int, isCell_str, known_str, cells_str, isCell_nilp, known_nilp, cells_nilp, isCell_ptr, known_ptr, cells_ptr, isCell_rptr, known_rptr, cells_rptr, isCell_nils, known_nils, cells_nils, isCell_slice, known_slice, cells_slice, isCell_rsl, known_rsl, cells_rsl, isCell_nilm, known_nilm, cells_nilm, isCell_map, known_map, cells_map, isCell_fn, known_fn, cells_fn, isCell_yld, known_yld, cells_yld, isCell_nilf, known_nilf, cells_nilf, isCell_iface, known_iface, cells_iface, isCell_nili, known_nili, cells_nili, isCell_agg, known_agg, cells_agg, isCell_tup, known_tup, cells_tup, setCells, nowhere, GotF_some, Got_some, int_beq, int_bne, vloc, hj, g2, g3, index22 hj, hw, hl, hj1]
        refine hq1 (r - 1) _ _ (by omega) ⟨j + 1, _, _, by omega, rfl, cells_put g2 g1 (by decide), ?_, cells_put g2 g3 (by decide), by rw [n_put']; exact g4⟩
        rw [fillU_set hj]
        exact cells_put_self g2
      · have hjl : j = N := by omega
        subst hjl
        simp [evalC_seq, evalC_region, runA_cons', runA_consN, runA_consG, guardR_true, guardR_false, guardV_bool, guardV_tup, runA_nil', inFrame, startLoc, startVals, Loc.clear, eff_move, eff_assign, eff_binOp, eff_build, eff_buildSlice, eff_alloc, eff_box, eff_store, eff_load, eff_fieldAddr, eff_field, eff_indexAddr, eff_slice, eff_extract, eff_pick, eff_unOp, eff_convert, eff_makeSlice, eff_makeFunc, eff_makeInterface, eff_nilCheck, eff_panic, eff_len1, eff_max2, eff_min2, eff_append2, eff_callV, stepE_val, contR_ok, contR_pan, outC_ok, outC_pan, thenC_normal, thenC_ret, thenC_exit, thenC_pan, blockC, evalC_ret, evalC_skip, evalC_exit, evalC_block, evalC_scope, evalC_loop, Loc.putO, Loc.put, idx, evO, constV, Loc.get, Vm.look, valO_some, bin_int, intA, evalC_cond, condC_true, condC_false, unwindA, resultsA, resultV, actA, pureA, storeA, loadA, fillE, repElems, TI.zeroV, fieldOf, fieldAddrA, fieldA, elemsA, retE, cells?_put_push, push_at, put_at, cellsOf?, Nat.add_assoc, n_push', n_put', isCell_undef, known_undef, cells_undef, isCell_bool, known_bool, cells_bool, isCell_int, known_int, cells_int, isCell_str, known_str, cells_str, isCell_nilp, known_nilp, cells_nilp, isCell_ptr, known_ptr, cells_ptr, isCell_rptr, known_rptr, cells_rptr, isCell_nils, known_nils, cells_nils, isCell_slice, known_slice, cells_slice, isCell_rsl, known_rsl, cells_rsl, isCell_nilm, known_nilm, cells_nilm, isCell_map, known_map, cells_map, isCell_fn, known_fn, cells_fn, isCell_yld, known_yld, cells_yld, isCell_nilf, known_nilf, cells_nilf, isCell_iface, known_iface, cells_iface, isCell_nili, known_nili, cells_nili, isCell_agg, known_agg, cells_agg, isCell_tup, known_tup, cells_tup, setCells, nowhere, GotF_some, Got_some, int_beq, int_bne, vloc]
        refine hq2 _ _ _ (by simp) ⟨rfl, _, a5, _, rfl, g1, by rw [← fillU_all]; exact g2, g3, g4⟩)
  obtain ⟨rfl, sc, a5, a25, rfl, g1, g2, g3, g4⟩ := hq
  simp [evalC_seq, evalC_region, runA_cons', runA_consN, runA_consG, guardR_true, guardR_false, guardV_bool, guardV_tup, runA_nil', inFrame, startLoc, startVals, Loc.clear, eff_move, eff_assign, eff_binOp, eff_build, eff_buildSlice, eff_alloc, eff_box, eff_store, eff_load, eff_fieldAddr, eff_field, eff_indexAddr, eff_slice, eff_extract, eff_pick, eff_unOp, eff_convert, eff_makeSlice, eff_makeFunc, eff_makeInterface, eff_nilCheck, eff_panic, eff_len1, eff_max2, eff_min2, eff_append2, eff_callV, stepE_val, contR_ok, contR_pan, outC_ok, outC_pan, thenC_normal, thenC_ret, thenC_exit, thenC_pan, blockC, evalC_ret, evalC_skip, evalC_exit, evalC_block, evalC_scope, evalC_loop, Loc.putO, Loc.put, idx, evO, constV, Loc.get, Vm.look, valO_some, bin_int, intA, evalC_cond, condC_true, condC_false, unwindA, resultsA, resultV, actA, pureA, storeA, loadA, fillE, repElems, TI.zeroV, fieldOf, fieldAddrA, fieldA, elemsA, retE, cells?_put_push, push_at, put_at, cellsOf?, Nat.add_assoc, n_push', n_put', isCell_undef, known_undef, cells_undef, isCell_bool, known_bool, cells_bool, isCell_int, known_int, cells_int, isCell_str, known_str, cells_str, isCell_nilp, known_nilp, cells_nilp, isCell_ptr, known_ptr, cells_ptr, isCell_rptr, known_rptr, cells_rptr, isCell_nils, known_nils, cells_nils, isCell_slice, known_slice, cells_slice, isCell_rsl, known_rsl, cells_rsl, isCell_nilm, known_nilm, cells_nilm, isCell_map, known_map, cells_map, isCell_fn, known_fn, cells_fn, isCell_yld, known_yld, cells_yld, isCell_nilf, known_nilf, cells_nilf, isCell_iface, known_iface, cells_iface, isCell_nili, known_nili, cells_nili, isCell_agg, known_agg, cells_agg, isCell_tup, known_tup, cells_tup, setCells, nowhere, GotF_some, Got_some, int_beq, int_bne, vloc, g1, g4, hdl]
  generalize hc : iter _ _ _ _ = c
  obtain ⟨e1, L1, S2, rfl, hq⟩ := loop_of hc
    (fun r L S => ∃ j sc a8 a9 a10 a11 a12 u, j + r = es.length ∧ L = vloc [A, .ptr 0 0, .nils, .ptr 1 0, .ptr 3 0, a5, .ptr 4 0, a8, a9, a10, a11, a12, .undef, .int .i64 N, a25, D, .int .i64 es.length, .int .i64 (j : Nat), .undef, .undef] sc ∧
      S.cells? 1 = some [D, .int .i64 N] ∧ S.cells? 3 = some [.rsl 2 0 N N] ∧ S.cells? 4 = some [.fn 47 [] [.ptr 3 0, .ptr 4 0]] ∧ S.cells? 2 = some (nats u) ∧ u.length = N ∧ Up u ((es.take j).foldl mergeR (List.range N)))
    (fun e L S => e = .exit 2 ∧ ∃ sc a8 a9 a10 a11 a12 a38 u, L = vloc [A, .ptr 0 0, .nils, .ptr 1 0, .ptr 3 0, a5, .ptr 4 0, a8, a9, a10, a11, a12, .undef, .int .i64 N, a25, D, .int .i64 es.length, a38, .undef, .undef] sc ∧
      S.cells? 3 = some [.rsl 2 0 N N] ∧ S.cells? 4 = some [.fn 47 [] [.ptr 3 0, .ptr 4 0]] ∧ S.cells? 2 = some (nats u) ∧ u.length = N ∧ Up u (compsL N es))
    es.length (by omega)
    (by
      have b1 := cells_push (o := .cells [.nilf]) g1
      have b2 := cells_push (o := .cells [.nilf]) g2
      have b3 := cells_push (o := .cells [.nilf]) g3
      have b4 : (S1.push (.cells [.nilf])).cells? 4 = some [.nilf] := by rw [← g4]; exact cells?_push_self _ _
      refine ⟨0, _, _, _, _, _, _, List.range N, by simp, rfl, cells_put b4 b1 (by decide), cells_put b4 b3 (by decide), cells_put_self b4, cells_put b4 b2 (by decide), by simp, by simpa using up_range N⟩)
    (by
      rintro r L S ⟨j, sc, a8, a9, a10, a11, a12, u, hjk, rfl, i1, i3, i4, i2, hul, hup⟩ q hq1 hq2
      by_cases hj : j < es.length
      · have hw : IntKind.i64.wrap ((j : Int) + 1) = ((j : Int) + 1) := wrap_id (by omega) (by omega)
        have hix := hdx j hj
        obtain ⟨⟨hx0, hx1⟩, hy0, hy1⟩ := hin es[j] (List.getElem_mem hj)
        have hfold : (es.take (j + 1)).foldl mergeR (List.range N) = mergeR ((es.take j).foldl mergeR (List.range N)) es[j] := by
          rw [List.take_add_one, List.getElem?_eq_getElem hj, List.foldl_append]
          rfl
        generalize hR : (es.take j).foldl mergeR (List.range N) = R at *
        obtain ⟨x, hx⟩ := Int.eq_ofNat_of_zero_le hx0
        obtain ⟨y', hy⟩ := Int.eq_ofNat_of_zero_le hy0
        have hmg := hup.merge (x := x) (y := y') (e := es[j]) (by omega) (by omega) (by omega) (by omega)
        rw [hx] at hx1 hix
        rw [hy] at hy1 hix
        have hxN : x < N := by omega
        have hyN : y' < N := by omega
        have hlt3 := St.get_lt (cells?_inv i4)
        have j1 := cells_box (o := .cells [.int .i64 0, .int .i64 0]) (o' := .cells [.int .i64 x, .int .i64 y']) i1
        have j2 := cells_box (o := .cells [.int .i64 0, .int .i64 0]) (o' := .cells [.int .i64 x, .int .i64 y']) i2
        have j3 := cells_box (o := .cells [.int .i64 0, .int .i64 0]) (o' := .cells [.int .i64 x, .int .i64 y']) i3
        have j4 := cells_box (o := .cells [.int .i64 0, .int .i64 0]) (o' := .cells [.int .i64 x, .int .i64 y']) i4
        have j8 := cells?_put_push S (.cells [.int .i64 0, .int .i64 0]) [.int .i64 x, .int .i64 y']
        obtain ⟨T1, u1, c1, p1, l1, s1, m1, _⟩ := root_ev [sideC 45 false, sideC 46 true, graphC, needC] rfl N (by omega) N x hxN 2999 u R _ (by omega) hxN hul hup j3 j4 j2
        have k1 := s1.cells _ _ (by decide) j1
        have k3 := s1.cells _ _ (by decide) j3
        have k4 := s1.cells _ _ (by decide) j4
        have k8 := s1.cells _ _ (by omega) j8
        obtain ⟨T2, u2, c2, p2, l2, s2, m2, _⟩ := root_ev [sideC 45 false, sideC 46 true, graphC, needC] rfl N (by omega) N y' hyN 2999 u1 R _ (by omega) hyN l1 p1 k3 k4 m1
        have n1 := s2.cells _ _ (by decide) k1
        have n3 := s2.cells _ _ (by decide) k3
        have n4 := s2.cells _ _ (by decide) k4
        have hmg2 := p2.merge (x := x) (y := y') (e := es[j]) (by omega) (by omega) (by omega) (by omega)
        have hlx := hup.lowR x
        have hly := hup.lowR y'
        have hmx := fold_max (R.getD x 0) (R.getD y' 0)
        have hmn := fold_min (R.getD x 0) (R.getD y' 0)
        generalize hMx : max (R.getD x 0) (R.getD y' 0) = M at *
        generalize hMn : min (R.getD x 0) (R.getD y' 0) = m at *
        generalize R.getD x 0 = Rx at *
        generalize R.getD y' 0 = Ry at *
        have hMN : M < N := by omega
        have hMl : M + 1 ≤ u2.length := by omega
        simp [evalC_seq, evalC_region, runA_cons', runA_consN, runA_consG, guardR_true, guardR_false, guardV_bool, guardV_tup, runA_nil', inFrame, startLoc, startVals, Loc.clear, eff_move, eff_assign, eff_binOp, eff_build, eff_buildSlice, eff_alloc, eff_box, eff_store, eff_load, eff_fieldAddr, eff_field, eff_indexAddr, eff_slice, eff_extract, eff_pick, eff_unOp, eff_convert, eff_makeSlice, eff_makeFunc, eff_makeInterface, eff_nilCheck, eff_panic, eff_len1, eff_max2, eff_min2, eff_append2, eff_callV, stepE_val, contR_ok, contR_pan, outC_ok, outC_pan, thenC_normal, thenC_ret, thenC_exit, thenC_pan, blockC, evalC_ret, evalC_skip, evalC_exit, evalC_block, evalC_scope, evalC_loop, Loc.putO, Loc.put, idx, evO, constV, Loc.get, Vm.look, valO_some, bin_int, intA, evalC_cond, condC_true, condC_false, unwindA, resultsA, resultV, actA, pureA, storeA, loadA, fillE, repElems, TI.zeroV, fieldOf, fieldAddrA, fieldA, elemsA, retE, cells?_put_push, push_at, put_at, cellsOf?, Nat.add_assoc, n_push', n_put', isCell_undef, known_undef, cells_undef, isCell_bool, known_bool, cells_bool, isCell_int, known_int, cells_int, isCell_str, known_str, cells_str, isCell_nilp, known_nilp, cells_nilp, isCell_ptr, known_ptr, cells_ptr, isCell_rptr, known_rptr, cells_rptr, isCell_nils, known_nils, cells_nils, isCell_slice, known_slice, cells_slice, isCell_rsl, known_rsl, cells_rsl, isCell_nilm, known_nilm, cells_nilm, isCell_map, known_map, cells_map, isCell_fn, known_fn, cells_fn, isCell_yld, known_yld, cells_yld, isCell_nilf, known_nilf, cells_nilf, isCell_iface, known_iface, cells_iface, isCell_nili, known_nili, cells_nili, isCell_agg, known_agg, cells_agg, isCell_tup, known_tup, cells_tup, setCells, nowhere, GotF_some, Got_some, int_beq, int_bne, runC_nil, runC_cons, pickC_some, wantC_tt, wantC_tf, effC_val, ifC_true, checkC, inPairs, keepC, okC, readsC_load, readV_some, AV.beq_self, wantA_n, wantA_g, wantD_some, d1, d2, vloc, hj, hix, j8, j1, j4, hxN, hyN, eq_bool, hne, c1, c2, k4, k8, n3, m2, hmx, hmn, index22 hMN, hMl, hw]
        refine hq1 (r - 1) _ _ (by omega) ⟨j + 1, _, _, _, _, _, _, u2.set M m, by omega, rfl, cells_put m2 n1 (by decide), cells_put m2 n3 (by decide), cells_put m2 n4 (by decide), cells_put_self m2, by simp [l2], ?_⟩
        rw [hfold]
        exact hmg2
      · have hjl : j = es.length := by omega
        subst hjl
        simp [evalC_seq, evalC_region, runA_cons', runA_consN, runA_consG, guardR_true, guardR_false, guardV_bool, guardV_tup, runA_nil', inFrame, startLoc, startVals, Loc.clear, eff_move, eff_assign, eff_binOp, eff_build, eff_buildSlice, eff_alloc, eff_box, eff_store, eff_load, eff_fieldAddr, eff_field, eff_indexAddr, eff_slice, eff_extract, eff_pick, eff_unOp, eff_convert, eff_makeSlice, eff_makeFunc, eff_makeInterface, eff_nilCheck, eff_panic, eff_len1, eff_max2, eff_min2, eff_append2, eff_callV, stepE_val, contR_ok, contR_pan, outC_ok, outC_pan, thenC_normal, thenC_ret, thenC_exit, thenC_pan, blockC, evalC_ret, evalC_skip, evalC_exit, evalC_block, evalC_scope, evalC_loop, Loc.putO, Loc.put, idx, evO, constV, Loc.get, Vm.look, valO_some, bin_int, intA, evalC_cond, condC_true, condC_false, unwindA, resultsA, resultV, actA, pureA, storeA, loadA, fillE, repElems, TI.zeroV, fieldOf, fieldAddrA, fieldA, elemsA, retE, cells?_put_push, push_at, put_at, cellsOf?, Nat.add_assoc, n_push', n_put', isCell_undef, known_undef, cells_undef, isCell_bool, known_bool, cells_bool, isCell_int, known_int, cells_int, isCell_str, known_str, cells_str, isCell_nilp, known_nilp, cells_nilp, isCell_ptr, known_ptr, cells_ptr, isCell_rptr, known_rptr, cells_rptr, isCell_nils, known_nils, cells_nils, isCell_slice, known_slice, cells_slice, isCell_rsl, known_rsl, cells_rsl, isCell_nilm, known_nilm, cells_nilm, isCell_map, known_map, cells_map, isCell_fn, known_fn, cells_fn, isCell_yld, known_yld, cells_yld, isCell_nilf, known_nilf, cells_nilf, isCell_iface, known_iface, cells_iface, isCell_nili, known_nili, cells_nili, isCell_agg, known_agg, cells_agg, isCell_tup, known_tup, cells_tup, setCells, nowhere, GotF_some, Got_some, int_beq, int_bne, vloc]
        refine hq2 _ _ _ (by simp) ⟨rfl, _, a8, a9, a10, a11, a12, _, u, rfl, i3, i4, i2, hul, by simpa [compsL] using hup⟩)
  obtain ⟨rfl, sc, a8, a9, a10, a11, a12, a38, u, rfl, g3, g4, g2, hul, hup⟩ := hq
  have hRl : (compsL N es).length = N := by rw [hup.len, hul]
  generalize compsL N es = R at *
  simp [evalC_seq, evalC_region, runA_cons', runA_consN, runA_consG, guardR_true, guardR_false, guardV_bool, guardV_tup, runA_nil', inFrame, startLoc, startVals, Loc.clear, eff_move, eff_assign, eff_binOp, eff_build, eff_buildSlice, eff_alloc, eff_box, eff_store, eff_load, eff_fieldAddr, eff_field, eff_indexAddr, eff_slice, eff_extract, eff_pick, eff_unOp, eff_convert, eff_makeSlice, eff_makeFunc, eff_makeInterface, eff_nilCheck, eff_panic, eff_len1, eff_max2, eff_min2, eff_append2, eff_callV, stepE_val, contR_ok, contR_pan, outC_ok, outC_pan, thenC_normal, thenC_ret, thenC_exit, thenC_pan, blockC, evalC_ret, evalC_skip, evalC_exit, evalC_block, evalC_scope, evalC_loop, Loc.putO, Loc.put, idx, evO, constV, Loc.get, Vm.look, valO_some, bin_int, intA, evalC_cond, condC_true, condC_false, unwindA, resultsA, resultV, actA, pureA, storeA, loadA, fillE, repElems, TI.zeroV, fieldOf, fieldAddrA, fieldA, elemsA, retE, cells?_put_push, push_at, put_at, cellsOf?, Nat.add_assoc, n_push', n_put', isCell_undef, known_undef, cells_undef, isCell_bool, known_bool, cells_bool, isCell_int, known_int, cells_int, isCell_str, known_str, cells_str, isCell_nilp, known_nilp, cells_nilp, isCell_ptr, known_ptr, cells_ptr, isCell_rptr, known_rptr, cells_rptr, isCell_nils, known_nils, cells_nils, isCell_slice, known_slice, cells_slice, isCell_rsl, known_rsl, cells_rsl, isCell_nilm, known_nilm, cells_nilm, isCell_map, known_map, cells_map, isCell_fn, known_fn, cells_fn, isCell_yld, known_yld, cells_yld, isCell_nilf, known_nilf, cells_nilf, isCell_iface, known_iface, cells_iface, isCell_nili, known_nili, cells_nili, isCell_agg, known_agg, cells_agg, isCell_tup, known_tup, cells_tup, setCells, nowhere, GotF_some, Got_some, int_beq, int_bne, vloc, g3, len22]
  generalize hc : iter _ _ _ _ = c
  obtain ⟨e1, L1, S3, rfl, hq⟩ := loop_of hc
    (fun r L S => ∃ j sc a13 u, j + r = N ∧ L = vloc [A, .ptr 0 0, .nils, .ptr 1 0, .ptr 3 0, a5, .ptr 4 0, a8, a9, a10, a11, a12, a13, .int .i64 N, a25, D, .int .i64 es.length, a38, .int .i64 N, .int .i64 (j : Nat)] sc ∧
      S.cells? 3 = some [.rsl 2 0 N N] ∧ S.cells? 4 = some [.fn 47 [] [.ptr 3 0, .ptr 4 0]] ∧ S.cells? 2 = some (nats u) ∧ u.length = N ∧ Up u R ∧ ∀ k, k < j → u.getD k 0 = R.getD k 0)
    (fun e L S => e = .exit 4 ∧ ∃ sc a13 a86 u, L = vloc [A, .ptr 0 0, .nils, .ptr 1 0, .ptr 3 0, a5, .ptr 4 0, a8, a9, a10, a11, a12, a13, .int .i64 N, a25, D, .int .i64 es.length, a38, .int .i64 N, a86] sc ∧
      S.cells? 3 = some [.rsl 2 0 N N] ∧ S.cells? 2 = some (nats R))
    N (by omega)
    ⟨0, _, _, u, by simp, rfl, g3, g4, g2, hul, hup, fun k hk => by omega⟩
    (by
      rintro r L S ⟨j, sc, a13, u, hjk, rfl, i3, i4, i2, hul, hup, hdone⟩ q hq1 hq2
      by_cases hj : j < N
      · have hw : IntKind.i64.wrap ((j : Int) + 1) = ((j : Int) + 1) := wrap_id (by omega) (by omega)
        obtain ⟨T1, u1, c1, p1, l1, s1, m1, k1⟩ := root_ev [sideC 45 false, sideC 46 true, graphC, needC] rfl N (by omega) N j hj 2999 u R _ (by omega) hj hul hup i3 i4 i2
        have n3 := s1.cells _ _ (by decide) i3
        have n4 := s1.cells _ _ (by decide) i4
        have hj1 : j + 1 ≤ u1.length := by omega
        have hset := p1.set j
        have hself : (u1.set j (R.getD j 0)).getD j 0 = R.getD j 0 := by simp [List.getD_eq_getElem?_getD, List.getElem?_set, l1, hj]
        have hoth : ∀ k, k ≠ j → (u1.set j (R.getD j 0)).getD k 0 = u1.getD k 0 := fun k hk => by simp [List.getD_eq_getElem?_getD, List.getElem?_set, Ne.symm hk]
        generalize hr : R.getD j 0 = v at *
        simp [evalC_seq, evalC_region, runA_cons', runA_consN, runA_consG, guardR_true, guardR_false, guardV_bool, guardV_tup, runA_nil', inFrame, startLoc, startVals, Loc.clear, eff_move, eff_assign, eff_binOp, eff_build, eff_buildSlice, eff_alloc, eff_box, eff_store, eff_load, eff_fieldAddr, eff_field, eff_indexAddr, eff_slice, eff_extract, eff_pick, eff_unOp, eff_convert, eff_makeSlice, eff_makeFunc, eff_makeInterface, eff_nilCheck, eff_panic, eff_len1, eff_max2, eff_min2, eff_append2, eff_callV, stepE_val, contR_ok, contR_pan, outC_ok, outC_pan, thenC_normal, thenC_ret, thenC_exit, thenC_pan, blockC, evalC_ret, evalC_skip, evalC_exit, evalC_block, evalC_scope, evalC_loop, Loc.putO, Loc.put, idx, evO, constV, Loc.get, Vm.look, valO_some, bin_int, intA, evalC_cond, condC_true, condC_false, unwindA, resultsA, resultV, actA, pureA, storeA, loadA, fillE, repElems, TI.zeroV, fieldOf, fieldAddrA, fieldA, elemsA, retE, cells?_put_push, push_at, put_at, cellsOf?, Nat.add_assoc, n_push', n_put', isCell_undef, known_undef, cells_undef, isCell_bool, known_bool, cells_bool, isCell_int, known_int, cells_int, isCell_str, known_str, cells_str, isCell_nilp, known_nilp, cells_nilp, isCell_ptr, known_ptr, cells_ptr, isCell_rptr, known_rptr, cells_rptr, isCell_nils, known_nils, cells_nils, isCell_slice, known_slice, cells_slice, isCell_rsl, known_rsl, cells_rsl, isCell_nilm, known_nilm, cells_nilm, isCell_map, known_map, cells_map, isCell_fn, known_fn, cells_fn, isCell_yld, known_yld, cells_yld, isCell_nilf, known_nilf, cells_nilf, isCell_iface, known_iface, cells_iface, isCell_nili, known_nili, cells_nili, isCell_agg, known_agg, cells_agg, isCell_tup, known_tup, cells_tup, setCells, nowhere, GotF_some, Got_some, int_beq, int_bne, runC_nil, runC_cons, pickC_some, wantC_tt, wantC_tf, effC_val, ifC_true, checkC, inPairs, keepC, okC, readsC_load, readV_some, AV.beq_self, wantA_n, wantA_g, wantD_some, d3, vloc, hj, i3, i4, c1, n3, m1, index22 hj, hj1, hw]
        refine hq1 (r - 1) _ _ (by omega) ⟨j + 1, _, _, u1.set j v, by omega, rfl, cells_put m1 n3 (by decide), cells_put m1 n4 (by decide), cells_put_self m1, by simp [l1], hset, ?_⟩
        intro k hk
        by_cases hkj : k = j
        · subst hkj; rw [hself, hr]
        · rw [hoth k hkj]; exact k1 k (hdone k (by omega))
      · have hjl : j = N := by omega
        subst hjl
        have huR : u = R := by
          apply List.ext_getElem (by rw [hul, hRl])
          intro i h1 h2
          have := hdone i (by omega)
          simpa [List.getD_eq_getElem?_getD, h1, h2] using this
        simp [evalC_seq, evalC_region, runA_cons', runA_consN, runA_consG, guardR_true, guardR_false, guardV_bool, guardV_tup, runA_nil', inFrame, startLoc, startVals, Loc.clear, eff_move, eff_assign, eff_binOp, eff_build, eff_buildSlice, eff_alloc, eff_box, eff_store, eff_load, eff_fieldAddr, eff_field, eff_indexAddr, eff_slice, eff_extract, eff_pick, eff_unOp, eff_convert, eff_makeSlice, eff_makeFunc, eff_makeInterface, eff_nilCheck, eff_panic, eff_len1, eff_max2, eff_min2, eff_append2, eff_callV, stepE_val, contR_ok, contR_pan, outC_ok, outC_pan, thenC_normal, thenC_ret, thenC_exit, thenC_pan, blockC, evalC_ret, evalC_skip, evalC_exit, evalC_block, evalC_scope, evalC_loop, Loc.putO, Loc.put, idx, evO, constV, Loc.get, Vm.look, valO_some, bin_int, intA, evalC_cond, condC_true, condC_false, unwindA, resultsA, resultV, actA, pureA, storeA, loadA, fillE, repElems, TI.zeroV, fieldOf, fieldAddrA, fieldA, elemsA, retE, cells?_put_push, push_at, put_at, cellsOf?, Nat.add_assoc, n_push', n_put', isCell_undef, known_undef, cells_undef, isCell_bool, known_bool, cells_bool, isCell_int, known_int, cells_int, isCell_str, known_str, cells_str, isCell_nilp, known_nilp, cells_nilp, isCell_ptr, known_ptr, cells_ptr, isCell_rptr, known_rptr, cells_rptr, isCell_nils, known_nils, cells_nils, isCell_slice, known_slice, cells_slice, isCell_rsl, known_rsl, cells_rsl, isCell_nilm, known_nilm, cells_nilm, isCell_map, known_map, cells_map, isCell_fn, known_fn, cells_fn, isCell_yld, known_yld, cells_yld, isCell_nilf, known_nilf, cells_nilf, isCell_iface, known_iface, cells_iface, isCell_nili, known_nili, cells_nili, isCell_agg, known_agg, cells_agg, isCell_tup, known_tup, cells_tup, setCells, nowhere, GotF_some, Got_some, int_beq, int_bne, vloc]
        refine hq2 _ _ _ (by simp) ⟨rfl, _, a13, _, u, rfl, i3, by rw [← huR]; exact i2⟩)
  obtain ⟨rfl, sc, a13, a86, u, rfl, g3, g2⟩ := hq
  simp [evalC_seq, evalC_region, runA_cons', runA_consN, runA_consG, guardR_true, guardR_false, guardV_bool, guardV_tup, runA_nil', inFrame, startLoc, startVals, Loc.clear, eff_move, eff_assign, eff_binOp, eff_build, eff_buildSlice, eff_alloc, eff_box, eff_store, eff_load, eff_fieldAddr, eff_field, eff_indexAddr, eff_slice, eff_extract, eff_pick, eff_unOp, eff_convert, eff_makeSlice, eff_makeFunc, eff_makeInterface, eff_nilCheck, eff_panic, eff_len1, eff_max2, eff_min2, eff_append2, eff_callV, stepE_val, contR_ok, contR_pan, outC_ok, outC_pan, thenC_normal, thenC_ret, thenC_exit, thenC_pan, blockC, evalC_ret, evalC_skip, evalC_exit, evalC_block, evalC_scope, evalC_loop, Loc.putO, Loc.put, idx, evO, constV, Loc.get, Vm.look, valO_some, bin_int, intA, evalC_cond, condC_true, condC_false, unwindA, resultsA, resultV, actA, pureA, storeA, loadA, fillE, repElems, TI.zeroV, fieldOf, fieldAddrA, fieldA, elemsA, retE, cells?_put_push, push_at, put_at, cellsOf?, Nat.add_assoc, n_push', n_put', isCell_undef, known_undef, cells_undef, isCell_bool, known_bool, cells_bool, isCell_int, known_int, cells_int, isCell_str, known_str, cells_str, isCell_nilp, known_nilp, cells_nilp, isCell_ptr, known_ptr, cells_ptr, isCell_rptr, known_rptr, cells_rptr, isCell_nils, known_nils, cells_nils, isCell_slice, known_slice, cells_slice, isCell_rsl, known_rsl, cells_rsl, isCell_nilm, known_nilm, cells_nilm, isCell_map, known_map, cells_map, isCell_fn, known_fn, cells_fn, isCell_yld, known_yld, cells_yld, isCell_nilf, known_nilf, cells_nilf, isCell_iface, known_iface, cells_iface, isCell_nili, known_nili, cells_nili, isCell_agg, known_agg, cells_agg, isCell_tup, known_tup, cells_tup, setCells, nowhere, GotF_some, Got_some, int_beq, int_bne, vloc, g3]
  refine hp _ _ ?_
  have hd : AV.deadL (nats R) = nats R := by rw [← ints_ofN]; exact ints_dead _
  have hl2 : lst (nats R) = .slice (nats R) .dead := by
    cases R with
    | nil => simp at hRl; omega
    | cons a r => rfl
  have htk : (nats R).take N = nats R := List.take_of_length_le (by simp [hRl])
  have hall : (∀ x ∈ nats R, x.isCell = true) := fun x hx => List.all_eq_true.1 (nats_cell R) x hx
  simp [FRes.melt, AV.melt, g2, hRl, lstI, ints_ofN, hl2, htk, hd, hall]

end Go.Proofs.YtjgigcaelcapdaaDoor

namespace Go.Proofs.YtjgigcaelcapdaaDoor
open Go Go.Vm Go.Vm.T
set_option maxRecDepth 100000
set_option linter.unusedSimpArgs false
set_option linter.unusedVariables false

def sameWC : Con where
  f := 14
  X := Int × Int
  dom _ := True
  enc x := [(GV.num x.1).enc, (GV.num x.2).enc]
  res x := .ret (.bool (decide (x.1 = x.2)))

theorem sameW_ok : sameWC.Ok Tryd.prog ED := by
  refine Con.ok_at ED_ok ED_pers [] (by simp) (fun (x : Int × Int) _ => ⟨rfl, rfl⟩) ?_
  rintro ⟨a, b⟩ _
  show ∃ n, ∀ p : FRes → St → Prop, (∀ r S', r.melt S' = .ret (.bool (decide (a = b))) → p r S') → GotF (callS ED (sumOf []) n (.fn 14) [(GV.num a).enc, (GV.num b).enc] S0) p
  refine ⟨2, fun p hp => ?_⟩
  rw [callS_fn rfl]
  simp only [fnA, ED_fn14, fi14, Tryd.f14, GV.enc, wv]
  by_cases h : a = b
  · simp [evalC_seq, evalC_region, runA_cons', runA_consN, runA_consG, guardR_true, guardR_false, guardV_bool, guardV_tup, runA_nil', inFrame, startLoc, startVals, Loc.clear, eff_move, eff_assign, eff_binOp, eff_build, eff_buildSlice, eff_alloc, eff_box, eff_store, eff_load, eff_fieldAddr, eff_field, eff_indexAddr, eff_slice, eff_extract, eff_pick, eff_unOp, eff_convert, eff_makeSlice, eff_makeFunc, eff_makeInterface, eff_nilCheck, eff_panic, eff_len1, eff_max2, eff_min2, eff_append2, eff_callV, stepE_val, contR_ok, contR_pan, outC_ok, outC_pan, thenC_normal, thenC_ret, thenC_exit, thenC_pan, blockC, evalC_ret, evalC_skip, evalC_exit, evalC_block, evalC_scope, evalC_loop, Loc.putO, Loc.put, idx, evO, constV, Loc.get, Vm.look, valO_some, bin_int, intA, evalC_cond, condC_true, condC_false, unwindA, resultsA, resultV, actA, pureA, storeA, loadA, fillE, repElems, TI.zeroV, fieldOf, fieldAddrA, fieldA, elemsA, retE, cells?_put_push, push_at, put_at, cellsOf?, Nat.add_assoc, n_push', n_put', isCell_undef, known_undef, cells_undef, isCell_bool, known_bool, cells_bool, isCell_int, known_int, cells_int, isCell_str, known_str, cells_str, isCell_nilp, known_nilp, cells_nilp, isCell_ptr, known_ptr, cells_ptr, isCell_rptr, known_rptr, cells_rptr, isCell_nils, known_nils, cells_nils, isCell_slice, known_slice, cells_slice, isCell_rsl, known_rsl, cells_rsl, isCell_nilm, known_nilm, cells_nilm, isCell_map, known_map, cells_map, isCell_fn, known_fn, cells_fn, isCell_yld, known_yld, cells_yld, isCell_nilf, known_nilf, cells_nilf, isCell_iface, known_iface, cells_iface, isCell_nili, known_nili, cells_nili, isCell_agg, known_agg, cells_agg, isCell_tup, known_tup, cells_tup, setCells, nowhere, GotF_some, Got_some, int_beq, int_bne, lenA, indexAddrA, h]
    generalize hc : iter _ _ _ _ = c
    rw [iter_succ] at hc
    simp [evalC_seq, evalC_region, runA_cons', runA_consN, runA_consG, guardR_true, guardR_false, guardV_bool, guardV_tup, runA_nil', inFrame, startLoc, startVals, Loc.clear, eff_move, eff_assign, eff_binOp, eff_build, eff_buildSlice, eff_alloc, eff_box, eff_store, eff_load, eff_fieldAddr, eff_field, eff_indexAddr, eff_slice, eff_extract, eff_pick, eff_unOp, eff_convert, eff_makeSlice, eff_makeFunc, eff_makeInterface, eff_nilCheck, eff_panic, eff_len1, eff_max2, eff_min2, eff_append2, eff_callV, stepE_val, contR_ok, contR_pan, outC_ok, outC_pan, thenC_normal, thenC_ret, thenC_exit, thenC_pan, blockC, evalC_ret, evalC_skip, evalC_exit, evalC_block, evalC_scope, evalC_loop, Loc.putO, Loc.put, idx, evO, constV, Loc.get, Vm.look, valO_some, bin_int, intA, evalC_cond, condC_true, condC_false, unwindA, resultsA, resultV, actA, pureA, storeA, loadA, fillE, repElems, TI.zeroV, fieldOf, fieldAddrA, fieldA, elemsA, retE, cells?_put_push, push_at, put_at, cellsOf?, Nat.add_assoc, n_push', n_put', isCell_undef, known_undef, cells_undef, isCell_bool, known_bool, cells_bool, isCell_int, known_int, cells_int, isCell_str, known_str, cells_str, isCell_nilp, known_nilp, cells_nilp, isCell_ptr, known_ptr, cells_ptr, isCell_rptr, known_rptr, cells_rptr, isCell_nils, known_nils, cells_nils, isCell_slice, known_slice, cells_slice, isCell_rsl, known_rsl, cells_rsl, isCell_nilm, known_nilm, cells_nilm, isCell_map, known_map, cells_map, isCell_fn, known_fn, cells_fn, isCell_yld, known_yld, cells_yld, isCell_nilf, known_nilf, cells_nilf, isCell_iface, known_iface, cells_iface, isCell_nili, known_nili, cells_nili, isCell_agg, known_agg, cells_agg, isCell_tup, known_tup, cells_tup, setCells, nowhere, GotF_some, Got_some, int_beq, int_bne, lenA, indexAddrA] at hc
    subst hc
    simp [evalC_seq, evalC_region, runA_cons', runA_consN, runA_consG, guardR_true, guardR_false, guardV_bool, guardV_tup, runA_nil', inFrame, startLoc, startVals, Loc.clear, eff_move, eff_assign, eff_binOp, eff_build, eff_buildSlice, eff_alloc, eff_box, eff_store, eff_load, eff_fieldAddr, eff_field, eff_indexAddr, eff_slice, eff_extract, eff_pick, eff_unOp, eff_convert, eff_makeSlice, eff_makeFunc, eff_makeInterface, eff_nilCheck, eff_panic, eff_len1, eff_max2, eff_min2, eff_append2, eff_callV, stepE_val, contR_ok, contR_pan, outC_ok, outC_pan, thenC_normal, thenC_ret, thenC_exit, thenC_pan, blockC, evalC_ret, evalC_skip, evalC_exit, evalC_block, evalC_scope, evalC_loop, Loc.putO, Loc.put, idx, evO, constV, Loc.get, Vm.look, valO_some, bin_int, intA, evalC_cond, condC_true, condC_false, unwindA, resultsA, resultV, actA, pureA, storeA, loadA, fillE, repElems, TI.zeroV, fieldOf, fieldAddrA, fieldA, elemsA, retE, cells?_put_push, push_at, put_at, cellsOf?, Nat.add_assoc, n_push', n_put', isCell_undef, known_undef, cells_undef, isCell_bool, known_bool, cells_bool, isCell_int, known_int, cells_int, isCell_str, known_str, cells_str, isCell_nilp, known_nilp, cells_nilp, isCell_ptr, known_ptr, cells_ptr, isCell_rptr, known_rptr, cells_rptr, isCell_nils, known_nils, cells_nils, isCell_slice, known_slice, cells_slice, isCell_rsl, known_rsl, cells_rsl, isCell_nilm, known_nilm, cells_nilm, isCell_map, known_map, cells_map, isCell_fn, known_fn, cells_fn, isCell_yld, known_yld, cells_yld, isCell_nilf, known_nilf, cells_nilf, isCell_iface, known_iface, cells_iface, isCell_nili, known_nili, cells_nili, isCell_agg, known_agg, cells_agg, isCell_tup, known_tup, cells_tup, setCells, nowhere, GotF_some, Got_some, int_beq, int_bne, lenA, indexAddrA]
    exact hp _ _ (by simp [FRes.melt, AV.melt, AV.dead, h])
  · simp [evalC_seq, evalC_region, runA_cons', runA_consN, runA_consG, guardR_true, guardR_false, guardV_bool, guardV_tup, runA_nil', inFrame, startLoc, startVals, Loc.clear, eff_move, eff_assign, eff_binOp, eff_build, eff_buildSlice, eff_alloc, eff_box, eff_store, eff_load, eff_fieldAddr, eff_field, eff_indexAddr, eff_slice, eff_extract, eff_pick, eff_unOp, eff_convert, eff_makeSlice, eff_makeFunc, eff_makeInterface, eff_nilCheck, eff_panic, eff_len1, eff_max2, eff_min2, eff_append2, eff_callV, stepE_val, contR_ok, contR_pan, outC_ok, outC_pan, thenC_normal, thenC_ret, thenC_exit, thenC_pan, blockC, evalC_ret, evalC_skip, evalC_exit, evalC_block, evalC_scope, evalC_loop, Loc.putO, Loc.put, idx, evO, constV, Loc.get, Vm.look, valO_some, bin_int, intA, evalC_cond, condC_true, condC_false, unwindA, resultsA, resultV, actA, pureA, storeA, loadA, fillE, repElems, TI.zeroV, fieldOf, fieldAddrA, fieldA, elemsA, retE, cells?_put_push, push_at, put_at, cellsOf?, Nat.add_assoc, n_push', n_put', isCell_undef, known_undef, cells_undef, isCell_bool, known_bool, cells_bool, isCell_int, known_int, cells_int, isCell_str, known_str, cells_str, isCell_nilp, known_nilp, cells_nilp, isCell_ptr, known_ptr, cells_ptr, isCell_rptr, known_rptr, cells_rptr, isCell_nils, known_nils, cells_nils, isCell_slice, known_slice, cells_slice, isCell_rsl, known_rsl, cells_rsl, isCell_nilm, known_nilm, cells_nilm, isCell_map, known_map, cells_map, isCell_fn, known_fn, cells_fn, isCell_yld, known_yld, cells_yld, isCell_nilf, known_nilf, cells_nilf, isCell_iface, known_iface, cells_iface, isCell_nili, known_nili, cells_nili, isCell_agg, known_agg, cells_agg, isCell_tup, known_tup, cells_tup, setCells, nowhere, GotF_some, Got_some, int_beq, int_bne, lenA, indexAddrA, h]
    generalize hc : iter _ _ _ _ = c
    rw [iter_succ] at hc
    simp [evalC_seq, evalC_region, runA_cons', runA_consN, runA_consG, guardR_true, guardR_false, guardV_bool, guardV_tup, runA_nil', inFrame, startLoc, startVals, Loc.clear, eff_move, eff_assign, eff_binOp, eff_build, eff_buildSlice, eff_alloc, eff_box, eff_store, eff_load, eff_fieldAddr, eff_field, eff_indexAddr, eff_slice, eff_extract, eff_pick, eff_unOp, eff_convert, eff_makeSlice, eff_makeFunc, eff_makeInterface, eff_nilCheck, eff_panic, eff_len1, eff_max2, eff_min2, eff_append2, eff_callV, stepE_val, contR_ok, contR_pan, outC_ok, outC_pan, thenC_normal, thenC_ret, thenC_exit, thenC_pan, blockC, evalC_ret, evalC_skip, evalC_exit, evalC_block, evalC_scope, evalC_loop, Loc.putO, Loc.put, idx, evO, constV, Loc.get, Vm.look, valO_some, bin_int, intA, evalC_cond, condC_true, condC_false, unwindA, resultsA, resultV, actA, pureA, storeA, loadA, fillE, repElems, TI.zeroV, fieldOf, fieldAddrA, fieldA, elemsA, retE, cells?_put_push, push_at, put_at, cellsOf?, Nat.add_assoc, n_push', n_put', isCell_undef, known_undef, cells_undef, isCell_bool, known_bool, cells_bool, isCell_int, known_int, cells_int, isCell_str, known_str, cells_str, isCell_nilp, known_nilp, cells_nilp, isCell_ptr, known_ptr, cells_ptr, isCell_rptr, known_rptr, cells_rptr, isCell_nils, known_nils, cells_nils, isCell_slice, known_slice, cells_slice, isCell_rsl, known_rsl, cells_rsl, isCell_nilm, known_nilm, cells_nilm, isCell_map, known_map, cells_map, isCell_fn, known_fn, cells_fn, isCell_yld, known_yld, cells_yld, isCell_nilf, known_nilf, cells_nilf, isCell_iface, known_iface, cells_iface, isCell_nili, known_nili, cells_nili, isCell_agg, known_agg, cells_agg, isCell_tup, known_tup, cells_tup, setCells, nowhere, GotF_some, Got_some, int_beq, int_bne, lenA, indexAddrA] at hc
    subst hc
    simp [evalC_seq, evalC_region, runA_cons', runA_consN, runA_consG, guardR_true, guardR_false, guardV_bool, guardV_tup, runA_nil', inFrame, startLoc, startVals, Loc.clear, eff_move, eff_assign, eff_binOp, eff_build, eff_buildSlice, eff_alloc, eff_box, eff_store, eff_load, eff_fieldAddr, eff_field, eff_indexAddr, eff_slice, eff_extract, eff_pick, eff_unOp, eff_convert, eff_makeSlice, eff_makeFunc, eff_makeInterface, eff_nilCheck, eff_panic, eff_len1, eff_max2, eff_min2, eff_append2, eff_callV, stepE_val, contR_ok, contR_pan, outC_ok, outC_pan, thenC_normal, thenC_ret, thenC_exit, thenC_pan, blockC, evalC_ret, evalC_skip, evalC_exit, evalC_block, evalC_scope, evalC_loop, Loc.putO, Loc.put, idx, evO, constV, Loc.get, Vm.look, valO_some, bin_int, intA, evalC_cond, condC_true, condC_false, unwindA, resultsA, resultV, actA, pureA, storeA, loadA, fillE, repElems, TI.zeroV, fieldOf, fieldAddrA, fieldA, elemsA, retE, cells?_put_push, push_at, put_at, cellsOf?, Nat.add_assoc, n_push', n_put', isCell_undef, known_undef, cells_undef, isCell_bool, known_bool, cells_bool, isCell_int, known_int, cells_int, isCell_str, known_str, cells_str, isCell_nilp, known_nilp, cells_nilp, isCell_ptr, known_ptr, cells_ptr, isCell_rptr, known_rptr, cells_rptr, isCell_nils, known_nils, cells_nils, isCell_slice, known_slice, cells_slice, isCell_rsl, known_rsl, cells_rsl, isCell_nilm, known_nilm, cells_nilm, isCell_map, known_map, cells_map, isCell_fn, known_fn, cells_fn, isCell_yld, known_yld, cells_yld, isCell_nilf, known_nilf, cells_nilf, isCell_iface, known_iface, cells_iface, isCell_nili, known_nili, cells_nili, isCell_agg, known_agg, cells_agg, isCell_tup, known_tup, cells_tup, setCells, nowhere, GotF_some, Got_some, int_beq, int_bne, lenA, indexAddrA]
    exact hp _ _ (by simp [FRes.melt, AV.melt, AV.dead, h])

theorem sameW_use {cs : List Con} (h : sumOf cs 14 = sameWC.look) {n : Nat} {a b : Int} {S : St} : callS ED (sumOf cs) n (.fn 14) [(GV.num a).enc, (GV.num b).enc] S = some (.ret (.bool (decide (a = b))), S) :=
  Con.use (c := sameWC) (fun (x y : Int × Int) _ _ h => by
    obtain ⟨a, b⟩ := x
    obtain ⟨c, d⟩ := y
    have h' : [(GV.num a).enc, (GV.num b).enc] = [(GV.num c).enc, (GV.num d).enc] := h
    simp only [List.cons.injEq, and_true] at h'
    have h1 := GV.enc_inj h'.1
    have h2 := GV.enc_inj h'.2
    simp only [GV.num.injEq] at h1 h2
    rw [h1, h2]) h (a, b) trivial rfl

def sameC : Con where
  f := 14
  X := List Int × List Int
  dom x := x.1.length ≤ 1000 ∧ x.2.length ≤ 1000
  enc x := [(nums x.1).enc, (nums x.2).enc]
  res x := .ret (.bool (decide (x.1 = x.2)))

theorem same_ok : sameC.Ok Tryd.prog ED := by
  refine Con.ok_at ED_ok ED_pers [sameWC] (by simpa using sameW_ok) (fun (x : List Int × List Int) _ => ⟨by show AV.persL [(nums x.1).enc, (nums x.2).enc] = true; simp [AV.persL, GV.pers], rfl⟩) ?_
  rintro ⟨a, b⟩ ⟨ha, hb⟩
  replace ha : a.length ≤ 1000 := ha
  replace hb : b.length ≤ 1000 := hb
  show ∃ n, ∀ p : FRes → St → Prop, (∀ r S', r.melt S' = .ret (.bool (decide (a = b))) → p r S') → GotF (callS ED (sumOf [sameWC]) n (.fn 14) [(nums a).enc, (nums b).enc] S0) p
  refine ⟨1003, fun p hp => ?_⟩
  have hno : sumOf [sameWC] 14 ([(nums a).enc, (nums b).enc].map AV.dead) = none := by
    refine Con.look_none (c := sameWC) fun (x : Int × Int) _ e => ?_
    have e' : [(GV.num x.1).enc, (GV.num x.2).enc] = [(nums a).enc, (nums b).enc] := Eq.trans e (by simp)
    simp only [List.cons.injEq, and_true] at e'
    have := GV.enc_inj e'.1
    simp [nums] at this
  rw [callS_fn' hno]
  have d0 := @dr14_0
  simp only [drA, drawsOf, Option.getD_some, List.nil_append, List.append_nil, List.getD_cons_zero, List.getD_cons_succ, List.cons_append, Tryd.f14] at d0
  have hw := fun (n : Nat) (a b : Int) (S : St) => sameW_use (cs := [sameWC]) rfl (n := n) (a := a) (b := b) (S := S)
  have hk1 := gv_lst (l := a.map .num)
  have hk2 := gv_lst (l := b.map .num)
  have hixa : ∀ j (h : j < a.length), indexAddrA ED 24 (lst (GV.encs (a.map .num))) (.int .i64 j) = some (.rptr (GV.num a[j]).enc.cells) := fun j h => by
    have := lst_index (l := a.map .num) (j := j) (by simpa using h)
    simpa using this
  have hixb : ∀ j (h : j < b.length), indexAddrA ED 24 (lst (GV.encs (b.map .num))) (.int .i64 j) = some (.rptr (GV.num b[j]).enc.cells) := fun j h => by
    have := lst_index (l := b.map .num) (j := j) (by simpa using h)
    simpa using this
  have hla : lenA ED 24 (lst (GV.encs (a.map .num))) = some (.int .i64 a.length) := by rw [lst_len]; simp
  have hlb : lenA ED 24 (lst (GV.encs (b.map .num))) = some (.int .i64 b.length) := by rw [lst_len]; simp
  simp only [GV.enc, wv, AV.cells] at hixa hixb hw
  simp only [fnA, ED_fn14, fi14, Tryd.f14, nums, GV.enc, sv]
  generalize lst (GV.encs (a.map .num)) = xa at *
  generalize lst (GV.encs (b.map .num)) = xb at *
  simp [evalC_seq, evalC_region, runA_cons', runA_consN, runA_consG, guardR_true, guardR_false, guardV_bool, guardV_tup, runA_nil', inFrame, startLoc, startVals, Loc.clear, eff_move, eff_assign, eff_binOp, eff_build, eff_buildSlice, eff_alloc, eff_box, eff_store, eff_load, eff_fieldAddr, eff_field, eff_indexAddr, eff_slice, eff_extract, eff_pick, eff_unOp, eff_convert, eff_makeSlice, eff_makeFunc, eff_makeInterface, eff_nilCheck, eff_panic, eff_len1, eff_max2, eff_min2, eff_append2, eff_callV, stepE_val, contR_ok, contR_pan, outC_ok, outC_pan, thenC_normal, thenC_ret, thenC_exit, thenC_pan, blockC, evalC_ret, evalC_skip, evalC_exit, evalC_block, evalC_scope, evalC_loop, Loc.putO, Loc.put, idx, evO, constV, Loc.get, Vm.look, valO_some, bin_int, intA, evalC_cond, condC_true, condC_false, unwindA, resultsA, resultV, actA, pureA, storeA, loadA, fillE, repElems, TI.zeroV, fieldOf, fieldAddrA, fieldA, elemsA, retE, cells?_put_push, push_at, put_at, cellsOf?, Nat.add_assoc, n_push', n_put', isCell_undef, known_undef, cells_undef, isCell_bool, known_bool, cells_bool, isCell_int, known_int, cells_int, isCell_str, known_str, cells_str, isCell_nilp, known_nilp, cells_nilp, isCell_ptr, known_ptr, cells_ptr, isCell_rptr, known_rptr, cells_rptr, isCell_nils, known_nils, cells_nils, isCell_slice, known_slice, cells_slice, isCell_rsl, known_rsl, cells_rsl, isCell_nilm, known_nilm, cells_nilm, isCell_map, known_map, cells_map, isCell_fn, known_fn, cells_fn, isCell_yld, known_yld, cells_yld, isCell_nilf, known_nilf, cells_nilf, isCell_iface, known_iface, cells_iface, isCell_nili, known_nili, cells_nili, isCell_agg, known_agg, cells_agg, isCell_tup, known_tup, cells_tup, setCells, nowhere, GotF_some, Got_some, int_beq, int_bne, hk1, hk2, hla, hlb]
  generalize hc : iter _ _ _ _ = c
  obtain ⟨e1, L1, S1, rfl, hq⟩ := loop_of hc
    (fun r L S => ∃ j sc s, j + r = a.length + 1 ∧ L = vloc [.agg [.int .i64 4, .int .i64 0, xa], .agg [.int .i64 4, .int .i64 0, xb], .ptr 0 0, .ptr 1 0, .bool false, .bool s, .int .i64 (j : Nat)] sc ∧
      S.cells? 0 = some [.int .i64 4, .int .i64 0, xa] ∧ S.cells? 1 = some [.int .i64 4, .int .i64 0, xb] ∧ (s = true ↔ a.length = b.length ∧ a.take j = b.take j) ∧ (s = true → j ≤ a.length))
    (fun e L S => e = .exit 0 ∧ ∃ sc i, L = vloc [.agg [.int .i64 4, .int .i64 0, xa], .agg [.int .i64 4, .int .i64 0, xb], .ptr 0 0, .ptr 1 0, .bool false, .bool (decide (a = b)), i] sc)
    (a.length + 1) (by omega)
    (by
      refine ⟨0, [], decide ((a.length : Int) = (b.length : Int)), by simp, rfl, ?_, ?_, by simp; omega, by simp⟩
      · simp [push_at, cellsOf?, n_push']
      · simp [push_at, cellsOf?, n_push'])
    (by
      rintro r L S ⟨j, sc, s, hjk, rfl, g1, g2, hs, hsj⟩ q hq1 hq2
      cases s with
      | false =>
        have hab : ¬ a = b := by
          intro e
          subst e
          simp at hs
        simp [evalC_seq, evalC_region, runA_cons', runA_consN, runA_consG, guardR_true, guardR_false, guardV_bool, guardV_tup, runA_nil', inFrame, startLoc, startVals, Loc.clear, eff_move, eff_assign, eff_binOp, eff_build, eff_buildSlice, eff_alloc, eff_box, eff_store, eff_load, eff_fieldAddr, eff_field, eff_indexAddr, eff_slice, eff_extract, eff_pick, eff_unOp, eff_convert, eff_makeSlice, eff_makeFunc, eff_makeInterface, eff_nilCheck, eff_panic, eff_len1, eff_max2, eff_min2, eff_append2, eff_callV, stepE_val, contR_ok, contR_pan, outC_ok, outC_pan, thenC_normal, thenC_ret, thenC_exit, thenC_pan, blockC, evalC_ret, evalC_skip, evalC_exit, evalC_block, evalC_scope, evalC_loop, Loc.putO, Loc.put, idx, evO, constV, Loc.get, Vm.look, valO_some, bin_int, intA, evalC_cond, condC_true, condC_false, unwindA, resultsA, resultV, actA, pureA, storeA, loadA, fillE, repElems, TI.zeroV, fieldOf, fieldAddrA, fieldA, elemsA, retE, cells?_put_push, push_at, put_at, cellsOf?, Nat.add_assoc, n_push', n_put', isCell_undef, known_undef, cells_undef, isCell_bool, known_bool, cells_bool, isCell_int, known_int, cells_int, isCell_str, known_str, cells_str, isCell_nilp, known_nilp, cells_nilp, isCell_ptr, known_ptr, cells_ptr, isCell_rptr, known_rptr, cells_rptr, isCell_nils, known_nils, cells_nils, isCell_slice, known_slice, cells_slice, isCell_rsl, known_rsl, cells_rsl, isCell_nilm, known_nilm, cells_nilm, isCell_map, known_map, cells_map, isCell_fn, known_fn, cells_fn, isCell_yld, known_yld, cells_yld, isCell_nilf, known_nilf, cells_nilf, isCell_iface, known_iface, cells_iface, isCell_nili, known_nili, cells_nili, isCell_agg, known_agg, cells_agg, isCell_tup, known_tup, cells_tup, setCells, nowhere, GotF_some, Got_some, int_beq, int_bne, runC_nil, runC_cons, pickC_some, wantC_tt, wantC_tf, effC_val, ifC_true, checkC, inPairs, keepC, okC, readsC_load, readV_some, AV.beq_self, wantA_n, wantA_g, wantD_some, vloc]
        exact hq2 _ _ _ (by simp) ⟨rfl, _, .int .i64 (j : Nat), by rw [decide_eq_false hab]; rfl⟩
      | true =>
        obtain ⟨hl, ht⟩ := hs.1 rfl
        by_cases hj : j < a.length
        · have hwr : IntKind.i64.wrap ((j : Int) + 1) = ((j : Int) + 1) := wrap_id (by omega) (by omega)
          have h1 := hixa j hj
          have h2 := hixb j (by omega)
          simp [evalC_seq, evalC_region, runA_cons', runA_consN, runA_consG, guardR_true, guardR_false, guardV_bool, guardV_tup, runA_nil', inFrame, startLoc, startVals, Loc.clear, eff_move, eff_assign, eff_binOp, eff_build, eff_buildSlice, eff_alloc, eff_box, eff_store, eff_load, eff_fieldAddr, eff_field, eff_indexAddr, eff_slice, eff_extract, eff_pick, eff_unOp, eff_convert, eff_makeSlice, eff_makeFunc, eff_makeInterface, eff_nilCheck, eff_panic, eff_len1, eff_max2, eff_min2, eff_append2, eff_callV, stepE_val, contR_ok, contR_pan, outC_ok, outC_pan, thenC_normal, thenC_ret, thenC_exit, thenC_pan, blockC, evalC_ret, evalC_skip, evalC_exit, evalC_block, evalC_scope, evalC_loop, Loc.putO, Loc.put, idx, evO, constV, Loc.get, Vm.look, valO_some, bin_int, intA, evalC_cond, condC_true, condC_false, unwindA, resultsA, resultV, actA, pureA, storeA, loadA, fillE, repElems, TI.zeroV, fieldOf, fieldAddrA, fieldA, elemsA, retE, cells?_put_push, push_at, put_at, cellsOf?, Nat.add_assoc, n_push', n_put', isCell_undef, known_undef, cells_undef, isCell_bool, known_bool, cells_bool, isCell_int, known_int, cells_int, isCell_str, known_str, cells_str, isCell_nilp, known_nilp, cells_nilp, isCell_ptr, known_ptr, cells_ptr, isCell_rptr, known_rptr, cells_rptr, isCell_nils, known_nils, cells_nils, isCell_slice, known_slice, cells_slice, isCell_rsl, known_rsl, cells_rsl, isCell_nilm, known_nilm, cells_nilm, isCell_map, known_map, cells_map, isCell_fn, known_fn, cells_fn, isCell_yld, known_yld, cells_yld, isCell_nilf, known_nilf, cells_nilf, isCell_iface, known_iface, cells_iface, isCell_nili, known_nili, cells_nili, isCell_agg, known_agg, cells_agg, isCell_tup, known_tup, cells_tup, setCells, nowhere, GotF_some, Got_some, int_beq, int_bne, runC_nil, runC_cons, pickC_some, wantC_tt, wantC_tf, effC_val, ifC_true, checkC, inPairs, keepC, okC, readsC_load, readV_some, AV.beq_self, wantA_n, wantA_g, wantD_some, d0, vloc, g1, g2, hla, hj, h1, h2, hw, hwr]
          refine hq1 (r - 1) _ _ (by omega) ⟨j + 1, _, decide (a[j] = b[j]'(by omega)), by omega, rfl, g1, g2, ?_, fun _ => by omega⟩
          have q1 : a.take (j + 1) = a.take j ++ [a[j]] := by rw [List.take_add_one, List.getElem?_eq_getElem hj]; rfl
          have q2 : b.take (j + 1) = b.take j ++ [b[j]'(by omega)] := by rw [List.take_add_one, List.getElem?_eq_getElem (show j < b.length by omega)]; rfl
          rw [q1, q2, ht]
          simp only [decide_eq_true_eq, List.append_cancel_left_eq, List.cons.injEq, and_true, hl, true_and]
        · have hjl : j = a.length := by have := hsj rfl; omega
          have hab : a = b := by
            rw [hjl, List.take_length] at ht
            rw [ht, hl, List.take_length]
          simp [evalC_seq, evalC_region, runA_cons', runA_consN, runA_consG, guardR_true, guardR_false, guardV_bool, guardV_tup, runA_nil', inFrame, startLoc, startVals, Loc.clear, eff_move, eff_assign, eff_binOp, eff_build, eff_buildSlice, eff_alloc, eff_box, eff_store, eff_load, eff_fieldAddr, eff_field, eff_indexAddr, eff_slice, eff_extract, eff_pick, eff_unOp, eff_convert, eff_makeSlice, eff_makeFunc, eff_makeInterface, eff_nilCheck, eff_panic, eff_len1, eff_max2, eff_min2, eff_append2, eff_callV, stepE_val, contR_ok, contR_pan, outC_ok, outC_pan, thenC_normal, thenC_ret, thenC_exit, thenC_pan, blockC, evalC_ret, evalC_skip, evalC_exit, evalC_block, evalC_scope, evalC_loop, Loc.putO, Loc.put, idx, evO, constV, Loc.get, Vm.look, valO_some, bin_int, intA, evalC_cond, condC_true, condC_false, unwindA, resultsA, resultV, actA, pureA, storeA, loadA, fillE, repElems, TI.zeroV, fieldOf, fieldAddrA, fieldA, elemsA, retE, cells?_put_push, push_at, put_at, cellsOf?, Nat.add_assoc, n_push', n_put', isCell_undef, known_undef, cells_undef, isCell_bool, known_bool, cells_bool, isCell_int, known_int, cells_int, isCell_str, known_str, cells_str, isCell_nilp, known_nilp, cells_nilp, isCell_ptr, known_ptr, cells_ptr, isCell_rptr, known_rptr, cells_rptr, isCell_nils, known_nils, cells_nils, isCell_slice, known_slice, cells_slice, isCell_rsl, known_rsl, cells_rsl, isCell_nilm, known_nilm, cells_nilm, isCell_map, known_map, cells_map, isCell_fn, known_fn, cells_fn, isCell_yld, known_yld, cells_yld, isCell_nilf, known_nilf, cells_nilf, isCell_iface, known_iface, cells_iface, isCell_nili, known_nili, cells_nili, isCell_agg, known_agg, cells_agg, isCell_tup, known_tup, cells_tup, setCells, nowhere, GotF_some, Got_some, int_beq, int_bne, vloc, g1, hla, hj]
          exact hq2 _ _ _ (by simp) ⟨rfl, _, .int .i64 (j : Nat), by rw [decide_eq_true hab]; rfl⟩)
  obtain ⟨rfl, sc, i, rfl⟩ := hq
  simp [evalC_seq, evalC_region, runA_cons', runA_consN, runA_consG, guardR_true, guardR_false, guardV_bool, guardV_tup, runA_nil', inFrame, startLoc, startVals, Loc.clear, eff_move, eff_assign, eff_binOp, eff_build, eff_buildSlice, eff_alloc, eff_box, eff_store, eff_load, eff_fieldAddr, eff_field, eff_indexAddr, eff_slice, eff_extract, eff_pick, eff_unOp, eff_convert, eff_makeSlice, eff_makeFunc, eff_makeInterface, eff_nilCheck, eff_panic, eff_len1, eff_max2, eff_min2, eff_append2, eff_callV, stepE_val, contR_ok, contR_pan, outC_ok, outC_pan, thenC_normal, thenC_ret, thenC_exit, thenC_pan, blockC, evalC_ret, evalC_skip, evalC_exit, evalC_block, evalC_scope, evalC_loop, Loc.putO, Loc.put, idx, evO, constV, Loc.get, Vm.look, valO_some, bin_int, intA, evalC_cond, condC_true, condC_false, unwindA, resultsA, resultV, actA, pureA, storeA, loadA, fillE, repElems, TI.zeroV, fieldOf, fieldAddrA, fieldA, elemsA, retE, cells?_put_push, push_at, put_at, cellsOf?, Nat.add_assoc, n_push', n_put', isCell_undef, known_undef, cells_undef, isCell_bool, known_bool, cells_bool, isCell_int, known_int, cells_int, isCell_str, known_str, cells_str, isCell_nilp, known_nilp, cells_nilp, isCell_ptr, known_ptr, cells_ptr, isCell_rptr, known_rptr, cells_rptr, isCell_nils, known_nils, cells_nils, isCell_slice, known_slice, cells_slice, isCell_rsl, known_rsl, cells_rsl, isCell_nilm, known_nilm, cells_nilm, isCell_map, known_map, cells_map, isCell_fn, known_fn, cells_fn, isCell_yld, known_yld, cells_yld, isCell_nilf, known_nilf, cells_nilf, isCell_iface, known_iface, cells_iface, isCell_nili, known_nili, cells_nili, isCell_agg, known_agg, cells_agg, isCell_tup, known_tup, cells_tup, setCells, nowhere, GotF_some, Got_some, int_beq, int_bne, vloc]
  exact hp _ _ rfl

theorem same_use {cs : List Con} (h : sumOf cs 14 = sameC.look) {n : Nat} {a b : List Int} {S : St} (ha : a.length ≤ 1000) (hb : b.length ≤ 1000) : callS ED (sumOf cs) n (.fn 14) [(nums a).enc, (nums b).enc] S = some (.ret (.bool (decide (a = b))), S) :=
  Con.use (c := sameC) (fun (x y : List Int × List Int) _ _ h => by
    obtain ⟨a, b⟩ := x
    obtain ⟨c, d⟩ := y
    have h' : [(nums a).enc, (nums b).enc] = [(nums c).enc, (nums d).enc] := h
    simp only [List.cons.injEq, and_true] at h'
    rw [nums_enc_inj h'.1, nums_enc_inj h'.2]) h (a, b) ⟨ha, hb⟩ (by show [(nums a).enc.dead, (nums b).enc.dead] = [(nums a).enc, (nums b).enc]; simp)

end Go.Proofs.YtjgigcaelcapdaaDoor

namespace Go.Proofs.YtjgigcaelcapdaaDoor
open Go Go.Vm Go.Vm.T
set_option maxRecDepth 100000
set_option linter.unusedSimpArgs false
set_option linter.unusedVariables false

/-! edges as values -/
def WordsE (es : List (Int × Int)) : Prop := ∀ e ∈ es, isWord e.1 ∧ isWord e.2

theorem duos_ty {es : List (Int × Int)} (h : WordsE es) (hl : es.length ≤ 1000) : HasTy tDuos (duosV es) := by
  refine ⟨by simpa using hl, hasTys_map fun e he => ⟨(h e he).1, (h e he).2⟩⟩

theorem duos_facts (es : List (Int × Int)) : GV.slims (es.map duoV) ∧ GV.nodess (es.map duoV) = 3 * es.length ∧ GV.deeps (es.map duoV) ≤ 1 := by
  induction es with
  | nil => exact ⟨trivial, rfl, by simp [GV.deeps]⟩
  | cons e r ih =>
    obtain ⟨h1, h2, h3⟩ := ih
    refine ⟨⟨⟨trivial, trivial⟩, h1⟩, ?_, ?_⟩
    · simp only [List.map_cons, GV.nodess, h2, List.length_cons, duoV, GV.nodes]; omega
    · simp only [List.map_cons, GV.deeps, duoV, GV.deep]; omega

theorem nums_facts (zs : List Int) : GV.slims (zs.map .num) ∧ GV.nodess (zs.map .num) = zs.length ∧ GV.deeps (zs.map .num) = 0 := by
  induction zs with
  | nil => exact ⟨trivial, rfl, by simp [GV.deeps]⟩
  | cons e r ih =>
    obtain ⟨h1, h2, h3⟩ := ih
    refine ⟨⟨trivial, h1⟩, ?_, ?_⟩
    · simp only [List.map_cons, GV.nodess, h2, List.length_cons, GV.nodes]; omega
    · simp only [List.map_cons, GV.deeps, GV.deep, h3]; rfl

theorem define_use {nm : List UInt8} {t : Ty} {dom : GV → Prop} {out : GV → Option (List Int)} {cs : List Con} (h : sumOf cs 9 = (defineC nm t dom out).look) {n : Nat} {g : GV} {S : St} (h0 : dom g) (h1 : HasTy t g) (h2 : g.slim) (h3 : g.nodes ≤ 20000) (h4 : g.deep < 20)
    (h5 : ∀ zs, out g = some zs → zs.length ≤ 1000) :
    callS ED (sumOf cs) n (.fn 9) [.str nm, g.enc] S = some (match out g with
    | some zs => .ret (.tup [(nums zs).enc, .int .i64 0])
    | none => .ret (.tup [errV, .int .i64 14]), S) :=
  Con.use (c := defineC nm t dom out) (fun (x y : GV) _ _ h => by
    have h' : [AV.str nm, x.enc] = [AV.str nm, y.enc] := h
    simp only [List.cons.injEq, and_true, true_and] at h'
    rw [GV.enc_inj h']) h (g : GV) ⟨h0, h1, h2, h3, h4, h5⟩ (by show [(AV.str nm).dead, g.enc.dead] = [AV.str nm, g.enc]; simp [AV.dead])

def compsD : Con := defineC nComps tComps compsDom compsOut
theorem compsD_ok : compsD.Ok Tryd.prog ED := define_ok headComps (.inl rfl) (by decide) (by decide) (by decide) comps_ok

theorem compsL_len (n : Nat) (es : List (Int × Int)) : (compsL n es).length = n := by
  unfold compsL
  have : ∀ (es : List (Int × Int)) (R : List Nat), (es.foldl mergeR R).length = R.length := by
    intro es
    induction es with
    | nil => intro R; rfl
    | cons e r ih => intro R; rw [List.foldl_cons, ih, mergeR_len]
  rw [this]; simp

theorem ofN_len (u : List Nat) : (ofN u).length = u.length := by simp [ofN]

theorem compsD_use {cs : List Con} (h : sumOf cs 9 = compsD.look) {n N : Nat} {es : List (Int × Int)} {S : St} (h1 : 1 ≤ N) (h2 : N ≤ 1000) (h3 : es.length ≤ 1000) (h4 : InGraph N es) :
    callS ED (sumOf cs) n (.fn 9) [.str nComps, (GV.pair (.num N) (duosV es)).enc] S = some (.ret (.tup [(nums (ofN (compsL N es))).enc, .int .i64 0]), S) := by
  obtain ⟨f1, f2, f3⟩ := duos_facts es
  have hout : compsOut (.pair (.num N) (duosV es)) = some (ofN (compsL N es)) := by simp [compsOut, edgesOf_duos]
  have hw : WordsE es := by
    intro e he
    have := h4 e he
    unfold isWord
    omega
  have := define_use h (n := n) (S := S) (g := .pair (.num N) (duosV es)) ⟨N, es, rfl, h1, h2, h3, h4⟩ ⟨by show isWord (N : Int); unfold isWord; omega, duos_ty hw h3⟩ ⟨trivial, by simpa using h3, f1⟩
    (by simp only [GV.nodes, duosV, f2]; omega) (by simp only [GV.deep, duosV]; omega) (fun zs hz => by rw [hout] at hz; cases hz; rw [ofN_len, compsL_len]; exact h2)
  rw [hout] at this
  exact this

/-! numbers that grow -/
def LiveS (S : St) (v : AV) (zs : List Int) (T : Option Nat) : Prop := LiveT S 1 v (ints zs) T ∧ v ≠ .nils

theorem LiveS.cases {S : St} {v : AV} {zs : List Int} {T : Option Nat} (h : LiveS S v zs T) : ∃ tk, v = .slice (ints zs) tk := by
  rcases h.1.cases with ⟨h1, _⟩ | h1
  · exact absurd h1 h.2
  · exact h1

theorem LiveS.len {S : St} {v : AV} {zs : List Int} {T : Option Nat} (h : LiveS S v zs T) : lenA ED 22 v = some (.int .i64 zs.length) := by
  obtain ⟨tk, rfl⟩ := h.cases
  simp [lenA]

theorem LiveS.keep {S S' : St} {v : AV} {zs : List Int} {T U : Option Nat} (h : LiveS S v zs T) (k : Kept U S S') (hne : ∀ j, T = some j → U ≠ some j) : LiveS S' v zs T := ⟨h.1.keep k hne, h.2⟩

theorem ints_cells (zs : List Int) : ((ints zs).flatMap AV.cells).all (·.isCell) = true ∧ (ints zs).all (fun v => v.cells.length = 1) = true := by
  induction zs with
  | nil => exact ⟨rfl, rfl⟩
  | cons z r ih =>
    constructor
    · simpa [ints, AV.cells, AV.isCell] using ih.1
    · simp [ints, AV.cells]

theorem LiveS.append {S : St} {v : AV} {zs : List Int} (ys : List Int) {T : Option Nat} (h : LiveS S v zs T) (hy : ys ≠ []) (hlen : zs.length + ys.length ≤ 10000) :
    ∃ v' S', appendA ED S 3 v (ints ys) = some (v', S') ∧ LiveS S' v' (zs ++ ys) (some S.n) ∧ S'.n = S.n + 1 ∧ Kept T S S' := by
  obtain ⟨h1, h2⟩ := ints_cells ys
  obtain ⟨v', S', a1, a2, a3, a4⟩ := append_T (i := ti3) ED_ti3 (by decide) h.1 (by cases zs <;> rfl) h1 h2 (by cases ys <;> simp_all [ints]) (by simp [roomOk, roomMost, ti3]; omega)
  rw [← ints_append] at a2
  exact ⟨v', S', a1, ⟨a2, by rw [a2.1]; simp⟩, a3, a4⟩

theorem LiveS.append_any {S : St} {zs : List Int} {tk : Tk} (h : LiveS S (.slice (ints zs) tk) zs none) (ys : List Int) (hlen : zs.length + ys.length ≤ 10000) :
    ∃ v' S' T', appendA ED S 3 (.slice (ints zs) tk) (ints ys) = some (v', S') ∧ LiveS S' v' (zs ++ ys) T' ∧ S.n ≤ S'.n ∧ Kept none S S' ∧ ∀ j, T' = some j → S.n ≤ j := by
  by_cases hy : ys = []
  · subst hy
    have htk : tk = .full := by
      rcases h.1 with ⟨h1, _⟩ | h1
      · cases h1
      · simpa using h1
    subst htk
    refine ⟨_, S, none, ?_, by simpa using h, Nat.le_refl _, ⟨Nat.le_refl _, fun _ _ _ h => h, fun _ _ h => h⟩, by simp⟩
    unfold appendA
    simp [ints, ti3]
  · obtain ⟨v', S', a1, a2, a3, a4⟩ := h.append ys hy hlen
    exact ⟨v', S', some S.n, a1, a2, by omega, a4, fun j hj => by cases hj; exact Nat.le_refl _⟩

theorem index_ints {zs : List Int} {tk : Tk} {x : Int} (h0 : 0 ≤ x) (h1 : x.toNat < zs.length) : indexAddrA ED 22 (.slice (ints zs) tk) (.int .i64 x) = some (.rptr [.int .i64 zs[x.toNat]]) := by
  have h2 : x < (zs.length : Int) := by omega
  simp [indexAddrA, h0, h2, AV.cells]

theorem len_ints {zs : List Int} {tk : Tk} : lenA ED 22 (.slice (ints zs) tk) = some (.int .i64 zs.length) := by simp [lenA]

end Go.Proofs.YtjgigcaelcapdaaDoor
