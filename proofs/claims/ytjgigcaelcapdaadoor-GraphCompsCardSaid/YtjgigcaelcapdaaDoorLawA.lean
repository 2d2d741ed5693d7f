/-
What the law's own functions return, and the law. No conditions.
-/
import Derived.Test.YtjgigcaelcapdaaDoorValD
import Derived.Test.YtjgigcaelcapdaaDoorExamples
set_option linter.all false

namespace Go.Proofs.YtjgigcaelcapdaaDoor
open Go Go.Vm Go.Vm.T
set_option maxRecDepth 100000
set_option linter.unusedSimpArgs false
set_option linter.unusedVariables false

theorem merge_up {N : Nat} {R : List Nat} {e : Int × Int} (h : ∃ u, Up u R ∧ u.length = N) (he : (0 ≤ e.1 ∧ e.1 < N) ∧ (0 ≤ e.2 ∧ e.2 < N)) : ∃ u, Up u (mergeR R e) ∧ u.length = N := by
  obtain ⟨u, hu, hl⟩ := h
  exact ⟨_, hu.merge (x := e.1.toNat) (y := e.2.toNat) (by omega) (by omega) rfl rfl, by simp [hl]⟩

theorem fold_up {N : Nat} : ∀ (es : List (Int × Int)) (R : List Nat), (∃ u, Up u R ∧ u.length = N) → InGraph N es →
    (∃ u, Up u (es.foldl mergeR R) ∧ u.length = N) ∧ (∀ i k, i < N → k < N → R.getD i 0 = R.getD k 0 → (es.foldl mergeR R).getD i 0 = (es.foldl mergeR R).getD k 0) ∧
      ∀ e ∈ es, (es.foldl mergeR R).getD e.1.toNat 0 = (es.foldl mergeR R).getD e.2.toNat 0
  | [], R, h, _ => ⟨h, fun _ _ _ _ h => h, by simp⟩
  | e :: r, R, h, hg => by
    have he := hg e (by simp)
    obtain ⟨u, hu, hl⟩ := h
    have hRl : R.length = N := by rw [hu.len, hl]
    obtain ⟨h1, h2, h3⟩ := fold_up r (mergeR R e) (merge_up ⟨u, hu, hl⟩ he) (fun x hx => hg x (by simp [hx]))
    refine ⟨h1, fun i k hi hk heq => h2 i k hi hk ?_, fun x hx => ?_⟩
    · rw [mergeR_get (by omega), mergeR_get (by omega), heq]
    · rcases List.mem_cons.1 hx with rfl | hx
      · refine h2 _ _ (by omega) (by omega) ?_
        rw [mergeR_get (by omega), mergeR_get (by omega)]
        split <;> split <;> omega
      · exact h3 x hx

theorem comps_up {N : Nat} {es : List (Int × Int)} (hg : InGraph N es) : (∃ u, Up u (compsL N es) ∧ u.length = N) ∧ ∀ e ∈ es, (compsL N es).getD e.1.toNat 0 = (compsL N es).getD e.2.toNat 0 := by
  obtain ⟨h1, _, h3⟩ := fold_up es (List.range N) ⟨_, up_range N, by simp⟩ hg
  exact ⟨h1, h3⟩

def swapE (e : Int × Int) : Int × Int := (e.2, e.1)

theorem merge_swap (R : List Nat) (e : Int × Int) : mergeR R (swapE e) = mergeR R e := by
  simp only [mergeR, swapE, Nat.max_comm (R.getD e.2.toNat 0), Nat.min_comm (R.getD e.2.toNat 0)]

theorem comps_swap (N : Nat) (es : List (Int × Int)) : compsL N (es.map swapE) = compsL N es := by
  unfold compsL
  generalize List.range N = R
  induction es generalizing R with
  | nil => rfl
  | cons e r ih => rw [List.map_cons, List.foldl_cons, List.foldl_cons, merge_swap, ih]

theorem comps_more (N : Nat) (es : List (Int × Int)) (e : Int × Int) : compsL N (es ++ [e]) = mergeR (compsL N es) e := by
  unfold compsL
  rw [List.foldl_append]
  rfl

/-- what the law looks at -/
theorem comps_facts {N : Nat} {es : List (Int × Int)} {e : Int × Int} (hg : InGraph N es) (he : (0 ≤ e.1 ∧ e.1 < N) ∧ (0 ≤ e.2 ∧ e.2 < N)) (i : Nat) (hi : i < N) :
    (compsL N es).getD i 0 ≤ i ∧ (compsL N es).getD ((compsL N es).getD i 0) 0 = (compsL N es).getD i 0 ∧
      (compsL N (es ++ [e])).getD i 0 = if (compsL N es).getD i 0 = (compsL N es).getD e.1.toNat 0 ∨ (compsL N es).getD i 0 = (compsL N es).getD e.2.toNat 0 then
        min ((compsL N es).getD e.1.toNat 0) ((compsL N es).getD e.2.toNat 0) else (compsL N es).getD i 0 := by
  obtain ⟨⟨u, hu, hl⟩, _⟩ := comps_up hg
  refine ⟨hu.lowR i, hu.idem i (by omega), ?_⟩
  rw [comps_more, mergeR_get (by rw [compsL_len]; exact hi)]
  split <;> split <;> omega

end Go.Proofs.YtjgigcaelcapdaaDoor

namespace Go.Proofs.YtjgigcaelcapdaaDoor
open Go Go.Vm Go.Vm.T
set_option maxRecDepth 100000
set_option linter.unusedSimpArgs false
set_option linter.unusedVariables false

def csL : List Con := [turnC, wordC, pairC, pairsC, compsD, listC, sameC, liesC, graphedC]
theorem csL_ok : ∀ d ∈ csL, d.Ok Tryd.prog ED := by
  simpa [csL] using ⟨turn_ok, word_ok, pair_ok, pairs_ok, compsD_ok, list_ok, same_ok, lies_ok, graphed_ok⟩

def edgeAt (zs : List Int) (many : Int) (j : Nat) : Int × Int := (turnZ (zs.getD (2 * j) 0) many, turnZ (zs.getD (2 * j + 1) 0) many)
def edgesL (zs : List Int) (many : Int) (k : Nat) : List (Int × Int) := (List.range k).map (edgeAt zs many)
theorem edgesL_succ (zs : List Int) (many : Int) (k : Nat) : edgesL zs many (k + 1) = edgesL zs many k ++ [edgeAt zs many k] := by simp [edgesL, List.range_succ]
theorem edgesL_len (zs : List Int) (many : Int) (k : Nat) : (edgesL zs many k).length = k := by simp [edgesL]
theorem edgesL_in (zs : List Int) {many : Nat} (h : 1 ≤ many) (k : Nat) : InGraph many (edgesL zs many k) := by
  intro e he
  obtain ⟨j, _, rfl⟩ := List.mem_map.1 he
  exact ⟨turnZ_le _ (by omega), turnZ_le _ (by omega)⟩

structure LawX where
  v : AV
  zs : List Int
  n : Int
def lawC (f : FuncId) : Con where
  f := f
  X := LawX
  dom x := IntsD x.v x.zs ∧ x.zs.length ≤ maxLen ∧ I64 x.n
  enc x := [x.v, .int .i64 x.n]
  res _ := .ret (.bool true)

theorem wrap_tdiv {n : Int} (h : I64 n) (k : Int) (hk : 1 ≤ k) : IntKind.i64.wrap (n.tdiv k) = n.tdiv k := by
  rw [i64_iff] at h
  have h1 : (n.tdiv k).natAbs ≤ n.natAbs := by rw [Int.natAbs_tdiv]; exact Nat.div_le_self _ _
  by_cases hm : n = -9223372036854775808 ∧ n.tdiv k = 9223372036854775808
  · obtain ⟨e1, e2⟩ := hm
    have h3 : n.tdiv k ≤ 0 := by
      rcases Int.le_total 0 (n.tdiv k) with h | h
      · rw [e1] at h ⊢
        have := Int.neg_tdiv 9223372036854775808 k
        rw [this] at h ⊢
        have := Int.tdiv_nonneg (a := 9223372036854775808) (b := k) (by omega) (by omega)
        omega
      · exact h
    omega
  · exact wrap_id (by omega) (by omega)

theorem law3 : (lawC 3).Ok Tryd.prog ED := by
  refine Con.ok_at ED_ok ED_pers csL csL_ok (fun (x : LawX) hx => ⟨by have := hx.1.pers; show AV.persL [x.v, .int .i64 x.n] = true; simp [AV.persL, AV.pers, this], rfl⟩) ?_
  rintro ⟨l, zs, n⟩ ⟨hl, hlen, hn⟩
  replace hl : IntsD l zs := hl
  replace hlen : zs.length ≤ maxLen := hlen
  replace hn : I64 n := hn
  show ∃ m, ∀ p : FRes → St → Prop, (∀ r S', r.melt S' = .ret (.bool true) → p r S') → GotF (callS ED (sumOf csL) m (.fn 3) [l, .int .i64 n] S0) p
  refine ⟨100, fun p hp => ?_⟩
  rw [callS_fn rfl]
  have d0 := @dr3_0
  have d1 := @dr3_1
  have d2 := @dr3_2
  have d3 := @dr3_3
  have d4 := @dr3_4
  simp only [drA, drawsOf, Option.getD_some, List.nil_append, List.append_nil, List.getD_cons_zero, List.getD_cons_succ, List.cons_append, Tryd.f3] at d0 d1 d2 d3 d4
  have uT := fun (n : Nat) (a b : Int) (S : St) (h : I64 b) => turn_use (cs := csL) rfl (n := n) (a := a) (b := b) (S := S) h
  have uT12 := fun (m : Nat) (S : St) => uT m n 12 S (by rw [i64_iff]; omega)
  have hmany := turnZ_le n (b := 12) (by decide)
  simp only [fnA, ED_fn3, fi3, Tryd.f3]
  have hw1 : IntKind.i64.wrap (1 + turnZ n 12) = 1 + turnZ n 12 := wrap_id (by omega) (by omega)
  simp [evalC_seq, evalC_region, runA_cons', runA_consN, runA_consG, guardR_true, guardR_false, guardV_bool, guardV_tup, runA_nil', inFrame, startLoc, startVals, Loc.clear, eff_move, eff_assign, eff_binOp, eff_build, eff_buildSlice, eff_alloc, eff_box, eff_store, eff_load, eff_fieldAddr, eff_field, eff_indexAddr, eff_slice, eff_extract, eff_pick, eff_unOp, eff_convert, eff_makeSlice, eff_makeFunc, eff_makeInterface, eff_nilCheck, eff_panic, eff_len1, eff_max2, eff_min2, eff_append2, eff_callV, stepE_val, contR_ok, contR_pan, outC_ok, outC_pan, thenC_normal, thenC_ret, thenC_exit, thenC_pan, blockC, evalC_ret, evalC_skip, evalC_exit, evalC_block, evalC_scope, evalC_loop, Loc.putO, Loc.put, idx, evO, constV, Loc.get, Vm.look, valO_some, bin_int, intA, evalC_cond, condC_true, condC_false, unwindA, resultsA, resultV, actA, pureA, storeA, loadA, fillE, repElems, TI.zeroV, fieldOf, fieldAddrA, fieldA, elemsA, retE, cells?_put_push, push_at, put_at, cellsOf?, Nat.add_assoc, n_push', n_put', isCell_undef, known_undef, cells_undef, isCell_bool, known_bool, cells_bool, isCell_int, known_int, cells_int, isCell_str, known_str, cells_str, isCell_nilp, known_nilp, cells_nilp, isCell_ptr, known_ptr, cells_ptr, isCell_rptr, known_rptr, cells_rptr, isCell_nils, known_nils, cells_nils, isCell_slice, known_slice, cells_slice, isCell_rsl, known_rsl, cells_rsl, isCell_nilm, known_nilm, cells_nilm, isCell_map, known_map, cells_map, isCell_fn, known_fn, cells_fn, isCell_yld, known_yld, cells_yld, isCell_nilf, known_nilf, cells_nilf, isCell_iface, known_iface, cells_iface, isCell_nili, known_nili, cells_nili, isCell_agg, known_agg, cells_agg, isCell_tup, known_tup, cells_tup, setCells, nowhere, GotF_some, Got_some, int_beq, int_bne, uT12, hw1]
  obtain ⟨N, hN⟩ := Int.eq_ofNat_of_zero_le (show 0 ≤ 1 + turnZ n 12 by omega)
  rw [hN]
  have hN1 : 1 ≤ N := by omega
  have hN12 : N ≤ 12 := by omega
  have uM := fun (m : Nat) (a : Int) (S : St) => uT m a N S (by rw [i64_iff]; omega)
  clear uT uT12
  have hlz : (zs.length : Int) < 9223372036854775808 := by unfold maxLen at hlen; omega
  have hK : ∃ K, K = min (zs.length / 2) 20 := ⟨_, rfl⟩
  obtain ⟨K, hK⟩ := hK
  have hll := hl.len
  generalize hc : iter _ _ _ _ = c
  obtain ⟨e1, L1, S1, rfl, hq⟩ := loop_of hc
    (fun r L S => ∃ j m sc a9 a10 v1 v2 T1 T2, j + r = K ∧ m = 2 * j ∧ L = vloc [l, .int .i64 n, .bool false, .int .i64 N, v1, v2, .int .i64 (m : Nat), a9, a10, .undef, .undef, .undef, .undef, .undef, .undef, .undef, .undef, .undef, .undef, .undef, .undef, .undef, .undef] sc ∧
      LiveS S v1 (flat (edgesL zs N j)) T1 ∧ LiveS S v2 (flat ((edgesL zs N j).map swapE)) T2 ∧ ∀ j, T1 = some j → T2 ≠ some j)
    (fun e L S => e = .exit 0 ∧ ∃ m sc a9 a10 v1 v2 T1 T2, L = vloc [l, .int .i64 n, .bool false, .int .i64 N, v1, v2, m, a9, a10, .undef, .undef, .undef, .undef, .undef, .undef, .undef, .undef, .undef, .undef, .undef, .undef, .undef, .undef] sc ∧
      LiveS S v1 (flat (edgesL zs N K)) T1 ∧ LiveS S v2 (flat ((edgesL zs N K).map swapE)) T2)
    K (by omega)
    (by
      refine ⟨0, 0, _, _, _, .slice [] .full, .slice [] .full, none, none, by simp, rfl, rfl, ⟨.inr rfl, by simp⟩, ⟨.inr rfl, by simp⟩, by simp⟩)
    (by
      rintro r L S ⟨j, m, sc, a9, a10, v1, v2, T1, T2, hjk, hm, rfl, g1, g2, g3⟩ q hq1 hq2
      have hlen1 := g1.len
      have hw : IntKind.i64.wrap ((m : Int) + 1) = ((m : Int) + 1) := wrap_id (by omega) (by omega)
      have hw2 : IntKind.i64.wrap ((m : Int) + 2) = ((m : Int) + 2) := wrap_id (by omega) (by omega)
      rw [flat_length, edgesL_len, ← hm] at hlen1
      by_cases hj : j < K
      · have b1 : (m : Int) + 1 < (zs.length : Int) := by omega
        have b2 : (m : Int) < 40 := by omega
        have i1 := hl.index (j := m) (by omega)
        have i2 := hl.index (j := m + 1) (by omega)
        have hx : turnZ zs[m] N = (edgeAt zs N j).1 := by subst hm; simp [edgeAt, List.getD_eq_getElem?_getD, show 2 * j < zs.length by omega]
        have hy : turnZ (zs[m + 1]'(by omega)) N = (edgeAt zs N j).2 := by subst hm; simp [edgeAt, List.getD_eq_getElem?_getD, show 2 * j + 1 < zs.length by omega]
        obtain ⟨w1, Sa, c1, k1, k2, k3⟩ := g1.append [(edgeAt zs N j).1, (edgeAt zs N j).2] (by simp) (by simp [edgesL_len]; omega)
        have g2' := g2.keep k3 (fun j e1 e2 => g3 j e2 e1)
        obtain ⟨w2, Sb, c2, k4, k5, k6⟩ := g2'.append [(edgeAt zs N j).2, (edgeAt zs N j).1] (by simp) (by simp [edgesL_len]; omega)
        have hltS : ∀ t, T2 = some t → t < S.n := fun t e => by subst e; exact g2.1.lt
        have k1' := k1.keep k6 (fun t e1 e2 => by cases e1; have := hltS _ e2; omega)
        have hcast : ((m + 1 : Nat) : Int) = (m : Int) + 1 := by omega
        rw [hcast] at i2
        simp only [ints, List.map_cons, List.map_nil] at c1 c2
        simp [evalC_seq, evalC_region, runA_cons', runA_consN, runA_consG, guardR_true, guardR_false, guardV_bool, guardV_tup, runA_nil', inFrame, startLoc, startVals, Loc.clear, eff_move, eff_assign, eff_binOp, eff_build, eff_buildSlice, eff_alloc, eff_box, eff_store, eff_load, eff_fieldAddr, eff_field, eff_indexAddr, eff_slice, eff_extract, eff_pick, eff_unOp, eff_convert, eff_makeSlice, eff_makeFunc, eff_makeInterface, eff_nilCheck, eff_panic, eff_len1, eff_max2, eff_min2, eff_append2, eff_callV, stepE_val, contR_ok, contR_pan, outC_ok, outC_pan, thenC_normal, thenC_ret, thenC_exit, thenC_pan, blockC, evalC_ret, evalC_skip, evalC_exit, evalC_block, evalC_scope, evalC_loop, Loc.putO, Loc.put, idx, evO, constV, Loc.get, Vm.look, valO_some, bin_int, intA, evalC_cond, condC_true, condC_false, unwindA, resultsA, resultV, actA, pureA, storeA, loadA, fillE, repElems, TI.zeroV, fieldOf, fieldAddrA, fieldA, elemsA, retE, cells?_put_push, push_at, put_at, cellsOf?, Nat.add_assoc, n_push', n_put', isCell_undef, known_undef, cells_undef, isCell_bool, known_bool, cells_bool, isCell_int, known_int, cells_int, isCell_str, known_str, cells_str, isCell_nilp, known_nilp, cells_nilp, isCell_ptr, known_ptr, cells_ptr, isCell_rptr, known_rptr, cells_rptr, isCell_nils, known_nils, cells_nils, isCell_slice, known_slice, cells_slice, isCell_rsl, known_rsl, cells_rsl, isCell_nilm, known_nilm, cells_nilm, isCell_map, known_map, cells_map, isCell_fn, known_fn, cells_fn, isCell_yld, known_yld, cells_yld, isCell_nilf, known_nilf, cells_nilf, isCell_iface, known_iface, cells_iface, isCell_nili, known_nili, cells_nili, isCell_agg, known_agg, cells_agg, isCell_tup, known_tup, cells_tup, setCells, nowhere, GotF_some, Got_some, int_beq, int_bne, runC_nil, runC_cons, pickC_some, wantC_tt, wantC_tf, effC_val, ifC_true, checkC, inPairs, keepC, okC, readsC_load, readV_some, AV.beq_self, wantA_n, wantA_g, wantD_some, d0, vloc, hll, hw, hw2, b1, b2, hlen1, i1, i2, uM, hx, hy, c1, c2]
        refine hq1 (r - 1) _ _ (by omega) ⟨j + 1, m + 2, _, _, _, w1, w2, some S.n, some Sa.n, by omega, by omega, rfl, ?_, ?_, fun t e1 e2 => by simp only [Option.some.injEq] at e1 e2; omega⟩
        · rw [edgesL_succ, flat_append]; exact k1'
        · rw [edgesL_succ, List.map_append, flat_append]; exact k4
      · have hjl : j = K := by omega
        subst hjl
        have hstop : ¬ ((m : Int) + 1 < (zs.length : Int)) ∨ ¬ ((m : Int) < 40) := by omega
        rcases Classical.em ((m : Int) + 1 < (zs.length : Int)) with b1 | b1
        · have b2 : ¬ (m : Int) < 40 := by omega
          simp [evalC_seq, evalC_region, runA_cons', runA_consN, runA_consG, guardR_true, guardR_false, guardV_bool, guardV_tup, runA_nil', inFrame, startLoc, startVals, Loc.clear, eff_move, eff_assign, eff_binOp, eff_build, eff_buildSlice, eff_alloc, eff_box, eff_store, eff_load, eff_fieldAddr, eff_field, eff_indexAddr, eff_slice, eff_extract, eff_pick, eff_unOp, eff_convert, eff_makeSlice, eff_makeFunc, eff_makeInterface, eff_nilCheck, eff_panic, eff_len1, eff_max2, eff_min2, eff_append2, eff_callV, stepE_val, contR_ok, contR_pan, outC_ok, outC_pan, thenC_normal, thenC_ret, thenC_exit, thenC_pan, blockC, evalC_ret, evalC_skip, evalC_exit, evalC_block, evalC_scope, evalC_loop, Loc.putO, Loc.put, idx, evO, constV, Loc.get, Vm.look, valO_some, bin_int, intA, evalC_cond, condC_true, condC_false, unwindA, resultsA, resultV, actA, pureA, storeA, loadA, fillE, repElems, TI.zeroV, fieldOf, fieldAddrA, fieldA, elemsA, retE, cells?_put_push, push_at, put_at, cellsOf?, Nat.add_assoc, n_push', n_put', isCell_undef, known_undef, cells_undef, isCell_bool, known_bool, cells_bool, isCell_int, known_int, cells_int, isCell_str, known_str, cells_str, isCell_nilp, known_nilp, cells_nilp, isCell_ptr, known_ptr, cells_ptr, isCell_rptr, known_rptr, cells_rptr, isCell_nils, known_nils, cells_nils, isCell_slice, known_slice, cells_slice, isCell_rsl, known_rsl, cells_rsl, isCell_nilm, known_nilm, cells_nilm, isCell_map, known_map, cells_map, isCell_fn, known_fn, cells_fn, isCell_yld, known_yld, cells_yld, isCell_nilf, known_nilf, cells_nilf, isCell_iface, known_iface, cells_iface, isCell_nili, known_nili, cells_nili, isCell_agg, known_agg, cells_agg, isCell_tup, known_tup, cells_tup, setCells, nowhere, GotF_some, Got_some, int_beq, int_bne, vloc, hll, hw, b1, b2, hlen1]
          exact hq2 _ _ _ (by simp) ⟨rfl, _, _, a9, a10, v1, v2, T1, T2, rfl, g1, g2⟩
        · simp [evalC_seq, evalC_region, runA_cons', runA_consN, runA_consG, guardR_true, guardR_false, guardV_bool, guardV_tup, runA_nil', inFrame, startLoc, startVals, Loc.clear, eff_move, eff_assign, eff_binOp, eff_build, eff_buildSlice, eff_alloc, eff_box, eff_store, eff_load, eff_fieldAddr, eff_field, eff_indexAddr, eff_slice, eff_extract, eff_pick, eff_unOp, eff_convert, eff_makeSlice, eff_makeFunc, eff_makeInterface, eff_nilCheck, eff_panic, eff_len1, eff_max2, eff_min2, eff_append2, eff_callV, stepE_val, contR_ok, contR_pan, outC_ok, outC_pan, thenC_normal, thenC_ret, thenC_exit, thenC_pan, blockC, evalC_ret, evalC_skip, evalC_exit, evalC_block, evalC_scope, evalC_loop, Loc.putO, Loc.put, idx, evO, constV, Loc.get, Vm.look, valO_some, bin_int, intA, evalC_cond, condC_true, condC_false, unwindA, resultsA, resultV, actA, pureA, storeA, loadA, fillE, repElems, TI.zeroV, fieldOf, fieldAddrA, fieldA, elemsA, retE, cells?_put_push, push_at, put_at, cellsOf?, Nat.add_assoc, n_push', n_put', isCell_undef, known_undef, cells_undef, isCell_bool, known_bool, cells_bool, isCell_int, known_int, cells_int, isCell_str, known_str, cells_str, isCell_nilp, known_nilp, cells_nilp, isCell_ptr, known_ptr, cells_ptr, isCell_rptr, known_rptr, cells_rptr, isCell_nils, known_nils, cells_nils, isCell_slice, known_slice, cells_slice, isCell_rsl, known_rsl, cells_rsl, isCell_nilm, known_nilm, cells_nilm, isCell_map, known_map, cells_map, isCell_fn, known_fn, cells_fn, isCell_yld, known_yld, cells_yld, isCell_nilf, known_nilf, cells_nilf, isCell_iface, known_iface, cells_iface, isCell_nili, known_nili, cells_nili, isCell_agg, known_agg, cells_agg, isCell_tup, known_tup, cells_tup, setCells, nowhere, GotF_some, Got_some, int_beq, int_bne, vloc, hll, hw, b1]
          exact hq2 _ _ _ (by simp) ⟨rfl, _, _, a9, a10, v1, v2, T1, T2, rfl, g1, g2⟩)
  obtain ⟨rfl, m, sc, a9, a10, v1, v2, T1, T2, rfl, g1, g2⟩ := hq
  obtain ⟨tk1, rfl⟩ := g1.cases
  obtain ⟨tk2, rfl⟩ := g2.cases
  have hin := edgesL_in zs hN1 K
  have hEl := edgesL_len zs N K
  generalize edgesL zs N K = es at *
  have uW := fun (m : Nat) (a : Int) (S : St) => word_use (cs := csL) rfl (n := m) (a := a) (S := S)
  have uP := fun (m : Nat) (a b : GV) (S : St) => pair_use (cs := csL) rfl (n := m) (a := a) (b := b) (S := S)
  have uQ1 := fun (m : Nat) (S : St) => pairs_use (cs := csL) rfl (n := m) (v := .slice (ints (flat es)) tk1) (es := es) (S := S) (by simp [AV.dead]) (by omega)
  have uQ2 := fun (m : Nat) (S : St) => pairs_use (cs := csL) rfl (n := m) (v := .slice (ints (flat (es.map swapE))) tk2) (es := es.map swapE) (S := S) (by simp [AV.dead]) (by simp; omega)
  have hin2 : InGraph N (es.map swapE) := by
    intro e he
    obtain ⟨e', he', rfl⟩ := List.mem_map.1 he
    have := hin e' he'
    exact ⟨this.2, this.1⟩
  have uD1 := fun (m : Nat) (S : St) => compsD_use (cs := csL) rfl (n := m) (S := S) hN1 (by omega) (by omega) hin
  have uD2 := fun (m : Nat) (S : St) => compsD_use (cs := csL) rfl (n := m) (S := S) hN1 (by omega) (by simp; omega) hin2
  rw [comps_swap] at uD2
  have lA : (ofN (compsL N es)).length = N := by rw [ofN_len, compsL_len]
  have uL1 := fun (m : Nat) (S : St) => list_use (cs := csL) rfl (n := m) (S := S) (zs := ofN (compsL N es)) (by omega)
  have uS := fun (m : Nat) (S : St) => same_use (cs := csL) rfl (n := m) (S := S) (a := ofN (compsL N es)) (b := ofN (compsL N es)) (by omega) (by omega)
  have kA := gv_lst (l := (ofN (compsL N es)).map .num)
  simp only [nums, GV.enc.eq_3, sv] at uD1 uD2 uL1 uS
  simp only [nComps] at uD1 uD2
  generalize lst (GV.encs ((ofN (compsL N es)).map .num)) = XA at *
  have hq12 := wrap_tdiv hn 12 (by omega)
  have hq100 := wrap_tdiv hn 100 (by omega)
  have hQ1 := turnZ_le (n.tdiv 12) (b := (N : Int)) (by omega)
  have hQ2 := turnZ_le (n.tdiv 100) (b := (N : Int)) (by omega)
  generalize hq1e : turnZ (n.tdiv 12) N = q1 at *
  generalize hq2e : turnZ (n.tdiv 100) N = q2 at *
  obtain ⟨w1, Sz, U1, c1, f1, f2, f3, f4⟩ := LiveS.append_any (S := (((S1.push (.cells [.int .i64 0, .int .i64 0, .nils])).put S1.n (.cells [.int .i64 4, .int .i64 0, XA])).push (.cells [.int .i64 0, .int .i64 0, .nils])).put (S1.n + 1) (.cells [.int .i64 4, .int .i64 0, XA]))
    (zs := []) (tk := .full) ⟨.inr rfl, by simp⟩ (flat es) (by simp; omega)
  replace c1 : appendA ED ((((S1.push (.cells [.int .i64 0, .int .i64 0, .nils])).put S1.n (.cells [.int .i64 4, .int .i64 0, XA])).push (.cells [.int .i64 0, .int .i64 0, .nils])).put (S1.n + 1) (.cells [.int .i64 4, .int .i64 0, XA])) 3 (.slice [] .full) (ints (flat es)) = some (w1, Sz) := c1
  obtain ⟨w2, Sw, c2, f5, f6, f7⟩ := f1.append [q1, q2] (by simp) (by simp; omega)
  replace c2 : appendA ED Sz 3 w1 [.int .i64 q1, .int .i64 q2] = some (w2, Sw) := c2
  have hm1 : ((((S1.push (.cells [.int .i64 0, .int .i64 0, .nils])).put S1.n (.cells [.int .i64 4, .int .i64 0, XA])).push (.cells [.int .i64 0, .int .i64 0, .nils])).put (S1.n + 1) (.cells [.int .i64 4, .int .i64 0, XA])).cells? S1.n = some [.int .i64 4, .int .i64 0, XA] :=
    cells_box (S := (S1.push (.cells [.int .i64 0, .int .i64 0, .nils])).put S1.n (.cells [.int .i64 4, .int .i64 0, XA])) (cells?_put_push _ _ _)
  have hm2 : ((((S1.push (.cells [.int .i64 0, .int .i64 0, .nils])).put S1.n (.cells [.int .i64 4, .int .i64 0, XA])).push (.cells [.int .i64 0, .int .i64 0, .nils])).put (S1.n + 1) (.cells [.int .i64 4, .int .i64 0, XA])).cells? (S1.n + 1) = some [.int .i64 4, .int .i64 0, XA] :=
    cells?_put_push ((S1.push (.cells [.int .i64 0, .int .i64 0, .nils])).put S1.n (.cells [.int .i64 4, .int .i64 0, XA])) _ _
  have hm1' := f7.cells _ _ (f3.cells _ _ hm1)
  have hm2' := f7.cells _ _ (f3.cells _ _ hm2)
  clear hm1 hm2
  have hnn := f2
  obtain ⟨tk3, rfl⟩ := f5.cases
  have hfe : flat es ++ [q1, q2] = flat (es ++ [(q1, q2)]) := by rw [flat_append]; rfl
  simp only [List.nil_append] at c2
  rw [hfe] at c2
  have hin3 : InGraph N (es ++ [(q1, q2)]) := by
    intro e he
    rcases List.mem_append.1 he with he | he
    · exact hin e he
    · rw [List.mem_singleton.1 he]
      exact ⟨hQ1, hQ2⟩
  have uQ3 := fun (m : Nat) (S : St) => pairs_use (cs := csL) rfl (n := m) (v := .slice (ints (flat (es ++ [(q1, q2)]))) tk3) (es := es ++ [(q1, q2)]) (S := S) (by simp [AV.dead]) (by simp; omega)
  have uD3 := fun (m : Nat) (S : St) => compsD_use (cs := csL) rfl (n := m) (S := S) hN1 (by omega) (by simp; omega) hin3
  have lC : (ofN (compsL N (es ++ [(q1, q2)]))).length = N := by rw [ofN_len, compsL_len]
  have uL3 := fun (m : Nat) (S : St) => list_use (cs := csL) rfl (n := m) (S := S) (zs := ofN (compsL N (es ++ [(q1, q2)]))) (by omega)
  have kC := gv_lst (l := (ofN (compsL N (es ++ [(q1, q2)]))).map .num)
  simp only [nums, GV.enc.eq_3, sv] at uD3 uL3
  simp only [nComps] at uD3
  generalize lst (GV.encs ((ofN (compsL N (es ++ [(q1, q2)]))).map .num)) = XC at *
  have hb1 := cells_box (o := .cells [.int .i64 0, .int .i64 0, .nils]) (o' := .cells [.int .i64 4, .int .i64 0, XC]) hm1'
  have hb2 := cells_box (o := .cells [.int .i64 0, .int .i64 0, .nils]) (o' := .cells [.int .i64 4, .int .i64 0, XC]) hm2'
  have hb3 := cells?_put_push Sw (.cells [.int .i64 0, .int .i64 0, .nils]) [.int .i64 4, .int .i64 0, XC]
  have hlA : lenA ED 22 (.slice (ints (ofN (compsL N es))) .dead) = some (.int .i64 N) := by rw [len_ints, lA]
  have hlC : lenA ED 22 (.slice (ints (ofN (compsL N (es ++ [(q1, q2)])))) .dead) = some (.int .i64 N) := by rw [len_ints, lC]
  simp [evalC_seq, evalC_region, runA_cons', runA_consN, runA_consG, guardR_true, guardR_false, guardV_bool, guardV_tup, runA_nil', inFrame, startLoc, startVals, Loc.clear, eff_move, eff_assign, eff_binOp, eff_build, eff_buildSlice, eff_alloc, eff_box, eff_store, eff_load, eff_fieldAddr, eff_field, eff_indexAddr, eff_slice, eff_extract, eff_pick, eff_unOp, eff_convert, eff_makeSlice, eff_makeFunc, eff_makeInterface, eff_nilCheck, eff_panic, eff_len1, eff_max2, eff_min2, eff_append2, eff_callV, stepE_val, contR_ok, contR_pan, outC_ok, outC_pan, thenC_normal, thenC_ret, thenC_exit, thenC_pan, blockC, evalC_ret, evalC_skip, evalC_exit, evalC_block, evalC_scope, evalC_loop, Loc.putO, Loc.put, idx, evO, constV, Loc.get, Vm.look, valO_some, bin_int, intA, evalC_cond, condC_true, condC_false, unwindA, resultsA, resultV, actA, pureA, storeA, loadA, fillE, repElems, TI.zeroV, fieldOf, fieldAddrA, fieldA, elemsA, retE, cells?_put_push, push_at, put_at, cellsOf?, Nat.add_assoc, n_push', n_put', isCell_undef, known_undef, cells_undef, isCell_bool, known_bool, cells_bool, isCell_int, known_int, cells_int, isCell_str, known_str, cells_str, isCell_nilp, known_nilp, cells_nilp, isCell_ptr, known_ptr, cells_ptr, isCell_rptr, known_rptr, cells_rptr, isCell_nils, known_nils, cells_nils, isCell_slice, known_slice, cells_slice, isCell_rsl, known_rsl, cells_rsl, isCell_nilm, known_nilm, cells_nilm, isCell_map, known_map, cells_map, isCell_fn, known_fn, cells_fn, isCell_yld, known_yld, cells_yld, isCell_nilf, known_nilf, cells_nilf, isCell_iface, known_iface, cells_iface, isCell_nili, known_nili, cells_nili, isCell_agg, known_agg, cells_agg, isCell_tup, known_tup, cells_tup, setCells, nowhere, GotF_some, Got_some, int_beq, int_bne, runC_nil, runC_cons, pickC_some, wantC_tt, wantC_tf, effC_val, ifC_true, checkC, inPairs, keepC, okC, readsC_load, readV_some, AV.beq_self, wantA_n, wantA_g, wantD_some, d1, vloc, uW, uP, uQ1, uQ2, uD1, uD2, kA, hq12, hq100, uM, hq1e, hq2e, c1, c2, uQ3, uD3, kC, uL1, uL3, hb1, hb2, hb3, uS, hlA, hlC, unA]
  have hAi : ∀ (k : Nat) (hk : k < N), indexAddrA ED 22 (.slice (ints (ofN (compsL N es))) .dead) (.int .i64 k) = some (.rptr [.int .i64 ((compsL N es).getD k 0 : Nat)]) := by
    intro k hk
    have hkk : k < (compsL N es).length := by rw [compsL_len]; exact hk
    rw [index_ints (by omega) (by simpa [lA] using hk)]
    simp [ofN, List.getD_eq_getElem?_getD, hkk]
  have hCi : ∀ (k : Nat) (hk : k < N), indexAddrA ED 22 (.slice (ints (ofN (compsL N (es ++ [(q1, q2)])))) .dead) (.int .i64 k) = some (.rptr [.int .i64 ((compsL N (es ++ [(q1, q2)])).getD k 0 : Nat)]) := by
    intro k hk
    have hkk : k < (compsL N (es ++ [(q1, q2)])).length := by rw [compsL_len]; exact hk
    rw [index_ints (by omega) (by simpa [lC] using hk)]
    simp [ofN, List.getD_eq_getElem?_getD, hkk]
  obtain ⟨q1n, hq1n⟩ := Int.eq_ofNat_of_zero_le hQ1.1
  obtain ⟨q2n, hq2n⟩ := Int.eq_ofNat_of_zero_le hQ2.1
  have hfacts := fun (i : Nat) (hi : i < N) => comps_facts hin (e := (q1, q2)) ⟨hQ1, hQ2⟩ i hi
  have hedge := (comps_up hin).2
  have hAlen := compsL_len N es
  generalize compsL N (es ++ [(q1, q2)]) = C at *
  generalize compsL N es = A at *
  generalize hc : iter _ _ _ _ = c
  obtain ⟨e1, L1, S3, rfl, hq⟩ := loop_of hc
    (fun r L S => ∃ j i sc, j + r = es.length ∧ i = 2 * j ∧ L = vloc [l, .int .i64 n, .bool false, .int .i64 N, .slice (ints (flat es)) tk1, .slice (ints (flat (es.map swapE))) tk2, m, a9, a10, .ptr S1.n 0, .int .i64 0, .ptr (S1.n + 1) 0, .int .i64 0, .slice (ints (flat (es ++ [(q1, q2)]))) tk3, .ptr Sw.n 0, .int .i64 0, .slice (ints (ofN A)) .dead, .slice (ints (ofN C)) .dead, .int .i64 (i : Nat), .undef, .undef, .undef, .undef] sc)
    (fun e L S => e = .exit 2 ∧ ∃ i sc, L = vloc [l, .int .i64 n, .bool false, .int .i64 N, .slice (ints (flat es)) tk1, .slice (ints (flat (es.map swapE))) tk2, m, a9, a10, .ptr S1.n 0, .int .i64 0, .ptr (S1.n + 1) 0, .int .i64 0, .slice (ints (flat (es ++ [(q1, q2)]))) tk3, .ptr Sw.n 0, .int .i64 0, .slice (ints (ofN A)) .dead, .slice (ints (ofN C)) .dead, i, .undef, .undef, .undef, .undef] sc)
    es.length (by omega)
    ⟨0, 0, _, by simp, rfl, rfl⟩
    (by
      rintro r L S ⟨j, i, sc, hjk, hi, rfl⟩ q hq1 hq2
      have hw : IntKind.i64.wrap ((i : Int) + 1) = ((i : Int) + 1) := wrap_id (by omega) (by omega)
      have hw2 : IntKind.i64.wrap ((i : Int) + 2) = ((i : Int) + 2) := wrap_id (by omega) (by omega)
      have hle : lenA ED 22 (.slice (ints (flat es)) tk1) = some (.int .i64 ((2 * es.length : Nat) : Int)) := by rw [len_ints, flat_length]
      generalize hM : 2 * es.length = M at hle
      by_cases hj : j < es.length
      · have hb : (i : Int) + 1 < (M : Int) := by omega
        have x1 : indexAddrA ED 22 (.slice (ints (flat es)) tk1) (.int .i64 i) = some (.rptr [.int .i64 es[j].1]) := by
          rw [index_ints (by omega) (by simp; omega)]
          have := flat_get0 hj
          simp only [Int.toNat_natCast, hi, this]
        have x2 : indexAddrA ED 22 (.slice (ints (flat es)) tk1) (.int .i64 ((i : Int) + 1)) = some (.rptr [.int .i64 es[j].2]) := by
          rw [index_ints (by omega) (by simp; omega)]
          have := flat_get1 hj
          simp only [show ((i : Int) + 1).toNat = 2 * j + 1 by omega, this]
        have he := hedge es[j] (List.getElem_mem hj)
        obtain ⟨⟨p0, p1⟩, p2, p3⟩ := hin es[j] (List.getElem_mem hj)
        obtain ⟨x, hx⟩ := Int.eq_ofNat_of_zero_le p0
        obtain ⟨y, hy⟩ := Int.eq_ofNat_of_zero_le p2
        rw [hx, hy] at he
        rw [hx] at x1 p1
        rw [hy] at x2 p3
        have a1 := hAi x (by omega)
        have a2 := hAi y (by omega)
        simp only [Int.toNat_natCast] at he
        rw [← he] at a2
        generalize A.getD x 0 = V at *
        simp [evalC_seq, evalC_region, runA_cons', runA_consN, runA_consG, guardR_true, guardR_false, guardV_bool, guardV_tup, runA_nil', inFrame, startLoc, startVals, Loc.clear, eff_move, eff_assign, eff_binOp, eff_build, eff_buildSlice, eff_alloc, eff_box, eff_store, eff_load, eff_fieldAddr, eff_field, eff_indexAddr, eff_slice, eff_extract, eff_pick, eff_unOp, eff_convert, eff_makeSlice, eff_makeFunc, eff_makeInterface, eff_nilCheck, eff_panic, eff_len1, eff_max2, eff_min2, eff_append2, eff_callV, stepE_val, contR_ok, contR_pan, outC_ok, outC_pan, thenC_normal, thenC_ret, thenC_exit, thenC_pan, blockC, evalC_ret, evalC_skip, evalC_exit, evalC_block, evalC_scope, evalC_loop, Loc.putO, Loc.put, idx, evO, constV, Loc.get, Vm.look, valO_some, bin_int, intA, evalC_cond, condC_true, condC_false, unwindA, resultsA, resultV, actA, pureA, storeA, loadA, fillE, repElems, TI.zeroV, fieldOf, fieldAddrA, fieldA, elemsA, retE, cells?_put_push, push_at, put_at, cellsOf?, Nat.add_assoc, n_push', n_put', isCell_undef, known_undef, cells_undef, isCell_bool, known_bool, cells_bool, isCell_int, known_int, cells_int, isCell_str, known_str, cells_str, isCell_nilp, known_nilp, cells_nilp, isCell_ptr, known_ptr, cells_ptr, isCell_rptr, known_rptr, cells_rptr, isCell_nils, known_nils, cells_nils, isCell_slice, known_slice, cells_slice, isCell_rsl, known_rsl, cells_rsl, isCell_nilm, known_nilm, cells_nilm, isCell_map, known_map, cells_map, isCell_fn, known_fn, cells_fn, isCell_yld, known_yld, cells_yld, isCell_nilf, known_nilf, cells_nilf, isCell_iface, known_iface, cells_iface, isCell_nili, known_nili, cells_nili, isCell_agg, known_agg, cells_agg, isCell_tup, known_tup, cells_tup, setCells, nowhere, GotF_some, Got_some, int_beq, int_bne, runC_nil, runC_cons, pickC_some, wantC_tt, wantC_tf, effC_val, ifC_true, checkC, inPairs, keepC, okC, readsC_load, readV_some, AV.beq_self, wantA_n, wantA_g, wantD_some, d2, vloc, hle, hw, hw2, hb, x1, x2, a1, a2]
        refine hq1 (r - 1) _ _ (by omega) ⟨j + 1, i + 2, _, by omega, by omega, rfl⟩
      · have hb : ¬ (i : Int) + 1 < (M : Int) := by omega
        simp [evalC_seq, evalC_region, runA_cons', runA_consN, runA_consG, guardR_true, guardR_false, guardV_bool, guardV_tup, runA_nil', inFrame, startLoc, startVals, Loc.clear, eff_move, eff_assign, eff_binOp, eff_build, eff_buildSlice, eff_alloc, eff_box, eff_store, eff_load, eff_fieldAddr, eff_field, eff_indexAddr, eff_slice, eff_extract, eff_pick, eff_unOp, eff_convert, eff_makeSlice, eff_makeFunc, eff_makeInterface, eff_nilCheck, eff_panic, eff_len1, eff_max2, eff_min2, eff_append2, eff_callV, stepE_val, contR_ok, contR_pan, outC_ok, outC_pan, thenC_normal, thenC_ret, thenC_exit, thenC_pan, blockC, evalC_ret, evalC_skip, evalC_exit, evalC_block, evalC_scope, evalC_loop, Loc.putO, Loc.put, idx, evO, constV, Loc.get, Vm.look, valO_some, bin_int, intA, evalC_cond, condC_true, condC_false, unwindA, resultsA, resultV, actA, pureA, storeA, loadA, fillE, repElems, TI.zeroV, fieldOf, fieldAddrA, fieldA, elemsA, retE, cells?_put_push, push_at, put_at, cellsOf?, Nat.add_assoc, n_push', n_put', isCell_undef, known_undef, cells_undef, isCell_bool, known_bool, cells_bool, isCell_int, known_int, cells_int, isCell_str, known_str, cells_str, isCell_nilp, known_nilp, cells_nilp, isCell_ptr, known_ptr, cells_ptr, isCell_rptr, known_rptr, cells_rptr, isCell_nils, known_nils, cells_nils, isCell_slice, known_slice, cells_slice, isCell_rsl, known_rsl, cells_rsl, isCell_nilm, known_nilm, cells_nilm, isCell_map, known_map, cells_map, isCell_fn, known_fn, cells_fn, isCell_yld, known_yld, cells_yld, isCell_nilf, known_nilf, cells_nilf, isCell_iface, known_iface, cells_iface, isCell_nili, known_nili, cells_nili, isCell_agg, known_agg, cells_agg, isCell_tup, known_tup, cells_tup, setCells, nowhere, GotF_some, Got_some, int_beq, int_bne, vloc, hle, hw, hb]
        exact hq2 _ _ _ (by simp) ⟨rfl, _, _, rfl⟩)
  obtain ⟨rfl, i, sc, rfl⟩ := hq
  subst hq1n
  subst hq2n
  have hp1 := hAi q1n (by omega)
  have hp2 := hAi q2n (by omega)
  simp only [Int.toNat_natCast] at hfacts
  have uG := fun (m : Nat) (S : St) => graphed_use (cs := csL) rfl (n := m) (S := S)
  have uY := fun (m : Nat) (a b c : Int) (S : St) => lies_use (cs := csL) rfl (n := m) (a := a) (b := b) (c := c) (S := S)
  have hmn := fold_min (A.getD q1n 0) (A.getD q2n 0)
  generalize hP : A.getD q1n 0 = P at *
  generalize hQ : A.getD q2n 0 = Q at *
  simp [evalC_seq, evalC_region, runA_cons', runA_consN, runA_consG, guardR_true, guardR_false, guardV_bool, guardV_tup, runA_nil', inFrame, startLoc, startVals, Loc.clear, eff_move, eff_assign, eff_binOp, eff_build, eff_buildSlice, eff_alloc, eff_box, eff_store, eff_load, eff_fieldAddr, eff_field, eff_indexAddr, eff_slice, eff_extract, eff_pick, eff_unOp, eff_convert, eff_makeSlice, eff_makeFunc, eff_makeInterface, eff_nilCheck, eff_panic, eff_len1, eff_max2, eff_min2, eff_append2, eff_callV, stepE_val, contR_ok, contR_pan, outC_ok, outC_pan, thenC_normal, thenC_ret, thenC_exit, thenC_pan, blockC, evalC_ret, evalC_skip, evalC_exit, evalC_block, evalC_scope, evalC_loop, Loc.putO, Loc.put, idx, evO, constV, Loc.get, Vm.look, valO_some, bin_int, intA, evalC_cond, condC_true, condC_false, unwindA, resultsA, resultV, actA, pureA, storeA, loadA, fillE, repElems, TI.zeroV, fieldOf, fieldAddrA, fieldA, elemsA, retE, cells?_put_push, push_at, put_at, cellsOf?, Nat.add_assoc, n_push', n_put', isCell_undef, known_undef, cells_undef, isCell_bool, known_bool, cells_bool, isCell_int, known_int, cells_int, isCell_str, known_str, cells_str, isCell_nilp, known_nilp, cells_nilp, isCell_ptr, known_ptr, cells_ptr, isCell_rptr, known_rptr, cells_rptr, isCell_nils, known_nils, cells_nils, isCell_slice, known_slice, cells_slice, isCell_rsl, known_rsl, cells_rsl, isCell_nilm, known_nilm, cells_nilm, isCell_map, known_map, cells_map, isCell_fn, known_fn, cells_fn, isCell_yld, known_yld, cells_yld, isCell_nilf, known_nilf, cells_nilf, isCell_iface, known_iface, cells_iface, isCell_nili, known_nili, cells_nili, isCell_agg, known_agg, cells_agg, isCell_tup, known_tup, cells_tup, setCells, nowhere, GotF_some, Got_some, int_beq, int_bne, runC_nil, runC_cons, pickC_some, wantC_tt, wantC_tf, effC_val, ifC_true, checkC, inPairs, keepC, okC, readsC_load, readV_some, AV.beq_self, wantA_n, wantA_g, wantD_some, d3, vloc, hq12, hq100, uM, hq1e, hq2e, hp1, hp2]
  generalize hc : iter _ _ _ _ = c
  obtain ⟨e1, L1, S4, rfl, hq⟩ := loop_of hc
    (fun r L S => ∃ j sc a24, j + r = N ∧ L = vloc [l, .int .i64 n, .bool false, .int .i64 N, .slice (ints (flat es)) tk1, .slice (ints (flat (es.map swapE))) tk2, m, a9, a10, .ptr S1.n 0, .int .i64 0, .ptr (S1.n + 1) 0, .int .i64 0, .slice (ints (flat (es ++ [((q1n : Int), (q2n : Int))]))) tk3, .ptr Sw.n 0, .int .i64 0, .slice (ints (ofN A)) .dead, .slice (ints (ofN C)) .dead, i, .int .i64 P, .int .i64 Q, .int .i64 (j : Nat), a24] sc)
    (fun e L S => e = .exit 4 ∧ ∃ sc a23 a24, L = vloc [l, .int .i64 n, .bool false, .int .i64 N, .slice (ints (flat es)) tk1, .slice (ints (flat (es.map swapE))) tk2, m, a9, a10, .ptr S1.n 0, .int .i64 0, .ptr (S1.n + 1) 0, .int .i64 0, .slice (ints (flat (es ++ [((q1n : Int), (q2n : Int))]))) tk3, .ptr Sw.n 0, .int .i64 0, .slice (ints (ofN A)) .dead, .slice (ints (ofN C)) .dead, i, .int .i64 P, .int .i64 Q, a23, a24] sc)
    N (by omega)
    ⟨0, _, _, by simp, rfl⟩
    (by
      rintro r L S ⟨j, sc, a24, hjk, rfl⟩ q hq1 hq2
      by_cases hj : j < N
      · have hw : IntKind.i64.wrap ((j : Int) + 1) = ((j : Int) + 1) := wrap_id (by omega) (by omega)
        obtain ⟨k1, k2, k3⟩ := hfacts j hj
        have y1 := hAi j hj
        have y2 := hAi (A.getD j 0) (by omega)
        have y3 := hCi j hj
        rw [k2] at y2
        rw [k3] at y3
        generalize A.getD j 0 = V at *
        have hV : (V : Int) ≤ (j : Int) := by omega
        by_cases h1 : V = P
        · rw [if_pos (.inl h1)] at y3
          subst h1
          generalize min V Q = W at *
          simp [evalC_seq, evalC_region, runA_cons', runA_consN, runA_consG, guardR_true, guardR_false, guardV_bool, guardV_tup, runA_nil', inFrame, startLoc, startVals, Loc.clear, eff_move, eff_assign, eff_binOp, eff_build, eff_buildSlice, eff_alloc, eff_box, eff_store, eff_load, eff_fieldAddr, eff_field, eff_indexAddr, eff_slice, eff_extract, eff_pick, eff_unOp, eff_convert, eff_makeSlice, eff_makeFunc, eff_makeInterface, eff_nilCheck, eff_panic, eff_len1, eff_max2, eff_min2, eff_append2, eff_callV, stepE_val, contR_ok, contR_pan, outC_ok, outC_pan, thenC_normal, thenC_ret, thenC_exit, thenC_pan, blockC, evalC_ret, evalC_skip, evalC_exit, evalC_block, evalC_scope, evalC_loop, Loc.putO, Loc.put, idx, evO, constV, Loc.get, Vm.look, valO_some, bin_int, intA, evalC_cond, condC_true, condC_false, unwindA, resultsA, resultV, actA, pureA, storeA, loadA, fillE, repElems, TI.zeroV, fieldOf, fieldAddrA, fieldA, elemsA, retE, cells?_put_push, push_at, put_at, cellsOf?, Nat.add_assoc, n_push', n_put', isCell_undef, known_undef, cells_undef, isCell_bool, known_bool, cells_bool, isCell_int, known_int, cells_int, isCell_str, known_str, cells_str, isCell_nilp, known_nilp, cells_nilp, isCell_ptr, known_ptr, cells_ptr, isCell_rptr, known_rptr, cells_rptr, isCell_nils, known_nils, cells_nils, isCell_slice, known_slice, cells_slice, isCell_rsl, known_rsl, cells_rsl, isCell_nilm, known_nilm, cells_nilm, isCell_map, known_map, cells_map, isCell_fn, known_fn, cells_fn, isCell_yld, known_yld, cells_yld, isCell_nilf, known_nilf, cells_nilf, isCell_iface, known_iface, cells_iface, isCell_nili, known_nili, cells_nili, isCell_agg, known_agg, cells_agg, isCell_tup, known_tup, cells_tup, setCells, nowhere, GotF_some, Got_some, int_beq, int_bne, runC_nil, runC_cons, pickC_some, wantC_tt, wantC_tf, effC_val, ifC_true, checkC, inPairs, keepC, okC, readsC_load, readV_some, AV.beq_self, wantA_n, wantA_g, wantD_some, d4, vloc, hj, y1, y2, y3, uY, hV, unA, hmn, hw, k1]
          refine hq1 (r - 1) _ _ (by omega) ⟨j + 1, _, _, by omega, rfl⟩
        · have h1' : ¬ (V : Int) = (P : Int) := by omega
          by_cases h2 : V = Q
          · rw [if_pos (.inr h2)] at y3
            subst h2
            generalize min P V = W at *
            simp [evalC_seq, evalC_region, runA_cons', runA_consN, runA_consG, guardR_true, guardR_false, guardV_bool, guardV_tup, runA_nil', inFrame, startLoc, startVals, Loc.clear, eff_move, eff_assign, eff_binOp, eff_build, eff_buildSlice, eff_alloc, eff_box, eff_store, eff_load, eff_fieldAddr, eff_field, eff_indexAddr, eff_slice, eff_extract, eff_pick, eff_unOp, eff_convert, eff_makeSlice, eff_makeFunc, eff_makeInterface, eff_nilCheck, eff_panic, eff_len1, eff_max2, eff_min2, eff_append2, eff_callV, stepE_val, contR_ok, contR_pan, outC_ok, outC_pan, thenC_normal, thenC_ret, thenC_exit, thenC_pan, blockC, evalC_ret, evalC_skip, evalC_exit, evalC_block, evalC_scope, evalC_loop, Loc.putO, Loc.put, idx, evO, constV, Loc.get, Vm.look, valO_some, bin_int, intA, evalC_cond, condC_true, condC_false, unwindA, resultsA, resultV, actA, pureA, storeA, loadA, fillE, repElems, TI.zeroV, fieldOf, fieldAddrA, fieldA, elemsA, retE, cells?_put_push, push_at, put_at, cellsOf?, Nat.add_assoc, n_push', n_put', isCell_undef, known_undef, cells_undef, isCell_bool, known_bool, cells_bool, isCell_int, known_int, cells_int, isCell_str, known_str, cells_str, isCell_nilp, known_nilp, cells_nilp, isCell_ptr, known_ptr, cells_ptr, isCell_rptr, known_rptr, cells_rptr, isCell_nils, known_nils, cells_nils, isCell_slice, known_slice, cells_slice, isCell_rsl, known_rsl, cells_rsl, isCell_nilm, known_nilm, cells_nilm, isCell_map, known_map, cells_map, isCell_fn, known_fn, cells_fn, isCell_yld, known_yld, cells_yld, isCell_nilf, known_nilf, cells_nilf, isCell_iface, known_iface, cells_iface, isCell_nili, known_nili, cells_nili, isCell_agg, known_agg, cells_agg, isCell_tup, known_tup, cells_tup, setCells, nowhere, GotF_some, Got_some, int_beq, int_bne, runC_nil, runC_cons, pickC_some, wantC_tt, wantC_tf, effC_val, ifC_true, checkC, inPairs, keepC, okC, readsC_load, readV_some, AV.beq_self, wantA_n, wantA_g, wantD_some, d4, vloc, hj, y1, y2, y3, uY, hV, unA, hmn, hw, k1, h1, h1']
            refine hq1 (r - 1) _ _ (by omega) ⟨j + 1, _, _, by omega, rfl⟩
          · have h2' : ¬ (V : Int) = (Q : Int) := by omega
            rw [if_neg (by omega)] at y3
            simp [evalC_seq, evalC_region, runA_cons', runA_consN, runA_consG, guardR_true, guardR_false, guardV_bool, guardV_tup, runA_nil', inFrame, startLoc, startVals, Loc.clear, eff_move, eff_assign, eff_binOp, eff_build, eff_buildSlice, eff_alloc, eff_box, eff_store, eff_load, eff_fieldAddr, eff_field, eff_indexAddr, eff_slice, eff_extract, eff_pick, eff_unOp, eff_convert, eff_makeSlice, eff_makeFunc, eff_makeInterface, eff_nilCheck, eff_panic, eff_len1, eff_max2, eff_min2, eff_append2, eff_callV, stepE_val, contR_ok, contR_pan, outC_ok, outC_pan, thenC_normal, thenC_ret, thenC_exit, thenC_pan, blockC, evalC_ret, evalC_skip, evalC_exit, evalC_block, evalC_scope, evalC_loop, Loc.putO, Loc.put, idx, evO, constV, Loc.get, Vm.look, valO_some, bin_int, intA, evalC_cond, condC_true, condC_false, unwindA, resultsA, resultV, actA, pureA, storeA, loadA, fillE, repElems, TI.zeroV, fieldOf, fieldAddrA, fieldA, elemsA, retE, cells?_put_push, push_at, put_at, cellsOf?, Nat.add_assoc, n_push', n_put', isCell_undef, known_undef, cells_undef, isCell_bool, known_bool, cells_bool, isCell_int, known_int, cells_int, isCell_str, known_str, cells_str, isCell_nilp, known_nilp, cells_nilp, isCell_ptr, known_ptr, cells_ptr, isCell_rptr, known_rptr, cells_rptr, isCell_nils, known_nils, cells_nils, isCell_slice, known_slice, cells_slice, isCell_rsl, known_rsl, cells_rsl, isCell_nilm, known_nilm, cells_nilm, isCell_map, known_map, cells_map, isCell_fn, known_fn, cells_fn, isCell_yld, known_yld, cells_yld, isCell_nilf, known_nilf, cells_nilf, isCell_iface, known_iface, cells_iface, isCell_nili, known_nili, cells_nili, isCell_agg, known_agg, cells_agg, isCell_tup, known_tup, cells_tup, setCells, nowhere, GotF_some, Got_some, int_beq, int_bne, runC_nil, runC_cons, pickC_some, wantC_tt, wantC_tf, effC_val, ifC_true, checkC, inPairs, keepC, okC, readsC_load, readV_some, AV.beq_self, wantA_n, wantA_g, wantD_some, d4, vloc, hj, y1, y2, y3, uY, hV, unA, hw, k1, h1, h1', h2, h2']
            refine hq1 (r - 1) _ _ (by omega) ⟨j + 1, _, _, by omega, rfl⟩
      · have hjl : j = N := by omega
        subst hjl
        simp [evalC_seq, evalC_region, runA_cons', runA_consN, runA_consG, guardR_true, guardR_false, guardV_bool, guardV_tup, runA_nil', inFrame, startLoc, startVals, Loc.clear, eff_move, eff_assign, eff_binOp, eff_build, eff_buildSlice, eff_alloc, eff_box, eff_store, eff_load, eff_fieldAddr, eff_field, eff_indexAddr, eff_slice, eff_extract, eff_pick, eff_unOp, eff_convert, eff_makeSlice, eff_makeFunc, eff_makeInterface, eff_nilCheck, eff_panic, eff_len1, eff_max2, eff_min2, eff_append2, eff_callV, stepE_val, contR_ok, contR_pan, outC_ok, outC_pan, thenC_normal, thenC_ret, thenC_exit, thenC_pan, blockC, evalC_ret, evalC_skip, evalC_exit, evalC_block, evalC_scope, evalC_loop, Loc.putO, Loc.put, idx, evO, constV, Loc.get, Vm.look, valO_some, bin_int, intA, evalC_cond, condC_true, condC_false, unwindA, resultsA, resultV, actA, pureA, storeA, loadA, fillE, repElems, TI.zeroV, fieldOf, fieldAddrA, fieldA, elemsA, retE, cells?_put_push, push_at, put_at, cellsOf?, Nat.add_assoc, n_push', n_put', isCell_undef, known_undef, cells_undef, isCell_bool, known_bool, cells_bool, isCell_int, known_int, cells_int, isCell_str, known_str, cells_str, isCell_nilp, known_nilp, cells_nilp, isCell_ptr, known_ptr, cells_ptr, isCell_rptr, known_rptr, cells_rptr, isCell_nils, known_nils, cells_nils, isCell_slice, known_slice, cells_slice, isCell_rsl, known_rsl, cells_rsl, isCell_nilm, known_nilm, cells_nilm, isCell_map, known_map, cells_map, isCell_fn, known_fn, cells_fn, isCell_yld, known_yld, cells_yld, isCell_nilf, known_nilf, cells_nilf, isCell_iface, known_iface, cells_iface, isCell_nili, known_nili, cells_nili, isCell_agg, known_agg, cells_agg, isCell_tup, known_tup, cells_tup, setCells, nowhere, GotF_some, Got_some, int_beq, int_bne, vloc]
        exact hq2 _ _ _ (by simp) ⟨rfl, _, _, _, rfl⟩)
  obtain ⟨rfl, sc, a23, a24, rfl⟩ := hq
  simp [evalC_seq, evalC_region, runA_cons', runA_consN, runA_consG, guardR_true, guardR_false, guardV_bool, guardV_tup, runA_nil', inFrame, startLoc, startVals, Loc.clear, eff_move, eff_assign, eff_binOp, eff_build, eff_buildSlice, eff_alloc, eff_box, eff_store, eff_load, eff_fieldAddr, eff_field, eff_indexAddr, eff_slice, eff_extract, eff_pick, eff_unOp, eff_convert, eff_makeSlice, eff_makeFunc, eff_makeInterface, eff_nilCheck, eff_panic, eff_len1, eff_max2, eff_min2, eff_append2, eff_callV, stepE_val, contR_ok, contR_pan, outC_ok, outC_pan, thenC_normal, thenC_ret, thenC_exit, thenC_pan, blockC, evalC_ret, evalC_skip, evalC_exit, evalC_block, evalC_scope, evalC_loop, Loc.putO, Loc.put, idx, evO, constV, Loc.get, Vm.look, valO_some, bin_int, intA, evalC_cond, condC_true, condC_false, unwindA, resultsA, resultV, actA, pureA, storeA, loadA, fillE, repElems, TI.zeroV, fieldOf, fieldAddrA, fieldA, elemsA, retE, cells?_put_push, push_at, put_at, cellsOf?, Nat.add_assoc, n_push', n_put', isCell_undef, known_undef, cells_undef, isCell_bool, known_bool, cells_bool, isCell_int, known_int, cells_int, isCell_str, known_str, cells_str, isCell_nilp, known_nilp, cells_nilp, isCell_ptr, known_ptr, cells_ptr, isCell_rptr, known_rptr, cells_rptr, isCell_nils, known_nils, cells_nils, isCell_slice, known_slice, cells_slice, isCell_rsl, known_rsl, cells_rsl, isCell_nilm, known_nilm, cells_nilm, isCell_map, known_map, cells_map, isCell_fn, known_fn, cells_fn, isCell_yld, known_yld, cells_yld, isCell_nilf, known_nilf, cells_nilf, isCell_iface, known_iface, cells_iface, isCell_nili, known_nili, cells_nili, isCell_agg, known_agg, cells_agg, isCell_tup, known_tup, cells_tup, setCells, nowhere, GotF_some, Got_some, int_beq, int_bne, vloc, uG]
  exact hp _ _ rfl

end Go.Proofs.YtjgigcaelcapdaaDoor
