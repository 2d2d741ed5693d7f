/-
What the law's own functions return, and the law. No conditions.
-/
import Derived.Test.YtjgigcaelcapdaaDoorValI
import Derived.Test.YtjgigcaelcapdaaDoorValH
set_option linter.all false

namespace Go.Proofs.YtjgigcaelcapdaaDoor
open Go Go.Vm Go.Vm.T
set_option maxRecDepth 100000
set_option linter.unusedSimpArgs false
set_option linter.unusedVariables false

set_option maxHeartbeats 4000000

noncomputable def csP : List Con := [turnC, pairsC, hullD, listC, liesC, turnPC, orderC, sameC, graphedC]
theorem csP_ok : ∀ d ∈ csP, d.Ok Tryd.prog ED := by
  simpa [csP] using ⟨turn_ok, pairs_ok, hullD_ok, list_ok, lies_ok, turnP_ok, order_ok, same_ok, graphed_ok⟩

def ptAt (zs : List Int) (w hz : Int) (j : Nat) : Int × Int := (turnZ (IntKind.i64.wrap (zs.getD (2 * j) 0 * 31)) w - hz, turnZ (IntKind.i64.wrap (zs.getD (2 * j + 1) 0 * 37)) w - hz)
def ptsL (zs : List Int) (w hz : Int) (k : Nat) : List (Int × Int) := (List.range k).map (ptAt zs w hz)
theorem ptsL_succ (zs : List Int) (w hz : Int) (k : Nat) : ptsL zs w hz (k + 1) = ptsL zs w hz k ++ [ptAt zs w hz k] := by simp [ptsL, List.range_succ]
theorem ptsL_len (zs : List Int) (w hz : Int) (k : Nat) : (ptsL zs w hz k).length = k := by simp [ptsL]
theorem ptsL_bnd (zs : List Int) {w hz : Int} (h1 : 0 < w) (h2 : hz ≤ 8191) (h3 : w - 1 - hz ≤ 8191) (k : Nat) : Bnd (ptsL zs w hz k) := by
  intro r hr
  obtain ⟨j, _, rfl⟩ := List.mem_map.1 hr
  have a := turnZ_le (IntKind.i64.wrap (zs.getD (2 * j) 0 * 31)) (b := w) h1
  have b := turnZ_le (IntKind.i64.wrap (zs.getD (2 * j + 1) 0 * 37)) (b := w) h1
  unfold ptAt
  simp only
  omega

theorem wide_ok (m : Int) (h0 : 0 ≤ m) (h4 : m < 4) : ∃ w hz, indexAddrA ED 22 (.slice [.int .i64 5, .int .i64 11, .int .i64 200, .int .i64 16383] .full) (.int .i64 m) = some (.rptr [.int .i64 w]) ∧ IntKind.i64.wrap (w.tdiv 2) = hz ∧
    0 < w ∧ w ≤ 16383 ∧ 0 ≤ hz ∧ hz ≤ 8191 ∧ w - 1 - hz ≤ 8191 := by
  have : m = 0 ∨ m = 1 ∨ m = 2 ∨ m = 3 := by omega
  rcases this with rfl | rfl | rfl | rfl
  · exact ⟨5, 2, rfl, by decide, by decide, by decide, by decide, by decide, by decide⟩
  · exact ⟨11, 5, rfl, by decide, by decide, by decide, by decide, by decide, by decide⟩
  · exact ⟨200, 100, rfl, by decide, by decide, by decide, by decide, by decide, by decide⟩
  · exact ⟨16383, 8191, rfl, by decide, by decide, by decide, by decide, by decide, by decide⟩

theorem pt_facts {es : List (Int × Int)} (tk : Tk) {p : Nat} (h : p < es.length) (hl : es.length ≤ 1000) : ∃ u1 u2 : Nat, IntKind.i64.wrap (2 * (p : Int)) = (u1 : Int) ∧ IntKind.i64.wrap ((u1 : Int) + 1) = (u2 : Int) ∧
    indexAddrA ED 22 (.slice (ints (flat es)) tk) (.int .i64 (u1 : Int)) = some (.rptr [.int .i64 (es.getD p (0, 0)).1]) ∧ indexAddrA ED 22 (.slice (ints (flat es)) tk) (.int .i64 (u2 : Int)) = some (.rptr [.int .i64 (es.getD p (0, 0)).2]) :=
  ⟨2 * p, 2 * p + 1, wrap2 (by omega), wrap21 (by omega), flat_at0 h rfl, flat_at1 h rfl⟩
theorem take_getD {c : List Nat} {j : Nat} (f : Nat → Int × Int) (h : j < c.length) : (c.take (j + 1)).map f = (c.take j).map f ++ [f (c.getD j 0)] := by
  rw [take_snoc h, List.map_append]
  simp [List.getD_eq_getElem?_getD, h]

theorem law7 : (lawC 7).Ok Tryd.prog ED := by
  refine Con.ok_at ED_ok ED_pers csP csP_ok (fun (x : LawX) hx => ⟨by have := hx.1.pers; show AV.persL [x.v, .int .i64 x.n] = true; simp [AV.persL, AV.pers, this], rfl⟩) ?_
  rintro ⟨l, zs, n⟩ ⟨hl, hlen, hn⟩
  replace hl : IntsD l zs := hl
  replace hlen : zs.length ≤ maxLen := hlen
  replace hn : I64 n := hn
  show ∃ m, ∀ p : FRes → St → Prop, (∀ r S', r.melt S' = .ret (.bool true) → p r S') → GotF (callS ED (sumOf csP) m (.fn 7) [l, .int .i64 n] S0) p
  refine ⟨100, fun p hp => ?_⟩
  rw [callS_fn rfl]
  have d0 := @dr7_0
  have d1 := @dr7_1
  have d2 := @dr7_2
  have d3 := @dr7_3
  have d4 := @dr7_4
  have d5 := @dr7_5
  simp only [drA, drawsOf, Option.getD_some, List.nil_append, List.append_nil, List.getD_cons_zero, List.getD_cons_succ, List.cons_append, Tryd.f7] at d0 d1 d2 d3 d4 d5
  have uT := fun (n : Nat) (a b : Int) (S : St) (h : I64 b) => turn_use (cs := csP) rfl (n := n) (a := a) (b := b) (S := S) h
  have uT4 := fun (m : Nat) (S : St) => uT m n 4 S (by rw [i64_iff]; omega)
  have hm4 := turnZ_le n (b := 4) (by decide)
  obtain ⟨w, hz, hw4, hwz, w0, w1, w2, w3, w4⟩ := wide_ok _ hm4.1 hm4.2
  have uW := fun (m : Nat) (a : Int) (S : St) => uT m a w S (by rw [i64_iff]; omega)
  generalize turnZ n 4 = m4 at *
  simp only [fnA, ED_fn7, fi7, Tryd.f7]
  simp [evalC_seq, evalC_region, runA_cons', runA_consN, runA_consG, guardR_true, guardR_false, guardV_bool, guardV_tup, runA_nil', inFrame, startLoc, startVals, Loc.clear, eff_move, eff_assign, eff_binOp, eff_build, eff_buildSlice, eff_alloc, eff_box, eff_store, eff_load, eff_fieldAddr, eff_field, eff_indexAddr, eff_slice, eff_extract, eff_pick, eff_unOp, eff_convert, eff_makeSlice, eff_makeFunc, eff_makeInterface, eff_nilCheck, eff_panic, eff_len1, eff_max2, eff_min2, eff_append2, eff_callV, stepE_val, contR_ok, contR_pan, outC_ok, outC_pan, thenC_normal, thenC_ret, thenC_exit, thenC_pan, blockC, evalC_ret, evalC_skip, evalC_exit, evalC_block, evalC_scope, evalC_loop, Loc.putO, Loc.put, idx, evO, constV, Loc.get, Vm.look, valO_some, bin_int, intA, evalC_cond, condC_true, condC_false, unwindA, resultsA, resultV, actA, pureA, storeA, loadA, fillE, repElems, TI.zeroV, fieldOf, fieldAddrA, fieldA, elemsA, retE, cells?_put_push, push_at, put_at, cellsOf?, Nat.add_assoc, n_push', n_put', isCell_undef, known_undef, cells_undef, isCell_bool, known_bool, cells_bool, isCell_int, known_int, cells_int, isCell_str, known_str, cells_str, isCell_nilp, known_nilp, cells_nilp, isCell_ptr, known_ptr, cells_ptr, isCell_rptr, known_rptr, cells_rptr, isCell_nils, known_nils, cells_nils, isCell_slice, known_slice, cells_slice, isCell_rsl, known_rsl, cells_rsl, isCell_nilm, known_nilm, cells_nilm, isCell_map, known_map, cells_map, isCell_fn, known_fn, cells_fn, isCell_yld, known_yld, cells_yld, isCell_nilf, known_nilf, cells_nilf, isCell_iface, known_iface, cells_iface, isCell_nili, known_nili, cells_nili, isCell_agg, known_agg, cells_agg, isCell_tup, known_tup, cells_tup, setCells, nowhere, GotF_some, Got_some, int_beq, int_bne]
  have hlz : (zs.length : Int) < 9223372036854775808 := by unfold maxLen at hlen; omega
  have hK : ∃ K, K = min (zs.length / 2) 20 := ⟨_, rfl⟩
  obtain ⟨K, hK⟩ := hK
  have hll := hl.len
  generalize hc : iter _ _ _ _ = c
  obtain ⟨e1, L1, S1, rfl, hq⟩ := loop_of hc
    (fun r L S => ∃ j m sc v1 T1 a7, j + r = K ∧ m = 2 * j ∧ L = vloc [l, .int .i64 n, .bool false, v1, .int .i64 (m : Nat), a7, .undef, .undef, .undef, .undef, .undef, .undef, .undef, .undef, .undef, .undef, .undef, .undef, .undef, .undef, .undef, .undef, .undef] sc ∧
      LiveS S v1 (flat (ptsL zs w hz j)) T1)
    (fun e L S => e = .exit 0 ∧ ∃ m sc v1 T1 a7, L = vloc [l, .int .i64 n, .bool false, v1, m, a7, .undef, .undef, .undef, .undef, .undef, .undef, .undef, .undef, .undef, .undef, .undef, .undef, .undef, .undef, .undef, .undef, .undef] sc ∧
      LiveS S v1 (flat (ptsL zs w hz K)) T1)
    K (by omega)
    (by
      refine ⟨0, 0, _, .slice [] .full, none, _, by simp, rfl, rfl, ⟨.inr rfl, by simp⟩⟩)
    (by
      rintro r L S ⟨j, m, sc, v1, T1, a7, hjk, hm, rfl, g1⟩ q hq1 hq2
      have hlen1 := g1.len
      have hw : IntKind.i64.wrap ((m : Int) + 1) = ((m : Int) + 1) := wrap_id (by omega) (by omega)
      have hw2 : IntKind.i64.wrap ((m : Int) + 2) = ((m : Int) + 2) := wrap_id (by omega) (by omega)
      by_cases hj : j < K
      · have b1 : (m : Int) + 1 < (zs.length : Int) := by omega
        have b2 : (m : Int) < 40 := by omega
        have i1 := hl.index (j := m) (by omega)
        have i2 := hl.index (j := m + 1) (by omega)
        have hcast : ((m + 1 : Nat) : Int) = (m : Int) + 1 := by omega
        rw [hcast] at i2
        have hx : turnZ (IntKind.i64.wrap (zs[m] * 31)) w - hz = (ptAt zs w hz j).1 := by subst hm; simp [ptAt, List.getD_eq_getElem?_getD, show 2 * j < zs.length by omega]
        have hy : turnZ (IntKind.i64.wrap (zs[m + 1]'(by omega) * 37)) w - hz = (ptAt zs w hz j).2 := by subst hm; simp [ptAt, List.getD_eq_getElem?_getD, show 2 * j + 1 < zs.length by omega]
        have tx := turnZ_le (IntKind.i64.wrap (zs[m] * 31)) (b := w) w0
        have ty := turnZ_le (IntKind.i64.wrap (zs[m + 1]'(by omega) * 37)) (b := w) w0
        have uX := fun (k : Nat) (S : St) => uW k (IntKind.i64.wrap (zs[m] * 31)) S
        have uY := fun (k : Nat) (S : St) => uW k (IntKind.i64.wrap (zs[m + 1]'(by omega) * 37)) S
        obtain ⟨v2, Sa, c1, k1, k2, k3⟩ := g1.append [(ptAt zs w hz j).1, (ptAt zs w hz j).2] (by simp) (by simp [ptsL_len]; omega)
        have hfl : flat (ptsL zs w hz (j + 1)) = flat (ptsL zs w hz j) ++ [(ptAt zs w hz j).1, (ptAt zs w hz j).2] := by rw [ptsL_succ, flat_append]; rfl
        rw [← hfl] at k1
        generalize ptAt zs w hz j = pj at *
        generalize zs[m] = a0 at *
        generalize zs[m + 1]'(by omega) = a1 at *
        obtain ⟨zx, hzx⟩ : ∃ zx, IntKind.i64.wrap (a0 * 31) = zx := ⟨_, rfl⟩
        obtain ⟨zy, hzy⟩ : ∃ zy, IntKind.i64.wrap (a1 * 37) = zy := ⟨_, rfl⟩
        rw [hzx] at hx tx uX
        rw [hzy] at hy ty uY
        have wx : IntKind.i64.wrap (turnZ zx w - hz) = pj.1 := by rw [wrap_id (by omega) (by omega)]; exact hx
        have wy : IntKind.i64.wrap (turnZ zy w - hz) = pj.2 := by rw [wrap_id (by omega) (by omega)]; exact hy
        simp only [ints, List.map_cons, List.map_nil] at c1
        simp [evalC_seq, evalC_region, runA_cons', runA_consN, runA_consG, guardR_true, guardR_false, guardV_bool, guardV_tup, runA_nil', inFrame, startLoc, startVals, Loc.clear, eff_move, eff_assign, eff_binOp, eff_build, eff_buildSlice, eff_alloc, eff_box, eff_store, eff_load, eff_fieldAddr, eff_field, eff_indexAddr, eff_slice, eff_extract, eff_pick, eff_unOp, eff_convert, eff_makeSlice, eff_makeFunc, eff_makeInterface, eff_nilCheck, eff_panic, eff_len1, eff_max2, eff_min2, eff_append2, eff_callV, stepE_val, contR_ok, contR_pan, outC_ok, outC_pan, thenC_normal, thenC_ret, thenC_exit, thenC_pan, blockC, evalC_ret, evalC_skip, evalC_exit, evalC_block, evalC_scope, evalC_loop, Loc.putO, Loc.put, idx, evO, constV, Loc.get, Vm.look, valO_some, bin_int, intA, evalC_cond, condC_true, condC_false, unwindA, resultsA, resultV, actA, pureA, storeA, loadA, fillE, repElems, TI.zeroV, fieldOf, fieldAddrA, fieldA, elemsA, retE, cells?_put_push, push_at, put_at, cellsOf?, Nat.add_assoc, n_push', n_put', isCell_undef, known_undef, cells_undef, isCell_bool, known_bool, cells_bool, isCell_int, known_int, cells_int, isCell_str, known_str, cells_str, isCell_nilp, known_nilp, cells_nilp, isCell_ptr, known_ptr, cells_ptr, isCell_rptr, known_rptr, cells_rptr, isCell_nils, known_nils, cells_nils, isCell_slice, known_slice, cells_slice, isCell_rsl, known_rsl, cells_rsl, isCell_nilm, known_nilm, cells_nilm, isCell_map, known_map, cells_map, isCell_fn, known_fn, cells_fn, isCell_yld, known_yld, cells_yld, isCell_nilf, known_nilf, cells_nilf, isCell_iface, known_iface, cells_iface, isCell_nili, known_nili, cells_nili, isCell_agg, known_agg, cells_agg, isCell_tup, known_tup, cells_tup, setCells, nowhere, GotF_some, Got_some, int_beq, int_bne, runC_nil, runC_cons, pickC_some, wantC_tt, wantC_tf, effC_val, ifC_true, checkC, inPairs, keepC, okC, readsC_load, readV_some, AV.beq_self, wantA_n, wantA_g, wantD_some, d0, vloc, hll, hw, hw2, b1, b2, i1, i2, uT4, hw4, hwz, hzx, hzy, uX, uY, wx, wy, c1]
        exact hq1 (r - 1) _ _ (by omega) ⟨j + 1, m + 2, _, v2, _, _, by omega, by omega, rfl, k1⟩
      · have hjl : j = K := by omega
        subst hjl
        rcases Classical.em ((m : Int) + 1 < (zs.length : Int)) with b1 | b1
        · have b2 : ¬ (m : Int) < 40 := by omega
          simp [evalC_seq, evalC_region, runA_cons', runA_consN, runA_consG, guardR_true, guardR_false, guardV_bool, guardV_tup, runA_nil', inFrame, startLoc, startVals, Loc.clear, eff_move, eff_assign, eff_binOp, eff_build, eff_buildSlice, eff_alloc, eff_box, eff_store, eff_load, eff_fieldAddr, eff_field, eff_indexAddr, eff_slice, eff_extract, eff_pick, eff_unOp, eff_convert, eff_makeSlice, eff_makeFunc, eff_makeInterface, eff_nilCheck, eff_panic, eff_len1, eff_max2, eff_min2, eff_append2, eff_callV, stepE_val, contR_ok, contR_pan, outC_ok, outC_pan, thenC_normal, thenC_ret, thenC_exit, thenC_pan, blockC, evalC_ret, evalC_skip, evalC_exit, evalC_block, evalC_scope, evalC_loop, Loc.putO, Loc.put, idx, evO, constV, Loc.get, Vm.look, valO_some, bin_int, intA, evalC_cond, condC_true, condC_false, unwindA, resultsA, resultV, actA, pureA, storeA, loadA, fillE, repElems, TI.zeroV, fieldOf, fieldAddrA, fieldA, elemsA, retE, cells?_put_push, push_at, put_at, cellsOf?, Nat.add_assoc, n_push', n_put', isCell_undef, known_undef, cells_undef, isCell_bool, known_bool, cells_bool, isCell_int, known_int, cells_int, isCell_str, known_str, cells_str, isCell_nilp, known_nilp, cells_nilp, isCell_ptr, known_ptr, cells_ptr, isCell_rptr, known_rptr, cells_rptr, isCell_nils, known_nils, cells_nils, isCell_slice, known_slice, cells_slice, isCell_rsl, known_rsl, cells_rsl, isCell_nilm, known_nilm, cells_nilm, isCell_map, known_map, cells_map, isCell_fn, known_fn, cells_fn, isCell_yld, known_yld, cells_yld, isCell_nilf, known_nilf, cells_nilf, isCell_iface, known_iface, cells_iface, isCell_nili, known_nili, cells_nili, isCell_agg, known_agg, cells_agg, isCell_tup, known_tup, cells_tup, setCells, nowhere, GotF_some, Got_some, int_beq, int_bne, vloc, hll, hw, b1, b2]
          exact hq2 _ _ _ (by simp) ⟨rfl, _, _, v1, T1, _, rfl, g1⟩
        · simp [evalC_seq, evalC_region, runA_cons', runA_consN, runA_consG, guardR_true, guardR_false, guardV_bool, guardV_tup, runA_nil', inFrame, startLoc, startVals, Loc.clear, eff_move, eff_assign, eff_binOp, eff_build, eff_buildSlice, eff_alloc, eff_box, eff_store, eff_load, eff_fieldAddr, eff_field, eff_indexAddr, eff_slice, eff_extract, eff_pick, eff_unOp, eff_convert, eff_makeSlice, eff_makeFunc, eff_makeInterface, eff_nilCheck, eff_panic, eff_len1, eff_max2, eff_min2, eff_append2, eff_callV, stepE_val, contR_ok, contR_pan, outC_ok, outC_pan, thenC_normal, thenC_ret, thenC_exit, thenC_pan, blockC, evalC_ret, evalC_skip, evalC_exit, evalC_block, evalC_scope, evalC_loop, Loc.putO, Loc.put, idx, evO, constV, Loc.get, Vm.look, valO_some, bin_int, intA, evalC_cond, condC_true, condC_false, unwindA, resultsA, resultV, actA, pureA, storeA, loadA, fillE, repElems, TI.zeroV, fieldOf, fieldAddrA, fieldA, elemsA, retE, cells?_put_push, push_at, put_at, cellsOf?, Nat.add_assoc, n_push', n_put', isCell_undef, known_undef, cells_undef, isCell_bool, known_bool, cells_bool, isCell_int, known_int, cells_int, isCell_str, known_str, cells_str, isCell_nilp, known_nilp, cells_nilp, isCell_ptr, known_ptr, cells_ptr, isCell_rptr, known_rptr, cells_rptr, isCell_nils, known_nils, cells_nils, isCell_slice, known_slice, cells_slice, isCell_rsl, known_rsl, cells_rsl, isCell_nilm, known_nilm, cells_nilm, isCell_map, known_map, cells_map, isCell_fn, known_fn, cells_fn, isCell_yld, known_yld, cells_yld, isCell_nilf, known_nilf, cells_nilf, isCell_iface, known_iface, cells_iface, isCell_nili, known_nili, cells_nili, isCell_agg, known_agg, cells_agg, isCell_tup, known_tup, cells_tup, setCells, nowhere, GotF_some, Got_some, int_beq, int_bne, vloc, hll, hw, b1]
          exact hq2 _ _ _ (by simp) ⟨rfl, _, _, v1, T1, _, rfl, g1⟩)
  obtain ⟨rfl, m, sc, v1, T1, a7, rfl, g1⟩ := hq
  obtain ⟨tk1, rfl⟩ := g1.cases
  have hB := ptsL_bnd zs w0 w3 w4 K
  have hEl := ptsL_len zs w hz K
  generalize ptsL zs w hz K = es at *
  have hes : es.length ≤ 20 := by omega
  have hcor := corners_ok hB
  have uQ1 := fun (m : Nat) (S : St) => pairs_use (cs := csP) rfl (n := m) (v := .slice (ints (flat es)) tk1) (es := es) (S := S) (by simp [AV.dead]) (by omega)
  have uD1 := fun (m : Nat) (S : St) => hullD_use (cs := csP) rfl (n := m) (S := S) (l := es) (by omega) hB
  have hcl := hcor.le
  have uL1 := fun (m : Nat) (S : St) => list_use (cs := csP) rfl (n := m) (S := S) (zs := ofN (hullN es)) (by rw [ofN_len]; omega)
  have kA := gv_lst (l := (ofN (hullN es)).map .num)
  have uS := fun (m : Nat) (S : St) => same_use (cs := csP) rfl (n := m) (S := S) (a := ofN (hullN es)) (b := ofN (hullN es)) (by rw [ofN_len]; omega) (by rw [ofN_len]; omega)
  have uG := fun (m : Nat) (S : St) => graphed_use (cs := csP) rfl (n := m) (S := S)
  simp only [nums, GV.enc.eq_3, sv] at uD1 uL1 uS
  simp only [nHull] at uD1
  generalize hXA : lst (GV.encs ((ofN (hullN es)).map .num)) = XA at *
  have hle : lenA ED 22 (.slice (ints (flat es)) tk1) = some (.int .i64 ((2 * es.length : Nat) : Int)) := by rw [len_ints, flat_length]
  have hlA : lenA ED 22 (.slice (ints (ofN (hullN es))) .dead) = some (.int .i64 (hullN es).length) := by rw [len_ints, ofN_len]
  have hMd : IntKind.i64.wrap ((2 * es.length : Nat) / 2 : Int) = (es.length : Int) := by
    have : ((2 * es.length : Nat) / 2 : Int) = (es.length : Int) := by omega
    rw [this]
    exact wrap_id (by omega) (by omega)
  generalize hM : 2 * es.length = M at hle hMd
  have hb1 := cells?_put_push S1 (.cells [.int .i64 0, .int .i64 0, .nils]) [.int .i64 4, .int .i64 0, XA]
  by_cases hes0 : es = []
  · subst hes0
    have hc0 := hcor.nil rfl
    clear hcor hcl
    rw [hc0] at uL1 hlA
    simp at hM
    subst hM
    have ui : ints (flat ([] : List (Int × Int))) = [] := rfl
    have uj : ints (ofN []) = [] := rfl
    simp only [ui] at hle uQ1
    simp only [uj] at hlA uL1
    have uQ2 := fun (m : Nat) (S : St) => pairs_use (cs := csP) rfl (n := m) (v := .slice [] .full) (es := []) (S := S) rfl (by simp)
    have hw0 : IntKind.i64.wrap 0 = 0 := by decide
    have hlB : lenA ED 22 (.slice [] .full) = some (.int .i64 0) := rfl
    have uO : ∀ (m : Nat) (S : St), callS ED (sumOf csP) m (.fn 23) [.slice [] .dead, .int .i64 0] S = some (.ret (.bool true), S) := fun m S => order_use (cs := csP) rfl (n := m) (S := S) (m := 0) (by omega)
    have hb2 := cells?_put_push ((S1.push (.cells [.int .i64 0, .int .i64 0, .nils])).put S1.n (.cells [.int .i64 4, .int .i64 0, XA])) (.cells [.int .i64 0, .int .i64 0, .nils]) [.int .i64 4, .int .i64 0, XA]
    simp only [n_put', n_push'] at hb2
    simp [evalC_seq, evalC_region, runA_cons', runA_consN, runA_consG, guardR_true, guardR_false, guardV_bool, guardV_tup, runA_nil', inFrame, startLoc, startVals, Loc.clear, eff_move, eff_assign, eff_binOp, eff_build, eff_buildSlice, eff_alloc, eff_box, eff_store, eff_load, eff_fieldAddr, eff_field, eff_indexAddr, eff_slice, eff_extract, eff_pick, eff_unOp, eff_convert, eff_makeSlice, eff_makeFunc, eff_makeInterface, eff_nilCheck, eff_panic, eff_len1, eff_max2, eff_min2, eff_append2, eff_callV, stepE_val, contR_ok, contR_pan, outC_ok, outC_pan, thenC_normal, thenC_ret, thenC_exit, thenC_pan, blockC, evalC_ret, evalC_skip, evalC_exit, evalC_block, evalC_scope, evalC_loop, Loc.putO, Loc.put, idx, evO, constV, Loc.get, Vm.look, valO_some, bin_int, intA, evalC_cond, condC_true, condC_false, unwindA, resultsA, resultV, actA, pureA, storeA, loadA, fillE, repElems, TI.zeroV, fieldOf, fieldAddrA, fieldA, elemsA, retE, cells?_put_push, push_at, put_at, cellsOf?, Nat.add_assoc, n_push', n_put', isCell_undef, known_undef, cells_undef, isCell_bool, known_bool, cells_bool, isCell_int, known_int, cells_int, isCell_str, known_str, cells_str, isCell_nilp, known_nilp, cells_nilp, isCell_ptr, known_ptr, cells_ptr, isCell_rptr, known_rptr, cells_rptr, isCell_nils, known_nils, cells_nils, isCell_slice, known_slice, cells_slice, isCell_rsl, known_rsl, cells_rsl, isCell_nilm, known_nilm, cells_nilm, isCell_map, known_map, cells_map, isCell_fn, known_fn, cells_fn, isCell_yld, known_yld, cells_yld, isCell_nilf, known_nilf, cells_nilf, isCell_iface, known_iface, cells_iface, isCell_nili, known_nili, cells_nili, isCell_agg, known_agg, cells_agg, isCell_tup, known_tup, cells_tup, setCells, nowhere, GotF_some, Got_some, int_beq, int_bne, runC_nil, runC_cons, pickC_some, wantC_tt, wantC_tf, effC_val, ifC_true, checkC, inPairs, keepC, okC, readsC_load, readV_some, AV.beq_self, wantA_n, wantA_g, wantD_some, vloc, ui, uj, uQ1, uD1, kA, uL1, hb1, hle, hMd, hlA, neq_bool, hw0]
    generalize hc : iter _ _ _ _ = c9
    rw [iter_succ] at hc
    simp [evalC_seq, evalC_region, runA_cons', runA_consN, runA_consG, guardR_true, guardR_false, guardV_bool, guardV_tup, runA_nil', inFrame, startLoc, startVals, Loc.clear, eff_move, eff_assign, eff_binOp, eff_build, eff_buildSlice, eff_alloc, eff_box, eff_store, eff_load, eff_fieldAddr, eff_field, eff_indexAddr, eff_slice, eff_extract, eff_pick, eff_unOp, eff_convert, eff_makeSlice, eff_makeFunc, eff_makeInterface, eff_nilCheck, eff_panic, eff_len1, eff_max2, eff_min2, eff_append2, eff_callV, stepE_val, contR_ok, contR_pan, outC_ok, outC_pan, thenC_normal, thenC_ret, thenC_exit, thenC_pan, blockC, evalC_ret, evalC_skip, evalC_exit, evalC_block, evalC_scope, evalC_loop, Loc.putO, Loc.put, idx, evO, constV, Loc.get, Vm.look, valO_some, bin_int, intA, evalC_cond, condC_true, condC_false, unwindA, resultsA, resultV, actA, pureA, storeA, loadA, fillE, repElems, TI.zeroV, fieldOf, fieldAddrA, fieldA, elemsA, retE, cells?_put_push, push_at, put_at, cellsOf?, Nat.add_assoc, n_push', n_put', isCell_undef, known_undef, cells_undef, isCell_bool, known_bool, cells_bool, isCell_int, known_int, cells_int, isCell_str, known_str, cells_str, isCell_nilp, known_nilp, cells_nilp, isCell_ptr, known_ptr, cells_ptr, isCell_rptr, known_rptr, cells_rptr, isCell_nils, known_nils, cells_nils, isCell_slice, known_slice, cells_slice, isCell_rsl, known_rsl, cells_rsl, isCell_nilm, known_nilm, cells_nilm, isCell_map, known_map, cells_map, isCell_fn, known_fn, cells_fn, isCell_yld, known_yld, cells_yld, isCell_nilf, known_nilf, cells_nilf, isCell_iface, known_iface, cells_iface, isCell_nili, known_nili, cells_nili, isCell_agg, known_agg, cells_agg, isCell_tup, known_tup, cells_tup, setCells, nowhere, GotF_some, Got_some, int_beq, int_bne, vloc, hlA, hlB] at hc
    subst hc
    simp [evalC_seq, evalC_region, runA_cons', runA_consN, runA_consG, guardR_true, guardR_false, guardV_bool, guardV_tup, runA_nil', inFrame, startLoc, startVals, Loc.clear, eff_move, eff_assign, eff_binOp, eff_build, eff_buildSlice, eff_alloc, eff_box, eff_store, eff_load, eff_fieldAddr, eff_field, eff_indexAddr, eff_slice, eff_extract, eff_pick, eff_unOp, eff_convert, eff_makeSlice, eff_makeFunc, eff_makeInterface, eff_nilCheck, eff_panic, eff_len1, eff_max2, eff_min2, eff_append2, eff_callV, stepE_val, contR_ok, contR_pan, outC_ok, outC_pan, thenC_normal, thenC_ret, thenC_exit, thenC_pan, blockC, evalC_ret, evalC_skip, evalC_exit, evalC_block, evalC_scope, evalC_loop, Loc.putO, Loc.put, idx, evO, constV, Loc.get, Vm.look, valO_some, bin_int, intA, evalC_cond, condC_true, condC_false, unwindA, resultsA, resultV, actA, pureA, storeA, loadA, fillE, repElems, TI.zeroV, fieldOf, fieldAddrA, fieldA, elemsA, retE, cells?_put_push, push_at, put_at, cellsOf?, Nat.add_assoc, n_push', n_put', isCell_undef, known_undef, cells_undef, isCell_bool, known_bool, cells_bool, isCell_int, known_int, cells_int, isCell_str, known_str, cells_str, isCell_nilp, known_nilp, cells_nilp, isCell_ptr, known_ptr, cells_ptr, isCell_rptr, known_rptr, cells_rptr, isCell_nils, known_nils, cells_nils, isCell_slice, known_slice, cells_slice, isCell_rsl, known_rsl, cells_rsl, isCell_nilm, known_nilm, cells_nilm, isCell_map, known_map, cells_map, isCell_fn, known_fn, cells_fn, isCell_yld, known_yld, cells_yld, isCell_nilf, known_nilf, cells_nilf, isCell_iface, known_iface, cells_iface, isCell_nili, known_nili, cells_nili, isCell_agg, known_agg, cells_agg, isCell_tup, known_tup, cells_tup, setCells, nowhere, GotF_some, Got_some, int_beq, int_bne, vloc, uQ2, uD1, kA, uL1, hb2, hlA, hlB, uO, unA, uG]
    generalize hc : iter _ _ _ _ = c9
    rw [iter_succ] at hc
    simp [evalC_seq, evalC_region, runA_cons', runA_consN, runA_consG, guardR_true, guardR_false, guardV_bool, guardV_tup, runA_nil', inFrame, startLoc, startVals, Loc.clear, eff_move, eff_assign, eff_binOp, eff_build, eff_buildSlice, eff_alloc, eff_box, eff_store, eff_load, eff_fieldAddr, eff_field, eff_indexAddr, eff_slice, eff_extract, eff_pick, eff_unOp, eff_convert, eff_makeSlice, eff_makeFunc, eff_makeInterface, eff_nilCheck, eff_panic, eff_len1, eff_max2, eff_min2, eff_append2, eff_callV, stepE_val, contR_ok, contR_pan, outC_ok, outC_pan, thenC_normal, thenC_ret, thenC_exit, thenC_pan, blockC, evalC_ret, evalC_skip, evalC_exit, evalC_block, evalC_scope, evalC_loop, Loc.putO, Loc.put, idx, evO, constV, Loc.get, Vm.look, valO_some, bin_int, intA, evalC_cond, condC_true, condC_false, unwindA, resultsA, resultV, actA, pureA, storeA, loadA, fillE, repElems, TI.zeroV, fieldOf, fieldAddrA, fieldA, elemsA, retE, cells?_put_push, push_at, put_at, cellsOf?, Nat.add_assoc, n_push', n_put', isCell_undef, known_undef, cells_undef, isCell_bool, known_bool, cells_bool, isCell_int, known_int, cells_int, isCell_str, known_str, cells_str, isCell_nilp, known_nilp, cells_nilp, isCell_ptr, known_ptr, cells_ptr, isCell_rptr, known_rptr, cells_rptr, isCell_nils, known_nils, cells_nils, isCell_slice, known_slice, cells_slice, isCell_rsl, known_rsl, cells_rsl, isCell_nilm, known_nilm, cells_nilm, isCell_map, known_map, cells_map, isCell_fn, known_fn, cells_fn, isCell_yld, known_yld, cells_yld, isCell_nilf, known_nilf, cells_nilf, isCell_iface, known_iface, cells_iface, isCell_nili, known_nili, cells_nili, isCell_agg, known_agg, cells_agg, isCell_tup, known_tup, cells_tup, setCells, nowhere, GotF_some, Got_some, int_beq, int_bne, vloc, hlA, hlB] at hc
    subst hc
    simp [evalC_seq, evalC_region, runA_cons', runA_consN, runA_consG, guardR_true, guardR_false, guardV_bool, guardV_tup, runA_nil', inFrame, startLoc, startVals, Loc.clear, eff_move, eff_assign, eff_binOp, eff_build, eff_buildSlice, eff_alloc, eff_box, eff_store, eff_load, eff_fieldAddr, eff_field, eff_indexAddr, eff_slice, eff_extract, eff_pick, eff_unOp, eff_convert, eff_makeSlice, eff_makeFunc, eff_makeInterface, eff_nilCheck, eff_panic, eff_len1, eff_max2, eff_min2, eff_append2, eff_callV, stepE_val, contR_ok, contR_pan, outC_ok, outC_pan, thenC_normal, thenC_ret, thenC_exit, thenC_pan, blockC, evalC_ret, evalC_skip, evalC_exit, evalC_block, evalC_scope, evalC_loop, Loc.putO, Loc.put, idx, evO, constV, Loc.get, Vm.look, valO_some, bin_int, intA, evalC_cond, condC_true, condC_false, unwindA, resultsA, resultV, actA, pureA, storeA, loadA, fillE, repElems, TI.zeroV, fieldOf, fieldAddrA, fieldA, elemsA, retE, cells?_put_push, push_at, put_at, cellsOf?, Nat.add_assoc, n_push', n_put', isCell_undef, known_undef, cells_undef, isCell_bool, known_bool, cells_bool, isCell_int, known_int, cells_int, isCell_str, known_str, cells_str, isCell_nilp, known_nilp, cells_nilp, isCell_ptr, known_ptr, cells_ptr, isCell_rptr, known_rptr, cells_rptr, isCell_nils, known_nils, cells_nils, isCell_slice, known_slice, cells_slice, isCell_rsl, known_rsl, cells_rsl, isCell_nilm, known_nilm, cells_nilm, isCell_map, known_map, cells_map, isCell_fn, known_fn, cells_fn, isCell_yld, known_yld, cells_yld, isCell_nilf, known_nilf, cells_nilf, isCell_iface, known_iface, cells_iface, isCell_nili, known_nili, cells_nili, isCell_agg, known_agg, cells_agg, isCell_tup, known_tup, cells_tup, setCells, nowhere, GotF_some, Got_some, int_beq, int_bne, vloc, uQ2, uD1, kA, uL1, hb2, hlA, hlB, uO, unA, uG]
    generalize hc : iter _ _ _ _ = c9
    rw [iter_succ] at hc
    simp [evalC_seq, evalC_region, runA_cons', runA_consN, runA_consG, guardR_true, guardR_false, guardV_bool, guardV_tup, runA_nil', inFrame, startLoc, startVals, Loc.clear, eff_move, eff_assign, eff_binOp, eff_build, eff_buildSlice, eff_alloc, eff_box, eff_store, eff_load, eff_fieldAddr, eff_field, eff_indexAddr, eff_slice, eff_extract, eff_pick, eff_unOp, eff_convert, eff_makeSlice, eff_makeFunc, eff_makeInterface, eff_nilCheck, eff_panic, eff_len1, eff_max2, eff_min2, eff_append2, eff_callV, stepE_val, contR_ok, contR_pan, outC_ok, outC_pan, thenC_normal, thenC_ret, thenC_exit, thenC_pan, blockC, evalC_ret, evalC_skip, evalC_exit, evalC_block, evalC_scope, evalC_loop, Loc.putO, Loc.put, idx, evO, constV, Loc.get, Vm.look, valO_some, bin_int, intA, evalC_cond, condC_true, condC_false, unwindA, resultsA, resultV, actA, pureA, storeA, loadA, fillE, repElems, TI.zeroV, fieldOf, fieldAddrA, fieldA, elemsA, retE, cells?_put_push, push_at, put_at, cellsOf?, Nat.add_assoc, n_push', n_put', isCell_undef, known_undef, cells_undef, isCell_bool, known_bool, cells_bool, isCell_int, known_int, cells_int, isCell_str, known_str, cells_str, isCell_nilp, known_nilp, cells_nilp, isCell_ptr, known_ptr, cells_ptr, isCell_rptr, known_rptr, cells_rptr, isCell_nils, known_nils, cells_nils, isCell_slice, known_slice, cells_slice, isCell_rsl, known_rsl, cells_rsl, isCell_nilm, known_nilm, cells_nilm, isCell_map, known_map, cells_map, isCell_fn, known_fn, cells_fn, isCell_yld, known_yld, cells_yld, isCell_nilf, known_nilf, cells_nilf, isCell_iface, known_iface, cells_iface, isCell_nili, known_nili, cells_nili, isCell_agg, known_agg, cells_agg, isCell_tup, known_tup, cells_tup, setCells, nowhere, GotF_some, Got_some, int_beq, int_bne, vloc, hlA, hlB] at hc
    subst hc
    simp [evalC_seq, evalC_region, runA_cons', runA_consN, runA_consG, guardR_true, guardR_false, guardV_bool, guardV_tup, runA_nil', inFrame, startLoc, startVals, Loc.clear, eff_move, eff_assign, eff_binOp, eff_build, eff_buildSlice, eff_alloc, eff_box, eff_store, eff_load, eff_fieldAddr, eff_field, eff_indexAddr, eff_slice, eff_extract, eff_pick, eff_unOp, eff_convert, eff_makeSlice, eff_makeFunc, eff_makeInterface, eff_nilCheck, eff_panic, eff_len1, eff_max2, eff_min2, eff_append2, eff_callV, stepE_val, contR_ok, contR_pan, outC_ok, outC_pan, thenC_normal, thenC_ret, thenC_exit, thenC_pan, blockC, evalC_ret, evalC_skip, evalC_exit, evalC_block, evalC_scope, evalC_loop, Loc.putO, Loc.put, idx, evO, constV, Loc.get, Vm.look, valO_some, bin_int, intA, evalC_cond, condC_true, condC_false, unwindA, resultsA, resultV, actA, pureA, storeA, loadA, fillE, repElems, TI.zeroV, fieldOf, fieldAddrA, fieldA, elemsA, retE, cells?_put_push, push_at, put_at, cellsOf?, Nat.add_assoc, n_push', n_put', isCell_undef, known_undef, cells_undef, isCell_bool, known_bool, cells_bool, isCell_int, known_int, cells_int, isCell_str, known_str, cells_str, isCell_nilp, known_nilp, cells_nilp, isCell_ptr, known_ptr, cells_ptr, isCell_rptr, known_rptr, cells_rptr, isCell_nils, known_nils, cells_nils, isCell_slice, known_slice, cells_slice, isCell_rsl, known_rsl, cells_rsl, isCell_nilm, known_nilm, cells_nilm, isCell_map, known_map, cells_map, isCell_fn, known_fn, cells_fn, isCell_yld, known_yld, cells_yld, isCell_nilf, known_nilf, cells_nilf, isCell_iface, known_iface, cells_iface, isCell_nili, known_nili, cells_nili, isCell_agg, known_agg, cells_agg, isCell_tup, known_tup, cells_tup, setCells, nowhere, GotF_some, Got_some, int_beq, int_bne, vloc, uQ2, uD1, kA, uL1, hb2, hlA, hlB, uO, unA, uG]
    generalize hc : iter _ _ _ _ = c9
    rw [iter_succ] at hc
    simp [evalC_seq, evalC_region, runA_cons', runA_consN, runA_consG, guardR_true, guardR_false, guardV_bool, guardV_tup, runA_nil', inFrame, startLoc, startVals, Loc.clear, eff_move, eff_assign, eff_binOp, eff_build, eff_buildSlice, eff_alloc, eff_box, eff_store, eff_load, eff_fieldAddr, eff_field, eff_indexAddr, eff_slice, eff_extract, eff_pick, eff_unOp, eff_convert, eff_makeSlice, eff_makeFunc, eff_makeInterface, eff_nilCheck, eff_panic, eff_len1, eff_max2, eff_min2, eff_append2, eff_callV, stepE_val, contR_ok, contR_pan, outC_ok, outC_pan, thenC_normal, thenC_ret, thenC_exit, thenC_pan, blockC, evalC_ret, evalC_skip, evalC_exit, evalC_block, evalC_scope, evalC_loop, Loc.putO, Loc.put, idx, evO, constV, Loc.get, Vm.look, valO_some, bin_int, intA, evalC_cond, condC_true, condC_false, unwindA, resultsA, resultV, actA, pureA, storeA, loadA, fillE, repElems, TI.zeroV, fieldOf, fieldAddrA, fieldA, elemsA, retE, cells?_put_push, push_at, put_at, cellsOf?, Nat.add_assoc, n_push', n_put', isCell_undef, known_undef, cells_undef, isCell_bool, known_bool, cells_bool, isCell_int, known_int, cells_int, isCell_str, known_str, cells_str, isCell_nilp, known_nilp, cells_nilp, isCell_ptr, known_ptr, cells_ptr, isCell_rptr, known_rptr, cells_rptr, isCell_nils, known_nils, cells_nils, isCell_slice, known_slice, cells_slice, isCell_rsl, known_rsl, cells_rsl, isCell_nilm, known_nilm, cells_nilm, isCell_map, known_map, cells_map, isCell_fn, known_fn, cells_fn, isCell_yld, known_yld, cells_yld, isCell_nilf, known_nilf, cells_nilf, isCell_iface, known_iface, cells_iface, isCell_nili, known_nili, cells_nili, isCell_agg, known_agg, cells_agg, isCell_tup, known_tup, cells_tup, setCells, nowhere, GotF_some, Got_some, int_beq, int_bne, vloc, hlA, hlB] at hc
    subst hc
    simp [evalC_seq, evalC_region, runA_cons', runA_consN, runA_consG, guardR_true, guardR_false, guardV_bool, guardV_tup, runA_nil', inFrame, startLoc, startVals, Loc.clear, eff_move, eff_assign, eff_binOp, eff_build, eff_buildSlice, eff_alloc, eff_box, eff_store, eff_load, eff_fieldAddr, eff_field, eff_indexAddr, eff_slice, eff_extract, eff_pick, eff_unOp, eff_convert, eff_makeSlice, eff_makeFunc, eff_makeInterface, eff_nilCheck, eff_panic, eff_len1, eff_max2, eff_min2, eff_append2, eff_callV, stepE_val, contR_ok, contR_pan, outC_ok, outC_pan, thenC_normal, thenC_ret, thenC_exit, thenC_pan, blockC, evalC_ret, evalC_skip, evalC_exit, evalC_block, evalC_scope, evalC_loop, Loc.putO, Loc.put, idx, evO, constV, Loc.get, Vm.look, valO_some, bin_int, intA, evalC_cond, condC_true, condC_false, unwindA, resultsA, resultV, actA, pureA, storeA, loadA, fillE, repElems, TI.zeroV, fieldOf, fieldAddrA, fieldA, elemsA, retE, cells?_put_push, push_at, put_at, cellsOf?, Nat.add_assoc, n_push', n_put', isCell_undef, known_undef, cells_undef, isCell_bool, known_bool, cells_bool, isCell_int, known_int, cells_int, isCell_str, known_str, cells_str, isCell_nilp, known_nilp, cells_nilp, isCell_ptr, known_ptr, cells_ptr, isCell_rptr, known_rptr, cells_rptr, isCell_nils, known_nils, cells_nils, isCell_slice, known_slice, cells_slice, isCell_rsl, known_rsl, cells_rsl, isCell_nilm, known_nilm, cells_nilm, isCell_map, known_map, cells_map, isCell_fn, known_fn, cells_fn, isCell_yld, known_yld, cells_yld, isCell_nilf, known_nilf, cells_nilf, isCell_iface, known_iface, cells_iface, isCell_nili, known_nili, cells_nili, isCell_agg, known_agg, cells_agg, isCell_tup, known_tup, cells_tup, setCells, nowhere, GotF_some, Got_some, int_beq, int_bne, vloc, uQ2, uD1, kA, uL1, hb2, hlA, hlB, uO, unA, uG]
    exact hp _ _ rfl
  have hN0 : 0 < es.length := List.length_pos_iff.2 hes0
  have hC0 := hcor.pos hes0
  have hcm := hcor.more
  have hca := hcor.again
  have c1 := hcor.lt
  have c2 := hcor.right
  have c3 := hcor.first
  have c4 := hcor.strict
  have c5 := hcor.least
  clear hcor
  have hN0' : ¬ es.length = 0 := by omega
  have hC0' : ¬ (hullN es).length = 0 := by omega
  have hCN : ¬ (es.length : Int) < ((hullN es).length : Int) := by omega
  have hCi : ∀ j, j < (hullN es).length → indexAddrA ED 22 (.slice (ints (ofN (hullN es))) .dead) (.int .i64 (j : Nat)) = some (.rptr [.int .i64 ((hullN es).getD j 0 : Nat)]) := by
    intro j hj
    rw [index_ints (by omega) (by simp [ofN]; exact hj)]
    simp [ofN, List.getD_eq_getElem?_getD, hj]
  simp [evalC_seq, evalC_region, runA_cons', runA_consN, runA_consG, guardR_true, guardR_false, guardV_bool, guardV_tup, runA_nil', inFrame, startLoc, startVals, Loc.clear, eff_move, eff_assign, eff_binOp, eff_build, eff_buildSlice, eff_alloc, eff_box, eff_store, eff_load, eff_fieldAddr, eff_field, eff_indexAddr, eff_slice, eff_extract, eff_pick, eff_unOp, eff_convert, eff_makeSlice, eff_makeFunc, eff_makeInterface, eff_nilCheck, eff_panic, eff_len1, eff_max2, eff_min2, eff_append2, eff_callV, stepE_val, contR_ok, contR_pan, outC_ok, outC_pan, thenC_normal, thenC_ret, thenC_exit, thenC_pan, blockC, evalC_ret, evalC_skip, evalC_exit, evalC_block, evalC_scope, evalC_loop, Loc.putO, Loc.put, idx, evO, constV, Loc.get, Vm.look, valO_some, bin_int, intA, evalC_cond, condC_true, condC_false, unwindA, resultsA, resultV, actA, pureA, storeA, loadA, fillE, repElems, TI.zeroV, fieldOf, fieldAddrA, fieldA, elemsA, retE, cells?_put_push, push_at, put_at, cellsOf?, Nat.add_assoc, n_push', n_put', isCell_undef, known_undef, cells_undef, isCell_bool, known_bool, cells_bool, isCell_int, known_int, cells_int, isCell_str, known_str, cells_str, isCell_nilp, known_nilp, cells_nilp, isCell_ptr, known_ptr, cells_ptr, isCell_rptr, known_rptr, cells_rptr, isCell_nils, known_nils, cells_nils, isCell_slice, known_slice, cells_slice, isCell_rsl, known_rsl, cells_rsl, isCell_nilm, known_nilm, cells_nilm, isCell_map, known_map, cells_map, isCell_fn, known_fn, cells_fn, isCell_yld, known_yld, cells_yld, isCell_nilf, known_nilf, cells_nilf, isCell_iface, known_iface, cells_iface, isCell_nili, known_nili, cells_nili, isCell_agg, known_agg, cells_agg, isCell_tup, known_tup, cells_tup, setCells, nowhere, GotF_some, Got_some, int_beq, int_bne, runC_nil, runC_cons, pickC_some, wantC_tt, wantC_tf, effC_val, ifC_true, checkC, inPairs, keepC, okC, readsC_load, readV_some, AV.beq_self, wantA_n, wantA_g, wantD_some, vloc, uQ1, uD1, kA, uL1, hb1, hle, hMd, hlA, neq_bool, hN0', hC0', hCN]
  have uY := fun (n : Nat) (a b c : Int) (S : St) => lies_use (cs := csP) rfl (n := n) (a := a) (b := b) (c := c) (S := S)
  have uP := fun (k : Nat) (S : St) (p q r : Nat) (h1 : p < es.length) (h2 : q < es.length) (h3 : r < es.length) => turnP_use (cs := csP) rfl (n := k) (tk := tk1) (S := S) (show es.length ≤ 1000 by omega) hB h1 h2 h3
  have hpf := fun (p : Nat) (h : p < es.length) => pt_facts tk1 h (by omega)
  have hwN : IntKind.i64.wrap ((es.length : Int) - 1) = ((es.length : Int) - 1) := wrap_id (by omega) (by omega)
  generalize hcc : hullN es = c at *
  generalize hc : iter _ _ _ _ = c9
  obtain ⟨e1, L1, S2, rfl, hq⟩ := loop_of hc
    (fun r L S => ∃ j v2 T2 sc, j + r = c.length ∧ L = vloc [l, .int .i64 n, .bool false, .slice (ints (flat es)) tk1, m, a7, .ptr S1.n 0, .int .i64 0, .slice (ints (ofN c)) .dead, .int .i64 es.length, v2, .int .i64 (j : Nat), .undef, .undef, .undef, .undef, .undef, .undef, .undef, .undef, .undef, .undef, .undef] sc ∧
      LiveS S v2 (flat ((c.take j).map fun j => es.getD j (0, 0))) T2 ∧ S.cells? S1.n = some [.int .i64 4, .int .i64 0, XA])
    (fun e L S => e = .exit 2 ∧ ∃ v2 T2 a13 sc, L = vloc [l, .int .i64 n, .bool false, .slice (ints (flat es)) tk1, m, a7, .ptr S1.n 0, .int .i64 0, .slice (ints (ofN c)) .dead, .int .i64 es.length, v2, a13, .undef, .undef, .undef, .undef, .undef, .undef, .undef, .undef, .undef, .undef, .undef] sc ∧
      LiveS S v2 (flat (c.map fun j => es.getD j (0, 0))) T2 ∧ S.cells? S1.n = some [.int .i64 4, .int .i64 0, XA])
    c.length (by omega)
    ⟨0, .slice [] .full, none, _, by simp, rfl, ⟨.inr rfl, by simp⟩, hb1⟩
    (by
      rintro r L S ⟨j, v2, T2, sc, hjk, rfl, g1, g2⟩ q hq1 hq2
      by_cases hj : j < c.length
      · have hw : IntKind.i64.wrap ((j : Int) + 1) = ((j : Int) + 1) := wrap_id (by omega) (by omega)
        have cl := c1 j hj
        have ci := hCi j hj
        obtain ⟨u1, u2, f1, f2, f3, f4⟩ := hpf _ cl
        have ht := take_getD (fun j => es.getD j (0, 0)) hj
        obtain ⟨v3, Sa, k0, k1, k2, k3⟩ := g1.append [(es.getD (c.getD j 0) (0, 0)).1, (es.getD (c.getD j 0) (0, 0)).2] (by simp) (by simp; omega)
        have hfl : flat ((c.take (j + 1)).map fun j => es.getD j (0, 0)) = flat ((c.take j).map fun j => es.getD j (0, 0)) ++ [(es.getD (c.getD j 0) (0, 0)).1, (es.getD (c.getD j 0) (0, 0)).2] := by rw [ht, flat_append]; rfl
        rw [← hfl] at k1
        have k4 := k3.cells _ _ g2
        generalize c.getD j 0 = cj at *
        generalize es.getD cj (0, 0) = x at *
        have x7 : (cj : Int) ≤ (es.length : Int) - 1 := by omega
        simp only [ints, List.map_cons, List.map_nil] at k0
        simp [evalC_seq, evalC_region, runA_cons', runA_consN, runA_consG, guardR_true, guardR_false, guardV_bool, guardV_tup, runA_nil', inFrame, startLoc, startVals, Loc.clear, eff_move, eff_assign, eff_binOp, eff_build, eff_buildSlice, eff_alloc, eff_box, eff_store, eff_load, eff_fieldAddr, eff_field, eff_indexAddr, eff_slice, eff_extract, eff_pick, eff_unOp, eff_convert, eff_makeSlice, eff_makeFunc, eff_makeInterface, eff_nilCheck, eff_panic, eff_len1, eff_max2, eff_min2, eff_append2, eff_callV, stepE_val, contR_ok, contR_pan, outC_ok, outC_pan, thenC_normal, thenC_ret, thenC_exit, thenC_pan, blockC, evalC_ret, evalC_skip, evalC_exit, evalC_block, evalC_scope, evalC_loop, Loc.putO, Loc.put, idx, evO, constV, Loc.get, Vm.look, valO_some, bin_int, intA, evalC_cond, condC_true, condC_false, unwindA, resultsA, resultV, actA, pureA, storeA, loadA, fillE, repElems, TI.zeroV, fieldOf, fieldAddrA, fieldA, elemsA, retE, cells?_put_push, push_at, put_at, cellsOf?, Nat.add_assoc, n_push', n_put', isCell_undef, known_undef, cells_undef, isCell_bool, known_bool, cells_bool, isCell_int, known_int, cells_int, isCell_str, known_str, cells_str, isCell_nilp, known_nilp, cells_nilp, isCell_ptr, known_ptr, cells_ptr, isCell_rptr, known_rptr, cells_rptr, isCell_nils, known_nils, cells_nils, isCell_slice, known_slice, cells_slice, isCell_rsl, known_rsl, cells_rsl, isCell_nilm, known_nilm, cells_nilm, isCell_map, known_map, cells_map, isCell_fn, known_fn, cells_fn, isCell_yld, known_yld, cells_yld, isCell_nilf, known_nilf, cells_nilf, isCell_iface, known_iface, cells_iface, isCell_nili, known_nili, cells_nili, isCell_agg, known_agg, cells_agg, isCell_tup, known_tup, cells_tup, setCells, nowhere, GotF_some, Got_some, int_beq, int_bne, runC_nil, runC_cons, pickC_some, wantC_tt, wantC_tf, effC_val, ifC_true, checkC, inPairs, keepC, okC, readsC_load, readV_some, AV.beq_self, wantA_n, wantA_g, wantD_some, d1, vloc, hlA, hj, ci, uY, hwN, x7, unA, f1, f2, f3, f4, k0, hw]
        exact hq1 (r - 1) _ _ (by omega) ⟨j + 1, v3, _, _, by omega, rfl, k1, k4⟩
      · have hjl : j = c.length := by omega
        subst hjl
        rw [List.take_length] at g1
        simp [evalC_seq, evalC_region, runA_cons', runA_consN, runA_consG, guardR_true, guardR_false, guardV_bool, guardV_tup, runA_nil', inFrame, startLoc, startVals, Loc.clear, eff_move, eff_assign, eff_binOp, eff_build, eff_buildSlice, eff_alloc, eff_box, eff_store, eff_load, eff_fieldAddr, eff_field, eff_indexAddr, eff_slice, eff_extract, eff_pick, eff_unOp, eff_convert, eff_makeSlice, eff_makeFunc, eff_makeInterface, eff_nilCheck, eff_panic, eff_len1, eff_max2, eff_min2, eff_append2, eff_callV, stepE_val, contR_ok, contR_pan, outC_ok, outC_pan, thenC_normal, thenC_ret, thenC_exit, thenC_pan, blockC, evalC_ret, evalC_skip, evalC_exit, evalC_block, evalC_scope, evalC_loop, Loc.putO, Loc.put, idx, evO, constV, Loc.get, Vm.look, valO_some, bin_int, intA, evalC_cond, condC_true, condC_false, unwindA, resultsA, resultV, actA, pureA, storeA, loadA, fillE, repElems, TI.zeroV, fieldOf, fieldAddrA, fieldA, elemsA, retE, cells?_put_push, push_at, put_at, cellsOf?, Nat.add_assoc, n_push', n_put', isCell_undef, known_undef, cells_undef, isCell_bool, known_bool, cells_bool, isCell_int, known_int, cells_int, isCell_str, known_str, cells_str, isCell_nilp, known_nilp, cells_nilp, isCell_ptr, known_ptr, cells_ptr, isCell_rptr, known_rptr, cells_rptr, isCell_nils, known_nils, cells_nils, isCell_slice, known_slice, cells_slice, isCell_rsl, known_rsl, cells_rsl, isCell_nilm, known_nilm, cells_nilm, isCell_map, known_map, cells_map, isCell_fn, known_fn, cells_fn, isCell_yld, known_yld, cells_yld, isCell_nilf, known_nilf, cells_nilf, isCell_iface, known_iface, cells_iface, isCell_nili, known_nili, cells_nili, isCell_agg, known_agg, cells_agg, isCell_tup, known_tup, cells_tup, setCells, nowhere, GotF_some, Got_some, int_beq, int_bne, vloc, hlA]
        exact hq2 _ _ _ (by simp) ⟨rfl, v2, T2, _, _, rfl, g1, g2⟩)
  obtain ⟨rfl, v2, T2, a13, sc, rfl, g2, hb1'⟩ := hq
  obtain ⟨tk2, rfl⟩ := g2.cases
  have hBc : Bnd (c.map fun j => es.getD j (0, 0)) := by
    intro r hr
    obtain ⟨j, hj, rfl⟩ := List.mem_map.1 hr
    obtain ⟨i, hi, rfl⟩ := List.getElem_of_mem hj
    have := c1 i hi
    simp only [List.getD_eq_getElem?_getD, List.getElem?_eq_getElem hi, Option.getD_some] at this ⊢
    rw [List.getElem?_eq_getElem this]
    exact hB _ (List.getElem_mem this)
  have hCl : (c.map fun j => es.getD j (0, 0)).length = c.length := by simp
  have uQ2 := fun (m : Nat) (S : St) => pairs_use (cs := csP) rfl (n := m) (v := .slice (ints (flat (c.map fun j => es.getD j (0, 0)))) tk2) (es := c.map fun j => es.getD j (0, 0)) (S := S) (by simp [AV.dead]) (by omega)
  have uD2 := fun (m : Nat) (S : St) => hullD_use (cs := csP) rfl (n := m) (S := S) (l := c.map fun j => es.getD j (0, 0)) (by omega) hBc
  rw [hca] at uD2
  clear g2 hb1 hca
  generalize (c.map fun j => es.getD j (0, 0)) = cs at *
  simp [evalC_seq, evalC_region, runA_cons', runA_consN, runA_consG, guardR_true, guardR_false, guardV_bool, guardV_tup, runA_nil', inFrame, startLoc, startVals, Loc.clear, eff_move, eff_assign, eff_binOp, eff_build, eff_buildSlice, eff_alloc, eff_box, eff_store, eff_load, eff_fieldAddr, eff_field, eff_indexAddr, eff_slice, eff_extract, eff_pick, eff_unOp, eff_convert, eff_makeSlice, eff_makeFunc, eff_makeInterface, eff_nilCheck, eff_panic, eff_len1, eff_max2, eff_min2, eff_append2, eff_callV, stepE_val, contR_ok, contR_pan, outC_ok, outC_pan, thenC_normal, thenC_ret, thenC_exit, thenC_pan, blockC, evalC_ret, evalC_skip, evalC_exit, evalC_block, evalC_scope, evalC_loop, Loc.putO, Loc.put, idx, evO, constV, Loc.get, Vm.look, valO_some, bin_int, intA, evalC_cond, condC_true, condC_false, unwindA, resultsA, resultV, actA, pureA, storeA, loadA, fillE, repElems, TI.zeroV, fieldOf, fieldAddrA, fieldA, elemsA, retE, cells?_put_push, push_at, put_at, cellsOf?, Nat.add_assoc, n_push', n_put', isCell_undef, known_undef, cells_undef, isCell_bool, known_bool, cells_bool, isCell_int, known_int, cells_int, isCell_str, known_str, cells_str, isCell_nilp, known_nilp, cells_nilp, isCell_ptr, known_ptr, cells_ptr, isCell_rptr, known_rptr, cells_rptr, isCell_nils, known_nils, cells_nils, isCell_slice, known_slice, cells_slice, isCell_rsl, known_rsl, cells_rsl, isCell_nilm, known_nilm, cells_nilm, isCell_map, known_map, cells_map, isCell_fn, known_fn, cells_fn, isCell_yld, known_yld, cells_yld, isCell_nilf, known_nilf, cells_nilf, isCell_iface, known_iface, cells_iface, isCell_nili, known_nili, cells_nili, isCell_agg, known_agg, cells_agg, isCell_tup, known_tup, cells_tup, setCells, nowhere, GotF_some, Got_some, int_beq, int_bne, vloc]
  generalize hc : iter _ _ _ _ = c9
  obtain ⟨e1, L1, S3, rfl, hq⟩ := loop_of hc
    (fun r L S => ∃ j a15 a16 a17 a18 sc, j + r = c.length ∧ S2 = S ∧ L = vloc [l, .int .i64 n, .bool false, .slice (ints (flat es)) tk1, m, a7, .ptr S1.n 0, .int .i64 0, .slice (ints (ofN c)) .dead, .int .i64 es.length, .slice (ints (flat cs)) tk2, a13, .int .i64 (j : Nat), a15, a16, a17, a18, .undef, .undef, .undef, .undef, .undef, .undef] sc)
    (fun e L S => e = .exit 4 ∧ ∃ a14 a15 a16 a17 a18 sc, S2 = S ∧ L = vloc [l, .int .i64 n, .bool false, .slice (ints (flat es)) tk1, m, a7, .ptr S1.n 0, .int .i64 0, .slice (ints (ofN c)) .dead, .int .i64 es.length, .slice (ints (flat cs)) tk2, a13, a14, a15, a16, a17, a18, .undef, .undef, .undef, .undef, .undef, .undef] sc)
    c.length (by omega)
    ⟨0, _, _, _, _, _, by simp, rfl, rfl⟩
    (by
      rintro r L S ⟨j, a15, a16, a17, a18, sc, hjk, rfl, rfl⟩ q hq1 hq2
      by_cases hj : j < c.length
      · by_cases h1 : 1 < c.length
        · have hw : IntKind.i64.wrap ((j : Int) + 1) = ((j : Int) + 1) := wrap_id (by omega) (by omega)
          have hw2 : IntKind.i64.wrap ((j : Int) + 2) = ((j : Int) + 2) := wrap_id (by omega) (by omega)
          have l0 := c1 j hj
          have l1 := c1 _ (Nat.mod_lt (j + 1) hC0)
          have l2 := c1 _ (Nat.mod_lt (j + 2) hC0)
          have i0 := hCi j hj
          have i1 := hCi _ (Nat.mod_lt (j + 1) hC0)
          have i2 := hCi _ (Nat.mod_lt (j + 2) hC0)
          have t1 : ((j : Int) + 1).tmod (c.length : Int) = (((j + 1) % c.length : Nat) : Int) := by
            rw [Int.tmod_eq_emod_of_nonneg (by omega)]; rfl
          have t2 : ((j : Int) + 2).tmod (c.length : Int) = (((j + 2) % c.length : Nat) : Int) := by
            rw [Int.tmod_eq_emod_of_nonneg (by omega)]; rfl
          have hright := c2 h1 j hj
          have hfirst := c3 j hj
          have hstrict := fun h => c4 h j hj
          generalize (j + 1) % c.length = q1 at *
          generalize (j + 2) % c.length = q2 at *
          generalize c.getD j 0 = P0 at *
          generalize c.getD q1 0 = P1 at *
          generalize c.getD q2 0 = P2 at *
          have h1i : 1 < (c.length : Int) := by omega
          have hne : ¬ (c.length : Int) = 0 := by omega
          simp [evalC_seq, evalC_region, runA_cons', runA_consN, runA_consG, guardR_true, guardR_false, guardV_bool, guardV_tup, runA_nil', inFrame, startLoc, startVals, Loc.clear, eff_move, eff_assign, eff_binOp, eff_build, eff_buildSlice, eff_alloc, eff_box, eff_store, eff_load, eff_fieldAddr, eff_field, eff_indexAddr, eff_slice, eff_extract, eff_pick, eff_unOp, eff_convert, eff_makeSlice, eff_makeFunc, eff_makeInterface, eff_nilCheck, eff_panic, eff_len1, eff_max2, eff_min2, eff_append2, eff_callV, stepE_val, contR_ok, contR_pan, outC_ok, outC_pan, thenC_normal, thenC_ret, thenC_exit, thenC_pan, blockC, evalC_ret, evalC_skip, evalC_exit, evalC_block, evalC_scope, evalC_loop, Loc.putO, Loc.put, idx, evO, constV, Loc.get, Vm.look, valO_some, bin_int, intA, evalC_cond, condC_true, condC_false, unwindA, resultsA, resultV, actA, pureA, storeA, loadA, fillE, repElems, TI.zeroV, fieldOf, fieldAddrA, fieldA, elemsA, retE, cells?_put_push, push_at, put_at, cellsOf?, Nat.add_assoc, n_push', n_put', isCell_undef, known_undef, cells_undef, isCell_bool, known_bool, cells_bool, isCell_int, known_int, cells_int, isCell_str, known_str, cells_str, isCell_nilp, known_nilp, cells_nilp, isCell_ptr, known_ptr, cells_ptr, isCell_rptr, known_rptr, cells_rptr, isCell_nils, known_nils, cells_nils, isCell_slice, known_slice, cells_slice, isCell_rsl, known_rsl, cells_rsl, isCell_nilm, known_nilm, cells_nilm, isCell_map, known_map, cells_map, isCell_fn, known_fn, cells_fn, isCell_yld, known_yld, cells_yld, isCell_nilf, known_nilf, cells_nilf, isCell_iface, known_iface, cells_iface, isCell_nili, known_nili, cells_nili, isCell_agg, known_agg, cells_agg, isCell_tup, known_tup, cells_tup, setCells, nowhere, GotF_some, Got_some, int_beq, int_bne, runC_nil, runC_cons, pickC_some, wantC_tt, wantC_tf, effC_val, ifC_true, checkC, inPairs, keepC, okC, readsC_load, readV_some, AV.beq_self, wantA_n, wantA_g, wantD_some, d2, vloc, hlA, hj, h1, h1i, i0, i1, i2, t1, t2, hw, hw2, hC0']
          generalize hc2 : iter _ _ _ _ = cc
          obtain ⟨e2, L2, S3, rfl, hq'⟩ := loop_of hc2
            (fun r2 L S => ∃ k sc, k + r2 = es.length ∧ S2 = S ∧ L = vloc [l, .int .i64 n, .bool false, .slice (ints (flat es)) tk1, m, a7, .ptr S1.n 0, .int .i64 0, .slice (ints (ofN c)) .dead, .int .i64 es.length, .slice (ints (flat cs)) tk2, a13, .int .i64 (j : Nat), .int .i64 P0, .int .i64 P1, .int .i64 P2, .int .i64 (k : Nat), .undef, .undef, .undef, .undef, .undef, .undef] sc)
            (fun e L S => e = .exit 6 ∧ ∃ a18 sc, S2 = S ∧ L = vloc [l, .int .i64 n, .bool false, .slice (ints (flat es)) tk1, m, a7, .ptr S1.n 0, .int .i64 0, .slice (ints (ofN c)) .dead, .int .i64 es.length, .slice (ints (flat cs)) tk2, a13, .int .i64 (j : Nat), .int .i64 P0, .int .i64 P1, .int .i64 P2, a18, .undef, .undef, .undef, .undef, .undef, .undef] sc)
            es.length (by omega)
            ⟨0, _, by simp, rfl, rfl⟩
            (by
              rintro r2 L S ⟨k, sc, hkk, rfl, rfl⟩ q' hq1' hq2'
              by_cases hk : k < es.length
              · have hwk : IntKind.i64.wrap ((k : Int) + 1) = ((k : Int) + 1) := wrap_id (by omega) (by omega)
                have uP1 := fun (n : Nat) (S : St) => uP n S P0 P1 k l0 l1 hk
                have hg := hright k hk
                have hg' : ¬ rgt (es.getD P0 (0, 0)) (es.getD P1 (0, 0)) (es.getD k (0, 0)) < 0 := by omega
                generalize rgt (es.getD P0 (0, 0)) (es.getD P1 (0, 0)) (es.getD k (0, 0)) = g at *
                by_cases hkP : k < P0
                · obtain ⟨u1, u2, f1, f2, f3, f4⟩ := hpf _ hk
                  obtain ⟨u3, u4, f5, f6, f7, f8⟩ := hpf _ l0
                  have hne := hfirst k hkP
                  generalize es.getD k (0, 0) = xk at *
                  generalize es.getD P0 (0, 0) = xp at *
                  obtain ⟨xk1, xk2⟩ := xk
                  obtain ⟨xp1, xp2⟩ := xp
                  simp only at f3 f4 f7 f8
                  by_cases e1 : xk1 = xp1
                  · have e2 : ¬ xk2 = xp2 := fun h => hne (Prod.ext e1 h)
                    simp [evalC_seq, evalC_region, runA_cons', runA_consN, runA_consG, guardR_true, guardR_false, guardV_bool, guardV_tup, runA_nil', inFrame, startLoc, startVals, Loc.clear, eff_move, eff_assign, eff_binOp, eff_build, eff_buildSlice, eff_alloc, eff_box, eff_store, eff_load, eff_fieldAddr, eff_field, eff_indexAddr, eff_slice, eff_extract, eff_pick, eff_unOp, eff_convert, eff_makeSlice, eff_makeFunc, eff_makeInterface, eff_nilCheck, eff_panic, eff_len1, eff_max2, eff_min2, eff_append2, eff_callV, stepE_val, contR_ok, contR_pan, outC_ok, outC_pan, thenC_normal, thenC_ret, thenC_exit, thenC_pan, blockC, evalC_ret, evalC_skip, evalC_exit, evalC_block, evalC_scope, evalC_loop, Loc.putO, Loc.put, idx, evO, constV, Loc.get, Vm.look, valO_some, bin_int, intA, evalC_cond, condC_true, condC_false, unwindA, resultsA, resultV, actA, pureA, storeA, loadA, fillE, repElems, TI.zeroV, fieldOf, fieldAddrA, fieldA, elemsA, retE, cells?_put_push, push_at, put_at, cellsOf?, Nat.add_assoc, n_push', n_put', isCell_undef, known_undef, cells_undef, isCell_bool, known_bool, cells_bool, isCell_int, known_int, cells_int, isCell_str, known_str, cells_str, isCell_nilp, known_nilp, cells_nilp, isCell_ptr, known_ptr, cells_ptr, isCell_rptr, known_rptr, cells_rptr, isCell_nils, known_nils, cells_nils, isCell_slice, known_slice, cells_slice, isCell_rsl, known_rsl, cells_rsl, isCell_nilm, known_nilm, cells_nilm, isCell_map, known_map, cells_map, isCell_fn, known_fn, cells_fn, isCell_yld, known_yld, cells_yld, isCell_nilf, known_nilf, cells_nilf, isCell_iface, known_iface, cells_iface, isCell_nili, known_nili, cells_nili, isCell_agg, known_agg, cells_agg, isCell_tup, known_tup, cells_tup, setCells, nowhere, GotF_some, Got_some, int_beq, int_bne, runC_nil, runC_cons, pickC_some, wantC_tt, wantC_tf, effC_val, ifC_true, checkC, inPairs, keepC, okC, readsC_load, readV_some, AV.beq_self, wantA_n, wantA_g, wantD_some, d3, vloc, hk, uP1, hg', hkP, f1, f2, f3, f4, f5, f6, f7, f8, e1, e2, hwk]
                    exact hq1' (r2 - 1) _ _ (by omega) ⟨k + 1, _, by omega, rfl, rfl⟩
                  · simp [evalC_seq, evalC_region, runA_cons', runA_consN, runA_consG, guardR_true, guardR_false, guardV_bool, guardV_tup, runA_nil', inFrame, startLoc, startVals, Loc.clear, eff_move, eff_assign, eff_binOp, eff_build, eff_buildSlice, eff_alloc, eff_box, eff_store, eff_load, eff_fieldAddr, eff_field, eff_indexAddr, eff_slice, eff_extract, eff_pick, eff_unOp, eff_convert, eff_makeSlice, eff_makeFunc, eff_makeInterface, eff_nilCheck, eff_panic, eff_len1, eff_max2, eff_min2, eff_append2, eff_callV, stepE_val, contR_ok, contR_pan, outC_ok, outC_pan, thenC_normal, thenC_ret, thenC_exit, thenC_pan, blockC, evalC_ret, evalC_skip, evalC_exit, evalC_block, evalC_scope, evalC_loop, Loc.putO, Loc.put, idx, evO, constV, Loc.get, Vm.look, valO_some, bin_int, intA, evalC_cond, condC_true, condC_false, unwindA, resultsA, resultV, actA, pureA, storeA, loadA, fillE, repElems, TI.zeroV, fieldOf, fieldAddrA, fieldA, elemsA, retE, cells?_put_push, push_at, put_at, cellsOf?, Nat.add_assoc, n_push', n_put', isCell_undef, known_undef, cells_undef, isCell_bool, known_bool, cells_bool, isCell_int, known_int, cells_int, isCell_str, known_str, cells_str, isCell_nilp, known_nilp, cells_nilp, isCell_ptr, known_ptr, cells_ptr, isCell_rptr, known_rptr, cells_rptr, isCell_nils, known_nils, cells_nils, isCell_slice, known_slice, cells_slice, isCell_rsl, known_rsl, cells_rsl, isCell_nilm, known_nilm, cells_nilm, isCell_map, known_map, cells_map, isCell_fn, known_fn, cells_fn, isCell_yld, known_yld, cells_yld, isCell_nilf, known_nilf, cells_nilf, isCell_iface, known_iface, cells_iface, isCell_nili, known_nili, cells_nili, isCell_agg, known_agg, cells_agg, isCell_tup, known_tup, cells_tup, setCells, nowhere, GotF_some, Got_some, int_beq, int_bne, runC_nil, runC_cons, pickC_some, wantC_tt, wantC_tf, effC_val, ifC_true, checkC, inPairs, keepC, okC, readsC_load, readV_some, AV.beq_self, wantA_n, wantA_g, wantD_some, d3, vloc, hk, uP1, hg', hkP, f1, f2, f3, f4, f5, f6, f7, f8, e1, hwk]
                    exact hq1' (r2 - 1) _ _ (by omega) ⟨k + 1, _, by omega, rfl, rfl⟩
                · simp [evalC_seq, evalC_region, runA_cons', runA_consN, runA_consG, guardR_true, guardR_false, guardV_bool, guardV_tup, runA_nil', inFrame, startLoc, startVals, Loc.clear, eff_move, eff_assign, eff_binOp, eff_build, eff_buildSlice, eff_alloc, eff_box, eff_store, eff_load, eff_fieldAddr, eff_field, eff_indexAddr, eff_slice, eff_extract, eff_pick, eff_unOp, eff_convert, eff_makeSlice, eff_makeFunc, eff_makeInterface, eff_nilCheck, eff_panic, eff_len1, eff_max2, eff_min2, eff_append2, eff_callV, stepE_val, contR_ok, contR_pan, outC_ok, outC_pan, thenC_normal, thenC_ret, thenC_exit, thenC_pan, blockC, evalC_ret, evalC_skip, evalC_exit, evalC_block, evalC_scope, evalC_loop, Loc.putO, Loc.put, idx, evO, constV, Loc.get, Vm.look, valO_some, bin_int, intA, evalC_cond, condC_true, condC_false, unwindA, resultsA, resultV, actA, pureA, storeA, loadA, fillE, repElems, TI.zeroV, fieldOf, fieldAddrA, fieldA, elemsA, retE, cells?_put_push, push_at, put_at, cellsOf?, Nat.add_assoc, n_push', n_put', isCell_undef, known_undef, cells_undef, isCell_bool, known_bool, cells_bool, isCell_int, known_int, cells_int, isCell_str, known_str, cells_str, isCell_nilp, known_nilp, cells_nilp, isCell_ptr, known_ptr, cells_ptr, isCell_rptr, known_rptr, cells_rptr, isCell_nils, known_nils, cells_nils, isCell_slice, known_slice, cells_slice, isCell_rsl, known_rsl, cells_rsl, isCell_nilm, known_nilm, cells_nilm, isCell_map, known_map, cells_map, isCell_fn, known_fn, cells_fn, isCell_yld, known_yld, cells_yld, isCell_nilf, known_nilf, cells_nilf, isCell_iface, known_iface, cells_iface, isCell_nili, known_nili, cells_nili, isCell_agg, known_agg, cells_agg, isCell_tup, known_tup, cells_tup, setCells, nowhere, GotF_some, Got_some, int_beq, int_bne, runC_nil, runC_cons, pickC_some, wantC_tt, wantC_tf, effC_val, ifC_true, checkC, inPairs, keepC, okC, readsC_load, readV_some, AV.beq_self, wantA_n, wantA_g, wantD_some, d3, vloc, hk, uP1, hg', hkP, hwk]
                  exact hq1' (r2 - 1) _ _ (by omega) ⟨k + 1, _, by omega, rfl, rfl⟩
              · have hkl : k = es.length := by omega
                subst hkl
                simp [evalC_seq, evalC_region, runA_cons', runA_consN, runA_consG, guardR_true, guardR_false, guardV_bool, guardV_tup, runA_nil', inFrame, startLoc, startVals, Loc.clear, eff_move, eff_assign, eff_binOp, eff_build, eff_buildSlice, eff_alloc, eff_box, eff_store, eff_load, eff_fieldAddr, eff_field, eff_indexAddr, eff_slice, eff_extract, eff_pick, eff_unOp, eff_convert, eff_makeSlice, eff_makeFunc, eff_makeInterface, eff_nilCheck, eff_panic, eff_len1, eff_max2, eff_min2, eff_append2, eff_callV, stepE_val, contR_ok, contR_pan, outC_ok, outC_pan, thenC_normal, thenC_ret, thenC_exit, thenC_pan, blockC, evalC_ret, evalC_skip, evalC_exit, evalC_block, evalC_scope, evalC_loop, Loc.putO, Loc.put, idx, evO, constV, Loc.get, Vm.look, valO_some, bin_int, intA, evalC_cond, condC_true, condC_false, unwindA, resultsA, resultV, actA, pureA, storeA, loadA, fillE, repElems, TI.zeroV, fieldOf, fieldAddrA, fieldA, elemsA, retE, cells?_put_push, push_at, put_at, cellsOf?, Nat.add_assoc, n_push', n_put', isCell_undef, known_undef, cells_undef, isCell_bool, known_bool, cells_bool, isCell_int, known_int, cells_int, isCell_str, known_str, cells_str, isCell_nilp, known_nilp, cells_nilp, isCell_ptr, known_ptr, cells_ptr, isCell_rptr, known_rptr, cells_rptr, isCell_nils, known_nils, cells_nils, isCell_slice, known_slice, cells_slice, isCell_rsl, known_rsl, cells_rsl, isCell_nilm, known_nilm, cells_nilm, isCell_map, known_map, cells_map, isCell_fn, known_fn, cells_fn, isCell_yld, known_yld, cells_yld, isCell_nilf, known_nilf, cells_nilf, isCell_iface, known_iface, cells_iface, isCell_nili, known_nili, cells_nili, isCell_agg, known_agg, cells_agg, isCell_tup, known_tup, cells_tup, setCells, nowhere, GotF_some, Got_some, int_beq, int_bne, vloc]
                exact hq2' _ _ _ (by simp) ⟨rfl, _, _, rfl, rfl⟩)
          obtain ⟨rfl, a18', sc', rfl, rfl⟩ := hq'
          by_cases h3 : 2 < c.length
          · have h3i : 2 < (c.length : Int) := by omega
            have uP2 := fun (n : Nat) (S : St) => uP n S P0 P1 P2 l0 l1 l2
            have hg := hstrict h3
            have hg' : ¬ rgt (es.getD P0 (0, 0)) (es.getD P1 (0, 0)) (es.getD P2 (0, 0)) ≤ 0 := by omega
            generalize rgt (es.getD P0 (0, 0)) (es.getD P1 (0, 0)) (es.getD P2 (0, 0)) = g at *
            simp [evalC_seq, evalC_region, runA_cons', runA_consN, runA_consG, guardR_true, guardR_false, guardV_bool, guardV_tup, runA_nil', inFrame, startLoc, startVals, Loc.clear, eff_move, eff_assign, eff_binOp, eff_build, eff_buildSlice, eff_alloc, eff_box, eff_store, eff_load, eff_fieldAddr, eff_field, eff_indexAddr, eff_slice, eff_extract, eff_pick, eff_unOp, eff_convert, eff_makeSlice, eff_makeFunc, eff_makeInterface, eff_nilCheck, eff_panic, eff_len1, eff_max2, eff_min2, eff_append2, eff_callV, stepE_val, contR_ok, contR_pan, outC_ok, outC_pan, thenC_normal, thenC_ret, thenC_exit, thenC_pan, blockC, evalC_ret, evalC_skip, evalC_exit, evalC_block, evalC_scope, evalC_loop, Loc.putO, Loc.put, idx, evO, constV, Loc.get, Vm.look, valO_some, bin_int, intA, evalC_cond, condC_true, condC_false, unwindA, resultsA, resultV, actA, pureA, storeA, loadA, fillE, repElems, TI.zeroV, fieldOf, fieldAddrA, fieldA, elemsA, retE, cells?_put_push, push_at, put_at, cellsOf?, Nat.add_assoc, n_push', n_put', isCell_undef, known_undef, cells_undef, isCell_bool, known_bool, cells_bool, isCell_int, known_int, cells_int, isCell_str, known_str, cells_str, isCell_nilp, known_nilp, cells_nilp, isCell_ptr, known_ptr, cells_ptr, isCell_rptr, known_rptr, cells_rptr, isCell_nils, known_nils, cells_nils, isCell_slice, known_slice, cells_slice, isCell_rsl, known_rsl, cells_rsl, isCell_nilm, known_nilm, cells_nilm, isCell_map, known_map, cells_map, isCell_fn, known_fn, cells_fn, isCell_yld, known_yld, cells_yld, isCell_nilf, known_nilf, cells_nilf, isCell_iface, known_iface, cells_iface, isCell_nili, known_nili, cells_nili, isCell_agg, known_agg, cells_agg, isCell_tup, known_tup, cells_tup, setCells, nowhere, GotF_some, Got_some, int_beq, int_bne, vloc, hlA, h3, h3i, uP2, hg', hw]
            exact hq1 (r - 1) _ _ (by omega) ⟨j + 1, _, _, _, _, _, by omega, rfl, rfl⟩
          · have h3' : ¬ 2 < (c.length : Int) := by omega
            simp [evalC_seq, evalC_region, runA_cons', runA_consN, runA_consG, guardR_true, guardR_false, guardV_bool, guardV_tup, runA_nil', inFrame, startLoc, startVals, Loc.clear, eff_move, eff_assign, eff_binOp, eff_build, eff_buildSlice, eff_alloc, eff_box, eff_store, eff_load, eff_fieldAddr, eff_field, eff_indexAddr, eff_slice, eff_extract, eff_pick, eff_unOp, eff_convert, eff_makeSlice, eff_makeFunc, eff_makeInterface, eff_nilCheck, eff_panic, eff_len1, eff_max2, eff_min2, eff_append2, eff_callV, stepE_val, contR_ok, contR_pan, outC_ok, outC_pan, thenC_normal, thenC_ret, thenC_exit, thenC_pan, blockC, evalC_ret, evalC_skip, evalC_exit, evalC_block, evalC_scope, evalC_loop, Loc.putO, Loc.put, idx, evO, constV, Loc.get, Vm.look, valO_some, bin_int, intA, evalC_cond, condC_true, condC_false, unwindA, resultsA, resultV, actA, pureA, storeA, loadA, fillE, repElems, TI.zeroV, fieldOf, fieldAddrA, fieldA, elemsA, retE, cells?_put_push, push_at, put_at, cellsOf?, Nat.add_assoc, n_push', n_put', isCell_undef, known_undef, cells_undef, isCell_bool, known_bool, cells_bool, isCell_int, known_int, cells_int, isCell_str, known_str, cells_str, isCell_nilp, known_nilp, cells_nilp, isCell_ptr, known_ptr, cells_ptr, isCell_rptr, known_rptr, cells_rptr, isCell_nils, known_nils, cells_nils, isCell_slice, known_slice, cells_slice, isCell_rsl, known_rsl, cells_rsl, isCell_nilm, known_nilm, cells_nilm, isCell_map, known_map, cells_map, isCell_fn, known_fn, cells_fn, isCell_yld, known_yld, cells_yld, isCell_nilf, known_nilf, cells_nilf, isCell_iface, known_iface, cells_iface, isCell_nili, known_nili, cells_nili, isCell_agg, known_agg, cells_agg, isCell_tup, known_tup, cells_tup, setCells, nowhere, GotF_some, Got_some, int_beq, int_bne, vloc, hlA, h3, h3', hw]
            exact hq1 (r - 1) _ _ (by omega) ⟨j + 1, _, _, _, _, _, by omega, rfl, rfl⟩
        · have h1' : ¬ 1 < (c.length : Int) := by omega
          simp [evalC_seq, evalC_region, runA_cons', runA_consN, runA_consG, guardR_true, guardR_false, guardV_bool, guardV_tup, runA_nil', inFrame, startLoc, startVals, Loc.clear, eff_move, eff_assign, eff_binOp, eff_build, eff_buildSlice, eff_alloc, eff_box, eff_store, eff_load, eff_fieldAddr, eff_field, eff_indexAddr, eff_slice, eff_extract, eff_pick, eff_unOp, eff_convert, eff_makeSlice, eff_makeFunc, eff_makeInterface, eff_nilCheck, eff_panic, eff_len1, eff_max2, eff_min2, eff_append2, eff_callV, stepE_val, contR_ok, contR_pan, outC_ok, outC_pan, thenC_normal, thenC_ret, thenC_exit, thenC_pan, blockC, evalC_ret, evalC_skip, evalC_exit, evalC_block, evalC_scope, evalC_loop, Loc.putO, Loc.put, idx, evO, constV, Loc.get, Vm.look, valO_some, bin_int, intA, evalC_cond, condC_true, condC_false, unwindA, resultsA, resultV, actA, pureA, storeA, loadA, fillE, repElems, TI.zeroV, fieldOf, fieldAddrA, fieldA, elemsA, retE, cells?_put_push, push_at, put_at, cellsOf?, Nat.add_assoc, n_push', n_put', isCell_undef, known_undef, cells_undef, isCell_bool, known_bool, cells_bool, isCell_int, known_int, cells_int, isCell_str, known_str, cells_str, isCell_nilp, known_nilp, cells_nilp, isCell_ptr, known_ptr, cells_ptr, isCell_rptr, known_rptr, cells_rptr, isCell_nils, known_nils, cells_nils, isCell_slice, known_slice, cells_slice, isCell_rsl, known_rsl, cells_rsl, isCell_nilm, known_nilm, cells_nilm, isCell_map, known_map, cells_map, isCell_fn, known_fn, cells_fn, isCell_yld, known_yld, cells_yld, isCell_nilf, known_nilf, cells_nilf, isCell_iface, known_iface, cells_iface, isCell_nili, known_nili, cells_nili, isCell_agg, known_agg, cells_agg, isCell_tup, known_tup, cells_tup, setCells, nowhere, GotF_some, Got_some, int_beq, int_bne, vloc, hlA, hj, h1, h1']
          exact hq2 _ _ _ (by simp) ⟨rfl, _, _, _, _, _, _, rfl, rfl⟩
      · have hjl : j = c.length := by omega
        subst hjl
        simp [evalC_seq, evalC_region, runA_cons', runA_consN, runA_consG, guardR_true, guardR_false, guardV_bool, guardV_tup, runA_nil', inFrame, startLoc, startVals, Loc.clear, eff_move, eff_assign, eff_binOp, eff_build, eff_buildSlice, eff_alloc, eff_box, eff_store, eff_load, eff_fieldAddr, eff_field, eff_indexAddr, eff_slice, eff_extract, eff_pick, eff_unOp, eff_convert, eff_makeSlice, eff_makeFunc, eff_makeInterface, eff_nilCheck, eff_panic, eff_len1, eff_max2, eff_min2, eff_append2, eff_callV, stepE_val, contR_ok, contR_pan, outC_ok, outC_pan, thenC_normal, thenC_ret, thenC_exit, thenC_pan, blockC, evalC_ret, evalC_skip, evalC_exit, evalC_block, evalC_scope, evalC_loop, Loc.putO, Loc.put, idx, evO, constV, Loc.get, Vm.look, valO_some, bin_int, intA, evalC_cond, condC_true, condC_false, unwindA, resultsA, resultV, actA, pureA, storeA, loadA, fillE, repElems, TI.zeroV, fieldOf, fieldAddrA, fieldA, elemsA, retE, cells?_put_push, push_at, put_at, cellsOf?, Nat.add_assoc, n_push', n_put', isCell_undef, known_undef, cells_undef, isCell_bool, known_bool, cells_bool, isCell_int, known_int, cells_int, isCell_str, known_str, cells_str, isCell_nilp, known_nilp, cells_nilp, isCell_ptr, known_ptr, cells_ptr, isCell_rptr, known_rptr, cells_rptr, isCell_nils, known_nils, cells_nils, isCell_slice, known_slice, cells_slice, isCell_rsl, known_rsl, cells_rsl, isCell_nilm, known_nilm, cells_nilm, isCell_map, known_map, cells_map, isCell_fn, known_fn, cells_fn, isCell_yld, known_yld, cells_yld, isCell_nilf, known_nilf, cells_nilf, isCell_iface, known_iface, cells_iface, isCell_nili, known_nili, cells_nili, isCell_agg, known_agg, cells_agg, isCell_tup, known_tup, cells_tup, setCells, nowhere, GotF_some, Got_some, int_beq, int_bne, vloc, hlA]
        exact hq2 _ _ _ (by simp) ⟨rfl, _, _, _, _, _, _, rfl, rfl⟩)
  obtain ⟨rfl, a14, a15, a16, a17, a18, sc, rfl, rfl⟩ := hq
  simp [evalC_seq, evalC_region, runA_cons', runA_consN, runA_consG, guardR_true, guardR_false, guardV_bool, guardV_tup, runA_nil', inFrame, startLoc, startVals, Loc.clear, eff_move, eff_assign, eff_binOp, eff_build, eff_buildSlice, eff_alloc, eff_box, eff_store, eff_load, eff_fieldAddr, eff_field, eff_indexAddr, eff_slice, eff_extract, eff_pick, eff_unOp, eff_convert, eff_makeSlice, eff_makeFunc, eff_makeInterface, eff_nilCheck, eff_panic, eff_len1, eff_max2, eff_min2, eff_append2, eff_callV, stepE_val, contR_ok, contR_pan, outC_ok, outC_pan, thenC_normal, thenC_ret, thenC_exit, thenC_pan, blockC, evalC_ret, evalC_skip, evalC_exit, evalC_block, evalC_scope, evalC_loop, Loc.putO, Loc.put, idx, evO, constV, Loc.get, Vm.look, valO_some, bin_int, intA, evalC_cond, condC_true, condC_false, unwindA, resultsA, resultV, actA, pureA, storeA, loadA, fillE, repElems, TI.zeroV, fieldOf, fieldAddrA, fieldA, elemsA, retE, cells?_put_push, push_at, put_at, cellsOf?, Nat.add_assoc, n_push', n_put', isCell_undef, known_undef, cells_undef, isCell_bool, known_bool, cells_bool, isCell_int, known_int, cells_int, isCell_str, known_str, cells_str, isCell_nilp, known_nilp, cells_nilp, isCell_ptr, known_ptr, cells_ptr, isCell_rptr, known_rptr, cells_rptr, isCell_nils, known_nils, cells_nils, isCell_slice, known_slice, cells_slice, isCell_rsl, known_rsl, cells_rsl, isCell_nilm, known_nilm, cells_nilm, isCell_map, known_map, cells_map, isCell_fn, known_fn, cells_fn, isCell_yld, known_yld, cells_yld, isCell_nilf, known_nilf, cells_nilf, isCell_iface, known_iface, cells_iface, isCell_nili, known_nili, cells_nili, isCell_agg, known_agg, cells_agg, isCell_tup, known_tup, cells_tup, setCells, nowhere, GotF_some, Got_some, int_beq, int_bne, vloc]
  have l0 := c1 0 hC0
  have i0 : indexAddrA ED 22 (.slice (ints (ofN c)) .dead) (.int .i64 0) = some (.rptr [.int .i64 (c.getD 0 0 : Nat)]) := hCi 0 hC0
  have hleast := c5 hC0
  have hC0i : 0 < (c.length : Int) := by omega
  generalize hP0 : c.getD 0 0 = P0 at *
  generalize hc : iter _ _ _ _ = c9
  obtain ⟨e1, L1, S3, rfl, hq⟩ := loop_of hc
    (fun r L S => ∃ k sc, k + r = es.length ∧ S2 = S ∧ L = vloc [l, .int .i64 n, .bool false, .slice (ints (flat es)) tk1, m, a7, .ptr S1.n 0, .int .i64 0, .slice (ints (ofN c)) .dead, .int .i64 es.length, .slice (ints (flat cs)) tk2, a13, a14, a15, a16, a17, a18, .int .i64 (k : Nat), .undef, .undef, .undef, .undef, .undef] sc)
    (fun e L S => e = .exit 8 ∧ ∃ a19 sc, S2 = S ∧ L = vloc [l, .int .i64 n, .bool false, .slice (ints (flat es)) tk1, m, a7, .ptr S1.n 0, .int .i64 0, .slice (ints (ofN c)) .dead, .int .i64 es.length, .slice (ints (flat cs)) tk2, a13, a14, a15, a16, a17, a18, a19, .undef, .undef, .undef, .undef, .undef] sc)
    es.length (by omega)
    ⟨0, _, by simp, rfl, rfl⟩
    (by
      rintro r L S ⟨k, sc, hkk, rfl, rfl⟩ q hq1 hq2
      by_cases hk : k < es.length
      · have hwk : IntKind.i64.wrap ((k : Int) + 1) = ((k : Int) + 1) := wrap_id (by omega) (by omega)
        obtain ⟨u1, u2, f1, f2, f3, f4⟩ := hpf _ hk
        obtain ⟨u3, u4, f5, f6, f7, f8⟩ := hpf _ l0
        have hne := hleast k hk
        unfold lxl at hne
        generalize es.getD k (0, 0) = xk at *
        generalize es.getD P0 (0, 0) = xp at *
        obtain ⟨xk1, xk2⟩ := xk
        obtain ⟨xp1, xp2⟩ := xp
        simp only at f3 f4 f7 f8 hne
        have e0 : ¬ xk1 < xp1 := by omega
        by_cases e1 : xk1 = xp1
        · have e2 : ¬ xk2 < xp2 := by omega
          simp [evalC_seq, evalC_region, runA_cons', runA_consN, runA_consG, guardR_true, guardR_false, guardV_bool, guardV_tup, runA_nil', inFrame, startLoc, startVals, Loc.clear, eff_move, eff_assign, eff_binOp, eff_build, eff_buildSlice, eff_alloc, eff_box, eff_store, eff_load, eff_fieldAddr, eff_field, eff_indexAddr, eff_slice, eff_extract, eff_pick, eff_unOp, eff_convert, eff_makeSlice, eff_makeFunc, eff_makeInterface, eff_nilCheck, eff_panic, eff_len1, eff_max2, eff_min2, eff_append2, eff_callV, stepE_val, contR_ok, contR_pan, outC_ok, outC_pan, thenC_normal, thenC_ret, thenC_exit, thenC_pan, blockC, evalC_ret, evalC_skip, evalC_exit, evalC_block, evalC_scope, evalC_loop, Loc.putO, Loc.put, idx, evO, constV, Loc.get, Vm.look, valO_some, bin_int, intA, evalC_cond, condC_true, condC_false, unwindA, resultsA, resultV, actA, pureA, storeA, loadA, fillE, repElems, TI.zeroV, fieldOf, fieldAddrA, fieldA, elemsA, retE, cells?_put_push, push_at, put_at, cellsOf?, Nat.add_assoc, n_push', n_put', isCell_undef, known_undef, cells_undef, isCell_bool, known_bool, cells_bool, isCell_int, known_int, cells_int, isCell_str, known_str, cells_str, isCell_nilp, known_nilp, cells_nilp, isCell_ptr, known_ptr, cells_ptr, isCell_rptr, known_rptr, cells_rptr, isCell_nils, known_nils, cells_nils, isCell_slice, known_slice, cells_slice, isCell_rsl, known_rsl, cells_rsl, isCell_nilm, known_nilm, cells_nilm, isCell_map, known_map, cells_map, isCell_fn, known_fn, cells_fn, isCell_yld, known_yld, cells_yld, isCell_nilf, known_nilf, cells_nilf, isCell_iface, known_iface, cells_iface, isCell_nili, known_nili, cells_nili, isCell_agg, known_agg, cells_agg, isCell_tup, known_tup, cells_tup, setCells, nowhere, GotF_some, Got_some, int_beq, int_bne, runC_nil, runC_cons, pickC_some, wantC_tt, wantC_tf, effC_val, ifC_true, checkC, inPairs, keepC, okC, readsC_load, readV_some, AV.beq_self, wantA_n, wantA_g, wantD_some, d4, vloc, hlA, hk, hC0, hC0i, i0, f1, f2, f3, f4, f5, f6, f7, f8, e0, e1, e2, hwk]
          exact hq1 (r - 1) _ _ (by omega) ⟨k + 1, _, by omega, rfl, rfl⟩
        · simp [evalC_seq, evalC_region, runA_cons', runA_consN, runA_consG, guardR_true, guardR_false, guardV_bool, guardV_tup, runA_nil', inFrame, startLoc, startVals, Loc.clear, eff_move, eff_assign, eff_binOp, eff_build, eff_buildSlice, eff_alloc, eff_box, eff_store, eff_load, eff_fieldAddr, eff_field, eff_indexAddr, eff_slice, eff_extract, eff_pick, eff_unOp, eff_convert, eff_makeSlice, eff_makeFunc, eff_makeInterface, eff_nilCheck, eff_panic, eff_len1, eff_max2, eff_min2, eff_append2, eff_callV, stepE_val, contR_ok, contR_pan, outC_ok, outC_pan, thenC_normal, thenC_ret, thenC_exit, thenC_pan, blockC, evalC_ret, evalC_skip, evalC_exit, evalC_block, evalC_scope, evalC_loop, Loc.putO, Loc.put, idx, evO, constV, Loc.get, Vm.look, valO_some, bin_int, intA, evalC_cond, condC_true, condC_false, unwindA, resultsA, resultV, actA, pureA, storeA, loadA, fillE, repElems, TI.zeroV, fieldOf, fieldAddrA, fieldA, elemsA, retE, cells?_put_push, push_at, put_at, cellsOf?, Nat.add_assoc, n_push', n_put', isCell_undef, known_undef, cells_undef, isCell_bool, known_bool, cells_bool, isCell_int, known_int, cells_int, isCell_str, known_str, cells_str, isCell_nilp, known_nilp, cells_nilp, isCell_ptr, known_ptr, cells_ptr, isCell_rptr, known_rptr, cells_rptr, isCell_nils, known_nils, cells_nils, isCell_slice, known_slice, cells_slice, isCell_rsl, known_rsl, cells_rsl, isCell_nilm, known_nilm, cells_nilm, isCell_map, known_map, cells_map, isCell_fn, known_fn, cells_fn, isCell_yld, known_yld, cells_yld, isCell_nilf, known_nilf, cells_nilf, isCell_iface, known_iface, cells_iface, isCell_nili, known_nili, cells_nili, isCell_agg, known_agg, cells_agg, isCell_tup, known_tup, cells_tup, setCells, nowhere, GotF_some, Got_some, int_beq, int_bne, runC_nil, runC_cons, pickC_some, wantC_tt, wantC_tf, effC_val, ifC_true, checkC, inPairs, keepC, okC, readsC_load, readV_some, AV.beq_self, wantA_n, wantA_g, wantD_some, d4, vloc, hlA, hk, hC0, hC0i, i0, f1, f2, f3, f4, f5, f6, f7, f8, e0, e1, hwk]
          exact hq1 (r - 1) _ _ (by omega) ⟨k + 1, _, by omega, rfl, rfl⟩
      · have hkl : k = es.length := by omega
        subst hkl
        simp [evalC_seq, evalC_region, runA_cons', runA_consN, runA_consG, guardR_true, guardR_false, guardV_bool, guardV_tup, runA_nil', inFrame, startLoc, startVals, Loc.clear, eff_move, eff_assign, eff_binOp, eff_build, eff_buildSlice, eff_alloc, eff_box, eff_store, eff_load, eff_fieldAddr, eff_field, eff_indexAddr, eff_slice, eff_extract, eff_pick, eff_unOp, eff_convert, eff_makeSlice, eff_makeFunc, eff_makeInterface, eff_nilCheck, eff_panic, eff_len1, eff_max2, eff_min2, eff_append2, eff_callV, stepE_val, contR_ok, contR_pan, outC_ok, outC_pan, thenC_normal, thenC_ret, thenC_exit, thenC_pan, blockC, evalC_ret, evalC_skip, evalC_exit, evalC_block, evalC_scope, evalC_loop, Loc.putO, Loc.put, idx, evO, constV, Loc.get, Vm.look, valO_some, bin_int, intA, evalC_cond, condC_true, condC_false, unwindA, resultsA, resultV, actA, pureA, storeA, loadA, fillE, repElems, TI.zeroV, fieldOf, fieldAddrA, fieldA, elemsA, retE, cells?_put_push, push_at, put_at, cellsOf?, Nat.add_assoc, n_push', n_put', isCell_undef, known_undef, cells_undef, isCell_bool, known_bool, cells_bool, isCell_int, known_int, cells_int, isCell_str, known_str, cells_str, isCell_nilp, known_nilp, cells_nilp, isCell_ptr, known_ptr, cells_ptr, isCell_rptr, known_rptr, cells_rptr, isCell_nils, known_nils, cells_nils, isCell_slice, known_slice, cells_slice, isCell_rsl, known_rsl, cells_rsl, isCell_nilm, known_nilm, cells_nilm, isCell_map, known_map, cells_map, isCell_fn, known_fn, cells_fn, isCell_yld, known_yld, cells_yld, isCell_nilf, known_nilf, cells_nilf, isCell_iface, known_iface, cells_iface, isCell_nili, known_nili, cells_nili, isCell_agg, known_agg, cells_agg, isCell_tup, known_tup, cells_tup, setCells, nowhere, GotF_some, Got_some, int_beq, int_bne, vloc]
        exact hq2 _ _ _ (by simp) ⟨rfl, _, _, rfl, rfl⟩)
  obtain ⟨rfl, a19, sc, rfl, rfl⟩ := hq
  have uL2 := fun (m : Nat) (S : St) => list_use (cs := csP) rfl (n := m) (S := S) (zs := ofN (List.range c.length)) (by rw [ofN_len, List.length_range]; omega)
  have kB := gv_lst (l := (ofN (List.range c.length)).map .num)
  have uO := fun (m : Nat) (S : St) => order_use (cs := csP) rfl (n := m) (S := S) (m := c.length) (by omega)
  have hlB : lenA ED 22 (.slice (ints (ofN (List.range c.length))) .dead) = some (.int .i64 c.length) := by rw [len_ints, ofN_len, List.length_range]
  have hBi : ∀ j : Nat, j < c.length → indexAddrA ED 22 (.slice (ints (ofN (List.range c.length))) .dead) (.int .i64 (j : Nat)) = some (.rptr [.int .i64 (j : Nat)]) := by
    intro j hj
    rw [index_ints (by omega) (by simp [ofN]; exact hj)]
    simp [ofN]
  have hB0 : indexAddrA ED 22 (.slice (ints (ofN (List.range c.length))) .dead) (.int .i64 0) = some (.rptr [.int .i64 0]) := hBi 0 hC0
  simp only [nums, GV.enc.eq_3, sv] at uD2 uL2
  simp only [nHull] at uD2
  generalize lst (GV.encs ((ofN (List.range c.length)).map .num)) = XB at *
  generalize AV.slice (ints (ofN (List.range c.length))) .dead = own at *
  have hb2 := cells?_put_push S2 (.cells [.int .i64 0, .int .i64 0, .nils]) [.int .i64 4, .int .i64 0, XB]
  have hb3 := cells_box (o := .cells [.int .i64 0, .int .i64 0, .nils]) (o' := .cells [.int .i64 4, .int .i64 0, XB]) hb1'
  simp [evalC_seq, evalC_region, runA_cons', runA_consN, runA_consG, guardR_true, guardR_false, guardV_bool, guardV_tup, runA_nil', inFrame, startLoc, startVals, Loc.clear, eff_move, eff_assign, eff_binOp, eff_build, eff_buildSlice, eff_alloc, eff_box, eff_store, eff_load, eff_fieldAddr, eff_field, eff_indexAddr, eff_slice, eff_extract, eff_pick, eff_unOp, eff_convert, eff_makeSlice, eff_makeFunc, eff_makeInterface, eff_nilCheck, eff_panic, eff_len1, eff_max2, eff_min2, eff_append2, eff_callV, stepE_val, contR_ok, contR_pan, outC_ok, outC_pan, thenC_normal, thenC_ret, thenC_exit, thenC_pan, blockC, evalC_ret, evalC_skip, evalC_exit, evalC_block, evalC_scope, evalC_loop, Loc.putO, Loc.put, idx, evO, constV, Loc.get, Vm.look, valO_some, bin_int, intA, evalC_cond, condC_true, condC_false, unwindA, resultsA, resultV, actA, pureA, storeA, loadA, fillE, repElems, TI.zeroV, fieldOf, fieldAddrA, fieldA, elemsA, retE, cells?_put_push, push_at, put_at, cellsOf?, Nat.add_assoc, n_push', n_put', isCell_undef, known_undef, cells_undef, isCell_bool, known_bool, cells_bool, isCell_int, known_int, cells_int, isCell_str, known_str, cells_str, isCell_nilp, known_nilp, cells_nilp, isCell_ptr, known_ptr, cells_ptr, isCell_rptr, known_rptr, cells_rptr, isCell_nils, known_nils, cells_nils, isCell_slice, known_slice, cells_slice, isCell_rsl, known_rsl, cells_rsl, isCell_nilm, known_nilm, cells_nilm, isCell_map, known_map, cells_map, isCell_fn, known_fn, cells_fn, isCell_yld, known_yld, cells_yld, isCell_nilf, known_nilf, cells_nilf, isCell_iface, known_iface, cells_iface, isCell_nili, known_nili, cells_nili, isCell_agg, known_agg, cells_agg, isCell_tup, known_tup, cells_tup, setCells, nowhere, GotF_some, Got_some, int_beq, int_bne, runC_nil, runC_cons, pickC_some, wantC_tt, wantC_tf, effC_val, ifC_true, checkC, inPairs, keepC, okC, readsC_load, readV_some, AV.beq_self, wantA_n, wantA_g, wantD_some, vloc, uQ2, uD2, kB, uL2, hb2, hlA, hlB, uO, unA, hC0, hC0i, hB0]
  generalize hS3 : (S2.push (.cells [.int .i64 0, .int .i64 0, .nils])).put S2.n (.cells [.int .i64 4, .int .i64 0, XB]) = S3 at *
  generalize hc : iter _ _ _ _ = c9
  obtain ⟨e1, L1, S4, rfl, hq⟩ := loop_of hc
    (fun r L S => ∃ k sc, k + r = c.length ∧ S3 = S ∧ L = vloc [l, .int .i64 n, .bool false, .slice (ints (flat es)) tk1, m, a7, .ptr S1.n 0, .int .i64 0, .slice (ints (ofN c)) .dead, .int .i64 es.length, .slice (ints (flat cs)) tk2, a13, a14, a15, a16, a17, a18, a19, .ptr S2.n 0, own, .int .i64 (k : Nat), .undef, .undef] sc)
    (fun e L S => e = .exit 10 ∧ ∃ a22 sc, S3 = S ∧ L = vloc [l, .int .i64 n, .bool false, .slice (ints (flat es)) tk1, m, a7, .ptr S1.n 0, .int .i64 0, .slice (ints (ofN c)) .dead, .int .i64 es.length, .slice (ints (flat cs)) tk2, a13, a14, a15, a16, a17, a18, a19, .ptr S2.n 0, own, a22, .undef, .undef] sc)
    c.length (by omega)
    ⟨0, _, by simp, rfl, rfl⟩
    (by
      rintro r L S ⟨k, sc, hkk, rfl, rfl⟩ q hq1 hq2
      by_cases hk : k < c.length
      · have hwk : IntKind.i64.wrap ((k : Int) + 1) = ((k : Int) + 1) := wrap_id (by omega) (by omega)
        have ik := hBi k hk
        simp [evalC_seq, evalC_region, runA_cons', runA_consN, runA_consG, guardR_true, guardR_false, guardV_bool, guardV_tup, runA_nil', inFrame, startLoc, startVals, Loc.clear, eff_move, eff_assign, eff_binOp, eff_build, eff_buildSlice, eff_alloc, eff_box, eff_store, eff_load, eff_fieldAddr, eff_field, eff_indexAddr, eff_slice, eff_extract, eff_pick, eff_unOp, eff_convert, eff_makeSlice, eff_makeFunc, eff_makeInterface, eff_nilCheck, eff_panic, eff_len1, eff_max2, eff_min2, eff_append2, eff_callV, stepE_val, contR_ok, contR_pan, outC_ok, outC_pan, thenC_normal, thenC_ret, thenC_exit, thenC_pan, blockC, evalC_ret, evalC_skip, evalC_exit, evalC_block, evalC_scope, evalC_loop, Loc.putO, Loc.put, idx, evO, constV, Loc.get, Vm.look, valO_some, bin_int, intA, evalC_cond, condC_true, condC_false, unwindA, resultsA, resultV, actA, pureA, storeA, loadA, fillE, repElems, TI.zeroV, fieldOf, fieldAddrA, fieldA, elemsA, retE, cells?_put_push, push_at, put_at, cellsOf?, Nat.add_assoc, n_push', n_put', isCell_undef, known_undef, cells_undef, isCell_bool, known_bool, cells_bool, isCell_int, known_int, cells_int, isCell_str, known_str, cells_str, isCell_nilp, known_nilp, cells_nilp, isCell_ptr, known_ptr, cells_ptr, isCell_rptr, known_rptr, cells_rptr, isCell_nils, known_nils, cells_nils, isCell_slice, known_slice, cells_slice, isCell_rsl, known_rsl, cells_rsl, isCell_nilm, known_nilm, cells_nilm, isCell_map, known_map, cells_map, isCell_fn, known_fn, cells_fn, isCell_yld, known_yld, cells_yld, isCell_nilf, known_nilf, cells_nilf, isCell_iface, known_iface, cells_iface, isCell_nili, known_nili, cells_nili, isCell_agg, known_agg, cells_agg, isCell_tup, known_tup, cells_tup, setCells, nowhere, GotF_some, Got_some, int_beq, int_bne, vloc, hlB, hk, ik, hwk]
        exact hq1 (r - 1) _ _ (by omega) ⟨k + 1, _, by omega, rfl, rfl⟩
      · have hkl : k = c.length := by omega
        subst hkl
        simp [evalC_seq, evalC_region, runA_cons', runA_consN, runA_consG, guardR_true, guardR_false, guardV_bool, guardV_tup, runA_nil', inFrame, startLoc, startVals, Loc.clear, eff_move, eff_assign, eff_binOp, eff_build, eff_buildSlice, eff_alloc, eff_box, eff_store, eff_load, eff_fieldAddr, eff_field, eff_indexAddr, eff_slice, eff_extract, eff_pick, eff_unOp, eff_convert, eff_makeSlice, eff_makeFunc, eff_makeInterface, eff_nilCheck, eff_panic, eff_len1, eff_max2, eff_min2, eff_append2, eff_callV, stepE_val, contR_ok, contR_pan, outC_ok, outC_pan, thenC_normal, thenC_ret, thenC_exit, thenC_pan, blockC, evalC_ret, evalC_skip, evalC_exit, evalC_block, evalC_scope, evalC_loop, Loc.putO, Loc.put, idx, evO, constV, Loc.get, Vm.look, valO_some, bin_int, intA, evalC_cond, condC_true, condC_false, unwindA, resultsA, resultV, actA, pureA, storeA, loadA, fillE, repElems, TI.zeroV, fieldOf, fieldAddrA, fieldA, elemsA, retE, cells?_put_push, push_at, put_at, cellsOf?, Nat.add_assoc, n_push', n_put', isCell_undef, known_undef, cells_undef, isCell_bool, known_bool, cells_bool, isCell_int, known_int, cells_int, isCell_str, known_str, cells_str, isCell_nilp, known_nilp, cells_nilp, isCell_ptr, known_ptr, cells_ptr, isCell_rptr, known_rptr, cells_rptr, isCell_nils, known_nils, cells_nils, isCell_slice, known_slice, cells_slice, isCell_rsl, known_rsl, cells_rsl, isCell_nilm, known_nilm, cells_nilm, isCell_map, known_map, cells_map, isCell_fn, known_fn, cells_fn, isCell_yld, known_yld, cells_yld, isCell_nilf, known_nilf, cells_nilf, isCell_iface, known_iface, cells_iface, isCell_nili, known_nili, cells_nili, isCell_agg, known_agg, cells_agg, isCell_tup, known_tup, cells_tup, setCells, nowhere, GotF_some, Got_some, int_beq, int_bne, vloc, hlB]
        exact hq2 _ _ _ (by simp) ⟨rfl, _, _, rfl, rfl⟩)
  obtain ⟨rfl, a22, sc, rfl, rfl⟩ := hq
  have hq4 := wrap_tdiv hn 4 (by omega)
  have hQ := turnZ_le (n.tdiv 4) (b := (es.length : Int)) (by omega)
  have uE := fun (m : Nat) (S : St) => uT m (n.tdiv 4) es.length S (by rw [i64_iff]; omega)
  obtain ⟨t, ht⟩ := Int.eq_ofNat_of_zero_le hQ.1
  rw [ht] at hQ
  simp only [ht] at uE
  have htl : t < es.length := by omega
  obtain ⟨u1, u2, f1, f2, f3, f4⟩ := hpf _ htl
  have hm := hcm t htl
  have hxt := hB (es.getD t (0, 0)) (by
    simp only [List.getD_eq_getElem?_getD, List.getElem?_eq_getElem htl, Option.getD_some]
    exact List.getElem_mem htl)
  generalize es.getD t (0, 0) = ed at *
  obtain ⟨w5, Sz, U1, k1, k2, k3, k4, k5⟩ := LiveS.append_any (S := S3) (zs := []) (tk := .full) ⟨.inr rfl, by simp⟩ (flat es) (by simp; omega)
  replace k1 : appendA ED S3 3 (.slice [] .full) (ints (flat es)) = some (w5, Sz) := k1
  obtain ⟨w6, Sw, k6, k7, k8, k9⟩ := k2.append [ed.1, ed.2] (by simp) (by simp; omega)
  replace k6 : appendA ED Sz 3 w5 [.int .i64 ed.1, .int .i64 ed.2] = some (w6, Sw) := k6
  obtain ⟨tk3, rfl⟩ := k7.cases
  have hfe : flat es ++ [ed.1, ed.2] = flat (es ++ [ed]) := by rw [flat_append]; rfl
  simp only [List.nil_append] at k6
  rw [hfe] at k6
  have hB3 : Bnd (es ++ [ed]) := by
    intro r hr
    rcases List.mem_append.1 hr with hr | hr
    · exact hB r hr
    · rw [List.mem_singleton.1 hr]; exact hxt
  have uQ3 := fun (m : Nat) (S : St) => pairs_use (cs := csP) rfl (n := m) (v := .slice (ints (flat (es ++ [ed]))) tk3) (es := es ++ [ed]) (S := S) (by simp [AV.dead]) (by simp; omega)
  have uD3 := fun (m : Nat) (S : St) => hullD_use (cs := csP) rfl (n := m) (S := S) (l := es ++ [ed]) (by simp; omega) hB3
  rw [hm] at uD3
  simp only [nums, GV.enc.eq_3, sv] at uD3
  simp only [nHull] at uD3
  rw [hXA] at uD3
  have hb4 := cells?_put_push Sw (.cells [.int .i64 0, .int .i64 0, .nils]) [.int .i64 4, .int .i64 0, XA]
  have hb5 := cells_box (o := .cells [.int .i64 0, .int .i64 0, .nils]) (o' := .cells [.int .i64 4, .int .i64 0, XA]) (k9.cells _ _ (k4.cells _ _ hb3))
  simp [evalC_seq, evalC_region, runA_cons', runA_consN, runA_consG, guardR_true, guardR_false, guardV_bool, guardV_tup, runA_nil', inFrame, startLoc, startVals, Loc.clear, eff_move, eff_assign, eff_binOp, eff_build, eff_buildSlice, eff_alloc, eff_box, eff_store, eff_load, eff_fieldAddr, eff_field, eff_indexAddr, eff_slice, eff_extract, eff_pick, eff_unOp, eff_convert, eff_makeSlice, eff_makeFunc, eff_makeInterface, eff_nilCheck, eff_panic, eff_len1, eff_max2, eff_min2, eff_append2, eff_callV, stepE_val, contR_ok, contR_pan, outC_ok, outC_pan, thenC_normal, thenC_ret, thenC_exit, thenC_pan, blockC, evalC_ret, evalC_skip, evalC_exit, evalC_block, evalC_scope, evalC_loop, Loc.putO, Loc.put, idx, evO, constV, Loc.get, Vm.look, valO_some, bin_int, intA, evalC_cond, condC_true, condC_false, unwindA, resultsA, resultV, actA, pureA, storeA, loadA, fillE, repElems, TI.zeroV, fieldOf, fieldAddrA, fieldA, elemsA, retE, cells?_put_push, push_at, put_at, cellsOf?, Nat.add_assoc, n_push', n_put', isCell_undef, known_undef, cells_undef, isCell_bool, known_bool, cells_bool, isCell_int, known_int, cells_int, isCell_str, known_str, cells_str, isCell_nilp, known_nilp, cells_nilp, isCell_ptr, known_ptr, cells_ptr, isCell_rptr, known_rptr, cells_rptr, isCell_nils, known_nils, cells_nils, isCell_slice, known_slice, cells_slice, isCell_rsl, known_rsl, cells_rsl, isCell_nilm, known_nilm, cells_nilm, isCell_map, known_map, cells_map, isCell_fn, known_fn, cells_fn, isCell_yld, known_yld, cells_yld, isCell_nilf, known_nilf, cells_nilf, isCell_iface, known_iface, cells_iface, isCell_nili, known_nili, cells_nili, isCell_agg, known_agg, cells_agg, isCell_tup, known_tup, cells_tup, setCells, nowhere, GotF_some, Got_some, int_beq, int_bne, runC_nil, runC_cons, pickC_some, wantC_tt, wantC_tf, effC_val, ifC_true, checkC, inPairs, keepC, okC, readsC_load, readV_some, AV.beq_self, wantA_n, wantA_g, wantD_some, d5, vloc, hN0', hq4, uE, f1, f2, f3, f4, k1, k6, uQ3, uD3, kA, hb4, hb5, uS, uG]
  exact hp _ _ rfl

end Go.Proofs.YtjgigcaelcapdaaDoor
