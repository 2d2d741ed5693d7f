/-
What the law's own functions return, and the law. No conditions.
-/
import Derived.Test.YtjgigcaelcapdaaDoorValD
import Derived.Test.YtjgigcaelcapdaaDoorExamples
import Derived.Test.YtjgigcaelcapdaaDoorValF
set_option linter.all false

namespace Go.Proofs.YtjgigcaelcapdaaDoor
open Go Go.Vm Go.Vm.T
set_option maxRecDepth 100000
set_option linter.unusedSimpArgs false
set_option linter.unusedVariables false

def edgeAt (zs : List Int) (many : Int) (j : Nat) : Int × Int := (turnZ (zs.getD (2 * j) 0) many, turnZ (zs.getD (2 * j + 1) 0) many)
def edgesL (zs : List Int) (many : Int) (k : Nat) : List (Int × Int) := (List.range k).map (edgeAt zs many)
theorem edgesL_succ (zs : List Int) (many : Int) (k : Nat) : edgesL zs many (k + 1) = edgesL zs many k ++ [edgeAt zs many k] := by simp [edgesL, List.range_succ]
theorem edgesL_len (zs : List Int) (many : Int) (k : Nat) : (edgesL zs many k).length = k := by simp [edgesL]
theorem edgesL_in (zs : List Int) {many : Nat} (h : 1 ≤ many) (k : Nat) : InGraph many (edgesL zs many k) := by
  intro e he
  obtain ⟨j, _, rfl⟩ := List.mem_map.1 he
  exact ⟨turnZ_le _ (by omega), turnZ_le _ (by omega)⟩

structure LawX where
  v : AV
  zs : List Int
  n : Int
def lawC (f : FuncId) : Con where
  f := f
  X := LawX
  dom x := IntsD x.v x.zs ∧ x.zs.length ≤ maxLen ∧ I64 x.n
  enc x := [x.v, .int .i64 x.n]
  res _ := .ret (.bool true)

theorem wrap_tdiv {n : Int} (h : I64 n) (k : Int) (hk : 1 ≤ k) : IntKind.i64.wrap (n.tdiv k) = n.tdiv k := by
  rw [i64_iff] at h
  have h1 : (n.tdiv k).natAbs ≤ n.natAbs := by rw [Int.natAbs_tdiv]; exact Nat.div_le_self _ _
  by_cases hm : n = -9223372036854775808 ∧ n.tdiv k = 9223372036854775808
  · obtain ⟨e1, e2⟩ := hm
    have h3 : n.tdiv k ≤ 0 := by
      rcases Int.le_total 0 (n.tdiv k) with h | h
      · rw [e1] at h ⊢
        have := Int.neg_tdiv 9223372036854775808 k
        rw [this] at h ⊢
        have := Int.tdiv_nonneg (a := 9223372036854775808) (b := k) (by omega) (by omega)
        omega
      · exact h
    omega
  · exact wrap_id (by omega) (by omega)


end Go.Proofs.YtjgigcaelcapdaaDoor

namespace Go.Proofs.YtjgigcaelcapdaaDoor
open Go Go.Vm Go.Vm.T
set_option maxRecDepth 100000
set_option linter.unusedSimpArgs false
set_option linter.unusedVariables false

theorem csD_ok : ∀ d ∈ csD, d.Ok Tryd.prog ED := by simpa [csD] using ⟨first_ok, second_ok, graph_ok, need_ok⟩

def distDom (g : GV) : Prop := ∃ (N start : Nat) (es : List (Int × Int)), g = .pair (.num N) (.pair (.num start) (duosV es)) ∧ 1 ≤ N ∧ N ≤ 1000 ∧ start ≤ N ∧ es.length ≤ 1000 ∧ InGraph N es
def DistP (g : GV) (d : List Int) : Prop :=
  (∀ (N start : Nat) (es : List (Int × Int)), g = .pair (.num N) (.pair (.num start) (duosV es)) → Dist N start es d) ∧ ∃ n r S', callS ED (sumOf csD) n (.fn 33) [g.enc] S0 = some (r, S') ∧ r.melt S' = .ret (lstI d)
open Classical in
noncomputable def distOut (g : GV) : Option (List Int) := if h : ∃ d, DistP g d then some h.choose else none

theorem duosV_inj2 {a b : List (Int × Int)} (h : duosV a = duosV b) : a = b := by
  have := congrArg edgesOf h
  rwa [edgesOf_duos, edgesOf_duos] at this

theorem dist_out {N start : Nat} {es : List (Int × Int)} (hN1 : 1 ≤ N) (hN : N ≤ 1000) (hs : start ≤ N) (hes : es.length ≤ 1000) (hin : InGraph N es) :
    ∃ d, distOut (.pair (.num N) (.pair (.num start) (duosV es))) = some d ∧ DistP (.pair (.num N) (.pair (.num start) (duosV es))) d := by
  obtain ⟨d, h1, h2⟩ := dist_run hN1 hN hs hes hin
  have hex : ∃ d, DistP (.pair (.num N) (.pair (.num start) (duosV es))) d := by
    refine ⟨d, fun N' start' es' e => ?_, h2⟩
    simp only [GV.pair.injEq, GV.num.injEq] at e
    obtain ⟨e1, e2, e3⟩ := e
    have := duosV_inj2 e3
    subst this
    obtain rfl : N = N' := by omega
    obtain rfl : start = start' := by omega
    exact h1
  exact ⟨hex.choose, by unfold distOut; rw [dif_pos hex], hex.choose_spec⟩

theorem dist_ok : (valueC 33 distDom distOut).Ok Tryd.prog ED := by
  refine Con.ok_at ED_ok ED_pers csD csD_ok (fun (g : GV) _ => ⟨by show AV.persL [g.enc] = true; simp [AV.persL, GV.pers], ?_⟩) ?_
  · simp only [valueC]
    cases distOut g with
    | none => rfl
    | some zs => exact lstI_pers zs
  rintro g ⟨N, start, es, rfl, hN1, hN, hs, hes, hin⟩
  obtain ⟨d, h1, h2, n, r, S', h3, h4⟩ := dist_out hN1 hN hs hes hin
  show ∃ n, ∀ p : FRes → St → Prop, (∀ r S', r.melt S' = (match distOut (.pair (.num N) (.pair (.num start) (duosV es))) with | some zs => .ret (lstI zs) | none => .pan trapV) → p r S') → GotF (callS ED (sumOf csD) n (.fn 33) [(GV.pair (.num N) (.pair (.num start) (duosV es))).enc] S0) p
  rw [h1]
  refine ⟨n, fun p hp => ?_⟩
  rw [h3]
  exact hp _ _ h4

noncomputable def distD : Con := defineC nDist tDist distDom distOut
theorem distD_ok : distD.Ok Tryd.prog ED := define_ok headDist (.inr (.inl rfl)) (by decide) (by decide) (by decide) dist_ok

theorem distD_use {cs : List Con} (h : sumOf cs 9 = distD.look) {N start : Nat} {es : List (Int × Int)} (h1 : 1 ≤ N) (h2 : N ≤ 1000) (h3 : start ≤ N) (h4 : es.length ≤ 1000) (h5 : InGraph N es) :
    ∃ d, Dist N start es d ∧ ∀ n S, callS ED (sumOf cs) n (.fn 9) [.str nDist, (GV.pair (.num N) (.pair (.num start) (duosV es))).enc] S = some (.ret (.tup [(nums d).enc, .int .i64 0]), S) := by
  obtain ⟨d, hout, hP⟩ := dist_out h1 h2 h3 h4 h5
  have hd := hP.1 _ _ _ rfl
  refine ⟨d, hd, fun n S => ?_⟩
  obtain ⟨f1, f2, f3⟩ := duos_facts es
  have hw : WordsE es := by
    intro e he
    have := h5 e he
    unfold isWord
    omega
  have := define_use h (n := n) (S := S) (g := .pair (.num N) (.pair (.num start) (duosV es))) ⟨N, start, es, rfl, h1, h2, h3, h4, h5⟩
    ⟨by show isWord (N : Int); unfold isWord; omega, by show isWord (start : Int); unfold isWord; omega, duos_ty hw h4⟩ ⟨trivial, trivial, by simpa using h4, f1⟩
    (by simp only [GV.nodes, duosV, f2]; omega) (by simp only [GV.deep, duosV]; omega) (fun zs hz => by rw [hout] at hz; cases hz; rw [hd.len]; exact h2)
  rw [hout] at this
  exact this

end Go.Proofs.YtjgigcaelcapdaaDoor

namespace Go.Proofs.YtjgigcaelcapdaaDoor
open Go Go.Vm Go.Vm.T
set_option maxRecDepth 100000
set_option linter.unusedSimpArgs false
set_option linter.unusedVariables false

set_option maxHeartbeats 4000000

noncomputable def csT : List Con := [turnC, wordC, pairC, pairsC, distD, listC, graphedC]
theorem csT_ok : ∀ d ∈ csT, d.Ok Tryd.prog ED := by
  simpa [csT] using ⟨turn_ok, word_ok, pair_ok, pairs_ok, distD_ok, list_ok, graphed_ok⟩

theorem neq_bool {x y : Operand} {a b : Bool} : binA ED .neq 4 x y (.bool a) (.bool b) = some (.bool (a != b)) := by
  cases x <;> cases y <;> cases a <;> cases b <;> rfl

def NearP (d : List Int) (j : Nat) (dj : Int) (es : List (Int × Int)) : Prop := ∃ e ∈ es, e.2.toNat = j ∧ 0 ≤ d.getD e.1.toNat 0 ∧ dj = d.getD e.1.toNat 0 + 1

theorem law4 : (lawC 4).Ok Tryd.prog ED := by
  refine Con.ok_at ED_ok ED_pers csT csT_ok (fun (x : LawX) hx => ⟨by have := hx.1.pers; show AV.persL [x.v, .int .i64 x.n] = true; simp [AV.persL, AV.pers, this], rfl⟩) ?_
  rintro ⟨l, zs, n⟩ ⟨hl, hlen, hn⟩
  replace hl : IntsD l zs := hl
  replace hlen : zs.length ≤ maxLen := hlen
  replace hn : I64 n := hn
  show ∃ m, ∀ p : FRes → St → Prop, (∀ r S', r.melt S' = .ret (.bool true) → p r S') → GotF (callS ED (sumOf csT) m (.fn 4) [l, .int .i64 n] S0) p
  refine ⟨100, fun p hp => ?_⟩
  rw [callS_fn rfl]
  have d0 := @dr4_0
  have d1 := @dr4_1
  have d2 := @dr4_2
  have d3 := @dr4_3
  simp only [drA, drawsOf, Option.getD_some, List.nil_append, List.append_nil, List.getD_cons_zero, List.getD_cons_succ, List.cons_append, Tryd.f4] at d0 d1 d2 d3
  have uT := fun (n : Nat) (a b : Int) (S : St) (h : I64 b) => turn_use (cs := csT) rfl (n := n) (a := a) (b := b) (S := S) h
  have uT12 := fun (m : Nat) (S : St) => uT m n 12 S (by rw [i64_iff]; omega)
  have hmany := turnZ_le n (b := 12) (by decide)
  have hw1 : IntKind.i64.wrap (1 + turnZ n 12) = 1 + turnZ n 12 := wrap_id (by omega) (by omega)
  obtain ⟨N, hN⟩ := Int.eq_ofNat_of_zero_le (show 0 ≤ 1 + turnZ n 12 by omega)
  have hN1 : 1 ≤ N := by omega
  have hN12 : N ≤ 12 := by omega
  have hw2 : IntKind.i64.wrap ((N : Int) + 1) = (N : Int) + 1 := wrap_id (by omega) (by omega)
  have hq12 := wrap_tdiv hn 12 (by omega)
  have uS := fun (m : Nat) (S : St) => uT m (n.tdiv 12) ((N : Int) + 1) S (by rw [i64_iff]; omega)
  have hQ := turnZ_le (n.tdiv 12) (b := (N : Int) + 1) (by omega)
  obtain ⟨start, hstart⟩ := Int.eq_ofNat_of_zero_le hQ.1
  have hsN : start ≤ N := by omega
  have uM := fun (m : Nat) (a : Int) (S : St) => uT m a N S (by rw [i64_iff]; omega)
  rw [hN] at hw1
  simp only [hstart] at uS
  simp only [fnA, ED_fn4, fi4, Tryd.f4]
  simp [evalC_seq, evalC_region, runA_cons', runA_consN, runA_consG, guardR_true, guardR_false, guardV_bool, guardV_tup, runA_nil', inFrame, startLoc, startVals, Loc.clear, eff_move, eff_assign, eff_binOp, eff_build, eff_buildSlice, eff_alloc, eff_box, eff_store, eff_load, eff_fieldAddr, eff_field, eff_indexAddr, eff_slice, eff_extract, eff_pick, eff_unOp, eff_convert, eff_makeSlice, eff_makeFunc, eff_makeInterface, eff_nilCheck, eff_panic, eff_len1, eff_max2, eff_min2, eff_append2, eff_callV, stepE_val, contR_ok, contR_pan, outC_ok, outC_pan, thenC_normal, thenC_ret, thenC_exit, thenC_pan, blockC, evalC_ret, evalC_skip, evalC_exit, evalC_block, evalC_scope, evalC_loop, Loc.putO, Loc.put, idx, evO, constV, Loc.get, Vm.look, valO_some, bin_int, intA, evalC_cond, condC_true, condC_false, unwindA, resultsA, resultV, actA, pureA, storeA, loadA, fillE, repElems, TI.zeroV, fieldOf, fieldAddrA, fieldA, elemsA, retE, cells?_put_push, push_at, put_at, cellsOf?, Nat.add_assoc, n_push', n_put', isCell_undef, known_undef, cells_undef, isCell_bool, known_bool, cells_bool, isCell_int, known_int, cells_int, isCell_str, known_str, cells_str, isCell_nilp, known_nilp, cells_nilp, isCell_ptr, known_ptr, cells_ptr, isCell_rptr, known_rptr, cells_rptr, isCell_nils, known_nils, cells_nils, isCell_slice, known_slice, cells_slice, isCell_rsl, known_rsl, cells_rsl, isCell_nilm, known_nilm, cells_nilm, isCell_map, known_map, cells_map, isCell_fn, known_fn, cells_fn, isCell_yld, known_yld, cells_yld, isCell_nilf, known_nilf, cells_nilf, isCell_iface, known_iface, cells_iface, isCell_nili, known_nili, cells_nili, isCell_agg, known_agg, cells_agg, isCell_tup, known_tup, cells_tup, setCells, nowhere, GotF_some, Got_some, int_beq, int_bne, uT12, hN, hw1, hw2, hq12, uS]
  clear uT uT12 uS
  have hlz : (zs.length : Int) < 9223372036854775808 := by unfold maxLen at hlen; omega
  have hK : ∃ K, K = min (zs.length / 2) 20 := ⟨_, rfl⟩
  obtain ⟨K, hK⟩ := hK
  have hll := hl.len
  generalize hc : iter _ _ _ _ = c
  obtain ⟨e1, L1, S1, rfl, hq⟩ := loop_of hc
    (fun r L S => ∃ j m sc v1 T1, j + r = K ∧ m = 2 * j ∧ L = vloc [l, .int .i64 n, .bool false, .int .i64 N, .int .i64 start, v1, .int .i64 (m : Nat), .undef, .undef, .undef, .undef, .undef, .undef, .undef, .undef] sc ∧
      LiveS S v1 (flat (edgesL zs N j)) T1)
    (fun e L S => e = .exit 0 ∧ ∃ m sc v1 T1, L = vloc [l, .int .i64 n, .bool false, .int .i64 N, .int .i64 start, v1, m, .undef, .undef, .undef, .undef, .undef, .undef, .undef, .undef] sc ∧
      LiveS S v1 (flat (edgesL zs N K)) T1)
    K (by omega)
    (by
      refine ⟨0, 0, _, .slice [] .full, none, by simp, rfl, rfl, ⟨.inr rfl, by simp⟩⟩)
    (by
      rintro r L S ⟨j, m, sc, v1, T1, hjk, hm, rfl, g1⟩ q hq1 hq2
      have hlen1 := g1.len
      have hw : IntKind.i64.wrap ((m : Int) + 1) = ((m : Int) + 1) := wrap_id (by omega) (by omega)
      have hw2 : IntKind.i64.wrap ((m : Int) + 2) = ((m : Int) + 2) := wrap_id (by omega) (by omega)
      rw [flat_length, edgesL_len, ← hm] at hlen1
      by_cases hj : j < K
      · have b1 : (m : Int) + 1 < (zs.length : Int) := by omega
        have b2 : (m : Int) < 40 := by omega
        have i1 := hl.index (j := m) (by omega)
        have i2 := hl.index (j := m + 1) (by omega)
        have hx : turnZ zs[m] N = (edgeAt zs N j).1 := by subst hm; simp [edgeAt, List.getD_eq_getElem?_getD, show 2 * j < zs.length by omega]
        have hy : turnZ (zs[m + 1]'(by omega)) N = (edgeAt zs N j).2 := by subst hm; simp [edgeAt, List.getD_eq_getElem?_getD, show 2 * j + 1 < zs.length by omega]
        obtain ⟨w1, Sa, c1, k1, k2, k3⟩ := g1.append [(edgeAt zs N j).1, (edgeAt zs N j).2] (by simp) (by simp [edgesL_len]; omega)
        have hcast : ((m + 1 : Nat) : Int) = (m : Int) + 1 := by omega
        rw [hcast] at i2
        simp only [ints, List.map_cons, List.map_nil] at c1
        simp [evalC_seq, evalC_region, runA_cons', runA_consN, runA_consG, guardR_true, guardR_false, guardV_bool, guardV_tup, runA_nil', inFrame, startLoc, startVals, Loc.clear, eff_move, eff_assign, eff_binOp, eff_build, eff_buildSlice, eff_alloc, eff_box, eff_store, eff_load, eff_fieldAddr, eff_field, eff_indexAddr, eff_slice, eff_extract, eff_pick, eff_unOp, eff_convert, eff_makeSlice, eff_makeFunc, eff_makeInterface, eff_nilCheck, eff_panic, eff_len1, eff_max2, eff_min2, eff_append2, eff_callV, stepE_val, contR_ok, contR_pan, outC_ok, outC_pan, thenC_normal, thenC_ret, thenC_exit, thenC_pan, blockC, evalC_ret, evalC_skip, evalC_exit, evalC_block, evalC_scope, evalC_loop, Loc.putO, Loc.put, idx, evO, constV, Loc.get, Vm.look, valO_some, bin_int, intA, evalC_cond, condC_true, condC_false, unwindA, resultsA, resultV, actA, pureA, storeA, loadA, fillE, repElems, TI.zeroV, fieldOf, fieldAddrA, fieldA, elemsA, retE, cells?_put_push, push_at, put_at, cellsOf?, Nat.add_assoc, n_push', n_put', isCell_undef, known_undef, cells_undef, isCell_bool, known_bool, cells_bool, isCell_int, known_int, cells_int, isCell_str, known_str, cells_str, isCell_nilp, known_nilp, cells_nilp, isCell_ptr, known_ptr, cells_ptr, isCell_rptr, known_rptr, cells_rptr, isCell_nils, known_nils, cells_nils, isCell_slice, known_slice, cells_slice, isCell_rsl, known_rsl, cells_rsl, isCell_nilm, known_nilm, cells_nilm, isCell_map, known_map, cells_map, isCell_fn, known_fn, cells_fn, isCell_yld, known_yld, cells_yld, isCell_nilf, known_nilf, cells_nilf, isCell_iface, known_iface, cells_iface, isCell_nili, known_nili, cells_nili, isCell_agg, known_agg, cells_agg, isCell_tup, known_tup, cells_tup, setCells, nowhere, GotF_some, Got_some, int_beq, int_bne, runC_nil, runC_cons, pickC_some, wantC_tt, wantC_tf, effC_val, ifC_true, checkC, inPairs, keepC, okC, readsC_load, readV_some, AV.beq_self, wantA_n, wantA_g, wantD_some, d0, vloc, hll, hw, hw2, b1, b2, hlen1, i1, i2, uM, hx, hy, c1]
        refine hq1 (r - 1) _ _ (by omega) ⟨j + 1, m + 2, _, w1, some S.n, by omega, by omega, rfl, ?_⟩
        · rw [edgesL_succ, flat_append]; exact k1
      · have hjl : j = K := by omega
        subst hjl
        rcases Classical.em ((m : Int) + 1 < (zs.length : Int)) with b1 | b1
        · have b2 : ¬ (m : Int) < 40 := by omega
          simp [evalC_seq, evalC_region, runA_cons', runA_consN, runA_consG, guardR_true, guardR_false, guardV_bool, guardV_tup, runA_nil', inFrame, startLoc, startVals, Loc.clear, eff_move, eff_assign, eff_binOp, eff_build, eff_buildSlice, eff_alloc, eff_box, eff_store, eff_load, eff_fieldAddr, eff_field, eff_indexAddr, eff_slice, eff_extract, eff_pick, eff_unOp, eff_convert, eff_makeSlice, eff_makeFunc, eff_makeInterface, eff_nilCheck, eff_panic, eff_len1, eff_max2, eff_min2, eff_append2, eff_callV, stepE_val, contR_ok, contR_pan, outC_ok, outC_pan, thenC_normal, thenC_ret, thenC_exit, thenC_pan, blockC, evalC_ret, evalC_skip, evalC_exit, evalC_block, evalC_scope, evalC_loop, Loc.putO, Loc.put, idx, evO, constV, Loc.get, Vm.look, valO_some, bin_int, intA, evalC_cond, condC_true, condC_false, unwindA, resultsA, resultV, actA, pureA, storeA, loadA, fillE, repElems, TI.zeroV, fieldOf, fieldAddrA, fieldA, elemsA, retE, cells?_put_push, push_at, put_at, cellsOf?, Nat.add_assoc, n_push', n_put', isCell_undef, known_undef, cells_undef, isCell_bool, known_bool, cells_bool, isCell_int, known_int, cells_int, isCell_str, known_str, cells_str, isCell_nilp, known_nilp, cells_nilp, isCell_ptr, known_ptr, cells_ptr, isCell_rptr, known_rptr, cells_rptr, isCell_nils, known_nils, cells_nils, isCell_slice, known_slice, cells_slice, isCell_rsl, known_rsl, cells_rsl, isCell_nilm, known_nilm, cells_nilm, isCell_map, known_map, cells_map, isCell_fn, known_fn, cells_fn, isCell_yld, known_yld, cells_yld, isCell_nilf, known_nilf, cells_nilf, isCell_iface, known_iface, cells_iface, isCell_nili, known_nili, cells_nili, isCell_agg, known_agg, cells_agg, isCell_tup, known_tup, cells_tup, setCells, nowhere, GotF_some, Got_some, int_beq, int_bne, vloc, hll, hw, b1, b2, hlen1]
          exact hq2 _ _ _ (by simp) ⟨rfl, _, _, v1, T1, rfl, g1⟩
        · simp [evalC_seq, evalC_region, runA_cons', runA_consN, runA_consG, guardR_true, guardR_false, guardV_bool, guardV_tup, runA_nil', inFrame, startLoc, startVals, Loc.clear, eff_move, eff_assign, eff_binOp, eff_build, eff_buildSlice, eff_alloc, eff_box, eff_store, eff_load, eff_fieldAddr, eff_field, eff_indexAddr, eff_slice, eff_extract, eff_pick, eff_unOp, eff_convert, eff_makeSlice, eff_makeFunc, eff_makeInterface, eff_nilCheck, eff_panic, eff_len1, eff_max2, eff_min2, eff_append2, eff_callV, stepE_val, contR_ok, contR_pan, outC_ok, outC_pan, thenC_normal, thenC_ret, thenC_exit, thenC_pan, blockC, evalC_ret, evalC_skip, evalC_exit, evalC_block, evalC_scope, evalC_loop, Loc.putO, Loc.put, idx, evO, constV, Loc.get, Vm.look, valO_some, bin_int, intA, evalC_cond, condC_true, condC_false, unwindA, resultsA, resultV, actA, pureA, storeA, loadA, fillE, repElems, TI.zeroV, fieldOf, fieldAddrA, fieldA, elemsA, retE, cells?_put_push, push_at, put_at, cellsOf?, Nat.add_assoc, n_push', n_put', isCell_undef, known_undef, cells_undef, isCell_bool, known_bool, cells_bool, isCell_int, known_int, cells_int, isCell_str, known_str, cells_str, isCell_nilp, known_nilp, cells_nilp, isCell_ptr, known_ptr, cells_ptr, isCell_rptr, known_rptr, cells_rptr, isCell_nils, known_nils, cells_nils, isCell_slice, known_slice, cells_slice, isCell_rsl, known_rsl, cells_rsl, isCell_nilm, known_nilm, cells_nilm, isCell_map, known_map, cells_map, isCell_fn, known_fn, cells_fn, isCell_yld, known_yld, cells_yld, isCell_nilf, known_nilf, cells_nilf, isCell_iface, known_iface, cells_iface, isCell_nili, known_nili, cells_nili, isCell_agg, known_agg, cells_agg, isCell_tup, known_tup, cells_tup, setCells, nowhere, GotF_some, Got_some, int_beq, int_bne, vloc, hll, hw, b1]
          exact hq2 _ _ _ (by simp) ⟨rfl, _, _, v1, T1, rfl, g1⟩)
  obtain ⟨rfl, m, sc, v1, T1, rfl, g1⟩ := hq
  obtain ⟨tk1, rfl⟩ := g1.cases
  have hin := edgesL_in zs hN1 K
  have hEl := edgesL_len zs N K
  generalize edgesL zs N K = es at *
  have uW := fun (m : Nat) (a : Int) (S : St) => word_use (cs := csT) rfl (n := m) (a := a) (S := S)
  have uP := fun (m : Nat) (a b : GV) (S : St) => pair_use (cs := csT) rfl (n := m) (a := a) (b := b) (S := S)
  have uQ1 := fun (m : Nat) (S : St) => pairs_use (cs := csT) rfl (n := m) (v := .slice (ints (flat es)) tk1) (es := es) (S := S) (by simp [AV.dead]) (by omega)
  obtain ⟨d, hD, uD⟩ := distD_use (cs := csT) rfl hN1 (by omega) hsN (by omega) hin
  have uL := fun (m : Nat) (S : St) => list_use (cs := csT) rfl (n := m) (S := S) (zs := d) (by have := hD.len; omega)
  have kA := gv_lst (l := d.map .num)
  simp only [nums, GV.enc.eq_3, sv] at uD uL
  simp only [nDist] at uD
  generalize lst (GV.encs (d.map .num)) = XA at *
  have hlA : lenA ED 22 (.slice (ints d) .dead) = some (.int .i64 N) := by rw [len_ints, hD.len]
  have hb1 := cells?_put_push S1 (.cells [.int .i64 0, .int .i64 0, .nils]) [.int .i64 4, .int .i64 0, XA]
  simp [evalC_seq, evalC_region, runA_cons', runA_consN, runA_consG, guardR_true, guardR_false, guardV_bool, guardV_tup, runA_nil', inFrame, startLoc, startVals, Loc.clear, eff_move, eff_assign, eff_binOp, eff_build, eff_buildSlice, eff_alloc, eff_box, eff_store, eff_load, eff_fieldAddr, eff_field, eff_indexAddr, eff_slice, eff_extract, eff_pick, eff_unOp, eff_convert, eff_makeSlice, eff_makeFunc, eff_makeInterface, eff_nilCheck, eff_panic, eff_len1, eff_max2, eff_min2, eff_append2, eff_callV, stepE_val, contR_ok, contR_pan, outC_ok, outC_pan, thenC_normal, thenC_ret, thenC_exit, thenC_pan, blockC, evalC_ret, evalC_skip, evalC_exit, evalC_block, evalC_scope, evalC_loop, Loc.putO, Loc.put, idx, evO, constV, Loc.get, Vm.look, valO_some, bin_int, intA, evalC_cond, condC_true, condC_false, unwindA, resultsA, resultV, actA, pureA, storeA, loadA, fillE, repElems, TI.zeroV, fieldOf, fieldAddrA, fieldA, elemsA, retE, cells?_put_push, push_at, put_at, cellsOf?, Nat.add_assoc, n_push', n_put', isCell_undef, known_undef, cells_undef, isCell_bool, known_bool, cells_bool, isCell_int, known_int, cells_int, isCell_str, known_str, cells_str, isCell_nilp, known_nilp, cells_nilp, isCell_ptr, known_ptr, cells_ptr, isCell_rptr, known_rptr, cells_rptr, isCell_nils, known_nils, cells_nils, isCell_slice, known_slice, cells_slice, isCell_rsl, known_rsl, cells_rsl, isCell_nilm, known_nilm, cells_nilm, isCell_map, known_map, cells_map, isCell_fn, known_fn, cells_fn, isCell_yld, known_yld, cells_yld, isCell_nilf, known_nilf, cells_nilf, isCell_iface, known_iface, cells_iface, isCell_nili, known_nili, cells_nili, isCell_agg, known_agg, cells_agg, isCell_tup, known_tup, cells_tup, setCells, nowhere, GotF_some, Got_some, int_beq, int_bne, runC_nil, runC_cons, pickC_some, wantC_tt, wantC_tf, effC_val, ifC_true, checkC, inPairs, keepC, okC, readsC_load, readV_some, AV.beq_self, wantA_n, wantA_g, wantD_some, vloc, uW, uP, uQ1, uD, kA, uL, hb1, hlA]
  have hE20 : es.length < 99 := by omega
  have hAi : ∀ (k : Nat) (hk : k < N), indexAddrA ED 22 (.slice (ints d) .dead) (.int .i64 k) = some (.rptr [.int .i64 (d.getD k 0)]) := by
    intro k hk
    have hkk : k < d.length := by rw [hD.len]; exact hk
    rw [index_ints (by omega) (by simpa using hkk)]
    simp [List.getD_eq_getElem?_getD, hkk]
  generalize hc : iter _ _ _ _ = c
  obtain ⟨e1, L1, S3, rfl, hq⟩ := loop_of hc
    (fun r L S => ∃ j a13 a14 a15 a16 sc, j + r = N ∧ L = vloc [l, .int .i64 n, .bool false, .int .i64 N, .int .i64 start, .slice (ints (flat es)) tk1, m, .ptr S1.n 0, .int .i64 0, .slice (ints d) .dead, .int .i64 (j : Nat), a13, a14, a15, a16] sc)
    (fun e L S => e = .exit 2 ∧ ∃ a12 a13 a14 a15 a16 sc, L = vloc [l, .int .i64 n, .bool false, .int .i64 N, .int .i64 start, .slice (ints (flat es)) tk1, m, .ptr S1.n 0, .int .i64 0, .slice (ints d) .dead, a12, a13, a14, a15, a16] sc)
    N (by omega)
    ⟨0, _, _, _, _, _, by simp, rfl⟩
    (by
      rintro r L S ⟨j, a13, a14, a15, a16, sc, hjk, rfl⟩ q hq1 hq2
      by_cases hj : j < N
      · have hw : IntKind.i64.wrap ((j : Int) + 1) = ((j : Int) + 1) := wrap_id (by omega) (by omega)
        have y1 := hAi j hj
        have hlow := hD.low j hj
        have hzero := hD.zero j hj
        have hhigh := hD.high j hj
        have hnear := hD.near j hj
        have hlow' : ¬ d.getD j 0 < -1 := by omega
        generalize hdj : d.getD j 0 = dj at *
        have hdec : (decide (dj = 0) != decide ((j : Int) = (start : Int))) = false := by
          by_cases h : dj = 0
          · have h2 : (j : Int) = (start : Int) := by have := hzero.1 h; omega
            rw [decide_eq_true h, decide_eq_true h2]; rfl
          · have h2 : ¬ (j : Int) = (start : Int) := fun e => h (hzero.2 (by omega))
            rw [decide_eq_false h, decide_eq_false h2]; rfl
        have hne : binA ED .neq 4 (Operand.tmp 85) (Operand.tmp 88) (.bool (decide (dj = 0))) (.bool (decide ((j : Int) = (start : Int)))) = some (.bool false) := by rw [neq_bool, hdec]
        simp [evalC_seq, evalC_region, runA_cons', runA_consN, runA_consG, guardR_true, guardR_false, guardV_bool, guardV_tup, runA_nil', inFrame, startLoc, startVals, Loc.clear, eff_move, eff_assign, eff_binOp, eff_build, eff_buildSlice, eff_alloc, eff_box, eff_store, eff_load, eff_fieldAddr, eff_field, eff_indexAddr, eff_slice, eff_extract, eff_pick, eff_unOp, eff_convert, eff_makeSlice, eff_makeFunc, eff_makeInterface, eff_nilCheck, eff_panic, eff_len1, eff_max2, eff_min2, eff_append2, eff_callV, stepE_val, contR_ok, contR_pan, outC_ok, outC_pan, thenC_normal, thenC_ret, thenC_exit, thenC_pan, blockC, evalC_ret, evalC_skip, evalC_exit, evalC_block, evalC_scope, evalC_loop, Loc.putO, Loc.put, idx, evO, constV, Loc.get, Vm.look, valO_some, bin_int, intA, evalC_cond, condC_true, condC_false, unwindA, resultsA, resultV, actA, pureA, storeA, loadA, fillE, repElems, TI.zeroV, fieldOf, fieldAddrA, fieldA, elemsA, retE, cells?_put_push, push_at, put_at, cellsOf?, Nat.add_assoc, n_push', n_put', isCell_undef, known_undef, cells_undef, isCell_bool, known_bool, cells_bool, isCell_int, known_int, cells_int, isCell_str, known_str, cells_str, isCell_nilp, known_nilp, cells_nilp, isCell_ptr, known_ptr, cells_ptr, isCell_rptr, known_rptr, cells_rptr, isCell_nils, known_nils, cells_nils, isCell_slice, known_slice, cells_slice, isCell_rsl, known_rsl, cells_rsl, isCell_nilm, known_nilm, cells_nilm, isCell_map, known_map, cells_map, isCell_fn, known_fn, cells_fn, isCell_yld, known_yld, cells_yld, isCell_nilf, known_nilf, cells_nilf, isCell_iface, known_iface, cells_iface, isCell_nili, known_nili, cells_nili, isCell_agg, known_agg, cells_agg, isCell_tup, known_tup, cells_tup, setCells, nowhere, GotF_some, Got_some, int_beq, int_bne, vloc, hj, y1, hne, hlow']
        generalize hc2 : iter _ _ _ _ = c2
        have hle : lenA ED 22 (.slice (ints (flat es)) tk1) = some (.int .i64 ((2 * es.length : Nat) : Int)) := by rw [len_ints, flat_length]
        generalize hM : 2 * es.length = M at hle
        obtain ⟨e2, L2, S2, rfl, hq'⟩ := loop_of hc2
          (fun r2 L S => ∃ k i B a15 a16 sc, k + r2 = es.length ∧ i = 2 * k ∧ (B = true ↔ dj ≤ 0 ∨ NearP d j dj (es.take k)) ∧
            L = vloc [l, .int .i64 n, .bool false, .int .i64 N, .int .i64 start, .slice (ints (flat es)) tk1, m, .ptr S1.n 0, .int .i64 0, .slice (ints d) .dead, .int .i64 (j : Nat), .bool B, .int .i64 (i : Nat), a15, a16] sc)
          (fun e L S => e = .exit 4 ∧ ∃ i a15 a16 sc, L = vloc [l, .int .i64 n, .bool false, .int .i64 N, .int .i64 start, .slice (ints (flat es)) tk1, m, .ptr S1.n 0, .int .i64 0, .slice (ints d) .dead, .int .i64 (j : Nat), .bool true, i, a15, a16] sc)
          es.length hE20
          ⟨0, 0, decide (dj ≤ 0), _, _, _, by simp, rfl, by simp [NearP], rfl⟩
          (by
            rintro r2 L S ⟨k, i, B, a15, a16, sc, hkk, hi, hB, rfl⟩ q' hq1' hq2'
            have hwi : IntKind.i64.wrap ((i : Int) + 1) = ((i : Int) + 1) := wrap_id (by omega) (by omega)
            have hwi2 : IntKind.i64.wrap ((i : Int) + 2) = ((i : Int) + 2) := wrap_id (by omega) (by omega)
            by_cases hk : k < es.length
            · have hb : (i : Int) + 1 < (M : Int) := by omega
              have x1 : indexAddrA ED 22 (.slice (ints (flat es)) tk1) (.int .i64 i) = some (.rptr [.int .i64 es[k].1]) := by
                rw [index_ints (by omega) (by simp; omega)]
                have := flat_get0 hk
                simp only [Int.toNat_natCast, hi, this]
              have x2 : indexAddrA ED 22 (.slice (ints (flat es)) tk1) (.int .i64 ((i : Int) + 1)) = some (.rptr [.int .i64 es[k].2]) := by
                rw [index_ints (by omega) (by simp; omega)]
                have := flat_get1 hk
                simp only [show ((i : Int) + 1).toNat = 2 * k + 1 by omega, this]
              have he := hD.edge es[k] (List.getElem_mem hk)
              have hlowx := hD.low es[k].1.toNat
              have hhighx := hD.high es[k].1.toNat
              obtain ⟨⟨p0, p1⟩, p2, p3⟩ := hin es[k] (List.getElem_mem hk)
              have hBn : ∀ B' : Bool, (B' = true ↔ B = true ∨ (es[k].2.toNat = j ∧ 0 ≤ d.getD es[k].1.toNat 0 ∧ dj = d.getD es[k].1.toNat 0 + 1)) →
                  (B' = true ↔ dj ≤ 0 ∨ NearP d j dj (es.take (k + 1))) := by
                intro B' h
                rw [h, hB, List.take_add_one, List.getElem?_eq_getElem hk]
                constructor
                · rintro ((h | ⟨e, h1, h2⟩) | h)
                  · exact .inl h
                  · exact .inr ⟨e, List.mem_append.2 (.inl h1), h2⟩
                  · exact .inr ⟨es[k], List.mem_append.2 (.inr (by simp)), h⟩
                · rintro (h | ⟨e, h1, h2⟩)
                  · exact .inl (.inl h)
                  · rcases List.mem_append.1 h1 with h1 | h1
                    · exact .inl (.inr ⟨e, h1, h2⟩)
                    · have : e = es[k] := by simpa using h1
                      subst this
                      exact .inr h2
              obtain ⟨x, hx⟩ := Int.eq_ofNat_of_zero_le p0
              obtain ⟨y, hy⟩ := Int.eq_ofNat_of_zero_le p2
              rw [hx, hy] at he hBn
              rw [hx] at x1 p1 hlowx hhighx
              rw [hy] at x2 p3
              have a1 := hAi x (by omega)
              simp only [Int.toNat_natCast] at he hBn hlowx hhighx
              have hxl := hlowx (by omega)
              have hxh := hhighx (by omega)
              clear hlowx hhighx
              have hwx : IntKind.i64.wrap (d.getD x 0 + 1) = d.getD x 0 + 1 := wrap_id (by omega) (by omega)
              have fin : ∀ B' : Bool, ∀ sc, (B' = true ↔ B = true ∨ (y = j ∧ 0 ≤ d.getD x 0 ∧ dj = d.getD x 0 + 1)) →
                  q' .normal (vloc [l, .int .i64 n, .bool false, .int .i64 N, .int .i64 start, .slice (ints (flat es)) tk1, m, .ptr S1.n 0, .int .i64 0, .slice (ints d) .dead, .int .i64 (j : Nat), .bool B', .int .i64 ((i : Int) + 2), .int .i64 x, .int .i64 y] sc) S :=
                fun B' sc h => hq1' (r2 - 1) _ _ (by omega) ⟨k + 1, i + 2, B', _, _, sc, by omega, by omega, hBn B' h, rfl⟩
              clear hBn
              by_cases hyj : y = j
              · subst hyj
                rw [hdj] at he
                generalize d.getD x 0 = dx at *
                by_cases hx0 : 0 ≤ dx
                · obtain ⟨he1, he2⟩ := he hx0
                  have n1 : ¬ dj < 0 := by omega
                  have n2 : ¬ dx + 1 < dj := by omega
                  cases B with
                  | true =>
                    simp [evalC_seq, evalC_region, runA_cons', runA_consN, runA_consG, guardR_true, guardR_false, guardV_bool, guardV_tup, runA_nil', inFrame, startLoc, startVals, Loc.clear, eff_move, eff_assign, eff_binOp, eff_build, eff_buildSlice, eff_alloc, eff_box, eff_store, eff_load, eff_fieldAddr, eff_field, eff_indexAddr, eff_slice, eff_extract, eff_pick, eff_unOp, eff_convert, eff_makeSlice, eff_makeFunc, eff_makeInterface, eff_nilCheck, eff_panic, eff_len1, eff_max2, eff_min2, eff_append2, eff_callV, stepE_val, contR_ok, contR_pan, outC_ok, outC_pan, thenC_normal, thenC_ret, thenC_exit, thenC_pan, blockC, evalC_ret, evalC_skip, evalC_exit, evalC_block, evalC_scope, evalC_loop, Loc.putO, Loc.put, idx, evO, constV, Loc.get, Vm.look, valO_some, bin_int, intA, evalC_cond, condC_true, condC_false, unwindA, resultsA, resultV, actA, pureA, storeA, loadA, fillE, repElems, TI.zeroV, fieldOf, fieldAddrA, fieldA, elemsA, retE, cells?_put_push, push_at, put_at, cellsOf?, Nat.add_assoc, n_push', n_put', isCell_undef, known_undef, cells_undef, isCell_bool, known_bool, cells_bool, isCell_int, known_int, cells_int, isCell_str, known_str, cells_str, isCell_nilp, known_nilp, cells_nilp, isCell_ptr, known_ptr, cells_ptr, isCell_rptr, known_rptr, cells_rptr, isCell_nils, known_nils, cells_nils, isCell_slice, known_slice, cells_slice, isCell_rsl, known_rsl, cells_rsl, isCell_nilm, known_nilm, cells_nilm, isCell_map, known_map, cells_map, isCell_fn, known_fn, cells_fn, isCell_yld, known_yld, cells_yld, isCell_nilf, known_nilf, cells_nilf, isCell_iface, known_iface, cells_iface, isCell_nili, known_nili, cells_nili, isCell_agg, known_agg, cells_agg, isCell_tup, known_tup, cells_tup, setCells, nowhere, GotF_some, Got_some, int_beq, int_bne, runC_nil, runC_cons, pickC_some, wantC_tt, wantC_tf, effC_val, ifC_true, checkC, inPairs, keepC, okC, readsC_load, readV_some, AV.beq_self, wantA_n, wantA_g, wantD_some, d1, d2, d3, vloc, hle, hwi, hwi2, hb, x1, x2, a1, y1, hx0, n1, n2, hwx]
                    exact fin true _ (by simp)
                  | false =>
                    simp [evalC_seq, evalC_region, runA_cons', runA_consN, runA_consG, guardR_true, guardR_false, guardV_bool, guardV_tup, runA_nil', inFrame, startLoc, startVals, Loc.clear, eff_move, eff_assign, eff_binOp, eff_build, eff_buildSlice, eff_alloc, eff_box, eff_store, eff_load, eff_fieldAddr, eff_field, eff_indexAddr, eff_slice, eff_extract, eff_pick, eff_unOp, eff_convert, eff_makeSlice, eff_makeFunc, eff_makeInterface, eff_nilCheck, eff_panic, eff_len1, eff_max2, eff_min2, eff_append2, eff_callV, stepE_val, contR_ok, contR_pan, outC_ok, outC_pan, thenC_normal, thenC_ret, thenC_exit, thenC_pan, blockC, evalC_ret, evalC_skip, evalC_exit, evalC_block, evalC_scope, evalC_loop, Loc.putO, Loc.put, idx, evO, constV, Loc.get, Vm.look, valO_some, bin_int, intA, evalC_cond, condC_true, condC_false, unwindA, resultsA, resultV, actA, pureA, storeA, loadA, fillE, repElems, TI.zeroV, fieldOf, fieldAddrA, fieldA, elemsA, retE, cells?_put_push, push_at, put_at, cellsOf?, Nat.add_assoc, n_push', n_put', isCell_undef, known_undef, cells_undef, isCell_bool, known_bool, cells_bool, isCell_int, known_int, cells_int, isCell_str, known_str, cells_str, isCell_nilp, known_nilp, cells_nilp, isCell_ptr, known_ptr, cells_ptr, isCell_rptr, known_rptr, cells_rptr, isCell_nils, known_nils, cells_nils, isCell_slice, known_slice, cells_slice, isCell_rsl, known_rsl, cells_rsl, isCell_nilm, known_nilm, cells_nilm, isCell_map, known_map, cells_map, isCell_fn, known_fn, cells_fn, isCell_yld, known_yld, cells_yld, isCell_nilf, known_nilf, cells_nilf, isCell_iface, known_iface, cells_iface, isCell_nili, known_nili, cells_nili, isCell_agg, known_agg, cells_agg, isCell_tup, known_tup, cells_tup, setCells, nowhere, GotF_some, Got_some, int_beq, int_bne, runC_nil, runC_cons, pickC_some, wantC_tt, wantC_tf, effC_val, ifC_true, checkC, inPairs, keepC, okC, readsC_load, readV_some, AV.beq_self, wantA_n, wantA_g, wantD_some, d1, d2, d3, vloc, hle, hwi, hwi2, hb, x1, x2, a1, y1, hx0, n1, n2, hwx]
                    exact fin _ _ (by simp [hx0])
                · cases B with
                  | true =>
                    simp [evalC_seq, evalC_region, runA_cons', runA_consN, runA_consG, guardR_true, guardR_false, guardV_bool, guardV_tup, runA_nil', inFrame, startLoc, startVals, Loc.clear, eff_move, eff_assign, eff_binOp, eff_build, eff_buildSlice, eff_alloc, eff_box, eff_store, eff_load, eff_fieldAddr, eff_field, eff_indexAddr, eff_slice, eff_extract, eff_pick, eff_unOp, eff_convert, eff_makeSlice, eff_makeFunc, eff_makeInterface, eff_nilCheck, eff_panic, eff_len1, eff_max2, eff_min2, eff_append2, eff_callV, stepE_val, contR_ok, contR_pan, outC_ok, outC_pan, thenC_normal, thenC_ret, thenC_exit, thenC_pan, blockC, evalC_ret, evalC_skip, evalC_exit, evalC_block, evalC_scope, evalC_loop, Loc.putO, Loc.put, idx, evO, constV, Loc.get, Vm.look, valO_some, bin_int, intA, evalC_cond, condC_true, condC_false, unwindA, resultsA, resultV, actA, pureA, storeA, loadA, fillE, repElems, TI.zeroV, fieldOf, fieldAddrA, fieldA, elemsA, retE, cells?_put_push, push_at, put_at, cellsOf?, Nat.add_assoc, n_push', n_put', isCell_undef, known_undef, cells_undef, isCell_bool, known_bool, cells_bool, isCell_int, known_int, cells_int, isCell_str, known_str, cells_str, isCell_nilp, known_nilp, cells_nilp, isCell_ptr, known_ptr, cells_ptr, isCell_rptr, known_rptr, cells_rptr, isCell_nils, known_nils, cells_nils, isCell_slice, known_slice, cells_slice, isCell_rsl, known_rsl, cells_rsl, isCell_nilm, known_nilm, cells_nilm, isCell_map, known_map, cells_map, isCell_fn, known_fn, cells_fn, isCell_yld, known_yld, cells_yld, isCell_nilf, known_nilf, cells_nilf, isCell_iface, known_iface, cells_iface, isCell_nili, known_nili, cells_nili, isCell_agg, known_agg, cells_agg, isCell_tup, known_tup, cells_tup, setCells, nowhere, GotF_some, Got_some, int_beq, int_bne, runC_nil, runC_cons, pickC_some, wantC_tt, wantC_tf, effC_val, ifC_true, checkC, inPairs, keepC, okC, readsC_load, readV_some, AV.beq_self, wantA_n, wantA_g, wantD_some, d1, d2, d3, vloc, hle, hwi, hwi2, hb, x1, x2, a1, y1, hx0, hwx]
                    exact fin true _ (by simp)
                  | false =>
                    simp [evalC_seq, evalC_region, runA_cons', runA_consN, runA_consG, guardR_true, guardR_false, guardV_bool, guardV_tup, runA_nil', inFrame, startLoc, startVals, Loc.clear, eff_move, eff_assign, eff_binOp, eff_build, eff_buildSlice, eff_alloc, eff_box, eff_store, eff_load, eff_fieldAddr, eff_field, eff_indexAddr, eff_slice, eff_extract, eff_pick, eff_unOp, eff_convert, eff_makeSlice, eff_makeFunc, eff_makeInterface, eff_nilCheck, eff_panic, eff_len1, eff_max2, eff_min2, eff_append2, eff_callV, stepE_val, contR_ok, contR_pan, outC_ok, outC_pan, thenC_normal, thenC_ret, thenC_exit, thenC_pan, blockC, evalC_ret, evalC_skip, evalC_exit, evalC_block, evalC_scope, evalC_loop, Loc.putO, Loc.put, idx, evO, constV, Loc.get, Vm.look, valO_some, bin_int, intA, evalC_cond, condC_true, condC_false, unwindA, resultsA, resultV, actA, pureA, storeA, loadA, fillE, repElems, TI.zeroV, fieldOf, fieldAddrA, fieldA, elemsA, retE, cells?_put_push, push_at, put_at, cellsOf?, Nat.add_assoc, n_push', n_put', isCell_undef, known_undef, cells_undef, isCell_bool, known_bool, cells_bool, isCell_int, known_int, cells_int, isCell_str, known_str, cells_str, isCell_nilp, known_nilp, cells_nilp, isCell_ptr, known_ptr, cells_ptr, isCell_rptr, known_rptr, cells_rptr, isCell_nils, known_nils, cells_nils, isCell_slice, known_slice, cells_slice, isCell_rsl, known_rsl, cells_rsl, isCell_nilm, known_nilm, cells_nilm, isCell_map, known_map, cells_map, isCell_fn, known_fn, cells_fn, isCell_yld, known_yld, cells_yld, isCell_nilf, known_nilf, cells_nilf, isCell_iface, known_iface, cells_iface, isCell_nili, known_nili, cells_nili, isCell_agg, known_agg, cells_agg, isCell_tup, known_tup, cells_tup, setCells, nowhere, GotF_some, Got_some, int_beq, int_bne, runC_nil, runC_cons, pickC_some, wantC_tt, wantC_tf, effC_val, ifC_true, checkC, inPairs, keepC, okC, readsC_load, readV_some, AV.beq_self, wantA_n, wantA_g, wantD_some, d1, d2, d3, vloc, hle, hwi, hwi2, hb, x1, x2, a1, y1, hx0, hwx]
                    exact fin _ _ (by simp [hx0])
              · have hyj' : ¬ (y : Int) = (j : Int) := by omega
                cases B with
                | true =>
                  simp [evalC_seq, evalC_region, runA_cons', runA_consN, runA_consG, guardR_true, guardR_false, guardV_bool, guardV_tup, runA_nil', inFrame, startLoc, startVals, Loc.clear, eff_move, eff_assign, eff_binOp, eff_build, eff_buildSlice, eff_alloc, eff_box, eff_store, eff_load, eff_fieldAddr, eff_field, eff_indexAddr, eff_slice, eff_extract, eff_pick, eff_unOp, eff_convert, eff_makeSlice, eff_makeFunc, eff_makeInterface, eff_nilCheck, eff_panic, eff_len1, eff_max2, eff_min2, eff_append2, eff_callV, stepE_val, contR_ok, contR_pan, outC_ok, outC_pan, thenC_normal, thenC_ret, thenC_exit, thenC_pan, blockC, evalC_ret, evalC_skip, evalC_exit, evalC_block, evalC_scope, evalC_loop, Loc.putO, Loc.put, idx, evO, constV, Loc.get, Vm.look, valO_some, bin_int, intA, evalC_cond, condC_true, condC_false, unwindA, resultsA, resultV, actA, pureA, storeA, loadA, fillE, repElems, TI.zeroV, fieldOf, fieldAddrA, fieldA, elemsA, retE, cells?_put_push, push_at, put_at, cellsOf?, Nat.add_assoc, n_push', n_put', isCell_undef, known_undef, cells_undef, isCell_bool, known_bool, cells_bool, isCell_int, known_int, cells_int, isCell_str, known_str, cells_str, isCell_nilp, known_nilp, cells_nilp, isCell_ptr, known_ptr, cells_ptr, isCell_rptr, known_rptr, cells_rptr, isCell_nils, known_nils, cells_nils, isCell_slice, known_slice, cells_slice, isCell_rsl, known_rsl, cells_rsl, isCell_nilm, known_nilm, cells_nilm, isCell_map, known_map, cells_map, isCell_fn, known_fn, cells_fn, isCell_yld, known_yld, cells_yld, isCell_nilf, known_nilf, cells_nilf, isCell_iface, known_iface, cells_iface, isCell_nili, known_nili, cells_nili, isCell_agg, known_agg, cells_agg, isCell_tup, known_tup, cells_tup, setCells, nowhere, GotF_some, Got_some, int_beq, int_bne, runC_nil, runC_cons, pickC_some, wantC_tt, wantC_tf, effC_val, ifC_true, checkC, inPairs, keepC, okC, readsC_load, readV_some, AV.beq_self, wantA_n, wantA_g, wantD_some, d1, d2, d3, vloc, hle, hwi, hwi2, hb, x1, x2, hyj, hyj']
                  exact fin true _ (by simp)
                | false =>
                  simp [evalC_seq, evalC_region, runA_cons', runA_consN, runA_consG, guardR_true, guardR_false, guardV_bool, guardV_tup, runA_nil', inFrame, startLoc, startVals, Loc.clear, eff_move, eff_assign, eff_binOp, eff_build, eff_buildSlice, eff_alloc, eff_box, eff_store, eff_load, eff_fieldAddr, eff_field, eff_indexAddr, eff_slice, eff_extract, eff_pick, eff_unOp, eff_convert, eff_makeSlice, eff_makeFunc, eff_makeInterface, eff_nilCheck, eff_panic, eff_len1, eff_max2, eff_min2, eff_append2, eff_callV, stepE_val, contR_ok, contR_pan, outC_ok, outC_pan, thenC_normal, thenC_ret, thenC_exit, thenC_pan, blockC, evalC_ret, evalC_skip, evalC_exit, evalC_block, evalC_scope, evalC_loop, Loc.putO, Loc.put, idx, evO, constV, Loc.get, Vm.look, valO_some, bin_int, intA, evalC_cond, condC_true, condC_false, unwindA, resultsA, resultV, actA, pureA, storeA, loadA, fillE, repElems, TI.zeroV, fieldOf, fieldAddrA, fieldA, elemsA, retE, cells?_put_push, push_at, put_at, cellsOf?, Nat.add_assoc, n_push', n_put', isCell_undef, known_undef, cells_undef, isCell_bool, known_bool, cells_bool, isCell_int, known_int, cells_int, isCell_str, known_str, cells_str, isCell_nilp, known_nilp, cells_nilp, isCell_ptr, known_ptr, cells_ptr, isCell_rptr, known_rptr, cells_rptr, isCell_nils, known_nils, cells_nils, isCell_slice, known_slice, cells_slice, isCell_rsl, known_rsl, cells_rsl, isCell_nilm, known_nilm, cells_nilm, isCell_map, known_map, cells_map, isCell_fn, known_fn, cells_fn, isCell_yld, known_yld, cells_yld, isCell_nilf, known_nilf, cells_nilf, isCell_iface, known_iface, cells_iface, isCell_nili, known_nili, cells_nili, isCell_agg, known_agg, cells_agg, isCell_tup, known_tup, cells_tup, setCells, nowhere, GotF_some, Got_some, int_beq, int_bne, runC_nil, runC_cons, pickC_some, wantC_tt, wantC_tf, effC_val, ifC_true, checkC, inPairs, keepC, okC, readsC_load, readV_some, AV.beq_self, wantA_n, wantA_g, wantD_some, d1, d2, d3, vloc, hle, hwi, hwi2, hb, x1, x2, hyj, hyj']
                  exact fin false _ (by simp [hyj])
            · have hb : ¬ (i : Int) + 1 < (M : Int) := by omega
              have hkl : k = es.length := by omega
              subst hkl
              have hBt : B = true := by
                rw [hB, List.take_length]
                by_cases h : dj ≤ 0
                · exact .inl h
                · exact .inr (hnear (by omega))
              subst hBt
              simp [evalC_seq, evalC_region, runA_cons', runA_consN, runA_consG, guardR_true, guardR_false, guardV_bool, guardV_tup, runA_nil', inFrame, startLoc, startVals, Loc.clear, eff_move, eff_assign, eff_binOp, eff_build, eff_buildSlice, eff_alloc, eff_box, eff_store, eff_load, eff_fieldAddr, eff_field, eff_indexAddr, eff_slice, eff_extract, eff_pick, eff_unOp, eff_convert, eff_makeSlice, eff_makeFunc, eff_makeInterface, eff_nilCheck, eff_panic, eff_len1, eff_max2, eff_min2, eff_append2, eff_callV, stepE_val, contR_ok, contR_pan, outC_ok, outC_pan, thenC_normal, thenC_ret, thenC_exit, thenC_pan, blockC, evalC_ret, evalC_skip, evalC_exit, evalC_block, evalC_scope, evalC_loop, Loc.putO, Loc.put, idx, evO, constV, Loc.get, Vm.look, valO_some, bin_int, intA, evalC_cond, condC_true, condC_false, unwindA, resultsA, resultV, actA, pureA, storeA, loadA, fillE, repElems, TI.zeroV, fieldOf, fieldAddrA, fieldA, elemsA, retE, cells?_put_push, push_at, put_at, cellsOf?, Nat.add_assoc, n_push', n_put', isCell_undef, known_undef, cells_undef, isCell_bool, known_bool, cells_bool, isCell_int, known_int, cells_int, isCell_str, known_str, cells_str, isCell_nilp, known_nilp, cells_nilp, isCell_ptr, known_ptr, cells_ptr, isCell_rptr, known_rptr, cells_rptr, isCell_nils, known_nils, cells_nils, isCell_slice, known_slice, cells_slice, isCell_rsl, known_rsl, cells_rsl, isCell_nilm, known_nilm, cells_nilm, isCell_map, known_map, cells_map, isCell_fn, known_fn, cells_fn, isCell_yld, known_yld, cells_yld, isCell_nilf, known_nilf, cells_nilf, isCell_iface, known_iface, cells_iface, isCell_nili, known_nili, cells_nili, isCell_agg, known_agg, cells_agg, isCell_tup, known_tup, cells_tup, setCells, nowhere, GotF_some, Got_some, int_beq, int_bne, vloc, hle, hwi, hb]
              exact hq2' _ _ _ (by simp) ⟨rfl, _, _, _, _, rfl⟩)
        obtain ⟨rfl, i', a15', a16', sc', rfl⟩ := hq'
        simp [evalC_seq, evalC_region, runA_cons', runA_consN, runA_consG, guardR_true, guardR_false, guardV_bool, guardV_tup, runA_nil', inFrame, startLoc, startVals, Loc.clear, eff_move, eff_assign, eff_binOp, eff_build, eff_buildSlice, eff_alloc, eff_box, eff_store, eff_load, eff_fieldAddr, eff_field, eff_indexAddr, eff_slice, eff_extract, eff_pick, eff_unOp, eff_convert, eff_makeSlice, eff_makeFunc, eff_makeInterface, eff_nilCheck, eff_panic, eff_len1, eff_max2, eff_min2, eff_append2, eff_callV, stepE_val, contR_ok, contR_pan, outC_ok, outC_pan, thenC_normal, thenC_ret, thenC_exit, thenC_pan, blockC, evalC_ret, evalC_skip, evalC_exit, evalC_block, evalC_scope, evalC_loop, Loc.putO, Loc.put, idx, evO, constV, Loc.get, Vm.look, valO_some, bin_int, intA, evalC_cond, condC_true, condC_false, unwindA, resultsA, resultV, actA, pureA, storeA, loadA, fillE, repElems, TI.zeroV, fieldOf, fieldAddrA, fieldA, elemsA, retE, cells?_put_push, push_at, put_at, cellsOf?, Nat.add_assoc, n_push', n_put', isCell_undef, known_undef, cells_undef, isCell_bool, known_bool, cells_bool, isCell_int, known_int, cells_int, isCell_str, known_str, cells_str, isCell_nilp, known_nilp, cells_nilp, isCell_ptr, known_ptr, cells_ptr, isCell_rptr, known_rptr, cells_rptr, isCell_nils, known_nils, cells_nils, isCell_slice, known_slice, cells_slice, isCell_rsl, known_rsl, cells_rsl, isCell_nilm, known_nilm, cells_nilm, isCell_map, known_map, cells_map, isCell_fn, known_fn, cells_fn, isCell_yld, known_yld, cells_yld, isCell_nilf, known_nilf, cells_nilf, isCell_iface, known_iface, cells_iface, isCell_nili, known_nili, cells_nili, isCell_agg, known_agg, cells_agg, isCell_tup, known_tup, cells_tup, setCells, nowhere, GotF_some, Got_some, int_beq, int_bne, vloc, unA, hw]
        exact hq1 (r - 1) _ _ (by omega) ⟨j + 1, _, _, _, _, _, by omega, rfl⟩
      · have hjl : j = N := by omega
        subst hjl
        simp [evalC_seq, evalC_region, runA_cons', runA_consN, runA_consG, guardR_true, guardR_false, guardV_bool, guardV_tup, runA_nil', inFrame, startLoc, startVals, Loc.clear, eff_move, eff_assign, eff_binOp, eff_build, eff_buildSlice, eff_alloc, eff_box, eff_store, eff_load, eff_fieldAddr, eff_field, eff_indexAddr, eff_slice, eff_extract, eff_pick, eff_unOp, eff_convert, eff_makeSlice, eff_makeFunc, eff_makeInterface, eff_nilCheck, eff_panic, eff_len1, eff_max2, eff_min2, eff_append2, eff_callV, stepE_val, contR_ok, contR_pan, outC_ok, outC_pan, thenC_normal, thenC_ret, thenC_exit, thenC_pan, blockC, evalC_ret, evalC_skip, evalC_exit, evalC_block, evalC_scope, evalC_loop, Loc.putO, Loc.put, idx, evO, constV, Loc.get, Vm.look, valO_some, bin_int, intA, evalC_cond, condC_true, condC_false, unwindA, resultsA, resultV, actA, pureA, storeA, loadA, fillE, repElems, TI.zeroV, fieldOf, fieldAddrA, fieldA, elemsA, retE, cells?_put_push, push_at, put_at, cellsOf?, Nat.add_assoc, n_push', n_put', isCell_undef, known_undef, cells_undef, isCell_bool, known_bool, cells_bool, isCell_int, known_int, cells_int, isCell_str, known_str, cells_str, isCell_nilp, known_nilp, cells_nilp, isCell_ptr, known_ptr, cells_ptr, isCell_rptr, known_rptr, cells_rptr, isCell_nils, known_nils, cells_nils, isCell_slice, known_slice, cells_slice, isCell_rsl, known_rsl, cells_rsl, isCell_nilm, known_nilm, cells_nilm, isCell_map, known_map, cells_map, isCell_fn, known_fn, cells_fn, isCell_yld, known_yld, cells_yld, isCell_nilf, known_nilf, cells_nilf, isCell_iface, known_iface, cells_iface, isCell_nili, known_nili, cells_nili, isCell_agg, known_agg, cells_agg, isCell_tup, known_tup, cells_tup, setCells, nowhere, GotF_some, Got_some, int_beq, int_bne, vloc]
        exact hq2 _ _ _ (by simp) ⟨rfl, _, _, _, _, _, _, rfl⟩)
  obtain ⟨rfl, a12, a13, a14, a15, a16, sc, rfl⟩ := hq
  have uG := fun (m : Nat) (S : St) => graphed_use (cs := csT) rfl (n := m) (S := S)
  simp [evalC_seq, evalC_region, runA_cons', runA_consN, runA_consG, guardR_true, guardR_false, guardV_bool, guardV_tup, runA_nil', inFrame, startLoc, startVals, Loc.clear, eff_move, eff_assign, eff_binOp, eff_build, eff_buildSlice, eff_alloc, eff_box, eff_store, eff_load, eff_fieldAddr, eff_field, eff_indexAddr, eff_slice, eff_extract, eff_pick, eff_unOp, eff_convert, eff_makeSlice, eff_makeFunc, eff_makeInterface, eff_nilCheck, eff_panic, eff_len1, eff_max2, eff_min2, eff_append2, eff_callV, stepE_val, contR_ok, contR_pan, outC_ok, outC_pan, thenC_normal, thenC_ret, thenC_exit, thenC_pan, blockC, evalC_ret, evalC_skip, evalC_exit, evalC_block, evalC_scope, evalC_loop, Loc.putO, Loc.put, idx, evO, constV, Loc.get, Vm.look, valO_some, bin_int, intA, evalC_cond, condC_true, condC_false, unwindA, resultsA, resultV, actA, pureA, storeA, loadA, fillE, repElems, TI.zeroV, fieldOf, fieldAddrA, fieldA, elemsA, retE, cells?_put_push, push_at, put_at, cellsOf?, Nat.add_assoc, n_push', n_put', isCell_undef, known_undef, cells_undef, isCell_bool, known_bool, cells_bool, isCell_int, known_int, cells_int, isCell_str, known_str, cells_str, isCell_nilp, known_nilp, cells_nilp, isCell_ptr, known_ptr, cells_ptr, isCell_rptr, known_rptr, cells_rptr, isCell_nils, known_nils, cells_nils, isCell_slice, known_slice, cells_slice, isCell_rsl, known_rsl, cells_rsl, isCell_nilm, known_nilm, cells_nilm, isCell_map, known_map, cells_map, isCell_fn, known_fn, cells_fn, isCell_yld, known_yld, cells_yld, isCell_nilf, known_nilf, cells_nilf, isCell_iface, known_iface, cells_iface, isCell_nili, known_nili, cells_nili, isCell_agg, known_agg, cells_agg, isCell_tup, known_tup, cells_tup, setCells, nowhere, GotF_some, Got_some, int_beq, int_bne, vloc, uG]
  exact hp _ _ rfl

end Go.Proofs.YtjgigcaelcapdaaDoor
