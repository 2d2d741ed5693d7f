/-
What the law's own functions return, and the law. No conditions.
-/
import Derived.Test.YtjgigcaelcapdaaDoorValD
set_option linter.all false

namespace Go.Proofs.YtjgigcaelcapdaaDoor
open Go Go.Vm Go.Vm.T
set_option maxRecDepth 100000
set_option linter.unusedSimpArgs false
set_option linter.unusedVariables false

/-! lists of words, lists of rows -/
def wordC2 : Con where
  f := 68
  X := Int
  dom _ := True
  enc z := [(GV.num z).enc]
  res z := .ret (.int .i64 z)

theorem word2_ok : wordC2.Ok Tryd.prog ED := by
  refine Con.ok_at ED_ok ED_pers [] (by simp) (fun (x : Int) _ => ⟨rfl, rfl⟩) ?_
  intro (z : Int) _
  show ∃ n, ∀ p : FRes → St → Prop, (∀ r S', r.melt S' = .ret (.int .i64 z) → p r S') → GotF (callS ED (sumOf []) n (.fn 68) [(GV.num z).enc] S0) p
  refine ⟨1, fun p hp => ?_⟩
  rw [callS_fn rfl]
  simp only [fnA, ED_fn68, fi68, Tryd.f68, GV.enc, wv]
  simp [evalC_seq, evalC_region, runA_cons', runA_consN, runA_consG, guardR_true, guardR_false, guardV_bool, guardV_tup, runA_nil', inFrame, startLoc, startVals, Loc.clear, eff_move, eff_assign, eff_binOp, eff_build, eff_buildSlice, eff_alloc, eff_box, eff_store, eff_load, eff_fieldAddr, eff_field, eff_indexAddr, eff_slice, eff_extract, eff_pick, eff_unOp, eff_convert, eff_makeSlice, eff_makeFunc, eff_makeInterface, eff_nilCheck, eff_panic, eff_len1, eff_max2, eff_min2, eff_append2, eff_callV, stepE_val, contR_ok, contR_pan, outC_ok, outC_pan, thenC_normal, thenC_ret, thenC_exit, thenC_pan, blockC, evalC_ret, evalC_skip, evalC_exit, evalC_block, evalC_scope, evalC_loop, Loc.putO, Loc.put, idx, evO, constV, Loc.get, Vm.look, valO_some, bin_int, intA, evalC_cond, condC_true, condC_false, unwindA, resultsA, resultV, actA, pureA, storeA, loadA, fillE, repElems, TI.zeroV, fieldOf, fieldAddrA, fieldA, elemsA, retE, cells?_put_push, push_at, put_at, cellsOf?, Nat.add_assoc, n_push', n_put', isCell_undef, known_undef, cells_undef, isCell_bool, known_bool, cells_bool, isCell_int, known_int, cells_int, isCell_str, known_str, cells_str, isCell_nilp, known_nilp, cells_nilp, isCell_ptr, known_ptr, cells_ptr, isCell_rptr, known_rptr, cells_rptr, isCell_nils, known_nils, cells_nils, isCell_slice, known_slice, cells_slice, isCell_rsl, known_rsl, cells_rsl, isCell_nilm, known_nilm, cells_nilm, isCell_map, known_map, cells_map, isCell_fn, known_fn, cells_fn, isCell_yld, known_yld, cells_yld, isCell_nilf, known_nilf, cells_nilf, isCell_iface, known_iface, cells_iface, isCell_nili, known_nili, cells_nili, isCell_agg, known_agg, cells_agg, isCell_tup, known_tup, cells_tup, setCells, nowhere, GotF_some, Got_some, int_beq, int_bne, lenA, indexAddrA]
  exact hp _ _ rfl

theorem word2_use {cs : List Con} (h : sumOf cs 68 = wordC2.look) {n : Nat} {z : Int} {S : St} : callS ED (sumOf cs) n (.fn 68) [(GV.num z).enc] S = some (.ret (.int .i64 z), S) :=
  Con.use (c := wordC2) (fun (x y : Int) _ _ h => by
    have h' : [(GV.num x).enc] = [(GV.num y).enc] := h
    simp only [List.cons.injEq, and_true] at h'
    have := GV.enc_inj h'
    simp only [GV.num.injEq] at this
    rw [this]) h (z : Int) trivial rfl

def listIntC : Con where
  f := 67
  X := List Int
  dom zs := zs.length ≤ 1000
  enc zs := [(nums zs).enc, .fn 68 [] []]
  res zs := .ret (lstI zs)

theorem listInt_ok : listIntC.Ok Tryd.prog ED := by
  refine Con.ok_at ED_ok ED_pers [partC, wordC2] (by simpa using ⟨part_ok, word2_ok⟩) (fun (x : List Int) _ => ⟨by show AV.persL [(nums x).enc, .fn 68 [] []] = true; simp [AV.persL, GV.pers, AV.pers], lstI_pers x⟩) ?_
  intro (es : List Int) hlen
  replace hlen : es.length ≤ 1000 := hlen
  show ∃ n, ∀ p : FRes → St → Prop, (∀ r S', r.melt S' = .ret (lstI es) → p r S') → GotF (callS ED (sumOf [partC, wordC2]) n (.fn 67) [(nums es).enc, .fn 68 [] []] S0) p
  refine ⟨es.length + 2, fun p hp => ?_⟩
  rw [callS_fn rfl]
  have hpt := fun (n : Nat) (S : St) (i : Nat) (hi : i < es.length) => part_use (cs := [partC, wordC2]) rfl (n := n) (S := S) (g := nums es) (i := i) (by simpa [nums, GV.kids] using hi)
  have hdu := fun (n : Nat) (S : St) (z : Int) => word2_use (cs := [partC, wordC2]) rfl (n := n) (S := S) (z := z)
  have hlk := gv_lst (l := es.map .num)
  simp only [fnA, ED_fn67, fi67, Tryd.f67]
  simp only [nums, GV.kids, GV.enc, sv, List.getElem_map] at hpt ⊢
  simp [evalC_seq, evalC_region, runA_cons', runA_consN, runA_consG, guardR_true, guardR_false, guardV_bool, guardV_tup, runA_nil', inFrame, startLoc, startVals, Loc.clear, eff_move, eff_assign, eff_binOp, eff_build, eff_buildSlice, eff_alloc, eff_box, eff_store, eff_load, eff_fieldAddr, eff_field, eff_indexAddr, eff_slice, eff_extract, eff_pick, eff_unOp, eff_convert, eff_makeSlice, eff_makeFunc, eff_makeInterface, eff_nilCheck, eff_panic, eff_len1, eff_max2, eff_min2, eff_append2, eff_callV, stepE_val, contR_ok, contR_pan, outC_ok, outC_pan, thenC_normal, thenC_ret, thenC_exit, thenC_pan, blockC, evalC_ret, evalC_skip, evalC_exit, evalC_block, evalC_scope, evalC_loop, Loc.putO, Loc.put, idx, evO, constV, Loc.get, Vm.look, valO_some, bin_int, intA, evalC_cond, condC_true, condC_false, unwindA, resultsA, resultV, actA, pureA, storeA, loadA, fillE, repElems, TI.zeroV, fieldOf, fieldAddrA, fieldA, elemsA, retE, cells?_put_push, push_at, put_at, cellsOf?, Nat.add_assoc, n_push', n_put', isCell_undef, known_undef, cells_undef, isCell_bool, known_bool, cells_bool, isCell_int, known_int, cells_int, isCell_str, known_str, cells_str, isCell_nilp, known_nilp, cells_nilp, isCell_ptr, known_ptr, cells_ptr, isCell_rptr, known_rptr, cells_rptr, isCell_nils, known_nils, cells_nils, isCell_slice, known_slice, cells_slice, isCell_rsl, known_rsl, cells_rsl, isCell_nilm, known_nilm, cells_nilm, isCell_map, known_map, cells_map, isCell_fn, known_fn, cells_fn, isCell_yld, known_yld, cells_yld, isCell_nilf, known_nilf, cells_nilf, isCell_iface, known_iface, cells_iface, isCell_nili, known_nili, cells_nili, isCell_agg, known_agg, cells_agg, isCell_tup, known_tup, cells_tup, setCells, nowhere, GotF_some, Got_some, int_beq, int_bne, hlk, lst_len]
  generalize hc : iter _ _ _ _ = c
  obtain ⟨e, L', S', rfl, hq⟩ := loop_of hc
    (fun r L S => ∃ j sc a6 v T, j + r = es.length ∧ L = vloc [.agg [.int .i64 4, .int .i64 0, lst (GV.encs (es.map .num))], .fn 68 [] [], .ptr 0 0, .nils, v, a6, .int .i64 es.length, .int .i64 (j : Nat)] sc ∧
      S.cells? 0 = some [.int .i64 4, .int .i64 0, lst (GV.encs (es.map .num))] ∧ LiveT S 1 v (ints (es.take j)) T ∧ (ints (es.take j) = [] → v = .nils))
    (fun e L S => e = .exit 0 ∧ ∃ sc a6 v T i, L = vloc [.agg [.int .i64 4, .int .i64 0, lst (GV.encs (es.map .num))], .fn 68 [] [], .ptr 0 0, .nils, v, a6, .int .i64 es.length, i] sc ∧
      LiveT S 1 v (ints es) T ∧ (ints es = [] → v = .nils))
    es.length (by omega)
    (by
      refine ⟨0, _, _, .nils, none, by simp, rfl, ?_, .inl ⟨rfl, by simp [ints]⟩, by simp⟩
      simp [push_at, cellsOf?])
    (by
      rintro r L S ⟨j, sc, a6, v, T, hjk, rfl, g1, hl, hn⟩ q hq1 hq2
      by_cases hj : j < es.length
      · obtain ⟨v', S', ha, hl', hn', hk⟩ := append_int es[j] hl (by simp; omega)
        have hw : IntKind.i64.wrap ((j : Int) + 1) = ((j : Int) + 1) := wrap_id (by omega) (by omega)
        have hp1 := fun n S => hpt n S j hj
        simp only [GV.enc, wv] at hdu hp1
        simp [evalC_seq, evalC_region, runA_cons', runA_consN, runA_consG, guardR_true, guardR_false, guardV_bool, guardV_tup, runA_nil', inFrame, startLoc, startVals, Loc.clear, eff_move, eff_assign, eff_binOp, eff_build, eff_buildSlice, eff_alloc, eff_box, eff_store, eff_load, eff_fieldAddr, eff_field, eff_indexAddr, eff_slice, eff_extract, eff_pick, eff_unOp, eff_convert, eff_makeSlice, eff_makeFunc, eff_makeInterface, eff_nilCheck, eff_panic, eff_len1, eff_max2, eff_min2, eff_append2, eff_callV, stepE_val, contR_ok, contR_pan, outC_ok, outC_pan, thenC_normal, thenC_ret, thenC_exit, thenC_pan, blockC, evalC_ret, evalC_skip, evalC_exit, evalC_block, evalC_scope, evalC_loop, Loc.putO, Loc.put, idx, evO, constV, Loc.get, Vm.look, valO_some, bin_int, intA, evalC_cond, condC_true, condC_false, unwindA, resultsA, resultV, actA, pureA, storeA, loadA, fillE, repElems, TI.zeroV, fieldOf, fieldAddrA, fieldA, elemsA, retE, cells?_put_push, push_at, put_at, cellsOf?, Nat.add_assoc, n_push', n_put', isCell_undef, known_undef, cells_undef, isCell_bool, known_bool, cells_bool, isCell_int, known_int, cells_int, isCell_str, known_str, cells_str, isCell_nilp, known_nilp, cells_nilp, isCell_ptr, known_ptr, cells_ptr, isCell_rptr, known_rptr, cells_rptr, isCell_nils, known_nils, cells_nils, isCell_slice, known_slice, cells_slice, isCell_rsl, known_rsl, cells_rsl, isCell_nilm, known_nilm, cells_nilm, isCell_map, known_map, cells_map, isCell_fn, known_fn, cells_fn, isCell_yld, known_yld, cells_yld, isCell_nilf, known_nilf, cells_nilf, isCell_iface, known_iface, cells_iface, isCell_nili, known_nili, cells_nili, isCell_agg, known_agg, cells_agg, isCell_tup, known_tup, cells_tup, setCells, nowhere, GotF_some, Got_some, int_beq, int_bne, vloc, hj, g1, hp1, hdu, ha, hw]
        have e1 : es.take (j + 1) = es.take j ++ [es[j]] := by rw [List.take_add_one, List.getElem?_eq_getElem hj]; rfl
        refine hq1 (r - 1) _ _ (by omega) ⟨j + 1, _, _, v', some S.n, by omega, rfl, hk.cells _ _ g1, ?_, ?_⟩
        · rw [e1]; exact hl'
        · intro h
          have := congrArg List.length h
          rw [ints_length, List.length_take, List.length_nil] at this
          omega
      · have hjl : j = es.length := by omega
        subst hjl
        simp [evalC_seq, evalC_region, runA_cons', runA_consN, runA_consG, guardR_true, guardR_false, guardV_bool, guardV_tup, runA_nil', inFrame, startLoc, startVals, Loc.clear, eff_move, eff_assign, eff_binOp, eff_build, eff_buildSlice, eff_alloc, eff_box, eff_store, eff_load, eff_fieldAddr, eff_field, eff_indexAddr, eff_slice, eff_extract, eff_pick, eff_unOp, eff_convert, eff_makeSlice, eff_makeFunc, eff_makeInterface, eff_nilCheck, eff_panic, eff_len1, eff_max2, eff_min2, eff_append2, eff_callV, stepE_val, contR_ok, contR_pan, outC_ok, outC_pan, thenC_normal, thenC_ret, thenC_exit, thenC_pan, blockC, evalC_ret, evalC_skip, evalC_exit, evalC_block, evalC_scope, evalC_loop, Loc.putO, Loc.put, idx, evO, constV, Loc.get, Vm.look, valO_some, bin_int, intA, evalC_cond, condC_true, condC_false, unwindA, resultsA, resultV, actA, pureA, storeA, loadA, fillE, repElems, TI.zeroV, fieldOf, fieldAddrA, fieldA, elemsA, retE, cells?_put_push, push_at, put_at, cellsOf?, Nat.add_assoc, n_push', n_put', isCell_undef, known_undef, cells_undef, isCell_bool, known_bool, cells_bool, isCell_int, known_int, cells_int, isCell_str, known_str, cells_str, isCell_nilp, known_nilp, cells_nilp, isCell_ptr, known_ptr, cells_ptr, isCell_rptr, known_rptr, cells_rptr, isCell_nils, known_nils, cells_nils, isCell_slice, known_slice, cells_slice, isCell_rsl, known_rsl, cells_rsl, isCell_nilm, known_nilm, cells_nilm, isCell_map, known_map, cells_map, isCell_fn, known_fn, cells_fn, isCell_yld, known_yld, cells_yld, isCell_nilf, known_nilf, cells_nilf, isCell_iface, known_iface, cells_iface, isCell_nili, known_nili, cells_nili, isCell_agg, known_agg, cells_agg, isCell_tup, known_tup, cells_tup, setCells, nowhere, GotF_some, Got_some, int_beq, int_bne, vloc]
        refine hq2 _ _ _ (by simp) ⟨rfl, _, a6, v, T, _, rfl, by simpa using hl, by simpa using hn⟩)
  obtain ⟨rfl, sc, a6, v, T, i, rfl, hl, hn⟩ := hq
  simp [evalC_seq, evalC_region, runA_cons', runA_consN, runA_consG, guardR_true, guardR_false, guardV_bool, guardV_tup, runA_nil', inFrame, startLoc, startVals, Loc.clear, eff_move, eff_assign, eff_binOp, eff_build, eff_buildSlice, eff_alloc, eff_box, eff_store, eff_load, eff_fieldAddr, eff_field, eff_indexAddr, eff_slice, eff_extract, eff_pick, eff_unOp, eff_convert, eff_makeSlice, eff_makeFunc, eff_makeInterface, eff_nilCheck, eff_panic, eff_len1, eff_max2, eff_min2, eff_append2, eff_callV, stepE_val, contR_ok, contR_pan, outC_ok, outC_pan, thenC_normal, thenC_ret, thenC_exit, thenC_pan, blockC, evalC_ret, evalC_skip, evalC_exit, evalC_block, evalC_scope, evalC_loop, Loc.putO, Loc.put, idx, evO, constV, Loc.get, Vm.look, valO_some, bin_int, intA, evalC_cond, condC_true, condC_false, unwindA, resultsA, resultV, actA, pureA, storeA, loadA, fillE, repElems, TI.zeroV, fieldOf, fieldAddrA, fieldA, elemsA, retE, cells?_put_push, push_at, put_at, cellsOf?, Nat.add_assoc, n_push', n_put', isCell_undef, known_undef, cells_undef, isCell_bool, known_bool, cells_bool, isCell_int, known_int, cells_int, isCell_str, known_str, cells_str, isCell_nilp, known_nilp, cells_nilp, isCell_ptr, known_ptr, cells_ptr, isCell_rptr, known_rptr, cells_rptr, isCell_nils, known_nils, cells_nils, isCell_slice, known_slice, cells_slice, isCell_rsl, known_rsl, cells_rsl, isCell_nilm, known_nilm, cells_nilm, isCell_map, known_map, cells_map, isCell_fn, known_fn, cells_fn, isCell_yld, known_yld, cells_yld, isCell_nilf, known_nilf, cells_nilf, isCell_iface, known_iface, cells_iface, isCell_nili, known_nili, cells_nili, isCell_agg, known_agg, cells_agg, isCell_tup, known_tup, cells_tup, setCells, nowhere, GotF_some, Got_some, int_beq, int_bne, vloc]
  refine hp _ _ ?_
  have hd := dead_lst hl hn (ints_pers es)
  rcases hl.cases with ⟨rfl, h2⟩ | ⟨tk, rfl⟩
  · simp only [FRes.melt, AV.melt, hd, lstI]
  · simp only [FRes.melt, AV.melt, hd, lstI]

theorem listInt_use {cs : List Con} (h : sumOf cs 67 = listIntC.look) {n : Nat} {zs : List Int} {S : St} (hl : zs.length ≤ 1000) : callS ED (sumOf cs) n (.fn 67) [(nums zs).enc, .fn 68 [] []] S = some (.ret (lstI zs), S) :=
  Con.use (c := listIntC) (fun (x y : List Int) hx hy h => by
    have h' : [(nums x).enc, AV.fn 68 [] []] = [(nums y).enc, .fn 68 [] []] := h
    simp only [List.cons.injEq, and_true] at h'
    rw [nums_enc_inj h']) h (zs : List Int) hl (by show [(nums zs).enc.dead, (AV.fn 68 [] []).dead] = [(nums zs).enc, .fn 68 [] []]; simp [AV.dead, AV.deadL])

def wordsC2 : Con where
  f := 52
  X := List Int
  dom zs := zs.length ≤ 1000
  enc zs := [(nums zs).enc]
  res zs := .ret (lstI zs)

theorem words2_ok : wordsC2.Ok Tryd.prog ED := by
  refine Con.ok_at ED_ok ED_pers [listIntC] (by simpa using listInt_ok) (fun (x : List Int) _ => ⟨by show AV.persL [(nums x).enc] = true; simp [AV.persL, GV.pers], lstI_pers x⟩) ?_
  intro (zs : List Int) hlen
  replace hlen : zs.length ≤ 1000 := hlen
  show ∃ n, ∀ p : FRes → St → Prop, (∀ r S', r.melt S' = .ret (lstI zs) → p r S') → GotF (callS ED (sumOf [listIntC]) n (.fn 52) [(nums zs).enc] S0) p
  refine ⟨1, fun p hp => ?_⟩
  rw [callS_fn rfl]
  have hli := fun (n : Nat) (S : St) => listInt_use (cs := [listIntC]) rfl (n := n) (S := S) hlen
  obtain ⟨k, z, e⟩ := (nums zs).look
  have hlk := gv_lst (l := (nums zs).kids)
  rw [e] at hli ⊢
  simp only [fnA, ED_fn52, fi52, Tryd.f52]
  simp [evalC_seq, evalC_region, runA_cons', runA_consN, runA_consG, guardR_true, guardR_false, guardV_bool, guardV_tup, runA_nil', inFrame, startLoc, startVals, Loc.clear, eff_move, eff_assign, eff_binOp, eff_build, eff_buildSlice, eff_alloc, eff_box, eff_store, eff_load, eff_fieldAddr, eff_field, eff_indexAddr, eff_slice, eff_extract, eff_pick, eff_unOp, eff_convert, eff_makeSlice, eff_makeFunc, eff_makeInterface, eff_nilCheck, eff_panic, eff_len1, eff_max2, eff_min2, eff_append2, eff_callV, stepE_val, contR_ok, contR_pan, outC_ok, outC_pan, thenC_normal, thenC_ret, thenC_exit, thenC_pan, blockC, evalC_ret, evalC_skip, evalC_exit, evalC_block, evalC_scope, evalC_loop, Loc.putO, Loc.put, idx, evO, constV, Loc.get, Vm.look, valO_some, bin_int, intA, evalC_cond, condC_true, condC_false, unwindA, resultsA, resultV, actA, pureA, storeA, loadA, fillE, repElems, TI.zeroV, fieldOf, fieldAddrA, fieldA, elemsA, retE, cells?_put_push, push_at, put_at, cellsOf?, Nat.add_assoc, n_push', n_put', isCell_undef, known_undef, cells_undef, isCell_bool, known_bool, cells_bool, isCell_int, known_int, cells_int, isCell_str, known_str, cells_str, isCell_nilp, known_nilp, cells_nilp, isCell_ptr, known_ptr, cells_ptr, isCell_rptr, known_rptr, cells_rptr, isCell_nils, known_nils, cells_nils, isCell_slice, known_slice, cells_slice, isCell_rsl, known_rsl, cells_rsl, isCell_nilm, known_nilm, cells_nilm, isCell_map, known_map, cells_map, isCell_fn, known_fn, cells_fn, isCell_yld, known_yld, cells_yld, isCell_nilf, known_nilf, cells_nilf, isCell_iface, known_iface, cells_iface, isCell_nili, known_nili, cells_nili, isCell_agg, known_agg, cells_agg, isCell_tup, known_tup, cells_tup, setCells, nowhere, GotF_some, Got_some, int_beq, int_bne, hlk, hli]
  refine hp _ _ ?_
  have hd := lstI_dead zs
  generalize hy : lstI zs = y at *
  cases y <;> simp_all [FRes.melt, AV.melt]
  · unfold lstI at hy; cases h : ints zs <;> simp_all [lst]
  · unfold lstI at hy; cases h : ints zs <;> simp_all [lst]

theorem words2_use {cs : List Con} (h : sumOf cs 52 = wordsC2.look) {n : Nat} {zs : List Int} {S : St} (hl : zs.length ≤ 1000) : callS ED (sumOf cs) n (.fn 52) [(nums zs).enc] S = some (.ret (lstI zs), S) :=
  Con.use (c := wordsC2) (fun (x y : List Int) hx hy h => by
    have h' : [(nums x).enc] = [(nums y).enc] := h
    simp only [List.cons.injEq, and_true] at h'
    rw [nums_enc_inj h']) h (zs : List Int) hl (by show [(nums zs).enc.dead] = [(nums zs).enc]; simp)

end Go.Proofs.YtjgigcaelcapdaaDoor

namespace Go.Proofs.YtjgigcaelcapdaaDoor
open Go Go.Vm Go.Vm.T
set_option maxRecDepth 100000
set_option linter.unusedSimpArgs false
set_option linter.unusedVariables false

/-! rows -/
def rowA (es : List (Int × Int)) : AV := lst (es.map duoA)
def rowsV (rs : List (List (Int × Int))) : GV := .seq (rs.map duosV)

theorem rowA_pers (es : List (Int × Int)) : (rowA es).pers = true := lst_pers' (duoAs_pers es)
theorem rowA_cell (es : List (Int × Int)) : (rowA es).isCell = true ∧ (rowA es).known = true ∧ (rowA es).cells = [rowA es] := by cases es <;> exact ⟨rfl, rfl, rfl⟩

def rowC : Con where
  f := 66
  X := List (Int × Int)
  dom es := es.length ≤ 1000
  enc es := [(duosV es).enc]
  res es := .ret (rowA es)

theorem row_ok : rowC.Ok Tryd.prog ED := by
  refine Con.ok_at ED_ok ED_pers [listDuoC] (by simpa using listDuo_ok) (fun (x : List (Int × Int)) _ => ⟨by show AV.persL [(duosV x).enc] = true; simp [AV.persL, GV.pers], rowA_pers x⟩) ?_
  intro (es : List (Int × Int)) hlen
  replace hlen : es.length ≤ 1000 := hlen
  show ∃ n, ∀ p : FRes → St → Prop, (∀ r S', r.melt S' = .ret (rowA es) → p r S') → GotF (callS ED (sumOf [listDuoC]) n (.fn 66) [(duosV es).enc] S0) p
  refine ⟨1, fun p hp => ?_⟩
  rw [callS_fn rfl]
  have hli := fun (n : Nat) (S : St) => listDuo_use (cs := [listDuoC]) rfl (n := n) (S := S) hlen
  obtain ⟨k, z, e⟩ := (duosV es).look
  have hlk := gv_lst (l := (duosV es).kids)
  rw [e] at hli ⊢
  have hd : (rowA es).dead = rowA es := dead_of_pers _ (rowA_pers es)
  have hm : ∀ S, (rowA es).melt S = rowA es := by
    intro S
    unfold rowA at hd ⊢
    cases es with
    | nil => rfl
    | cons a r => exact hd
  simp only [fnA, ED_fn66, fi66, Tryd.f66]
  change ∀ n S, _ = some (FRes.ret (rowA es), S) at hli
  simp [evalC_seq, evalC_region, runA_cons', runA_consN, runA_consG, guardR_true, guardR_false, guardV_bool, guardV_tup, runA_nil', inFrame, startLoc, startVals, Loc.clear, eff_move, eff_assign, eff_binOp, eff_build, eff_buildSlice, eff_alloc, eff_box, eff_store, eff_load, eff_fieldAddr, eff_field, eff_indexAddr, eff_slice, eff_extract, eff_pick, eff_unOp, eff_convert, eff_makeSlice, eff_makeFunc, eff_makeInterface, eff_nilCheck, eff_panic, eff_len1, eff_max2, eff_min2, eff_append2, eff_callV, stepE_val, contR_ok, contR_pan, outC_ok, outC_pan, thenC_normal, thenC_ret, thenC_exit, thenC_pan, blockC, evalC_ret, evalC_skip, evalC_exit, evalC_block, evalC_scope, evalC_loop, Loc.putO, Loc.put, idx, evO, constV, Loc.get, Vm.look, valO_some, bin_int, intA, evalC_cond, condC_true, condC_false, unwindA, resultsA, resultV, actA, pureA, storeA, loadA, fillE, repElems, TI.zeroV, fieldOf, fieldAddrA, fieldA, elemsA, retE, cells?_put_push, push_at, put_at, cellsOf?, Nat.add_assoc, n_push', n_put', isCell_undef, known_undef, cells_undef, isCell_bool, known_bool, cells_bool, isCell_int, known_int, cells_int, isCell_str, known_str, cells_str, isCell_nilp, known_nilp, cells_nilp, isCell_ptr, known_ptr, cells_ptr, isCell_rptr, known_rptr, cells_rptr, isCell_nils, known_nils, cells_nils, isCell_slice, known_slice, cells_slice, isCell_rsl, known_rsl, cells_rsl, isCell_nilm, known_nilm, cells_nilm, isCell_map, known_map, cells_map, isCell_fn, known_fn, cells_fn, isCell_yld, known_yld, cells_yld, isCell_nilf, known_nilf, cells_nilf, isCell_iface, known_iface, cells_iface, isCell_nili, known_nili, cells_nili, isCell_agg, known_agg, cells_agg, isCell_tup, known_tup, cells_tup, setCells, nowhere, GotF_some, Got_some, int_beq, int_bne, hlk, hli]
  exact hp _ _ (congrArg FRes.ret (hm _))

theorem row_use {cs : List Con} (h : sumOf cs 66 = rowC.look) {n : Nat} {es : List (Int × Int)} {S : St} (hl : es.length ≤ 1000) : callS ED (sumOf cs) n (.fn 66) [(duosV es).enc] S = some (.ret (rowA es), S) :=
  Con.use (c := rowC) (fun (x y : List (Int × Int)) hx hy h => by
    have h' : [(duosV x).enc] = [(duosV y).enc] := h
    simp only [List.cons.injEq, and_true] at h'
    rw [duosV_inj h']) h (es : List (Int × Int)) hl (by show [(duosV es).enc.dead] = [(duosV es).enc]; simp)

theorem rowsV_inj {a b : List (List (Int × Int))} (h : (rowsV a).enc = (rowsV b).enc) : a = b := by
  have h1 := GV.enc_inj h
  simp only [rowsV, GV.seq.injEq] at h1
  clear h
  induction a generalizing b with
  | nil => cases b with
    | nil => rfl
    | cons y b => simp at h1
  | cons x a ih => cases b with
    | nil => simp at h1
    | cons y b =>
      simp only [List.map_cons, List.cons.injEq] at h1
      rw [duosV_inj (congrArg GV.enc h1.1), ih h1.2]

def RowsOk (rs : List (List (Int × Int))) : Prop := rs.length ≤ 1000 ∧ ∀ r ∈ rs, r.length ≤ 1000

def listRowC : Con where
  f := 65
  X := List (List (Int × Int))
  dom := RowsOk
  enc rs := [(rowsV rs).enc, .fn 66 [] []]
  res rs := .ret (lst (rs.map rowA))

theorem rowAs_pers (rs : List (List (Int × Int))) : AV.persL (rs.map rowA) = true := by
  rw [AV.persL_iff]
  intro x hx
  obtain ⟨e, _, rfl⟩ := List.mem_map.1 hx
  exact rowA_pers e

theorem append_row {S : St} {v : AV} {rs : List (List (Int × Int))} (r : List (Int × Int)) {T : Option Nat} (hl : LiveT S 1 v (rs.map rowA) T) (hlen : rs.length ≤ 10000) :
    ∃ v' S', appendA ED S 73 v [rowA r] = some (v', S') ∧ LiveT S' 1 v' ((rs ++ [r]).map rowA) (some S.n) ∧ S'.n = S.n + 1 ∧ Kept T S S' := by
  rw [List.map_append]
  refine append_1 (i := ti73) ED_ti73 (by decide) hl (fun y hy => ?_) (by rw [(rowA_cell r).2.2]; simp [(rowA_cell r).1]) (by rw [(rowA_cell r).2.2]; rfl) (by simp [roomOk, roomMost, ti73]; omega)
  obtain ⟨z, _, rfl⟩ := List.mem_map.1 hy
  rw [(rowA_cell z).2.2]; rfl

theorem listRow_ok : listRowC.Ok Tryd.prog ED := by
  refine Con.ok_at ED_ok ED_pers [partC, rowC] (by simpa using ⟨part_ok, row_ok⟩) (fun (x : List (List (Int × Int))) _ => ⟨by show AV.persL [(rowsV x).enc, .fn 66 [] []] = true; simp [AV.persL, GV.pers, AV.pers], lst_pers' (rowAs_pers x)⟩) ?_
  intro (es : List (List (Int × Int))) hok
  obtain ⟨hlen, hrow⟩ := hok
  show ∃ n, ∀ p : FRes → St → Prop, (∀ r S', r.melt S' = .ret (lst (es.map rowA)) → p r S') → GotF (callS ED (sumOf [partC, rowC]) n (.fn 65) [(rowsV es).enc, .fn 66 [] []] S0) p
  refine ⟨es.length + 2, fun p hp => ?_⟩
  rw [callS_fn rfl]
  have hpt := fun (n : Nat) (S : St) (i : Nat) (hi : i < es.length) => part_use (cs := [partC, rowC]) rfl (n := n) (S := S) (g := rowsV es) (i := i) (by simpa [rowsV, GV.kids] using hi)
  have hdu := fun (n : Nat) (S : St) (e : List (Int × Int)) (h : e.length ≤ 1000) => row_use (cs := [partC, rowC]) rfl (n := n) (S := S) (es := e) h
  have hlk := gv_lst (l := es.map duosV)
  simp only [fnA, ED_fn65, fi65, Tryd.f65]
  simp only [rowsV, GV.kids, GV.enc.eq_3, sv, List.getElem_map] at hpt ⊢
  simp [evalC_seq, evalC_region, runA_cons', runA_consN, runA_consG, guardR_true, guardR_false, guardV_bool, guardV_tup, runA_nil', inFrame, startLoc, startVals, Loc.clear, eff_move, eff_assign, eff_binOp, eff_build, eff_buildSlice, eff_alloc, eff_box, eff_store, eff_load, eff_fieldAddr, eff_field, eff_indexAddr, eff_slice, eff_extract, eff_pick, eff_unOp, eff_convert, eff_makeSlice, eff_makeFunc, eff_makeInterface, eff_nilCheck, eff_panic, eff_len1, eff_max2, eff_min2, eff_append2, eff_callV, stepE_val, contR_ok, contR_pan, outC_ok, outC_pan, thenC_normal, thenC_ret, thenC_exit, thenC_pan, blockC, evalC_ret, evalC_skip, evalC_exit, evalC_block, evalC_scope, evalC_loop, Loc.putO, Loc.put, idx, evO, constV, Loc.get, Vm.look, valO_some, bin_int, intA, evalC_cond, condC_true, condC_false, unwindA, resultsA, resultV, actA, pureA, storeA, loadA, fillE, repElems, TI.zeroV, fieldOf, fieldAddrA, fieldA, elemsA, retE, cells?_put_push, push_at, put_at, cellsOf?, Nat.add_assoc, n_push', n_put', isCell_undef, known_undef, cells_undef, isCell_bool, known_bool, cells_bool, isCell_int, known_int, cells_int, isCell_str, known_str, cells_str, isCell_nilp, known_nilp, cells_nilp, isCell_ptr, known_ptr, cells_ptr, isCell_rptr, known_rptr, cells_rptr, isCell_nils, known_nils, cells_nils, isCell_slice, known_slice, cells_slice, isCell_rsl, known_rsl, cells_rsl, isCell_nilm, known_nilm, cells_nilm, isCell_map, known_map, cells_map, isCell_fn, known_fn, cells_fn, isCell_yld, known_yld, cells_yld, isCell_nilf, known_nilf, cells_nilf, isCell_iface, known_iface, cells_iface, isCell_nili, known_nili, cells_nili, isCell_agg, known_agg, cells_agg, isCell_tup, known_tup, cells_tup, setCells, nowhere, GotF_some, Got_some, int_beq, int_bne, hlk, lst_len]
  generalize hc : iter _ _ _ _ = c
  obtain ⟨e, L', S', rfl, hq⟩ := loop_of hc
    (fun r L S => ∃ j sc a6 v T, j + r = es.length ∧ L = vloc [.agg [.int .i64 4, .int .i64 0, lst (GV.encs (es.map duosV))], .fn 66 [] [], .ptr 0 0, .nils, v, a6, .int .i64 es.length, .int .i64 (j : Nat)] sc ∧
      S.cells? 0 = some [.int .i64 4, .int .i64 0, lst (GV.encs (es.map duosV))] ∧ LiveT S 1 v ((es.take j).map rowA) T ∧ ((es.take j).map rowA = [] → v = .nils))
    (fun e L S => e = .exit 0 ∧ ∃ sc a6 v T i, L = vloc [.agg [.int .i64 4, .int .i64 0, lst (GV.encs (es.map duosV))], .fn 66 [] [], .ptr 0 0, .nils, v, a6, .int .i64 es.length, i] sc ∧
      LiveT S 1 v (es.map rowA) T ∧ (es.map rowA = [] → v = .nils))
    es.length (by omega)
    (by
      refine ⟨0, _, _, .nils, none, by simp, rfl, ?_, .inl ⟨rfl, by simp⟩, by simp⟩
      simp [push_at, cellsOf?])
    (by
      rintro r L S ⟨j, sc, a6, v, T, hjk, rfl, g1, hl, hn⟩ q hq1 hq2
      by_cases hj : j < es.length
      · obtain ⟨v', S', ha, hl', hn', hk⟩ := append_row es[j] hl (by simp; omega)
        have hw : IntKind.i64.wrap ((j : Int) + 1) = ((j : Int) + 1) := wrap_id (by omega) (by omega)
        have hp1 := fun n S => hpt n S j hj
        have hd1 := fun n S => hdu n S es[j] (hrow _ (List.getElem_mem hj))
        obtain ⟨k1, k2, k3⟩ := rowA_cell es[j]
        have k4 : (rowA es[j]).cells.length = 1 := by rw [k3]; rfl
        simp [evalC_seq, evalC_region, runA_cons', runA_consN, runA_consG, guardR_true, guardR_false, guardV_bool, guardV_tup, runA_nil', inFrame, startLoc, startVals, Loc.clear, eff_move, eff_assign, eff_binOp, eff_build, eff_buildSlice, eff_alloc, eff_box, eff_store, eff_load, eff_fieldAddr, eff_field, eff_indexAddr, eff_slice, eff_extract, eff_pick, eff_unOp, eff_convert, eff_makeSlice, eff_makeFunc, eff_makeInterface, eff_nilCheck, eff_panic, eff_len1, eff_max2, eff_min2, eff_append2, eff_callV, stepE_val, contR_ok, contR_pan, outC_ok, outC_pan, thenC_normal, thenC_ret, thenC_exit, thenC_pan, blockC, evalC_ret, evalC_skip, evalC_exit, evalC_block, evalC_scope, evalC_loop, Loc.putO, Loc.put, idx, evO, constV, Loc.get, Vm.look, valO_some, bin_int, intA, evalC_cond, condC_true, condC_false, unwindA, resultsA, resultV, actA, pureA, storeA, loadA, fillE, repElems, TI.zeroV, fieldOf, fieldAddrA, fieldA, elemsA, retE, cells?_put_push, push_at, put_at, cellsOf?, Nat.add_assoc, n_push', n_put', isCell_undef, known_undef, cells_undef, isCell_bool, known_bool, cells_bool, isCell_int, known_int, cells_int, isCell_str, known_str, cells_str, isCell_nilp, known_nilp, cells_nilp, isCell_ptr, known_ptr, cells_ptr, isCell_rptr, known_rptr, cells_rptr, isCell_nils, known_nils, cells_nils, isCell_slice, known_slice, cells_slice, isCell_rsl, known_rsl, cells_rsl, isCell_nilm, known_nilm, cells_nilm, isCell_map, known_map, cells_map, isCell_fn, known_fn, cells_fn, isCell_yld, known_yld, cells_yld, isCell_nilf, known_nilf, cells_nilf, isCell_iface, known_iface, cells_iface, isCell_nili, known_nili, cells_nili, isCell_agg, known_agg, cells_agg, isCell_tup, known_tup, cells_tup, setCells, nowhere, GotF_some, Got_some, int_beq, int_bne, vloc, hj, g1, hp1, hd1, ha, hw, k2, k4]
        have e1 : es.take (j + 1) = es.take j ++ [es[j]] := by rw [List.take_add_one, List.getElem?_eq_getElem hj]; rfl
        refine hq1 (r - 1) _ _ (by omega) ⟨j + 1, _, _, v', some S.n, by omega, rfl, hk.cells _ _ g1, ?_, ?_⟩
        · rw [e1]; exact hl'
        · intro h
          have := congrArg List.length h
          rw [List.length_map, List.length_take, List.length_nil] at this
          omega
      · have hjl : j = es.length := by omega
        subst hjl
        simp [evalC_seq, evalC_region, runA_cons', runA_consN, runA_consG, guardR_true, guardR_false, guardV_bool, guardV_tup, runA_nil', inFrame, startLoc, startVals, Loc.clear, eff_move, eff_assign, eff_binOp, eff_build, eff_buildSlice, eff_alloc, eff_box, eff_store, eff_load, eff_fieldAddr, eff_field, eff_indexAddr, eff_slice, eff_extract, eff_pick, eff_unOp, eff_convert, eff_makeSlice, eff_makeFunc, eff_makeInterface, eff_nilCheck, eff_panic, eff_len1, eff_max2, eff_min2, eff_append2, eff_callV, stepE_val, contR_ok, contR_pan, outC_ok, outC_pan, thenC_normal, thenC_ret, thenC_exit, thenC_pan, blockC, evalC_ret, evalC_skip, evalC_exit, evalC_block, evalC_scope, evalC_loop, Loc.putO, Loc.put, idx, evO, constV, Loc.get, Vm.look, valO_some, bin_int, intA, evalC_cond, condC_true, condC_false, unwindA, resultsA, resultV, actA, pureA, storeA, loadA, fillE, repElems, TI.zeroV, fieldOf, fieldAddrA, fieldA, elemsA, retE, cells?_put_push, push_at, put_at, cellsOf?, Nat.add_assoc, n_push', n_put', isCell_undef, known_undef, cells_undef, isCell_bool, known_bool, cells_bool, isCell_int, known_int, cells_int, isCell_str, known_str, cells_str, isCell_nilp, known_nilp, cells_nilp, isCell_ptr, known_ptr, cells_ptr, isCell_rptr, known_rptr, cells_rptr, isCell_nils, known_nils, cells_nils, isCell_slice, known_slice, cells_slice, isCell_rsl, known_rsl, cells_rsl, isCell_nilm, known_nilm, cells_nilm, isCell_map, known_map, cells_map, isCell_fn, known_fn, cells_fn, isCell_yld, known_yld, cells_yld, isCell_nilf, known_nilf, cells_nilf, isCell_iface, known_iface, cells_iface, isCell_nili, known_nili, cells_nili, isCell_agg, known_agg, cells_agg, isCell_tup, known_tup, cells_tup, setCells, nowhere, GotF_some, Got_some, int_beq, int_bne, vloc]
        refine hq2 _ _ _ (by simp) ⟨rfl, _, a6, v, T, _, rfl, by simpa using hl, by simpa using hn⟩)
  obtain ⟨rfl, sc, a6, v, T, i, rfl, hl, hn⟩ := hq
  simp [evalC_seq, evalC_region, runA_cons', runA_consN, runA_consG, guardR_true, guardR_false, guardV_bool, guardV_tup, runA_nil', inFrame, startLoc, startVals, Loc.clear, eff_move, eff_assign, eff_binOp, eff_build, eff_buildSlice, eff_alloc, eff_box, eff_store, eff_load, eff_fieldAddr, eff_field, eff_indexAddr, eff_slice, eff_extract, eff_pick, eff_unOp, eff_convert, eff_makeSlice, eff_makeFunc, eff_makeInterface, eff_nilCheck, eff_panic, eff_len1, eff_max2, eff_min2, eff_append2, eff_callV, stepE_val, contR_ok, contR_pan, outC_ok, outC_pan, thenC_normal, thenC_ret, thenC_exit, thenC_pan, blockC, evalC_ret, evalC_skip, evalC_exit, evalC_block, evalC_scope, evalC_loop, Loc.putO, Loc.put, idx, evO, constV, Loc.get, Vm.look, valO_some, bin_int, intA, evalC_cond, condC_true, condC_false, unwindA, resultsA, resultV, actA, pureA, storeA, loadA, fillE, repElems, TI.zeroV, fieldOf, fieldAddrA, fieldA, elemsA, retE, cells?_put_push, push_at, put_at, cellsOf?, Nat.add_assoc, n_push', n_put', isCell_undef, known_undef, cells_undef, isCell_bool, known_bool, cells_bool, isCell_int, known_int, cells_int, isCell_str, known_str, cells_str, isCell_nilp, known_nilp, cells_nilp, isCell_ptr, known_ptr, cells_ptr, isCell_rptr, known_rptr, cells_rptr, isCell_nils, known_nils, cells_nils, isCell_slice, known_slice, cells_slice, isCell_rsl, known_rsl, cells_rsl, isCell_nilm, known_nilm, cells_nilm, isCell_map, known_map, cells_map, isCell_fn, known_fn, cells_fn, isCell_yld, known_yld, cells_yld, isCell_nilf, known_nilf, cells_nilf, isCell_iface, known_iface, cells_iface, isCell_nili, known_nili, cells_nili, isCell_agg, known_agg, cells_agg, isCell_tup, known_tup, cells_tup, setCells, nowhere, GotF_some, Got_some, int_beq, int_bne, vloc]
  refine hp _ _ ?_
  have hd := dead_lst hl hn (rowAs_pers es)
  rcases hl.cases with ⟨rfl, h2⟩ | ⟨tk, rfl⟩
  · simp only [FRes.melt, AV.melt, hd]
  · simp only [FRes.melt, AV.melt, hd]

theorem listRow_use {cs : List Con} (h : sumOf cs 65 = listRowC.look) {n : Nat} {rs : List (List (Int × Int))} {S : St} (hl : RowsOk rs) : callS ED (sumOf cs) n (.fn 65) [(rowsV rs).enc, .fn 66 [] []] S = some (.ret (lst (rs.map rowA)), S) :=
  Con.use (c := listRowC) (fun (x y : List (List (Int × Int))) hx hy h => by
    have h' : [(rowsV x).enc, AV.fn 66 [] []] = [(rowsV y).enc, .fn 66 [] []] := h
    simp only [List.cons.injEq, and_true] at h'
    rw [rowsV_inj h']) h (rs : List (List (Int × Int))) hl (by show [(rowsV rs).enc.dead, (AV.fn 66 [] []).dead] = [(rowsV rs).enc, .fn 66 [] []]; simp [AV.dead, AV.deadL])

def rowsC : Con where
  f := 51
  X := List (List (Int × Int))
  dom := RowsOk
  enc rs := [(rowsV rs).enc]
  res rs := .ret (lst (rs.map rowA))

theorem rows_ok : rowsC.Ok Tryd.prog ED := by
  refine Con.ok_at ED_ok ED_pers [listRowC] (by simpa using listRow_ok) (fun (x : List (List (Int × Int))) _ => ⟨by show AV.persL [(rowsV x).enc] = true; simp [AV.persL, GV.pers], lst_pers' (rowAs_pers x)⟩) ?_
  intro (rs : List (List (Int × Int))) hok
  replace hok : RowsOk rs := hok
  show ∃ n, ∀ p : FRes → St → Prop, (∀ r S', r.melt S' = .ret (lst (rs.map rowA)) → p r S') → GotF (callS ED (sumOf [listRowC]) n (.fn 51) [(rowsV rs).enc] S0) p
  refine ⟨1, fun p hp => ?_⟩
  rw [callS_fn rfl]
  have hli := fun (n : Nat) (S : St) => listRow_use (cs := [listRowC]) rfl (n := n) (S := S) hok
  obtain ⟨k, z, e⟩ := (rowsV rs).look
  have hlk := gv_lst (l := (rowsV rs).kids)
  rw [e] at hli ⊢
  have hd : (lst (rs.map rowA)).dead = lst (rs.map rowA) := dead_of_pers _ (lst_pers' (rowAs_pers rs))
  have hm : ∀ S, (lst (rs.map rowA)).melt S = lst (rs.map rowA) := by
    intro S
    cases rs with
    | nil => rfl
    | cons a r => exact hd
  simp only [fnA, ED_fn51, fi51, Tryd.f51]
  simp [evalC_seq, evalC_region, runA_cons', runA_consN, runA_consG, guardR_true, guardR_false, guardV_bool, guardV_tup, runA_nil', inFrame, startLoc, startVals, Loc.clear, eff_move, eff_assign, eff_binOp, eff_build, eff_buildSlice, eff_alloc, eff_box, eff_store, eff_load, eff_fieldAddr, eff_field, eff_indexAddr, eff_slice, eff_extract, eff_pick, eff_unOp, eff_convert, eff_makeSlice, eff_makeFunc, eff_makeInterface, eff_nilCheck, eff_panic, eff_len1, eff_max2, eff_min2, eff_append2, eff_callV, stepE_val, contR_ok, contR_pan, outC_ok, outC_pan, thenC_normal, thenC_ret, thenC_exit, thenC_pan, blockC, evalC_ret, evalC_skip, evalC_exit, evalC_block, evalC_scope, evalC_loop, Loc.putO, Loc.put, idx, evO, constV, Loc.get, Vm.look, valO_some, bin_int, intA, evalC_cond, condC_true, condC_false, unwindA, resultsA, resultV, actA, pureA, storeA, loadA, fillE, repElems, TI.zeroV, fieldOf, fieldAddrA, fieldA, elemsA, retE, cells?_put_push, push_at, put_at, cellsOf?, Nat.add_assoc, n_push', n_put', isCell_undef, known_undef, cells_undef, isCell_bool, known_bool, cells_bool, isCell_int, known_int, cells_int, isCell_str, known_str, cells_str, isCell_nilp, known_nilp, cells_nilp, isCell_ptr, known_ptr, cells_ptr, isCell_rptr, known_rptr, cells_rptr, isCell_nils, known_nils, cells_nils, isCell_slice, known_slice, cells_slice, isCell_rsl, known_rsl, cells_rsl, isCell_nilm, known_nilm, cells_nilm, isCell_map, known_map, cells_map, isCell_fn, known_fn, cells_fn, isCell_yld, known_yld, cells_yld, isCell_nilf, known_nilf, cells_nilf, isCell_iface, known_iface, cells_iface, isCell_nili, known_nili, cells_nili, isCell_agg, known_agg, cells_agg, isCell_tup, known_tup, cells_tup, setCells, nowhere, GotF_some, Got_some, int_beq, int_bne, hlk, hli]
  exact hp _ _ (congrArg FRes.ret (hm _))

theorem rows_use {cs : List Con} (h : sumOf cs 51 = rowsC.look) {n : Nat} {rs : List (List (Int × Int))} {S : St} (hl : RowsOk rs) : callS ED (sumOf cs) n (.fn 51) [(rowsV rs).enc] S = some (.ret (lst (rs.map rowA)), S) :=
  Con.use (c := rowsC) (fun (x y : List (List (Int × Int))) hx hy h => by
    have h' : [(rowsV x).enc] = [(rowsV y).enc] := h
    simp only [List.cons.injEq, and_true] at h'
    rw [rowsV_inj h']) h (rs : List (List (Int × Int))) hl (by show [(rowsV rs).enc.dead] = [(rowsV rs).enc]; simp)

end Go.Proofs.YtjgigcaelcapdaaDoor

namespace Go.Proofs.YtjgigcaelcapdaaDoor
open Go Go.Vm Go.Vm.T
set_option maxRecDepth 100000
set_option linter.unusedSimpArgs false
set_option linter.unusedVariables false

def sumRow (l : List Int) (row : List (Int × Int)) : Int := row.foldl (fun s e => wordZ (s + wordZ (e.2 * l.getD e.1.toNat 0))) 0
def timesL (rs : List (List (Int × Int))) (l : List Int) : List Int := rs.map (sumRow l)

theorem wordZ_word (a : Int) : isWord (wordZ a) := by
  unfold wordZ isWord IntKind.wrap
  simp [IntKind.bits, IntKind.signed]
  split <;> split <;> omega

structure TimesX where
  rs : List (List (Int × Int))
  l : List Int
def timesC : Con where
  f := 50
  X := TimesX
  dom x := RowsOk x.rs ∧ x.l.length ≤ 1000 ∧ (∀ z ∈ x.l, isWord z) ∧ ∀ r ∈ x.rs, ∀ e ∈ r, 0 ≤ e.1 ∧ e.1 < (x.l.length : Int) ∧ isWord e.2
  enc x := [lst (x.rs.map rowA), lstI x.l]
  res x := .ret (lstI (timesL x.rs x.l))

theorem lstI_index {zs : List Int} {j : Nat} (h : j < zs.length) : indexAddrA ED 22 (lstI zs) (.int .i64 j) = some (.rptr [.int .i64 zs[j]]) := (lstI_D zs).index h
theorem lstI_len {zs : List Int} : lenA ED 22 (lstI zs) = some (.int .i64 zs.length) := (lstI_D zs).len

theorem rowAs_get {rs : List (List (Int × Int))} {j : Nat} (h : j < rs.length) : indexAddrA ED 87 (lst (rs.map rowA)) (.int .i64 j) = some (.rptr [rowA rs[j]]) := by
  cases rs with
  | nil => simp at h
  | cons a r =>
    have e : (rowA a :: r.map rowA)[j]? = some (rowA (a :: r)[j]) := by
      rw [show rowA a :: r.map rowA = (a :: r).map rowA from rfl, List.getElem?_map, List.getElem?_eq_getElem h]
      rfl
    simp only [List.map_cons, lst, indexAddrA, ED_desc87, ED_size73, Int.toNat_natCast]
    have h1 : (0 : Int) ≤ (j : Int) ∧ (j : Int) < ((rowA a :: r.map rowA).length : Nat) := by
      simp only [List.length_cons, List.length_map] at h ⊢
      omega
    rw [if_pos h1, e]
    simp [(rowA_cell _).2.2]
theorem len87 {rs : List AV} : lenA ED 87 (lst rs) = some (.int .i64 rs.length) := by cases rs <;> rfl

theorem times_ok : timesC.Ok Tryd.prog ED := by
  refine Con.ok_at ED_ok ED_pers [needC, wrapC 64] (by simpa using ⟨need_ok, wrapped_ok⟩) (fun (x : TimesX) _ => ⟨by show AV.persL [lst (x.rs.map rowA), lstI x.l] = true; simp [AV.persL, lst_pers' (rowAs_pers x.rs), lstI_pers], lstI_pers _⟩) ?_
  rintro ⟨rs, l⟩ ⟨⟨h1, h2⟩, h3, h4, h5⟩
  replace h1 : rs.length ≤ 1000 := h1
  replace h2 : ∀ r ∈ rs, r.length ≤ 1000 := h2
  replace h3 : l.length ≤ 1000 := h3
  replace h4 : ∀ z ∈ l, isWord z := h4
  replace h5 : ∀ r ∈ rs, ∀ e ∈ r, 0 ≤ e.1 ∧ e.1 < (l.length : Int) ∧ isWord e.2 := h5
  show ∃ n, ∀ p : FRes → St → Prop, (∀ r S', r.melt S' = .ret (lstI (timesL rs l)) → p r S') → GotF (callS ED (sumOf [needC, wrapC 64]) n (.fn 50) [lst (rs.map rowA), lstI l] S0) p
  refine ⟨1003, fun p hp => ?_⟩
  rw [callS_fn rfl]
  have d0 := @dr50_0
  simp only [drA, drawsOf, Option.getD_some, List.nil_append, List.append_nil, List.getD_cons_zero, List.getD_cons_succ, List.cons_append, Tryd.f50] at d0
  have uN := fun (n : Nat) (S : St) => need_use (cs := [needC, wrapC 64]) rfl (n := n) (b := true) (S := S)
  have uW := fun (n : Nat) (a : Int) (S : St) => wrapped_use (cs := [needC, wrapC 64]) (by funext a; rfl) (n := n) (a := a) (S := S)
  have hll : lenA ED 22 (lstI l) = some (.int .i64 l.length) := lstI_len
  have hli := fun (j : Nat) (hj : j < l.length) => lstI_index hj
  have hlR : lenA ED 87 (lst (rs.map rowA)) = some (.int .i64 rs.length) := by rw [len87]; simp
  have hRi := fun (j : Nat) (hj : j < rs.length) => rowAs_get hj
  generalize lstI l = V at *
  generalize lst (rs.map rowA) = R at *
  simp only [fnA, ED_fn50, fi50, Tryd.f50]
  simp [evalC_seq, evalC_region, runA_cons', runA_consN, runA_consG, guardR_true, guardR_false, guardV_bool, guardV_tup, runA_nil', inFrame, startLoc, startVals, Loc.clear, eff_move, eff_assign, eff_binOp, eff_build, eff_buildSlice, eff_alloc, eff_box, eff_store, eff_load, eff_fieldAddr, eff_field, eff_indexAddr, eff_slice, eff_extract, eff_pick, eff_unOp, eff_convert, eff_makeSlice, eff_makeFunc, eff_makeInterface, eff_nilCheck, eff_panic, eff_len1, eff_max2, eff_min2, eff_append2, eff_callV, stepE_val, contR_ok, contR_pan, outC_ok, outC_pan, thenC_normal, thenC_ret, thenC_exit, thenC_pan, blockC, evalC_ret, evalC_skip, evalC_exit, evalC_block, evalC_scope, evalC_loop, Loc.putO, Loc.put, idx, evO, constV, Loc.get, Vm.look, valO_some, bin_int, intA, evalC_cond, condC_true, condC_false, unwindA, resultsA, resultV, actA, pureA, storeA, loadA, fillE, repElems, TI.zeroV, fieldOf, fieldAddrA, fieldA, elemsA, retE, cells?_put_push, push_at, put_at, cellsOf?, Nat.add_assoc, n_push', n_put', isCell_undef, known_undef, cells_undef, isCell_bool, known_bool, cells_bool, isCell_int, known_int, cells_int, isCell_str, known_str, cells_str, isCell_nilp, known_nilp, cells_nilp, isCell_ptr, known_ptr, cells_ptr, isCell_rptr, known_rptr, cells_rptr, isCell_nils, known_nils, cells_nils, isCell_slice, known_slice, cells_slice, isCell_rsl, known_rsl, cells_rsl, isCell_nilm, known_nilm, cells_nilm, isCell_map, known_map, cells_map, isCell_fn, known_fn, cells_fn, isCell_yld, known_yld, cells_yld, isCell_nilf, known_nilf, cells_nilf, isCell_iface, known_iface, cells_iface, isCell_nili, known_nili, cells_nili, isCell_agg, known_agg, cells_agg, isCell_tup, known_tup, cells_tup, setCells, nowhere, GotF_some, Got_some, int_beq, int_bne, hlR]
  generalize hc : iter _ _ _ _ = c
  obtain ⟨e1, L1, S1, rfl, hq⟩ := loop_of hc
    (fun r L S => ∃ j sc a7 a8 a10 a17 a18 a19 v T, j + r = rs.length ∧ L = vloc [R, V, .nils, v, a7, a8, a10, R, .int .i64 rs.length, .int .i64 (j : Nat), a17, a18, a19] sc ∧ LiveT S 1 v (ints ((rs.take j).map (sumRow l))) T ∧ (ints ((rs.take j).map (sumRow l)) = [] → v = .nils))
    (fun e L S => e = .exit 0 ∧ ∃ sc a7 a8 a10 a13 a17 a18 a19 v T, L = vloc [R, V, .nils, v, a7, a8, a10, R, .int .i64 rs.length, a13, a17, a18, a19] sc ∧ LiveT S 1 v (ints (timesL rs l)) T ∧ (ints (timesL rs l) = [] → v = .nils))
    rs.length (by omega)
    ⟨0, _, _, _, _, _, _, _, .nils, none, by simp, rfl, .inl ⟨rfl, by simp [ints]⟩, by simp⟩
    (by
      rintro r L S ⟨j, sc, a7, a8, a10, a17, a18, a19, v, T, hjk, rfl, hl, hn⟩ q hq1 hq2
      by_cases hj : j < rs.length
      · have hw : IntKind.i64.wrap ((j : Int) + 1) = ((j : Int) + 1) := wrap_id (by omega) (by omega)
        have hix := hRi j hj
        have hrow := h5 rs[j] (List.getElem_mem hj)
        have hrl := h2 rs[j] (List.getElem_mem hj)
        have e1 : (rs.take (j + 1)).map (sumRow l) = (rs.take j).map (sumRow l) ++ [sumRow l rs[j]] := by rw [List.take_add_one, List.getElem?_eq_getElem hj, List.map_append]; rfl
        generalize rs[j] = row at *
        have hlr : lenA ED 73 (rowA row) = some (.int .i64 row.length) := by unfold rowA; rw [len73]; simp
        have hri := fun (k : Nat) (hk : k < row.length) => duoAs_get hk
        change ∀ k hk, indexAddrA ED 73 (rowA row) _ = _ at hri
        simp [evalC_seq, evalC_region, runA_cons', runA_consN, runA_consG, guardR_true, guardR_false, guardV_bool, guardV_tup, runA_nil', inFrame, startLoc, startVals, Loc.clear, eff_move, eff_assign, eff_binOp, eff_build, eff_buildSlice, eff_alloc, eff_box, eff_store, eff_load, eff_fieldAddr, eff_field, eff_indexAddr, eff_slice, eff_extract, eff_pick, eff_unOp, eff_convert, eff_makeSlice, eff_makeFunc, eff_makeInterface, eff_nilCheck, eff_panic, eff_len1, eff_max2, eff_min2, eff_append2, eff_callV, stepE_val, contR_ok, contR_pan, outC_ok, outC_pan, thenC_normal, thenC_ret, thenC_exit, thenC_pan, blockC, evalC_ret, evalC_skip, evalC_exit, evalC_block, evalC_scope, evalC_loop, Loc.putO, Loc.put, idx, evO, constV, Loc.get, Vm.look, valO_some, bin_int, intA, evalC_cond, condC_true, condC_false, unwindA, resultsA, resultV, actA, pureA, storeA, loadA, fillE, repElems, TI.zeroV, fieldOf, fieldAddrA, fieldA, elemsA, retE, cells?_put_push, push_at, put_at, cellsOf?, Nat.add_assoc, n_push', n_put', isCell_undef, known_undef, cells_undef, isCell_bool, known_bool, cells_bool, isCell_int, known_int, cells_int, isCell_str, known_str, cells_str, isCell_nilp, known_nilp, cells_nilp, isCell_ptr, known_ptr, cells_ptr, isCell_rptr, known_rptr, cells_rptr, isCell_nils, known_nils, cells_nils, isCell_slice, known_slice, cells_slice, isCell_rsl, known_rsl, cells_rsl, isCell_nilm, known_nilm, cells_nilm, isCell_map, known_map, cells_map, isCell_fn, known_fn, cells_fn, isCell_yld, known_yld, cells_yld, isCell_nilf, known_nilf, cells_nilf, isCell_iface, known_iface, cells_iface, isCell_nili, known_nili, cells_nili, isCell_agg, known_agg, cells_agg, isCell_tup, known_tup, cells_tup, setCells, nowhere, GotF_some, Got_some, int_beq, int_bne, vloc, hj, hix, hlr]
        generalize hc2 : iter _ _ _ _ = c2
        obtain ⟨e2, L2, S2, rfl, hq'⟩ := loop_of hc2
          (fun r2 L S => ∃ k sc a10, k + r2 = row.length ∧ L = vloc [R, V, .nils, v, rowA row, .int .i64 (sumRow l (row.take k)), a10, R, .int .i64 rs.length, .int .i64 (j : Nat), rowA row, .int .i64 row.length, .int .i64 (k : Nat)] sc ∧ LiveT S 1 v (ints ((rs.take j).map (sumRow l))) T)
          (fun e L S => e = .exit 2 ∧ ∃ sc a10 a19, L = vloc [R, V, .nils, v, rowA row, .int .i64 (sumRow l row), a10, R, .int .i64 rs.length, .int .i64 (j : Nat), rowA row, .int .i64 row.length, a19] sc ∧ LiveT S 1 v (ints ((rs.take j).map (sumRow l))) T)
          row.length (by omega)
          ⟨0, _, _, by simp, rfl, hl⟩
          (by
            rintro r2 L S ⟨k, sc, a10, hkk, rfl, hl⟩ q' hq1' hq2'
            by_cases hk : k < row.length
            · have hw' : IntKind.i64.wrap ((k : Int) + 1) = ((k : Int) + 1) := wrap_id (by omega) (by omega)
              have hx := hri k hk
              obtain ⟨p0, p1, p2⟩ := hrow row[k] (List.getElem_mem hk)
              have hsum : sumRow l (row.take (k + 1)) = wordZ (sumRow l (row.take k) + wordZ (row[k].2 * l.getD row[k].1.toNat 0)) := by
                unfold sumRow
                rw [List.take_add_one, List.getElem?_eq_getElem hk, List.foldl_append]
                rfl
              have hsw : isWord (sumRow l (row.take k)) ∨ sumRow l (row.take k) = 0 := by
                cases k with
                | zero => right; simp [sumRow]
                | succ k =>
                  left
                  unfold sumRow
                  rw [List.take_add_one, List.getElem?_eq_getElem (by omega), List.foldl_append]
                  exact wordZ_word _
              generalize sumRow l (row.take k) = s0 at *
              obtain ⟨x, hxx⟩ := Int.eq_ofNat_of_zero_le p0
              have hxl : x < l.length := by omega
              have hli' := hli x hxl
              have hlw := h4 l[x] (List.getElem_mem hxl)
              have hget : l.getD row[k].1.toNat 0 = l[x] := by rw [hxx]; simp [List.getD_eq_getElem?_getD, hxl]
              rw [hget] at hsum
              rw [hxx] at hx p1
              generalize l[x] = z at *
              generalize row[k].2 = y at *
              have hprod : -4611686018427387904 ≤ y * z ∧ y * z ≤ 4611686018427387904 := by
                unfold isWord at p2 hlw
                have a1 : (y * z).natAbs ≤ 2147483648 * 2147483648 := by
                  rw [Int.natAbs_mul]
                  exact Nat.mul_le_mul (by omega) (by omega)
                omega
              have hwm : IntKind.i64.wrap (y * z) = y * z := wrap_id (by omega) (by omega)
              have hww := wordZ_word (y * z)
              have hwa : IntKind.i64.wrap (s0 + wordZ (y * z)) = s0 + wordZ (y * z) := by
                unfold isWord at hww hsw
                exact wrap_id (by omega) (by omega)
              simp [evalC_seq, evalC_region, runA_cons', runA_consN, runA_consG, guardR_true, guardR_false, guardV_bool, guardV_tup, runA_nil', inFrame, startLoc, startVals, Loc.clear, eff_move, eff_assign, eff_binOp, eff_build, eff_buildSlice, eff_alloc, eff_box, eff_store, eff_load, eff_fieldAddr, eff_field, eff_indexAddr, eff_slice, eff_extract, eff_pick, eff_unOp, eff_convert, eff_makeSlice, eff_makeFunc, eff_makeInterface, eff_nilCheck, eff_panic, eff_len1, eff_max2, eff_min2, eff_append2, eff_callV, stepE_val, contR_ok, contR_pan, outC_ok, outC_pan, thenC_normal, thenC_ret, thenC_exit, thenC_pan, blockC, evalC_ret, evalC_skip, evalC_exit, evalC_block, evalC_scope, evalC_loop, Loc.putO, Loc.put, idx, evO, constV, Loc.get, Vm.look, valO_some, bin_int, intA, evalC_cond, condC_true, condC_false, unwindA, resultsA, resultV, actA, pureA, storeA, loadA, fillE, repElems, TI.zeroV, fieldOf, fieldAddrA, fieldA, elemsA, retE, cells?_put_push, push_at, put_at, cellsOf?, Nat.add_assoc, n_push', n_put', isCell_undef, known_undef, cells_undef, isCell_bool, known_bool, cells_bool, isCell_int, known_int, cells_int, isCell_str, known_str, cells_str, isCell_nilp, known_nilp, cells_nilp, isCell_ptr, known_ptr, cells_ptr, isCell_rptr, known_rptr, cells_rptr, isCell_nils, known_nils, cells_nils, isCell_slice, known_slice, cells_slice, isCell_rsl, known_rsl, cells_rsl, isCell_nilm, known_nilm, cells_nilm, isCell_map, known_map, cells_map, isCell_fn, known_fn, cells_fn, isCell_yld, known_yld, cells_yld, isCell_nilf, known_nilf, cells_nilf, isCell_iface, known_iface, cells_iface, isCell_nili, known_nili, cells_nili, isCell_agg, known_agg, cells_agg, isCell_tup, known_tup, cells_tup, setCells, nowhere, GotF_some, Got_some, int_beq, int_bne, runC_nil, runC_cons, pickC_some, wantC_tt, wantC_tf, effC_val, ifC_true, checkC, inPairs, keepC, okC, readsC_load, readV_some, AV.beq_self, wantA_n, wantA_g, wantD_some, d0, vloc, hk, hx, hll, hxl, uN, hli', uW, hwm, hwa, hw']
              refine hq1' (r2 - 1) _ _ (by omega) ⟨k + 1, _, _, by omega, by rw [hsum]; rfl, ?_⟩
              refine hl.keep (U := none) ⟨by rw [n_put', n_push']; omega, fun i o _ h => ?_, fun i cs h => cells_box h⟩ (fun _ _ => by simp)
              rw [St.get_put_ne _ _ _ (by have := St.get_lt h; omega)]
              exact St.get_push_of S _ h
            · have hkl : k = row.length := by omega
              subst hkl
              simp [evalC_seq, evalC_region, runA_cons', runA_consN, runA_consG, guardR_true, guardR_false, guardV_bool, guardV_tup, runA_nil', inFrame, startLoc, startVals, Loc.clear, eff_move, eff_assign, eff_binOp, eff_build, eff_buildSlice, eff_alloc, eff_box, eff_store, eff_load, eff_fieldAddr, eff_field, eff_indexAddr, eff_slice, eff_extract, eff_pick, eff_unOp, eff_convert, eff_makeSlice, eff_makeFunc, eff_makeInterface, eff_nilCheck, eff_panic, eff_len1, eff_max2, eff_min2, eff_append2, eff_callV, stepE_val, contR_ok, contR_pan, outC_ok, outC_pan, thenC_normal, thenC_ret, thenC_exit, thenC_pan, blockC, evalC_ret, evalC_skip, evalC_exit, evalC_block, evalC_scope, evalC_loop, Loc.putO, Loc.put, idx, evO, constV, Loc.get, Vm.look, valO_some, bin_int, intA, evalC_cond, condC_true, condC_false, unwindA, resultsA, resultV, actA, pureA, storeA, loadA, fillE, repElems, TI.zeroV, fieldOf, fieldAddrA, fieldA, elemsA, retE, cells?_put_push, push_at, put_at, cellsOf?, Nat.add_assoc, n_push', n_put', isCell_undef, known_undef, cells_undef, isCell_bool, known_bool, cells_bool, isCell_int, known_int, cells_int, isCell_str, known_str, cells_str, isCell_nilp, known_nilp, cells_nilp, isCell_ptr, known_ptr, cells_ptr, isCell_rptr, known_rptr, cells_rptr, isCell_nils, known_nils, cells_nils, isCell_slice, known_slice, cells_slice, isCell_rsl, known_rsl, cells_rsl, isCell_nilm, known_nilm, cells_nilm, isCell_map, known_map, cells_map, isCell_fn, known_fn, cells_fn, isCell_yld, known_yld, cells_yld, isCell_nilf, known_nilf, cells_nilf, isCell_iface, known_iface, cells_iface, isCell_nili, known_nili, cells_nili, isCell_agg, known_agg, cells_agg, isCell_tup, known_tup, cells_tup, setCells, nowhere, GotF_some, Got_some, int_beq, int_bne, vloc]
              refine hq2' _ _ _ (by simp) ⟨rfl, _, a10, _, rfl, hl⟩)
        obtain ⟨rfl, sc', a10', a19', rfl, hl2⟩ := hq'
        obtain ⟨v', S', ha, hl', hn', hk⟩ := append_int (sumRow l row) hl2 (by simp; omega)
        simp [evalC_seq, evalC_region, runA_cons', runA_consN, runA_consG, guardR_true, guardR_false, guardV_bool, guardV_tup, runA_nil', inFrame, startLoc, startVals, Loc.clear, eff_move, eff_assign, eff_binOp, eff_build, eff_buildSlice, eff_alloc, eff_box, eff_store, eff_load, eff_fieldAddr, eff_field, eff_indexAddr, eff_slice, eff_extract, eff_pick, eff_unOp, eff_convert, eff_makeSlice, eff_makeFunc, eff_makeInterface, eff_nilCheck, eff_panic, eff_len1, eff_max2, eff_min2, eff_append2, eff_callV, stepE_val, contR_ok, contR_pan, outC_ok, outC_pan, thenC_normal, thenC_ret, thenC_exit, thenC_pan, blockC, evalC_ret, evalC_skip, evalC_exit, evalC_block, evalC_scope, evalC_loop, Loc.putO, Loc.put, idx, evO, constV, Loc.get, Vm.look, valO_some, bin_int, intA, evalC_cond, condC_true, condC_false, unwindA, resultsA, resultV, actA, pureA, storeA, loadA, fillE, repElems, TI.zeroV, fieldOf, fieldAddrA, fieldA, elemsA, retE, cells?_put_push, push_at, put_at, cellsOf?, Nat.add_assoc, n_push', n_put', isCell_undef, known_undef, cells_undef, isCell_bool, known_bool, cells_bool, isCell_int, known_int, cells_int, isCell_str, known_str, cells_str, isCell_nilp, known_nilp, cells_nilp, isCell_ptr, known_ptr, cells_ptr, isCell_rptr, known_rptr, cells_rptr, isCell_nils, known_nils, cells_nils, isCell_slice, known_slice, cells_slice, isCell_rsl, known_rsl, cells_rsl, isCell_nilm, known_nilm, cells_nilm, isCell_map, known_map, cells_map, isCell_fn, known_fn, cells_fn, isCell_yld, known_yld, cells_yld, isCell_nilf, known_nilf, cells_nilf, isCell_iface, known_iface, cells_iface, isCell_nili, known_nili, cells_nili, isCell_agg, known_agg, cells_agg, isCell_tup, known_tup, cells_tup, setCells, nowhere, GotF_some, Got_some, int_beq, int_bne, vloc, ha, hw]
        refine hq1 (r - 1) _ _ (by omega) ⟨j + 1, _, _, _, _, _, _, _, v', some S2.n, by omega, rfl, by rw [e1]; exact hl', ?_⟩
        intro h
        have := congrArg List.length h
        rw [ints_length, List.length_map, List.length_take, List.length_nil] at this
        omega
      · have hjl : j = rs.length := by omega
        subst hjl
        simp [evalC_seq, evalC_region, runA_cons', runA_consN, runA_consG, guardR_true, guardR_false, guardV_bool, guardV_tup, runA_nil', inFrame, startLoc, startVals, Loc.clear, eff_move, eff_assign, eff_binOp, eff_build, eff_buildSlice, eff_alloc, eff_box, eff_store, eff_load, eff_fieldAddr, eff_field, eff_indexAddr, eff_slice, eff_extract, eff_pick, eff_unOp, eff_convert, eff_makeSlice, eff_makeFunc, eff_makeInterface, eff_nilCheck, eff_panic, eff_len1, eff_max2, eff_min2, eff_append2, eff_callV, stepE_val, contR_ok, contR_pan, outC_ok, outC_pan, thenC_normal, thenC_ret, thenC_exit, thenC_pan, blockC, evalC_ret, evalC_skip, evalC_exit, evalC_block, evalC_scope, evalC_loop, Loc.putO, Loc.put, idx, evO, constV, Loc.get, Vm.look, valO_some, bin_int, intA, evalC_cond, condC_true, condC_false, unwindA, resultsA, resultV, actA, pureA, storeA, loadA, fillE, repElems, TI.zeroV, fieldOf, fieldAddrA, fieldA, elemsA, retE, cells?_put_push, push_at, put_at, cellsOf?, Nat.add_assoc, n_push', n_put', isCell_undef, known_undef, cells_undef, isCell_bool, known_bool, cells_bool, isCell_int, known_int, cells_int, isCell_str, known_str, cells_str, isCell_nilp, known_nilp, cells_nilp, isCell_ptr, known_ptr, cells_ptr, isCell_rptr, known_rptr, cells_rptr, isCell_nils, known_nils, cells_nils, isCell_slice, known_slice, cells_slice, isCell_rsl, known_rsl, cells_rsl, isCell_nilm, known_nilm, cells_nilm, isCell_map, known_map, cells_map, isCell_fn, known_fn, cells_fn, isCell_yld, known_yld, cells_yld, isCell_nilf, known_nilf, cells_nilf, isCell_iface, known_iface, cells_iface, isCell_nili, known_nili, cells_nili, isCell_agg, known_agg, cells_agg, isCell_tup, known_tup, cells_tup, setCells, nowhere, GotF_some, Got_some, int_beq, int_bne, vloc]
        refine hq2 _ _ _ (by simp) ⟨rfl, _, a7, a8, a10, _, a17, a18, a19, v, T, rfl, by simpa [timesL] using hl, by simpa [timesL] using hn⟩)
  obtain ⟨rfl, sc, a7, a8, a10, a13, a17, a18, a19, v, T, rfl, hl, hn⟩ := hq
  simp [evalC_seq, evalC_region, runA_cons', runA_consN, runA_consG, guardR_true, guardR_false, guardV_bool, guardV_tup, runA_nil', inFrame, startLoc, startVals, Loc.clear, eff_move, eff_assign, eff_binOp, eff_build, eff_buildSlice, eff_alloc, eff_box, eff_store, eff_load, eff_fieldAddr, eff_field, eff_indexAddr, eff_slice, eff_extract, eff_pick, eff_unOp, eff_convert, eff_makeSlice, eff_makeFunc, eff_makeInterface, eff_nilCheck, eff_panic, eff_len1, eff_max2, eff_min2, eff_append2, eff_callV, stepE_val, contR_ok, contR_pan, outC_ok, outC_pan, thenC_normal, thenC_ret, thenC_exit, thenC_pan, blockC, evalC_ret, evalC_skip, evalC_exit, evalC_block, evalC_scope, evalC_loop, Loc.putO, Loc.put, idx, evO, constV, Loc.get, Vm.look, valO_some, bin_int, intA, evalC_cond, condC_true, condC_false, unwindA, resultsA, resultV, actA, pureA, storeA, loadA, fillE, repElems, TI.zeroV, fieldOf, fieldAddrA, fieldA, elemsA, retE, cells?_put_push, push_at, put_at, cellsOf?, Nat.add_assoc, n_push', n_put', isCell_undef, known_undef, cells_undef, isCell_bool, known_bool, cells_bool, isCell_int, known_int, cells_int, isCell_str, known_str, cells_str, isCell_nilp, known_nilp, cells_nilp, isCell_ptr, known_ptr, cells_ptr, isCell_rptr, known_rptr, cells_rptr, isCell_nils, known_nils, cells_nils, isCell_slice, known_slice, cells_slice, isCell_rsl, known_rsl, cells_rsl, isCell_nilm, known_nilm, cells_nilm, isCell_map, known_map, cells_map, isCell_fn, known_fn, cells_fn, isCell_yld, known_yld, cells_yld, isCell_nilf, known_nilf, cells_nilf, isCell_iface, known_iface, cells_iface, isCell_nili, known_nili, cells_nili, isCell_agg, known_agg, cells_agg, isCell_tup, known_tup, cells_tup, setCells, nowhere, GotF_some, Got_some, int_beq, int_bne, vloc]
  refine hp _ _ ?_
  have hd := dead_lst hl hn (ints_pers _)
  rcases hl.cases with ⟨rfl, h2⟩ | ⟨tk, rfl⟩
  · simp only [FRes.melt, AV.melt, hd, lstI]
  · simp only [FRes.melt, AV.melt, hd, lstI]

theorem rowA_inj {a b : List (Int × Int)} (h : rowA a = rowA b) : a = b := duoAs_inj (lst_inj h)
theorem rowAs_inj {a b : List (List (Int × Int))} (h : lst (a.map rowA) = lst (b.map rowA)) : a = b := by
  have h1 := lst_inj h
  clear h
  induction a generalizing b with
  | nil => cases b with
    | nil => rfl
    | cons y b => simp at h1
  | cons x a ih => cases b with
    | nil => simp at h1
    | cons y b =>
      simp only [List.map_cons, List.cons.injEq] at h1
      rw [rowA_inj h1.1, ih h1.2]
theorem lstI_inj {a b : List Int} (h : lstI a = lstI b) : a = b := ints_inj (lst_inj h)

def TimesOk (rs : List (List (Int × Int))) (l : List Int) : Prop := RowsOk rs ∧ l.length ≤ 1000 ∧ (∀ z ∈ l, isWord z) ∧ ∀ r ∈ rs, ∀ e ∈ r, 0 ≤ e.1 ∧ e.1 < (l.length : Int) ∧ isWord e.2

theorem times_use {cs : List Con} (h : sumOf cs 50 = timesC.look) {n : Nat} {rs : List (List (Int × Int))} {l : List Int} {v : AV} {S : St} (hok : TimesOk rs l) (hv : v.dead = lstI l) :
    callS ED (sumOf cs) n (.fn 50) [lst (rs.map rowA), v] S = some (.ret (lstI (timesL rs l)), S) :=
  Con.use (c := timesC) (fun (x y : TimesX) hx hy h => by
    obtain ⟨a, b⟩ := x
    obtain ⟨c, d⟩ := y
    have h' : [lst (a.map rowA), lstI b] = [lst (c.map rowA), lstI d] := h
    simp only [List.cons.injEq, and_true] at h'
    rw [rowAs_inj h'.1, lstI_inj h'.2]) h ⟨rs, l⟩ hok (by show [(lst (rs.map rowA)).dead, v.dead] = [lst (rs.map rowA), lstI l]; rw [dead_of_pers _ (lst_pers' (rowAs_pers rs)), hv])

/-! spmv, walk -/
theorem times_len (rs : List (List (Int × Int))) (l : List Int) : (timesL rs l).length = rs.length := by simp [timesL]
theorem times_words (rs : List (List (Int × Int))) (l : List Int) : ∀ z ∈ timesL rs l, isWord z := by
  intro z hz
  obtain ⟨r, _, rfl⟩ := List.mem_map.1 hz
  unfold sumRow
  rcases List.eq_nil_or_concat r with rfl | ⟨r', e, rfl⟩
  · unfold isWord; simp
  · rw [List.concat_eq_append, List.foldl_append]; exact wordZ_word _

def rowsOf' : GV → List (List (Int × Int))
  | .seq l => l.map edgesOf
  | _ => []
theorem rowsOf_rows (rs : List (List (Int × Int))) : rowsOf' (rowsV rs) = rs := by
  simp only [rowsOf', rowsV, List.map_map]
  induction rs with
  | nil => rfl
  | cons r rs ih => simp only [List.map_cons, ih, Function.comp, edgesOf_duos]
def wordsOf' : GV → List Int
  | .seq l => l.map fun
    | .num z => z
    | _ => 0
  | _ => []
theorem wordsOf_nums (zs : List Int) : wordsOf' (nums zs) = zs := by
  simp only [wordsOf', nums, List.map_map]
  induction zs with
  | nil => rfl
  | cons z zs ih => simp only [List.map_cons, ih, Function.comp]

def spmvOut : GV → Option (List Int)
  | .pair r v => some (timesL (rowsOf' r) (wordsOf' v))
  | _ => none
def spmvDom (g : GV) : Prop := ∃ rs zs, g = .pair (rowsV rs) (nums zs) ∧ TimesOk rs zs

theorem lstI_melt (zs : List Int) (S : St) : (lstI zs).melt S = lstI zs := by
  have hd := lstI_dead zs
  unfold lstI at *
  cases h : ints zs with
  | nil => rfl
  | cons a r => rw [h] at hd; exact hd

theorem spmv_ok : (valueC 36 spmvDom spmvOut).Ok Tryd.prog ED := by
  refine Con.ok_at ED_ok ED_pers [sideC 45 false, sideC 46 true, rowsC, wordsC2, timesC] (by simpa using ⟨first_ok, second_ok, rows_ok, words2_ok, times_ok⟩) (fun (g : GV) _ => ⟨by show AV.persL [g.enc] = true; simp [AV.persL, GV.pers], ?_⟩) ?_
  · simp only [valueC]
    cases spmvOut g with
    | none => rfl
    | some zs => exact lstI_pers zs
  rintro g ⟨rs, zs, rfl, hok⟩
  have hout : spmvOut (.pair (rowsV rs) (nums zs)) = some (timesL rs zs) := by simp [spmvOut, rowsOf_rows, wordsOf_nums]
  show ∃ n, ∀ p : FRes → St → Prop, (∀ r S', r.melt S' = (match spmvOut (.pair (rowsV rs) (nums zs)) with | some zs => .ret (lstI zs) | none => .pan trapV) → p r S') → GotF (callS ED (sumOf [sideC 45 false, sideC 46 true, rowsC, wordsC2, timesC]) n (.fn 36) [(GV.pair (rowsV rs) (nums zs)).enc] S0) p
  simp only [hout]
  refine ⟨1, fun p hp => ?_⟩
  have d0 := @dr36_0
  simp only [drA, drawsOf, Option.getD_some, List.nil_append, List.append_nil, List.getD_cons_zero, List.getD_cons_succ, List.cons_append, Tryd.f36] at d0
  rw [callS_fn rfl]
  have hf := fun (n : Nat) (S : St) => side_use (cs := [sideC 45 false, sideC 46 true, rowsC, wordsC2, timesC]) (f := 45) (b := false) rfl (n := n) (S := S) (x := rowsV rs) (y := nums zs)
  have hs := fun (n : Nat) (S : St) => side_use (cs := [sideC 45 false, sideC 46 true, rowsC, wordsC2, timesC]) (f := 46) (b := true) (by funext a; rfl) (n := n) (S := S) (x := rowsV rs) (y := nums zs)
  have hr := fun (n : Nat) (S : St) => rows_use (cs := [sideC 45 false, sideC 46 true, rowsC, wordsC2, timesC]) (by funext a; rfl) (n := n) (S := S) hok.1
  have hw := fun (n : Nat) (S : St) => words2_use (cs := [sideC 45 false, sideC 46 true, rowsC, wordsC2, timesC]) (by funext a; rfl) (n := n) (S := S) hok.2.1
  have ht := fun (n : Nat) (S : St) => times_use (cs := [sideC 45 false, sideC 46 true, rowsC, wordsC2, timesC]) (by funext a; rfl) (n := n) (S := S) hok (lstI_dead zs)
  simp only [Bool.false_eq_true, if_false, if_true] at hf hs
  simp only [fnA, ED_fn36, fi36, Tryd.f36]
  simp only [GV.enc.eq_2, pv] at hf hs ⊢
  simp [evalC_seq, evalC_region, runA_cons', runA_consN, runA_consG, guardR_true, guardR_false, guardV_bool, guardV_tup, runA_nil', inFrame, startLoc, startVals, Loc.clear, eff_move, eff_assign, eff_binOp, eff_build, eff_buildSlice, eff_alloc, eff_box, eff_store, eff_load, eff_fieldAddr, eff_field, eff_indexAddr, eff_slice, eff_extract, eff_pick, eff_unOp, eff_convert, eff_makeSlice, eff_makeFunc, eff_makeInterface, eff_nilCheck, eff_panic, eff_len1, eff_max2, eff_min2, eff_append2, eff_callV, stepE_val, contR_ok, contR_pan, outC_ok, outC_pan, thenC_normal, thenC_ret, thenC_exit, thenC_pan, blockC, evalC_ret, evalC_skip, evalC_exit, evalC_block, evalC_scope, evalC_loop, Loc.putO, Loc.put, idx, evO, constV, Loc.get, Vm.look, valO_some, bin_int, intA, evalC_cond, condC_true, condC_false, unwindA, resultsA, resultV, actA, pureA, storeA, loadA, fillE, repElems, TI.zeroV, fieldOf, fieldAddrA, fieldA, elemsA, retE, cells?_put_push, push_at, put_at, cellsOf?, Nat.add_assoc, n_push', n_put', isCell_undef, known_undef, cells_undef, isCell_bool, known_bool, cells_bool, isCell_int, known_int, cells_int, isCell_str, known_str, cells_str, isCell_nilp, known_nilp, cells_nilp, isCell_ptr, known_ptr, cells_ptr, isCell_rptr, known_rptr, cells_rptr, isCell_nils, known_nils, cells_nils, isCell_slice, known_slice, cells_slice, isCell_rsl, known_rsl, cells_rsl, isCell_nilm, known_nilm, cells_nilm, isCell_map, known_map, cells_map, isCell_fn, known_fn, cells_fn, isCell_yld, known_yld, cells_yld, isCell_nilf, known_nilf, cells_nilf, isCell_iface, known_iface, cells_iface, isCell_nili, known_nili, cells_nili, isCell_agg, known_agg, cells_agg, isCell_tup, known_tup, cells_tup, setCells, nowhere, GotF_some, Got_some, int_beq, int_bne, runC_nil, runC_cons, pickC_some, wantC_tt, wantC_tf, effC_val, ifC_true, checkC, inPairs, keepC, okC, readsC_load, readV_some, AV.beq_self, wantA_n, wantA_g, wantD_some, d0, hf, hs, hr, hw, ht]
  exact hp _ _ (congrArg FRes.ret (lstI_melt _ _))

def spmvD : Con := defineC nSpmv tSpmv spmvDom spmvOut
theorem spmvD_ok : spmvD.Ok Tryd.prog ED := define_ok headSpmv (.inr (.inr (.inl rfl))) (by decide) (by decide) (by decide) spmv_ok

end Go.Proofs.YtjgigcaelcapdaaDoor

namespace Go.Proofs.YtjgigcaelcapdaaDoor
open Go Go.Vm Go.Vm.T
set_option maxRecDepth 100000
set_option linter.unusedSimpArgs false
set_option linter.unusedVariables false

def iterL (rs : List (List (Int × Int))) : Nat → List Int → List Int
  | 0, l => l
  | n + 1, l => timesL rs (iterL rs n l)

theorem iterL_ok {rs : List (List (Int × Int))} {l : List Int} (h : TimesOk rs l) (hl : l.length = rs.length) : ∀ n, TimesOk rs (iterL rs n l) ∧ (iterL rs n l).length = rs.length
  | 0 => ⟨h, hl⟩
  | n + 1 => by
    obtain ⟨h1, h2⟩ := iterL_ok h hl n
    refine ⟨⟨h.1, ?_, times_words _ _, ?_⟩, times_len _ _⟩
    · simp only [iterL, times_len]; exact h.1.1
    · simp only [iterL, times_len]
      rw [← hl]
      exact h.2.2.2

theorem iterL_add (rs : List (List (Int × Int))) (l : List Int) (m : Nat) : ∀ n, iterL rs n (iterL rs m l) = iterL rs (m + n) l
  | 0 => rfl
  | n + 1 => by
    show timesL rs (iterL rs n (iterL rs m l)) = timesL rs (iterL rs (m + n) l)
    rw [iterL_add rs l m n]

def walkOut : GV → Option (List Int)
  | .pair (.num n) (.pair r v) => some (iterL (rowsOf' r) n.toNat (wordsOf' v))
  | _ => none
def walkDom (g : GV) : Prop := ∃ (n : Nat) (rs : List (List (Int × Int))) (zs : List Int), g = .pair (.num n) (.pair (rowsV rs) (nums zs)) ∧ n ≤ 30 ∧ TimesOk rs zs ∧ zs.length = rs.length

theorem max_zero (n : Nat) : foldA (maxA .max) (.int .i64 0) [.int .i64 n] = some (.int .i64 n) := by
  simp only [foldA, maxA, Option.some.injEq, AV.int.injEq, true_and]
  split <;> omega

theorem walk_ok : (valueC 37 walkDom walkOut).Ok Tryd.prog ED := by
  refine Con.ok_at ED_ok ED_pers [sideC 45 false, sideC 46 true, needC, rowsC, wordsC2, timesC] (by simpa using ⟨first_ok, second_ok, need_ok, rows_ok, words2_ok, times_ok⟩) (fun (g : GV) _ => ⟨by show AV.persL [g.enc] = true; simp [AV.persL, GV.pers], ?_⟩) ?_
  · simp only [valueC]
    cases walkOut g with
    | none => rfl
    | some zs => exact lstI_pers zs
  rintro g ⟨N, rs, zs, rfl, hN, hok, hlen⟩
  have hout : walkOut (.pair (.num N) (.pair (rowsV rs) (nums zs))) = some (iterL rs N zs) := by simp [walkOut, rowsOf_rows, wordsOf_nums]
  show ∃ n, ∀ p : FRes → St → Prop, (∀ r S', r.melt S' = (match walkOut (.pair (.num N) (.pair (rowsV rs) (nums zs))) with | some zs => .ret (lstI zs) | none => .pan trapV) → p r S') → GotF (callS ED (sumOf [sideC 45 false, sideC 46 true, needC, rowsC, wordsC2, timesC]) n (.fn 37) [(GV.pair (.num N) (.pair (rowsV rs) (nums zs))).enc] S0) p
  simp only [hout]
  refine ⟨100, fun p hp => ?_⟩
  have d0 := @dr37_0
  simp only [drA, drawsOf, Option.getD_some, List.nil_append, List.append_nil, List.getD_cons_zero, List.getD_cons_succ, List.cons_append, Tryd.f37] at d0
  rw [callS_fn rfl]
  have hf := fun (n : Nat) (x y : GV) (S : St) => side_use (cs := [sideC 45 false, sideC 46 true, needC, rowsC, wordsC2, timesC]) (f := 45) (b := false) rfl (n := n) (S := S) (x := x) (y := y)
  have hs := fun (n : Nat) (x y : GV) (S : St) => side_use (cs := [sideC 45 false, sideC 46 true, needC, rowsC, wordsC2, timesC]) (f := 46) (b := true) (by funext a; rfl) (n := n) (S := S) (x := x) (y := y)
  have uN := fun (n : Nat) (S : St) => need_use (cs := [sideC 45 false, sideC 46 true, needC, rowsC, wordsC2, timesC]) (by funext a; rfl) (n := n) (b := true) (S := S)
  have hr := fun (n : Nat) (S : St) => rows_use (cs := [sideC 45 false, sideC 46 true, needC, rowsC, wordsC2, timesC]) (by funext a; rfl) (n := n) (S := S) hok.1
  have hw := fun (n : Nat) (S : St) => words2_use (cs := [sideC 45 false, sideC 46 true, needC, rowsC, wordsC2, timesC]) (by funext a; rfl) (n := n) (S := S) hok.2.1
  have ht := fun (n k : Nat) (S : St) => times_use (cs := [sideC 45 false, sideC 46 true, needC, rowsC, wordsC2, timesC]) (by funext a; rfl) (n := n) (S := S) (iterL_ok hok hlen k).1 (lstI_dead _)
  simp only [Bool.false_eq_true, if_false, if_true] at hf hs
  have f1 := fun n S => hf n (.num N) (.pair (rowsV rs) (nums zs)) S
  have s1 := fun n S => hs n (.num N) (.pair (rowsV rs) (nums zs)) S
  have f2 := fun n S => hf n (rowsV rs) (nums zs) S
  have s2 := fun n S => hs n (rowsV rs) (nums zs) S
  clear hf hs
  have hp1 : ∀ z, partA ED 3 [.int .i64 1, .int .i64 z, .nils] 1 = some (.int .i64 z) := fun _ => rfl
  have hN' : (N : Int) ≤ 30 := by omega
  have hmx := max_zero N
  simp only [fnA, ED_fn37, fi37, Tryd.f37]
  simp only [GV.enc.eq_2, GV.enc.eq_1, pv, wv] at f1 s1 f2 s2 ⊢
  simp [evalC_seq, evalC_region, runA_cons', runA_consN, runA_consG, guardR_true, guardR_false, guardV_bool, guardV_tup, runA_nil', inFrame, startLoc, startVals, Loc.clear, eff_move, eff_assign, eff_binOp, eff_build, eff_buildSlice, eff_alloc, eff_box, eff_store, eff_load, eff_fieldAddr, eff_field, eff_indexAddr, eff_slice, eff_extract, eff_pick, eff_unOp, eff_convert, eff_makeSlice, eff_makeFunc, eff_makeInterface, eff_nilCheck, eff_panic, eff_len1, eff_max2, eff_min2, eff_append2, eff_callV, stepE_val, contR_ok, contR_pan, outC_ok, outC_pan, thenC_normal, thenC_ret, thenC_exit, thenC_pan, blockC, evalC_ret, evalC_skip, evalC_exit, evalC_block, evalC_scope, evalC_loop, Loc.putO, Loc.put, idx, evO, constV, Loc.get, Vm.look, valO_some, bin_int, intA, evalC_cond, condC_true, condC_false, unwindA, resultsA, resultV, actA, pureA, storeA, loadA, fillE, repElems, TI.zeroV, fieldOf, fieldAddrA, fieldA, elemsA, retE, cells?_put_push, push_at, put_at, cellsOf?, Nat.add_assoc, n_push', n_put', isCell_undef, known_undef, cells_undef, isCell_bool, known_bool, cells_bool, isCell_int, known_int, cells_int, isCell_str, known_str, cells_str, isCell_nilp, known_nilp, cells_nilp, isCell_ptr, known_ptr, cells_ptr, isCell_rptr, known_rptr, cells_rptr, isCell_nils, known_nils, cells_nils, isCell_slice, known_slice, cells_slice, isCell_rsl, known_rsl, cells_rsl, isCell_nilm, known_nilm, cells_nilm, isCell_map, known_map, cells_map, isCell_fn, known_fn, cells_fn, isCell_yld, known_yld, cells_yld, isCell_nilf, known_nilf, cells_nilf, isCell_iface, known_iface, cells_iface, isCell_nili, known_nili, cells_nili, isCell_agg, known_agg, cells_agg, isCell_tup, known_tup, cells_tup, setCells, nowhere, GotF_some, Got_some, int_beq, int_bne, runC_nil, runC_cons, pickC_some, wantC_tt, wantC_tf, effC_val, ifC_true, checkC, inPairs, keepC, okC, readsC_load, readV_some, AV.beq_self, wantA_n, wantA_g, wantD_some, d0, f1, s1, f2, s2, hr, hw, hp1, hN', uN, hmx]
  generalize hA : AV.agg [AV.int IntKind.i64 2, AV.int IntKind.i64 0, AV.slice [AV.agg [AV.int IntKind.i64 1, AV.int IntKind.i64 ↑N, AV.nils], AV.agg [AV.int IntKind.i64 2, AV.int IntKind.i64 0, AV.slice [(rowsV rs).enc, (nums zs).enc] Tk.dead]] Tk.dead] = A
  generalize hc : iter _ _ _ _ = c
  obtain ⟨e1, L1, S1, rfl, hq⟩ := loop_of hc
    (fun r L S => ∃ j sc, j + r = N ∧ L = vloc [A, .ptr 0 0, .nils, .int .i64 N, lstI (iterL rs j zs), lst (rs.map rowA), .int .i64 N, .int .i64 (j : Nat)] sc)
    (fun e L S => e = .exit 0 ∧ ∃ sc i, L = vloc [A, .ptr 0 0, .nils, .int .i64 N, lstI (iterL rs N zs), lst (rs.map rowA), .int .i64 N, i] sc)
    N (by omega)
    ⟨0, _, by simp, rfl⟩
    (by
      rintro r L S ⟨j, sc, hjk, rfl⟩ q hq1 hq2
      by_cases hj : j < N
      · have hwr : IntKind.i64.wrap ((j : Int) + 1) = ((j : Int) + 1) := wrap_id (by omega) (by omega)
        have ht' := fun n S => ht n j S
        simp [evalC_seq, evalC_region, runA_cons', runA_consN, runA_consG, guardR_true, guardR_false, guardV_bool, guardV_tup, runA_nil', inFrame, startLoc, startVals, Loc.clear, eff_move, eff_assign, eff_binOp, eff_build, eff_buildSlice, eff_alloc, eff_box, eff_store, eff_load, eff_fieldAddr, eff_field, eff_indexAddr, eff_slice, eff_extract, eff_pick, eff_unOp, eff_convert, eff_makeSlice, eff_makeFunc, eff_makeInterface, eff_nilCheck, eff_panic, eff_len1, eff_max2, eff_min2, eff_append2, eff_callV, stepE_val, contR_ok, contR_pan, outC_ok, outC_pan, thenC_normal, thenC_ret, thenC_exit, thenC_pan, blockC, evalC_ret, evalC_skip, evalC_exit, evalC_block, evalC_scope, evalC_loop, Loc.putO, Loc.put, idx, evO, constV, Loc.get, Vm.look, valO_some, bin_int, intA, evalC_cond, condC_true, condC_false, unwindA, resultsA, resultV, actA, pureA, storeA, loadA, fillE, repElems, TI.zeroV, fieldOf, fieldAddrA, fieldA, elemsA, retE, cells?_put_push, push_at, put_at, cellsOf?, Nat.add_assoc, n_push', n_put', isCell_undef, known_undef, cells_undef, isCell_bool, known_bool, cells_bool, isCell_int, known_int, cells_int, isCell_str, known_str, cells_str, isCell_nilp, known_nilp, cells_nilp, isCell_ptr, known_ptr, cells_ptr, isCell_rptr, known_rptr, cells_rptr, isCell_nils, known_nils, cells_nils, isCell_slice, known_slice, cells_slice, isCell_rsl, known_rsl, cells_rsl, isCell_nilm, known_nilm, cells_nilm, isCell_map, known_map, cells_map, isCell_fn, known_fn, cells_fn, isCell_yld, known_yld, cells_yld, isCell_nilf, known_nilf, cells_nilf, isCell_iface, known_iface, cells_iface, isCell_nili, known_nili, cells_nili, isCell_agg, known_agg, cells_agg, isCell_tup, known_tup, cells_tup, setCells, nowhere, GotF_some, Got_some, int_beq, int_bne, vloc, hj, ht', hwr]
        exact hq1 (r - 1) _ _ (by omega) ⟨j + 1, _, by omega, rfl⟩
      · have hjl : j = N := by omega
        subst hjl
        simp [evalC_seq, evalC_region, runA_cons', runA_consN, runA_consG, guardR_true, guardR_false, guardV_bool, guardV_tup, runA_nil', inFrame, startLoc, startVals, Loc.clear, eff_move, eff_assign, eff_binOp, eff_build, eff_buildSlice, eff_alloc, eff_box, eff_store, eff_load, eff_fieldAddr, eff_field, eff_indexAddr, eff_slice, eff_extract, eff_pick, eff_unOp, eff_convert, eff_makeSlice, eff_makeFunc, eff_makeInterface, eff_nilCheck, eff_panic, eff_len1, eff_max2, eff_min2, eff_append2, eff_callV, stepE_val, contR_ok, contR_pan, outC_ok, outC_pan, thenC_normal, thenC_ret, thenC_exit, thenC_pan, blockC, evalC_ret, evalC_skip, evalC_exit, evalC_block, evalC_scope, evalC_loop, Loc.putO, Loc.put, idx, evO, constV, Loc.get, Vm.look, valO_some, bin_int, intA, evalC_cond, condC_true, condC_false, unwindA, resultsA, resultV, actA, pureA, storeA, loadA, fillE, repElems, TI.zeroV, fieldOf, fieldAddrA, fieldA, elemsA, retE, cells?_put_push, push_at, put_at, cellsOf?, Nat.add_assoc, n_push', n_put', isCell_undef, known_undef, cells_undef, isCell_bool, known_bool, cells_bool, isCell_int, known_int, cells_int, isCell_str, known_str, cells_str, isCell_nilp, known_nilp, cells_nilp, isCell_ptr, known_ptr, cells_ptr, isCell_rptr, known_rptr, cells_rptr, isCell_nils, known_nils, cells_nils, isCell_slice, known_slice, cells_slice, isCell_rsl, known_rsl, cells_rsl, isCell_nilm, known_nilm, cells_nilm, isCell_map, known_map, cells_map, isCell_fn, known_fn, cells_fn, isCell_yld, known_yld, cells_yld, isCell_nilf, known_nilf, cells_nilf, isCell_iface, known_iface, cells_iface, isCell_nili, known_nili, cells_nili, isCell_agg, known_agg, cells_agg, isCell_tup, known_tup, cells_tup, setCells, nowhere, GotF_some, Got_some, int_beq, int_bne, vloc]
        exact hq2 _ _ _ (by simp) ⟨rfl, _, _, rfl⟩)
  obtain ⟨rfl, sc, i, rfl⟩ := hq
  simp [evalC_seq, evalC_region, runA_cons', runA_consN, runA_consG, guardR_true, guardR_false, guardV_bool, guardV_tup, runA_nil', inFrame, startLoc, startVals, Loc.clear, eff_move, eff_assign, eff_binOp, eff_build, eff_buildSlice, eff_alloc, eff_box, eff_store, eff_load, eff_fieldAddr, eff_field, eff_indexAddr, eff_slice, eff_extract, eff_pick, eff_unOp, eff_convert, eff_makeSlice, eff_makeFunc, eff_makeInterface, eff_nilCheck, eff_panic, eff_len1, eff_max2, eff_min2, eff_append2, eff_callV, stepE_val, contR_ok, contR_pan, outC_ok, outC_pan, thenC_normal, thenC_ret, thenC_exit, thenC_pan, blockC, evalC_ret, evalC_skip, evalC_exit, evalC_block, evalC_scope, evalC_loop, Loc.putO, Loc.put, idx, evO, constV, Loc.get, Vm.look, valO_some, bin_int, intA, evalC_cond, condC_true, condC_false, unwindA, resultsA, resultV, actA, pureA, storeA, loadA, fillE, repElems, TI.zeroV, fieldOf, fieldAddrA, fieldA, elemsA, retE, cells?_put_push, push_at, put_at, cellsOf?, Nat.add_assoc, n_push', n_put', isCell_undef, known_undef, cells_undef, isCell_bool, known_bool, cells_bool, isCell_int, known_int, cells_int, isCell_str, known_str, cells_str, isCell_nilp, known_nilp, cells_nilp, isCell_ptr, known_ptr, cells_ptr, isCell_rptr, known_rptr, cells_rptr, isCell_nils, known_nils, cells_nils, isCell_slice, known_slice, cells_slice, isCell_rsl, known_rsl, cells_rsl, isCell_nilm, known_nilm, cells_nilm, isCell_map, known_map, cells_map, isCell_fn, known_fn, cells_fn, isCell_yld, known_yld, cells_yld, isCell_nilf, known_nilf, cells_nilf, isCell_iface, known_iface, cells_iface, isCell_nili, known_nili, cells_nili, isCell_agg, known_agg, cells_agg, isCell_tup, known_tup, cells_tup, setCells, nowhere, GotF_some, Got_some, int_beq, int_bne, vloc]
  exact hp _ _ (congrArg FRes.ret (lstI_melt _ _))

def walkD : Con := defineC nWalk tWalk walkDom walkOut
theorem walkD_ok : walkD.Ok Tryd.prog ED := define_ok headWalk (.inr (.inr (.inr (.inl rfl)))) (by decide) (by decide) (by decide) walk_ok

end Go.Proofs.YtjgigcaelcapdaaDoor
