/-
What the law's own functions return, and the law. No conditions.
-/
import Derived.Test.YtjgigcaelcapdaaDoorValD
import Derived.Test.YtjgigcaelcapdaaDoorExamples
import Derived.Test.YtjgigcaelcapdaaDoorValG
set_option linter.all false

namespace Go.Proofs.YtjgigcaelcapdaaDoor
open Go Go.Vm Go.Vm.T
set_option maxRecDepth 100000
set_option linter.unusedSimpArgs false
set_option linter.unusedVariables false

def edgeAt (zs : List Int) (many : Int) (j : Nat) : Int × Int := (turnZ (zs.getD (2 * j) 0) many, turnZ (zs.getD (2 * j + 1) 0) many)
def edgesL (zs : List Int) (many : Int) (k : Nat) : List (Int × Int) := (List.range k).map (edgeAt zs many)
theorem edgesL_succ (zs : List Int) (many : Int) (k : Nat) : edgesL zs many (k + 1) = edgesL zs many k ++ [edgeAt zs many k] := by simp [edgesL, List.range_succ]
theorem edgesL_len (zs : List Int) (many : Int) (k : Nat) : (edgesL zs many k).length = k := by simp [edgesL]
theorem edgesL_in (zs : List Int) {many : Nat} (h : 1 ≤ many) (k : Nat) : InGraph many (edgesL zs many k) := by
  intro e he
  obtain ⟨j, _, rfl⟩ := List.mem_map.1 he
  exact ⟨turnZ_le _ (by omega), turnZ_le _ (by omega)⟩

structure LawX where
  v : AV
  zs : List Int
  n : Int
def lawC (f : FuncId) : Con where
  f := f
  X := LawX
  dom x := IntsD x.v x.zs ∧ x.zs.length ≤ maxLen ∧ I64 x.n
  enc x := [x.v, .int .i64 x.n]
  res _ := .ret (.bool true)

theorem wrap_tdiv {n : Int} (h : I64 n) (k : Int) (hk : 1 ≤ k) : IntKind.i64.wrap (n.tdiv k) = n.tdiv k := by
  rw [i64_iff] at h
  have h1 : (n.tdiv k).natAbs ≤ n.natAbs := by rw [Int.natAbs_tdiv]; exact Nat.div_le_self _ _
  by_cases hm : n = -9223372036854775808 ∧ n.tdiv k = 9223372036854775808
  · obtain ⟨e1, e2⟩ := hm
    have h3 : n.tdiv k ≤ 0 := by
      rcases Int.le_total 0 (n.tdiv k) with h | h
      · rw [e1] at h ⊢
        have := Int.neg_tdiv 9223372036854775808 k
        rw [this] at h ⊢
        have := Int.tdiv_nonneg (a := 9223372036854775808) (b := k) (by omega) (by omega)
        omega
      · exact h
    omega
  · exact wrap_id (by omega) (by omega)


end Go.Proofs.YtjgigcaelcapdaaDoor

namespace Go.Proofs.YtjgigcaelcapdaaDoor
open Go Go.Vm Go.Vm.T
set_option maxRecDepth 100000
set_option linter.unusedSimpArgs false
set_option linter.unusedVariables false

set_option maxHeartbeats 4000000

def levelDom (g : GV) : Prop := ∃ (N : Nat) (es : List (Int × Int)), g = .pair (.num N) (duosV es) ∧ 1 ≤ N ∧ N ≤ 1000 ∧ es.length ≤ 1000 ∧ InGraph N es
def LevelQ (g : GV) (o : Option (List Int)) : Prop :=
  (∀ (N : Nat) (es : List (Int × Int)), g = .pair (.num N) (duosV es) → LevelP N es o) ∧ ∃ n r S', callS ED (sumOf csD) n (.fn 34) [g.enc] S0 = some (r, S') ∧ r.melt S' = levelRes o
open Classical in
noncomputable def levelOut (g : GV) : Option (List Int) := if h : ∃ o, LevelQ g o then h.choose else none

theorem level_out {N : Nat} {es : List (Int × Int)} (hN1 : 1 ≤ N) (hN : N ≤ 1000) (hes : es.length ≤ 1000) (hin : InGraph N es) : LevelQ (.pair (.num N) (duosV es)) (levelOut (.pair (.num N) (duosV es))) := by
  obtain ⟨o, h1, h2⟩ := level_run hN1 hN hes hin
  have hex : ∃ o, LevelQ (.pair (.num N) (duosV es)) o := by
    refine ⟨o, fun N' es' e => ?_, h2⟩
    simp only [GV.pair.injEq, GV.num.injEq] at e
    obtain ⟨e1, e3⟩ := e
    have := duosV_inj2 e3
    subst this
    obtain rfl : N = N' := by omega
    exact h1
  have : levelOut (.pair (.num N) (duosV es)) = hex.choose := by unfold levelOut; rw [dif_pos hex]
  rw [this]
  exact hex.choose_spec

theorem level_ok : (valueC 34 levelDom levelOut).Ok Tryd.prog ED := by
  refine Con.ok_at ED_ok ED_pers csD csD_ok (fun (g : GV) _ => ⟨by show AV.persL [g.enc] = true; simp [AV.persL, GV.pers], ?_⟩) ?_
  · simp only [valueC]
    cases levelOut g with
    | none => rfl
    | some zs => exact lstI_pers zs
  rintro g ⟨N, es, rfl, hN1, hN, hes, hin⟩
  obtain ⟨h2, n, r, S', h3, h4⟩ := level_out hN1 hN hes hin
  show ∃ n, ∀ p : FRes → St → Prop, (∀ r S', r.melt S' = (match levelOut (.pair (.num N) (duosV es)) with | some zs => .ret (lstI zs) | none => .pan trapV) → p r S') → GotF (callS ED (sumOf csD) n (.fn 34) [(GV.pair (.num N) (duosV es)).enc] S0) p
  refine ⟨n, fun p hp => ?_⟩
  rw [h3]
  refine hp _ _ (h4.trans ?_)
  cases levelOut (.pair (.num N) (duosV es)) <;> rfl

noncomputable def levelD : Con := defineC nLevel tComps levelDom levelOut
theorem levelD_ok : levelD.Ok Tryd.prog ED := define_ok headLevel (.inl rfl) (by decide) (by decide) (by decide) level_ok

theorem levelD_use {cs : List Con} (h : sumOf cs 9 = levelD.look) {N : Nat} {es : List (Int × Int)} (h1 : 1 ≤ N) (h2 : N ≤ 1000) (h4 : es.length ≤ 1000) (h5 : InGraph N es) (n : Nat) (S : St) :
    callS ED (sumOf cs) n (.fn 9) [.str nLevel, (GV.pair (.num N) (duosV es)).enc] S = some (match levelOut (.pair (.num N) (duosV es)) with
    | some zs => .ret (.tup [(nums zs).enc, .int .i64 0])
    | none => .ret (.tup [errV, .int .i64 14]), S) := by
  have hP := level_out h1 h2 h4 h5
  obtain ⟨f1, f2, f3⟩ := duos_facts es
  have hw : WordsE es := by
    intro e he
    have := h5 e he
    unfold isWord
    omega
  exact define_use h (n := n) (S := S) (g := .pair (.num N) (duosV es)) ⟨N, es, rfl, h1, h2, h4, h5⟩ ⟨by show isWord (N : Int); unfold isWord; omega, duos_ty hw h4⟩ ⟨trivial, by simpa using h4, f1⟩
    (by simp only [GV.nodes, duosV, f2]; omega) (by simp only [GV.deep, duosV]; omega) (fun zs hz => by have := hP.1 _ _ rfl; rw [hz] at this; have := Level.len this; omega)

/-- a program that traps -/
noncomputable def trapsC : Con where
  f := 17
  X := GV
  dom g := levelDom g ∧ levelOut g = none
  enc g := [.str nLevel, g.enc]
  res _ := .ret (.bool true)

theorem traps_ok : trapsC.Ok Tryd.prog ED := by
  refine Con.ok_at ED_ok ED_pers [levelD] (by simpa using levelD_ok) (fun (g : GV) _ => ⟨by show AV.persL [.str nLevel, g.enc] = true; simp [AV.persL, AV.pers, GV.pers], rfl⟩) ?_
  rintro g ⟨⟨N, es, rfl, hN1, hN, hes, hin⟩, hout⟩
  show ∃ n, ∀ p : FRes → St → Prop, (∀ r S', r.melt S' = .ret (.bool true) → p r S') → GotF (callS ED (sumOf [levelD]) n (.fn 17) [.str nLevel, (GV.pair (.num N) (duosV es)).enc] S0) p
  refine ⟨10, fun p hp => ?_⟩
  rw [callS_fn rfl]
  have uD := levelD_use (cs := [levelD]) rfl hN1 hN hes hin
  rw [hout] at uD
  obtain ⟨k, z, e⟩ := (duosV es).look
  have hlk := gv_lst (l := (duosV es).kids)
  simp only [GV.enc.eq_2, GV.enc.eq_1, pv, wv, e, errV, nLevel] at uD ⊢
  generalize lst (GV.encs (duosV es).kids) = Y at *
  simp only [fnA, ED_fn17, fi17, Tryd.f17]
  simp [evalC_seq, evalC_region, runA_cons', runA_consN, runA_consG, guardR_true, guardR_false, guardV_bool, guardV_tup, runA_nil', inFrame, startLoc, startVals, Loc.clear, eff_move, eff_assign, eff_binOp, eff_build, eff_buildSlice, eff_alloc, eff_box, eff_store, eff_load, eff_fieldAddr, eff_field, eff_indexAddr, eff_slice, eff_extract, eff_pick, eff_unOp, eff_convert, eff_makeSlice, eff_makeFunc, eff_makeInterface, eff_nilCheck, eff_panic, eff_len1, eff_max2, eff_min2, eff_append2, eff_callV, stepE_val, contR_ok, contR_pan, outC_ok, outC_pan, thenC_normal, thenC_ret, thenC_exit, thenC_pan, blockC, evalC_ret, evalC_skip, evalC_exit, evalC_block, evalC_scope, evalC_loop, Loc.putO, Loc.put, idx, evO, constV, Loc.get, Vm.look, valO_some, bin_int, intA, evalC_cond, condC_true, condC_false, unwindA, resultsA, resultV, actA, pureA, storeA, loadA, fillE, repElems, TI.zeroV, fieldOf, fieldAddrA, fieldA, elemsA, retE, cells?_put_push, push_at, put_at, cellsOf?, Nat.add_assoc, n_push', n_put', isCell_undef, known_undef, cells_undef, isCell_bool, known_bool, cells_bool, isCell_int, known_int, cells_int, isCell_str, known_str, cells_str, isCell_nilp, known_nilp, cells_nilp, isCell_ptr, known_ptr, cells_ptr, isCell_rptr, known_rptr, cells_rptr, isCell_nils, known_nils, cells_nils, isCell_slice, known_slice, cells_slice, isCell_rsl, known_rsl, cells_rsl, isCell_nilm, known_nilm, cells_nilm, isCell_map, known_map, cells_map, isCell_fn, known_fn, cells_fn, isCell_yld, known_yld, cells_yld, isCell_nilf, known_nilf, cells_nilf, isCell_iface, known_iface, cells_iface, isCell_nili, known_nili, cells_nili, isCell_agg, known_agg, cells_agg, isCell_tup, known_tup, cells_tup, setCells, nowhere, GotF_some, Got_some, int_beq, int_bne, lenA, indexAddrA, uD]
  exact hp _ _ rfl

theorem traps_use {cs : List Con} (h : sumOf cs 17 = trapsC.look) {N : Nat} {es : List (Int × Int)} (h1 : 1 ≤ N) (h2 : N ≤ 1000) (h4 : es.length ≤ 1000) (h5 : InGraph N es) (ho : levelOut (.pair (.num N) (duosV es)) = none) (n : Nat) (S : St) :
    callS ED (sumOf cs) n (.fn 17) [.str nLevel, (GV.pair (.num N) (duosV es)).enc] S = some (.ret (.bool true), S) :=
  Con.use (c := trapsC) (fun (x y : GV) _ _ _ => rfl) h (GV.pair (.num N) (duosV es)) ⟨⟨N, es, rfl, h1, h2, h4, h5⟩, ho⟩ (by show [(AV.str nLevel).dead, _] = [AV.str nLevel, _]; simp [AV.dead])

end Go.Proofs.YtjgigcaelcapdaaDoor

namespace Go.Proofs.YtjgigcaelcapdaaDoor
open Go Go.Vm Go.Vm.T
set_option maxRecDepth 100000
set_option linter.unusedSimpArgs false
set_option linter.unusedVariables false

set_option maxHeartbeats 4000000

noncomputable def csV : List Con := [turnC, wordC, pairC, pairsC, levelD, listC, graphedC, trapsC]
theorem csV_ok : ∀ d ∈ csV, d.Ok Tryd.prog ED := by
  simpa [csV] using ⟨turn_ok, word_ok, pair_ok, pairs_ok, levelD_ok, list_ok, graphed_ok, traps_ok⟩

theorem fold_minI (a b : Int) : foldA (maxA .min) (.int .i64 a) [.int .i64 b] = some (.int .i64 (min a b)) := by
  simp only [foldA, maxA, Option.some.injEq, AV.int.injEq, true_and]
  split <;> omega

def UpE (N : Nat) (es : List (Int × Int)) : Prop := ∀ e ∈ es, 0 ≤ e.1 ∧ e.1 < e.2 ∧ e.2 < N

def NearL (d : List Int) (j : Nat) (dj : Int) (es : List (Int × Int)) : Prop := ∃ e ∈ es, e.2.toNat = j ∧ dj = d.getD e.1.toNat 0 + 1

theorem law5 : (lawC 5).Ok Tryd.prog ED := by
  refine Con.ok_at ED_ok ED_pers csV csV_ok (fun (x : LawX) hx => ⟨by have := hx.1.pers; show AV.persL [x.v, .int .i64 x.n] = true; simp [AV.persL, AV.pers, this], rfl⟩) ?_
  rintro ⟨l, zs, n⟩ ⟨hl, hlen, hn⟩
  replace hl : IntsD l zs := hl
  replace hlen : zs.length ≤ maxLen := hlen
  replace hn : I64 n := hn
  show ∃ m, ∀ p : FRes → St → Prop, (∀ r S', r.melt S' = .ret (.bool true) → p r S') → GotF (callS ED (sumOf csV) m (.fn 5) [l, .int .i64 n] S0) p
  refine ⟨zs.length + 101, fun p hp => ?_⟩
  rw [callS_fn rfl]
  generalize hfuel : zs.length + 100 = fuel
  have d0 := @dr5_0
  have d1 := @dr5_1
  have d2 := @dr5_2
  have d3 := @dr5_3
  simp only [drA, drawsOf, Option.getD_some, List.nil_append, List.append_nil, List.getD_cons_zero, List.getD_cons_succ, List.cons_append, Tryd.f5] at d0 d1 d2 d3
  have uT := fun (n : Nat) (a b : Int) (S : St) (h : I64 b) => turn_use (cs := csV) rfl (n := n) (a := a) (b := b) (S := S) h
  have uT11 := fun (m : Nat) (S : St) => uT m n 11 S (by rw [i64_iff]; omega)
  have hmany := turnZ_le n (b := 11) (by decide)
  have hw1 : IntKind.i64.wrap (2 + turnZ n 11) = 2 + turnZ n 11 := wrap_id (by omega) (by omega)
  obtain ⟨N, hN⟩ := Int.eq_ofNat_of_zero_le (show 0 ≤ 2 + turnZ n 11 by omega)
  have hN1 : 1 ≤ N := by omega
  have hN12 : N ≤ 12 := by omega
  have uM := fun (m : Nat) (a : Int) (S : St) => uT m a N S (by rw [i64_iff]; omega)
  rw [hN] at hw1
  simp only [fnA, ED_fn5, fi5, Tryd.f5]
  simp [evalC_seq, evalC_region, runA_cons', runA_consN, runA_consG, guardR_true, guardR_false, guardV_bool, guardV_tup, runA_nil', inFrame, startLoc, startVals, Loc.clear, eff_move, eff_assign, eff_binOp, eff_build, eff_buildSlice, eff_alloc, eff_box, eff_store, eff_load, eff_fieldAddr, eff_field, eff_indexAddr, eff_slice, eff_extract, eff_pick, eff_unOp, eff_convert, eff_makeSlice, eff_makeFunc, eff_makeInterface, eff_nilCheck, eff_panic, eff_len1, eff_max2, eff_min2, eff_append2, eff_callV, stepE_val, contR_ok, contR_pan, outC_ok, outC_pan, thenC_normal, thenC_ret, thenC_exit, thenC_pan, blockC, evalC_ret, evalC_skip, evalC_exit, evalC_block, evalC_scope, evalC_loop, Loc.putO, Loc.put, idx, evO, constV, Loc.get, Vm.look, valO_some, bin_int, intA, evalC_cond, condC_true, condC_false, unwindA, resultsA, resultV, actA, pureA, storeA, loadA, fillE, repElems, TI.zeroV, fieldOf, fieldAddrA, fieldA, elemsA, retE, cells?_put_push, push_at, put_at, cellsOf?, Nat.add_assoc, n_push', n_put', isCell_undef, known_undef, cells_undef, isCell_bool, known_bool, cells_bool, isCell_int, known_int, cells_int, isCell_str, known_str, cells_str, isCell_nilp, known_nilp, cells_nilp, isCell_ptr, known_ptr, cells_ptr, isCell_rptr, known_rptr, cells_rptr, isCell_nils, known_nils, cells_nils, isCell_slice, known_slice, cells_slice, isCell_rsl, known_rsl, cells_rsl, isCell_nilm, known_nilm, cells_nilm, isCell_map, known_map, cells_map, isCell_fn, known_fn, cells_fn, isCell_yld, known_yld, cells_yld, isCell_nilf, known_nilf, cells_nilf, isCell_iface, known_iface, cells_iface, isCell_nili, known_nili, cells_nili, isCell_agg, known_agg, cells_agg, isCell_tup, known_tup, cells_tup, setCells, nowhere, GotF_some, Got_some, int_beq, int_bne, uT11, hN, hw1]
  clear uT11
  have hlz : (zs.length : Int) < 9223372036854775808 := by unfold maxLen at hlen; omega
  have hll := hl.len
  generalize hc : iter _ _ _ _ = c
  obtain ⟨e1, L1, S1, rfl, hq⟩ := loop_of hc
    (fun r L S => ∃ j m sc v1 T1 es a8 a9, j + r = zs.length / 2 ∧ m = 2 * j ∧ L = vloc [l, .int .i64 n, .bool false, .int .i64 N, v1, .int .i64 (m : Nat), a8, a9, .undef, .undef, .undef, .undef, .undef, .undef, .undef, .undef] sc ∧
      LiveS S v1 (flat es) T1 ∧ UpE N es ∧ es.length ≤ 20)
    (fun e L S => e = .exit 0 ∧ ∃ m sc v1 T1 es a8 a9, L = vloc [l, .int .i64 n, .bool false, .int .i64 N, v1, m, a8, a9, .undef, .undef, .undef, .undef, .undef, .undef, .undef, .undef] sc ∧
      LiveS S v1 (flat es) T1 ∧ UpE N es ∧ es.length ≤ 20)
    (zs.length / 2) (by omega)
    (by
      refine ⟨0, 0, _, .slice [] .full, none, [], _, _, by simp, rfl, rfl, ⟨.inr rfl, by simp⟩, by simp [UpE], by simp⟩)
    (by
      rintro r L S ⟨j, m, sc, v1, T1, es, a8, a9, hjk, hm, rfl, g1, hup, hes⟩ q hq1 hq2
      have hlen1 := g1.len
      have hw : IntKind.i64.wrap ((m : Int) + 1) = ((m : Int) + 1) := wrap_id (by omega) (by omega)
      rw [flat_length] at hlen1
      generalize hM : 2 * es.length = M at hlen1
      by_cases b1 : (m : Int) + 1 < (zs.length : Int)
      · have hw2 : IntKind.i64.wrap ((m : Int) + 2) = ((m : Int) + 2) := wrap_id (by omega) (by omega)
        by_cases b2 : (M : Int) < 40
        · have i1 := hl.index (j := m) (by omega)
          have i2 := hl.index (j := m + 1) (by omega)
          have hcast : ((m + 1 : Nat) : Int) = (m : Int) + 1 := by omega
          rw [hcast] at i2
          have hx := turnZ_le zs[m] (b := (N : Int)) (by omega)
          have hy := turnZ_le (zs[m + 1]'(by omega)) (b := (N : Int)) (by omega)
          have uM1 := fun (m' : Nat) (S : St) => uM m' zs[m] S
          have uM2 := fun (m' : Nat) (S : St) => uM m' (zs[m + 1]'(by omega)) S
          generalize turnZ zs[m] N = x at *
          generalize turnZ (zs[m + 1]'(by omega)) N = y at *
          by_cases hxy : x = y
          · subst hxy
            simp [evalC_seq, evalC_region, runA_cons', runA_consN, runA_consG, guardR_true, guardR_false, guardV_bool, guardV_tup, runA_nil', inFrame, startLoc, startVals, Loc.clear, eff_move, eff_assign, eff_binOp, eff_build, eff_buildSlice, eff_alloc, eff_box, eff_store, eff_load, eff_fieldAddr, eff_field, eff_indexAddr, eff_slice, eff_extract, eff_pick, eff_unOp, eff_convert, eff_makeSlice, eff_makeFunc, eff_makeInterface, eff_nilCheck, eff_panic, eff_len1, eff_max2, eff_min2, eff_append2, eff_callV, stepE_val, contR_ok, contR_pan, outC_ok, outC_pan, thenC_normal, thenC_ret, thenC_exit, thenC_pan, blockC, evalC_ret, evalC_skip, evalC_exit, evalC_block, evalC_scope, evalC_loop, Loc.putO, Loc.put, idx, evO, constV, Loc.get, Vm.look, valO_some, bin_int, intA, evalC_cond, condC_true, condC_false, unwindA, resultsA, resultV, actA, pureA, storeA, loadA, fillE, repElems, TI.zeroV, fieldOf, fieldAddrA, fieldA, elemsA, retE, cells?_put_push, push_at, put_at, cellsOf?, Nat.add_assoc, n_push', n_put', isCell_undef, known_undef, cells_undef, isCell_bool, known_bool, cells_bool, isCell_int, known_int, cells_int, isCell_str, known_str, cells_str, isCell_nilp, known_nilp, cells_nilp, isCell_ptr, known_ptr, cells_ptr, isCell_rptr, known_rptr, cells_rptr, isCell_nils, known_nils, cells_nils, isCell_slice, known_slice, cells_slice, isCell_rsl, known_rsl, cells_rsl, isCell_nilm, known_nilm, cells_nilm, isCell_map, known_map, cells_map, isCell_fn, known_fn, cells_fn, isCell_yld, known_yld, cells_yld, isCell_nilf, known_nilf, cells_nilf, isCell_iface, known_iface, cells_iface, isCell_nili, known_nili, cells_nili, isCell_agg, known_agg, cells_agg, isCell_tup, known_tup, cells_tup, setCells, nowhere, GotF_some, Got_some, int_beq, int_bne, runC_nil, runC_cons, pickC_some, wantC_tt, wantC_tf, effC_val, ifC_true, checkC, inPairs, keepC, okC, readsC_load, readV_some, AV.beq_self, wantA_n, wantA_g, wantD_some, d0, vloc, hll, hw, hw2, b1, b2, hlen1, i1, i2, uM1, uM2]
            exact hq1 (r - 1) _ _ (by omega) ⟨j + 1, m + 2, _, v1, T1, es, _, _, by omega, by omega, rfl, g1, hup, hes⟩
          · obtain ⟨w1, Sa, c1, k1, k2, k3⟩ := g1.append [min x y, max x y] (by simp) (by simp; omega)
            have hmn := fold_minI x y
            have hmx := fold_maxI x y
            have hlo : 0 ≤ min x y ∧ min x y < max x y ∧ max x y < N := by omega
            generalize min x y = mn at *
            generalize max x y = mx at *
            simp only [ints, List.map_cons, List.map_nil] at c1
            simp [evalC_seq, evalC_region, runA_cons', runA_consN, runA_consG, guardR_true, guardR_false, guardV_bool, guardV_tup, runA_nil', inFrame, startLoc, startVals, Loc.clear, eff_move, eff_assign, eff_binOp, eff_build, eff_buildSlice, eff_alloc, eff_box, eff_store, eff_load, eff_fieldAddr, eff_field, eff_indexAddr, eff_slice, eff_extract, eff_pick, eff_unOp, eff_convert, eff_makeSlice, eff_makeFunc, eff_makeInterface, eff_nilCheck, eff_panic, eff_len1, eff_max2, eff_min2, eff_append2, eff_callV, stepE_val, contR_ok, contR_pan, outC_ok, outC_pan, thenC_normal, thenC_ret, thenC_exit, thenC_pan, blockC, evalC_ret, evalC_skip, evalC_exit, evalC_block, evalC_scope, evalC_loop, Loc.putO, Loc.put, idx, evO, constV, Loc.get, Vm.look, valO_some, bin_int, intA, evalC_cond, condC_true, condC_false, unwindA, resultsA, resultV, actA, pureA, storeA, loadA, fillE, repElems, TI.zeroV, fieldOf, fieldAddrA, fieldA, elemsA, retE, cells?_put_push, push_at, put_at, cellsOf?, Nat.add_assoc, n_push', n_put', isCell_undef, known_undef, cells_undef, isCell_bool, known_bool, cells_bool, isCell_int, known_int, cells_int, isCell_str, known_str, cells_str, isCell_nilp, known_nilp, cells_nilp, isCell_ptr, known_ptr, cells_ptr, isCell_rptr, known_rptr, cells_rptr, isCell_nils, known_nils, cells_nils, isCell_slice, known_slice, cells_slice, isCell_rsl, known_rsl, cells_rsl, isCell_nilm, known_nilm, cells_nilm, isCell_map, known_map, cells_map, isCell_fn, known_fn, cells_fn, isCell_yld, known_yld, cells_yld, isCell_nilf, known_nilf, cells_nilf, isCell_iface, known_iface, cells_iface, isCell_nili, known_nili, cells_nili, isCell_agg, known_agg, cells_agg, isCell_tup, known_tup, cells_tup, setCells, nowhere, GotF_some, Got_some, int_beq, int_bne, runC_nil, runC_cons, pickC_some, wantC_tt, wantC_tf, effC_val, ifC_true, checkC, inPairs, keepC, okC, readsC_load, readV_some, AV.beq_self, wantA_n, wantA_g, wantD_some, d0, vloc, hll, hw, hw2, b1, b2, hlen1, i1, i2, uM1, uM2, hxy, hmn, hmx, c1]
            refine hq1 (r - 1) _ _ (by omega) ⟨j + 1, m + 2, _, w1, some S.n, es ++ [(mn, mx)], _, _, by omega, by omega, rfl, ?_, ?_, by simp; omega⟩
            · rw [flat_append]; exact k1
            · intro e he
              rcases List.mem_append.1 he with he | he
              · exact hup e he
              · have := List.mem_singleton.1 he
                subst this
                exact hlo
        · simp [evalC_seq, evalC_region, runA_cons', runA_consN, runA_consG, guardR_true, guardR_false, guardV_bool, guardV_tup, runA_nil', inFrame, startLoc, startVals, Loc.clear, eff_move, eff_assign, eff_binOp, eff_build, eff_buildSlice, eff_alloc, eff_box, eff_store, eff_load, eff_fieldAddr, eff_field, eff_indexAddr, eff_slice, eff_extract, eff_pick, eff_unOp, eff_convert, eff_makeSlice, eff_makeFunc, eff_makeInterface, eff_nilCheck, eff_panic, eff_len1, eff_max2, eff_min2, eff_append2, eff_callV, stepE_val, contR_ok, contR_pan, outC_ok, outC_pan, thenC_normal, thenC_ret, thenC_exit, thenC_pan, blockC, evalC_ret, evalC_skip, evalC_exit, evalC_block, evalC_scope, evalC_loop, Loc.putO, Loc.put, idx, evO, constV, Loc.get, Vm.look, valO_some, bin_int, intA, evalC_cond, condC_true, condC_false, unwindA, resultsA, resultV, actA, pureA, storeA, loadA, fillE, repElems, TI.zeroV, fieldOf, fieldAddrA, fieldA, elemsA, retE, cells?_put_push, push_at, put_at, cellsOf?, Nat.add_assoc, n_push', n_put', isCell_undef, known_undef, cells_undef, isCell_bool, known_bool, cells_bool, isCell_int, known_int, cells_int, isCell_str, known_str, cells_str, isCell_nilp, known_nilp, cells_nilp, isCell_ptr, known_ptr, cells_ptr, isCell_rptr, known_rptr, cells_rptr, isCell_nils, known_nils, cells_nils, isCell_slice, known_slice, cells_slice, isCell_rsl, known_rsl, cells_rsl, isCell_nilm, known_nilm, cells_nilm, isCell_map, known_map, cells_map, isCell_fn, known_fn, cells_fn, isCell_yld, known_yld, cells_yld, isCell_nilf, known_nilf, cells_nilf, isCell_iface, known_iface, cells_iface, isCell_nili, known_nili, cells_nili, isCell_agg, known_agg, cells_agg, isCell_tup, known_tup, cells_tup, setCells, nowhere, GotF_some, Got_some, int_beq, int_bne, vloc, hll, hw, b1, b2, hlen1]
          exact hq2 _ _ _ (by simp) ⟨rfl, _, _, v1, T1, es, _, _, rfl, g1, hup, hes⟩
      · simp [evalC_seq, evalC_region, runA_cons', runA_consN, runA_consG, guardR_true, guardR_false, guardV_bool, guardV_tup, runA_nil', inFrame, startLoc, startVals, Loc.clear, eff_move, eff_assign, eff_binOp, eff_build, eff_buildSlice, eff_alloc, eff_box, eff_store, eff_load, eff_fieldAddr, eff_field, eff_indexAddr, eff_slice, eff_extract, eff_pick, eff_unOp, eff_convert, eff_makeSlice, eff_makeFunc, eff_makeInterface, eff_nilCheck, eff_panic, eff_len1, eff_max2, eff_min2, eff_append2, eff_callV, stepE_val, contR_ok, contR_pan, outC_ok, outC_pan, thenC_normal, thenC_ret, thenC_exit, thenC_pan, blockC, evalC_ret, evalC_skip, evalC_exit, evalC_block, evalC_scope, evalC_loop, Loc.putO, Loc.put, idx, evO, constV, Loc.get, Vm.look, valO_some, bin_int, intA, evalC_cond, condC_true, condC_false, unwindA, resultsA, resultV, actA, pureA, storeA, loadA, fillE, repElems, TI.zeroV, fieldOf, fieldAddrA, fieldA, elemsA, retE, cells?_put_push, push_at, put_at, cellsOf?, Nat.add_assoc, n_push', n_put', isCell_undef, known_undef, cells_undef, isCell_bool, known_bool, cells_bool, isCell_int, known_int, cells_int, isCell_str, known_str, cells_str, isCell_nilp, known_nilp, cells_nilp, isCell_ptr, known_ptr, cells_ptr, isCell_rptr, known_rptr, cells_rptr, isCell_nils, known_nils, cells_nils, isCell_slice, known_slice, cells_slice, isCell_rsl, known_rsl, cells_rsl, isCell_nilm, known_nilm, cells_nilm, isCell_map, known_map, cells_map, isCell_fn, known_fn, cells_fn, isCell_yld, known_yld, cells_yld, isCell_nilf, known_nilf, cells_nilf, isCell_iface, known_iface, cells_iface, isCell_nili, known_nili, cells_nili, isCell_agg, known_agg, cells_agg, isCell_tup, known_tup, cells_tup, setCells, nowhere, GotF_some, Got_some, int_beq, int_bne, vloc, hll, hw, b1]
        exact hq2 _ _ _ (by simp) ⟨rfl, _, _, v1, T1, es, _, _, rfl, g1, hup, hes⟩)
  obtain ⟨rfl, m, sc, v1, T1, es, a8, a9, rfl, g1, hup, hes⟩ := hq
  obtain ⟨tk1, rfl⟩ := g1.cases
  have hin : InGraph N es := fun e he => by have := hup e he; omega
  have uW := fun (m : Nat) (a : Int) (S : St) => word_use (cs := csV) rfl (n := m) (a := a) (S := S)
  have uP := fun (m : Nat) (a b : GV) (S : St) => pair_use (cs := csV) rfl (n := m) (a := a) (b := b) (S := S)
  have uQ1 := fun (m : Nat) (S : St) => pairs_use (cs := csV) rfl (n := m) (v := .slice (ints (flat es)) tk1) (es := es) (S := S) (by simp [AV.dead]) (by omega)
  have uD := levelD_use (cs := csV) rfl hN1 (by omega) (by omega) hin
  have hP := (level_out hN1 (by omega) (by omega) hin).1 _ _ rfl
  obtain ⟨d, hd⟩ : ∃ d, levelOut (.pair (.num N) (duosV es)) = some d := by
    cases h : levelOut (.pair (.num N) (duosV es)) with
    | some d => exact ⟨d, rfl⟩
    | none =>
      rw [h] at hP
      exact (Stuck.not_up hP fun e he => by have := hup e he; omega).elim
  rw [hd] at uD hP
  have hD : Level N es d := hP
  have uL := fun (m : Nat) (S : St) => list_use (cs := csV) rfl (n := m) (S := S) (zs := d) (by have := hD.len; omega)
  have kA := gv_lst (l := d.map .num)
  simp only [nums, GV.enc.eq_3, sv] at uD uL
  simp only [nLevel] at uD
  generalize lst (GV.encs (d.map .num)) = XA at *
  have hlA : lenA ED 22 (.slice (ints d) .dead) = some (.int .i64 N) := by rw [len_ints, hD.len]
  have hb1 := cells?_put_push S1 (.cells [.int .i64 0, .int .i64 0, .nils]) [.int .i64 4, .int .i64 0, XA]
  have hAi : ∀ (k : Nat) (hk : k < N), indexAddrA ED 22 (.slice (ints d) .dead) (.int .i64 k) = some (.rptr [.int .i64 (d.getD k 0)]) := by
    intro k hk
    have hkk : k < d.length := by rw [hD.len]; exact hk
    rw [index_ints (by omega) (by simpa using hkk)]
    simp [List.getD_eq_getElem?_getD, hkk]
  simp [evalC_seq, evalC_region, runA_cons', runA_consN, runA_consG, guardR_true, guardR_false, guardV_bool, guardV_tup, runA_nil', inFrame, startLoc, startVals, Loc.clear, eff_move, eff_assign, eff_binOp, eff_build, eff_buildSlice, eff_alloc, eff_box, eff_store, eff_load, eff_fieldAddr, eff_field, eff_indexAddr, eff_slice, eff_extract, eff_pick, eff_unOp, eff_convert, eff_makeSlice, eff_makeFunc, eff_makeInterface, eff_nilCheck, eff_panic, eff_len1, eff_max2, eff_min2, eff_append2, eff_callV, stepE_val, contR_ok, contR_pan, outC_ok, outC_pan, thenC_normal, thenC_ret, thenC_exit, thenC_pan, blockC, evalC_ret, evalC_skip, evalC_exit, evalC_block, evalC_scope, evalC_loop, Loc.putO, Loc.put, idx, evO, constV, Loc.get, Vm.look, valO_some, bin_int, intA, evalC_cond, condC_true, condC_false, unwindA, resultsA, resultV, actA, pureA, storeA, loadA, fillE, repElems, TI.zeroV, fieldOf, fieldAddrA, fieldA, elemsA, retE, cells?_put_push, push_at, put_at, cellsOf?, Nat.add_assoc, n_push', n_put', isCell_undef, known_undef, cells_undef, isCell_bool, known_bool, cells_bool, isCell_int, known_int, cells_int, isCell_str, known_str, cells_str, isCell_nilp, known_nilp, cells_nilp, isCell_ptr, known_ptr, cells_ptr, isCell_rptr, known_rptr, cells_rptr, isCell_nils, known_nils, cells_nils, isCell_slice, known_slice, cells_slice, isCell_rsl, known_rsl, cells_rsl, isCell_nilm, known_nilm, cells_nilm, isCell_map, known_map, cells_map, isCell_fn, known_fn, cells_fn, isCell_yld, known_yld, cells_yld, isCell_nilf, known_nilf, cells_nilf, isCell_iface, known_iface, cells_iface, isCell_nili, known_nili, cells_nili, isCell_agg, known_agg, cells_agg, isCell_tup, known_tup, cells_tup, setCells, nowhere, GotF_some, Got_some, int_beq, int_bne, runC_nil, runC_cons, pickC_some, wantC_tt, wantC_tf, effC_val, ifC_true, checkC, inPairs, keepC, okC, readsC_load, readV_some, AV.beq_self, wantA_n, wantA_g, wantD_some, vloc, uW, uP, uQ1, uD, kA, uL, hb1, hlA]
  generalize hSS : (S1.push (.cells [.int .i64 0, .int .i64 0, .nils])).put S1.n (.cells [.int .i64 4, .int .i64 0, XA]) = SS
  have hE20 : es.length < fuel := by omega
  have hle : lenA ED 22 (.slice (ints (flat es)) tk1) = some (.int .i64 ((2 * es.length : Nat) : Int)) := by rw [len_ints, flat_length]
  generalize hM : 2 * es.length = M at hle
  generalize hc : iter _ _ _ _ = c
  obtain ⟨e1, L1, S3, rfl, hq⟩ := loop_of hc
    (fun r L S => ∃ j a14 a15 sc, j + r = N ∧ SS = S ∧ L = vloc [l, .int .i64 n, .bool false, .int .i64 N, .slice (ints (flat es)) tk1, m, a8, a9, .ptr S1.n 0, .int .i64 0, .slice (ints d) .dead, .int .i64 (j : Nat), a14, a15, .undef, .undef] sc)
    (fun e L S => e = .exit 2 ∧ ∃ a13 a14 a15 sc, SS = S ∧ L = vloc [l, .int .i64 n, .bool false, .int .i64 N, .slice (ints (flat es)) tk1, m, a8, a9, .ptr S1.n 0, .int .i64 0, .slice (ints d) .dead, a13, a14, a15, .undef, .undef] sc)
    N (by omega)
    ⟨0, _, _, _, by simp, rfl, rfl⟩
    (by
      rintro r L S ⟨j, a14, a15, sc, hjk, rfl, rfl⟩ q hq1 hq2
      by_cases hj : j < N
      · have hw : IntKind.i64.wrap ((j : Int) + 1) = ((j : Int) + 1) := wrap_id (by omega) (by omega)
        have y1 := hAi j hj
        have hlow := hD.low j hj
        have hhigh := hD.high j hj
        have hnear : d.getD j 0 = 0 ∨ NearL d j (d.getD j 0) es := hD.near j hj
        have hlow' : ¬ d.getD j 0 < 0 := by omega
        generalize hdj : d.getD j 0 = dj at *
        simp [evalC_seq, evalC_region, runA_cons', runA_consN, runA_consG, guardR_true, guardR_false, guardV_bool, guardV_tup, runA_nil', inFrame, startLoc, startVals, Loc.clear, eff_move, eff_assign, eff_binOp, eff_build, eff_buildSlice, eff_alloc, eff_box, eff_store, eff_load, eff_fieldAddr, eff_field, eff_indexAddr, eff_slice, eff_extract, eff_pick, eff_unOp, eff_convert, eff_makeSlice, eff_makeFunc, eff_makeInterface, eff_nilCheck, eff_panic, eff_len1, eff_max2, eff_min2, eff_append2, eff_callV, stepE_val, contR_ok, contR_pan, outC_ok, outC_pan, thenC_normal, thenC_ret, thenC_exit, thenC_pan, blockC, evalC_ret, evalC_skip, evalC_exit, evalC_block, evalC_scope, evalC_loop, Loc.putO, Loc.put, idx, evO, constV, Loc.get, Vm.look, valO_some, bin_int, intA, evalC_cond, condC_true, condC_false, unwindA, resultsA, resultV, actA, pureA, storeA, loadA, fillE, repElems, TI.zeroV, fieldOf, fieldAddrA, fieldA, elemsA, retE, cells?_put_push, push_at, put_at, cellsOf?, Nat.add_assoc, n_push', n_put', isCell_undef, known_undef, cells_undef, isCell_bool, known_bool, cells_bool, isCell_int, known_int, cells_int, isCell_str, known_str, cells_str, isCell_nilp, known_nilp, cells_nilp, isCell_ptr, known_ptr, cells_ptr, isCell_rptr, known_rptr, cells_rptr, isCell_nils, known_nils, cells_nils, isCell_slice, known_slice, cells_slice, isCell_rsl, known_rsl, cells_rsl, isCell_nilm, known_nilm, cells_nilm, isCell_map, known_map, cells_map, isCell_fn, known_fn, cells_fn, isCell_yld, known_yld, cells_yld, isCell_nilf, known_nilf, cells_nilf, isCell_iface, known_iface, cells_iface, isCell_nili, known_nili, cells_nili, isCell_agg, known_agg, cells_agg, isCell_tup, known_tup, cells_tup, setCells, nowhere, GotF_some, Got_some, int_beq, int_bne, vloc, hj, y1]
        generalize hc2 : iter _ _ _ _ = c2
        obtain ⟨e2, L2, S2, rfl, hq'⟩ := loop_of hc2
          (fun r2 L S => ∃ k i B sc, k + r2 = es.length ∧ i = 2 * k ∧ SS = S ∧ (B = true ↔ dj = 0 ∨ NearL d j dj (es.take k)) ∧
            L = vloc [l, .int .i64 n, .bool false, .int .i64 N, .slice (ints (flat es)) tk1, m, a8, a9, .ptr S1.n 0, .int .i64 0, .slice (ints d) .dead, .int .i64 (j : Nat), .bool B, .int .i64 (i : Nat), .undef, .undef] sc)
          (fun e L S => e = .exit 4 ∧ ∃ i sc, SS = S ∧ L = vloc [l, .int .i64 n, .bool false, .int .i64 N, .slice (ints (flat es)) tk1, m, a8, a9, .ptr S1.n 0, .int .i64 0, .slice (ints d) .dead, .int .i64 (j : Nat), .bool true, i, .undef, .undef] sc)
          es.length hE20
          ⟨0, 0, decide (dj = 0), _, by simp, rfl, rfl, by simp [NearL], rfl⟩
          (by
            rintro r2 L S ⟨k, i, B, sc, hkk, hi, rfl, hB, rfl⟩ q' hq1' hq2'
            have hwi : IntKind.i64.wrap ((i : Int) + 1) = ((i : Int) + 1) := wrap_id (by omega) (by omega)
            have hwi2 : IntKind.i64.wrap ((i : Int) + 2) = ((i : Int) + 2) := wrap_id (by omega) (by omega)
            by_cases hk : k < es.length
            · have hb : (i : Int) + 1 < (M : Int) := by omega
              have x1 : indexAddrA ED 22 (.slice (ints (flat es)) tk1) (.int .i64 i) = some (.rptr [.int .i64 es[k].1]) := by
                rw [index_ints (by omega) (by simp; omega)]
                have := flat_get0 hk
                simp only [Int.toNat_natCast, hi, this]
              have x2 : indexAddrA ED 22 (.slice (ints (flat es)) tk1) (.int .i64 ((i : Int) + 1)) = some (.rptr [.int .i64 es[k].2]) := by
                rw [index_ints (by omega) (by simp; omega)]
                have := flat_get1 hk
                simp only [show ((i : Int) + 1).toNat = 2 * k + 1 by omega, this]
              have he := hD.edge es[k] (List.getElem_mem hk)
              have hlowx := hD.low es[k].1.toNat
              have hhighx := hD.high es[k].1.toNat
              obtain ⟨⟨p0, p1⟩, p2, p3⟩ := hin es[k] (List.getElem_mem hk)
              have hBn : ∀ B' : Bool, (B' = true ↔ B = true ∨ (es[k].2.toNat = j ∧ dj = d.getD es[k].1.toNat 0 + 1)) →
                  (B' = true ↔ dj = 0 ∨ NearL d j dj (es.take (k + 1))) := by
                intro B' h
                rw [h, hB, List.take_add_one, List.getElem?_eq_getElem hk]
                constructor
                · rintro ((h | ⟨e, h1, h2⟩) | h)
                  · exact .inl h
                  · exact .inr ⟨e, List.mem_append.2 (.inl h1), h2⟩
                  · exact .inr ⟨es[k], List.mem_append.2 (.inr (by simp)), h⟩
                · rintro (h | ⟨e, h1, h2⟩)
                  · exact .inl (.inl h)
                  · rcases List.mem_append.1 h1 with h1 | h1
                    · exact .inl (.inr ⟨e, h1, h2⟩)
                    · have : e = es[k] := by simpa using h1
                      subst this
                      exact .inr h2
              obtain ⟨x, hx⟩ := Int.eq_ofNat_of_zero_le p0
              obtain ⟨y, hy⟩ := Int.eq_ofNat_of_zero_le p2
              rw [hx, hy] at he hBn
              rw [hx] at x1 p1 hlowx hhighx
              rw [hy] at x2 p3
              have a1 := hAi x (by omega)
              simp only [Int.toNat_natCast] at he hBn hlowx hhighx
              have hxl := hlowx (by omega)
              have hxh := hhighx (by omega)
              clear hlowx hhighx
              have hwx : IntKind.i64.wrap (d.getD x 0 + 1) = d.getD x 0 + 1 := wrap_id (by omega) (by omega)
              have fin : ∀ B' : Bool, ∀ sc, (B' = true ↔ B = true ∨ (y = j ∧ dj = d.getD x 0 + 1)) →
                  q' .normal (vloc [l, .int .i64 n, .bool false, .int .i64 N, .slice (ints (flat es)) tk1, m, a8, a9, .ptr S1.n 0, .int .i64 0, .slice (ints d) .dead, .int .i64 (j : Nat), .bool B', .int .i64 ((i : Int) + 2), .undef, .undef] sc) SS :=
                fun B' sc h => hq1' (r2 - 1) _ _ (by omega) ⟨k + 1, i + 2, B', sc, by omega, by omega, rfl, hBn B' h, rfl⟩
              clear hBn
              by_cases hyj : y = j
              · subst hyj
                rw [hdj] at he
                generalize d.getD x 0 = dx at *
                have n2 : ¬ dj < dx + 1 := by omega
                cases B with
                | true =>
                  simp [evalC_seq, evalC_region, runA_cons', runA_consN, runA_consG, guardR_true, guardR_false, guardV_bool, guardV_tup, runA_nil', inFrame, startLoc, startVals, Loc.clear, eff_move, eff_assign, eff_binOp, eff_build, eff_buildSlice, eff_alloc, eff_box, eff_store, eff_load, eff_fieldAddr, eff_field, eff_indexAddr, eff_slice, eff_extract, eff_pick, eff_unOp, eff_convert, eff_makeSlice, eff_makeFunc, eff_makeInterface, eff_nilCheck, eff_panic, eff_len1, eff_max2, eff_min2, eff_append2, eff_callV, stepE_val, contR_ok, contR_pan, outC_ok, outC_pan, thenC_normal, thenC_ret, thenC_exit, thenC_pan, blockC, evalC_ret, evalC_skip, evalC_exit, evalC_block, evalC_scope, evalC_loop, Loc.putO, Loc.put, idx, evO, constV, Loc.get, Vm.look, valO_some, bin_int, intA, evalC_cond, condC_true, condC_false, unwindA, resultsA, resultV, actA, pureA, storeA, loadA, fillE, repElems, TI.zeroV, fieldOf, fieldAddrA, fieldA, elemsA, retE, cells?_put_push, push_at, put_at, cellsOf?, Nat.add_assoc, n_push', n_put', isCell_undef, known_undef, cells_undef, isCell_bool, known_bool, cells_bool, isCell_int, known_int, cells_int, isCell_str, known_str, cells_str, isCell_nilp, known_nilp, cells_nilp, isCell_ptr, known_ptr, cells_ptr, isCell_rptr, known_rptr, cells_rptr, isCell_nils, known_nils, cells_nils, isCell_slice, known_slice, cells_slice, isCell_rsl, known_rsl, cells_rsl, isCell_nilm, known_nilm, cells_nilm, isCell_map, known_map, cells_map, isCell_fn, known_fn, cells_fn, isCell_yld, known_yld, cells_yld, isCell_nilf, known_nilf, cells_nilf, isCell_iface, known_iface, cells_iface, isCell_nili, known_nili, cells_nili, isCell_agg, known_agg, cells_agg, isCell_tup, known_tup, cells_tup, setCells, nowhere, GotF_some, Got_some, int_beq, int_bne, runC_nil, runC_cons, pickC_some, wantC_tt, wantC_tf, effC_val, ifC_true, checkC, inPairs, keepC, okC, readsC_load, readV_some, AV.beq_self, wantA_n, wantA_g, wantD_some, d1, d2, vloc, hle, hwi, hwi2, hb, x1, x2, a1, y1, n2, hwx]
                  exact fin true _ (by simp)
                | false =>
                  simp [evalC_seq, evalC_region, runA_cons', runA_consN, runA_consG, guardR_true, guardR_false, guardV_bool, guardV_tup, runA_nil', inFrame, startLoc, startVals, Loc.clear, eff_move, eff_assign, eff_binOp, eff_build, eff_buildSlice, eff_alloc, eff_box, eff_store, eff_load, eff_fieldAddr, eff_field, eff_indexAddr, eff_slice, eff_extract, eff_pick, eff_unOp, eff_convert, eff_makeSlice, eff_makeFunc, eff_makeInterface, eff_nilCheck, eff_panic, eff_len1, eff_max2, eff_min2, eff_append2, eff_callV, stepE_val, contR_ok, contR_pan, outC_ok, outC_pan, thenC_normal, thenC_ret, thenC_exit, thenC_pan, blockC, evalC_ret, evalC_skip, evalC_exit, evalC_block, evalC_scope, evalC_loop, Loc.putO, Loc.put, idx, evO, constV, Loc.get, Vm.look, valO_some, bin_int, intA, evalC_cond, condC_true, condC_false, unwindA, resultsA, resultV, actA, pureA, storeA, loadA, fillE, repElems, TI.zeroV, fieldOf, fieldAddrA, fieldA, elemsA, retE, cells?_put_push, push_at, put_at, cellsOf?, Nat.add_assoc, n_push', n_put', isCell_undef, known_undef, cells_undef, isCell_bool, known_bool, cells_bool, isCell_int, known_int, cells_int, isCell_str, known_str, cells_str, isCell_nilp, known_nilp, cells_nilp, isCell_ptr, known_ptr, cells_ptr, isCell_rptr, known_rptr, cells_rptr, isCell_nils, known_nils, cells_nils, isCell_slice, known_slice, cells_slice, isCell_rsl, known_rsl, cells_rsl, isCell_nilm, known_nilm, cells_nilm, isCell_map, known_map, cells_map, isCell_fn, known_fn, cells_fn, isCell_yld, known_yld, cells_yld, isCell_nilf, known_nilf, cells_nilf, isCell_iface, known_iface, cells_iface, isCell_nili, known_nili, cells_nili, isCell_agg, known_agg, cells_agg, isCell_tup, known_tup, cells_tup, setCells, nowhere, GotF_some, Got_some, int_beq, int_bne, runC_nil, runC_cons, pickC_some, wantC_tt, wantC_tf, effC_val, ifC_true, checkC, inPairs, keepC, okC, readsC_load, readV_some, AV.beq_self, wantA_n, wantA_g, wantD_some, d1, d2, vloc, hle, hwi, hwi2, hb, x1, x2, a1, y1, n2, hwx]
                  exact fin _ _ (by simp)
              · have hyj' : ¬ (y : Int) = (j : Int) := by omega
                simp [evalC_seq, evalC_region, runA_cons', runA_consN, runA_consG, guardR_true, guardR_false, guardV_bool, guardV_tup, runA_nil', inFrame, startLoc, startVals, Loc.clear, eff_move, eff_assign, eff_binOp, eff_build, eff_buildSlice, eff_alloc, eff_box, eff_store, eff_load, eff_fieldAddr, eff_field, eff_indexAddr, eff_slice, eff_extract, eff_pick, eff_unOp, eff_convert, eff_makeSlice, eff_makeFunc, eff_makeInterface, eff_nilCheck, eff_panic, eff_len1, eff_max2, eff_min2, eff_append2, eff_callV, stepE_val, contR_ok, contR_pan, outC_ok, outC_pan, thenC_normal, thenC_ret, thenC_exit, thenC_pan, blockC, evalC_ret, evalC_skip, evalC_exit, evalC_block, evalC_scope, evalC_loop, Loc.putO, Loc.put, idx, evO, constV, Loc.get, Vm.look, valO_some, bin_int, intA, evalC_cond, condC_true, condC_false, unwindA, resultsA, resultV, actA, pureA, storeA, loadA, fillE, repElems, TI.zeroV, fieldOf, fieldAddrA, fieldA, elemsA, retE, cells?_put_push, push_at, put_at, cellsOf?, Nat.add_assoc, n_push', n_put', isCell_undef, known_undef, cells_undef, isCell_bool, known_bool, cells_bool, isCell_int, known_int, cells_int, isCell_str, known_str, cells_str, isCell_nilp, known_nilp, cells_nilp, isCell_ptr, known_ptr, cells_ptr, isCell_rptr, known_rptr, cells_rptr, isCell_nils, known_nils, cells_nils, isCell_slice, known_slice, cells_slice, isCell_rsl, known_rsl, cells_rsl, isCell_nilm, known_nilm, cells_nilm, isCell_map, known_map, cells_map, isCell_fn, known_fn, cells_fn, isCell_yld, known_yld, cells_yld, isCell_nilf, known_nilf, cells_nilf, isCell_iface, known_iface, cells_iface, isCell_nili, known_nili, cells_nili, isCell_agg, known_agg, cells_agg, isCell_tup, known_tup, cells_tup, setCells, nowhere, GotF_some, Got_some, int_beq, int_bne, runC_nil, runC_cons, pickC_some, wantC_tt, wantC_tf, effC_val, ifC_true, checkC, inPairs, keepC, okC, readsC_load, readV_some, AV.beq_self, wantA_n, wantA_g, wantD_some, vloc, hle, hwi, hwi2, hb, x1, x2, hyj, hyj']
                exact fin B _ (by simp [hyj])
            · have hb : ¬ (i : Int) + 1 < (M : Int) := by omega
              have hkl : k = es.length := by omega
              subst hkl
              have hBt : B = true := by
                rw [hB, List.take_length]
                exact hnear
              subst hBt
              simp [evalC_seq, evalC_region, runA_cons', runA_consN, runA_consG, guardR_true, guardR_false, guardV_bool, guardV_tup, runA_nil', inFrame, startLoc, startVals, Loc.clear, eff_move, eff_assign, eff_binOp, eff_build, eff_buildSlice, eff_alloc, eff_box, eff_store, eff_load, eff_fieldAddr, eff_field, eff_indexAddr, eff_slice, eff_extract, eff_pick, eff_unOp, eff_convert, eff_makeSlice, eff_makeFunc, eff_makeInterface, eff_nilCheck, eff_panic, eff_len1, eff_max2, eff_min2, eff_append2, eff_callV, stepE_val, contR_ok, contR_pan, outC_ok, outC_pan, thenC_normal, thenC_ret, thenC_exit, thenC_pan, blockC, evalC_ret, evalC_skip, evalC_exit, evalC_block, evalC_scope, evalC_loop, Loc.putO, Loc.put, idx, evO, constV, Loc.get, Vm.look, valO_some, bin_int, intA, evalC_cond, condC_true, condC_false, unwindA, resultsA, resultV, actA, pureA, storeA, loadA, fillE, repElems, TI.zeroV, fieldOf, fieldAddrA, fieldA, elemsA, retE, cells?_put_push, push_at, put_at, cellsOf?, Nat.add_assoc, n_push', n_put', isCell_undef, known_undef, cells_undef, isCell_bool, known_bool, cells_bool, isCell_int, known_int, cells_int, isCell_str, known_str, cells_str, isCell_nilp, known_nilp, cells_nilp, isCell_ptr, known_ptr, cells_ptr, isCell_rptr, known_rptr, cells_rptr, isCell_nils, known_nils, cells_nils, isCell_slice, known_slice, cells_slice, isCell_rsl, known_rsl, cells_rsl, isCell_nilm, known_nilm, cells_nilm, isCell_map, known_map, cells_map, isCell_fn, known_fn, cells_fn, isCell_yld, known_yld, cells_yld, isCell_nilf, known_nilf, cells_nilf, isCell_iface, known_iface, cells_iface, isCell_nili, known_nili, cells_nili, isCell_agg, known_agg, cells_agg, isCell_tup, known_tup, cells_tup, setCells, nowhere, GotF_some, Got_some, int_beq, int_bne, vloc, hle, hwi, hb]
              exact hq2' _ _ _ (by simp) ⟨rfl, _, _, rfl, rfl⟩)
        obtain ⟨rfl, i', sc', rfl, rfl⟩ := hq'
        simp [evalC_seq, evalC_region, runA_cons', runA_consN, runA_consG, guardR_true, guardR_false, guardV_bool, guardV_tup, runA_nil', inFrame, startLoc, startVals, Loc.clear, eff_move, eff_assign, eff_binOp, eff_build, eff_buildSlice, eff_alloc, eff_box, eff_store, eff_load, eff_fieldAddr, eff_field, eff_indexAddr, eff_slice, eff_extract, eff_pick, eff_unOp, eff_convert, eff_makeSlice, eff_makeFunc, eff_makeInterface, eff_nilCheck, eff_panic, eff_len1, eff_max2, eff_min2, eff_append2, eff_callV, stepE_val, contR_ok, contR_pan, outC_ok, outC_pan, thenC_normal, thenC_ret, thenC_exit, thenC_pan, blockC, evalC_ret, evalC_skip, evalC_exit, evalC_block, evalC_scope, evalC_loop, Loc.putO, Loc.put, idx, evO, constV, Loc.get, Vm.look, valO_some, bin_int, intA, evalC_cond, condC_true, condC_false, unwindA, resultsA, resultV, actA, pureA, storeA, loadA, fillE, repElems, TI.zeroV, fieldOf, fieldAddrA, fieldA, elemsA, retE, cells?_put_push, push_at, put_at, cellsOf?, Nat.add_assoc, n_push', n_put', isCell_undef, known_undef, cells_undef, isCell_bool, known_bool, cells_bool, isCell_int, known_int, cells_int, isCell_str, known_str, cells_str, isCell_nilp, known_nilp, cells_nilp, isCell_ptr, known_ptr, cells_ptr, isCell_rptr, known_rptr, cells_rptr, isCell_nils, known_nils, cells_nils, isCell_slice, known_slice, cells_slice, isCell_rsl, known_rsl, cells_rsl, isCell_nilm, known_nilm, cells_nilm, isCell_map, known_map, cells_map, isCell_fn, known_fn, cells_fn, isCell_yld, known_yld, cells_yld, isCell_nilf, known_nilf, cells_nilf, isCell_iface, known_iface, cells_iface, isCell_nili, known_nili, cells_nili, isCell_agg, known_agg, cells_agg, isCell_tup, known_tup, cells_tup, setCells, nowhere, GotF_some, Got_some, int_beq, int_bne, vloc, unA, hw, y1, hlow']
        exact hq1 (r - 1) _ _ (by omega) ⟨j + 1, _, _, _, by omega, rfl, rfl⟩
      · have hjl : j = N := by omega
        subst hjl
        simp [evalC_seq, evalC_region, runA_cons', runA_consN, runA_consG, guardR_true, guardR_false, guardV_bool, guardV_tup, runA_nil', inFrame, startLoc, startVals, Loc.clear, eff_move, eff_assign, eff_binOp, eff_build, eff_buildSlice, eff_alloc, eff_box, eff_store, eff_load, eff_fieldAddr, eff_field, eff_indexAddr, eff_slice, eff_extract, eff_pick, eff_unOp, eff_convert, eff_makeSlice, eff_makeFunc, eff_makeInterface, eff_nilCheck, eff_panic, eff_len1, eff_max2, eff_min2, eff_append2, eff_callV, stepE_val, contR_ok, contR_pan, outC_ok, outC_pan, thenC_normal, thenC_ret, thenC_exit, thenC_pan, blockC, evalC_ret, evalC_skip, evalC_exit, evalC_block, evalC_scope, evalC_loop, Loc.putO, Loc.put, idx, evO, constV, Loc.get, Vm.look, valO_some, bin_int, intA, evalC_cond, condC_true, condC_false, unwindA, resultsA, resultV, actA, pureA, storeA, loadA, fillE, repElems, TI.zeroV, fieldOf, fieldAddrA, fieldA, elemsA, retE, cells?_put_push, push_at, put_at, cellsOf?, Nat.add_assoc, n_push', n_put', isCell_undef, known_undef, cells_undef, isCell_bool, known_bool, cells_bool, isCell_int, known_int, cells_int, isCell_str, known_str, cells_str, isCell_nilp, known_nilp, cells_nilp, isCell_ptr, known_ptr, cells_ptr, isCell_rptr, known_rptr, cells_rptr, isCell_nils, known_nils, cells_nils, isCell_slice, known_slice, cells_slice, isCell_rsl, known_rsl, cells_rsl, isCell_nilm, known_nilm, cells_nilm, isCell_map, known_map, cells_map, isCell_fn, known_fn, cells_fn, isCell_yld, known_yld, cells_yld, isCell_nilf, known_nilf, cells_nilf, isCell_iface, known_iface, cells_iface, isCell_nili, known_nili, cells_nili, isCell_agg, known_agg, cells_agg, isCell_tup, known_tup, cells_tup, setCells, nowhere, GotF_some, Got_some, int_beq, int_bne, vloc]
        exact hq2 _ _ _ (by simp) ⟨rfl, _, _, _, _, rfl, rfl⟩)
  obtain ⟨rfl, a13, a14, a15, sc, rfl, rfl⟩ := hq
  have uG := fun (m : Nat) (S : St) => graphed_use (cs := csV) rfl (n := m) (S := S)
  by_cases hM2 : (M : Int) < 2
  · simp [evalC_seq, evalC_region, runA_cons', runA_consN, runA_consG, guardR_true, guardR_false, guardV_bool, guardV_tup, runA_nil', inFrame, startLoc, startVals, Loc.clear, eff_move, eff_assign, eff_binOp, eff_build, eff_buildSlice, eff_alloc, eff_box, eff_store, eff_load, eff_fieldAddr, eff_field, eff_indexAddr, eff_slice, eff_extract, eff_pick, eff_unOp, eff_convert, eff_makeSlice, eff_makeFunc, eff_makeInterface, eff_nilCheck, eff_panic, eff_len1, eff_max2, eff_min2, eff_append2, eff_callV, stepE_val, contR_ok, contR_pan, outC_ok, outC_pan, thenC_normal, thenC_ret, thenC_exit, thenC_pan, blockC, evalC_ret, evalC_skip, evalC_exit, evalC_block, evalC_scope, evalC_loop, Loc.putO, Loc.put, idx, evO, constV, Loc.get, Vm.look, valO_some, bin_int, intA, evalC_cond, condC_true, condC_false, unwindA, resultsA, resultV, actA, pureA, storeA, loadA, fillE, repElems, TI.zeroV, fieldOf, fieldAddrA, fieldA, elemsA, retE, cells?_put_push, push_at, put_at, cellsOf?, Nat.add_assoc, n_push', n_put', isCell_undef, known_undef, cells_undef, isCell_bool, known_bool, cells_bool, isCell_int, known_int, cells_int, isCell_str, known_str, cells_str, isCell_nilp, known_nilp, cells_nilp, isCell_ptr, known_ptr, cells_ptr, isCell_rptr, known_rptr, cells_rptr, isCell_nils, known_nils, cells_nils, isCell_slice, known_slice, cells_slice, isCell_rsl, known_rsl, cells_rsl, isCell_nilm, known_nilm, cells_nilm, isCell_map, known_map, cells_map, isCell_fn, known_fn, cells_fn, isCell_yld, known_yld, cells_yld, isCell_nilf, known_nilf, cells_nilf, isCell_iface, known_iface, cells_iface, isCell_nili, known_nili, cells_nili, isCell_agg, known_agg, cells_agg, isCell_tup, known_tup, cells_tup, setCells, nowhere, GotF_some, Got_some, int_beq, int_bne, vloc, hle, hM2, uG]
    exact hp _ _ rfl
  have hq11 := wrap_tdiv hn 11 (by omega)
  have hMd : IntKind.i64.wrap ((M : Int) / 2) = (es.length : Int) := by
    have : (M : Int) / 2 = (es.length : Int) := by omega
    rw [this]
    exact wrap_id (by omega) (by omega)
  have hQ := turnZ_le (n.tdiv 11) (b := (es.length : Int)) (by omega)
  have uE := fun (m : Nat) (S : St) => uT m (n.tdiv 11) es.length S (by rw [i64_iff]; omega)
  obtain ⟨t, ht⟩ := Int.eq_ofNat_of_zero_le hQ.1
  rw [ht] at hQ
  simp only [ht] at uE
  have htl : t < es.length := by omega
  have hw2t : IntKind.i64.wrap (2 * (t : Int)) = ((2 * t : Nat) : Int) := by rw [wrap_id (by omega) (by omega)]; omega
  have hw2t1 : IntKind.i64.wrap (((2 * t : Nat) : Int) + 1) = ((2 * t : Nat) : Int) + 1 := wrap_id (by omega) (by omega)
  have x1 : indexAddrA ED 22 (.slice (ints (flat es)) tk1) (.int .i64 ((2 * t : Nat) : Int)) = some (.rptr [.int .i64 es[t].1]) := by
    rw [index_ints (by omega) (by simp; omega)]
    have := flat_get0 htl
    simp only [Int.toNat_natCast, this]
  have x2 : indexAddrA ED 22 (.slice (ints (flat es)) tk1) (.int .i64 (((2 * t : Nat) : Int) + 1)) = some (.rptr [.int .i64 es[t].2]) := by
    rw [index_ints (by omega) (by simp; omega)]
    have := flat_get1 htl
    simp only [show (((2 * t : Nat) : Int) + 1).toNat = 2 * t + 1 by omega, this]
  have hmem := List.getElem_mem htl
  generalize es[t] = ed at x1 x2 hmem
  generalize 2 * t = T at hw2t hw2t1 x1 x2
  obtain ⟨w1, Sz, U1, c1, f1, f2, f3, f4⟩ := LiveS.append_any (S := SS) (zs := []) (tk := .full) ⟨.inr rfl, by simp⟩ (flat es) (by simp; omega)
  replace c1 : appendA ED SS 3 (.slice [] .full) (ints (flat es)) = some (w1, Sz) := c1
  obtain ⟨w2, Sw, c2, f5, f6, f7⟩ := f1.append [ed.2, ed.1] (by simp) (by simp; omega)
  replace c2 : appendA ED Sz 3 w1 [.int .i64 ed.2, .int .i64 ed.1] = some (w2, Sw) := c2
  obtain ⟨tk3, rfl⟩ := f5.cases
  have hfe : flat es ++ [ed.2, ed.1] = flat (es ++ [(ed.2, ed.1)]) := by rw [flat_append]; rfl
  simp only [List.nil_append] at c2
  rw [hfe] at c2
  have hin3 : InGraph N (es ++ [(ed.2, ed.1)]) := by
    intro e he
    rcases List.mem_append.1 he with he | he
    · exact hin e he
    · rw [List.mem_singleton.1 he]
      have := hin ed hmem
      exact ⟨this.2, this.1⟩
  have uQ3 := fun (m : Nat) (S : St) => pairs_use (cs := csV) rfl (n := m) (v := .slice (ints (flat (es ++ [(ed.2, ed.1)]))) tk3) (es := es ++ [(ed.2, ed.1)]) (S := S) (by simp [AV.dead]) (by simp; omega)
  have hno : levelOut (.pair (.num N) (duosV (es ++ [(ed.2, ed.1)]))) = none := by
    have hP := (level_out hN1 (by omega) (by simp; omega) hin3).1 _ _ rfl
    cases h : levelOut (.pair (.num N) (duosV (es ++ [(ed.2, ed.1)]))) with
    | none => rfl
    | some d' =>
      rw [h] at hP
      exact (Level.no_back hP (e := ed) (f := (ed.2, ed.1)) (by simp [hmem]) (by simp) rfl rfl).elim
  have uTr := traps_use (cs := csV) (by funext a; rfl) hN1 (by omega) (by simp; omega) hin3 hno
  simp only [nLevel] at uTr
  simp [evalC_seq, evalC_region, runA_cons', runA_consN, runA_consG, guardR_true, guardR_false, guardV_bool, guardV_tup, runA_nil', inFrame, startLoc, startVals, Loc.clear, eff_move, eff_assign, eff_binOp, eff_build, eff_buildSlice, eff_alloc, eff_box, eff_store, eff_load, eff_fieldAddr, eff_field, eff_indexAddr, eff_slice, eff_extract, eff_pick, eff_unOp, eff_convert, eff_makeSlice, eff_makeFunc, eff_makeInterface, eff_nilCheck, eff_panic, eff_len1, eff_max2, eff_min2, eff_append2, eff_callV, stepE_val, contR_ok, contR_pan, outC_ok, outC_pan, thenC_normal, thenC_ret, thenC_exit, thenC_pan, blockC, evalC_ret, evalC_skip, evalC_exit, evalC_block, evalC_scope, evalC_loop, Loc.putO, Loc.put, idx, evO, constV, Loc.get, Vm.look, valO_some, bin_int, intA, evalC_cond, condC_true, condC_false, unwindA, resultsA, resultV, actA, pureA, storeA, loadA, fillE, repElems, TI.zeroV, fieldOf, fieldAddrA, fieldA, elemsA, retE, cells?_put_push, push_at, put_at, cellsOf?, Nat.add_assoc, n_push', n_put', isCell_undef, known_undef, cells_undef, isCell_bool, known_bool, cells_bool, isCell_int, known_int, cells_int, isCell_str, known_str, cells_str, isCell_nilp, known_nilp, cells_nilp, isCell_ptr, known_ptr, cells_ptr, isCell_rptr, known_rptr, cells_rptr, isCell_nils, known_nils, cells_nils, isCell_slice, known_slice, cells_slice, isCell_rsl, known_rsl, cells_rsl, isCell_nilm, known_nilm, cells_nilm, isCell_map, known_map, cells_map, isCell_fn, known_fn, cells_fn, isCell_yld, known_yld, cells_yld, isCell_nilf, known_nilf, cells_nilf, isCell_iface, known_iface, cells_iface, isCell_nili, known_nili, cells_nili, isCell_agg, known_agg, cells_agg, isCell_tup, known_tup, cells_tup, setCells, nowhere, GotF_some, Got_some, int_beq, int_bne, runC_nil, runC_cons, pickC_some, wantC_tt, wantC_tf, effC_val, ifC_true, checkC, inPairs, keepC, okC, readsC_load, readV_some, AV.beq_self, wantA_n, wantA_g, wantD_some, d3, vloc, hle, hM2, hq11, hMd, uE, hw2t, hw2t1, x1, x2, c1, c2, uW, uQ3, uP, uTr, uG]
  exact hp _ _ rfl

end Go.Proofs.YtjgigcaelcapdaaDoor
