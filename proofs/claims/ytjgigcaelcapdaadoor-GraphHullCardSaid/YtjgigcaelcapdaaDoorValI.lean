/-
What the law's own functions return, and the law. No conditions.
-/
import Derived.Test.YtjgigcaelcapdaaDoorValH
set_option linter.all false

namespace Go.Proofs.YtjgigcaelcapdaaDoor
open Go Go.Vm Go.Vm.T
set_option maxRecDepth 100000
set_option linter.unusedSimpArgs false
set_option linter.unusedVariables false

set_option maxHeartbeats 4000000

open Classical in
noncomputable def hullVs (l : List (Int × Int)) : List (Int × Int) := if h : ∃ vs, Hull l vs then h.choose else []
theorem hullVs_eq {l vs : List (Int × Int)} (h : Hull l vs) : hullVs l = vs := by
  have hex : ∃ vs, Hull l vs := ⟨vs, h⟩
  unfold hullVs
  rw [dif_pos hex]
  exact hex.choose_spec.walk.unique h.walk
noncomputable def hullN (l : List (Int × Int)) : List Nat := (hullVs l).map (idxP l)
theorem hullN_nil : hullN [] = [] := by
  have : hullVs [] = [] := by
    unfold hullVs
    rw [dif_neg]
    rintro ⟨vs, h⟩
    have := h.start
    simp at this
  simp [hullN, this]
theorem next_in (p : Int × Int) : ∀ (n : Nat) {l : List (Int × Int)}, l.length = n → nextH l p = nob ∨ nextH l p ∈ l
  | 0, l, hl => by
    have := List.length_eq_zero_iff.1 hl
    subst this
    exact .inl rfl
  | n + 1, l, hl => by
    obtain ⟨m, r, rfl⟩ : ∃ m r, l = m ++ [r] := by
      have hne : l ≠ [] := by intro e; subst e; simp at hl
      exact ⟨l.dropLast, l.getLast hne, (List.dropLast_concat_getLast hne).symm⟩
    have ih := next_in p n (l := m) (by simpa using hl)
    have ih' : nextH m p = nob ∨ nextH m p ∈ m ++ [r] := ih.imp id (fun h => List.mem_append.2 (.inl h))
    have hr : r ∈ m ++ [r] := by simp
    rw [next_snoc]
    unfold stepH
    split
    · exact ih'
    · split
      · exact .inr hr
      · split
        · exact .inr hr
        · exact ih'
theorem subP_len {l m : List (Int × Int)} (h : l.Nodup) (hs : ∀ i ∈ l, i ∈ m) : l.length ≤ m.length := by
  induction l generalizing m with
  | nil => simp
  | cons a l ih =>
    obtain ⟨h1, h2⟩ := List.nodup_cons.1 h
    have ha := hs a (by simp)
    have := ih (m := m.erase a) h2 (fun i hi => (List.mem_erase_of_ne (fun e => h1 (by rw [← e]; exact hi))).2 (hs i (by simp [hi])))
    rw [List.length_erase_of_mem ha] at this
    have := List.length_pos_of_mem ha
    simp only [List.length_cons]
    omega
theorem take_snoc {α : Type} {l : List α} {j : Nat} (h : j < l.length) : l.take (j + 1) = l.take j ++ [l[j]] := by
  rw [List.take_add_one, List.getElem?_eq_getElem h]
  rfl

theorem fold_maxI (a b : Int) : foldA (maxA .max) (.int .i64 a) [.int .i64 b] = some (.int .i64 (max a b)) := by
  simp only [foldA, maxA, Option.some.injEq, AV.int.injEq, true_and]
  split <;> omega
theorem fold_minI (a b : Int) : foldA (maxA .min) (.int .i64 a) [.int .i64 b] = some (.int .i64 (min a b)) := by
  simp only [foldA, maxA, Option.some.injEq, AV.int.injEq, true_and]
  split <;> omega

theorem liveT_getne {S : St} {sz : Nat} {v : AV} {es : List AV} {T : Option Nat} (h : LiveT S sz v es T) {k : Nat} {x : AO} (hk : S.get k = some x) (hx : ∀ b, x ≠ .tok b) : T ≠ some k := by
  intro e
  subst e
  have := h.2
  rw [hk] at this
  cases this
  exact hx _ rfl
theorem append_nat {S : St} {v : AV} {u : List Nat} (y : Nat) {T : Option Nat} (hl : LiveT S 1 v (nats u) T) (hlen : u.length ≤ 10000) :
    ∃ v' S', appendA ED S 3 v [.int .i64 (y : Nat)] = some (v', S') ∧ LiveT S' 1 v' (nats (u ++ [y])) (some S.n) ∧ S'.n = S.n + 1 ∧ Kept T S S' := by
  rw [← ints_ofN] at hl
  obtain ⟨v', S', h1, h2, h3, h4⟩ := append_int (y : Int) hl (by rw [ofN_len]; exact hlen)
  refine ⟨v', S', h1, ?_, h3, h4⟩
  rw [← ints_ofN]
  simpa [ofN] using h2
theorem nat_cell {S : St} {v : AV} {u : List Nat} {T : Option Nat} (h : LiveT S 1 v (nats u) T) : v.isCell = true ∧ v.known = true ∧ v.cells = [v] := by
  rcases h.cases with ⟨rfl, h2⟩ | ⟨tk, rfl⟩ <;> exact ⟨rfl, rfl, rfl⟩

def csH : List Con := [listDuoC, needC, indexC, rightC, farC]
theorem csH_ok : ∀ d ∈ csH, d.Ok Tryd.prog ED := by simpa [csH] using ⟨listDuo_ok, need_ok, index_ok, right_ok, far_ok⟩

theorem liveT_box {S : St} {sz : Nat} {v : AV} {es cs ds : List AV} {T : Option Nat} (h : LiveT S sz v es T) : LiveT ((S.push (.cells cs)).put S.n (.cells ds)) sz v es T := by
  cases T with
  | none => exact h
  | some j =>
    have hl := h.lt
    refine ⟨h.1, ?_⟩
    rw [St.get_put_ne _ _ _ (by omega)]
    exact St.get_push_of S _ h.2
theorem duoA_mk (a b : Int) : duoA (a, b) = .agg [.int .i64 a, .int .i64 b] := rfl

theorem melt_nats {S : St} {v : AV} {u : List Nat} {T : Option Nat} (h : LiveT S 1 v (nats u) T) (hu : u ≠ []) : (FRes.ret v).melt S = .ret (lstI (ofN u)) := by
  rcases h.cases with ⟨_, h2⟩ | ⟨tk, rfl⟩
  · cases u with
    | nil => exact absurd rfl hu
    | cons a r => cases h2
  · have h1 := ints_ofN u
    have h2 := ints_dead (ofN u)
    rw [h1] at h2
    have h3 : lst (nats u) = .slice (nats u) .dead := by
      cases u with
      | nil => exact absurd rfl hu
      | cons a r => rfl
    simp [FRes.melt, AV.melt, AV.dead, lstI, h1, h2, h3]

theorem hull_run {l : List (Int × Int)} (hb : Bnd l) (hl : l.length ≤ 1000) :
    ∃ n, ∀ p : FRes → St → Prop, (∀ r S', r.melt S' = .ret (lstI (ofN (hullN l))) → p r S') → GotF (callS ED (sumOf csH) n (.fn 38) [(duosV l).enc] S0) p := by
  refine ⟨1100, fun p hp => ?_⟩
  rw [callS_fn rfl]
  have d0 := @dr38_0
  simp only [drA, drawsOf, Option.getD_some, List.nil_append, List.append_nil, List.getD_cons_zero, List.getD_cons_succ, List.cons_append, Tryd.f38] at d0
  have uL := fun (n : Nat) (S : St) => listDuo_use (cs := csH) rfl (n := n) (S := S) (es := l) hl
  have uN := fun (n : Nat) (S : St) => need_use (cs := csH) (by funext a; rfl) (n := n) (b := true) (S := S)
  have uR := fun (n : Nat) (S : St) (p1 p2 q1 q2 r1 r2 : Int) (h1 : Near0 (p1, p2)) (h2 : Near0 (q1, q2)) (h3 : Near0 (r1, r2)) => right_use (cs := csH) (by funext a; rfl) (n := n) (S := S) h1 h2 h3
  have uF := fun (n : Nat) (S : St) (p1 p2 q1 q2 : Int) (h1 : Near0 (p1, p2)) (h2 : Near0 (q1, q2)) => far_use (cs := csH) (by funext a; rfl) (n := n) (S := S) h1 h2
  have uI := fun (n : Nat) (S : St) (p1 p2 : Int) (h1 : (p1, p2) ∈ l) => index_use (cs := csH) (by funext a; rfl) (n := n) (S := S) h1 hl
  have hlk := gv_lst (l := l.map duoV)
  obtain ⟨hdc, hdk⟩ := duoAs_cell l
  have hdl : lenA ED 73 (lst (l.map duoA)) = some (.int .i64 l.length) := by rw [len73]; simp
  have hdx := fun (j : Nat) (hj : j < l.length) => duoAs_get hj
  simp only [duosV, GV.enc, sv] at uL ⊢
  simp only [if_true] at uN
  simp only [duoA_mk] at uR uF uI
  generalize lst (GV.encs (l.map duoV)) = y at *
  generalize lst (l.map duoA) = D at *
  simp only [fnA, ED_fn38, fi38, Tryd.f38]
  have hg0 : gl 0 = some [.int .i64 1099511627776, .int .i64 1099511627776] := by rfl
  simp [evalC_seq, evalC_region, runA_cons', runA_consN, runA_consG, guardR_true, guardR_false, guardV_bool, guardV_tup, runA_nil', inFrame, startLoc, startVals, Loc.clear, eff_move, eff_assign, eff_binOp, eff_build, eff_buildSlice, eff_alloc, eff_box, eff_store, eff_load, eff_fieldAddr, eff_field, eff_indexAddr, eff_slice, eff_extract, eff_pick, eff_unOp, eff_convert, eff_makeSlice, eff_makeFunc, eff_makeInterface, eff_nilCheck, eff_panic, eff_len1, eff_max2, eff_min2, eff_append2, eff_callV, stepE_val, contR_ok, contR_pan, outC_ok, outC_pan, thenC_normal, thenC_ret, thenC_exit, thenC_pan, blockC, evalC_ret, evalC_skip, evalC_exit, evalC_block, evalC_scope, evalC_loop, Loc.putO, Loc.put, idx, evO, constV, Loc.get, Vm.look, valO_some, bin_int, intA, evalC_cond, condC_true, condC_false, unwindA, resultsA, resultV, actA, pureA, storeA, loadA, fillE, repElems, TI.zeroV, fieldOf, fieldAddrA, fieldA, elemsA, retE, cells?_put_push, push_at, put_at, cellsOf?, Nat.add_assoc, n_push', n_put', isCell_undef, known_undef, cells_undef, isCell_bool, known_bool, cells_bool, isCell_int, known_int, cells_int, isCell_str, known_str, cells_str, isCell_nilp, known_nilp, cells_nilp, isCell_ptr, known_ptr, cells_ptr, isCell_rptr, known_rptr, cells_rptr, isCell_nils, known_nils, cells_nils, isCell_slice, known_slice, cells_slice, isCell_rsl, known_rsl, cells_rsl, isCell_nilm, known_nilm, cells_nilm, isCell_map, known_map, cells_map, isCell_fn, known_fn, cells_fn, isCell_yld, known_yld, cells_yld, isCell_nilf, known_nilf, cells_nilf, isCell_iface, known_iface, cells_iface, isCell_nili, known_nili, cells_nili, isCell_agg, known_agg, cells_agg, isCell_tup, known_tup, cells_tup, setCells, nowhere, GotF_some, Got_some, int_beq, int_bne, uL, hlk, hdc, hdk, hdl, hg0]
  clear uL hlk
  generalize AV.agg [AV.int IntKind.i64 4, AV.int IntKind.i64 0, y] = A at *
  generalize hc : iter _ _ _ _ = c
  obtain ⟨e1, L1, S1, rfl, hq⟩ := loop_of hc
    (fun r L S => ∃ j a6 sc, j + r = l.length ∧ L = vloc [A, .ptr 0 0, .nils, D, .ptr 1 0, a6, .undef, .undef, .undef, .undef, .undef, D, .int .i64 l.length, .int .i64 (j : Nat), .undef, .undef, .undef, .undef] sc ∧
      S.cells? 1 = some [.int .i64 (startH (l.take j)).1, .int .i64 (startH (l.take j)).2])
    (fun e L S => e = .exit 0 ∧ ∃ a6 a18 sc, L = vloc [A, .ptr 0 0, .nils, D, .ptr 1 0, a6, .undef, .undef, .undef, .undef, .undef, D, .int .i64 l.length, a18, .undef, .undef, .undef, .undef] sc ∧
      S.cells? 1 = some [.int .i64 (startH l).1, .int .i64 (startH l).2])
    l.length (by omega)
    (by
      refine ⟨0, _, _, by simp, rfl, ?_⟩
      simp [push_at, put_at, n_push', n_put', cellsOf?, startH, nob])
    (by
      rintro r L S ⟨j, a6, sc, hjk, rfl, h1⟩ q hq1 hq2
      by_cases hj : j < l.length
      · have hw : IntKind.i64.wrap ((j : Int) + 1) = ((j : Int) + 1) := wrap_id (by omega) (by omega)
        have hix := hdx j hj
        have hst : startH (l.take (j + 1)) = leastS (startH (l.take j)) l[j] := by rw [take_snoc hj, start_snoc]
        obtain ⟨⟨b1, b2⟩, b3, b4⟩ := hb l[j] (List.getElem_mem hj)
        generalize startH (l.take j) = s at *
        generalize l[j] = x at *
        obtain ⟨s1, s2⟩ := s
        obtain ⟨x1, x2⟩ := x
        simp only at h1 b1 b2 b3 b4 hix
        unfold leastS at hst
        simp only at hst
        have j6 := cells?_put_push S (.cells [.int .i64 0, .int .i64 0]) [.int .i64 x1, .int .i64 x2]
        have j1 := cells_box (o := .cells [.int .i64 0, .int .i64 0]) (o' := .cells [.int .i64 x1, .int .i64 x2]) h1
        have mx := fold_maxI x1 x2
        have mn := fold_minI x1 x2
        have hmx : max x1 x2 ≤ 8191 := by omega
        have hmn : -8191 ≤ min x1 x2 := by omega
        generalize max x1 x2 = mxv at *
        generalize min x1 x2 = mnv at *
        by_cases c1 : x1 < s1
        · rw [if_pos (.inl c1)] at hst
          simp [evalC_seq, evalC_region, runA_cons', runA_consN, runA_consG, guardR_true, guardR_false, guardV_bool, guardV_tup, runA_nil', inFrame, startLoc, startVals, Loc.clear, eff_move, eff_assign, eff_binOp, eff_build, eff_buildSlice, eff_alloc, eff_box, eff_store, eff_load, eff_fieldAddr, eff_field, eff_indexAddr, eff_slice, eff_extract, eff_pick, eff_unOp, eff_convert, eff_makeSlice, eff_makeFunc, eff_makeInterface, eff_nilCheck, eff_panic, eff_len1, eff_max2, eff_min2, eff_append2, eff_callV, stepE_val, contR_ok, contR_pan, outC_ok, outC_pan, thenC_normal, thenC_ret, thenC_exit, thenC_pan, blockC, evalC_ret, evalC_skip, evalC_exit, evalC_block, evalC_scope, evalC_loop, Loc.putO, Loc.put, idx, evO, constV, Loc.get, Vm.look, valO_some, bin_int, intA, evalC_cond, condC_true, condC_false, unwindA, resultsA, resultV, actA, pureA, storeA, loadA, fillE, repElems, TI.zeroV, fieldOf, fieldAddrA, fieldA, elemsA, retE, cells?_put_push, push_at, put_at, cellsOf?, Nat.add_assoc, n_push', n_put', isCell_undef, known_undef, cells_undef, isCell_bool, known_bool, cells_bool, isCell_int, known_int, cells_int, isCell_str, known_str, cells_str, isCell_nilp, known_nilp, cells_nilp, isCell_ptr, known_ptr, cells_ptr, isCell_rptr, known_rptr, cells_rptr, isCell_nils, known_nils, cells_nils, isCell_slice, known_slice, cells_slice, isCell_rsl, known_rsl, cells_rsl, isCell_nilm, known_nilm, cells_nilm, isCell_map, known_map, cells_map, isCell_fn, known_fn, cells_fn, isCell_yld, known_yld, cells_yld, isCell_nilf, known_nilf, cells_nilf, isCell_iface, known_iface, cells_iface, isCell_nili, known_nili, cells_nili, isCell_agg, known_agg, cells_agg, isCell_tup, known_tup, cells_tup, setCells, nowhere, GotF_some, Got_some, int_beq, int_bne, vloc, hj, hix, j6, j1, mx, mn, hmx, hmn, uN, c1, hw]
          exact hq1 (r - 1) _ _ (by omega) ⟨j + 1, _, _, by omega, rfl, by rw [hst]; exact cells_put_self j1⟩
        · by_cases c2 : x1 = s1
          · subst c2
            by_cases c3 : x2 < s2
            · rw [if_pos (.inr ⟨rfl, c3⟩)] at hst
              simp [evalC_seq, evalC_region, runA_cons', runA_consN, runA_consG, guardR_true, guardR_false, guardV_bool, guardV_tup, runA_nil', inFrame, startLoc, startVals, Loc.clear, eff_move, eff_assign, eff_binOp, eff_build, eff_buildSlice, eff_alloc, eff_box, eff_store, eff_load, eff_fieldAddr, eff_field, eff_indexAddr, eff_slice, eff_extract, eff_pick, eff_unOp, eff_convert, eff_makeSlice, eff_makeFunc, eff_makeInterface, eff_nilCheck, eff_panic, eff_len1, eff_max2, eff_min2, eff_append2, eff_callV, stepE_val, contR_ok, contR_pan, outC_ok, outC_pan, thenC_normal, thenC_ret, thenC_exit, thenC_pan, blockC, evalC_ret, evalC_skip, evalC_exit, evalC_block, evalC_scope, evalC_loop, Loc.putO, Loc.put, idx, evO, constV, Loc.get, Vm.look, valO_some, bin_int, intA, evalC_cond, condC_true, condC_false, unwindA, resultsA, resultV, actA, pureA, storeA, loadA, fillE, repElems, TI.zeroV, fieldOf, fieldAddrA, fieldA, elemsA, retE, cells?_put_push, push_at, put_at, cellsOf?, Nat.add_assoc, n_push', n_put', isCell_undef, known_undef, cells_undef, isCell_bool, known_bool, cells_bool, isCell_int, known_int, cells_int, isCell_str, known_str, cells_str, isCell_nilp, known_nilp, cells_nilp, isCell_ptr, known_ptr, cells_ptr, isCell_rptr, known_rptr, cells_rptr, isCell_nils, known_nils, cells_nils, isCell_slice, known_slice, cells_slice, isCell_rsl, known_rsl, cells_rsl, isCell_nilm, known_nilm, cells_nilm, isCell_map, known_map, cells_map, isCell_fn, known_fn, cells_fn, isCell_yld, known_yld, cells_yld, isCell_nilf, known_nilf, cells_nilf, isCell_iface, known_iface, cells_iface, isCell_nili, known_nili, cells_nili, isCell_agg, known_agg, cells_agg, isCell_tup, known_tup, cells_tup, setCells, nowhere, GotF_some, Got_some, int_beq, int_bne, vloc, hj, hix, j6, j1, mx, mn, hmx, hmn, uN, c3, hw]
              exact hq1 (r - 1) _ _ (by omega) ⟨j + 1, _, _, by omega, rfl, by rw [hst]; exact cells_put_self j1⟩
            · rw [if_neg (by omega)] at hst
              simp [evalC_seq, evalC_region, runA_cons', runA_consN, runA_consG, guardR_true, guardR_false, guardV_bool, guardV_tup, runA_nil', inFrame, startLoc, startVals, Loc.clear, eff_move, eff_assign, eff_binOp, eff_build, eff_buildSlice, eff_alloc, eff_box, eff_store, eff_load, eff_fieldAddr, eff_field, eff_indexAddr, eff_slice, eff_extract, eff_pick, eff_unOp, eff_convert, eff_makeSlice, eff_makeFunc, eff_makeInterface, eff_nilCheck, eff_panic, eff_len1, eff_max2, eff_min2, eff_append2, eff_callV, stepE_val, contR_ok, contR_pan, outC_ok, outC_pan, thenC_normal, thenC_ret, thenC_exit, thenC_pan, blockC, evalC_ret, evalC_skip, evalC_exit, evalC_block, evalC_scope, evalC_loop, Loc.putO, Loc.put, idx, evO, constV, Loc.get, Vm.look, valO_some, bin_int, intA, evalC_cond, condC_true, condC_false, unwindA, resultsA, resultV, actA, pureA, storeA, loadA, fillE, repElems, TI.zeroV, fieldOf, fieldAddrA, fieldA, elemsA, retE, cells?_put_push, push_at, put_at, cellsOf?, Nat.add_assoc, n_push', n_put', isCell_undef, known_undef, cells_undef, isCell_bool, known_bool, cells_bool, isCell_int, known_int, cells_int, isCell_str, known_str, cells_str, isCell_nilp, known_nilp, cells_nilp, isCell_ptr, known_ptr, cells_ptr, isCell_rptr, known_rptr, cells_rptr, isCell_nils, known_nils, cells_nils, isCell_slice, known_slice, cells_slice, isCell_rsl, known_rsl, cells_rsl, isCell_nilm, known_nilm, cells_nilm, isCell_map, known_map, cells_map, isCell_fn, known_fn, cells_fn, isCell_yld, known_yld, cells_yld, isCell_nilf, known_nilf, cells_nilf, isCell_iface, known_iface, cells_iface, isCell_nili, known_nili, cells_nili, isCell_agg, known_agg, cells_agg, isCell_tup, known_tup, cells_tup, setCells, nowhere, GotF_some, Got_some, int_beq, int_bne, vloc, hj, hix, j6, j1, mx, mn, hmx, hmn, uN, c3, hw]
              exact hq1 (r - 1) _ _ (by omega) ⟨j + 1, _, _, by omega, rfl, by rw [hst]; exact j1⟩
          · rw [if_neg (by omega)] at hst
            simp [evalC_seq, evalC_region, runA_cons', runA_consN, runA_consG, guardR_true, guardR_false, guardV_bool, guardV_tup, runA_nil', inFrame, startLoc, startVals, Loc.clear, eff_move, eff_assign, eff_binOp, eff_build, eff_buildSlice, eff_alloc, eff_box, eff_store, eff_load, eff_fieldAddr, eff_field, eff_indexAddr, eff_slice, eff_extract, eff_pick, eff_unOp, eff_convert, eff_makeSlice, eff_makeFunc, eff_makeInterface, eff_nilCheck, eff_panic, eff_len1, eff_max2, eff_min2, eff_append2, eff_callV, stepE_val, contR_ok, contR_pan, outC_ok, outC_pan, thenC_normal, thenC_ret, thenC_exit, thenC_pan, blockC, evalC_ret, evalC_skip, evalC_exit, evalC_block, evalC_scope, evalC_loop, Loc.putO, Loc.put, idx, evO, constV, Loc.get, Vm.look, valO_some, bin_int, intA, evalC_cond, condC_true, condC_false, unwindA, resultsA, resultV, actA, pureA, storeA, loadA, fillE, repElems, TI.zeroV, fieldOf, fieldAddrA, fieldA, elemsA, retE, cells?_put_push, push_at, put_at, cellsOf?, Nat.add_assoc, n_push', n_put', isCell_undef, known_undef, cells_undef, isCell_bool, known_bool, cells_bool, isCell_int, known_int, cells_int, isCell_str, known_str, cells_str, isCell_nilp, known_nilp, cells_nilp, isCell_ptr, known_ptr, cells_ptr, isCell_rptr, known_rptr, cells_rptr, isCell_nils, known_nils, cells_nils, isCell_slice, known_slice, cells_slice, isCell_rsl, known_rsl, cells_rsl, isCell_nilm, known_nilm, cells_nilm, isCell_map, known_map, cells_map, isCell_fn, known_fn, cells_fn, isCell_yld, known_yld, cells_yld, isCell_nilf, known_nilf, cells_nilf, isCell_iface, known_iface, cells_iface, isCell_nili, known_nili, cells_nili, isCell_agg, known_agg, cells_agg, isCell_tup, known_tup, cells_tup, setCells, nowhere, GotF_some, Got_some, int_beq, int_bne, vloc, hj, hix, j6, j1, mx, mn, hmx, hmn, uN, c1, c2, hw]
            exact hq1 (r - 1) _ _ (by omega) ⟨j + 1, _, _, by omega, rfl, by rw [hst]; exact j1⟩
      · have hjl : j = l.length := by omega
        subst hjl
        rw [List.take_length] at h1
        simp [evalC_seq, evalC_region, runA_cons', runA_consN, runA_consG, guardR_true, guardR_false, guardV_bool, guardV_tup, runA_nil', inFrame, startLoc, startVals, Loc.clear, eff_move, eff_assign, eff_binOp, eff_build, eff_buildSlice, eff_alloc, eff_box, eff_store, eff_load, eff_fieldAddr, eff_field, eff_indexAddr, eff_slice, eff_extract, eff_pick, eff_unOp, eff_convert, eff_makeSlice, eff_makeFunc, eff_makeInterface, eff_nilCheck, eff_panic, eff_len1, eff_max2, eff_min2, eff_append2, eff_callV, stepE_val, contR_ok, contR_pan, outC_ok, outC_pan, thenC_normal, thenC_ret, thenC_exit, thenC_pan, blockC, evalC_ret, evalC_skip, evalC_exit, evalC_block, evalC_scope, evalC_loop, Loc.putO, Loc.put, idx, evO, constV, Loc.get, Vm.look, valO_some, bin_int, intA, evalC_cond, condC_true, condC_false, unwindA, resultsA, resultV, actA, pureA, storeA, loadA, fillE, repElems, TI.zeroV, fieldOf, fieldAddrA, fieldA, elemsA, retE, cells?_put_push, push_at, put_at, cellsOf?, Nat.add_assoc, n_push', n_put', isCell_undef, known_undef, cells_undef, isCell_bool, known_bool, cells_bool, isCell_int, known_int, cells_int, isCell_str, known_str, cells_str, isCell_nilp, known_nilp, cells_nilp, isCell_ptr, known_ptr, cells_ptr, isCell_rptr, known_rptr, cells_rptr, isCell_nils, known_nils, cells_nils, isCell_slice, known_slice, cells_slice, isCell_rsl, known_rsl, cells_rsl, isCell_nilm, known_nilm, cells_nilm, isCell_map, known_map, cells_map, isCell_fn, known_fn, cells_fn, isCell_yld, known_yld, cells_yld, isCell_nilf, known_nilf, cells_nilf, isCell_iface, known_iface, cells_iface, isCell_nili, known_nili, cells_nili, isCell_agg, known_agg, cells_agg, isCell_tup, known_tup, cells_tup, setCells, nowhere, GotF_some, Got_some, int_beq, int_bne, vloc]
        exact hq2 _ _ _ (by simp) ⟨rfl, _, _, _, rfl, h1⟩)
  obtain ⟨rfl, a6, a18, sc, rfl, h1⟩ := hq
  have gl0 : ∀ a b : Int, binA ED .eql 81 (.tmp 58) (.tmp 59) (.agg [.int .i64 a, .int .i64 b]) (.agg [.int .i64 1099511627776, .int .i64 1099511627776]) = some (.bool (decide ((a, b) = nob))) := fun a b => eq_duo
  by_cases hne : l = []
  · have hs0 : startH l = nob := by subst hne; rfl
    rw [hs0] at h1
    rw [show hullN l = [] from by rw [hne]; exact hullN_nil] at hp
    simp [evalC_seq, evalC_region, runA_cons', runA_consN, runA_consG, guardR_true, guardR_false, guardV_bool, guardV_tup, runA_nil', inFrame, startLoc, startVals, Loc.clear, eff_move, eff_assign, eff_binOp, eff_build, eff_buildSlice, eff_alloc, eff_box, eff_store, eff_load, eff_fieldAddr, eff_field, eff_indexAddr, eff_slice, eff_extract, eff_pick, eff_unOp, eff_convert, eff_makeSlice, eff_makeFunc, eff_makeInterface, eff_nilCheck, eff_panic, eff_len1, eff_max2, eff_min2, eff_append2, eff_callV, stepE_val, contR_ok, contR_pan, outC_ok, outC_pan, thenC_normal, thenC_ret, thenC_exit, thenC_pan, blockC, evalC_ret, evalC_skip, evalC_exit, evalC_block, evalC_scope, evalC_loop, Loc.putO, Loc.put, idx, evO, constV, Loc.get, Vm.look, valO_some, bin_int, intA, evalC_cond, condC_true, condC_false, unwindA, resultsA, resultV, actA, pureA, storeA, loadA, fillE, repElems, TI.zeroV, fieldOf, fieldAddrA, fieldA, elemsA, retE, cells?_put_push, push_at, put_at, cellsOf?, Nat.add_assoc, n_push', n_put', isCell_undef, known_undef, cells_undef, isCell_bool, known_bool, cells_bool, isCell_int, known_int, cells_int, isCell_str, known_str, cells_str, isCell_nilp, known_nilp, cells_nilp, isCell_ptr, known_ptr, cells_ptr, isCell_rptr, known_rptr, cells_rptr, isCell_nils, known_nils, cells_nils, isCell_slice, known_slice, cells_slice, isCell_rsl, known_rsl, cells_rsl, isCell_nilm, known_nilm, cells_nilm, isCell_map, known_map, cells_map, isCell_fn, known_fn, cells_fn, isCell_yld, known_yld, cells_yld, isCell_nilf, known_nilf, cells_nilf, isCell_iface, known_iface, cells_iface, isCell_nili, known_nili, cells_nili, isCell_agg, known_agg, cells_agg, isCell_tup, known_tup, cells_tup, setCells, nowhere, GotF_some, Got_some, int_beq, int_bne, vloc, h1, hg0, eq_duo, nob]
    exact hp _ _ rfl
  obtain ⟨vs, hH⟩ := hull_ok hb hne
  have hvs := hullVs_eq hH
  have hsn : startH l ≠ nob := fun e => hb.nob (by rw [← e]; exact hH.start)
  have hW := hH.walk
  have hmem := hH.mem
  have hns : ∀ x, nextH l x = nob ∨ nextH l x ∈ l := fun x => next_in x l.length rfl
  have hlen : vs.length ≤ 1000 := by
    have : vs.length ≤ l.length := subP_len hH.nodup hH.mem
    omega
  have hv0 : vs ≠ [] := fun e => by have := hH.pos; rw [e] at this; simp at this
  unfold hullN at hp
  rw [hvs] at hp
  clear hH hvs
  generalize startH l = s at *
  have hs9 := hsn
  obtain ⟨s1, s2⟩ := s
  simp only [nob, ne_eq] at hsn
  simp only at h1
  simp [evalC_seq, evalC_region, runA_cons', runA_consN, runA_consG, guardR_true, guardR_false, guardV_bool, guardV_tup, runA_nil', inFrame, startLoc, startVals, Loc.clear, eff_move, eff_assign, eff_binOp, eff_build, eff_buildSlice, eff_alloc, eff_box, eff_store, eff_load, eff_fieldAddr, eff_field, eff_indexAddr, eff_slice, eff_extract, eff_pick, eff_unOp, eff_convert, eff_makeSlice, eff_makeFunc, eff_makeInterface, eff_nilCheck, eff_panic, eff_len1, eff_max2, eff_min2, eff_append2, eff_callV, stepE_val, contR_ok, contR_pan, outC_ok, outC_pan, thenC_normal, thenC_ret, thenC_exit, thenC_pan, blockC, evalC_ret, evalC_skip, evalC_exit, evalC_block, evalC_scope, evalC_loop, Loc.putO, Loc.put, idx, evO, constV, Loc.get, Vm.look, valO_some, bin_int, intA, evalC_cond, condC_true, condC_false, unwindA, resultsA, resultV, actA, pureA, storeA, loadA, fillE, repElems, TI.zeroV, fieldOf, fieldAddrA, fieldA, elemsA, retE, cells?_put_push, push_at, put_at, cellsOf?, Nat.add_assoc, n_push', n_put', isCell_undef, known_undef, cells_undef, isCell_bool, known_bool, cells_bool, isCell_int, known_int, cells_int, isCell_str, known_str, cells_str, isCell_nilp, known_nilp, cells_nilp, isCell_ptr, known_ptr, cells_ptr, isCell_rptr, known_rptr, cells_rptr, isCell_nils, known_nils, cells_nils, isCell_slice, known_slice, cells_slice, isCell_rsl, known_rsl, cells_rsl, isCell_nilm, known_nilm, cells_nilm, isCell_map, known_map, cells_map, isCell_fn, known_fn, cells_fn, isCell_yld, known_yld, cells_yld, isCell_nilf, known_nilf, cells_nilf, isCell_iface, known_iface, cells_iface, isCell_nili, known_nili, cells_nili, isCell_agg, known_agg, cells_agg, isCell_tup, known_tup, cells_tup, setCells, nowhere, GotF_some, Got_some, int_beq, int_bne, vloc, h1, hg0, eq_duo, hsn]
  have k8 := cells?_put_push S1 (.cells [.int .i64 0, .int .i64 0]) [.int .i64 s1, .int .i64 s2]
  have k1 := cells_box (o := .cells [.int .i64 0, .int .i64 0]) (o' := .cells [.int .i64 s1, .int .i64 s2]) h1
  have kn : S1.n ≠ 1 := by have := St.get_lt (cells?_inv h1); omega
  generalize hc : iter _ _ _ _ = c
  obtain ⟨e1, L1, S2, rfl, hq⟩ := loop_of hc
    (fun r L S => ∃ done p rest kp v T a9 a11 a12 a69 a70 a71 a113 sc, rest.length + 1 = r ∧ vs = done ++ p :: rest ∧ Walk l (s1, s2) p (p :: rest) ∧
      L = vloc [A, .ptr 0 0, .nils, D, .ptr 1 0, a6, v, .ptr kp 0, a9, a11, a12, D, .int .i64 l.length, a18, a69, a70, a71, a113] sc ∧
      S.cells? 1 = some [.int .i64 s1, .int .i64 s2] ∧ S.cells? kp = some [.int .i64 p.1, .int .i64 p.2] ∧ kp ≠ 1 ∧ LiveT S 1 v (nats (done.map (idxP l))) T)
    (fun e L S => e = .ret ∧ ∃ v T a6 a7 a8 a9 a11 a12 a16 a17 a18 a69 a70 a71 a113 sc, L = vloc [A, .ptr 0 0, v, D, .ptr 1 0, a6, a7, a8, a9, a11, a12, a16, a17, a18, a69, a70, a71, a113] sc ∧
      LiveT S 1 v (nats (vs.map (idxP l))) T)
    vs.length (by omega)
    (by
      obtain ⟨t, ht⟩ := hW.head
      refine ⟨[], (s1, s2), t, S1.n, .nils, none, _, _, _, _, _, _, _, _, by rw [ht]; rfl, ht, by rw [← ht]; exact hW, rfl, k1, k8, kn, .inl ⟨rfl, rfl⟩⟩)
    (by
      clear hW k8 k1 h1 hp kn
      rintro r L S ⟨done, ⟨p1, p2⟩, rest, kp, v, T, a9, a11, a12, a69, a70, a71, a113, sc, hr, hvs, hw, rfl, c1, cp, hk1, hL⟩ q hq1 hq2
      simp only at cp
      have hpm : (p1, p2) ∈ l := hmem _ (by rw [hvs]; simp)
      have hp0 : Near0 (p1, p2) := hb _ hpm
      have uIp := fun (n : Nat) (S : St) => uI n S p1 p2 hpm
      have hdl1 : done.length ≤ 1000 := by
        have := congrArg List.length hvs
        simp at this
        omega
      obtain ⟨v', Sa, e1, e2, e3, e4⟩ := append_nat (idxP l (p1, p2)) hL (by simp; omega)
      obtain ⟨w1, w2, w3⟩ := nat_cell e2
      have ga1 := e4.cells _ _ c1
      have gap := e4.cells _ _ cp
      have b1 := cells_box (o := .cells [.int .i64 0, .int .i64 0]) (o' := .cells [.int .i64 1099511627776, .int .i64 1099511627776]) ga1
      have bp := cells_box (o := .cells [.int .i64 0, .int .i64 0]) (o' := .cells [.int .i64 1099511627776, .int .i64 1099511627776]) gap
      have bq := cells?_put_push Sa (.cells [.int .i64 0, .int .i64 0]) [.int .i64 1099511627776, .int .i64 1099511627776]
      have hlt := St.get_lt (cells?_inv gap)
      have hlt1 := St.get_lt (cells?_inv ga1)
      have hLb := liveT_box (cs := [.int .i64 0, .int .i64 0]) (ds := [.int .i64 1099511627776, .int .i64 1099511627776]) e2
      have hsnoc : done.map (idxP l) ++ [idxP l (p1, p2)] = (done ++ [(p1, p2)]).map (idxP l) := by simp
      rw [hsnoc] at hLb
      generalize idxP l (p1, p2) = ip at *
      simp [evalC_seq, evalC_region, runA_cons', runA_consN, runA_consG, guardR_true, guardR_false, guardV_bool, guardV_tup, runA_nil', inFrame, startLoc, startVals, Loc.clear, eff_move, eff_assign, eff_binOp, eff_build, eff_buildSlice, eff_alloc, eff_box, eff_store, eff_load, eff_fieldAddr, eff_field, eff_indexAddr, eff_slice, eff_extract, eff_pick, eff_unOp, eff_convert, eff_makeSlice, eff_makeFunc, eff_makeInterface, eff_nilCheck, eff_panic, eff_len1, eff_max2, eff_min2, eff_append2, eff_callV, stepE_val, contR_ok, contR_pan, outC_ok, outC_pan, thenC_normal, thenC_ret, thenC_exit, thenC_pan, blockC, evalC_ret, evalC_skip, evalC_exit, evalC_block, evalC_scope, evalC_loop, Loc.putO, Loc.put, idx, evO, constV, Loc.get, Vm.look, valO_some, bin_int, intA, evalC_cond, condC_true, condC_false, unwindA, resultsA, resultV, actA, pureA, storeA, loadA, fillE, repElems, TI.zeroV, fieldOf, fieldAddrA, fieldA, elemsA, retE, cells?_put_push, push_at, put_at, cellsOf?, Nat.add_assoc, n_push', n_put', isCell_undef, known_undef, cells_undef, isCell_bool, known_bool, cells_bool, isCell_int, known_int, cells_int, isCell_str, known_str, cells_str, isCell_nilp, known_nilp, cells_nilp, isCell_ptr, known_ptr, cells_ptr, isCell_rptr, known_rptr, cells_rptr, isCell_nils, known_nils, cells_nils, isCell_slice, known_slice, cells_slice, isCell_rsl, known_rsl, cells_rsl, isCell_nilm, known_nilm, cells_nilm, isCell_map, known_map, cells_map, isCell_fn, known_fn, cells_fn, isCell_yld, known_yld, cells_yld, isCell_nilf, known_nilf, cells_nilf, isCell_iface, known_iface, cells_iface, isCell_nili, known_nili, cells_nili, isCell_agg, known_agg, cells_agg, isCell_tup, known_tup, cells_tup, setCells, nowhere, GotF_some, Got_some, int_beq, int_bne, vloc, cp, gap, uIp, e1, hg0, hdl]
      generalize (Sa.push (.cells [.int .i64 0, .int .i64 0])).put Sa.n (.cells [.int .i64 1099511627776, .int .i64 1099511627776]) = Sb at *
      have hkq : kp ≠ Sa.n := by omega
      have hkq1 : Sa.n ≠ 1 := by omega
      generalize Sa.n = kq at *
      clear e1 e2 e3 e4 ga1 gap c1 cp hL hlt hlt1 hsnoc
      generalize hc2 : iter _ _ _ _ = cc
      obtain ⟨e2, L2, S3, rfl, hq'⟩ := loop_of hc2
        (fun r2 L S => ∃ j a11 a12 sc, j + r2 = l.length ∧ L = vloc [A, .ptr 0 0, .nils, D, .ptr 1 0, a6, v', .ptr kp 0, .ptr kq 0, a11, a12, D, .int .i64 l.length, a18, D, .int .i64 l.length, .int .i64 (j : Nat), a113] sc ∧
          S.cells? 1 = some [.int .i64 s1, .int .i64 s2] ∧ S.cells? kp = some [.int .i64 p1, .int .i64 p2] ∧
          S.cells? kq = some [.int .i64 (nextH (l.take j) (p1, p2)).1, .int .i64 (nextH (l.take j) (p1, p2)).2] ∧ ∃ T, LiveT S 1 v' (nats ((done ++ [(p1, p2)]).map (idxP l))) T)
        (fun e L S => e = .exit 4 ∧ ∃ a11 a12 a71 sc, L = vloc [A, .ptr 0 0, .nils, D, .ptr 1 0, a6, v', .ptr kp 0, .ptr kq 0, a11, a12, D, .int .i64 l.length, a18, D, .int .i64 l.length, a71, a113] sc ∧
          S.cells? 1 = some [.int .i64 s1, .int .i64 s2] ∧ S.cells? kp = some [.int .i64 p1, .int .i64 p2] ∧
          S.cells? kq = some [.int .i64 (nextH l (p1, p2)).1, .int .i64 (nextH l (p1, p2)).2] ∧ ∃ T, LiveT S 1 v' (nats ((done ++ [(p1, p2)]).map (idxP l))) T)
        l.length (by omega)
        ⟨0, _, _, _, by simp, rfl, b1, bp, bq, _, hLb⟩
        (by
          clear hLb b1 bp bq
          rintro r2 L S ⟨j, a11, a12, sc, hjk, rfl, b1, bp, bq, T, hL⟩ q' hq1' hq2'
          by_cases hj : j < l.length
          · have hwj : IntKind.i64.wrap ((j : Int) + 1) = ((j : Int) + 1) := wrap_id (by omega) (by omega)
            have hix := hdx j hj
            have hnx : nextH (l.take (j + 1)) (p1, p2) = stepH (p1, p2) (nextH (l.take j) (p1, p2)) l[j] := by rw [take_snoc hj, next_snoc]
            have hxn : Near0 l[j] := hb _ (List.getElem_mem hj)
            have hqn : nextH (l.take j) (p1, p2) = nob ∨ Near0 (nextH (l.take j) (p1, p2)) := by
              rcases next_in (p1, p2) (l.take j).length (l := l.take j) rfl with h | h
              · exact .inl h
              · exact .inr (hb _ (List.mem_of_mem_take h))
            generalize nextH (l.take j) (p1, p2) = qq at *
            generalize l[j] = x at *
            obtain ⟨x1, x2⟩ := x
            obtain ⟨q1, q2⟩ := qq
            simp only at bq hix
            unfold stepH at hnx
            have j11 := cells?_put_push S (.cells [.int .i64 0, .int .i64 0]) [.int .i64 x1, .int .i64 x2]
            have j1 := cells_box (o := .cells [.int .i64 0, .int .i64 0]) (o' := .cells [.int .i64 x1, .int .i64 x2]) b1
            have jp := cells_box (o := .cells [.int .i64 0, .int .i64 0]) (o' := .cells [.int .i64 x1, .int .i64 x2]) bp
            have jq := cells_box (o := .cells [.int .i64 0, .int .i64 0]) (o' := .cells [.int .i64 x1, .int .i64 x2]) bq
            have hLx := liveT_box (cs := [.int .i64 0, .int .i64 0]) (ds := [.int .i64 x1, .int .i64 x2]) hL
            by_cases e1 : (x1, x2) = (p1, p2)
            · rw [if_pos e1] at hnx
              cases e1
              simp [evalC_seq, evalC_region, runA_cons', runA_consN, runA_consG, guardR_true, guardR_false, guardV_bool, guardV_tup, runA_nil', inFrame, startLoc, startVals, Loc.clear, eff_move, eff_assign, eff_binOp, eff_build, eff_buildSlice, eff_alloc, eff_box, eff_store, eff_load, eff_fieldAddr, eff_field, eff_indexAddr, eff_slice, eff_extract, eff_pick, eff_unOp, eff_convert, eff_makeSlice, eff_makeFunc, eff_makeInterface, eff_nilCheck, eff_panic, eff_len1, eff_max2, eff_min2, eff_append2, eff_callV, stepE_val, contR_ok, contR_pan, outC_ok, outC_pan, thenC_normal, thenC_ret, thenC_exit, thenC_pan, blockC, evalC_ret, evalC_skip, evalC_exit, evalC_block, evalC_scope, evalC_loop, Loc.putO, Loc.put, idx, evO, constV, Loc.get, Vm.look, valO_some, bin_int, intA, evalC_cond, condC_true, condC_false, unwindA, resultsA, resultV, actA, pureA, storeA, loadA, fillE, repElems, TI.zeroV, fieldOf, fieldAddrA, fieldA, elemsA, retE, cells?_put_push, push_at, put_at, cellsOf?, Nat.add_assoc, n_push', n_put', isCell_undef, known_undef, cells_undef, isCell_bool, known_bool, cells_bool, isCell_int, known_int, cells_int, isCell_str, known_str, cells_str, isCell_nilp, known_nilp, cells_nilp, isCell_ptr, known_ptr, cells_ptr, isCell_rptr, known_rptr, cells_rptr, isCell_nils, known_nils, cells_nils, isCell_slice, known_slice, cells_slice, isCell_rsl, known_rsl, cells_rsl, isCell_nilm, known_nilm, cells_nilm, isCell_map, known_map, cells_map, isCell_fn, known_fn, cells_fn, isCell_yld, known_yld, cells_yld, isCell_nilf, known_nilf, cells_nilf, isCell_iface, known_iface, cells_iface, isCell_nili, known_nili, cells_nili, isCell_agg, known_agg, cells_agg, isCell_tup, known_tup, cells_tup, setCells, nowhere, GotF_some, Got_some, int_beq, int_bne, vloc, hj, hix, j11, jp, eq_duo, hwj]
              exact hq1' (r2 - 1) _ _ (by omega) ⟨j + 1, _, _, _, by omega, rfl, j1, jp, by rw [hnx]; exact jq, _, hLx⟩
            · rw [if_neg e1] at hnx
              have e1' : ¬ (x1 = p1 ∧ x2 = p2) := fun h => e1 (Prod.ext h.1 h.2)
              by_cases e2 : (q1, q2) = nob
              · rw [if_pos e2] at hnx
                cases e2
                simp [evalC_seq, evalC_region, runA_cons', runA_consN, runA_consG, guardR_true, guardR_false, guardV_bool, guardV_tup, runA_nil', inFrame, startLoc, startVals, Loc.clear, eff_move, eff_assign, eff_binOp, eff_build, eff_buildSlice, eff_alloc, eff_box, eff_store, eff_load, eff_fieldAddr, eff_field, eff_indexAddr, eff_slice, eff_extract, eff_pick, eff_unOp, eff_convert, eff_makeSlice, eff_makeFunc, eff_makeInterface, eff_nilCheck, eff_panic, eff_len1, eff_max2, eff_min2, eff_append2, eff_callV, stepE_val, contR_ok, contR_pan, outC_ok, outC_pan, thenC_normal, thenC_ret, thenC_exit, thenC_pan, blockC, evalC_ret, evalC_skip, evalC_exit, evalC_block, evalC_scope, evalC_loop, Loc.putO, Loc.put, idx, evO, constV, Loc.get, Vm.look, valO_some, bin_int, intA, evalC_cond, condC_true, condC_false, unwindA, resultsA, resultV, actA, pureA, storeA, loadA, fillE, repElems, TI.zeroV, fieldOf, fieldAddrA, fieldA, elemsA, retE, cells?_put_push, push_at, put_at, cellsOf?, Nat.add_assoc, n_push', n_put', isCell_undef, known_undef, cells_undef, isCell_bool, known_bool, cells_bool, isCell_int, known_int, cells_int, isCell_str, known_str, cells_str, isCell_nilp, known_nilp, cells_nilp, isCell_ptr, known_ptr, cells_ptr, isCell_rptr, known_rptr, cells_rptr, isCell_nils, known_nils, cells_nils, isCell_slice, known_slice, cells_slice, isCell_rsl, known_rsl, cells_rsl, isCell_nilm, known_nilm, cells_nilm, isCell_map, known_map, cells_map, isCell_fn, known_fn, cells_fn, isCell_yld, known_yld, cells_yld, isCell_nilf, known_nilf, cells_nilf, isCell_iface, known_iface, cells_iface, isCell_nili, known_nili, cells_nili, isCell_agg, known_agg, cells_agg, isCell_tup, known_tup, cells_tup, setCells, nowhere, GotF_some, Got_some, int_beq, int_bne, vloc, hj, hix, j11, jp, jq, hg0, eq_duo, e1', hwj]
                exact hq1' (r2 - 1) _ _ (by omega) ⟨j + 1, _, _, _, by omega, rfl, cells_put jq j1 (Ne.symm hkq1), cells_put jq jp hkq, by rw [hnx]; exact cells_put_self jq, _, hLx.put jq⟩
              · rw [if_neg e2] at hnx
                have hq0 : Near0 (q1, q2) := by
                  rcases hqn with h | h
                  · exact absurd h e2
                  · exact h
                have e2' : ¬ (q1 = 1099511627776 ∧ q2 = 1099511627776) := fun h => e2 (Prod.ext h.1 h.2)
                have uR1 := fun (n : Nat) (S : St) => uR n S p1 p2 q1 q2 x1 x2 hp0 hq0 hxn
                have uF1 := fun (n : Nat) (S : St) => uF n S p1 p2 x1 x2 hp0 hxn
                have uF2 := fun (n : Nat) (S : St) => uF n S p1 p2 q1 q2 hp0 hq0
                generalize rgt (p1, p2) (q1, q2) (x1, x2) = g at *
                generalize far (p1, p2) (q1, q2) = f1 at *
                generalize far (p1, p2) (x1, x2) = f2 at *
                by_cases g1 : g < 0
                · rw [if_pos (.inl g1)] at hnx
                  simp [evalC_seq, evalC_region, runA_cons', runA_consN, runA_consG, guardR_true, guardR_false, guardV_bool, guardV_tup, runA_nil', inFrame, startLoc, startVals, Loc.clear, eff_move, eff_assign, eff_binOp, eff_build, eff_buildSlice, eff_alloc, eff_box, eff_store, eff_load, eff_fieldAddr, eff_field, eff_indexAddr, eff_slice, eff_extract, eff_pick, eff_unOp, eff_convert, eff_makeSlice, eff_makeFunc, eff_makeInterface, eff_nilCheck, eff_panic, eff_len1, eff_max2, eff_min2, eff_append2, eff_callV, stepE_val, contR_ok, contR_pan, outC_ok, outC_pan, thenC_normal, thenC_ret, thenC_exit, thenC_pan, blockC, evalC_ret, evalC_skip, evalC_exit, evalC_block, evalC_scope, evalC_loop, Loc.putO, Loc.put, idx, evO, constV, Loc.get, Vm.look, valO_some, bin_int, intA, evalC_cond, condC_true, condC_false, unwindA, resultsA, resultV, actA, pureA, storeA, loadA, fillE, repElems, TI.zeroV, fieldOf, fieldAddrA, fieldA, elemsA, retE, cells?_put_push, push_at, put_at, cellsOf?, Nat.add_assoc, n_push', n_put', isCell_undef, known_undef, cells_undef, isCell_bool, known_bool, cells_bool, isCell_int, known_int, cells_int, isCell_str, known_str, cells_str, isCell_nilp, known_nilp, cells_nilp, isCell_ptr, known_ptr, cells_ptr, isCell_rptr, known_rptr, cells_rptr, isCell_nils, known_nils, cells_nils, isCell_slice, known_slice, cells_slice, isCell_rsl, known_rsl, cells_rsl, isCell_nilm, known_nilm, cells_nilm, isCell_map, known_map, cells_map, isCell_fn, known_fn, cells_fn, isCell_yld, known_yld, cells_yld, isCell_nilf, known_nilf, cells_nilf, isCell_iface, known_iface, cells_iface, isCell_nili, known_nili, cells_nili, isCell_agg, known_agg, cells_agg, isCell_tup, known_tup, cells_tup, setCells, nowhere, GotF_some, Got_some, int_beq, int_bne, runC_nil, runC_cons, pickC_some, wantC_tt, wantC_tf, effC_val, ifC_true, checkC, inPairs, keepC, okC, readsC_load, readV_some, AV.beq_self, wantA_n, wantA_g, wantD_some, d0, vloc, hj, hix, j11, jp, jq, hg0, eq_duo, e1', e2', uR1, g1, hwj]
                  exact hq1' (r2 - 1) _ _ (by omega) ⟨j + 1, _, _, _, by omega, rfl, cells_put jq j1 (Ne.symm hkq1), cells_put jq jp hkq, by rw [hnx]; exact cells_put_self jq, _, hLx.put jq⟩
                · by_cases g2 : g = 0
                  · subst g2
                    by_cases g3 : f1 < f2
                    · rw [if_pos (.inr ⟨rfl, g3⟩)] at hnx
                      simp [evalC_seq, evalC_region, runA_cons', runA_consN, runA_consG, guardR_true, guardR_false, guardV_bool, guardV_tup, runA_nil', inFrame, startLoc, startVals, Loc.clear, eff_move, eff_assign, eff_binOp, eff_build, eff_buildSlice, eff_alloc, eff_box, eff_store, eff_load, eff_fieldAddr, eff_field, eff_indexAddr, eff_slice, eff_extract, eff_pick, eff_unOp, eff_convert, eff_makeSlice, eff_makeFunc, eff_makeInterface, eff_nilCheck, eff_panic, eff_len1, eff_max2, eff_min2, eff_append2, eff_callV, stepE_val, contR_ok, contR_pan, outC_ok, outC_pan, thenC_normal, thenC_ret, thenC_exit, thenC_pan, blockC, evalC_ret, evalC_skip, evalC_exit, evalC_block, evalC_scope, evalC_loop, Loc.putO, Loc.put, idx, evO, constV, Loc.get, Vm.look, valO_some, bin_int, intA, evalC_cond, condC_true, condC_false, unwindA, resultsA, resultV, actA, pureA, storeA, loadA, fillE, repElems, TI.zeroV, fieldOf, fieldAddrA, fieldA, elemsA, retE, cells?_put_push, push_at, put_at, cellsOf?, Nat.add_assoc, n_push', n_put', isCell_undef, known_undef, cells_undef, isCell_bool, known_bool, cells_bool, isCell_int, known_int, cells_int, isCell_str, known_str, cells_str, isCell_nilp, known_nilp, cells_nilp, isCell_ptr, known_ptr, cells_ptr, isCell_rptr, known_rptr, cells_rptr, isCell_nils, known_nils, cells_nils, isCell_slice, known_slice, cells_slice, isCell_rsl, known_rsl, cells_rsl, isCell_nilm, known_nilm, cells_nilm, isCell_map, known_map, cells_map, isCell_fn, known_fn, cells_fn, isCell_yld, known_yld, cells_yld, isCell_nilf, known_nilf, cells_nilf, isCell_iface, known_iface, cells_iface, isCell_nili, known_nili, cells_nili, isCell_agg, known_agg, cells_agg, isCell_tup, known_tup, cells_tup, setCells, nowhere, GotF_some, Got_some, int_beq, int_bne, runC_nil, runC_cons, pickC_some, wantC_tt, wantC_tf, effC_val, ifC_true, checkC, inPairs, keepC, okC, readsC_load, readV_some, AV.beq_self, wantA_n, wantA_g, wantD_some, d0, vloc, hj, hix, j11, jp, jq, hg0, eq_duo, e1', e2', uR1, uF1, uF2, g3, hwj]
                      exact hq1' (r2 - 1) _ _ (by omega) ⟨j + 1, _, _, _, by omega, rfl, cells_put jq j1 (Ne.symm hkq1), cells_put jq jp hkq, by rw [hnx]; exact cells_put_self jq, _, hLx.put jq⟩
                    · rw [if_neg (by omega)] at hnx
                      simp [evalC_seq, evalC_region, runA_cons', runA_consN, runA_consG, guardR_true, guardR_false, guardV_bool, guardV_tup, runA_nil', inFrame, startLoc, startVals, Loc.clear, eff_move, eff_assign, eff_binOp, eff_build, eff_buildSlice, eff_alloc, eff_box, eff_store, eff_load, eff_fieldAddr, eff_field, eff_indexAddr, eff_slice, eff_extract, eff_pick, eff_unOp, eff_convert, eff_makeSlice, eff_makeFunc, eff_makeInterface, eff_nilCheck, eff_panic, eff_len1, eff_max2, eff_min2, eff_append2, eff_callV, stepE_val, contR_ok, contR_pan, outC_ok, outC_pan, thenC_normal, thenC_ret, thenC_exit, thenC_pan, blockC, evalC_ret, evalC_skip, evalC_exit, evalC_block, evalC_scope, evalC_loop, Loc.putO, Loc.put, idx, evO, constV, Loc.get, Vm.look, valO_some, bin_int, intA, evalC_cond, condC_true, condC_false, unwindA, resultsA, resultV, actA, pureA, storeA, loadA, fillE, repElems, TI.zeroV, fieldOf, fieldAddrA, fieldA, elemsA, retE, cells?_put_push, push_at, put_at, cellsOf?, Nat.add_assoc, n_push', n_put', isCell_undef, known_undef, cells_undef, isCell_bool, known_bool, cells_bool, isCell_int, known_int, cells_int, isCell_str, known_str, cells_str, isCell_nilp, known_nilp, cells_nilp, isCell_ptr, known_ptr, cells_ptr, isCell_rptr, known_rptr, cells_rptr, isCell_nils, known_nils, cells_nils, isCell_slice, known_slice, cells_slice, isCell_rsl, known_rsl, cells_rsl, isCell_nilm, known_nilm, cells_nilm, isCell_map, known_map, cells_map, isCell_fn, known_fn, cells_fn, isCell_yld, known_yld, cells_yld, isCell_nilf, known_nilf, cells_nilf, isCell_iface, known_iface, cells_iface, isCell_nili, known_nili, cells_nili, isCell_agg, known_agg, cells_agg, isCell_tup, known_tup, cells_tup, setCells, nowhere, GotF_some, Got_some, int_beq, int_bne, runC_nil, runC_cons, pickC_some, wantC_tt, wantC_tf, effC_val, ifC_true, checkC, inPairs, keepC, okC, readsC_load, readV_some, AV.beq_self, wantA_n, wantA_g, wantD_some, d0, vloc, hj, hix, j11, jp, jq, hg0, eq_duo, e1', e2', uR1, uF1, uF2, g3, hwj]
                      exact hq1' (r2 - 1) _ _ (by omega) ⟨j + 1, _, _, _, by omega, rfl, j1, jp, by rw [hnx]; exact jq, _, hLx⟩
                  · rw [if_neg (by omega)] at hnx
                    simp [evalC_seq, evalC_region, runA_cons', runA_consN, runA_consG, guardR_true, guardR_false, guardV_bool, guardV_tup, runA_nil', inFrame, startLoc, startVals, Loc.clear, eff_move, eff_assign, eff_binOp, eff_build, eff_buildSlice, eff_alloc, eff_box, eff_store, eff_load, eff_fieldAddr, eff_field, eff_indexAddr, eff_slice, eff_extract, eff_pick, eff_unOp, eff_convert, eff_makeSlice, eff_makeFunc, eff_makeInterface, eff_nilCheck, eff_panic, eff_len1, eff_max2, eff_min2, eff_append2, eff_callV, stepE_val, contR_ok, contR_pan, outC_ok, outC_pan, thenC_normal, thenC_ret, thenC_exit, thenC_pan, blockC, evalC_ret, evalC_skip, evalC_exit, evalC_block, evalC_scope, evalC_loop, Loc.putO, Loc.put, idx, evO, constV, Loc.get, Vm.look, valO_some, bin_int, intA, evalC_cond, condC_true, condC_false, unwindA, resultsA, resultV, actA, pureA, storeA, loadA, fillE, repElems, TI.zeroV, fieldOf, fieldAddrA, fieldA, elemsA, retE, cells?_put_push, push_at, put_at, cellsOf?, Nat.add_assoc, n_push', n_put', isCell_undef, known_undef, cells_undef, isCell_bool, known_bool, cells_bool, isCell_int, known_int, cells_int, isCell_str, known_str, cells_str, isCell_nilp, known_nilp, cells_nilp, isCell_ptr, known_ptr, cells_ptr, isCell_rptr, known_rptr, cells_rptr, isCell_nils, known_nils, cells_nils, isCell_slice, known_slice, cells_slice, isCell_rsl, known_rsl, cells_rsl, isCell_nilm, known_nilm, cells_nilm, isCell_map, known_map, cells_map, isCell_fn, known_fn, cells_fn, isCell_yld, known_yld, cells_yld, isCell_nilf, known_nilf, cells_nilf, isCell_iface, known_iface, cells_iface, isCell_nili, known_nili, cells_nili, isCell_agg, known_agg, cells_agg, isCell_tup, known_tup, cells_tup, setCells, nowhere, GotF_some, Got_some, int_beq, int_bne, runC_nil, runC_cons, pickC_some, wantC_tt, wantC_tf, effC_val, ifC_true, checkC, inPairs, keepC, okC, readsC_load, readV_some, AV.beq_self, wantA_n, wantA_g, wantD_some, d0, vloc, hj, hix, j11, jp, jq, hg0, eq_duo, e1', e2', uR1, g1, g2, hwj]
                    exact hq1' (r2 - 1) _ _ (by omega) ⟨j + 1, _, _, _, by omega, rfl, j1, jp, by rw [hnx]; exact jq, _, hLx⟩
          · have hjl : j = l.length := by omega
            subst hjl
            rw [List.take_length] at bq
            simp [evalC_seq, evalC_region, runA_cons', runA_consN, runA_consG, guardR_true, guardR_false, guardV_bool, guardV_tup, runA_nil', inFrame, startLoc, startVals, Loc.clear, eff_move, eff_assign, eff_binOp, eff_build, eff_buildSlice, eff_alloc, eff_box, eff_store, eff_load, eff_fieldAddr, eff_field, eff_indexAddr, eff_slice, eff_extract, eff_pick, eff_unOp, eff_convert, eff_makeSlice, eff_makeFunc, eff_makeInterface, eff_nilCheck, eff_panic, eff_len1, eff_max2, eff_min2, eff_append2, eff_callV, stepE_val, contR_ok, contR_pan, outC_ok, outC_pan, thenC_normal, thenC_ret, thenC_exit, thenC_pan, blockC, evalC_ret, evalC_skip, evalC_exit, evalC_block, evalC_scope, evalC_loop, Loc.putO, Loc.put, idx, evO, constV, Loc.get, Vm.look, valO_some, bin_int, intA, evalC_cond, condC_true, condC_false, unwindA, resultsA, resultV, actA, pureA, storeA, loadA, fillE, repElems, TI.zeroV, fieldOf, fieldAddrA, fieldA, elemsA, retE, cells?_put_push, push_at, put_at, cellsOf?, Nat.add_assoc, n_push', n_put', isCell_undef, known_undef, cells_undef, isCell_bool, known_bool, cells_bool, isCell_int, known_int, cells_int, isCell_str, known_str, cells_str, isCell_nilp, known_nilp, cells_nilp, isCell_ptr, known_ptr, cells_ptr, isCell_rptr, known_rptr, cells_rptr, isCell_nils, known_nils, cells_nils, isCell_slice, known_slice, cells_slice, isCell_rsl, known_rsl, cells_rsl, isCell_nilm, known_nilm, cells_nilm, isCell_map, known_map, cells_map, isCell_fn, known_fn, cells_fn, isCell_yld, known_yld, cells_yld, isCell_nilf, known_nilf, cells_nilf, isCell_iface, known_iface, cells_iface, isCell_nili, known_nili, cells_nili, isCell_agg, known_agg, cells_agg, isCell_tup, known_tup, cells_tup, setCells, nowhere, GotF_some, Got_some, int_beq, int_bne, vloc]
            exact hq2' _ _ _ (by simp) ⟨rfl, _, _, _, _, rfl, b1, bp, bq, _, hL⟩)
      obtain ⟨rfl, a11, a12, a71, sc, rfl, b1, bp, bq, T, hL⟩ := hq'
      generalize hqq : nextH l (p1, p2) = qq at *
      obtain ⟨q1, q2⟩ := qq
      simp only at bq
      have hvs2 : vs = (done ++ [(p1, p2)]) ++ rest := by rw [hvs]; simp
      cases hw with
      | stop h =>
        rw [List.append_nil] at hvs2
        rw [← hvs2] at hL
        rw [hqq] at h
        by_cases e2 : (q1, q2) = nob
        · cases e2
          simp [evalC_seq, evalC_region, runA_cons', runA_consN, runA_consG, guardR_true, guardR_false, guardV_bool, guardV_tup, runA_nil', inFrame, startLoc, startVals, Loc.clear, eff_move, eff_assign, eff_binOp, eff_build, eff_buildSlice, eff_alloc, eff_box, eff_store, eff_load, eff_fieldAddr, eff_field, eff_indexAddr, eff_slice, eff_extract, eff_pick, eff_unOp, eff_convert, eff_makeSlice, eff_makeFunc, eff_makeInterface, eff_nilCheck, eff_panic, eff_len1, eff_max2, eff_min2, eff_append2, eff_callV, stepE_val, contR_ok, contR_pan, outC_ok, outC_pan, thenC_normal, thenC_ret, thenC_exit, thenC_pan, blockC, evalC_ret, evalC_skip, evalC_exit, evalC_block, evalC_scope, evalC_loop, Loc.putO, Loc.put, idx, evO, constV, Loc.get, Vm.look, valO_some, bin_int, intA, evalC_cond, condC_true, condC_false, unwindA, resultsA, resultV, actA, pureA, storeA, loadA, fillE, repElems, TI.zeroV, fieldOf, fieldAddrA, fieldA, elemsA, retE, cells?_put_push, push_at, put_at, cellsOf?, Nat.add_assoc, n_push', n_put', isCell_undef, known_undef, cells_undef, isCell_bool, known_bool, cells_bool, isCell_int, known_int, cells_int, isCell_str, known_str, cells_str, isCell_nilp, known_nilp, cells_nilp, isCell_ptr, known_ptr, cells_ptr, isCell_rptr, known_rptr, cells_rptr, isCell_nils, known_nils, cells_nils, isCell_slice, known_slice, cells_slice, isCell_rsl, known_rsl, cells_rsl, isCell_nilm, known_nilm, cells_nilm, isCell_map, known_map, cells_map, isCell_fn, known_fn, cells_fn, isCell_yld, known_yld, cells_yld, isCell_nilf, known_nilf, cells_nilf, isCell_iface, known_iface, cells_iface, isCell_nili, known_nili, cells_nili, isCell_agg, known_agg, cells_agg, isCell_tup, known_tup, cells_tup, setCells, nowhere, GotF_some, Got_some, int_beq, int_bne, vloc, bq, hg0, eq_duo]
          exact hq2 _ _ _ (by simp) ⟨rfl, _, _, _, _, _, _, _, _, _, _, _, _, _, _, _, _, rfl, hL⟩
        · have e2' : ¬ (q1 = 1099511627776 ∧ q2 = 1099511627776) := fun h => e2 (Prod.ext h.1 h.2)
          rcases h with h | h
          · exact absurd h e2
          · cases h
            simp [evalC_seq, evalC_region, runA_cons', runA_consN, runA_consG, guardR_true, guardR_false, guardV_bool, guardV_tup, runA_nil', inFrame, startLoc, startVals, Loc.clear, eff_move, eff_assign, eff_binOp, eff_build, eff_buildSlice, eff_alloc, eff_box, eff_store, eff_load, eff_fieldAddr, eff_field, eff_indexAddr, eff_slice, eff_extract, eff_pick, eff_unOp, eff_convert, eff_makeSlice, eff_makeFunc, eff_makeInterface, eff_nilCheck, eff_panic, eff_len1, eff_max2, eff_min2, eff_append2, eff_callV, stepE_val, contR_ok, contR_pan, outC_ok, outC_pan, thenC_normal, thenC_ret, thenC_exit, thenC_pan, blockC, evalC_ret, evalC_skip, evalC_exit, evalC_block, evalC_scope, evalC_loop, Loc.putO, Loc.put, idx, evO, constV, Loc.get, Vm.look, valO_some, bin_int, intA, evalC_cond, condC_true, condC_false, unwindA, resultsA, resultV, actA, pureA, storeA, loadA, fillE, repElems, TI.zeroV, fieldOf, fieldAddrA, fieldA, elemsA, retE, cells?_put_push, push_at, put_at, cellsOf?, Nat.add_assoc, n_push', n_put', isCell_undef, known_undef, cells_undef, isCell_bool, known_bool, cells_bool, isCell_int, known_int, cells_int, isCell_str, known_str, cells_str, isCell_nilp, known_nilp, cells_nilp, isCell_ptr, known_ptr, cells_ptr, isCell_rptr, known_rptr, cells_rptr, isCell_nils, known_nils, cells_nils, isCell_slice, known_slice, cells_slice, isCell_rsl, known_rsl, cells_rsl, isCell_nilm, known_nilm, cells_nilm, isCell_map, known_map, cells_map, isCell_fn, known_fn, cells_fn, isCell_yld, known_yld, cells_yld, isCell_nilf, known_nilf, cells_nilf, isCell_iface, known_iface, cells_iface, isCell_nili, known_nili, cells_nili, isCell_agg, known_agg, cells_agg, isCell_tup, known_tup, cells_tup, setCells, nowhere, GotF_some, Got_some, int_beq, int_bne, vloc, bq, b1, hg0, eq_duo, e2']
            exact hq2 _ _ _ (by simp) ⟨rfl, _, _, _, _, _, _, _, _, _, _, _, _, _, _, _, _, rfl, hL⟩
      | step n1 n2 hw' =>
        rw [hqq] at n1 n2 hw'
        have e2' : ¬ (q1 = 1099511627776 ∧ q2 = 1099511627776) := fun h => n1 (Prod.ext h.1 h.2)
        have e3' : ¬ (q1 = s1 ∧ q2 = s2) := fun h => n2 (Prod.ext h.1 h.2)
        obtain ⟨t, ht⟩ := hw'.head
        have cp2 := cells_put_self (ds := [.int .i64 q1, .int .i64 q2]) bp
        have c12 := cells_put (o := .cells [.int .i64 q1, .int .i64 q2]) bp b1 (Ne.symm hk1)
        have hL2 := hL.put (o := .cells [.int .i64 q1, .int .i64 q2]) bp
        have hlt := St.get_lt (cells?_inv b1)
        simp [evalC_seq, evalC_region, runA_cons', runA_consN, runA_consG, guardR_true, guardR_false, guardV_bool, guardV_tup, runA_nil', inFrame, startLoc, startVals, Loc.clear, eff_move, eff_assign, eff_binOp, eff_build, eff_buildSlice, eff_alloc, eff_box, eff_store, eff_load, eff_fieldAddr, eff_field, eff_indexAddr, eff_slice, eff_extract, eff_pick, eff_unOp, eff_convert, eff_makeSlice, eff_makeFunc, eff_makeInterface, eff_nilCheck, eff_panic, eff_len1, eff_max2, eff_min2, eff_append2, eff_callV, stepE_val, contR_ok, contR_pan, outC_ok, outC_pan, thenC_normal, thenC_ret, thenC_exit, thenC_pan, blockC, evalC_ret, evalC_skip, evalC_exit, evalC_block, evalC_scope, evalC_loop, Loc.putO, Loc.put, idx, evO, constV, Loc.get, Vm.look, valO_some, bin_int, intA, evalC_cond, condC_true, condC_false, unwindA, resultsA, resultV, actA, pureA, storeA, loadA, fillE, repElems, TI.zeroV, fieldOf, fieldAddrA, fieldA, elemsA, retE, cells?_put_push, push_at, put_at, cellsOf?, Nat.add_assoc, n_push', n_put', isCell_undef, known_undef, cells_undef, isCell_bool, known_bool, cells_bool, isCell_int, known_int, cells_int, isCell_str, known_str, cells_str, isCell_nilp, known_nilp, cells_nilp, isCell_ptr, known_ptr, cells_ptr, isCell_rptr, known_rptr, cells_rptr, isCell_nils, known_nils, cells_nils, isCell_slice, known_slice, cells_slice, isCell_rsl, known_rsl, cells_rsl, isCell_nilm, known_nilm, cells_nilm, isCell_map, known_map, cells_map, isCell_fn, known_fn, cells_fn, isCell_yld, known_yld, cells_yld, isCell_nilf, known_nilf, cells_nilf, isCell_iface, known_iface, cells_iface, isCell_nili, known_nili, cells_nili, isCell_agg, known_agg, cells_agg, isCell_tup, known_tup, cells_tup, setCells, nowhere, GotF_some, Got_some, int_beq, int_bne, vloc, bq, b1, bp, cp2, hg0, eq_duo, e2', e3']
        refine hq1 (t.length + 1) _ _ (by rw [← hr, ht]; simp) ⟨done ++ [(p1, p2)], (q1, q2), t, S3.n, v', T, _, _, _, _, _, _, _, _, rfl, by rw [hvs2, ht], by rw [← ht]; exact hw', rfl, ?_, ?_, by omega, ?_⟩
        · exact cells_box c12
        · exact cells?_put_push _ _ _
        · exact liveT_box hL2)
  obtain ⟨rfl, v, T, b6, b7, b8, b9, b11, b12, b16, b17, b18, b69, b70, b71, b113, sc, rfl, hL⟩ := hq
  simp [evalC_seq, evalC_region, runA_cons', runA_consN, runA_consG, guardR_true, guardR_false, guardV_bool, guardV_tup, runA_nil', inFrame, startLoc, startVals, Loc.clear, eff_move, eff_assign, eff_binOp, eff_build, eff_buildSlice, eff_alloc, eff_box, eff_store, eff_load, eff_fieldAddr, eff_field, eff_indexAddr, eff_slice, eff_extract, eff_pick, eff_unOp, eff_convert, eff_makeSlice, eff_makeFunc, eff_makeInterface, eff_nilCheck, eff_panic, eff_len1, eff_max2, eff_min2, eff_append2, eff_callV, stepE_val, contR_ok, contR_pan, outC_ok, outC_pan, thenC_normal, thenC_ret, thenC_exit, thenC_pan, blockC, evalC_ret, evalC_skip, evalC_exit, evalC_block, evalC_scope, evalC_loop, Loc.putO, Loc.put, idx, evO, constV, Loc.get, Vm.look, valO_some, bin_int, intA, evalC_cond, condC_true, condC_false, unwindA, resultsA, resultV, actA, pureA, storeA, loadA, fillE, repElems, TI.zeroV, fieldOf, fieldAddrA, fieldA, elemsA, retE, cells?_put_push, push_at, put_at, cellsOf?, Nat.add_assoc, n_push', n_put', isCell_undef, known_undef, cells_undef, isCell_bool, known_bool, cells_bool, isCell_int, known_int, cells_int, isCell_str, known_str, cells_str, isCell_nilp, known_nilp, cells_nilp, isCell_ptr, known_ptr, cells_ptr, isCell_rptr, known_rptr, cells_rptr, isCell_nils, known_nils, cells_nils, isCell_slice, known_slice, cells_slice, isCell_rsl, known_rsl, cells_rsl, isCell_nilm, known_nilm, cells_nilm, isCell_map, known_map, cells_map, isCell_fn, known_fn, cells_fn, isCell_yld, known_yld, cells_yld, isCell_nilf, known_nilf, cells_nilf, isCell_iface, known_iface, cells_iface, isCell_nili, known_nili, cells_nili, isCell_agg, known_agg, cells_agg, isCell_tup, known_tup, cells_tup, setCells, nowhere, GotF_some, Got_some, int_beq, int_bne, vloc]
  exact hp _ _ (melt_nats hL (by simpa using hv0))

end Go.Proofs.YtjgigcaelcapdaaDoor

namespace Go.Proofs.YtjgigcaelcapdaaDoor
open Go Go.Vm Go.Vm.T
set_option maxRecDepth 100000
set_option linter.unusedSimpArgs false
set_option linter.unusedVariables false

/-! what the law asks of the corners -/
theorem idxP_getD {l : List (Int × Int)} {v : Int × Int} (h : v ∈ l) : l.getD (idxP l v) (0, 0) = v := by
  have h1 := idxP_lt h
  have h2 := idxP_get h
  simp only [List.getD_eq_getElem?_getD, List.getElem?_eq_getElem h1, Option.getD_some]
  exact h2
theorem Hull.len_le {l vs : List (Int × Int)} (h : Hull l vs) : vs.length ≤ l.length := subP_len h.nodup h.mem

theorem idxP_nodup : ∀ {vs : List (Int × Int)} (h : vs.Nodup) {i : Nat} (hi : i < vs.length), idxP vs vs[i] = i
  | a :: vs, h, 0, hi => by simp [idxP]
  | a :: vs, h, i + 1, hi => by
    obtain ⟨h1, h2⟩ := List.nodup_cons.1 h
    have hi' : i < vs.length := by simpa using hi
    have hne : vs[i] ≠ a := fun e => h1 (by rw [← e]; exact List.getElem_mem hi')
    have := idxP_nodup h2 hi'
    simp [idxP, hne, this]
theorem idxP_app : ∀ {l : List (Int × Int)} {v : Int × Int} (m : List (Int × Int)), v ∈ l → idxP (l ++ m) v = idxP l v
  | a :: l, v, m, h => by
    by_cases e : v = a
    · simp [idxP, e]
    · have := idxP_app (l := l) (v := v) m (by rcases List.mem_cons.1 h with h | h; exact absurd h e; exact h)
      simp [idxP, e, this]

structure Corners (es : List (Int × Int)) (c : List Nat) : Prop where
  nil : es = [] → c = []
  pos : es ≠ [] → 0 < c.length
  le : c.length ≤ es.length
  lt : ∀ i, i < c.length → c.getD i 0 < es.length
  right : 1 < c.length → ∀ i, i < c.length → ∀ k, k < es.length → 0 ≤ rgt (es.getD (c.getD i 0) (0, 0)) (es.getD (c.getD ((i + 1) % c.length) 0) (0, 0)) (es.getD k (0, 0))
  first : ∀ i, i < c.length → ∀ k, k < c.getD i 0 → es.getD k (0, 0) ≠ es.getD (c.getD i 0) (0, 0)
  strict : 2 < c.length → ∀ i, i < c.length → 0 < rgt (es.getD (c.getD i 0) (0, 0)) (es.getD (c.getD ((i + 1) % c.length) 0) (0, 0)) (es.getD (c.getD ((i + 2) % c.length) 0) (0, 0))
  least : 0 < c.length → ∀ k, k < es.length → ¬ lxl (es.getD k (0, 0)) (es.getD (c.getD 0 0) (0, 0))
  again : hullN (c.map fun j => es.getD j (0, 0)) = List.range c.length
  more : ∀ k, k < es.length → hullN (es ++ [es.getD k (0, 0)]) = c

theorem corners_ok {es : List (Int × Int)} (hb : Bnd es) : Corners es (hullN es) := by
  by_cases hne : es = []
  · subst hne
    have h0 : hullN [] = [] := hullN_nil
    rw [h0]
    exact ⟨fun _ => rfl, fun h => absurd rfl h, by simp, by simp, by simp, by simp, by simp, by simp, by simpa using h0, by simp⟩
  obtain ⟨vs, h⟩ := hull_ok hb hne
  have hv : hullVs es = vs := hullVs_eq h
  have hl : (hullN es).length = vs.length := by simp [hullN, hv]
  have hg : ∀ i, i < vs.length → ∀ h : i < vs.length, (hullN es).getD i 0 = idxP es vs[i] := by
    intro i hi _
    simp [hullN, hv, hi]
  have hp : ∀ i (hi : i < vs.length), es.getD ((hullN es).getD i 0) (0, 0) = vs[i] := by
    intro i hi
    rw [hg i hi hi]
    exact idxP_getD (h.mem _ (List.getElem_mem hi))
  have hk : ∀ k, k < es.length → es.getD k (0, 0) ∈ es := by
    intro k hk
    simp only [List.getD_eq_getElem?_getD, List.getElem?_eq_getElem hk, Option.getD_some]
    exact List.getElem_mem hk
  have hmod : ∀ j, j % vs.length < vs.length := fun j => Nat.mod_lt _ h.pos
  refine ⟨fun e => absurd e hne, fun _ => by rw [hl]; exact h.pos, by rw [hl]; exact h.len_le, ?_, ?_, ?_, ?_, ?_, ?_, ?_⟩
  · intro i hi
    rw [hl] at hi
    rw [hg i hi hi]
    exact idxP_lt (h.mem _ (List.getElem_mem hi))
  · intro h2 i hi k hk'
    rw [hl] at h2 hi ⊢
    rw [hp i hi, hp _ (hmod (i + 1)), ← h.cyc hb h2 hi]
    exact (h.best h2 (List.getElem_mem hi)).1.nonneg (hk k hk')
  · intro i hi k hk'
    rw [hl] at hi
    rw [hp i hi]
    rw [hg i hi hi] at hk'
    have hlt := idxP_lt (h.mem _ (List.getElem_mem hi))
    have := idxP_first (l := es) (v := vs[i]) (j := k) (by omega) hk'
    simp only [List.getD_eq_getElem?_getD, List.getElem?_eq_getElem (show k < es.length by omega), Option.getD_some]
    exact this
  · intro h3 i hi
    rw [hl] at h3 hi ⊢
    rw [hp i hi, hp _ (hmod (i + 1)), hp _ (hmod (i + 2))]
    have c1 := h.cyc hb (by omega) hi
    have c2 := h.cyc hb (by omega) (hmod (i + 1))
    have e : ((i + 1) % vs.length + 1) % vs.length = (i + 2) % vs.length := by rw [Nat.mod_add_mod]
    have e2 : vs[((i + 1) % vs.length + 1) % vs.length]'(hmod _) = vs[(i + 2) % vs.length]'(hmod _) := by simp only [e]
    rw [e2] at c2
    rw [← c2, ← c1]
    exact h.strict hb h3 (List.getElem_mem hi) (by rw [c1]; exact List.getElem_mem _)
  · intro h0 k hk'
    rw [hp 0 h.pos, h.first]
    exact h.least _ (hk k hk')
  · have e : ((hullN es).map fun j => es.getD j (0, 0)) = vs := by
      apply List.ext_getElem
      · simp [hl]
      · intro i h1 h2
        have := hp i h2
        rw [List.getElem_map]
        rw [← this]
        congr 1
        simp [List.getD_eq_getElem?_getD, show i < (hullN es).length by omega]
    rw [e, hl]
    have hs : Hull vs vs := h.same hb h.mem (fun v hv => hv)
    unfold hullN
    rw [hullVs_eq hs]
    apply List.ext_getElem
    · simp
    · intro i h1 h2
      simp only [List.getElem_map, List.getElem_range]
      exact idxP_nodup h.nodup (by simpa using h1)
  · intro k hk'
    have hs : Hull (es ++ [es.getD k (0, 0)]) vs := h.same hb (fun r hr => by
      rcases List.mem_append.1 hr with hr | hr
      · exact hr
      · rw [List.mem_singleton.1 hr]; exact hk k hk') (fun v hv => List.mem_append.2 (.inl (h.mem v hv)))
    unfold hullN
    rw [hullVs_eq hs, hv]
    apply List.map_congr_left
    intro v hv'
    exact idxP_app _ (h.mem v hv')

end Go.Proofs.YtjgigcaelcapdaaDoor

namespace Go.Proofs.YtjgigcaelcapdaaDoor
open Go Go.Vm Go.Vm.T
set_option maxRecDepth 100000
set_option linter.unusedSimpArgs false
set_option linter.unusedVariables false

set_option maxHeartbeats 4000000

noncomputable def hullOut (g : GV) : Option (List Int) := some (ofN (hullN (edgesOf g)))
def hullDom (g : GV) : Prop := ∃ l, g = duosV l ∧ l.length ≤ 1000 ∧ Bnd l

theorem hull38_ok : (valueC 38 hullDom hullOut).Ok Tryd.prog ED := by
  refine Con.ok_at ED_ok ED_pers csH csH_ok (fun (g : GV) _ => ⟨by show AV.persL [g.enc] = true; simp [AV.persL, GV.pers], ?_⟩) ?_
  · exact lstI_pers _
  rintro g ⟨l, rfl, hl, hb⟩
  obtain ⟨n, hn⟩ := hull_run hb hl
  have e : edgesOf (duosV l) = l := edgesOf_duos l
  show ∃ n, ∀ p : FRes → St → Prop, (∀ r S', r.melt S' = .ret (lstI (ofN (hullN (edgesOf (duosV l))))) → p r S') → GotF (callS ED (sumOf csH) n (.fn 38) [(duosV l).enc] S0) p
  rw [e]
  exact ⟨n, hn⟩

noncomputable def hullD : Con := defineC nHull tDuos hullDom hullOut
theorem hullD_ok : hullD.Ok Tryd.prog ED := define_ok headHull (.inr (.inr (.inr (.inr rfl)))) (by decide) (by decide) (by decide) hull38_ok

theorem hullD_use {cs : List Con} (h : sumOf cs 9 = hullD.look) {n : Nat} {l : List (Int × Int)} {S : St} (hl : l.length ≤ 1000) (hb : Bnd l) :
    callS ED (sumOf cs) n (.fn 9) [.str nHull, (duosV l).enc] S = some (.ret (.tup [(nums (ofN (hullN l))).enc, .int .i64 0]), S) := by
  obtain ⟨f1, f2, f3⟩ := duos_facts l
  have hout : hullOut (duosV l) = some (ofN (hullN l)) := by simp [hullOut, edgesOf_duos]
  have hw : WordsE l := by
    intro e he
    have := hb e he
    unfold isWord
    omega
  have := define_use h (n := n) (S := S) (g := duosV l) ⟨l, rfl, hl, hb⟩ (duos_ty hw hl) ⟨by simpa using hl, f1⟩
    (by simp only [GV.nodes, duosV, f2]; omega) (by simp only [GV.deep, duosV]; omega) (fun zs hz => by rw [hout] at hz; cases hz; rw [ofN_len]; exact Nat.le_trans (corners_ok hb).le hl)
  rw [hout] at this
  exact this

theorem neq_bool {x y : Operand} {a b : Bool} : binA ED .neq 4 x y (.bool a) (.bool b) = some (.bool (a != b)) := by
  cases x <;> cases y <;> cases a <;> cases b <;> rfl

theorem flat_at0 {es : List (Int × Int)} {tk : Tk} {j : Nat} (h : j < es.length) {z : Int} (hz : z = ((2 * j : Nat) : Int)) : indexAddrA ED 22 (.slice (ints (flat es)) tk) (.int .i64 z) = some (.rptr [.int .i64 (es.getD j (0, 0)).1]) := by
  subst hz
  rw [index_ints (by omega) (by simp; omega)]
  have := flat_get0 h
  simp only [Int.toNat_natCast, this, List.getD_eq_getElem?_getD, List.getElem?_eq_getElem h, Option.getD_some]
theorem flat_at1 {es : List (Int × Int)} {tk : Tk} {j : Nat} (h : j < es.length) {z : Int} (hz : z = ((2 * j + 1 : Nat) : Int)) : indexAddrA ED 22 (.slice (ints (flat es)) tk) (.int .i64 z) = some (.rptr [.int .i64 (es.getD j (0, 0)).2]) := by
  subst hz
  rw [index_ints (by omega) (by simp; omega)]
  have := flat_get1 h
  simp only [Int.toNat_natCast, this, List.getD_eq_getElem?_getD, List.getElem?_eq_getElem h, Option.getD_some]

end Go.Proofs.YtjgigcaelcapdaaDoor

namespace Go.Proofs.YtjgigcaelcapdaaDoor
open Go Go.Vm Go.Vm.T
set_option maxRecDepth 100000
set_option linter.unusedSimpArgs false
set_option linter.unusedVariables false

set_option maxHeartbeats 4000000

/-! turn -/
structure TurnX where
  es : List (Int × Int)
  p : Nat
  q : Nat
  r : Nat
def turnPC : Con where
  f := 22
  X := TurnX
  dom x := x.es.length ≤ 1000 ∧ Bnd x.es ∧ x.p < x.es.length ∧ x.q < x.es.length ∧ x.r < x.es.length
  enc x := [.slice (ints (flat x.es)) .dead, .int .i64 x.p, .int .i64 x.q, .int .i64 x.r]
  res x := .ret (.int .i64 (rgt (x.es.getD x.p (0, 0)) (x.es.getD x.q (0, 0)) (x.es.getD x.r (0, 0))))

theorem wrap2 {p : Nat} (h : p < 1000) : IntKind.i64.wrap (2 * (p : Int)) = ((2 * p : Nat) : Int) := by
  rw [wrap_id (by omega) (by omega)]
  omega
theorem wrap21 {p : Nat} (h : p < 1000) : IntKind.i64.wrap (((2 * p : Nat) : Int) + 1) = ((2 * p + 1 : Nat) : Int) := by
  rw [wrap_id (by omega) (by omega)]
  omega
theorem getD_near {es : List (Int × Int)} (hb : Bnd es) {p : Nat} (h : p < es.length) : Near0 (es.getD p (0, 0)) := by
  simp only [List.getD_eq_getElem?_getD, List.getElem?_eq_getElem h, Option.getD_some]
  exact hb _ (List.getElem_mem h)

theorem turnP_ok : turnPC.Ok Tryd.prog ED := by
  refine Con.ok_at ED_ok ED_pers [] (by simp) (fun (x : TurnX) _ => ⟨by show AV.persL [.slice (ints (flat x.es)) .dead, .int .i64 x.p, .int .i64 x.q, .int .i64 x.r] = true; simp [AV.persL, AV.pers, ints_pers], rfl⟩) ?_
  rintro ⟨es, p, q, r⟩ ⟨hl, hb, h1, h2, h3⟩
  replace hl : es.length ≤ 1000 := hl
  replace hb : Bnd es := hb
  replace h1 : p < es.length := h1
  replace h2 : q < es.length := h2
  replace h3 : r < es.length := h3
  show ∃ n, ∀ P : FRes → St → Prop, (∀ r' S', r'.melt S' = .ret (.int .i64 (rgt (es.getD p (0, 0)) (es.getD q (0, 0)) (es.getD r (0, 0)))) → P r' S') → GotF (callS ED (sumOf []) n (.fn 22) [.slice (ints (flat es)) .dead, .int .i64 p, .int .i64 q, .int .i64 r] S0) P
  refine ⟨10, fun P hp => ?_⟩
  rw [callS_fn rfl]
  have d0 := @dr22_0
  simp only [drA, drawsOf, Option.getD_some, List.nil_append, List.append_nil, List.getD_cons_zero, List.getD_cons_succ, List.cons_append, Tryd.f22] at d0
  have p0 := flat_at0 (tk := .dead) h1 rfl
  have p1 := flat_at1 (tk := .dead) h1 rfl
  have q0 := flat_at0 (tk := .dead) h2 rfl
  have q1 := flat_at1 (tk := .dead) h2 rfl
  have r0 := flat_at0 (tk := .dead) h3 rfl
  have r1 := flat_at1 (tk := .dead) h3 rfl
  have wp := wrap2 (p := p) (by omega)
  have wq := wrap2 (p := q) (by omega)
  have wr := wrap2 (p := r) (by omega)
  have wp1 := wrap21 (p := p) (by omega)
  have wq1 := wrap21 (p := q) (by omega)
  have wr1 := wrap21 (p := r) (by omega)
  have np := getD_near hb h1
  have nq := getD_near hb h2
  have nr := getD_near hb h3
  generalize es.getD p (0, 0) = P0 at *
  generalize es.getD q (0, 0) = Q0 at *
  generalize es.getD r (0, 0) = R0 at *
  generalize AV.slice (ints (flat es)) .dead = A at *
  generalize 2 * p + 1 = pp1 at *
  generalize 2 * q + 1 = qq1 at *
  generalize 2 * r + 1 = rr1 at *
  generalize 2 * p = pp at *
  generalize 2 * q = qq at *
  generalize 2 * r = rr at *
  obtain ⟨a1, a2⟩ := P0
  obtain ⟨b1, b2⟩ := Q0
  obtain ⟨c1, c2⟩ := R0
  unfold Near0 at np nq nr
  simp only at np nq nr p0 p1 q0 q1 r0 r1
  have w1 : IntKind.i64.wrap (b1 - a1) = b1 - a1 := wrap_id (by omega) (by omega)
  have w2 : IntKind.i64.wrap (c2 - a2) = c2 - a2 := wrap_id (by omega) (by omega)
  have w3 : IntKind.i64.wrap (b2 - a2) = b2 - a2 := wrap_id (by omega) (by omega)
  have w4 : IntKind.i64.wrap (c1 - a1) = c1 - a1 := wrap_id (by omega) (by omega)
  have m1 := mul_bnd (a := b1 - a1) (b := c2 - a2) (by omega) (by omega)
  have m2 := mul_bnd (a := b2 - a2) (b := c1 - a1) (by omega) (by omega)
  have w5 : IntKind.i64.wrap ((b1 - a1) * (c2 - a2)) = (b1 - a1) * (c2 - a2) := wrap_id (by omega) (by omega)
  have w6 : IntKind.i64.wrap ((b2 - a2) * (c1 - a1)) = (b2 - a2) * (c1 - a1) := wrap_id (by omega) (by omega)
  have w7 : IntKind.i64.wrap ((b1 - a1) * (c2 - a2) - (b2 - a2) * (c1 - a1)) = (b1 - a1) * (c2 - a2) - (b2 - a2) * (c1 - a1) := wrap_id (by omega) (by omega)
  simp only [rgt] at hp
  simp only [fnA, ED_fn22, fi22, Tryd.f22]
  simp [evalC_seq, evalC_region, runA_cons', runA_consN, runA_consG, guardR_true, guardR_false, guardV_bool, guardV_tup, runA_nil', inFrame, startLoc, startVals, Loc.clear, eff_move, eff_assign, eff_binOp, eff_build, eff_buildSlice, eff_alloc, eff_box, eff_store, eff_load, eff_fieldAddr, eff_field, eff_indexAddr, eff_slice, eff_extract, eff_pick, eff_unOp, eff_convert, eff_makeSlice, eff_makeFunc, eff_makeInterface, eff_nilCheck, eff_panic, eff_len1, eff_max2, eff_min2, eff_append2, eff_callV, stepE_val, contR_ok, contR_pan, outC_ok, outC_pan, thenC_normal, thenC_ret, thenC_exit, thenC_pan, blockC, evalC_ret, evalC_skip, evalC_exit, evalC_block, evalC_scope, evalC_loop, Loc.putO, Loc.put, idx, evO, constV, Loc.get, Vm.look, valO_some, bin_int, intA, evalC_cond, condC_true, condC_false, unwindA, resultsA, resultV, actA, pureA, storeA, loadA, fillE, repElems, TI.zeroV, fieldOf, fieldAddrA, fieldA, elemsA, retE, cells?_put_push, push_at, put_at, cellsOf?, Nat.add_assoc, n_push', n_put', isCell_undef, known_undef, cells_undef, isCell_bool, known_bool, cells_bool, isCell_int, known_int, cells_int, isCell_str, known_str, cells_str, isCell_nilp, known_nilp, cells_nilp, isCell_ptr, known_ptr, cells_ptr, isCell_rptr, known_rptr, cells_rptr, isCell_nils, known_nils, cells_nils, isCell_slice, known_slice, cells_slice, isCell_rsl, known_rsl, cells_rsl, isCell_nilm, known_nilm, cells_nilm, isCell_map, known_map, cells_map, isCell_fn, known_fn, cells_fn, isCell_yld, known_yld, cells_yld, isCell_nilf, known_nilf, cells_nilf, isCell_iface, known_iface, cells_iface, isCell_nili, known_nili, cells_nili, isCell_agg, known_agg, cells_agg, isCell_tup, known_tup, cells_tup, setCells, nowhere, GotF_some, Got_some, int_beq, int_bne, runC_nil, runC_cons, pickC_some, wantC_tt, wantC_tf, effC_val, ifC_true, checkC, inPairs, keepC, okC, readsC_load, readV_some, AV.beq_self, wantA_n, wantA_g, wantD_some, d0, p0, p1, q0, q1, r0, r1, wp, wq, wr, wp1, wq1, wr1, w1, w2, w3, w4, w5, w6, w7]
  exact hp _ _ rfl

theorem turnP_use {cs : List Con} (h : sumOf cs 22 = turnPC.look) {n : Nat} {es : List (Int × Int)} {tk : Tk} {p q r : Nat} {S : St} (hl : es.length ≤ 1000) (hb : Bnd es) (h1 : p < es.length) (h2 : q < es.length) (h3 : r < es.length) :
    callS ED (sumOf cs) n (.fn 22) [.slice (ints (flat es)) tk, .int .i64 p, .int .i64 q, .int .i64 r] S = some (.ret (.int .i64 (rgt (es.getD p (0, 0)) (es.getD q (0, 0)) (es.getD r (0, 0)))), S) :=
  Con.use (c := turnPC) (fun (x y : TurnX) hx hy h => by
    obtain ⟨xe, xp, xq, xr⟩ := x
    obtain ⟨ye, yp, yq, yr⟩ := y
    have h' : [AV.slice (ints (flat xe)) .dead, .int .i64 xp, .int .i64 xq, .int .i64 xr] = [AV.slice (ints (flat ye)) .dead, .int .i64 yp, .int .i64 yq, .int .i64 yr] := h
    simp only [List.cons.injEq, AV.slice.injEq, AV.int.injEq, true_and, and_true] at h'
    obtain ⟨e1, e2, e3, e4⟩ := h'
    have e1 := flat_inj (ints_inj e1)
    obtain rfl : xp = yp := by omega
    obtain rfl : xq = yq := by omega
    obtain rfl : xr = yr := by omega
    subst e1
    rfl) h (⟨es, p, q, r⟩ : TurnX) ⟨hl, hb, h1, h2, h3⟩ (by simp [turnPC, AV.dead])

/-! order -/
def orderC : Con where
  f := 23
  X := Nat
  dom m := m ≤ 1000
  enc m := [.slice (ints (ofN (List.range m))) .dead, .int .i64 (m : Nat)]
  res _ := .ret (.bool true)

def seenL (m j : Nat) : List AV := List.replicate j (.bool true) ++ List.replicate (m - j) (.bool false)
theorem seenL_len {m j : Nat} (h : j ≤ m) : (seenL m j).length = m := by simp [seenL]; omega
theorem seenL_get {m j : Nat} (h : j < m) : (seenL m j)[j]? = some (.bool false) := by
  simp only [seenL]
  rw [List.getElem?_append_right (by simp)]
  simp [show 0 < m - j by omega]
theorem seenL_set {m j : Nat} (h : j < m) : (seenL m j).set j (.bool true) = seenL m (j + 1) := by
  apply List.ext_getElem
  · simp [seenL]; omega
  · intro i h1 h2
    simp only [seenL, List.getElem_set, List.getElem_append, List.length_replicate, List.getElem_replicate]
    by_cases a : j = i
    · rw [if_pos a, dif_pos (by omega)]
    · rw [if_neg a]
      by_cases b : i < j
      · rw [dif_pos b, dif_pos (by omega)]
      · rw [dif_neg b, dif_neg (by omega)]
theorem flat_repB (n : Nat) : repeatL n [AV.bool false] = List.replicate n (.bool false) := by
  unfold repeatL
  induction n with
  | zero => rfl
  | succ n ih => rw [List.replicate_succ, List.flatten_cons, ih]; rfl

theorem order_ok : orderC.Ok Tryd.prog ED := by
  refine Con.ok_at ED_ok ED_pers [liesC] (by simpa using lies_ok) (fun (m : Nat) _ => ⟨by show AV.persL [.slice (ints (ofN (List.range m))) .dead, .int .i64 (m : Nat)] = true; simp [AV.persL, AV.pers, ints_pers], rfl⟩) ?_
  intro (m : Nat) hm
  replace hm : m ≤ 1000 := hm
  show ∃ n, ∀ P : FRes → St → Prop, (∀ r' S', r'.melt S' = .ret (.bool true) → P r' S') → GotF (callS ED (sumOf [liesC]) n (.fn 23) [.slice (ints (ofN (List.range m))) .dead, .int .i64 m] S0) P
  refine ⟨1100, fun P hp => ?_⟩
  rw [callS_fn rfl]
  have uY := fun (n : Nat) (a b c : Int) (S : St) => lies_use (cs := [liesC]) rfl (n := n) (a := a) (b := b) (c := c) (S := S)
  have hlA : lenA ED 22 (.slice (ints (ofN (List.range m))) .dead) = some (.int .i64 m) := by rw [len_ints]; simp [ofN]
  have hix : ∀ j : Nat, j < m → indexAddrA ED 22 (.slice (ints (ofN (List.range m))) .dead) (.int .i64 (j : Nat)) = some (.rptr [.int .i64 (j : Nat)]) := by
    intro j hj
    rw [index_ints (by omega) (by simp [ofN]; exact hj)]
    simp [ofN]
  generalize AV.slice (ints (ofN (List.range m))) .dead = A at *
  have hroom : (m : Int) * 2 ≤ (roomMost : Nat) := by unfold roomMost; omega
  simp only [fnA, ED_fn23, fi23, Tryd.f23]
  simp [evalC_seq, evalC_region, runA_cons', runA_consN, runA_consG, guardR_true, guardR_false, guardV_bool, guardV_tup, runA_nil', inFrame, startLoc, startVals, Loc.clear, eff_move, eff_assign, eff_binOp, eff_build, eff_buildSlice, eff_alloc, eff_box, eff_store, eff_load, eff_fieldAddr, eff_field, eff_indexAddr, eff_slice, eff_extract, eff_pick, eff_unOp, eff_convert, eff_makeSlice, eff_makeFunc, eff_makeInterface, eff_nilCheck, eff_panic, eff_len1, eff_max2, eff_min2, eff_append2, eff_callV, stepE_val, contR_ok, contR_pan, outC_ok, outC_pan, thenC_normal, thenC_ret, thenC_exit, thenC_pan, blockC, evalC_ret, evalC_skip, evalC_exit, evalC_block, evalC_scope, evalC_loop, Loc.putO, Loc.put, idx, evO, constV, Loc.get, Vm.look, valO_some, bin_int, intA, evalC_cond, condC_true, condC_false, unwindA, resultsA, resultV, actA, pureA, storeA, loadA, fillE, repElems, TI.zeroV, fieldOf, fieldAddrA, fieldA, elemsA, retE, cells?_put_push, push_at, put_at, cellsOf?, Nat.add_assoc, n_push', n_put', isCell_undef, known_undef, cells_undef, isCell_bool, known_bool, cells_bool, isCell_int, known_int, cells_int, isCell_str, known_str, cells_str, isCell_nilp, known_nilp, cells_nilp, isCell_ptr, known_ptr, cells_ptr, isCell_rptr, known_rptr, cells_rptr, isCell_nils, known_nils, cells_nils, isCell_slice, known_slice, cells_slice, isCell_rsl, known_rsl, cells_rsl, isCell_nilm, known_nilm, cells_nilm, isCell_map, known_map, cells_map, isCell_fn, known_fn, cells_fn, isCell_yld, known_yld, cells_yld, isCell_nilf, known_nilf, cells_nilf, isCell_iface, known_iface, cells_iface, isCell_nili, known_nili, cells_nili, isCell_agg, known_agg, cells_agg, isCell_tup, known_tup, cells_tup, setCells, nowhere, GotF_some, Got_some, int_beq, int_bne, hlA, hroom, flat_repB]
  have hi60 : ∀ j : Nat, j < m → indexAddrA ED 60 (.rsl 0 0 m m) (.int .i64 (j : Nat)) = some (.ptr 0 j) := by
    intro j hj
    simp [indexAddrA, hj]
  generalize hc : iter _ _ _ _ = c
  obtain ⟨e1, L1, S1, rfl, hq⟩ := loop_of hc
    (fun r L S => ∃ j sc, j + r = m ∧ L = vloc [A, .int .i64 m, .bool false, .rsl 0 0 m m, .int .i64 (j : Nat)] sc ∧ S.cells? 0 = some (seenL m j))
    (fun e L S => e = .exit 0 ∧ ∃ a sc, L = vloc [A, .int .i64 m, .bool false, .rsl 0 0 m m, a] sc)
    m (by omega)
    (by
      refine ⟨0, _, by simp, rfl, ?_⟩
      simp [push_at, put_at, n_push', n_put', cellsOf?, seenL])
    (by
      rintro r L S ⟨j, sc, hjk, rfl, h0⟩ q hq1 hq2
      by_cases hj : j < m
      · have hw : IntKind.i64.wrap ((j : Int) + 1) = ((j : Int) + 1) := wrap_id (by omega) (by omega)
        have hwm : IntKind.i64.wrap ((m : Int) - 1) = ((m : Int) - 1) := wrap_id (by omega) (by omega)
        have x1 := hix j hj
        have x2 := hi60 j hj
        have x3 := seenL_get hj
        have x4 := seenL_set hj
        have x5 := seenL_len (show j ≤ m by omega)
        have x6 : j + 1 ≤ m := hj
        have x7 : (j : Int) ≤ (m : Int) - 1 := by omega
        have h1 := cells_put_self (ds := seenL m (j + 1)) h0
        generalize seenL m j = sl at *
        generalize hsl' : seenL m (j + 1) = sl' at *
        have x8 : ∀ h : j < sl.length, sl[j]'h = .bool false := fun h => by rw [List.getElem?_eq_getElem h] at x3; simpa using x3
        simp [evalC_seq, evalC_region, runA_cons', runA_consN, runA_consG, guardR_true, guardR_false, guardV_bool, guardV_tup, runA_nil', inFrame, startLoc, startVals, Loc.clear, eff_move, eff_assign, eff_binOp, eff_build, eff_buildSlice, eff_alloc, eff_box, eff_store, eff_load, eff_fieldAddr, eff_field, eff_indexAddr, eff_slice, eff_extract, eff_pick, eff_unOp, eff_convert, eff_makeSlice, eff_makeFunc, eff_makeInterface, eff_nilCheck, eff_panic, eff_len1, eff_max2, eff_min2, eff_append2, eff_callV, stepE_val, contR_ok, contR_pan, outC_ok, outC_pan, thenC_normal, thenC_ret, thenC_exit, thenC_pan, blockC, evalC_ret, evalC_skip, evalC_exit, evalC_block, evalC_scope, evalC_loop, Loc.putO, Loc.put, idx, evO, constV, Loc.get, Vm.look, valO_some, bin_int, intA, evalC_cond, condC_true, condC_false, unwindA, resultsA, resultV, actA, pureA, storeA, loadA, fillE, repElems, TI.zeroV, fieldOf, fieldAddrA, fieldA, elemsA, retE, cells?_put_push, push_at, put_at, cellsOf?, Nat.add_assoc, n_push', n_put', isCell_undef, known_undef, cells_undef, isCell_bool, known_bool, cells_bool, isCell_int, known_int, cells_int, isCell_str, known_str, cells_str, isCell_nilp, known_nilp, cells_nilp, isCell_ptr, known_ptr, cells_ptr, isCell_rptr, known_rptr, cells_rptr, isCell_nils, known_nils, cells_nils, isCell_slice, known_slice, cells_slice, isCell_rsl, known_rsl, cells_rsl, isCell_nilm, known_nilm, cells_nilm, isCell_map, known_map, cells_map, isCell_fn, known_fn, cells_fn, isCell_yld, known_yld, cells_yld, isCell_nilf, known_nilf, cells_nilf, isCell_iface, known_iface, cells_iface, isCell_nili, known_nili, cells_nili, isCell_agg, known_agg, cells_agg, isCell_tup, known_tup, cells_tup, setCells, nowhere, GotF_some, Got_some, int_beq, int_bne, vloc, hlA, hj, x1, x2, x3, x4, x5, x6, x7, x8, uY, unA, h0, hw, hwm]
        exact hq1 (r - 1) _ _ (by omega) ⟨j + 1, _, by omega, rfl, by rw [hsl']; exact h1⟩
      · have hjl : j = m := by omega
        subst hjl
        simp [evalC_seq, evalC_region, runA_cons', runA_consN, runA_consG, guardR_true, guardR_false, guardV_bool, guardV_tup, runA_nil', inFrame, startLoc, startVals, Loc.clear, eff_move, eff_assign, eff_binOp, eff_build, eff_buildSlice, eff_alloc, eff_box, eff_store, eff_load, eff_fieldAddr, eff_field, eff_indexAddr, eff_slice, eff_extract, eff_pick, eff_unOp, eff_convert, eff_makeSlice, eff_makeFunc, eff_makeInterface, eff_nilCheck, eff_panic, eff_len1, eff_max2, eff_min2, eff_append2, eff_callV, stepE_val, contR_ok, contR_pan, outC_ok, outC_pan, thenC_normal, thenC_ret, thenC_exit, thenC_pan, blockC, evalC_ret, evalC_skip, evalC_exit, evalC_block, evalC_scope, evalC_loop, Loc.putO, Loc.put, idx, evO, constV, Loc.get, Vm.look, valO_some, bin_int, intA, evalC_cond, condC_true, condC_false, unwindA, resultsA, resultV, actA, pureA, storeA, loadA, fillE, repElems, TI.zeroV, fieldOf, fieldAddrA, fieldA, elemsA, retE, cells?_put_push, push_at, put_at, cellsOf?, Nat.add_assoc, n_push', n_put', isCell_undef, known_undef, cells_undef, isCell_bool, known_bool, cells_bool, isCell_int, known_int, cells_int, isCell_str, known_str, cells_str, isCell_nilp, known_nilp, cells_nilp, isCell_ptr, known_ptr, cells_ptr, isCell_rptr, known_rptr, cells_rptr, isCell_nils, known_nils, cells_nils, isCell_slice, known_slice, cells_slice, isCell_rsl, known_rsl, cells_rsl, isCell_nilm, known_nilm, cells_nilm, isCell_map, known_map, cells_map, isCell_fn, known_fn, cells_fn, isCell_yld, known_yld, cells_yld, isCell_nilf, known_nilf, cells_nilf, isCell_iface, known_iface, cells_iface, isCell_nili, known_nili, cells_nili, isCell_agg, known_agg, cells_agg, isCell_tup, known_tup, cells_tup, setCells, nowhere, GotF_some, Got_some, int_beq, int_bne, vloc, hlA]
        exact hq2 _ _ _ (by simp) ⟨rfl, _, _, rfl⟩)
  obtain ⟨rfl, a, sc, rfl⟩ := hq
  simp [evalC_seq, evalC_region, runA_cons', runA_consN, runA_consG, guardR_true, guardR_false, guardV_bool, guardV_tup, runA_nil', inFrame, startLoc, startVals, Loc.clear, eff_move, eff_assign, eff_binOp, eff_build, eff_buildSlice, eff_alloc, eff_box, eff_store, eff_load, eff_fieldAddr, eff_field, eff_indexAddr, eff_slice, eff_extract, eff_pick, eff_unOp, eff_convert, eff_makeSlice, eff_makeFunc, eff_makeInterface, eff_nilCheck, eff_panic, eff_len1, eff_max2, eff_min2, eff_append2, eff_callV, stepE_val, contR_ok, contR_pan, outC_ok, outC_pan, thenC_normal, thenC_ret, thenC_exit, thenC_pan, blockC, evalC_ret, evalC_skip, evalC_exit, evalC_block, evalC_scope, evalC_loop, Loc.putO, Loc.put, idx, evO, constV, Loc.get, Vm.look, valO_some, bin_int, intA, evalC_cond, condC_true, condC_false, unwindA, resultsA, resultV, actA, pureA, storeA, loadA, fillE, repElems, TI.zeroV, fieldOf, fieldAddrA, fieldA, elemsA, retE, cells?_put_push, push_at, put_at, cellsOf?, Nat.add_assoc, n_push', n_put', isCell_undef, known_undef, cells_undef, isCell_bool, known_bool, cells_bool, isCell_int, known_int, cells_int, isCell_str, known_str, cells_str, isCell_nilp, known_nilp, cells_nilp, isCell_ptr, known_ptr, cells_ptr, isCell_rptr, known_rptr, cells_rptr, isCell_nils, known_nils, cells_nils, isCell_slice, known_slice, cells_slice, isCell_rsl, known_rsl, cells_rsl, isCell_nilm, known_nilm, cells_nilm, isCell_map, known_map, cells_map, isCell_fn, known_fn, cells_fn, isCell_yld, known_yld, cells_yld, isCell_nilf, known_nilf, cells_nilf, isCell_iface, known_iface, cells_iface, isCell_nili, known_nili, cells_nili, isCell_agg, known_agg, cells_agg, isCell_tup, known_tup, cells_tup, setCells, nowhere, GotF_some, Got_some, int_beq, int_bne, vloc]
  exact hp _ _ rfl

theorem order_use {cs : List Con} (h : sumOf cs 23 = orderC.look) {n : Nat} {m : Nat} {S : St} (hm : m ≤ 1000) :
    callS ED (sumOf cs) n (.fn 23) [.slice (ints (ofN (List.range m))) .dead, .int .i64 (m : Nat)] S = some (.ret (.bool true), S) :=
  Con.use (c := orderC) (fun (x y : Nat) hx hy h => rfl) h (m : Nat) hm (by simp [orderC, AV.dead])

end Go.Proofs.YtjgigcaelcapdaaDoor
