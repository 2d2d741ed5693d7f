/-
What Define returns, from what a program's own function returns. No conditions.
-/
import Derived.Test.YtjgigcaelcapdaaDoorValB
set_option linter.all false

namespace Go.Proofs.YtjgigcaelcapdaaDoor
open Go Go.Vm Go.Vm.T
set_option maxRecDepth 100000
set_option linter.unusedSimpArgs false
set_option linter.unusedVariables false

/-- types as they are built -/
def Ty.parts : Ty → List AV
  | .num => [.int .i64 1, .int .i64 0, .nils]
  | .pair a b => [.int .i64 2, .int .i64 0, .slice [.agg a.parts, .agg b.parts] .full]
  | .seq a => [.int .i64 4, .int .i64 0, .slice [.agg a.parts] .full]

theorem Ty.parts_dead : ∀ t : Ty, (AV.agg t.parts).dead = t.enc
  | .num => rfl
  | .pair a b => by
    have h1 := Ty.parts_dead a
    have h2 := Ty.parts_dead b
    simp only [AV.dead] at h1 h2
    simp [Ty.parts, Ty.enc, AV.dead, AV.deadL, h1, h2]
  | .seq a => by
    have h1 := Ty.parts_dead a
    simp only [AV.dead] at h1
    simp [Ty.parts, Ty.enc, AV.dead, AV.deadL, h1]

theorem Ty.parts_shape (t : Ty) : ∃ k x, t.parts = [.int .i64 k, .int .i64 0, x] ∧ x.isCell = true := by
  cases t <;> exact ⟨_, _, rfl, rfl⟩

def S3 (k z : Int) (x : AV) : St := ((S0.push (.cells [.int .i64 k, .int .i64 z, x])).push (.cells [.int .i64 0, .int .i64 0, .nils])).push (.cells [.int .i64 0])

def rest (t : Ty) (f : FuncId) : List AV := t.parts ++ (Ty.seq .num).parts ++ [.fn f [] []]

def viewP : AV → List AV × Bool
  | .tup [.agg (t :: cs), .bool b] => (cs, b && t.isCell)
  | _ => ([], false)

/-- what a program's row is -/
def Head (nm : List UInt8) (t : Ty) (f : FuncId) : Prop :=
  ∀ (X : Type) (dom : X → Prop) (enc : X → List AV) (res : X → FRes) (k z : Int) (x : AV),
    (callS ED (sumOf [checkC', ⟨f, X, dom, enc, res⟩]) 1002 (.fn 24) [] (S3 k z x)).map (fun q => (q.1, q.2.n, q.2.cells? 0, q.2.cells? 1, q.2.cells? 2, (lookupA ED q.2 51 (.map 3) (.str nm) true).map viewP)) =
      some (.ret (.map 3), 114, some [.int .i64 k, .int .i64 z, x], some [.int .i64 0, .int .i64 0, .nils], some [.int .i64 0], some (rest t f, true))

def nComps : List UInt8 := [99, 111, 109, 112, 115]
def nDist : List UInt8 := [100, 105, 115, 116]
def nLevel : List UInt8 := [108, 101, 118, 101, 108]
def nSpmv : List UInt8 := [115, 112, 109, 118]
def nWalk : List UInt8 := [119, 97, 108, 107]
def nHull : List UInt8 := [104, 117, 108, 108]

theorem headComps : Head nComps tComps 32 := fun X dom enc res k z x => by kernel_rfl
theorem headDist : Head nDist tDist 33 := fun X dom enc res k z x => by kernel_rfl
theorem headLevel : Head nLevel tComps 34 := fun X dom enc res k z x => by kernel_rfl
theorem headSpmv : Head nSpmv tSpmv 36 := fun X dom enc res k z x => by kernel_rfl
theorem headWalk : Head nWalk tWalk 37 := fun X dom enc res k z x => by kernel_rfl
theorem headHull : Head nHull tDuos 38 := fun X dom enc res k z x => by kernel_rfl

theorem Head.use {nm : List UInt8} {t : Ty} {f : FuncId} (h : Head nm t f) (c : Con) (hc : c.f = f) (k z : Int) (x : AV) :
    ∃ S4 tx, callS ED (sumOf [checkC', c]) 1002 (.fn 24) [] (S3 k z x) = some (.ret (.map 3), S4) ∧ S4.n = 114 ∧ S4.cells? 0 = some [.int .i64 k, .int .i64 z, x] ∧ S4.cells? 1 = some [.int .i64 0, .int .i64 0, .nils] ∧
      S4.cells? 2 = some [.int .i64 0] ∧ lookupA ED S4 51 (.map 3) (.str nm) true = some (.tup [.agg (tx :: rest t f), .bool true]) ∧ tx.isCell = true := by
  obtain ⟨cf, X, dom, enc, res⟩ := c
  simp only at hc
  subst hc
  have h' := h X dom enc res k z x
  cases hq : callS ED (sumOf [checkC', ⟨cf, X, dom, enc, res⟩]) 1002 (.fn 24) [] (S3 k z x) with
  | none => rw [hq] at h'; cases h'
  | some q =>
    obtain ⟨r, S4⟩ := q
    rw [hq] at h'
    simp only [Option.map_some, Option.some.injEq, Prod.mk.injEq] at h'
    obtain ⟨rfl, h1, h2, h3, h4, h5⟩ := h'
    cases hl : lookupA ED S4 51 (.map 3) (.str nm) true with
    | none => rw [hl] at h5; cases h5
    | some v =>
      rw [hl] at h5
      simp only [Option.map_some, Option.some.injEq] at h5
      unfold viewP at h5
      split at h5
      · simp only [Prod.mk.injEq] at h5
        obtain ⟨rfl, hb⟩ := h5
        simp only [Bool.and_eq_true] at hb
        obtain ⟨rfl, hb⟩ := hb
        exact ⟨S4, _, rfl, h1, h2, h3, h4, hl, hb⟩
      · simp at h5

end Go.Proofs.YtjgigcaelcapdaaDoor

namespace Go.Proofs.YtjgigcaelcapdaaDoor
open Go Go.Vm Go.Vm.T
set_option maxRecDepth 100000
set_option linter.unusedSimpArgs false
set_option linter.unusedVariables false

def lstI (zs : List Int) : AV := lst (ints zs)

theorem lstI_dead (zs : List Int) : (lstI zs).dead = lstI zs := by
  have := ints_dead zs
  unfold lstI
  cases h : ints zs with
  | nil => rfl
  | cons a r => rw [h] at this; simp only [lst, AV.dead]; rw [this]
theorem lstI_pers (zs : List Int) : (lstI zs).pers = true := by
  have := ints_pers zs
  unfold lstI
  cases h : ints zs with
  | nil => rfl
  | cons a r => rw [h] at this; simp only [lst, AV.pers, this]; rfl
theorem lstI_D (zs : List Int) : IntsD (lstI zs) zs := by
  unfold lstI
  cases zs with
  | nil => exact .inl ⟨rfl, rfl⟩
  | cons a r => exact .inr rfl

theorem IntsD.len {v : AV} {zs : List Int} (h : IntsD v zs) : lenA ED 22 v = some (.int .i64 zs.length) := by
  rcases h with ⟨rfl, rfl⟩ | rfl
  · rfl
  · simp [lenA]
theorem IntsD.index {v : AV} {zs : List Int} (h : IntsD v zs) {j : Nat} (hj : j < zs.length) : indexAddrA ED 22 v (.int .i64 j) = some (.rptr [.int .i64 zs[j]]) := by
  rcases h with ⟨rfl, rfl⟩ | rfl
  · simp at hj
  · simp [indexAddrA, hj, cells_int]

def trapV : AV := .iface 55 (.agg [])

def valueC (f : FuncId) (dom : GV → Prop) (out : GV → Option (List Int)) : Con where
  f := f
  X := GV
  dom := dom
  enc g := [g.enc]
  res g := match out g with
    | some zs => .ret (lstI zs)
    | none => .pan trapV

def errV : AV := .agg [.int .i64 0, .int .i64 0, .nils]

def defineC (nm : List UInt8) (t : Ty) (dom : GV → Prop) (out : GV → Option (List Int)) : Con where
  f := 9
  X := GV
  dom g := dom g ∧ HasTy t g ∧ g.slim ∧ g.nodes ≤ 20000 ∧ g.deep < 20 ∧ ∀ zs, out g = some zs → zs.length ≤ 1000
  enc g := [.str nm, g.enc]
  res g := match out g with
    | some zs => .ret (.tup [(nums zs).enc, .int .i64 0])
    | none => .ret (.tup [errV, .int .i64 14])

theorem eff_lookup {E : Env} {call : CallF} {ρ : Operand → AV} {S : St} {t : TypeId} {x k : Operand} {ok : Bool} : effA E call ρ (.lookup t x k ok) S = valO S (lookupA E S t (ρ x) (ρ k) ok) := by
  simp only [effA, opK, readA]
  cases lookupA E S t (ρ x) (ρ k) ok <;> rfl

theorem eff_typeAssert {E : Env} {call : CallF} {ρ : Operand → AV} {S : St} {x : Operand} {t a : TypeId} {ok : Bool} : effA E call ρ (.typeAssert x t a ok) S = valO S (assertA E (ρ x) a ok) := eff_pure rfl

theorem stepE_pan {vars : List Tmp} {dst : Option Tmp} {L : Vm.Loc} {S S' : St} {v : AV} : stepE vars dst L S (some (.pan v S')) = some (.pan v L S') := rfl

theorem df26_pan {call : CallF} {it : (Vm.Loc → St → CRes) → Vm.Loc → St → CRes} {S : St} {a : AV} (h1 : S.cells? 1 = some [.int .i64 0, .int .i64 0, .nils]) (h2 : S.cells? 2 = some [a]) :
    ∃ S', dfA ED call it 26 [.ptr 1 0, .ptr 2 0] (.pan trapV) S = some (.done, S') ∧ S'.cells? 1 = some [.int .i64 0, .int .i64 0, .nils] ∧ S'.cells? 2 = some [.int .i64 14] := by
  have hlt := St.get_lt (cells?_inv h2)
  have has1 : assertA ED (.iface 55 (.agg [])) 55 true = some (.tup [.agg [], .bool true]) := rfl
  have hb : buildA ED 26 [] = some (.agg [.int .i64 0, .int .i64 0, .nils]) := rfl
  have p1 := cells_push (o := .cells []) h1
  have p2 := cells_push (o := .cells []) h2
  simp only [dfA, ED_fn26, fi26, Tryd.f26]
  have q1 := cells_put_self (ds := [.int .i64 0, .int .i64 0, .nils]) (cells_box (o := .cells []) (o' := .cells []) h1)
  have q2 := cells_put (o := .cells [.int .i64 0, .int .i64 0, .nils]) (cells_box (o := .cells []) (o' := .cells []) h1) (cells_box (o := .cells []) (o' := .cells []) h2) (by decide)
  have b1 := cells_box (o := .cells []) (o' := .cells []) h1
  have b2 := cells_box (o := .cells []) (o' := .cells []) h2
  have b0 : (S.push (.cells [])).cells? S.n = some [] := cells?_push_self _ _
  simp [evalC_seq, evalC_region, runA_cons', runA_consN, runA_consG, guardR_true, guardR_false, guardV_bool, guardV_tup, runA_nil', inFrame, startLoc, startVals, Loc.clear, eff_move, eff_assign, eff_binOp, eff_build, eff_buildSlice, eff_alloc, eff_box, eff_store, eff_load, eff_fieldAddr, eff_field, eff_indexAddr, eff_slice, eff_extract, eff_pick, eff_unOp, eff_convert, eff_makeSlice, eff_makeFunc, eff_makeInterface, eff_nilCheck, eff_panic, eff_len1, eff_max2, eff_min2, eff_append2, eff_callV, stepE_val, contR_ok, contR_pan, outC_ok, outC_pan, thenC_normal, thenC_ret, thenC_exit, thenC_pan, blockC, evalC_ret, evalC_skip, evalC_exit, evalC_block, evalC_scope, evalC_loop, Loc.putO, Loc.put, idx, evO, constV, Loc.get, Vm.look, valO_some, bin_int, intA, evalC_cond, condC_true, condC_false, unwindA, resultsA, resultV, actA, pureA, storeA, loadA, fillE, repElems, TI.zeroV, fieldOf, fieldAddrA, fieldA, elemsA, retE, cells?_put_push, push_at, put_at, cellsOf?, Nat.add_assoc, n_push', n_put', isCell_undef, known_undef, cells_undef, isCell_bool, known_bool, cells_bool, isCell_int, known_int, cells_int, isCell_str, known_str, cells_str, isCell_nilp, known_nilp, cells_nilp, isCell_ptr, known_ptr, cells_ptr, isCell_rptr, known_rptr, cells_rptr, isCell_nils, known_nils, cells_nils, isCell_slice, known_slice, cells_slice, isCell_rsl, known_rsl, cells_rsl, isCell_nilm, known_nilm, cells_nilm, isCell_map, known_map, cells_map, isCell_fn, known_fn, cells_fn, isCell_yld, known_yld, cells_yld, isCell_nilf, known_nilf, cells_nilf, isCell_iface, known_iface, cells_iface, isCell_nili, known_nili, cells_nili, isCell_agg, known_agg, cells_agg, isCell_tup, known_tup, cells_tup, setCells, nowhere, GotF_some, Got_some, int_beq, int_bne, eff_recover, stepE_rcv_pan, eq_nili, eq_trap, trapV, eff_typeAssert, has1, hb, b0, b1, b2, q1, q2]
  exact ⟨cells_put q2 q1 (by decide), cells_put_self q2⟩

def dloc (vals : List AV) (sc : List (Tmp × AV)) : Vm.Loc := { vals := vals, sc := sc, defers := [.call 26 [.ptr 1 0, .ptr 2 0]], recs := .no, rnd := none }

theorem define_ok {nm : List UInt8} {t : Ty} {f : FuncId} {dom : GV → Prop} {out : GV → Option (List Int)} (hh : Head nm t f) (ht : t = tComps ∨ t = tDist ∨ t = tSpmv ∨ t = tWalk ∨ t = tDuos) (hf9 : f ≠ 9) (hf25 : f ≠ 25) (hf24 : f ≠ 24)
    (hv : (valueC f dom out).Ok Tryd.prog ED) : (defineC nm t dom out).Ok Tryd.prog ED := by
  refine Con.ok_at ED_ok ED_pers [checkC', valueC f dom out] (by simpa using ⟨check_ok, hv⟩) (fun (g : GV) _ => ⟨by show AV.persL [.str nm, g.enc] = true; simp [AV.persL, AV.pers, GV.pers], ?_⟩) ?_
  · simp only [defineC]
    cases out g with
    | none => rfl
    | some zs => simp [FRes.pers, AV.pers, AV.persL, GV.pers]
  intro (g : GV) hg
  obtain ⟨hd, hty, h1, h2, h3, h4⟩ := hg
  have hl9 : sumOf [checkC', valueC f dom out] 9 = fun _ => none := by
    funext a
    simp [sumOf, checkC', valueC, hf9]
  have hlf : sumOf [checkC', valueC f dom out] (valueC f dom out).f = (valueC f dom out).look := by
    funext a
    simp [sumOf, checkC', valueC, Ne.symm hf25]
  have hval := fun (n : Nat) (S : St) => Con.use (E := ED) (c := valueC f dom out) (fun (x y : GV) _ _ h => by
    have h' : [x.enc] = [y.enc] := h
    simp only [List.cons.injEq, and_true] at h'
    rw [GV.enc_inj h']) hlf (n := n) (args := [g.enc]) (S := S) (g : GV) hd (by show [(GV.enc g).dead] = [GV.enc g]; rw [GV.enc_dead])
  replace hval : ∀ (n : Nat) (S : St), callS ED (sumOf [checkC', valueC f dom out]) n (.fn f) [g.enc] S = some (match out g with | some zs => .ret (lstI zs) | none => .pan trapV, S) := hval
  have hchk : ∀ (n : Nat) (S : St), callS ED (sumOf [checkC', valueC f dom out]) n (.fn 25) [g.enc, .agg t.parts] S = some (.ret (.int .i64 0), S) := fun n S =>
    Con.use (c := checkC') (cs := [checkC', valueC f dom out]) (fun _ _ _ _ _ => rfl) rfl ⟨t, g⟩ ⟨ht, hty, h1, h2, h3⟩ (by show [g.enc.dead, (AV.agg t.parts).dead] = [g.enc, t.enc]; simp [Ty.parts_dead])
  obtain ⟨k, z, e⟩ := g.look
  have hlk := gv_lst (l := g.kids)
  obtain ⟨tk, tx', te, tc⟩ := t.parts_shape
  show ∃ n, ∀ p : FRes → St → Prop, (∀ r S', r.melt S' = (match out g with | some zs => .ret (.tup [(nums zs).enc, .int .i64 0]) | none => .ret (.tup [errV, .int .i64 14])) → p r S') → GotF (callS ED (sumOf [checkC', valueC f dom out]) n (.fn 9) [.str nm, g.enc] S0) p
  obtain ⟨S4, tx, hc4, hn4, hx0, hx1, hx2, hlook, htx⟩ := hh.use (valueC f dom out) rfl k z (lst (GV.encs g.kids))
  refine ⟨1003, fun p hp => ?_⟩
  rw [callS_fn hl9]
  rw [e] at hval hchk ⊢
  simp only [rest, te, Ty.parts, List.cons_append, List.nil_append] at hlook
  rw [te] at hchk
  simp only [S3] at hc4
  generalize lst (GV.encs g.kids) = x at *
  have hb8 : buildA ED 26 [(0, AV.int IntKind.i64 4)] = some (.agg [.int .i64 4, .int .i64 0, .nils]) := rfl
  simp only [fnA, ED_fn9, fi9, Tryd.f9]
  cases hout : out g with
  | none =>
    simp only [hout] at hval hp
    simp [evalC_seq, evalC_region, runA_cons', runA_consN, runA_consG, guardR_true, guardR_false, guardV_bool, guardV_tup, runA_nil', inFrame, startLoc, startVals, Loc.clear, eff_move, eff_assign, eff_binOp, eff_build, eff_buildSlice, eff_alloc, eff_box, eff_store, eff_load, eff_fieldAddr, eff_field, eff_indexAddr, eff_slice, eff_extract, eff_pick, eff_unOp, eff_convert, eff_makeSlice, eff_makeFunc, eff_makeInterface, eff_nilCheck, eff_panic, eff_len1, eff_max2, eff_min2, eff_append2, eff_callV, stepE_val, contR_ok, contR_pan, outC_ok, outC_pan, thenC_normal, thenC_ret, thenC_exit, thenC_pan, blockC, evalC_ret, evalC_skip, evalC_exit, evalC_block, evalC_scope, evalC_loop, Loc.putO, Loc.put, idx, evO, constV, Loc.get, Vm.look, valO_some, bin_int, intA, evalC_cond, condC_true, condC_false, unwindA, resultsA, resultV, actA, pureA, storeA, loadA, fillE, repElems, TI.zeroV, fieldOf, fieldAddrA, fieldA, elemsA, retE, cells?_put_push, push_at, put_at, cellsOf?, Nat.add_assoc, n_push', n_put', isCell_undef, known_undef, cells_undef, isCell_bool, known_bool, cells_bool, isCell_int, known_int, cells_int, isCell_str, known_str, cells_str, isCell_nilp, known_nilp, cells_nilp, isCell_ptr, known_ptr, cells_ptr, isCell_rptr, known_rptr, cells_rptr, isCell_nils, known_nils, cells_nils, isCell_slice, known_slice, cells_slice, isCell_rsl, known_rsl, cells_rsl, isCell_nilm, known_nilm, cells_nilm, isCell_map, known_map, cells_map, isCell_fn, known_fn, cells_fn, isCell_yld, known_yld, cells_yld, isCell_nilf, known_nilf, cells_nilf, isCell_iface, known_iface, cells_iface, isCell_nili, known_nili, cells_nili, isCell_agg, known_agg, cells_agg, isCell_tup, known_tup, cells_tup, setCells, nowhere, GotF_some, Got_some, int_beq, int_bne, lenA, indexAddrA, hlk, hc4, eff_lookup, hlook, hn4, hx0, hx1, hx2, unA, hchk, eff_defer, stepE_dfr, htx, tc, Ty.parts, hb8, hval, stepE_pan]
    obtain ⟨S', hdf, hy1, hy2⟩ := df26_pan (call := callS ED (sumOf [checkC', valueC f dom out]) 1002) (it := iter 1002)
      (S := (((S4.push (.cells [.str [], .int .i64 0, .int .i64 0, .nils, .int .i64 0, .int .i64 0, .nils, .nilf])).put 114 (.cells [tx, .int .i64 tk, .int .i64 0, tx', .int .i64 4, .int .i64 0, .slice [.agg [.int .i64 1, .int .i64 0, .nils]] .full, .fn f [] []])).push (.cells [.int .i64 0, .int .i64 0, .nils])).put 115 (.cells [.int .i64 4, .int .i64 0, .nils]))
      (by simp [push_at, put_at, n_push', n_put', cellsOf?, hn4, hx1]) (by simp [push_at, put_at, n_push', n_put', cellsOf?, hn4, hx2]; rfl)
    simp [hdf, hy1, hy2]
    exact hp _ _ rfl
  | some zs =>
    simp only [hout] at hval hp
    have hlen := h4 zs hout
    have hD := lstI_D zs
    have hll := hD.len
    simp [evalC_seq, evalC_region, runA_cons', runA_consN, runA_consG, guardR_true, guardR_false, guardV_bool, guardV_tup, runA_nil', inFrame, startLoc, startVals, Loc.clear, eff_move, eff_assign, eff_binOp, eff_build, eff_buildSlice, eff_alloc, eff_box, eff_store, eff_load, eff_fieldAddr, eff_field, eff_indexAddr, eff_slice, eff_extract, eff_pick, eff_unOp, eff_convert, eff_makeSlice, eff_makeFunc, eff_makeInterface, eff_nilCheck, eff_panic, eff_len1, eff_max2, eff_min2, eff_append2, eff_callV, stepE_val, contR_ok, contR_pan, outC_ok, outC_pan, thenC_normal, thenC_ret, thenC_exit, thenC_pan, blockC, evalC_ret, evalC_skip, evalC_exit, evalC_block, evalC_scope, evalC_loop, Loc.putO, Loc.put, idx, evO, constV, Loc.get, Vm.look, valO_some, bin_int, intA, evalC_cond, condC_true, condC_false, unwindA, resultsA, resultV, actA, pureA, storeA, loadA, fillE, repElems, TI.zeroV, fieldOf, fieldAddrA, fieldA, elemsA, retE, cells?_put_push, push_at, put_at, cellsOf?, Nat.add_assoc, n_push', n_put', isCell_undef, known_undef, cells_undef, isCell_bool, known_bool, cells_bool, isCell_int, known_int, cells_int, isCell_str, known_str, cells_str, isCell_nilp, known_nilp, cells_nilp, isCell_ptr, known_ptr, cells_ptr, isCell_rptr, known_rptr, cells_rptr, isCell_nils, known_nils, cells_nils, isCell_slice, known_slice, cells_slice, isCell_rsl, known_rsl, cells_rsl, isCell_nilm, known_nilm, cells_nilm, isCell_map, known_map, cells_map, isCell_fn, known_fn, cells_fn, isCell_yld, known_yld, cells_yld, isCell_nilf, known_nilf, cells_nilf, isCell_iface, known_iface, cells_iface, isCell_nili, known_nili, cells_nili, isCell_agg, known_agg, cells_agg, isCell_tup, known_tup, cells_tup, setCells, nowhere, GotF_some, Got_some, int_beq, int_bne, hlk, hc4, eff_lookup, hlook, hn4, hx0, hx1, hx2, unA, hchk, eff_defer, stepE_dfr, htx, tc, Ty.parts, hb8, hval, hll]
    generalize hc : iter _ _ _ _ = c
    obtain ⟨e, L', S', rfl, hq⟩ := loop_of hc
      (fun r L S => ∃ j sc a10 v T, j + r = zs.length ∧ L = dloc [.str nm, .agg [.int .i64 k, .int .i64 z, x], .ptr 0 0, .ptr 1 0, .ptr 2 0, .ptr 114 0, .bool true, .ptr 115 0, a10, lstI zs, .int .i64 zs.length, .int .i64 (j : Nat)] sc ∧
        S.cells? 1 = some [.int .i64 0, .int .i64 0, .nils] ∧ S.cells? 2 = some [.int .i64 0] ∧ S.cells? 115 = some [.int .i64 4, .int .i64 0, v] ∧ Lv S v ((zs.take j).map .num) T)
      (fun e L S => e = .exit 0 ∧ ∃ sc a10 v T i, L = dloc [.str nm, .agg [.int .i64 k, .int .i64 z, x], .ptr 0 0, .ptr 1 0, .ptr 2 0, .ptr 114 0, .bool true, .ptr 115 0, a10, lstI zs, .int .i64 zs.length, i] sc ∧
        S.cells? 1 = some [.int .i64 0, .int .i64 0, .nils] ∧ S.cells? 2 = some [.int .i64 0] ∧ S.cells? 115 = some [.int .i64 4, .int .i64 0, v] ∧ Lv S v (zs.map .num) T)
      zs.length (by omega)
      (by
        refine ⟨0, _, _, .nils, none, by simp, rfl, ?_, ?_, ?_, .inl ⟨rfl, by simp [GV.encs]⟩, by simp⟩
        · simp [push_at, put_at, n_push', n_put', cellsOf?, hn4, hx1]
        · simp [push_at, put_at, n_push', n_put', cellsOf?, hn4, hx2]
        · simp [push_at, put_at, n_push', n_put', cellsOf?, hn4])
      (by
        rintro r L S ⟨j, sc, a10, v, T, hjk, rfl, g1, g2, g3, hl⟩ q hq1 hq2
        by_cases hj : j < zs.length
        · obtain ⟨v', S', ha, hl', hn', hk⟩ := hl.append (.num zs[j]) (by simp; omega)
          have hkn := hl'.known
          have g1' := hk.cells _ _ g1
          have g2' := hk.cells _ _ g2
          have g3' := hk.cells _ _ g3
          have hw : IntKind.i64.wrap ((j : Int) + 1) = ((j : Int) + 1) := wrap_id (by omega) (by omega)
          have hix := hD.index hj
          have hb1 : buildA ED 26 [(0, AV.int IntKind.i64 1), (1, AV.int IntKind.i64 zs[j])] = some (.agg [.int .i64 1, .int .i64 zs[j], .nils]) := rfl
          simp only [GV.enc, wv] at ha
          simp [evalC_seq, evalC_region, runA_cons', runA_consN, runA_consG, guardR_true, guardR_false, guardV_bool, guardV_tup, runA_nil', inFrame, startLoc, startVals, Loc.clear, eff_move, eff_assign, eff_binOp, eff_build, eff_buildSlice, eff_alloc, eff_box, eff_store, eff_load, eff_fieldAddr, eff_field, eff_indexAddr, eff_slice, eff_extract, eff_pick, eff_unOp, eff_convert, eff_makeSlice, eff_makeFunc, eff_makeInterface, eff_nilCheck, eff_panic, eff_len1, eff_max2, eff_min2, eff_append2, eff_callV, stepE_val, contR_ok, contR_pan, outC_ok, outC_pan, thenC_normal, thenC_ret, thenC_exit, thenC_pan, blockC, evalC_ret, evalC_skip, evalC_exit, evalC_block, evalC_scope, evalC_loop, Loc.putO, Loc.put, idx, evO, constV, Loc.get, Vm.look, valO_some, bin_int, intA, evalC_cond, condC_true, condC_false, unwindA, resultsA, resultV, actA, pureA, storeA, loadA, fillE, repElems, TI.zeroV, fieldOf, fieldAddrA, fieldA, elemsA, retE, cells?_put_push, push_at, put_at, cellsOf?, Nat.add_assoc, n_push', n_put', isCell_undef, known_undef, cells_undef, isCell_bool, known_bool, cells_bool, isCell_int, known_int, cells_int, isCell_str, known_str, cells_str, isCell_nilp, known_nilp, cells_nilp, isCell_ptr, known_ptr, cells_ptr, isCell_rptr, known_rptr, cells_rptr, isCell_nils, known_nils, cells_nils, isCell_slice, known_slice, cells_slice, isCell_rsl, known_rsl, cells_rsl, isCell_nilm, known_nilm, cells_nilm, isCell_map, known_map, cells_map, isCell_fn, known_fn, cells_fn, isCell_yld, known_yld, cells_yld, isCell_nilf, known_nilf, cells_nilf, isCell_iface, known_iface, cells_iface, isCell_nili, known_nili, cells_nili, isCell_agg, known_agg, cells_agg, isCell_tup, known_tup, cells_tup, setCells, nowhere, GotF_some, Got_some, int_beq, int_bne, dloc, hj, g3, hix, hb1, ha, hkn, g3', hw]
          refine hq1 (r - 1) _ _ (by omega) ⟨j + 1, _, _, v', some S.n, by omega, rfl, cells_put g3' g1' (by decide), cells_put g3' g2' (by decide), cells_put_self g3', ?_⟩
          rw [take_num hj]
          exact hl'.put g3'
        · have hjl : j = zs.length := by omega
          subst hjl
          simp [evalC_seq, evalC_region, runA_cons', runA_consN, runA_consG, guardR_true, guardR_false, guardV_bool, guardV_tup, runA_nil', inFrame, startLoc, startVals, Loc.clear, eff_move, eff_assign, eff_binOp, eff_build, eff_buildSlice, eff_alloc, eff_box, eff_store, eff_load, eff_fieldAddr, eff_field, eff_indexAddr, eff_slice, eff_extract, eff_pick, eff_unOp, eff_convert, eff_makeSlice, eff_makeFunc, eff_makeInterface, eff_nilCheck, eff_panic, eff_len1, eff_max2, eff_min2, eff_append2, eff_callV, stepE_val, contR_ok, contR_pan, outC_ok, outC_pan, thenC_normal, thenC_ret, thenC_exit, thenC_pan, blockC, evalC_ret, evalC_skip, evalC_exit, evalC_block, evalC_scope, evalC_loop, Loc.putO, Loc.put, idx, evO, constV, Loc.get, Vm.look, valO_some, bin_int, intA, evalC_cond, condC_true, condC_false, unwindA, resultsA, resultV, actA, pureA, storeA, loadA, fillE, repElems, TI.zeroV, fieldOf, fieldAddrA, fieldA, elemsA, retE, cells?_put_push, push_at, put_at, cellsOf?, Nat.add_assoc, n_push', n_put', isCell_undef, known_undef, cells_undef, isCell_bool, known_bool, cells_bool, isCell_int, known_int, cells_int, isCell_str, known_str, cells_str, isCell_nilp, known_nilp, cells_nilp, isCell_ptr, known_ptr, cells_ptr, isCell_rptr, known_rptr, cells_rptr, isCell_nils, known_nils, cells_nils, isCell_slice, known_slice, cells_slice, isCell_rsl, known_rsl, cells_rsl, isCell_nilm, known_nilm, cells_nilm, isCell_map, known_map, cells_map, isCell_fn, known_fn, cells_fn, isCell_yld, known_yld, cells_yld, isCell_nilf, known_nilf, cells_nilf, isCell_iface, known_iface, cells_iface, isCell_nili, known_nili, cells_nili, isCell_agg, known_agg, cells_agg, isCell_tup, known_tup, cells_tup, setCells, nowhere, GotF_some, Got_some, int_beq, int_bne, dloc]
          refine hq2 _ _ _ (by simp) ⟨rfl, _, a10, v, T, _, rfl, g1, g2, g3, by simpa using hl⟩)
    obtain ⟨rfl, sc, a10, v, T, i, rfl, g1, g2, g3, hl⟩ := hq
    have hkn := hl.known
    have u1 := cells_put_self (ds := [.int .i64 4, .int .i64 0, v]) g1
    have u2 := cells_put (o := .cells [.int .i64 4, .int .i64 0, v]) g1 g2 (by decide)
    have w1 := cells_put (o := .cells [.int .i64 0]) u2 u1 (by decide)
    have w2 := cells_put_self (ds := [.int .i64 0]) u2
    simp [evalC_seq, evalC_region, runA_cons', runA_consN, runA_consG, guardR_true, guardR_false, guardV_bool, guardV_tup, runA_nil', inFrame, startLoc, startVals, Loc.clear, eff_move, eff_assign, eff_binOp, eff_build, eff_buildSlice, eff_alloc, eff_box, eff_store, eff_load, eff_fieldAddr, eff_field, eff_indexAddr, eff_slice, eff_extract, eff_pick, eff_unOp, eff_convert, eff_makeSlice, eff_makeFunc, eff_makeInterface, eff_nilCheck, eff_panic, eff_len1, eff_max2, eff_min2, eff_append2, eff_callV, stepE_val, contR_ok, contR_pan, outC_ok, outC_pan, thenC_normal, thenC_ret, thenC_exit, thenC_pan, blockC, evalC_ret, evalC_skip, evalC_exit, evalC_block, evalC_scope, evalC_loop, Loc.putO, Loc.put, idx, evO, constV, Loc.get, Vm.look, valO_some, bin_int, intA, evalC_cond, condC_true, condC_false, unwindA, resultsA, resultV, actA, pureA, storeA, loadA, fillE, repElems, TI.zeroV, fieldOf, fieldAddrA, fieldA, elemsA, retE, cells?_put_push, push_at, put_at, cellsOf?, Nat.add_assoc, n_push', n_put', isCell_undef, known_undef, cells_undef, isCell_bool, known_bool, cells_bool, isCell_int, known_int, cells_int, isCell_str, known_str, cells_str, isCell_nilp, known_nilp, cells_nilp, isCell_ptr, known_ptr, cells_ptr, isCell_rptr, known_rptr, cells_rptr, isCell_nils, known_nils, cells_nils, isCell_slice, known_slice, cells_slice, isCell_rsl, known_rsl, cells_rsl, isCell_nilm, known_nilm, cells_nilm, isCell_map, known_map, cells_map, isCell_fn, known_fn, cells_fn, isCell_yld, known_yld, cells_yld, isCell_nilf, known_nilf, cells_nilf, isCell_iface, known_iface, cells_iface, isCell_nili, known_nili, cells_nili, isCell_agg, known_agg, cells_agg, isCell_tup, known_tup, cells_tup, setCells, nowhere, GotF_some, Got_some, int_beq, int_bne, dloc, g3, hkn, g1, u2, df26_no, w1, w2]
    refine hp _ _ ?_
    simp [FRes.melt, AV.melt, AV.dead, AV.deadL, hl.dead, nums, GV.enc, sv]

end Go.Proofs.YtjgigcaelcapdaaDoor

namespace Go.Proofs.YtjgigcaelcapdaaDoor
open Go Go.Vm Go.Vm.T
set_option maxRecDepth 100000
set_option linter.unusedSimpArgs false
set_option linter.unusedVariables false

/-! parts of values -/
structure PartX where
  g : GV
  i : Nat
def partC : Con where
  f := 62
  X := PartX
  dom x := x.i < x.g.kids.length
  enc x := [x.g.enc, .int .i64 x.i]
  res x := .ret (match x.g.kids[x.i]? with | some g => g.enc | none => .nils)

theorem part_ok : partC.Ok Tryd.prog ED := by
  refine Con.ok_at ED_ok ED_pers [] (by simp) (fun (x : PartX) _ => ⟨by show AV.persL [x.g.enc, .int .i64 x.i] = true; simp [AV.persL, AV.pers, GV.pers], ?_⟩) ?_
  · simp only [partC]
    cases x.g.kids[x.i]? with
    | none => rfl
    | some g => exact g.pers
  rintro ⟨g, i⟩ hi
  replace hi : i < g.kids.length := hi
  show ∃ n, ∀ p : FRes → St → Prop, (∀ r S', r.melt S' = .ret (match g.kids[i]? with | some g => g.enc | none => .nils) → p r S') → GotF (callS ED (sumOf []) n (.fn 62) [g.enc, .int .i64 i] S0) p
  refine ⟨1, fun p hp => ?_⟩
  rw [callS_fn rfl]
  obtain ⟨k, z, e⟩ := g.look
  have hlk := gv_lst (l := g.kids)
  have hix := lst_index hi
  obtain ⟨gk, gn, ge⟩ := g.kids[i].look
  have hgl := gv_lst (l := g.kids[i].kids)
  rw [List.getElem?_eq_getElem hi] at hp
  have hd := GV.enc_dead g.kids[i]
  simp only [ge] at hp hd
  rw [ge] at hix
  rw [e]
  simp only [fnA, ED_fn62, fi62, Tryd.f62]
  simp [evalC_seq, evalC_region, runA_cons', runA_consN, runA_consG, guardR_true, guardR_false, guardV_bool, guardV_tup, runA_nil', inFrame, startLoc, startVals, Loc.clear, eff_move, eff_assign, eff_binOp, eff_build, eff_buildSlice, eff_alloc, eff_box, eff_store, eff_load, eff_fieldAddr, eff_field, eff_indexAddr, eff_slice, eff_extract, eff_pick, eff_unOp, eff_convert, eff_makeSlice, eff_makeFunc, eff_makeInterface, eff_nilCheck, eff_panic, eff_len1, eff_max2, eff_min2, eff_append2, eff_callV, stepE_val, contR_ok, contR_pan, outC_ok, outC_pan, thenC_normal, thenC_ret, thenC_exit, thenC_pan, blockC, evalC_ret, evalC_skip, evalC_exit, evalC_block, evalC_scope, evalC_loop, Loc.putO, Loc.put, idx, evO, constV, Loc.get, Vm.look, valO_some, bin_int, intA, evalC_cond, condC_true, condC_false, unwindA, resultsA, resultV, actA, pureA, storeA, loadA, fillE, repElems, TI.zeroV, fieldOf, fieldAddrA, fieldA, elemsA, retE, cells?_put_push, push_at, put_at, cellsOf?, Nat.add_assoc, n_push', n_put', isCell_undef, known_undef, cells_undef, isCell_bool, known_bool, cells_bool, isCell_int, known_int, cells_int, isCell_str, known_str, cells_str, isCell_nilp, known_nilp, cells_nilp, isCell_ptr, known_ptr, cells_ptr, isCell_rptr, known_rptr, cells_rptr, isCell_nils, known_nils, cells_nils, isCell_slice, known_slice, cells_slice, isCell_rsl, known_rsl, cells_rsl, isCell_nilm, known_nilm, cells_nilm, isCell_map, known_map, cells_map, isCell_fn, known_fn, cells_fn, isCell_yld, known_yld, cells_yld, isCell_nilf, known_nilf, cells_nilf, isCell_iface, known_iface, cells_iface, isCell_nili, known_nili, cells_nili, isCell_agg, known_agg, cells_agg, isCell_tup, known_tup, cells_tup, setCells, nowhere, GotF_some, Got_some, int_beq, int_bne, hlk, hix, hgl]
  exact hp _ _ (congrArg FRes.ret hd)

theorem part_use {cs : List Con} (h : sumOf cs 62 = partC.look) {n : Nat} {g : GV} {i : Nat} {S : St} (hi : i < g.kids.length) : callS ED (sumOf cs) n (.fn 62) [g.enc, .int .i64 i] S = some (.ret g.kids[i].enc, S) := by
  have := Con.use (E := ED) (c := partC) (fun (x y : PartX) hx hy h => by
    have h' : [x.g.enc, AV.int .i64 x.i] = [y.g.enc, AV.int .i64 y.i] := h
    simp only [List.cons.injEq, AV.int.injEq, true_and, and_true] at h'
    obtain ⟨xg, xi⟩ := x
    obtain ⟨yg, yi⟩ := y
    have h1 := GV.enc_inj h'.1
    have h2 : xi = yi := by have := h'.2; simp only at this; omega
    simp only at h1
    subst h1
    subst h2
    rfl) h (n := n) (args := [g.enc, .int .i64 i]) (S := S) ⟨g, i⟩ hi (by show [g.enc.dead, .int .i64 i] = [g.enc, .int .i64 i]; simp)
  rw [show partC.res ⟨g, i⟩ = .ret g.kids[i].enc from by simp only [partC]; rw [List.getElem?_eq_getElem hi]] at this
  exact this

def sideC (f : FuncId) (second : Bool) : Con where
  f := f
  X := GV × GV
  dom _ := True
  enc x := [(GV.pair x.1 x.2).enc]
  res x := .ret (if second then x.2.enc else x.1.enc)

theorem side_use {cs : List Con} {f : FuncId} {b : Bool} (h : sumOf cs f = (sideC f b).look) {n : Nat} {x y : GV} {S : St} : callS ED (sumOf cs) n (.fn f) [(GV.pair x y).enc] S = some (.ret (if b then y.enc else x.enc), S) :=
  Con.use (c := sideC f b) (fun (x y : GV × GV) hx hy h => by
    obtain ⟨a, b⟩ := x
    obtain ⟨c, d⟩ := y
    have h' : [(GV.pair a b).enc] = [(GV.pair c d).enc] := h
    simp only [List.cons.injEq, and_true] at h'
    have := GV.enc_inj h'
    simp only [GV.pair.injEq] at this
    simp only [sideC]
    rw [this.1, this.2]) h (x, y) trivial (by show [(GV.pair x y).enc.dead] = [(GV.pair x y).enc]; simp)

theorem first_ok : (sideC 45 false).Ok Tryd.prog ED := by
  refine Con.ok_at ED_ok ED_pers [partC] (by simpa using part_ok) (fun (x : GV × GV) _ => ⟨by show AV.persL [(GV.pair x.1 x.2).enc] = true; simp [AV.persL, GV.pers], x.1.pers⟩) ?_
  rintro ⟨a, b⟩ _
  show ∃ n, ∀ p : FRes → St → Prop, (∀ r S', r.melt S' = .ret a.enc → p r S') → GotF (callS ED (sumOf [partC]) n (.fn 45) [(GV.pair a b).enc] S0) p
  refine ⟨1, fun p hp => ?_⟩
  rw [callS_fn rfl]
  have hpt := fun (n : Nat) (S : St) => part_use (cs := [partC]) rfl (n := n) (S := S) (g := .pair a b) (i := 0) (by simp [GV.kids])
  simp only [GV.kids, List.getElem_cons_zero] at hpt
  have hd := GV.enc_dead a
  obtain ⟨gk, gn, ge⟩ := a.look
  have hgl := gv_lst (l := a.kids)
  simp only [ge] at hp hd hpt
  simp only [GV.enc, pv, ge] at hpt ⊢
  simp only [fnA, ED_fn45, fi45, Tryd.f45]
  simp at hpt
  simp [evalC_seq, evalC_region, runA_cons', runA_consN, runA_consG, guardR_true, guardR_false, guardV_bool, guardV_tup, runA_nil', inFrame, startLoc, startVals, Loc.clear, eff_move, eff_assign, eff_binOp, eff_build, eff_buildSlice, eff_alloc, eff_box, eff_store, eff_load, eff_fieldAddr, eff_field, eff_indexAddr, eff_slice, eff_extract, eff_pick, eff_unOp, eff_convert, eff_makeSlice, eff_makeFunc, eff_makeInterface, eff_nilCheck, eff_panic, eff_len1, eff_max2, eff_min2, eff_append2, eff_callV, stepE_val, contR_ok, contR_pan, outC_ok, outC_pan, thenC_normal, thenC_ret, thenC_exit, thenC_pan, blockC, evalC_ret, evalC_skip, evalC_exit, evalC_block, evalC_scope, evalC_loop, Loc.putO, Loc.put, idx, evO, constV, Loc.get, Vm.look, valO_some, bin_int, intA, evalC_cond, condC_true, condC_false, unwindA, resultsA, resultV, actA, pureA, storeA, loadA, fillE, repElems, TI.zeroV, fieldOf, fieldAddrA, fieldA, elemsA, retE, cells?_put_push, push_at, put_at, cellsOf?, Nat.add_assoc, n_push', n_put', isCell_undef, known_undef, cells_undef, isCell_bool, known_bool, cells_bool, isCell_int, known_int, cells_int, isCell_str, known_str, cells_str, isCell_nilp, known_nilp, cells_nilp, isCell_ptr, known_ptr, cells_ptr, isCell_rptr, known_rptr, cells_rptr, isCell_nils, known_nils, cells_nils, isCell_slice, known_slice, cells_slice, isCell_rsl, known_rsl, cells_rsl, isCell_nilm, known_nilm, cells_nilm, isCell_map, known_map, cells_map, isCell_fn, known_fn, cells_fn, isCell_yld, known_yld, cells_yld, isCell_nilf, known_nilf, cells_nilf, isCell_iface, known_iface, cells_iface, isCell_nili, known_nili, cells_nili, isCell_agg, known_agg, cells_agg, isCell_tup, known_tup, cells_tup, setCells, nowhere, GotF_some, Got_some, int_beq, int_bne, hpt, hgl]
  exact hp _ _ (congrArg FRes.ret hd)

theorem second_ok : (sideC 46 true).Ok Tryd.prog ED := by
  refine Con.ok_at ED_ok ED_pers [partC] (by simpa using part_ok) (fun (x : GV × GV) _ => ⟨by show AV.persL [(GV.pair x.1 x.2).enc] = true; simp [AV.persL, GV.pers], x.2.pers⟩) ?_
  rintro ⟨a, b⟩ _
  show ∃ n, ∀ p : FRes → St → Prop, (∀ r S', r.melt S' = .ret b.enc → p r S') → GotF (callS ED (sumOf [partC]) n (.fn 46) [(GV.pair a b).enc] S0) p
  refine ⟨1, fun p hp => ?_⟩
  rw [callS_fn rfl]
  have hpt := fun (n : Nat) (S : St) => part_use (cs := [partC]) rfl (n := n) (S := S) (g := .pair a b) (i := 1) (by simp [GV.kids])
  simp only [GV.kids, List.getElem_cons_zero, List.getElem_cons_succ] at hpt
  have hd := GV.enc_dead b
  obtain ⟨gk, gn, ge⟩ := b.look
  have hgl := gv_lst (l := b.kids)
  simp only [ge] at hp hd hpt
  simp only [GV.enc, pv, ge] at hpt ⊢
  simp only [fnA, ED_fn46, fi46, Tryd.f46]
  simp at hpt
  simp [evalC_seq, evalC_region, runA_cons', runA_consN, runA_consG, guardR_true, guardR_false, guardV_bool, guardV_tup, runA_nil', inFrame, startLoc, startVals, Loc.clear, eff_move, eff_assign, eff_binOp, eff_build, eff_buildSlice, eff_alloc, eff_box, eff_store, eff_load, eff_fieldAddr, eff_field, eff_indexAddr, eff_slice, eff_extract, eff_pick, eff_unOp, eff_convert, eff_makeSlice, eff_makeFunc, eff_makeInterface, eff_nilCheck, eff_panic, eff_len1, eff_max2, eff_min2, eff_append2, eff_callV, stepE_val, contR_ok, contR_pan, outC_ok, outC_pan, thenC_normal, thenC_ret, thenC_exit, thenC_pan, blockC, evalC_ret, evalC_skip, evalC_exit, evalC_block, evalC_scope, evalC_loop, Loc.putO, Loc.put, idx, evO, constV, Loc.get, Vm.look, valO_some, bin_int, intA, evalC_cond, condC_true, condC_false, unwindA, resultsA, resultV, actA, pureA, storeA, loadA, fillE, repElems, TI.zeroV, fieldOf, fieldAddrA, fieldA, elemsA, retE, cells?_put_push, push_at, put_at, cellsOf?, Nat.add_assoc, n_push', n_put', isCell_undef, known_undef, cells_undef, isCell_bool, known_bool, cells_bool, isCell_int, known_int, cells_int, isCell_str, known_str, cells_str, isCell_nilp, known_nilp, cells_nilp, isCell_ptr, known_ptr, cells_ptr, isCell_rptr, known_rptr, cells_rptr, isCell_nils, known_nils, cells_nils, isCell_slice, known_slice, cells_slice, isCell_rsl, known_rsl, cells_rsl, isCell_nilm, known_nilm, cells_nilm, isCell_map, known_map, cells_map, isCell_fn, known_fn, cells_fn, isCell_yld, known_yld, cells_yld, isCell_nilf, known_nilf, cells_nilf, isCell_iface, known_iface, cells_iface, isCell_nili, known_nili, cells_nili, isCell_agg, known_agg, cells_agg, isCell_tup, known_tup, cells_tup, setCells, nowhere, GotF_some, Got_some, int_beq, int_bne, hpt, hgl]
  exact hp _ _ (congrArg FRes.ret hd)

def needC : Con where
  f := 48
  X := Bool
  dom _ := True
  enc b := [.bool b]
  res b := if b then .ret (.tup []) else .pan trapV

theorem need_ok : needC.Ok Tryd.prog ED := by
  refine Con.ok_at ED_ok ED_pers [] (by simp) (fun (x : Bool) _ => ⟨rfl, by cases x <;> rfl⟩) ?_
  intro (b : Bool) _
  show ∃ n, ∀ p : FRes → St → Prop, (∀ r S', r.melt S' = (if b then .ret (.tup []) else .pan trapV) → p r S') → GotF (callS ED (sumOf []) n (.fn 48) [.bool b] S0) p
  refine ⟨1, fun p hp => ?_⟩
  rw [callS_fn rfl]
  have hb : buildA ED 55 [] = some (.agg []) := rfl
  simp only [fnA, ED_fn48, fi48, Tryd.f48]
  cases b with
  | true =>
    simp [evalC_seq, evalC_region, runA_cons', runA_consN, runA_consG, guardR_true, guardR_false, guardV_bool, guardV_tup, runA_nil', inFrame, startLoc, startVals, Loc.clear, eff_move, eff_assign, eff_binOp, eff_build, eff_buildSlice, eff_alloc, eff_box, eff_store, eff_load, eff_fieldAddr, eff_field, eff_indexAddr, eff_slice, eff_extract, eff_pick, eff_unOp, eff_convert, eff_makeSlice, eff_makeFunc, eff_makeInterface, eff_nilCheck, eff_panic, eff_len1, eff_max2, eff_min2, eff_append2, eff_callV, stepE_val, contR_ok, contR_pan, outC_ok, outC_pan, thenC_normal, thenC_ret, thenC_exit, thenC_pan, blockC, evalC_ret, evalC_skip, evalC_exit, evalC_block, evalC_scope, evalC_loop, Loc.putO, Loc.put, idx, evO, constV, Loc.get, Vm.look, valO_some, bin_int, intA, evalC_cond, condC_true, condC_false, unwindA, resultsA, resultV, actA, pureA, storeA, loadA, fillE, repElems, TI.zeroV, fieldOf, fieldAddrA, fieldA, elemsA, retE, cells?_put_push, push_at, put_at, cellsOf?, Nat.add_assoc, n_push', n_put', isCell_undef, known_undef, cells_undef, isCell_bool, known_bool, cells_bool, isCell_int, known_int, cells_int, isCell_str, known_str, cells_str, isCell_nilp, known_nilp, cells_nilp, isCell_ptr, known_ptr, cells_ptr, isCell_rptr, known_rptr, cells_rptr, isCell_nils, known_nils, cells_nils, isCell_slice, known_slice, cells_slice, isCell_rsl, known_rsl, cells_rsl, isCell_nilm, known_nilm, cells_nilm, isCell_map, known_map, cells_map, isCell_fn, known_fn, cells_fn, isCell_yld, known_yld, cells_yld, isCell_nilf, known_nilf, cells_nilf, isCell_iface, known_iface, cells_iface, isCell_nili, known_nili, cells_nili, isCell_agg, known_agg, cells_agg, isCell_tup, known_tup, cells_tup, setCells, nowhere, GotF_some, Got_some, int_beq, int_bne, lenA, indexAddrA, unA]
    exact hp _ _ rfl
  | false =>
    simp [evalC_seq, evalC_region, runA_cons', runA_consN, runA_consG, guardR_true, guardR_false, guardV_bool, guardV_tup, runA_nil', inFrame, startLoc, startVals, Loc.clear, eff_move, eff_assign, eff_binOp, eff_build, eff_buildSlice, eff_alloc, eff_box, eff_store, eff_load, eff_fieldAddr, eff_field, eff_indexAddr, eff_slice, eff_extract, eff_pick, eff_unOp, eff_convert, eff_makeSlice, eff_makeFunc, eff_makeInterface, eff_nilCheck, eff_panic, eff_len1, eff_max2, eff_min2, eff_append2, eff_callV, stepE_val, contR_ok, contR_pan, outC_ok, outC_pan, thenC_normal, thenC_ret, thenC_exit, thenC_pan, blockC, evalC_ret, evalC_skip, evalC_exit, evalC_block, evalC_scope, evalC_loop, Loc.putO, Loc.put, idx, evO, constV, Loc.get, Vm.look, valO_some, bin_int, intA, evalC_cond, condC_true, condC_false, unwindA, resultsA, resultV, actA, pureA, storeA, loadA, fillE, repElems, TI.zeroV, fieldOf, fieldAddrA, fieldA, elemsA, retE, cells?_put_push, push_at, put_at, cellsOf?, Nat.add_assoc, n_push', n_put', isCell_undef, known_undef, cells_undef, isCell_bool, known_bool, cells_bool, isCell_int, known_int, cells_int, isCell_str, known_str, cells_str, isCell_nilp, known_nilp, cells_nilp, isCell_ptr, known_ptr, cells_ptr, isCell_rptr, known_rptr, cells_rptr, isCell_nils, known_nils, cells_nils, isCell_slice, known_slice, cells_slice, isCell_rsl, known_rsl, cells_rsl, isCell_nilm, known_nilm, cells_nilm, isCell_map, known_map, cells_map, isCell_fn, known_fn, cells_fn, isCell_yld, known_yld, cells_yld, isCell_nilf, known_nilf, cells_nilf, isCell_iface, known_iface, cells_iface, isCell_nili, known_nili, cells_nili, isCell_agg, known_agg, cells_agg, isCell_tup, known_tup, cells_tup, setCells, nowhere, GotF_some, Got_some, int_beq, int_bne, lenA, indexAddrA, unA, hb, stepE_pan]
    exact hp _ _ rfl

theorem need_use {cs : List Con} (h : sumOf cs 48 = needC.look) {n : Nat} {b : Bool} {S : St} : callS ED (sumOf cs) n (.fn 48) [.bool b] S = some (if b then .ret (.tup []) else .pan trapV, S) :=
  Con.use (c := needC) (fun (x y : Bool) _ _ h => by
    have h' : [AV.bool x] = [AV.bool y] := h
    cases h'; rfl) h (b : Bool) trivial rfl

def duoA (e : Int × Int) : AV := .agg [.int .i64 e.1, .int .i64 e.2]

def duoC : Con where
  f := 54
  X := Int × Int
  dom _ := True
  enc e := [(duoV e).enc]
  res e := .ret (duoA e)

theorem duo_ok : duoC.Ok Tryd.prog ED := by
  refine Con.ok_at ED_ok ED_pers [sideC 45 false, sideC 46 true] (by simpa using ⟨first_ok, second_ok⟩) (fun (x : Int × Int) _ => ⟨by show AV.persL [(duoV x).enc] = true; simp [AV.persL, GV.pers], rfl⟩) ?_
  rintro ⟨a, b⟩ _
  show ∃ n, ∀ p : FRes → St → Prop, (∀ r S', r.melt S' = .ret (duoA (a, b)) → p r S') → GotF (callS ED (sumOf [sideC 45 false, sideC 46 true]) n (.fn 54) [(duoV (a, b)).enc] S0) p
  refine ⟨1, fun p hp => ?_⟩
  rw [callS_fn rfl]
  have d0 := @dr54_0
  simp only [drA, drawsOf, Option.getD_some, List.nil_append, List.append_nil, List.getD_cons_zero, List.getD_cons_succ, List.cons_append, Tryd.f54] at d0
  have hf := fun (n : Nat) (S : St) => side_use (cs := [sideC 45 false, sideC 46 true]) (f := 45) (b := false) rfl (n := n) (S := S) (x := .num a) (y := .num b)
  have hs := fun (n : Nat) (S : St) => side_use (cs := [sideC 45 false, sideC 46 true]) (f := 46) (b := true) (by funext a; rfl) (n := n) (S := S) (x := .num a) (y := .num b)
  simp only [GV.enc, pv, wv] at hf hs
  simp only [Bool.false_eq_true, if_false, if_true] at hf hs
  have hb : buildA ED 81 [(0, AV.int IntKind.i64 a), (1, AV.int IntKind.i64 b)] = some (.agg [.int .i64 a, .int .i64 b]) := rfl
  have hp1 : ∀ z, partA ED 3 [.int .i64 1, .int .i64 z, .nils] 1 = some (.int .i64 z) := fun _ => rfl
  simp only [fnA, ED_fn54, fi54, Tryd.f54]
  simp [evalC_seq, evalC_region, runA_cons', runA_consN, runA_consG, guardR_true, guardR_false, guardV_bool, guardV_tup, runA_nil', inFrame, startLoc, startVals, Loc.clear, eff_move, eff_assign, eff_binOp, eff_build, eff_buildSlice, eff_alloc, eff_box, eff_store, eff_load, eff_fieldAddr, eff_field, eff_indexAddr, eff_slice, eff_extract, eff_pick, eff_unOp, eff_convert, eff_makeSlice, eff_makeFunc, eff_makeInterface, eff_nilCheck, eff_panic, eff_len1, eff_max2, eff_min2, eff_append2, eff_callV, stepE_val, contR_ok, contR_pan, outC_ok, outC_pan, thenC_normal, thenC_ret, thenC_exit, thenC_pan, blockC, evalC_ret, evalC_skip, evalC_exit, evalC_block, evalC_scope, evalC_loop, Loc.putO, Loc.put, idx, evO, constV, Loc.get, Vm.look, valO_some, bin_int, intA, evalC_cond, condC_true, condC_false, unwindA, resultsA, resultV, actA, pureA, storeA, loadA, fillE, repElems, TI.zeroV, fieldOf, fieldAddrA, fieldA, elemsA, retE, cells?_put_push, push_at, put_at, cellsOf?, Nat.add_assoc, n_push', n_put', isCell_undef, known_undef, cells_undef, isCell_bool, known_bool, cells_bool, isCell_int, known_int, cells_int, isCell_str, known_str, cells_str, isCell_nilp, known_nilp, cells_nilp, isCell_ptr, known_ptr, cells_ptr, isCell_rptr, known_rptr, cells_rptr, isCell_nils, known_nils, cells_nils, isCell_slice, known_slice, cells_slice, isCell_rsl, known_rsl, cells_rsl, isCell_nilm, known_nilm, cells_nilm, isCell_map, known_map, cells_map, isCell_fn, known_fn, cells_fn, isCell_yld, known_yld, cells_yld, isCell_nilf, known_nilf, cells_nilf, isCell_iface, known_iface, cells_iface, isCell_nili, known_nili, cells_nili, isCell_agg, known_agg, cells_agg, isCell_tup, known_tup, cells_tup, setCells, nowhere, GotF_some, Got_some, int_beq, int_bne, lenA, indexAddrA, runC_nil, runC_cons, pickC_some, wantC_tt, wantC_tf, effC_val, ifC_true, checkC, inPairs, keepC, okC, readsC_load, readV_some, AV.beq_self, wantA_n, wantA_g, wantD_some, d0, duoV, GV.enc, pv, wv, hf, hs, hb, hp1]
  exact hp _ _ rfl

theorem duo_use {cs : List Con} (h : sumOf cs 54 = duoC.look) {n : Nat} {e : Int × Int} {S : St} : callS ED (sumOf cs) n (.fn 54) [(duoV e).enc] S = some (.ret (duoA e), S) :=
  Con.use (c := duoC) (fun (x y : Int × Int) hx hy h => by
    have h' : [(duoV x).enc] = [(duoV y).enc] := h
    simp only [List.cons.injEq, and_true] at h'
    have := GV.enc_inj h'
    obtain ⟨a, b⟩ := x
    obtain ⟨c, d⟩ := y
    simp only [duoV, GV.pair.injEq, GV.num.injEq] at this
    rw [this.1, this.2]) h (e : Int × Int) trivial (by show [(duoV e).enc.dead] = [(duoV e).enc]; simp)

theorem duosV_inj {a b : List (Int × Int)} (h : (duosV a).enc = (duosV b).enc) : a = b := by
  have h1 := GV.enc_inj h
  simp only [duosV, GV.seq.injEq] at h1
  induction a generalizing b with
  | nil => cases b with
    | nil => rfl
    | cons y b => simp at h1
  | cons x a ih => cases b with
    | nil => simp at h1
    | cons y b =>
      obtain ⟨p, q⟩ := x
      obtain ⟨r, s⟩ := y
      simp only [List.map_cons, List.cons.injEq, duoV, GV.pair.injEq, GV.num.injEq] at h1
      rw [h1.1.1, h1.1.2, ih (by rw [show (duosV a).enc = (duosV b).enc from by simp only [duosV]; exact congrArg (fun l => (GV.seq l).enc) h1.2]) h1.2]

/-- elements, one by one, of a loop that makes one of each -/
def listDuoC : Con where
  f := 53
  X := List (Int × Int)
  dom es := es.length ≤ 1000
  enc es := [(duosV es).enc, .fn 54 [] []]
  res es := .ret (lst (es.map duoA))

theorem duoAs_pers (es : List (Int × Int)) : AV.persL (es.map duoA) = true := by
  rw [AV.persL_iff]
  intro x hx
  obtain ⟨e, _, rfl⟩ := List.mem_map.1 hx
  rfl

theorem lst_pers' {l : List AV} (h : AV.persL l = true) : (lst l).pers = true := by
  cases l with
  | nil => rfl
  | cons a r => simpa [lst, AV.pers, AV.persL] using h

theorem dead_lst {S : St} {sz : Nat} {v : AV} {l : List AV} {T : Option Nat} (h : LiveT S sz v l T) (hn : l = [] → v = .nils) (hp : AV.persL l = true) : v.dead = lst l := by
  cases l with
  | nil => rw [hn rfl]; rfl
  | cons a r =>
    rcases h.cases with ⟨_, h2⟩ | ⟨tk, rfl⟩
    · cases h2
    · have : AV.deadL (a :: r) = a :: r := by rw [AV.deadL_map]; exact map_dead (fun x hx => dead_of_pers x (AV.persL_iff.1 hp x hx))
      simp only [AV.dead, this, lst]

theorem append_duo {S : St} {v : AV} {es : List (Int × Int)} (e : Int × Int) {T : Option Nat} (hl : LiveT S 2 v (es.map duoA) T) (hlen : es.length ≤ 10000) :
    ∃ v' S', appendA ED S 81 v [duoA e] = some (v', S') ∧ LiveT S' 2 v' ((es ++ [e]).map duoA) (some S.n) ∧ S'.n = S.n + 1 ∧ Kept T S S' := by
  rw [List.map_append]
  refine append_1 (i := ti81) ED_ti81 (by decide) hl (fun y hy => ?_) (by simp [duoA, AV.cells, AV.isCell]) rfl (by simp [roomOk, roomMost, ti81]; omega)
  obtain ⟨z, _, rfl⟩ := List.mem_map.1 hy
  rfl

theorem listDuo_ok : listDuoC.Ok Tryd.prog ED := by
  refine Con.ok_at ED_ok ED_pers [partC, duoC] (by simpa using ⟨part_ok, duo_ok⟩) (fun (x : List (Int × Int)) _ => ⟨by show AV.persL [(duosV x).enc, .fn 54 [] []] = true; simp [AV.persL, GV.pers, AV.pers], lst_pers' (duoAs_pers x)⟩) ?_
  intro (es : List (Int × Int)) hlen
  replace hlen : es.length ≤ 1000 := hlen
  show ∃ n, ∀ p : FRes → St → Prop, (∀ r S', r.melt S' = .ret (lst (es.map duoA)) → p r S') → GotF (callS ED (sumOf [partC, duoC]) n (.fn 53) [(duosV es).enc, .fn 54 [] []] S0) p
  refine ⟨es.length + 2, fun p hp => ?_⟩
  rw [callS_fn rfl]
  have hpt := fun (n : Nat) (S : St) (i : Nat) (hi : i < es.length) => part_use (cs := [partC, duoC]) rfl (n := n) (S := S) (g := duosV es) (i := i) (by simpa [duosV, GV.kids] using hi)
  have hdu := fun (n : Nat) (S : St) (e : Int × Int) => duo_use (cs := [partC, duoC]) rfl (n := n) (S := S) (e := e)
  have hlk := gv_lst (l := es.map duoV)
  simp only [fnA, ED_fn53, fi53, Tryd.f53]
  simp only [duosV, GV.kids, GV.enc, sv, List.getElem_map] at hpt ⊢
  simp [evalC_seq, evalC_region, runA_cons', runA_consN, runA_consG, guardR_true, guardR_false, guardV_bool, guardV_tup, runA_nil', inFrame, startLoc, startVals, Loc.clear, eff_move, eff_assign, eff_binOp, eff_build, eff_buildSlice, eff_alloc, eff_box, eff_store, eff_load, eff_fieldAddr, eff_field, eff_indexAddr, eff_slice, eff_extract, eff_pick, eff_unOp, eff_convert, eff_makeSlice, eff_makeFunc, eff_makeInterface, eff_nilCheck, eff_panic, eff_len1, eff_max2, eff_min2, eff_append2, eff_callV, stepE_val, contR_ok, contR_pan, outC_ok, outC_pan, thenC_normal, thenC_ret, thenC_exit, thenC_pan, blockC, evalC_ret, evalC_skip, evalC_exit, evalC_block, evalC_scope, evalC_loop, Loc.putO, Loc.put, idx, evO, constV, Loc.get, Vm.look, valO_some, bin_int, intA, evalC_cond, condC_true, condC_false, unwindA, resultsA, resultV, actA, pureA, storeA, loadA, fillE, repElems, TI.zeroV, fieldOf, fieldAddrA, fieldA, elemsA, retE, cells?_put_push, push_at, put_at, cellsOf?, Nat.add_assoc, n_push', n_put', isCell_undef, known_undef, cells_undef, isCell_bool, known_bool, cells_bool, isCell_int, known_int, cells_int, isCell_str, known_str, cells_str, isCell_nilp, known_nilp, cells_nilp, isCell_ptr, known_ptr, cells_ptr, isCell_rptr, known_rptr, cells_rptr, isCell_nils, known_nils, cells_nils, isCell_slice, known_slice, cells_slice, isCell_rsl, known_rsl, cells_rsl, isCell_nilm, known_nilm, cells_nilm, isCell_map, known_map, cells_map, isCell_fn, known_fn, cells_fn, isCell_yld, known_yld, cells_yld, isCell_nilf, known_nilf, cells_nilf, isCell_iface, known_iface, cells_iface, isCell_nili, known_nili, cells_nili, isCell_agg, known_agg, cells_agg, isCell_tup, known_tup, cells_tup, setCells, nowhere, GotF_some, Got_some, int_beq, int_bne, hlk, lst_len]
  generalize hc : iter _ _ _ _ = c
  obtain ⟨e, L', S', rfl, hq⟩ := loop_of hc
    (fun r L S => ∃ j sc a6 v T, j + r = es.length ∧ L = vloc [.agg [.int .i64 4, .int .i64 0, lst (GV.encs (es.map duoV))], .fn 54 [] [], .ptr 0 0, .nils, v, a6, .int .i64 es.length, .int .i64 (j : Nat)] sc ∧
      S.cells? 0 = some [.int .i64 4, .int .i64 0, lst (GV.encs (es.map duoV))] ∧ LiveT S 2 v ((es.take j).map duoA) T ∧ ((es.take j).map duoA = [] → v = .nils))
    (fun e L S => e = .exit 0 ∧ ∃ sc a6 v T i, L = vloc [.agg [.int .i64 4, .int .i64 0, lst (GV.encs (es.map duoV))], .fn 54 [] [], .ptr 0 0, .nils, v, a6, .int .i64 es.length, i] sc ∧
      LiveT S 2 v (es.map duoA) T ∧ (es.map duoA = [] → v = .nils))
    es.length (by omega)
    (by
      refine ⟨0, _, _, .nils, none, by simp, rfl, ?_, .inl ⟨rfl, by simp⟩, by simp⟩
      simp [push_at, cellsOf?])
    (by
      rintro r L S ⟨j, sc, a6, v, T, hjk, rfl, g1, hl, hn⟩ q hq1 hq2
      by_cases hj : j < es.length
      · obtain ⟨v', S', ha, hl', hn', hk⟩ := append_duo es[j] hl (by simp; omega)
        have hw : IntKind.i64.wrap ((j : Int) + 1) = ((j : Int) + 1) := wrap_id (by omega) (by omega)
        have hp1 := fun n S => hpt n S j hj
        simp only [duoA] at ha hdu
        simp [evalC_seq, evalC_region, runA_cons', runA_consN, runA_consG, guardR_true, guardR_false, guardV_bool, guardV_tup, runA_nil', inFrame, startLoc, startVals, Loc.clear, eff_move, eff_assign, eff_binOp, eff_build, eff_buildSlice, eff_alloc, eff_box, eff_store, eff_load, eff_fieldAddr, eff_field, eff_indexAddr, eff_slice, eff_extract, eff_pick, eff_unOp, eff_convert, eff_makeSlice, eff_makeFunc, eff_makeInterface, eff_nilCheck, eff_panic, eff_len1, eff_max2, eff_min2, eff_append2, eff_callV, stepE_val, contR_ok, contR_pan, outC_ok, outC_pan, thenC_normal, thenC_ret, thenC_exit, thenC_pan, blockC, evalC_ret, evalC_skip, evalC_exit, evalC_block, evalC_scope, evalC_loop, Loc.putO, Loc.put, idx, evO, constV, Loc.get, Vm.look, valO_some, bin_int, intA, evalC_cond, condC_true, condC_false, unwindA, resultsA, resultV, actA, pureA, storeA, loadA, fillE, repElems, TI.zeroV, fieldOf, fieldAddrA, fieldA, elemsA, retE, cells?_put_push, push_at, put_at, cellsOf?, Nat.add_assoc, n_push', n_put', isCell_undef, known_undef, cells_undef, isCell_bool, known_bool, cells_bool, isCell_int, known_int, cells_int, isCell_str, known_str, cells_str, isCell_nilp, known_nilp, cells_nilp, isCell_ptr, known_ptr, cells_ptr, isCell_rptr, known_rptr, cells_rptr, isCell_nils, known_nils, cells_nils, isCell_slice, known_slice, cells_slice, isCell_rsl, known_rsl, cells_rsl, isCell_nilm, known_nilm, cells_nilm, isCell_map, known_map, cells_map, isCell_fn, known_fn, cells_fn, isCell_yld, known_yld, cells_yld, isCell_nilf, known_nilf, cells_nilf, isCell_iface, known_iface, cells_iface, isCell_nili, known_nili, cells_nili, isCell_agg, known_agg, cells_agg, isCell_tup, known_tup, cells_tup, setCells, nowhere, GotF_some, Got_some, int_beq, int_bne, vloc, hj, g1, hp1, hdu, ha, hw]
        refine hq1 (r - 1) _ _ (by omega) ⟨j + 1, _, _, v', some S.n, by omega, rfl, hk.cells _ _ g1, ?_, ?_⟩
        · rw [List.take_add_one, List.getElem?_eq_getElem hj]; exact hl'
        · intro h
          have := congrArg List.length h
          rw [List.length_map, List.length_take, List.length_nil] at this
          omega
      · have hjl : j = es.length := by omega
        subst hjl
        simp [evalC_seq, evalC_region, runA_cons', runA_consN, runA_consG, guardR_true, guardR_false, guardV_bool, guardV_tup, runA_nil', inFrame, startLoc, startVals, Loc.clear, eff_move, eff_assign, eff_binOp, eff_build, eff_buildSlice, eff_alloc, eff_box, eff_store, eff_load, eff_fieldAddr, eff_field, eff_indexAddr, eff_slice, eff_extract, eff_pick, eff_unOp, eff_convert, eff_makeSlice, eff_makeFunc, eff_makeInterface, eff_nilCheck, eff_panic, eff_len1, eff_max2, eff_min2, eff_append2, eff_callV, stepE_val, contR_ok, contR_pan, outC_ok, outC_pan, thenC_normal, thenC_ret, thenC_exit, thenC_pan, blockC, evalC_ret, evalC_skip, evalC_exit, evalC_block, evalC_scope, evalC_loop, Loc.putO, Loc.put, idx, evO, constV, Loc.get, Vm.look, valO_some, bin_int, intA, evalC_cond, condC_true, condC_false, unwindA, resultsA, resultV, actA, pureA, storeA, loadA, fillE, repElems, TI.zeroV, fieldOf, fieldAddrA, fieldA, elemsA, retE, cells?_put_push, push_at, put_at, cellsOf?, Nat.add_assoc, n_push', n_put', isCell_undef, known_undef, cells_undef, isCell_bool, known_bool, cells_bool, isCell_int, known_int, cells_int, isCell_str, known_str, cells_str, isCell_nilp, known_nilp, cells_nilp, isCell_ptr, known_ptr, cells_ptr, isCell_rptr, known_rptr, cells_rptr, isCell_nils, known_nils, cells_nils, isCell_slice, known_slice, cells_slice, isCell_rsl, known_rsl, cells_rsl, isCell_nilm, known_nilm, cells_nilm, isCell_map, known_map, cells_map, isCell_fn, known_fn, cells_fn, isCell_yld, known_yld, cells_yld, isCell_nilf, known_nilf, cells_nilf, isCell_iface, known_iface, cells_iface, isCell_nili, known_nili, cells_nili, isCell_agg, known_agg, cells_agg, isCell_tup, known_tup, cells_tup, setCells, nowhere, GotF_some, Got_some, int_beq, int_bne, vloc]
        refine hq2 _ _ _ (by simp) ⟨rfl, _, a6, v, T, _, rfl, by simpa using hl, by simpa using hn⟩)
  obtain ⟨rfl, sc, a6, v, T, i, rfl, hl, hn⟩ := hq
  simp [evalC_seq, evalC_region, runA_cons', runA_consN, runA_consG, guardR_true, guardR_false, guardV_bool, guardV_tup, runA_nil', inFrame, startLoc, startVals, Loc.clear, eff_move, eff_assign, eff_binOp, eff_build, eff_buildSlice, eff_alloc, eff_box, eff_store, eff_load, eff_fieldAddr, eff_field, eff_indexAddr, eff_slice, eff_extract, eff_pick, eff_unOp, eff_convert, eff_makeSlice, eff_makeFunc, eff_makeInterface, eff_nilCheck, eff_panic, eff_len1, eff_max2, eff_min2, eff_append2, eff_callV, stepE_val, contR_ok, contR_pan, outC_ok, outC_pan, thenC_normal, thenC_ret, thenC_exit, thenC_pan, blockC, evalC_ret, evalC_skip, evalC_exit, evalC_block, evalC_scope, evalC_loop, Loc.putO, Loc.put, idx, evO, constV, Loc.get, Vm.look, valO_some, bin_int, intA, evalC_cond, condC_true, condC_false, unwindA, resultsA, resultV, actA, pureA, storeA, loadA, fillE, repElems, TI.zeroV, fieldOf, fieldAddrA, fieldA, elemsA, retE, cells?_put_push, push_at, put_at, cellsOf?, Nat.add_assoc, n_push', n_put', isCell_undef, known_undef, cells_undef, isCell_bool, known_bool, cells_bool, isCell_int, known_int, cells_int, isCell_str, known_str, cells_str, isCell_nilp, known_nilp, cells_nilp, isCell_ptr, known_ptr, cells_ptr, isCell_rptr, known_rptr, cells_rptr, isCell_nils, known_nils, cells_nils, isCell_slice, known_slice, cells_slice, isCell_rsl, known_rsl, cells_rsl, isCell_nilm, known_nilm, cells_nilm, isCell_map, known_map, cells_map, isCell_fn, known_fn, cells_fn, isCell_yld, known_yld, cells_yld, isCell_nilf, known_nilf, cells_nilf, isCell_iface, known_iface, cells_iface, isCell_nili, known_nili, cells_nili, isCell_agg, known_agg, cells_agg, isCell_tup, known_tup, cells_tup, setCells, nowhere, GotF_some, Got_some, int_beq, int_bne, vloc]
  refine hp _ _ ?_
  have hd := dead_lst hl hn (duoAs_pers es)
  rcases hl.cases with ⟨rfl, h2⟩ | ⟨tk, rfl⟩
  · simp [FRes.melt, AV.melt, hd]
  · simp [FRes.melt, AV.melt, hd]

theorem duoAs_inj {a b : List (Int × Int)} (h : a.map duoA = b.map duoA) : a = b := by
  induction a generalizing b with
  | nil => cases b with
    | nil => rfl
    | cons y b => simp at h
  | cons x a ih => cases b with
    | nil => simp at h
    | cons y b =>
      obtain ⟨p, q⟩ := x
      obtain ⟨r, s⟩ := y
      simp only [List.map_cons, List.cons.injEq, duoA, AV.agg.injEq, AV.int.injEq, true_and, and_true] at h
      rw [h.1.1, h.1.2, ih h.2]

theorem listDuo_use {cs : List Con} (h : sumOf cs 53 = listDuoC.look) {n : Nat} {es : List (Int × Int)} {S : St} (hl : es.length ≤ 1000) : callS ED (sumOf cs) n (.fn 53) [(duosV es).enc, .fn 54 [] []] S = some (.ret (lst (es.map duoA)), S) :=
  Con.use (c := listDuoC) (fun (x y : List (Int × Int)) hx hy h => by
    have h' : [(duosV x).enc, AV.fn 54 [] []] = [(duosV y).enc, .fn 54 [] []] := h
    simp only [List.cons.injEq, and_true] at h'
    rw [duosV_inj h']) h (es : List (Int × Int)) hl (by show [(duosV es).enc.dead, (AV.fn 54 [] []).dead] = [(duosV es).enc, .fn 54 [] []]; simp [AV.dead, AV.deadL])

structure GraphX where
  n : Int
  es : List (Int × Int)
def graphC : Con where
  f := 44
  X := GraphX
  dom x := 0 ≤ x.n ∧ x.n ≤ 4096 ∧ x.es.length ≤ 1000
  enc x := [.int .i64 x.n, (duosV x.es).enc]
  res x := .ret (.agg [lst (x.es.map duoA), .int .i64 x.n])

theorem graph_ok : graphC.Ok Tryd.prog ED := by
  refine Con.ok_at ED_ok ED_pers [needC, listDuoC] (by simpa using ⟨need_ok, listDuo_ok⟩) (fun (x : GraphX) _ => ⟨by show AV.persL [.int .i64 x.n, (duosV x.es).enc] = true; simp [AV.persL, GV.pers, AV.pers], by
    have := lst_pers' (duoAs_pers x.es)
    show (AV.agg [lst (x.es.map duoA), .int .i64 x.n]).pers = true
    simp [AV.pers, AV.persL, this]⟩) ?_
  rintro ⟨nn, es⟩ ⟨h0, h1, h2⟩
  replace h0 : 0 ≤ nn := h0
  replace h1 : nn ≤ 4096 := h1
  replace h2 : es.length ≤ 1000 := h2
  show ∃ n, ∀ p : FRes → St → Prop, (∀ r S', r.melt S' = .ret (.agg [lst (es.map duoA), .int .i64 nn]) → p r S') → GotF (callS ED (sumOf [needC, listDuoC]) n (.fn 44) [.int .i64 nn, (duosV es).enc] S0) p
  refine ⟨1, fun p hp => ?_⟩
  rw [callS_fn rfl]
  have hne := fun (n : Nat) (S : St) (b : Bool) => need_use (cs := [needC, listDuoC]) rfl (n := n) (S := S) (b := b)
  have hli := fun (n : Nat) (S : St) => listDuo_use (cs := [needC, listDuoC]) rfl (n := n) (S := S) h2
  have hb1 : buildA ED 75 [(0, lst (es.map duoA))] = some (.agg [lst (es.map duoA)]) := by cases es <;> rfl
  have hb2 : buildA ED 77 [(0, .agg [lst (es.map duoA)]), (1, .int .i64 nn)] = some (.agg [lst (es.map duoA), .int .i64 nn]) := by cases es <;> rfl
  have hlc : (lst (es.map duoA)).isCell = true := by cases es <;> rfl
  have hd : (lst (es.map duoA)).dead = lst (es.map duoA) := dead_of_pers _ (lst_pers' (duoAs_pers es))
  obtain ⟨k, z, e⟩ := (duosV es).look
  have hlk := gv_lst (l := (duosV es).kids)
  rw [e] at hli ⊢
  generalize lst (es.map duoA) = y at *
  simp only [fnA, ED_fn44, fi44, Tryd.f44]
  simp [evalC_seq, evalC_region, runA_cons', runA_consN, runA_consG, guardR_true, guardR_false, guardV_bool, guardV_tup, runA_nil', inFrame, startLoc, startVals, Loc.clear, eff_move, eff_assign, eff_binOp, eff_build, eff_buildSlice, eff_alloc, eff_box, eff_store, eff_load, eff_fieldAddr, eff_field, eff_indexAddr, eff_slice, eff_extract, eff_pick, eff_unOp, eff_convert, eff_makeSlice, eff_makeFunc, eff_makeInterface, eff_nilCheck, eff_panic, eff_len1, eff_max2, eff_min2, eff_append2, eff_callV, stepE_val, contR_ok, contR_pan, outC_ok, outC_pan, thenC_normal, thenC_ret, thenC_exit, thenC_pan, blockC, evalC_ret, evalC_skip, evalC_exit, evalC_block, evalC_scope, evalC_loop, Loc.putO, Loc.put, idx, evO, constV, Loc.get, Vm.look, valO_some, bin_int, intA, evalC_cond, condC_true, condC_false, unwindA, resultsA, resultV, actA, pureA, storeA, loadA, fillE, repElems, TI.zeroV, fieldOf, fieldAddrA, fieldA, elemsA, retE, cells?_put_push, push_at, put_at, cellsOf?, Nat.add_assoc, n_push', n_put', isCell_undef, known_undef, cells_undef, isCell_bool, known_bool, cells_bool, isCell_int, known_int, cells_int, isCell_str, known_str, cells_str, isCell_nilp, known_nilp, cells_nilp, isCell_ptr, known_ptr, cells_ptr, isCell_rptr, known_rptr, cells_rptr, isCell_nils, known_nils, cells_nils, isCell_slice, known_slice, cells_slice, isCell_rsl, known_rsl, cells_rsl, isCell_nilm, known_nilm, cells_nilm, isCell_map, known_map, cells_map, isCell_fn, known_fn, cells_fn, isCell_yld, known_yld, cells_yld, isCell_nilf, known_nilf, cells_nilf, isCell_iface, known_iface, cells_iface, isCell_nili, known_nili, cells_nili, isCell_agg, known_agg, cells_agg, isCell_tup, known_tup, cells_tup, setCells, nowhere, GotF_some, Got_some, int_beq, int_bne, hlk, h0, h1, hne, hli, hb1, hb2, hlc]
  exact hp _ _ (by simp [FRes.melt, AV.melt, AV.dead, AV.deadL, hd])

theorem graph_use {cs : List Con} (h : sumOf cs 44 = graphC.look) {n : Nat} {m : Int} {es : List (Int × Int)} {S : St} (h0 : 0 ≤ m) (h1 : m ≤ 4096) (hl : es.length ≤ 1000) :
    callS ED (sumOf cs) n (.fn 44) [.int .i64 m, (duosV es).enc] S = some (.ret (.agg [lst (es.map duoA), .int .i64 m]), S) :=
  Con.use (c := graphC) (fun (x y : GraphX) hx hy h => by
    obtain ⟨a, b⟩ := x
    obtain ⟨c, d⟩ := y
    have h' : [AV.int .i64 a, (duosV b).enc] = [AV.int .i64 c, (duosV d).enc] := h
    simp only [List.cons.injEq, AV.int.injEq, true_and, and_true] at h'
    rw [h'.1, duosV_inj h'.2]) h ⟨m, es⟩ ⟨h0, h1, hl⟩ (by show [AV.int .i64 m, (duosV es).enc.dead] = [AV.int .i64 m, (duosV es).enc]; simp)

end Go.Proofs.YtjgigcaelcapdaaDoor
