/-
What the check of a value against a type returns. No conditions.
-/
import Derived.Test.YtjgigcaelcapdaaDoorValA
import Derived.KernelRfl
set_option linter.all false

namespace Go.Proofs.YtjgigcaelcapdaaDoor
open Go Go.Vm Go.Vm.T
set_option maxRecDepth 100000
set_option linter.unusedSimpArgs false
set_option linter.unusedVariables false

/-! types, and how they lie in registers -/
inductive Ty where
  | num
  | pair (a b : Ty)
  | seq (a : Ty)
  deriving DecidableEq

def Ty.enc : Ty → AV
  | .num => .agg [.int .i64 1, .int .i64 0, .nils]
  | .pair a b => .agg [.int .i64 2, .int .i64 0, .slice [a.enc, b.enc] .dead]
  | .seq a => .agg [.int .i64 4, .int .i64 0, .slice [a.enc] .dead]

def Ty.regs : Ty → Int × Int
  | .num => (1, 0)
  | .pair a b => (a.regs.1 + b.regs.1, a.regs.2 + b.regs.2)
  | .seq a => (2, a.regs.1 + a.regs.2)

def Ty.kind : Ty → Int
  | .num => 1
  | .pair _ _ => 2
  | .seq _ => 4

def Ty.lay : Ty → AV
  | .num => .rptr [.int .i64 1, .int .i64 0, .int .i64 1, .nils]
  | .pair a b => .rptr [.int .i64 (a.regs.1 + b.regs.1), .int .i64 (a.regs.2 + b.regs.2), .int .i64 2, .slice [a.lay, b.lay] .dead]
  | .seq a => .rptr [.int .i64 2, .int .i64 (a.regs.1 + a.regs.2), .int .i64 4, .slice [a.lay] .dead]

theorem Ty.enc_inj : ∀ {a b : Ty}, a.enc = b.enc → a = b
  | .num, .num, _ => rfl
  | .pair a b, .pair c d, h => by
    simp only [Ty.enc, AV.agg.injEq, List.cons.injEq, AV.slice.injEq, true_and, and_true] at h
    rw [Ty.enc_inj h.1, Ty.enc_inj h.2]
  | .seq a, .seq c, h => by
    simp only [Ty.enc, AV.agg.injEq, List.cons.injEq, AV.slice.injEq, true_and, and_true] at h
    rw [Ty.enc_inj h]
  | .num, .pair _ _, h | .num, .seq _, h | .pair _ _, .num, h | .pair _ _, .seq _, h | .seq _, .num, h | .seq _, .pair _ _, h => by simp [Ty.enc] at h

theorem Ty.lay_inj : ∀ {a b : Ty}, a.lay = b.lay → a = b
  | .num, .num, _ => rfl
  | .pair a b, .pair c d, h => by
    simp only [Ty.lay, AV.rptr.injEq, List.cons.injEq, AV.slice.injEq, true_and, and_true] at h
    rw [Ty.lay_inj h.2.2.1, Ty.lay_inj h.2.2.2]
  | .seq a, .seq c, h => by
    simp only [Ty.lay, AV.rptr.injEq, List.cons.injEq, AV.slice.injEq, true_and, and_true] at h
    rw [Ty.lay_inj h.2]
  | .num, .pair _ _, h | .num, .seq _, h | .pair _ _, .num, h | .pair _ _, .seq _, h | .seq _, .num, h | .seq _, .pair _ _, h => by simp [Ty.lay] at h

theorem Ty.enc_pers : ∀ a : Ty, a.enc.pers = true
  | .num => rfl
  | .pair a b => by simp [Ty.enc, AV.pers, AV.persL, Ty.enc_pers a, Ty.enc_pers b]
  | .seq a => by simp [Ty.enc, AV.pers, AV.persL, Ty.enc_pers a]
theorem Ty.lay_pers : ∀ a : Ty, a.lay.pers = true
  | .num => rfl
  | .pair a b => by simp [Ty.lay, AV.pers, AV.persL, Ty.lay_pers a, Ty.lay_pers b]
  | .seq a => by simp [Ty.lay, AV.pers, AV.persL, Ty.lay_pers a]

def tDuos : Ty := .seq (.pair .num .num)
/-- the types that the programs take -/
def tComps : Ty := .pair .num tDuos
def tDist : Ty := .pair .num (.pair .num tDuos)
def tSpmv : Ty := .pair (.seq tDuos) (.seq .num)
def tWalk : Ty := .pair .num (.pair (.seq tDuos) (.seq .num))

def askedC : Con where
  f := 40
  X := Ty
  dom t := t = tComps ∨ t = tDist ∨ t = tSpmv ∨ t = tWalk ∨ t = tDuos
  enc t := [t.enc]
  res t := .ret t.lay

theorem asked_at (t : Ty) (h : (callS ED (sumOf []) 60 (.fn 40) [t.enc] S0).map (fun q => q.1.melt q.2) = some (.ret t.lay)) : ∃ n r S', callS ED (sumOf []) n (.fn 40) [t.enc] S0 = some (r, S') ∧ r.melt S' = .ret t.lay := by
  cases hq : callS ED (sumOf []) 60 (.fn 40) [t.enc] S0 with
  | none => rw [hq] at h; cases h
  | some q =>
    rw [hq] at h
    exact ⟨60, q.1, q.2, hq, Option.some.inj h⟩

theorem asked1 : (callS ED (sumOf []) 60 (.fn 40) [tComps.enc] S0).map (fun q => q.1.melt q.2) = some (.ret tComps.lay) := by kernel_rfl
theorem asked2 : (callS ED (sumOf []) 60 (.fn 40) [tDist.enc] S0).map (fun q => q.1.melt q.2) = some (.ret tDist.lay) := by kernel_rfl
theorem asked3 : (callS ED (sumOf []) 60 (.fn 40) [tSpmv.enc] S0).map (fun q => q.1.melt q.2) = some (.ret tSpmv.lay) := by kernel_rfl
theorem asked4 : (callS ED (sumOf []) 60 (.fn 40) [tWalk.enc] S0).map (fun q => q.1.melt q.2) = some (.ret tWalk.lay) := by kernel_rfl
theorem asked5 : (callS ED (sumOf []) 60 (.fn 40) [tDuos.enc] S0).map (fun q => q.1.melt q.2) = some (.ret tDuos.lay) := by kernel_rfl

theorem asked_ok : askedC.Ok Tryd.prog ED := by
  refine Con.ok_of (cs := []) ED_ok ED_pers (by simp) (fun (t : Ty) ht => ⟨by show AV.persL [t.enc] = true; simp [AV.persL, Ty.enc_pers], Ty.lay_pers t, ?_⟩)
  show ∃ n r S', callS ED (sumOf []) n (.fn 40) [t.enc] S0 = some (r, S') ∧ r.melt S' = .ret t.lay
  rcases ht with h | h | h | h | h
  · subst h; exact asked_at _ asked1
  · subst h; exact asked_at _ asked2
  · subst h; exact asked_at _ asked3
  · subst h; exact asked_at _ asked4
  · subst h; exact asked_at _ asked5

theorem asked_use {cs : List Con} (h : sumOf cs 40 = askedC.look) {n : Nat} {t : Ty} {S : St} (ht : t = tComps ∨ t = tDist ∨ t = tSpmv ∨ t = tWalk ∨ t = tDuos) :
    callS ED (sumOf cs) n (.fn 40) [t.enc] S = some (.ret t.lay, S) :=
  Con.use (c := askedC) (fun (x y : Ty) hx hy h => by
    have h' : [x.enc] = [y.enc] := h
    simp only [List.cons.injEq, and_true] at h'
    rw [Ty.enc_inj h']) h t ht (by show [t.enc.dead] = [t.enc]; rw [dead_of_pers _ (Ty.enc_pers t)])

end Go.Proofs.YtjgigcaelcapdaaDoor

namespace Go.Proofs.YtjgigcaelcapdaaDoor
open Go Go.Vm Go.Vm.T
set_option maxRecDepth 100000
set_option linter.unusedSimpArgs false
set_option linter.unusedVariables false

def isWord (z : Int) : Prop := -2147483648 ≤ z ∧ z ≤ 2147483647

mutual
def HasTy : Ty → GV → Prop
  | .num, .num z => isWord z
  | .pair a b, .pair x y => HasTy a x ∧ HasTy b y
  | .seq a, .seq l => l.length ≤ 1000 ∧ HasTys a l
  | _, _ => False
def HasTys : Ty → List GV → Prop
  | _, [] => True
  | a, x :: l => HasTy a x ∧ HasTys a l
end

theorem HasTys.get {a : Ty} : ∀ {l : List GV} {j : Nat} (h : j < l.length), HasTys a l → HasTy a l[j]
  | x :: l, 0, _, h => h.1
  | x :: l, j + 1, hj, h => HasTys.get (l := l) (j := j) (by simpa using hj) h.2

theorem hasTys_map {α : Type} {a : Ty} {f : α → GV} : ∀ {l : List α}, (∀ x ∈ l, HasTy a (f x)) → HasTys a (l.map f)
  | [], _ => trivial
  | x :: l, h => ⟨h x (by simp), hasTys_map fun y hy => h y (by simp [hy])⟩

def mustC : Con where
  f := 42
  X := Int
  dom _ := True
  enc e := [.bool true, .int .i64 e]
  res _ := .ret (.tup [])

theorem must_ok : mustC.Ok Tryd.prog ED := by
  refine Con.ok_at ED_ok ED_pers [] (by simp) (fun x _ => ⟨rfl, rfl⟩) ?_
  intro e _
  simp only [mustC] at e ⊢
  refine ⟨1, fun p hp => ?_⟩
  rw [callS_fn rfl]
  simp only [fnA, ED_fn42, fi42, Tryd.f42]
  simp [evalC_seq, evalC_region, runA_cons', runA_consN, runA_consG, guardR_true, guardR_false, guardV_bool, guardV_tup, runA_nil', inFrame, startLoc, startVals, Loc.clear, eff_move, eff_assign, eff_binOp, eff_build, eff_buildSlice, eff_alloc, eff_box, eff_store, eff_load, eff_fieldAddr, eff_field, eff_indexAddr, eff_slice, eff_extract, eff_pick, eff_unOp, eff_convert, eff_makeSlice, eff_makeFunc, eff_makeInterface, eff_nilCheck, eff_panic, eff_len1, eff_max2, eff_min2, eff_append2, eff_callV, stepE_val, contR_ok, contR_pan, outC_ok, outC_pan, thenC_normal, thenC_ret, thenC_exit, thenC_pan, blockC, evalC_ret, evalC_skip, evalC_exit, evalC_block, evalC_scope, evalC_loop, Loc.putO, Loc.put, idx, evO, constV, Loc.get, Vm.look, valO_some, bin_int, intA, evalC_cond, condC_true, condC_false, unwindA, resultsA, resultV, actA, pureA, storeA, loadA, fillE, repElems, TI.zeroV, fieldOf, fieldAddrA, fieldA, elemsA, retE, cells?_put_push, push_at, put_at, cellsOf?, Nat.add_assoc, n_push', n_put', isCell_undef, known_undef, cells_undef, isCell_bool, known_bool, cells_bool, isCell_int, known_int, cells_int, isCell_str, known_str, cells_str, isCell_nilp, known_nilp, cells_nilp, isCell_ptr, known_ptr, cells_ptr, isCell_rptr, known_rptr, cells_rptr, isCell_nils, known_nils, cells_nils, isCell_slice, known_slice, cells_slice, isCell_rsl, known_rsl, cells_rsl, isCell_nilm, known_nilm, cells_nilm, isCell_map, known_map, cells_map, isCell_fn, known_fn, cells_fn, isCell_yld, known_yld, cells_yld, isCell_nilf, known_nilf, cells_nilf, isCell_iface, known_iface, cells_iface, isCell_nili, known_nili, cells_nili, isCell_agg, known_agg, cells_agg, isCell_tup, known_tup, cells_tup, setCells, nowhere, GotF_some, Got_some, int_beq, int_bne, lenA, indexAddrA, unA]
  exact hp _ _ rfl

theorem must_use {cs : List Con} (h : sumOf cs 42 = mustC.look) {n : Nat} {e : Int} {S : St} : callS ED (sumOf cs) n (.fn 42) [.bool true, .int .i64 e] S = some (.ret (.tup []), S) :=
  Con.use (c := mustC) (fun _ _ _ _ _ => rfl) h (e : Int) trivial rfl

def numberC : Con where
  f := 61
  X := GV
  dom g := ∃ t, HasTy t g
  enc g := [g.enc]
  res _ := .ret (.bool true)

theorem number_ok : numberC.Ok Tryd.prog ED := by
  refine Con.ok_at ED_ok ED_pers [] (by simp) (fun (x : GV) _ => ⟨by show AV.persL [x.enc] = true; simp [AV.persL, GV.pers], rfl⟩) ?_
  rintro g ⟨t, ht⟩
  simp only [numberC] at g ⊢
  refine ⟨1, fun p hp => ?_⟩
  rw [callS_fn rfl]
  simp only [fnA, ED_fn61, fi61, Tryd.f61]
  cases g with
  | num z =>
    have hz : isWord z := by cases t <;> simp [HasTy] at ht <;> exact ht
    obtain ⟨h1, h2⟩ := hz
    simp [evalC_seq, evalC_region, runA_cons', runA_consN, runA_consG, guardR_true, guardR_false, guardV_bool, guardV_tup, runA_nil', inFrame, startLoc, startVals, Loc.clear, eff_move, eff_assign, eff_binOp, eff_build, eff_buildSlice, eff_alloc, eff_box, eff_store, eff_load, eff_fieldAddr, eff_field, eff_indexAddr, eff_slice, eff_extract, eff_pick, eff_unOp, eff_convert, eff_makeSlice, eff_makeFunc, eff_makeInterface, eff_nilCheck, eff_panic, eff_len1, eff_max2, eff_min2, eff_append2, eff_callV, stepE_val, contR_ok, contR_pan, outC_ok, outC_pan, thenC_normal, thenC_ret, thenC_exit, thenC_pan, blockC, evalC_ret, evalC_skip, evalC_exit, evalC_block, evalC_scope, evalC_loop, Loc.putO, Loc.put, idx, evO, constV, Loc.get, Vm.look, valO_some, bin_int, intA, evalC_cond, condC_true, condC_false, unwindA, resultsA, resultV, actA, pureA, storeA, loadA, fillE, repElems, TI.zeroV, fieldOf, fieldAddrA, fieldA, elemsA, retE, cells?_put_push, push_at, put_at, cellsOf?, Nat.add_assoc, n_push', n_put', isCell_undef, known_undef, cells_undef, isCell_bool, known_bool, cells_bool, isCell_int, known_int, cells_int, isCell_str, known_str, cells_str, isCell_nilp, known_nilp, cells_nilp, isCell_ptr, known_ptr, cells_ptr, isCell_rptr, known_rptr, cells_rptr, isCell_nils, known_nils, cells_nils, isCell_slice, known_slice, cells_slice, isCell_rsl, known_rsl, cells_rsl, isCell_nilm, known_nilm, cells_nilm, isCell_map, known_map, cells_map, isCell_fn, known_fn, cells_fn, isCell_yld, known_yld, cells_yld, isCell_nilf, known_nilf, cells_nilf, isCell_iface, known_iface, cells_iface, isCell_nili, known_nili, cells_nili, isCell_agg, known_agg, cells_agg, isCell_tup, known_tup, cells_tup, setCells, nowhere, GotF_some, Got_some, int_beq, int_bne, lenA, indexAddrA, GV.enc, wv, h1, h2]
    exact hp _ _ rfl
  | pair a b =>
    simp [evalC_seq, evalC_region, runA_cons', runA_consN, runA_consG, guardR_true, guardR_false, guardV_bool, guardV_tup, runA_nil', inFrame, startLoc, startVals, Loc.clear, eff_move, eff_assign, eff_binOp, eff_build, eff_buildSlice, eff_alloc, eff_box, eff_store, eff_load, eff_fieldAddr, eff_field, eff_indexAddr, eff_slice, eff_extract, eff_pick, eff_unOp, eff_convert, eff_makeSlice, eff_makeFunc, eff_makeInterface, eff_nilCheck, eff_panic, eff_len1, eff_max2, eff_min2, eff_append2, eff_callV, stepE_val, contR_ok, contR_pan, outC_ok, outC_pan, thenC_normal, thenC_ret, thenC_exit, thenC_pan, blockC, evalC_ret, evalC_skip, evalC_exit, evalC_block, evalC_scope, evalC_loop, Loc.putO, Loc.put, idx, evO, constV, Loc.get, Vm.look, valO_some, bin_int, intA, evalC_cond, condC_true, condC_false, unwindA, resultsA, resultV, actA, pureA, storeA, loadA, fillE, repElems, TI.zeroV, fieldOf, fieldAddrA, fieldA, elemsA, retE, cells?_put_push, push_at, put_at, cellsOf?, Nat.add_assoc, n_push', n_put', isCell_undef, known_undef, cells_undef, isCell_bool, known_bool, cells_bool, isCell_int, known_int, cells_int, isCell_str, known_str, cells_str, isCell_nilp, known_nilp, cells_nilp, isCell_ptr, known_ptr, cells_ptr, isCell_rptr, known_rptr, cells_rptr, isCell_nils, known_nils, cells_nils, isCell_slice, known_slice, cells_slice, isCell_rsl, known_rsl, cells_rsl, isCell_nilm, known_nilm, cells_nilm, isCell_map, known_map, cells_map, isCell_fn, known_fn, cells_fn, isCell_yld, known_yld, cells_yld, isCell_nilf, known_nilf, cells_nilf, isCell_iface, known_iface, cells_iface, isCell_nili, known_nili, cells_nili, isCell_agg, known_agg, cells_agg, isCell_tup, known_tup, cells_tup, setCells, nowhere, GotF_some, Got_some, int_beq, int_bne, lenA, indexAddrA, GV.enc, pv]
    exact hp _ _ rfl
  | seq l =>
    simp [evalC_seq, evalC_region, runA_cons', runA_consN, runA_consG, guardR_true, guardR_false, guardV_bool, guardV_tup, runA_nil', inFrame, startLoc, startVals, Loc.clear, eff_move, eff_assign, eff_binOp, eff_build, eff_buildSlice, eff_alloc, eff_box, eff_store, eff_load, eff_fieldAddr, eff_field, eff_indexAddr, eff_slice, eff_extract, eff_pick, eff_unOp, eff_convert, eff_makeSlice, eff_makeFunc, eff_makeInterface, eff_nilCheck, eff_panic, eff_len1, eff_max2, eff_min2, eff_append2, eff_callV, stepE_val, contR_ok, contR_pan, outC_ok, outC_pan, thenC_normal, thenC_ret, thenC_exit, thenC_pan, blockC, evalC_ret, evalC_skip, evalC_exit, evalC_block, evalC_scope, evalC_loop, Loc.putO, Loc.put, idx, evO, constV, Loc.get, Vm.look, valO_some, bin_int, intA, evalC_cond, condC_true, condC_false, unwindA, resultsA, resultV, actA, pureA, storeA, loadA, fillE, repElems, TI.zeroV, fieldOf, fieldAddrA, fieldA, elemsA, retE, cells?_put_push, push_at, put_at, cellsOf?, Nat.add_assoc, n_push', n_put', isCell_undef, known_undef, cells_undef, isCell_bool, known_bool, cells_bool, isCell_int, known_int, cells_int, isCell_str, known_str, cells_str, isCell_nilp, known_nilp, cells_nilp, isCell_ptr, known_ptr, cells_ptr, isCell_rptr, known_rptr, cells_rptr, isCell_nils, known_nils, cells_nils, isCell_slice, known_slice, cells_slice, isCell_rsl, known_rsl, cells_rsl, isCell_nilm, known_nilm, cells_nilm, isCell_map, known_map, cells_map, isCell_fn, known_fn, cells_fn, isCell_yld, known_yld, cells_yld, isCell_nilf, known_nilf, cells_nilf, isCell_iface, known_iface, cells_iface, isCell_nili, known_nili, cells_nili, isCell_agg, known_agg, cells_agg, isCell_tup, known_tup, cells_tup, setCells, nowhere, GotF_some, Got_some, int_beq, int_bne, lenA, indexAddrA, GV.enc, sv]
    have hk : (lst (GV.encs l)).known = true ∧ (lst (GV.encs l)).isCell = true := by cases GV.encs l <;> exact ⟨rfl, rfl⟩
    exact hp _ _ rfl

theorem number_use {cs : List Con} (h : sumOf cs 61 = numberC.look) {n : Nat} {g : GV} {S : St} (hg : ∃ t, HasTy t g) : callS ED (sumOf cs) n (.fn 61) [g.enc] S = some (.ret (.bool true), S) :=
  Con.use (c := numberC) (fun _ _ _ _ _ => rfl) h (g : GV) hg (by show [g.enc.dead] = [g.enc]; simp)

/-! has -/
structure HasX where
  t : Ty
  g : GV
def hasC (ts : List Ty) : Con where
  f := 43
  X := HasX
  dom x := x.t ∈ ts ∧ HasTy x.t x.g
  enc x := [x.t.lay, x.g.enc]
  res _ := .ret (.bool true)

theorem has_cons {t : Ty} {ts : List Ty} (h : (hasC [t]).Ok Tryd.prog ED) (k : (hasC ts).Ok Tryd.prog ED) : (hasC (t :: ts)).Ok Tryd.prog ED := by
  refine ⟨fun x hx => ?_, fun x hx => ?_⟩
  · rcases List.mem_cons.1 hx.1 with h1 | h1
    · exact h.pers x ⟨by simp [h1], hx.2⟩
    · exact k.pers x ⟨h1, hx.2⟩
  · rcases List.mem_cons.1 hx.1 with h1 | h1
    · exact h.sound x ⟨by simp [h1], hx.2⟩
    · exact k.sound x ⟨h1, hx.2⟩

theorem has_use {cs : List Con} {ts : List Ty} (h : sumOf cs 43 = (hasC ts).look) {n : Nat} {t : Ty} {g : GV} {S : St} (ht : t ∈ ts) (hg : HasTy t g) : callS ED (sumOf cs) n (.fn 43) [t.lay, g.enc] S = some (.ret (.bool true), S) :=
  Con.use (c := hasC ts) (fun _ _ _ _ _ => rfl) h ⟨t, g⟩ ⟨ht, hg⟩ (by show [t.lay.dead, g.enc.dead] = [t.lay, g.enc]; simp [dead_of_pers _ (Ty.lay_pers t)])

theorem has_not {ts : List Ty} {t : Ty} {g : GV} (ht : t ∉ ts) {cs : List Con} (h : sumOf cs 43 = (hasC ts).look) : sumOf cs 43 ([t.lay, g.enc].map AV.dead) = none := by
  refine (congrFun h _).trans (Con.look_none fun x hx e => ?_)
  have e' : [x.t.lay, x.g.enc] = [t.lay, g.enc] := by
    have : [t.lay, g.enc].map AV.dead = [t.lay, g.enc] := by simp [dead_of_pers _ (Ty.lay_pers t)]
    exact Eq.trans e this
  simp only [List.cons.injEq, and_true] at e'
  have hx1 : x.t ∈ ts := hx.1
  rw [Ty.lay_inj e'.1] at hx1
  exact ht hx1

theorem has_pers {ts : List Ty} (x : HasX) : AV.persL ((hasC ts).enc x) = true ∧ ((hasC ts).res x).pers = true :=
  ⟨by show AV.persL [x.t.lay, x.g.enc] = true; simp [AV.persL, Ty.lay_pers, GV.pers], rfl⟩

theorem has_num_ok : (hasC [.num]).Ok Tryd.prog ED := by
  refine Con.ok_at ED_ok ED_pers [numberC] (by simpa using number_ok) (fun x _ => has_pers x) ?_
  rintro ⟨t, g⟩ ⟨ht, hg⟩
  simp only [hasC, List.mem_singleton] at ht hg ⊢
  subst ht
  refine ⟨2, fun p hp => ?_⟩
  rw [callS_fn rfl]
  have d0 := @dr43_0
  simp only [drA, drawsOf, Option.getD_some, List.nil_append, List.append_nil, List.getD_cons_zero, List.getD_cons_succ, List.cons_append, Tryd.f43] at d0
  have hnu := fun (n : Nat) (S : St) => number_use (cs := [numberC]) rfl (n := n) (S := S) (g := g) ⟨_, hg⟩
  simp only [fnA, ED_fn43, fi43, Tryd.f43]
  cases g with
  | num z =>
    simp only [GV.enc, wv] at hnu
    simp [evalC_seq, evalC_region, runA_cons', runA_consN, runA_consG, guardR_true, guardR_false, guardV_bool, guardV_tup, runA_nil', inFrame, startLoc, startVals, Loc.clear, eff_move, eff_assign, eff_binOp, eff_build, eff_buildSlice, eff_alloc, eff_box, eff_store, eff_load, eff_fieldAddr, eff_field, eff_indexAddr, eff_slice, eff_extract, eff_pick, eff_unOp, eff_convert, eff_makeSlice, eff_makeFunc, eff_makeInterface, eff_nilCheck, eff_panic, eff_len1, eff_max2, eff_min2, eff_append2, eff_callV, stepE_val, contR_ok, contR_pan, outC_ok, outC_pan, thenC_normal, thenC_ret, thenC_exit, thenC_pan, blockC, evalC_ret, evalC_skip, evalC_exit, evalC_block, evalC_scope, evalC_loop, Loc.putO, Loc.put, idx, evO, constV, Loc.get, Vm.look, valO_some, bin_int, intA, evalC_cond, condC_true, condC_false, unwindA, resultsA, resultV, actA, pureA, storeA, loadA, fillE, repElems, TI.zeroV, fieldOf, fieldAddrA, fieldA, elemsA, retE, cells?_put_push, push_at, put_at, cellsOf?, Nat.add_assoc, n_push', n_put', isCell_undef, known_undef, cells_undef, isCell_bool, known_bool, cells_bool, isCell_int, known_int, cells_int, isCell_str, known_str, cells_str, isCell_nilp, known_nilp, cells_nilp, isCell_ptr, known_ptr, cells_ptr, isCell_rptr, known_rptr, cells_rptr, isCell_nils, known_nils, cells_nils, isCell_slice, known_slice, cells_slice, isCell_rsl, known_rsl, cells_rsl, isCell_nilm, known_nilm, cells_nilm, isCell_map, known_map, cells_map, isCell_fn, known_fn, cells_fn, isCell_yld, known_yld, cells_yld, isCell_nilf, known_nilf, cells_nilf, isCell_iface, known_iface, cells_iface, isCell_nili, known_nili, cells_nili, isCell_agg, known_agg, cells_agg, isCell_tup, known_tup, cells_tup, setCells, nowhere, GotF_some, Got_some, int_beq, int_bne, lenA, indexAddrA, runC_nil, runC_cons, pickC_some, wantC_tt, wantC_tf, effC_val, ifC_true, checkC, inPairs, keepC, okC, readsC_load, readV_some, AV.beq_self, wantA_n, wantA_g, wantD_some, d0, GV.enc, wv, Ty.lay, hnu, unA, gl, ints]
    generalize hc : iter _ _ _ _ = c
    rw [iter_succ] at hc
    simp [evalC_seq, evalC_region, runA_cons', runA_consN, runA_consG, guardR_true, guardR_false, guardV_bool, guardV_tup, runA_nil', inFrame, startLoc, startVals, Loc.clear, eff_move, eff_assign, eff_binOp, eff_build, eff_buildSlice, eff_alloc, eff_box, eff_store, eff_load, eff_fieldAddr, eff_field, eff_indexAddr, eff_slice, eff_extract, eff_pick, eff_unOp, eff_convert, eff_makeSlice, eff_makeFunc, eff_makeInterface, eff_nilCheck, eff_panic, eff_len1, eff_max2, eff_min2, eff_append2, eff_callV, stepE_val, contR_ok, contR_pan, outC_ok, outC_pan, thenC_normal, thenC_ret, thenC_exit, thenC_pan, blockC, evalC_ret, evalC_skip, evalC_exit, evalC_block, evalC_scope, evalC_loop, Loc.putO, Loc.put, idx, evO, constV, Loc.get, Vm.look, valO_some, bin_int, intA, evalC_cond, condC_true, condC_false, unwindA, resultsA, resultV, actA, pureA, storeA, loadA, fillE, repElems, TI.zeroV, fieldOf, fieldAddrA, fieldA, elemsA, retE, cells?_put_push, push_at, put_at, cellsOf?, Nat.add_assoc, n_push', n_put', isCell_undef, known_undef, cells_undef, isCell_bool, known_bool, cells_bool, isCell_int, known_int, cells_int, isCell_str, known_str, cells_str, isCell_nilp, known_nilp, cells_nilp, isCell_ptr, known_ptr, cells_ptr, isCell_rptr, known_rptr, cells_rptr, isCell_nils, known_nils, cells_nils, isCell_slice, known_slice, cells_slice, isCell_rsl, known_rsl, cells_rsl, isCell_nilm, known_nilm, cells_nilm, isCell_map, known_map, cells_map, isCell_fn, known_fn, cells_fn, isCell_yld, known_yld, cells_yld, isCell_nilf, known_nilf, cells_nilf, isCell_iface, known_iface, cells_iface, isCell_nili, known_nili, cells_nili, isCell_agg, known_agg, cells_agg, isCell_tup, known_tup, cells_tup, setCells, nowhere, GotF_some, Got_some, int_beq, int_bne, lenA, indexAddrA] at hc
    subst hc
    simp [evalC_seq, evalC_region, runA_cons', runA_consN, runA_consG, guardR_true, guardR_false, guardV_bool, guardV_tup, runA_nil', inFrame, startLoc, startVals, Loc.clear, eff_move, eff_assign, eff_binOp, eff_build, eff_buildSlice, eff_alloc, eff_box, eff_store, eff_load, eff_fieldAddr, eff_field, eff_indexAddr, eff_slice, eff_extract, eff_pick, eff_unOp, eff_convert, eff_makeSlice, eff_makeFunc, eff_makeInterface, eff_nilCheck, eff_panic, eff_len1, eff_max2, eff_min2, eff_append2, eff_callV, stepE_val, contR_ok, contR_pan, outC_ok, outC_pan, thenC_normal, thenC_ret, thenC_exit, thenC_pan, blockC, evalC_ret, evalC_skip, evalC_exit, evalC_block, evalC_scope, evalC_loop, Loc.putO, Loc.put, idx, evO, constV, Loc.get, Vm.look, valO_some, bin_int, intA, evalC_cond, condC_true, condC_false, unwindA, resultsA, resultV, actA, pureA, storeA, loadA, fillE, repElems, TI.zeroV, fieldOf, fieldAddrA, fieldA, elemsA, retE, cells?_put_push, push_at, put_at, cellsOf?, Nat.add_assoc, n_push', n_put', isCell_undef, known_undef, cells_undef, isCell_bool, known_bool, cells_bool, isCell_int, known_int, cells_int, isCell_str, known_str, cells_str, isCell_nilp, known_nilp, cells_nilp, isCell_ptr, known_ptr, cells_ptr, isCell_rptr, known_rptr, cells_rptr, isCell_nils, known_nils, cells_nils, isCell_slice, known_slice, cells_slice, isCell_rsl, known_rsl, cells_rsl, isCell_nilm, known_nilm, cells_nilm, isCell_map, known_map, cells_map, isCell_fn, known_fn, cells_fn, isCell_yld, known_yld, cells_yld, isCell_nilf, known_nilf, cells_nilf, isCell_iface, known_iface, cells_iface, isCell_nili, known_nili, cells_nili, isCell_agg, known_agg, cells_agg, isCell_tup, known_tup, cells_tup, setCells, nowhere, GotF_some, Got_some, int_beq, int_bne, lenA, indexAddrA]
    exact hp _ _ rfl
  | _ => simp [HasTy] at hg

theorem gv_lst {l : List GV} : (lst (GV.encs l)).known = true ∧ (lst (GV.encs l)).isCell = true ∧ (lst (GV.encs l)).cells = [lst (GV.encs l)] := by cases GV.encs l <;> exact ⟨rfl, rfl, rfl⟩

theorem Ty.seq_ne : ∀ a : Ty, Ty.seq a ≠ a
  | .num => by simp
  | .pair _ _ => by simp
  | .seq b => by
    intro h
    simp only [Ty.seq.injEq] at h
    exact Ty.seq_ne b h

theorem has_seq_ok {a : Ty} (ha : (hasC [a]).Ok Tryd.prog ED) : (hasC [.seq a]).Ok Tryd.prog ED := by
  refine Con.ok_at ED_ok ED_pers [numberC, hasC [a]] (by simpa using ⟨number_ok, ha⟩) (fun x _ => has_pers x) ?_
  rintro ⟨t, g⟩ ⟨ht, hg⟩
  have ht' : t = .seq a := List.mem_singleton.1 ht
  subst ht'
  show ∃ n, ∀ p : FRes → St → Prop, (∀ r S', r.melt S' = .ret (.bool true) → p r S') → GotF (callS ED (sumOf [numberC, hasC [a]]) n (.fn 43) [Ty.lay (.seq a), g.enc] S0) p
  replace hg : HasTy (.seq a) g := hg
  refine ⟨1003, fun p hp => ?_⟩
  have hne : Ty.seq a ∉ [a] := by
    intro h
    exact Ty.seq_ne a (List.mem_singleton.1 h)
  rw [callS_fn' (has_not hne rfl)]
  have d0 := @dr43_0
  simp only [drA, drawsOf, Option.getD_some, List.nil_append, List.append_nil, List.getD_cons_zero, List.getD_cons_succ, List.cons_append, Tryd.f43] at d0
  have hnu := fun (n : Nat) (S : St) => number_use (cs := [numberC, hasC [a]]) rfl (n := n) (S := S) (g := g) ⟨_, hg⟩
  simp only [fnA, ED_fn43, fi43, Tryd.f43]
  cases g with
  | seq l =>
    obtain ⟨hlen, hl⟩ := hg
    have hlk := gv_lst (l := l)
    simp only [GV.enc, sv] at hnu
    simp [evalC_seq, evalC_region, runA_cons', runA_consN, runA_consG, guardR_true, guardR_false, guardV_bool, guardV_tup, runA_nil', inFrame, startLoc, startVals, Loc.clear, eff_move, eff_assign, eff_binOp, eff_build, eff_buildSlice, eff_alloc, eff_box, eff_store, eff_load, eff_fieldAddr, eff_field, eff_indexAddr, eff_slice, eff_extract, eff_pick, eff_unOp, eff_convert, eff_makeSlice, eff_makeFunc, eff_makeInterface, eff_nilCheck, eff_panic, eff_len1, eff_max2, eff_min2, eff_append2, eff_callV, stepE_val, contR_ok, contR_pan, outC_ok, outC_pan, thenC_normal, thenC_ret, thenC_exit, thenC_pan, blockC, evalC_ret, evalC_skip, evalC_exit, evalC_block, evalC_scope, evalC_loop, Loc.putO, Loc.put, idx, evO, constV, Loc.get, Vm.look, valO_some, bin_int, intA, evalC_cond, condC_true, condC_false, unwindA, resultsA, resultV, actA, pureA, storeA, loadA, fillE, repElems, TI.zeroV, fieldOf, fieldAddrA, fieldA, elemsA, retE, cells?_put_push, push_at, put_at, cellsOf?, Nat.add_assoc, n_push', n_put', isCell_undef, known_undef, cells_undef, isCell_bool, known_bool, cells_bool, isCell_int, known_int, cells_int, isCell_str, known_str, cells_str, isCell_nilp, known_nilp, cells_nilp, isCell_ptr, known_ptr, cells_ptr, isCell_rptr, known_rptr, cells_rptr, isCell_nils, known_nils, cells_nils, isCell_slice, known_slice, cells_slice, isCell_rsl, known_rsl, cells_rsl, isCell_nilm, known_nilm, cells_nilm, isCell_map, known_map, cells_map, isCell_fn, known_fn, cells_fn, isCell_yld, known_yld, cells_yld, isCell_nilf, known_nilf, cells_nilf, isCell_iface, known_iface, cells_iface, isCell_nili, known_nili, cells_nili, isCell_agg, known_agg, cells_agg, isCell_tup, known_tup, cells_tup, setCells, nowhere, GotF_some, Got_some, int_beq, int_bne, runC_nil, runC_cons, pickC_some, wantC_tt, wantC_tf, effC_val, ifC_true, checkC, inPairs, keepC, okC, readsC_load, readV_some, AV.beq_self, wantA_n, wantA_g, wantD_some, d0, GV.enc, sv, Ty.lay, hnu, unA, gl, ints, lst_len, indexAddrA, hlk]
    generalize hc : iter _ _ _ _ = c
    obtain ⟨e, L', S', rfl, hq⟩ := loop_of hc
      (fun k L S => ∃ j sc a5 a6 a7, j + k = l.length ∧ S.cells? 0 = some [.int .i64 4, .int .i64 0, lst (GV.encs l)] ∧
        L = vloc [.rptr [.int .i64 2, .int .i64 (a.regs.1 + a.regs.2), .int .i64 4, .slice [a.lay] .dead], .agg [.int .i64 4, .int .i64 0, lst (GV.encs l)], .ptr 0 0, .bool false, a5, a6, a7, lst (GV.encs l), .int .i64 l.length, .int .i64 (j : Nat)] sc)
      (fun e L S => e = .exit 0 ∧ ∃ sc a5 a6 a7 i,
        L = vloc [.rptr [.int .i64 2, .int .i64 (a.regs.1 + a.regs.2), .int .i64 4, .slice [a.lay] .dead], .agg [.int .i64 4, .int .i64 0, lst (GV.encs l)], .ptr 0 0, .bool false, a5, a6, a7, lst (GV.encs l), .int .i64 l.length, i] sc)
      l.length (by omega)
      (by
        refine ⟨0, _, _, _, _, by simp, ?_, rfl⟩
        simp [push_at, cellsOf?])
      (by
        rintro k L S ⟨j, sc, a5, a6, a7, hjk, h0, rfl⟩ q hq1 hq2
        by_cases hj : j < l.length
        · have hix := lst_index (l := l) (j := j) hj
          have hhas := fun (n : Nat) (S : St) => has_use (cs := [numberC, hasC [a]]) rfl (n := n) (S := S) (ts := [a]) (t := a) (g := l[j]) (by simp) (HasTys.get hj hl)
          have hw : IntKind.i64.wrap ((j : Int) + 1) = ((j : Int) + 1) := wrap_id (by omega) (by omega)
          obtain ⟨gk, gn, gx, ge, gc⟩ := l[j].shape
          rw [ge] at hix hhas
          have hpt : indexAddrA ED 100 (.slice [a.lay] .dead) (.int .i64 0) = some (.rptr [a.lay]) := by cases a <;> rfl
          have hlt := St.get_lt (cells?_inv h0)
          simp [evalC_seq, evalC_region, runA_cons', runA_consN, runA_consG, guardR_true, guardR_false, guardV_bool, guardV_tup, runA_nil', inFrame, startLoc, startVals, Loc.clear, eff_move, eff_assign, eff_binOp, eff_build, eff_buildSlice, eff_alloc, eff_box, eff_store, eff_load, eff_fieldAddr, eff_field, eff_indexAddr, eff_slice, eff_extract, eff_pick, eff_unOp, eff_convert, eff_makeSlice, eff_makeFunc, eff_makeInterface, eff_nilCheck, eff_panic, eff_len1, eff_max2, eff_min2, eff_append2, eff_callV, stepE_val, contR_ok, contR_pan, outC_ok, outC_pan, thenC_normal, thenC_ret, thenC_exit, thenC_pan, blockC, evalC_ret, evalC_skip, evalC_exit, evalC_block, evalC_scope, evalC_loop, Loc.putO, Loc.put, idx, evO, constV, Loc.get, Vm.look, valO_some, bin_int, intA, evalC_cond, condC_true, condC_false, unwindA, resultsA, resultV, actA, pureA, storeA, loadA, fillE, repElems, TI.zeroV, fieldOf, fieldAddrA, fieldA, elemsA, retE, cells?_put_push, push_at, put_at, cellsOf?, Nat.add_assoc, n_push', n_put', isCell_undef, known_undef, cells_undef, isCell_bool, known_bool, cells_bool, isCell_int, known_int, cells_int, isCell_str, known_str, cells_str, isCell_nilp, known_nilp, cells_nilp, isCell_ptr, known_ptr, cells_ptr, isCell_rptr, known_rptr, cells_rptr, isCell_nils, known_nils, cells_nils, isCell_slice, known_slice, cells_slice, isCell_rsl, known_rsl, cells_rsl, isCell_nilm, known_nilm, cells_nilm, isCell_map, known_map, cells_map, isCell_fn, known_fn, cells_fn, isCell_yld, known_yld, cells_yld, isCell_nilf, known_nilf, cells_nilf, isCell_iface, known_iface, cells_iface, isCell_nili, known_nili, cells_nili, isCell_agg, known_agg, cells_agg, isCell_tup, known_tup, cells_tup, setCells, nowhere, GotF_some, Got_some, int_beq, int_bne, vloc, hj, h0, hix, hhas, hw, unA, lst_len, gc, hpt]
          refine hq1 (k - 1) _ _ (by omega) ⟨j + 1, _, _, _, _, by omega, ?_, rfl⟩
          exact cells_box h0
        · have hjl : j = l.length := by omega
          subst hjl
          simp [evalC_seq, evalC_region, runA_cons', runA_consN, runA_consG, guardR_true, guardR_false, guardV_bool, guardV_tup, runA_nil', inFrame, startLoc, startVals, Loc.clear, eff_move, eff_assign, eff_binOp, eff_build, eff_buildSlice, eff_alloc, eff_box, eff_store, eff_load, eff_fieldAddr, eff_field, eff_indexAddr, eff_slice, eff_extract, eff_pick, eff_unOp, eff_convert, eff_makeSlice, eff_makeFunc, eff_makeInterface, eff_nilCheck, eff_panic, eff_len1, eff_max2, eff_min2, eff_append2, eff_callV, stepE_val, contR_ok, contR_pan, outC_ok, outC_pan, thenC_normal, thenC_ret, thenC_exit, thenC_pan, blockC, evalC_ret, evalC_skip, evalC_exit, evalC_block, evalC_scope, evalC_loop, Loc.putO, Loc.put, idx, evO, constV, Loc.get, Vm.look, valO_some, bin_int, intA, evalC_cond, condC_true, condC_false, unwindA, resultsA, resultV, actA, pureA, storeA, loadA, fillE, repElems, TI.zeroV, fieldOf, fieldAddrA, fieldA, elemsA, retE, cells?_put_push, push_at, put_at, cellsOf?, Nat.add_assoc, n_push', n_put', isCell_undef, known_undef, cells_undef, isCell_bool, known_bool, cells_bool, isCell_int, known_int, cells_int, isCell_str, known_str, cells_str, isCell_nilp, known_nilp, cells_nilp, isCell_ptr, known_ptr, cells_ptr, isCell_rptr, known_rptr, cells_rptr, isCell_nils, known_nils, cells_nils, isCell_slice, known_slice, cells_slice, isCell_rsl, known_rsl, cells_rsl, isCell_nilm, known_nilm, cells_nilm, isCell_map, known_map, cells_map, isCell_fn, known_fn, cells_fn, isCell_yld, known_yld, cells_yld, isCell_nilf, known_nilf, cells_nilf, isCell_iface, known_iface, cells_iface, isCell_nili, known_nili, cells_nili, isCell_agg, known_agg, cells_agg, isCell_tup, known_tup, cells_tup, setCells, nowhere, GotF_some, Got_some, int_beq, int_bne, vloc]
          refine hq2 _ _ _ (by simp) ⟨rfl, _, _, _, _, _, rfl⟩)
    obtain ⟨rfl, sc, a5, a6, a7, i, rfl⟩ := hq
    simp [evalC_seq, evalC_region, runA_cons', runA_consN, runA_consG, guardR_true, guardR_false, guardV_bool, guardV_tup, runA_nil', inFrame, startLoc, startVals, Loc.clear, eff_move, eff_assign, eff_binOp, eff_build, eff_buildSlice, eff_alloc, eff_box, eff_store, eff_load, eff_fieldAddr, eff_field, eff_indexAddr, eff_slice, eff_extract, eff_pick, eff_unOp, eff_convert, eff_makeSlice, eff_makeFunc, eff_makeInterface, eff_nilCheck, eff_panic, eff_len1, eff_max2, eff_min2, eff_append2, eff_callV, stepE_val, contR_ok, contR_pan, outC_ok, outC_pan, thenC_normal, thenC_ret, thenC_exit, thenC_pan, blockC, evalC_ret, evalC_skip, evalC_exit, evalC_block, evalC_scope, evalC_loop, Loc.putO, Loc.put, idx, evO, constV, Loc.get, Vm.look, valO_some, bin_int, intA, evalC_cond, condC_true, condC_false, unwindA, resultsA, resultV, actA, pureA, storeA, loadA, fillE, repElems, TI.zeroV, fieldOf, fieldAddrA, fieldA, elemsA, retE, cells?_put_push, push_at, put_at, cellsOf?, Nat.add_assoc, n_push', n_put', isCell_undef, known_undef, cells_undef, isCell_bool, known_bool, cells_bool, isCell_int, known_int, cells_int, isCell_str, known_str, cells_str, isCell_nilp, known_nilp, cells_nilp, isCell_ptr, known_ptr, cells_ptr, isCell_rptr, known_rptr, cells_rptr, isCell_nils, known_nils, cells_nils, isCell_slice, known_slice, cells_slice, isCell_rsl, known_rsl, cells_rsl, isCell_nilm, known_nilm, cells_nilm, isCell_map, known_map, cells_map, isCell_fn, known_fn, cells_fn, isCell_yld, known_yld, cells_yld, isCell_nilf, known_nilf, cells_nilf, isCell_iface, known_iface, cells_iface, isCell_nili, known_nili, cells_nili, isCell_agg, known_agg, cells_agg, isCell_tup, known_tup, cells_tup, setCells, nowhere, GotF_some, Got_some, int_beq, int_bne, vloc]
    exact hp _ _ rfl
  | _ => simp [HasTy] at hg

end Go.Proofs.YtjgigcaelcapdaaDoor

namespace Go.Proofs.YtjgigcaelcapdaaDoor
open Go Go.Vm Go.Vm.T
set_option maxRecDepth 100000
set_option linter.unusedSimpArgs false
set_option linter.unusedVariables false

theorem Ty.pair_ne1 : ∀ a b : Ty, Ty.pair a b ≠ a
  | .num, b => by simp
  | .seq _, b => by simp
  | .pair c d, b => by
    intro h
    simp only [Ty.pair.injEq] at h
    exact Ty.pair_ne1 c d h.1
theorem Ty.pair_ne2 : ∀ a b : Ty, Ty.pair a b ≠ b
  | a, .num => by simp
  | a, .seq _ => by simp
  | a, .pair c d => by
    intro h
    simp only [Ty.pair.injEq] at h
    exact Ty.pair_ne2 c d h.2

theorem has_pair_ok {a b : Ty} (hab : (hasC [a, b]).Ok Tryd.prog ED) : (hasC [.pair a b]).Ok Tryd.prog ED := by
  refine Con.ok_at ED_ok ED_pers [numberC, hasC [a, b]] (by simpa using ⟨number_ok, hab⟩) (fun x _ => has_pers x) ?_
  rintro ⟨t, g⟩ ⟨ht, hg⟩
  have ht' : t = .pair a b := List.mem_singleton.1 ht
  subst ht'
  show ∃ n, ∀ p : FRes → St → Prop, (∀ r S', r.melt S' = .ret (.bool true) → p r S') → GotF (callS ED (sumOf [numberC, hasC [a, b]]) n (.fn 43) [Ty.lay (.pair a b), g.enc] S0) p
  replace hg : HasTy (.pair a b) g := hg
  refine ⟨5, fun p hp => ?_⟩
  have hne : Ty.pair a b ∉ [a, b] := by
    intro h
    rcases List.mem_cons.1 h with h | h
    · exact Ty.pair_ne1 a b h
    · exact Ty.pair_ne2 a b (List.mem_singleton.1 h)
  rw [callS_fn' (has_not hne rfl)]
  have d0 := @dr43_0
  simp only [drA, drawsOf, Option.getD_some, List.nil_append, List.append_nil, List.getD_cons_zero, List.getD_cons_succ, List.cons_append, Tryd.f43] at d0
  have hnu := fun (n : Nat) (S : St) => number_use (cs := [numberC, hasC [a, b]]) rfl (n := n) (S := S) (g := g) ⟨_, hg⟩
  simp only [fnA, ED_fn43, fi43, Tryd.f43]
  cases g with
  | pair x y =>
    obtain ⟨hx, hy⟩ := hg
    have hh1 := fun (n : Nat) (S : St) => has_use (cs := [numberC, hasC [a, b]]) rfl (n := n) (S := S) (ts := [a, b]) (t := a) (g := x) (by simp) hx
    have hh2 := fun (n : Nat) (S : St) => has_use (cs := [numberC, hasC [a, b]]) rfl (n := n) (S := S) (ts := [a, b]) (t := b) (g := y) (by simp) hy
    obtain ⟨k1, n1, x1, e1, c1⟩ := x.shape
    obtain ⟨k2, n2, x2, e2, c2⟩ := y.shape
    have hpt0 : indexAddrA ED 100 (.slice [a.lay, b.lay] .dead) (.int .i64 0) = some (.rptr [a.lay]) := by cases a <;> rfl
    have hpt1 : indexAddrA ED 100 (.slice [a.lay, b.lay] .dead) (.int .i64 1) = some (.rptr [b.lay]) := by cases b <;> rfl
    have hv0 : ∀ u v : List AV, u.length = 3 → indexAddrA ED 24 (.slice [.agg u, .agg v] .dead) (.int .i64 0) = some (.rptr u) := by intro u v h; simp [indexAddrA, AV.cells, h]
    have hv1 : ∀ u v : List AV, v.length = 3 → indexAddrA ED 24 (.slice [.agg u, .agg v] .dead) (.int .i64 1) = some (.rptr v) := by intro u v h; simp [indexAddrA, AV.cells, h]
    have hv0' := hv0 [.int .i64 k1, .int .i64 n1, x1] [.int .i64 k2, .int .i64 n2, x2] rfl
    have hv1' := hv1 [.int .i64 k1, .int .i64 n1, x1] [.int .i64 k2, .int .i64 n2, x2] rfl
    have hki : indexAddrA ED 97 (.rptr [.int .i64 0, .int .i64 1, .int .i64 2, .int .i64 3, .int .i64 4]) (.int .i64 2) = some (.rptr [.int .i64 2, .int .i64 3, .int .i64 4]) := rfl
    simp only [GV.enc, pv] at hnu
    rw [e1] at hnu hh1
    rw [e2] at hnu hh2
    simp only [GV.enc, pv, e1, e2]
    have hw0 : IntKind.i64.wrap 1 = 1 := rfl
    have hw1 : IntKind.i64.wrap 2 = 2 := rfl
    simp [evalC_seq, evalC_region, runA_cons', runA_consN, runA_consG, guardR_true, guardR_false, guardV_bool, guardV_tup, runA_nil', inFrame, startLoc, startVals, Loc.clear, eff_move, eff_assign, eff_binOp, eff_build, eff_buildSlice, eff_alloc, eff_box, eff_store, eff_load, eff_fieldAddr, eff_field, eff_indexAddr, eff_slice, eff_extract, eff_pick, eff_unOp, eff_convert, eff_makeSlice, eff_makeFunc, eff_makeInterface, eff_nilCheck, eff_panic, eff_len1, eff_max2, eff_min2, eff_append2, eff_callV, stepE_val, contR_ok, contR_pan, outC_ok, outC_pan, thenC_normal, thenC_ret, thenC_exit, thenC_pan, blockC, evalC_ret, evalC_skip, evalC_exit, evalC_block, evalC_scope, evalC_loop, Loc.putO, Loc.put, idx, evO, constV, Loc.get, Vm.look, valO_some, bin_int, intA, evalC_cond, condC_true, condC_false, unwindA, resultsA, resultV, actA, pureA, storeA, loadA, fillE, repElems, TI.zeroV, fieldOf, fieldAddrA, fieldA, elemsA, retE, cells?_put_push, push_at, put_at, cellsOf?, Nat.add_assoc, n_push', n_put', isCell_undef, known_undef, cells_undef, isCell_bool, known_bool, cells_bool, isCell_int, known_int, cells_int, isCell_str, known_str, cells_str, isCell_nilp, known_nilp, cells_nilp, isCell_ptr, known_ptr, cells_ptr, isCell_rptr, known_rptr, cells_rptr, isCell_nils, known_nils, cells_nils, isCell_slice, known_slice, cells_slice, isCell_rsl, known_rsl, cells_rsl, isCell_nilm, known_nilm, cells_nilm, isCell_map, known_map, cells_map, isCell_fn, known_fn, cells_fn, isCell_yld, known_yld, cells_yld, isCell_nilf, known_nilf, cells_nilf, isCell_iface, known_iface, cells_iface, isCell_nili, known_nili, cells_nili, isCell_agg, known_agg, cells_agg, isCell_tup, known_tup, cells_tup, setCells, nowhere, GotF_some, Got_some, int_beq, int_bne, runC_nil, runC_cons, pickC_some, wantC_tt, wantC_tf, effC_val, ifC_true, checkC, inPairs, keepC, okC, readsC_load, readV_some, AV.beq_self, wantA_n, wantA_g, wantD_some, d0, Ty.lay, hnu, unA, gl, ints, lenA, hki]
    generalize hc : iter _ _ _ _ = c
    rw [iter_succ] at hc
    simp [evalC_seq, evalC_region, runA_cons', runA_consN, runA_consG, guardR_true, guardR_false, guardV_bool, guardV_tup, runA_nil', inFrame, startLoc, startVals, Loc.clear, eff_move, eff_assign, eff_binOp, eff_build, eff_buildSlice, eff_alloc, eff_box, eff_store, eff_load, eff_fieldAddr, eff_field, eff_indexAddr, eff_slice, eff_extract, eff_pick, eff_unOp, eff_convert, eff_makeSlice, eff_makeFunc, eff_makeInterface, eff_nilCheck, eff_panic, eff_len1, eff_max2, eff_min2, eff_append2, eff_callV, stepE_val, contR_ok, contR_pan, outC_ok, outC_pan, thenC_normal, thenC_ret, thenC_exit, thenC_pan, blockC, evalC_ret, evalC_skip, evalC_exit, evalC_block, evalC_scope, evalC_loop, Loc.putO, Loc.put, idx, evO, constV, Loc.get, Vm.look, valO_some, bin_int, intA, evalC_cond, condC_true, condC_false, unwindA, resultsA, resultV, actA, pureA, storeA, loadA, fillE, repElems, TI.zeroV, fieldOf, fieldAddrA, fieldA, elemsA, retE, cells?_put_push, push_at, put_at, cellsOf?, Nat.add_assoc, n_push', n_put', isCell_undef, known_undef, cells_undef, isCell_bool, known_bool, cells_bool, isCell_int, known_int, cells_int, isCell_str, known_str, cells_str, isCell_nilp, known_nilp, cells_nilp, isCell_ptr, known_ptr, cells_ptr, isCell_rptr, known_rptr, cells_rptr, isCell_nils, known_nils, cells_nils, isCell_slice, known_slice, cells_slice, isCell_rsl, known_rsl, cells_rsl, isCell_nilm, known_nilm, cells_nilm, isCell_map, known_map, cells_map, isCell_fn, known_fn, cells_fn, isCell_yld, known_yld, cells_yld, isCell_nilf, known_nilf, cells_nilf, isCell_iface, known_iface, cells_iface, isCell_nili, known_nili, cells_nili, isCell_agg, known_agg, cells_agg, isCell_tup, known_tup, cells_tup, setCells, nowhere, GotF_some, Got_some, int_beq, int_bne, hv0', hpt0, hpt1, lenA, hh1, hh2, c1, c2, unA, hw0] at hc
    rw [iter_succ] at hc
    simp [evalC_seq, evalC_region, runA_cons', runA_consN, runA_consG, guardR_true, guardR_false, guardV_bool, guardV_tup, runA_nil', inFrame, startLoc, startVals, Loc.clear, eff_move, eff_assign, eff_binOp, eff_build, eff_buildSlice, eff_alloc, eff_box, eff_store, eff_load, eff_fieldAddr, eff_field, eff_indexAddr, eff_slice, eff_extract, eff_pick, eff_unOp, eff_convert, eff_makeSlice, eff_makeFunc, eff_makeInterface, eff_nilCheck, eff_panic, eff_len1, eff_max2, eff_min2, eff_append2, eff_callV, stepE_val, contR_ok, contR_pan, outC_ok, outC_pan, thenC_normal, thenC_ret, thenC_exit, thenC_pan, blockC, evalC_ret, evalC_skip, evalC_exit, evalC_block, evalC_scope, evalC_loop, Loc.putO, Loc.put, idx, evO, constV, Loc.get, Vm.look, valO_some, bin_int, intA, evalC_cond, condC_true, condC_false, unwindA, resultsA, resultV, actA, pureA, storeA, loadA, fillE, repElems, TI.zeroV, fieldOf, fieldAddrA, fieldA, elemsA, retE, cells?_put_push, push_at, put_at, cellsOf?, Nat.add_assoc, n_push', n_put', isCell_undef, known_undef, cells_undef, isCell_bool, known_bool, cells_bool, isCell_int, known_int, cells_int, isCell_str, known_str, cells_str, isCell_nilp, known_nilp, cells_nilp, isCell_ptr, known_ptr, cells_ptr, isCell_rptr, known_rptr, cells_rptr, isCell_nils, known_nils, cells_nils, isCell_slice, known_slice, cells_slice, isCell_rsl, known_rsl, cells_rsl, isCell_nilm, known_nilm, cells_nilm, isCell_map, known_map, cells_map, isCell_fn, known_fn, cells_fn, isCell_yld, known_yld, cells_yld, isCell_nilf, known_nilf, cells_nilf, isCell_iface, known_iface, cells_iface, isCell_nili, known_nili, cells_nili, isCell_agg, known_agg, cells_agg, isCell_tup, known_tup, cells_tup, setCells, nowhere, GotF_some, Got_some, int_beq, int_bne, hv1', hpt0, hpt1, lenA, hh1, hh2, c1, c2, unA, hw1] at hc
    rw [iter_succ] at hc
    simp [evalC_seq, evalC_region, runA_cons', runA_consN, runA_consG, guardR_true, guardR_false, guardV_bool, guardV_tup, runA_nil', inFrame, startLoc, startVals, Loc.clear, eff_move, eff_assign, eff_binOp, eff_build, eff_buildSlice, eff_alloc, eff_box, eff_store, eff_load, eff_fieldAddr, eff_field, eff_indexAddr, eff_slice, eff_extract, eff_pick, eff_unOp, eff_convert, eff_makeSlice, eff_makeFunc, eff_makeInterface, eff_nilCheck, eff_panic, eff_len1, eff_max2, eff_min2, eff_append2, eff_callV, stepE_val, contR_ok, contR_pan, outC_ok, outC_pan, thenC_normal, thenC_ret, thenC_exit, thenC_pan, blockC, evalC_ret, evalC_skip, evalC_exit, evalC_block, evalC_scope, evalC_loop, Loc.putO, Loc.put, idx, evO, constV, Loc.get, Vm.look, valO_some, bin_int, intA, evalC_cond, condC_true, condC_false, unwindA, resultsA, resultV, actA, pureA, storeA, loadA, fillE, repElems, TI.zeroV, fieldOf, fieldAddrA, fieldA, elemsA, retE, cells?_put_push, push_at, put_at, cellsOf?, Nat.add_assoc, n_push', n_put', isCell_undef, known_undef, cells_undef, isCell_bool, known_bool, cells_bool, isCell_int, known_int, cells_int, isCell_str, known_str, cells_str, isCell_nilp, known_nilp, cells_nilp, isCell_ptr, known_ptr, cells_ptr, isCell_rptr, known_rptr, cells_rptr, isCell_nils, known_nils, cells_nils, isCell_slice, known_slice, cells_slice, isCell_rsl, known_rsl, cells_rsl, isCell_nilm, known_nilm, cells_nilm, isCell_map, known_map, cells_map, isCell_fn, known_fn, cells_fn, isCell_yld, known_yld, cells_yld, isCell_nilf, known_nilf, cells_nilf, isCell_iface, known_iface, cells_iface, isCell_nili, known_nili, cells_nili, isCell_agg, known_agg, cells_agg, isCell_tup, known_tup, cells_tup, setCells, nowhere, GotF_some, Got_some, int_beq, int_bne] at hc
    subst hc
    simp [evalC_seq, evalC_region, runA_cons', runA_consN, runA_consG, guardR_true, guardR_false, guardV_bool, guardV_tup, runA_nil', inFrame, startLoc, startVals, Loc.clear, eff_move, eff_assign, eff_binOp, eff_build, eff_buildSlice, eff_alloc, eff_box, eff_store, eff_load, eff_fieldAddr, eff_field, eff_indexAddr, eff_slice, eff_extract, eff_pick, eff_unOp, eff_convert, eff_makeSlice, eff_makeFunc, eff_makeInterface, eff_nilCheck, eff_panic, eff_len1, eff_max2, eff_min2, eff_append2, eff_callV, stepE_val, contR_ok, contR_pan, outC_ok, outC_pan, thenC_normal, thenC_ret, thenC_exit, thenC_pan, blockC, evalC_ret, evalC_skip, evalC_exit, evalC_block, evalC_scope, evalC_loop, Loc.putO, Loc.put, idx, evO, constV, Loc.get, Vm.look, valO_some, bin_int, intA, evalC_cond, condC_true, condC_false, unwindA, resultsA, resultV, actA, pureA, storeA, loadA, fillE, repElems, TI.zeroV, fieldOf, fieldAddrA, fieldA, elemsA, retE, cells?_put_push, push_at, put_at, cellsOf?, Nat.add_assoc, n_push', n_put', isCell_undef, known_undef, cells_undef, isCell_bool, known_bool, cells_bool, isCell_int, known_int, cells_int, isCell_str, known_str, cells_str, isCell_nilp, known_nilp, cells_nilp, isCell_ptr, known_ptr, cells_ptr, isCell_rptr, known_rptr, cells_rptr, isCell_nils, known_nils, cells_nils, isCell_slice, known_slice, cells_slice, isCell_rsl, known_rsl, cells_rsl, isCell_nilm, known_nilm, cells_nilm, isCell_map, known_map, cells_map, isCell_fn, known_fn, cells_fn, isCell_yld, known_yld, cells_yld, isCell_nilf, known_nilf, cells_nilf, isCell_iface, known_iface, cells_iface, isCell_nili, known_nili, cells_nili, isCell_agg, known_agg, cells_agg, isCell_tup, known_tup, cells_tup, setCells, nowhere, GotF_some, Got_some, int_beq, int_bne]
    exact hp _ _ rfl
  | _ => simp [HasTy] at hg

theorem hasNil : (hasC []).Ok Tryd.prog ED := ⟨fun x hx => absurd hx.1 (by simp), fun x hx => absurd hx.1 (by simp)⟩
theorem has2 {a b : Ty} (ha : (hasC [a]).Ok Tryd.prog ED) (hb : (hasC [b]).Ok Tryd.prog ED) : (hasC [a, b]).Ok Tryd.prog ED := has_cons ha hb

/-- has, of all types -/
theorem has_ok : ∀ t : Ty, (hasC [t]).Ok Tryd.prog ED
  | .num => has_num_ok
  | .seq a => has_seq_ok (has_ok a)
  | .pair a b => has_pair_ok (has2 (has_ok a) (has_ok b))

theorem has_all : ∀ ts : List Ty, (hasC ts).Ok Tryd.prog ED
  | [] => hasNil
  | t :: ts => has_cons (has_ok t) (has_all ts)

end Go.Proofs.YtjgigcaelcapdaaDoor

namespace Go.Proofs.YtjgigcaelcapdaaDoor
open Go Go.Vm Go.Vm.T
set_option maxRecDepth 100000
set_option linter.unusedSimpArgs false
set_option linter.unusedVariables false

def GV.kids : GV → List GV
  | .num _ => []
  | .pair a b => [a, b]
  | .seq l => l

theorem GV.look (g : GV) : ∃ k n, g.enc = .agg [.int .i64 k, .int .i64 n, lst (GV.encs g.kids)] := by
  cases g with
  | num z => exact ⟨_, _, rfl⟩
  | pair a b => exact ⟨_, _, rfl⟩
  | seq l => exact ⟨_, _, rfl⟩

mutual
def GV.nodes : GV → Nat
  | .num _ => 1
  | .pair a b => 1 + (a.nodes + b.nodes)
  | .seq l => 1 + GV.nodess l
def GV.nodess : List GV → Nat
  | [] => 0
  | a :: l => a.nodes + GV.nodess l
end
mutual
def GV.deep : GV → Nat
  | .num _ => 0
  | .pair a b => 1 + max a.deep b.deep
  | .seq l => 1 + GV.deeps l
def GV.deeps : List GV → Nat
  | [] => 0
  | a :: l => max a.deep (GV.deeps l)
end
mutual
def GV.slim : GV → Prop
  | .num _ => True
  | .pair a b => a.slim ∧ b.slim
  | .seq l => l.length ≤ 1000 ∧ GV.slims l
def GV.slims : List GV → Prop
  | [] => True
  | a :: l => a.slim ∧ GV.slims l
end

theorem GV.deeps_get : ∀ {l : List GV} {j : Nat} (h : j < l.length), l[j].deep ≤ GV.deeps l
  | a :: l, 0, _ => by simp [GV.deeps]; omega
  | a :: l, j + 1, h => by
    have := GV.deeps_get (l := l) (j := j) (by simpa using h)
    simp [GV.deeps]; omega
theorem GV.slims_get : ∀ {l : List GV} {j : Nat} (h : j < l.length), GV.slims l → l[j].slim
  | a :: l, 0, _, k => k.1
  | a :: l, j + 1, h, k => GV.slims_get (l := l) (j := j) (by simpa using h) k.2

theorem GV.kid_deep {g : GV} {j : Nat} (h : j < g.kids.length) : g.kids[j].deep < g.deep := by
  cases g with
  | num z => simp [GV.kids] at h
  | pair a b =>
    have h' : j < 2 := h
    match j, h' with
    | 0, _ => simp [GV.kids, GV.deep]; omega
    | 1, _ => simp [GV.kids, GV.deep]; omega
  | seq l =>
    have := GV.deeps_get (l := l) (j := j) h
    simp only [GV.kids, GV.deep]; omega
theorem GV.kid_slim {g : GV} (hg : g.slim) {j : Nat} (h : j < g.kids.length) : g.kids[j].slim := by
  cases g with
  | num z => simp [GV.kids] at h
  | pair a b =>
    have h' : j < 2 := h
    match j, h' with
    | 0, _ => exact hg.1
    | 1, _ => exact hg.2
  | seq l => exact GV.slims_get (l := l) (j := j) h hg.2
theorem GV.kids_len {g : GV} (hg : g.slim) : g.kids.length ≤ 1000 := by
  cases g with
  | num z => simp [GV.kids]
  | pair a b => simp [GV.kids]
  | seq l => exact hg.1
theorem GV.nodes_kids (g : GV) : g.nodes = 1 + GV.nodess g.kids := by
  cases g with
  | num z => rfl
  | pair a b => simp [GV.nodes, GV.kids, GV.nodess]
  | seq l => rfl
theorem GV.nodess_take : ∀ {l : List GV} {j : Nat} (h : j < l.length), GV.nodess (l.take (j + 1)) = GV.nodess (l.take j) + l[j].nodes
  | a :: l, 0, _ => by simp [GV.nodess]
  | a :: l, j + 1, h => by
    have := GV.nodess_take (l := l) (j := j) (by simpa using h)
    simp only [List.take_succ_cons, GV.nodess, List.getElem_cons_succ, this]; omega
theorem GV.nodess_le : ∀ (l : List GV) (j : Nat), GV.nodess (l.take j) ≤ GV.nodess l
  | [], j => by simp [GV.nodess]
  | a :: l, 0 => by simp [GV.nodess]
  | a :: l, j + 1 => by
    have := GV.nodess_le l j
    simp only [List.take_succ_cons, GV.nodess]; omega

/-- all objects but one are as they were -/
structure Same (q : Nat) (S S' : St) : Prop where
  n : S.n ≤ S'.n
  cells : ∀ k cs, k ≠ q → S.cells? k = some cs → S'.cells? k = some cs

theorem Same.trans {q : Nat} {A B C : St} (h : Same q A B) (k : Same q B C) : Same q A C := ⟨Nat.le_trans h.n k.n, fun i cs hi x => k.cells i cs hi (h.cells i cs hi x)⟩
theorem Same.push {q : Nat} {S : St} {o : AO} : Same q S (S.push o) := ⟨by rw [n_push']; omega, fun k cs _ h => cells_push h⟩
theorem Same.box {q : Nat} {S : St} {o o' : AO} : Same q S ((S.push o).put S.n o') := ⟨by rw [n_put', n_push']; omega, fun k cs _ h => cells_box h⟩
theorem Same.put {q : Nat} {S : St} {o : AO} {cs : List AV} (hq : S.cells? q = some cs) : Same q S (S.put q o) := ⟨by rw [n_put']; omega, fun k cs' hk h => cells_put hq h hk⟩

theorem walk_ev (cs : List Con) (hcs : sumOf cs 60 = fun _ => none) : ∀ (d : Nat) (g : GV), g.deep < d → g.slim → ∀ (n pm pw m : Nat) (S : St), 1003 + d ≤ n → pm ≠ pw → S.cells? pm = some [.int .i64 m] →
    S.cells? pw = some [.fn 60 [] [.ptr pm 0, .ptr pw 0]] → m + g.nodes ≤ 20000 → ∃ S', callS ED (sumOf cs) n (.fn 60) [g.enc, .ptr pm 0, .ptr pw 0] S = some (.ret (.bool true), S') ∧ Same pm S S' ∧ S'.cells? pm = some [.int .i64 (m + g.nodes : Nat)] := by
  intro d
  induction d with
  | zero => intro g h; omega
  | succ d ih =>
    intro g hd hs n pm pw m S hn hne hm hw hmax
    obtain ⟨n, rfl⟩ : ∃ n', n = n' + 1 := ⟨n - 1, by omega⟩
    obtain ⟨k, z, e⟩ := g.look
    have hkl := GV.kids_len hs
    have hnk := g.nodes_kids
    suffices hgot : ∀ p : FRes → St → Prop, (∀ S', Same pm S S' → S'.cells? pm = some [.int .i64 (m + g.nodes : Nat)] → p (.ret (.bool true)) S') → GotF (callS ED (sumOf cs) (n + 1) (.fn 60) [g.enc, .ptr pm 0, .ptr pw 0] S) p by
      obtain ⟨r, S', h1, rfl, h2, h3⟩ := gotF_iff.1 (hgot (fun r S' => r = .ret (.bool true) ∧ Same pm S S' ∧ S'.cells? pm = some [.int .i64 (m + g.nodes : Nat)]) (fun S' h1 h2 => ⟨rfl, h1, h2⟩))
      exact ⟨S', h1, h2, h3⟩
    intro p hp
    rw [callS_fn hcs]
    simp only [fnA, ED_fn60, fi60, Tryd.f60]
    rw [e]
    have hlk := gv_lst (l := g.kids)
    have hkd : ∀ j (h : j < g.kids.length), g.kids[j].deep < d ∧ g.kids[j].slim := fun j h => ⟨by have := GV.kid_deep h; omega, GV.kid_slim hs h⟩
    generalize hl : g.kids = l at *
    have hw1 : IntKind.i64.wrap ((m : Int) + 1) = ((m : Int) + 1) := wrap_id (by omega) (by omega)
    have hmlt := St.get_lt (cells?_inv hm)
    have hgt : ¬ (20000 : Int) < (m : Int) + 1 := by omega
    have hlen : ¬ (4096 : Int) < (l.length : Int) := by omega
    have hm1 := cells_push (o := .cells [.int .i64 k, .int .i64 z, lst (GV.encs l)]) hm
    have hm2 := cells_put_self (ds := [.int .i64 ((m : Int) + 1)]) hm1
    have hsm : Same pm S ((S.push (.cells [.int .i64 k, .int .i64 z, lst (GV.encs l)])).put pm (.cells [.int .i64 ((m : Int) + 1)])) := Same.push.trans (Same.put hm1)
    have hb : ((S.push (.cells [.int .i64 k, .int .i64 z, lst (GV.encs l)])).put pm (.cells [.int .i64 ((m : Int) + 1)])).cells? S.n = some [.int .i64 k, .int .i64 z, lst (GV.encs l)] :=
      cells_put hm1 (cells?_push_self _ _) (by omega)
    have hfin : ∀ (n' : Nat) (body : Vm.Loc → St → CRes) (a0 a3 a6 : AV) (sc : List (Tmp × AV)) (S1 : St) (c : CRes), iter n' body (vloc [a0, .ptr pm 0, .ptr pw 0, a3, .bool false, a6, lst (GV.encs l), .int .i64 l.length, .int .i64 0] sc) S1 = c →
        l.length < n' → Same pm S S1 → S1.cells? pm = some [.int .i64 (m + 1 : Nat)] →
        (∀ (j : Nat) (hj : j < l.length) (a6 : AV) (sc : List (Tmp × AV)) (S1 : St), Same pm S S1 → S1.cells? pm = some [.int .i64 (m + 1 + GV.nodess (l.take j) : Nat)] →
          ∀ q : Ex → Vm.Loc → St → Prop, (∀ a6 sc S2, Same pm S S2 → S2.cells? pm = some [.int .i64 (m + 1 + GV.nodess (l.take (j + 1)) : Nat)] → q .normal (vloc [a0, .ptr pm 0, .ptr pw 0, a3, .bool false, a6, lst (GV.encs l), .int .i64 l.length, .int .i64 ((j : Int) + 1)] sc) S2) →
          Got (body (vloc [a0, .ptr pm 0, .ptr pw 0, a3, .bool false, a6, lst (GV.encs l), .int .i64 l.length, .int .i64 j] []) S1) q) →
        (∀ (a6 : AV) (sc : List (Tmp × AV)) (S1 : St) (q : Ex → Vm.Loc → St → Prop), (∀ sc, q (.exit 0) (vloc [a0, .ptr pm 0, .ptr pw 0, a3, .bool false, a6, lst (GV.encs l), .int .i64 l.length, .int .i64 l.length] sc) S1) →
          Got (body (vloc [a0, .ptr pm 0, .ptr pw 0, a3, .bool false, a6, lst (GV.encs l), .int .i64 l.length, .int .i64 l.length] []) S1) q) →
        ∃ a6 sc S2, c = some (.exit 0, vloc [a0, .ptr pm 0, .ptr pw 0, a3, .bool false, a6, lst (GV.encs l), .int .i64 l.length, .int .i64 l.length] sc, S2) ∧ Same pm S S2 ∧ S2.cells? pm = some [.int .i64 (m + g.nodes : Nat)] := by
      intro n' body a0 a3 a6 sc S1 c hc hn' hs1 hc1 hstep hlast
      obtain ⟨e, L', S', rfl, a6, sc, rfl, rfl, h1, h2⟩ := loop_of hc
        (fun r L S1 => ∃ j a6 sc, j + r = l.length ∧ L = vloc [a0, .ptr pm 0, .ptr pw 0, a3, .bool false, a6, lst (GV.encs l), .int .i64 l.length, .int .i64 (j : Nat)] sc ∧ Same pm S S1 ∧ S1.cells? pm = some [.int .i64 (m + 1 + GV.nodess (l.take j) : Nat)])
        (fun e L S1 => ∃ a6 sc, e = .exit 0 ∧ L = vloc [a0, .ptr pm 0, .ptr pw 0, a3, .bool false, a6, lst (GV.encs l), .int .i64 l.length, .int .i64 l.length] sc ∧ Same pm S S1 ∧ S1.cells? pm = some [.int .i64 (m + g.nodes : Nat)])
        l.length hn' ⟨0, a6, sc, by simp, rfl, hs1, by simpa [GV.nodess] using hc1⟩
        (by
          rintro r L S1 ⟨j, a6, sc, hj, rfl, h1, h2⟩ q hq1 hq2
          by_cases hjl : j < l.length
          · refine hstep j hjl a6 sc S1 h1 h2 q fun a6 sc S2 h3 h4 => hq1 (r - 1) _ _ (by omega) ⟨j + 1, a6, sc, by omega, rfl, h3, h4⟩
          · have : j = l.length := by omega
            subst this
            refine hlast a6 sc S1 q (fun sc => hq2 _ _ _ (by simp) ⟨a6, sc, rfl, rfl, h1, ?_⟩)
            rw [h2, hnk, List.take_length, Nat.add_assoc])
      exact ⟨a6, sc, S', rfl, h1, h2⟩
    by_cases hk : k = 4
    · subst hk
      simp [evalC_seq, evalC_region, runA_cons', runA_consN, runA_consG, guardR_true, guardR_false, guardV_bool, guardV_tup, runA_nil', inFrame, startLoc, startVals, Loc.clear, eff_move, eff_assign, eff_binOp, eff_build, eff_buildSlice, eff_alloc, eff_box, eff_store, eff_load, eff_fieldAddr, eff_field, eff_indexAddr, eff_slice, eff_extract, eff_pick, eff_unOp, eff_convert, eff_makeSlice, eff_makeFunc, eff_makeInterface, eff_nilCheck, eff_panic, eff_len1, eff_max2, eff_min2, eff_append2, eff_callV, stepE_val, contR_ok, contR_pan, outC_ok, outC_pan, thenC_normal, thenC_ret, thenC_exit, thenC_pan, blockC, evalC_ret, evalC_skip, evalC_exit, evalC_block, evalC_scope, evalC_loop, Loc.putO, Loc.put, idx, evO, constV, Loc.get, Vm.look, valO_some, bin_int, intA, evalC_cond, condC_true, condC_false, unwindA, resultsA, resultV, actA, pureA, storeA, loadA, fillE, repElems, TI.zeroV, fieldOf, fieldAddrA, fieldA, elemsA, retE, cells?_put_push, push_at, put_at, cellsOf?, Nat.add_assoc, n_push', n_put', isCell_undef, known_undef, cells_undef, isCell_bool, known_bool, cells_bool, isCell_int, known_int, cells_int, isCell_str, known_str, cells_str, isCell_nilp, known_nilp, cells_nilp, isCell_ptr, known_ptr, cells_ptr, isCell_rptr, known_rptr, cells_rptr, isCell_nils, known_nils, cells_nils, isCell_slice, known_slice, cells_slice, isCell_rsl, known_rsl, cells_rsl, isCell_nilm, known_nilm, cells_nilm, isCell_map, known_map, cells_map, isCell_fn, known_fn, cells_fn, isCell_yld, known_yld, cells_yld, isCell_nilf, known_nilf, cells_nilf, isCell_iface, known_iface, cells_iface, isCell_nili, known_nili, cells_nili, isCell_agg, known_agg, cells_agg, isCell_tup, known_tup, cells_tup, setCells, nowhere, GotF_some, Got_some, int_beq, int_bne, hlk, hm1, hw1, hm2, hgt, lst_len, hlen, hb]
      generalize hc : iter _ _ _ _ = c
      obtain ⟨a6, sc, S2, rfl, h1, h2⟩ := hfin n _ _ _ _ _ _ _ hc (by omega) hsm hm2
        (by
          intro j hj a6 sc S1 h1 h2 q hq
          have hix := lst_index (l := l) (j := j) hj
          have hwj : IntKind.i64.wrap ((j : Int) + 1) = ((j : Int) + 1) := wrap_id (by omega) (by omega)
          have hnt := GV.nodess_take hj
          have hnl := GV.nodess_le l (j + 1)
          obtain ⟨hkd1, hkd2⟩ := hkd j hj
          obtain ⟨gk, gn, ge⟩ := l[j].look
          have hgl := gv_lst (l := l[j].kids)
          have hpw := cells_box (o := .cells [.int .i64 0, .int .i64 0, .nils]) (o' := .cells [.int .i64 gk, .int .i64 gn, lst (GV.encs l[j].kids)]) (h1.cells _ _ (Ne.symm hne) hw)
          have hpm := cells_box (o := .cells [.int .i64 0, .int .i64 0, .nils]) (o' := .cells [.int .i64 gk, .int .i64 gn, lst (GV.encs l[j].kids)]) h2
          obtain ⟨S2, hcall, hsm2, hm2'⟩ := ih l[j] hkd1 hkd2 n pm pw _ _ (by omega) hne hpm hpw (by omega)
          rw [ge] at hix hcall
          simp [evalC_seq, evalC_region, runA_cons', runA_consN, runA_consG, guardR_true, guardR_false, guardV_bool, guardV_tup, runA_nil', inFrame, startLoc, startVals, Loc.clear, eff_move, eff_assign, eff_binOp, eff_build, eff_buildSlice, eff_alloc, eff_box, eff_store, eff_load, eff_fieldAddr, eff_field, eff_indexAddr, eff_slice, eff_extract, eff_pick, eff_unOp, eff_convert, eff_makeSlice, eff_makeFunc, eff_makeInterface, eff_nilCheck, eff_panic, eff_len1, eff_max2, eff_min2, eff_append2, eff_callV, stepE_val, contR_ok, contR_pan, outC_ok, outC_pan, thenC_normal, thenC_ret, thenC_exit, thenC_pan, blockC, evalC_ret, evalC_skip, evalC_exit, evalC_block, evalC_scope, evalC_loop, Loc.putO, Loc.put, idx, evO, constV, Loc.get, Vm.look, valO_some, bin_int, intA, evalC_cond, condC_true, condC_false, unwindA, resultsA, resultV, actA, pureA, storeA, loadA, fillE, repElems, TI.zeroV, fieldOf, fieldAddrA, fieldA, elemsA, retE, cells?_put_push, push_at, put_at, cellsOf?, Nat.add_assoc, n_push', n_put', isCell_undef, known_undef, cells_undef, isCell_bool, known_bool, cells_bool, isCell_int, known_int, cells_int, isCell_str, known_str, cells_str, isCell_nilp, known_nilp, cells_nilp, isCell_ptr, known_ptr, cells_ptr, isCell_rptr, known_rptr, cells_rptr, isCell_nils, known_nils, cells_nils, isCell_slice, known_slice, cells_slice, isCell_rsl, known_rsl, cells_rsl, isCell_nilm, known_nilm, cells_nilm, isCell_map, known_map, cells_map, isCell_fn, known_fn, cells_fn, isCell_yld, known_yld, cells_yld, isCell_nilf, known_nilf, cells_nilf, isCell_iface, known_iface, cells_iface, isCell_nili, known_nili, cells_nili, isCell_agg, known_agg, cells_agg, isCell_tup, known_tup, cells_tup, setCells, nowhere, GotF_some, Got_some, int_beq, int_bne, vloc, hj, hix, hgl, hpw, hcall, unA, hwj]
          refine hq _ _ S2 ((h1.trans Same.box).trans hsm2) ?_
          rw [hm2', hnt]
          simp
          omega)
        (by
          intro a6 sc S1 q hq
          simp [evalC_seq, evalC_region, runA_cons', runA_consN, runA_consG, guardR_true, guardR_false, guardV_bool, guardV_tup, runA_nil', inFrame, startLoc, startVals, Loc.clear, eff_move, eff_assign, eff_binOp, eff_build, eff_buildSlice, eff_alloc, eff_box, eff_store, eff_load, eff_fieldAddr, eff_field, eff_indexAddr, eff_slice, eff_extract, eff_pick, eff_unOp, eff_convert, eff_makeSlice, eff_makeFunc, eff_makeInterface, eff_nilCheck, eff_panic, eff_len1, eff_max2, eff_min2, eff_append2, eff_callV, stepE_val, contR_ok, contR_pan, outC_ok, outC_pan, thenC_normal, thenC_ret, thenC_exit, thenC_pan, blockC, evalC_ret, evalC_skip, evalC_exit, evalC_block, evalC_scope, evalC_loop, Loc.putO, Loc.put, idx, evO, constV, Loc.get, Vm.look, valO_some, bin_int, intA, evalC_cond, condC_true, condC_false, unwindA, resultsA, resultV, actA, pureA, storeA, loadA, fillE, repElems, TI.zeroV, fieldOf, fieldAddrA, fieldA, elemsA, retE, cells?_put_push, push_at, put_at, cellsOf?, Nat.add_assoc, n_push', n_put', isCell_undef, known_undef, cells_undef, isCell_bool, known_bool, cells_bool, isCell_int, known_int, cells_int, isCell_str, known_str, cells_str, isCell_nilp, known_nilp, cells_nilp, isCell_ptr, known_ptr, cells_ptr, isCell_rptr, known_rptr, cells_rptr, isCell_nils, known_nils, cells_nils, isCell_slice, known_slice, cells_slice, isCell_rsl, known_rsl, cells_rsl, isCell_nilm, known_nilm, cells_nilm, isCell_map, known_map, cells_map, isCell_fn, known_fn, cells_fn, isCell_yld, known_yld, cells_yld, isCell_nilf, known_nilf, cells_nilf, isCell_iface, known_iface, cells_iface, isCell_nili, known_nili, cells_nili, isCell_agg, known_agg, cells_agg, isCell_tup, known_tup, cells_tup, setCells, nowhere, GotF_some, Got_some, int_beq, int_bne, vloc]
          exact hq _)
      simp [evalC_seq, evalC_region, runA_cons', runA_consN, runA_consG, guardR_true, guardR_false, guardV_bool, guardV_tup, runA_nil', inFrame, startLoc, startVals, Loc.clear, eff_move, eff_assign, eff_binOp, eff_build, eff_buildSlice, eff_alloc, eff_box, eff_store, eff_load, eff_fieldAddr, eff_field, eff_indexAddr, eff_slice, eff_extract, eff_pick, eff_unOp, eff_convert, eff_makeSlice, eff_makeFunc, eff_makeInterface, eff_nilCheck, eff_panic, eff_len1, eff_max2, eff_min2, eff_append2, eff_callV, stepE_val, contR_ok, contR_pan, outC_ok, outC_pan, thenC_normal, thenC_ret, thenC_exit, thenC_pan, blockC, evalC_ret, evalC_skip, evalC_exit, evalC_block, evalC_scope, evalC_loop, Loc.putO, Loc.put, idx, evO, constV, Loc.get, Vm.look, valO_some, bin_int, intA, evalC_cond, condC_true, condC_false, unwindA, resultsA, resultV, actA, pureA, storeA, loadA, fillE, repElems, TI.zeroV, fieldOf, fieldAddrA, fieldA, elemsA, retE, cells?_put_push, push_at, put_at, cellsOf?, Nat.add_assoc, n_push', n_put', isCell_undef, known_undef, cells_undef, isCell_bool, known_bool, cells_bool, isCell_int, known_int, cells_int, isCell_str, known_str, cells_str, isCell_nilp, known_nilp, cells_nilp, isCell_ptr, known_ptr, cells_ptr, isCell_rptr, known_rptr, cells_rptr, isCell_nils, known_nils, cells_nils, isCell_slice, known_slice, cells_slice, isCell_rsl, known_rsl, cells_rsl, isCell_nilm, known_nilm, cells_nilm, isCell_map, known_map, cells_map, isCell_fn, known_fn, cells_fn, isCell_yld, known_yld, cells_yld, isCell_nilf, known_nilf, cells_nilf, isCell_iface, known_iface, cells_iface, isCell_nili, known_nili, cells_nili, isCell_agg, known_agg, cells_agg, isCell_tup, known_tup, cells_tup, setCells, nowhere, GotF_some, Got_some, int_beq, int_bne, vloc]
      exact hp _ h1 h2
    · simp [evalC_seq, evalC_region, runA_cons', runA_consN, runA_consG, guardR_true, guardR_false, guardV_bool, guardV_tup, runA_nil', inFrame, startLoc, startVals, Loc.clear, eff_move, eff_assign, eff_binOp, eff_build, eff_buildSlice, eff_alloc, eff_box, eff_store, eff_load, eff_fieldAddr, eff_field, eff_indexAddr, eff_slice, eff_extract, eff_pick, eff_unOp, eff_convert, eff_makeSlice, eff_makeFunc, eff_makeInterface, eff_nilCheck, eff_panic, eff_len1, eff_max2, eff_min2, eff_append2, eff_callV, stepE_val, contR_ok, contR_pan, outC_ok, outC_pan, thenC_normal, thenC_ret, thenC_exit, thenC_pan, blockC, evalC_ret, evalC_skip, evalC_exit, evalC_block, evalC_scope, evalC_loop, Loc.putO, Loc.put, idx, evO, constV, Loc.get, Vm.look, valO_some, bin_int, intA, evalC_cond, condC_true, condC_false, unwindA, resultsA, resultV, actA, pureA, storeA, loadA, fillE, repElems, TI.zeroV, fieldOf, fieldAddrA, fieldA, elemsA, retE, cells?_put_push, push_at, put_at, cellsOf?, Nat.add_assoc, n_push', n_put', isCell_undef, known_undef, cells_undef, isCell_bool, known_bool, cells_bool, isCell_int, known_int, cells_int, isCell_str, known_str, cells_str, isCell_nilp, known_nilp, cells_nilp, isCell_ptr, known_ptr, cells_ptr, isCell_rptr, known_rptr, cells_rptr, isCell_nils, known_nils, cells_nils, isCell_slice, known_slice, cells_slice, isCell_rsl, known_rsl, cells_rsl, isCell_nilm, known_nilm, cells_nilm, isCell_map, known_map, cells_map, isCell_fn, known_fn, cells_fn, isCell_yld, known_yld, cells_yld, isCell_nilf, known_nilf, cells_nilf, isCell_iface, known_iface, cells_iface, isCell_nili, known_nili, cells_nili, isCell_agg, known_agg, cells_agg, isCell_tup, known_tup, cells_tup, setCells, nowhere, GotF_some, Got_some, int_beq, int_bne, hlk, hm1, hw1, hm2, hgt, lst_len, hlen, hb, hk]
      generalize hc : iter _ _ _ _ = c
      obtain ⟨a6, sc, S2, rfl, h1, h2⟩ := hfin n _ _ _ _ _ _ _ hc (by omega) hsm hm2
        (by
          intro j hj a6 sc S1 h1 h2 q hq
          have hix := lst_index (l := l) (j := j) hj
          have hwj : IntKind.i64.wrap ((j : Int) + 1) = ((j : Int) + 1) := wrap_id (by omega) (by omega)
          have hnt := GV.nodess_take hj
          have hnl := GV.nodess_le l (j + 1)
          obtain ⟨hkd1, hkd2⟩ := hkd j hj
          obtain ⟨gk, gn, ge⟩ := l[j].look
          have hgl := gv_lst (l := l[j].kids)
          have hpw := cells_box (o := .cells [.int .i64 0, .int .i64 0, .nils]) (o' := .cells [.int .i64 gk, .int .i64 gn, lst (GV.encs l[j].kids)]) (h1.cells _ _ (Ne.symm hne) hw)
          have hpm := cells_box (o := .cells [.int .i64 0, .int .i64 0, .nils]) (o' := .cells [.int .i64 gk, .int .i64 gn, lst (GV.encs l[j].kids)]) h2
          obtain ⟨S2, hcall, hsm2, hm2'⟩ := ih l[j] hkd1 hkd2 n pm pw _ _ (by omega) hne hpm hpw (by omega)
          rw [ge] at hix hcall
          simp [evalC_seq, evalC_region, runA_cons', runA_consN, runA_consG, guardR_true, guardR_false, guardV_bool, guardV_tup, runA_nil', inFrame, startLoc, startVals, Loc.clear, eff_move, eff_assign, eff_binOp, eff_build, eff_buildSlice, eff_alloc, eff_box, eff_store, eff_load, eff_fieldAddr, eff_field, eff_indexAddr, eff_slice, eff_extract, eff_pick, eff_unOp, eff_convert, eff_makeSlice, eff_makeFunc, eff_makeInterface, eff_nilCheck, eff_panic, eff_len1, eff_max2, eff_min2, eff_append2, eff_callV, stepE_val, contR_ok, contR_pan, outC_ok, outC_pan, thenC_normal, thenC_ret, thenC_exit, thenC_pan, blockC, evalC_ret, evalC_skip, evalC_exit, evalC_block, evalC_scope, evalC_loop, Loc.putO, Loc.put, idx, evO, constV, Loc.get, Vm.look, valO_some, bin_int, intA, evalC_cond, condC_true, condC_false, unwindA, resultsA, resultV, actA, pureA, storeA, loadA, fillE, repElems, TI.zeroV, fieldOf, fieldAddrA, fieldA, elemsA, retE, cells?_put_push, push_at, put_at, cellsOf?, Nat.add_assoc, n_push', n_put', isCell_undef, known_undef, cells_undef, isCell_bool, known_bool, cells_bool, isCell_int, known_int, cells_int, isCell_str, known_str, cells_str, isCell_nilp, known_nilp, cells_nilp, isCell_ptr, known_ptr, cells_ptr, isCell_rptr, known_rptr, cells_rptr, isCell_nils, known_nils, cells_nils, isCell_slice, known_slice, cells_slice, isCell_rsl, known_rsl, cells_rsl, isCell_nilm, known_nilm, cells_nilm, isCell_map, known_map, cells_map, isCell_fn, known_fn, cells_fn, isCell_yld, known_yld, cells_yld, isCell_nilf, known_nilf, cells_nilf, isCell_iface, known_iface, cells_iface, isCell_nili, known_nili, cells_nili, isCell_agg, known_agg, cells_agg, isCell_tup, known_tup, cells_tup, setCells, nowhere, GotF_some, Got_some, int_beq, int_bne, vloc, hj, hix, hgl, hpw, hcall, unA, hwj]
          refine hq _ _ S2 ((h1.trans Same.box).trans hsm2) ?_
          rw [hm2', hnt]
          simp
          omega)
        (by
          intro a6 sc S1 q hq
          simp [evalC_seq, evalC_region, runA_cons', runA_consN, runA_consG, guardR_true, guardR_false, guardV_bool, guardV_tup, runA_nil', inFrame, startLoc, startVals, Loc.clear, eff_move, eff_assign, eff_binOp, eff_build, eff_buildSlice, eff_alloc, eff_box, eff_store, eff_load, eff_fieldAddr, eff_field, eff_indexAddr, eff_slice, eff_extract, eff_pick, eff_unOp, eff_convert, eff_makeSlice, eff_makeFunc, eff_makeInterface, eff_nilCheck, eff_panic, eff_len1, eff_max2, eff_min2, eff_append2, eff_callV, stepE_val, contR_ok, contR_pan, outC_ok, outC_pan, thenC_normal, thenC_ret, thenC_exit, thenC_pan, blockC, evalC_ret, evalC_skip, evalC_exit, evalC_block, evalC_scope, evalC_loop, Loc.putO, Loc.put, idx, evO, constV, Loc.get, Vm.look, valO_some, bin_int, intA, evalC_cond, condC_true, condC_false, unwindA, resultsA, resultV, actA, pureA, storeA, loadA, fillE, repElems, TI.zeroV, fieldOf, fieldAddrA, fieldA, elemsA, retE, cells?_put_push, push_at, put_at, cellsOf?, Nat.add_assoc, n_push', n_put', isCell_undef, known_undef, cells_undef, isCell_bool, known_bool, cells_bool, isCell_int, known_int, cells_int, isCell_str, known_str, cells_str, isCell_nilp, known_nilp, cells_nilp, isCell_ptr, known_ptr, cells_ptr, isCell_rptr, known_rptr, cells_rptr, isCell_nils, known_nils, cells_nils, isCell_slice, known_slice, cells_slice, isCell_rsl, known_rsl, cells_rsl, isCell_nilm, known_nilm, cells_nilm, isCell_map, known_map, cells_map, isCell_fn, known_fn, cells_fn, isCell_yld, known_yld, cells_yld, isCell_nilf, known_nilf, cells_nilf, isCell_iface, known_iface, cells_iface, isCell_nili, known_nili, cells_nili, isCell_agg, known_agg, cells_agg, isCell_tup, known_tup, cells_tup, setCells, nowhere, GotF_some, Got_some, int_beq, int_bne, vloc]
          exact hq _)
      simp [evalC_seq, evalC_region, runA_cons', runA_consN, runA_consG, guardR_true, guardR_false, guardV_bool, guardV_tup, runA_nil', inFrame, startLoc, startVals, Loc.clear, eff_move, eff_assign, eff_binOp, eff_build, eff_buildSlice, eff_alloc, eff_box, eff_store, eff_load, eff_fieldAddr, eff_field, eff_indexAddr, eff_slice, eff_extract, eff_pick, eff_unOp, eff_convert, eff_makeSlice, eff_makeFunc, eff_makeInterface, eff_nilCheck, eff_panic, eff_len1, eff_max2, eff_min2, eff_append2, eff_callV, stepE_val, contR_ok, contR_pan, outC_ok, outC_pan, thenC_normal, thenC_ret, thenC_exit, thenC_pan, blockC, evalC_ret, evalC_skip, evalC_exit, evalC_block, evalC_scope, evalC_loop, Loc.putO, Loc.put, idx, evO, constV, Loc.get, Vm.look, valO_some, bin_int, intA, evalC_cond, condC_true, condC_false, unwindA, resultsA, resultV, actA, pureA, storeA, loadA, fillE, repElems, TI.zeroV, fieldOf, fieldAddrA, fieldA, elemsA, retE, cells?_put_push, push_at, put_at, cellsOf?, Nat.add_assoc, n_push', n_put', isCell_undef, known_undef, cells_undef, isCell_bool, known_bool, cells_bool, isCell_int, known_int, cells_int, isCell_str, known_str, cells_str, isCell_nilp, known_nilp, cells_nilp, isCell_ptr, known_ptr, cells_ptr, isCell_rptr, known_rptr, cells_rptr, isCell_nils, known_nils, cells_nils, isCell_slice, known_slice, cells_slice, isCell_rsl, known_rsl, cells_rsl, isCell_nilm, known_nilm, cells_nilm, isCell_map, known_map, cells_map, isCell_fn, known_fn, cells_fn, isCell_yld, known_yld, cells_yld, isCell_nilf, known_nilf, cells_nilf, isCell_iface, known_iface, cells_iface, isCell_nili, known_nili, cells_nili, isCell_agg, known_agg, cells_agg, isCell_tup, known_tup, cells_tup, setCells, nowhere, GotF_some, Got_some, int_beq, int_bne, vloc]
      exact hp _ h1 h2

end Go.Proofs.YtjgigcaelcapdaaDoor

namespace Go.Proofs.YtjgigcaelcapdaaDoor
open Go Go.Vm Go.Vm.T
set_option maxRecDepth 100000
set_option linter.unusedSimpArgs false
set_option linter.unusedVariables false

theorem eff_recover {E : Env} {call : CallF} {ρ : Operand → AV} {S : St} {ts : Array TypeId} : effA E call ρ (.call { callee := .builtin .recover, args := #[], argTypes := ts }) S = some .rcv := rfl
theorem stepE_rcv_no {vars : List Tmp} {dst : Option Tmp} {v : List AV} {sc : List (Tmp × AV)} {d : List ADef} {S : St} : stepE vars dst { vals := v, sc := sc, defers := d, recs := .no, rnd := none } S (some .rcv) = some (.ok (Vm.Loc.putO vars { vals := v, sc := sc, defers := d, recs := .no, rnd := none } dst .nili) S) := rfl
theorem stepE_rcv_pan {vars : List Tmp} {dst : Option Tmp} {v : List AV} {sc : List (Tmp × AV)} {d : List ADef} {x : AV} {S : St} : stepE vars dst { vals := v, sc := sc, defers := d, recs := .pan x, rnd := none } S (some .rcv) = some (.ok (Vm.Loc.putO vars { vals := v, sc := sc, defers := d, recs := .done, rnd := none } dst x) S) := rfl
theorem stepE_dfr {vars : List Tmp} {dst : Option Tmp} {v : List AV} {sc : List (Tmp × AV)} {d : List ADef} {r : RecS} {x : ADef} {S : St} : stepE vars dst { vals := v, sc := sc, defers := d, recs := r, rnd := none } S (some (.dfr x)) = some (.ok (Vm.Loc.putO vars { vals := v, sc := sc, defers := x :: d, recs := r, rnd := none } dst nowhere) S) := rfl

theorem eq_nili : binA ED .eql 20 (.tmp 5) (.const .nilIface) .nili .nili = some (.bool true) := rfl

theorem df39_no {call : CallF} {it : (Vm.Loc → St → CRes) → Vm.Loc → St → CRes} {a : AV} {S : St} : dfA ED call it 39 [a] .no S = some (.no, S) := by
  simp only [dfA, ED_fn39, fi39, Tryd.f39]
  simp [evalC_seq, evalC_region, runA_cons', runA_consN, runA_consG, guardR_true, guardR_false, guardV_bool, guardV_tup, runA_nil', inFrame, startLoc, startVals, Loc.clear, eff_move, eff_assign, eff_binOp, eff_build, eff_buildSlice, eff_alloc, eff_box, eff_store, eff_load, eff_fieldAddr, eff_field, eff_indexAddr, eff_slice, eff_extract, eff_pick, eff_unOp, eff_convert, eff_makeSlice, eff_makeFunc, eff_makeInterface, eff_nilCheck, eff_panic, eff_len1, eff_max2, eff_min2, eff_append2, eff_callV, stepE_val, contR_ok, contR_pan, outC_ok, outC_pan, thenC_normal, thenC_ret, thenC_exit, thenC_pan, blockC, evalC_ret, evalC_skip, evalC_exit, evalC_block, evalC_scope, evalC_loop, Loc.putO, Loc.put, idx, evO, constV, Loc.get, Vm.look, valO_some, bin_int, intA, evalC_cond, condC_true, condC_false, unwindA, resultsA, resultV, actA, pureA, storeA, loadA, fillE, repElems, TI.zeroV, fieldOf, fieldAddrA, fieldA, elemsA, retE, cells?_put_push, push_at, put_at, cellsOf?, Nat.add_assoc, n_push', n_put', isCell_undef, known_undef, cells_undef, isCell_bool, known_bool, cells_bool, isCell_int, known_int, cells_int, isCell_str, known_str, cells_str, isCell_nilp, known_nilp, cells_nilp, isCell_ptr, known_ptr, cells_ptr, isCell_rptr, known_rptr, cells_rptr, isCell_nils, known_nils, cells_nils, isCell_slice, known_slice, cells_slice, isCell_rsl, known_rsl, cells_rsl, isCell_nilm, known_nilm, cells_nilm, isCell_map, known_map, cells_map, isCell_fn, known_fn, cells_fn, isCell_yld, known_yld, cells_yld, isCell_nilf, known_nilf, cells_nilf, isCell_iface, known_iface, cells_iface, isCell_nili, known_nili, cells_nili, isCell_agg, known_agg, cells_agg, isCell_tup, known_tup, cells_tup, setCells, nowhere, GotF_some, Got_some, int_beq, int_bne, lenA, indexAddrA, eff_recover, stepE_rcv_no, eq_nili]

theorem df26_no {call : CallF} {it : (Vm.Loc → St → CRes) → Vm.Loc → St → CRes} {a b : AV} {S : St} : dfA ED call it 26 [a, b] .no S = some (.no, S) := by
  simp only [dfA, ED_fn26, fi26, Tryd.f26]
  simp [evalC_seq, evalC_region, runA_cons', runA_consN, runA_consG, guardR_true, guardR_false, guardV_bool, guardV_tup, runA_nil', inFrame, startLoc, startVals, Loc.clear, eff_move, eff_assign, eff_binOp, eff_build, eff_buildSlice, eff_alloc, eff_box, eff_store, eff_load, eff_fieldAddr, eff_field, eff_indexAddr, eff_slice, eff_extract, eff_pick, eff_unOp, eff_convert, eff_makeSlice, eff_makeFunc, eff_makeInterface, eff_nilCheck, eff_panic, eff_len1, eff_max2, eff_min2, eff_append2, eff_callV, stepE_val, contR_ok, contR_pan, outC_ok, outC_pan, thenC_normal, thenC_ret, thenC_exit, thenC_pan, blockC, evalC_ret, evalC_skip, evalC_exit, evalC_block, evalC_scope, evalC_loop, Loc.putO, Loc.put, idx, evO, constV, Loc.get, Vm.look, valO_some, bin_int, intA, evalC_cond, condC_true, condC_false, unwindA, resultsA, resultV, actA, pureA, storeA, loadA, fillE, repElems, TI.zeroV, fieldOf, fieldAddrA, fieldA, elemsA, retE, cells?_put_push, push_at, put_at, cellsOf?, Nat.add_assoc, n_push', n_put', isCell_undef, known_undef, cells_undef, isCell_bool, known_bool, cells_bool, isCell_int, known_int, cells_int, isCell_str, known_str, cells_str, isCell_nilp, known_nilp, cells_nilp, isCell_ptr, known_ptr, cells_ptr, isCell_rptr, known_rptr, cells_rptr, isCell_nils, known_nils, cells_nils, isCell_slice, known_slice, cells_slice, isCell_rsl, known_rsl, cells_rsl, isCell_nilm, known_nilm, cells_nilm, isCell_map, known_map, cells_map, isCell_fn, known_fn, cells_fn, isCell_yld, known_yld, cells_yld, isCell_nilf, known_nilf, cells_nilf, isCell_iface, known_iface, cells_iface, isCell_nili, known_nili, cells_nili, isCell_agg, known_agg, cells_agg, isCell_tup, known_tup, cells_tup, setCells, nowhere, GotF_some, Got_some, int_beq, int_bne, lenA, indexAddrA, eff_recover, stepE_rcv_no, eq_nili]

theorem eq_trap : binA ED .eql 20 (.tmp 5) (.const .nilIface) (.iface 55 (.agg [])) .nili = some (.bool false) := rfl

def sizeC : Con where
  f := 41
  X := GV
  dom g := g.slim ∧ g.nodes ≤ 20000 ∧ g.deep < 20
  enc g := [g.enc]
  res g := .ret (.tup [.int .i64 g.nodes, .bool true])

theorem lst_inj {a b : List AV} (h : lst a = lst b) : a = b := by
  cases a <;> cases b <;> simp_all [lst]

mutual
theorem GV.enc_inj : ∀ {a b : GV}, a.enc = b.enc → a = b
  | .num x, .num y, h => by simp [GV.enc, wv] at h; rw [h]
  | .pair a b, .pair c d, h => by
    simp only [GV.enc, pv, AV.agg.injEq, List.cons.injEq, AV.slice.injEq, true_and, and_true] at h
    rw [GV.enc_inj h.1, GV.enc_inj h.2]
  | .seq a, .seq b, h => by
    simp only [GV.enc, sv, AV.agg.injEq, List.cons.injEq, true_and, and_true] at h
    rw [GV.encs_inj (lst_inj h)]
  | .num _, .pair _ _, h | .num _, .seq _, h | .pair _ _, .num _, h | .pair _ _, .seq _, h | .seq _, .num _, h | .seq _, .pair _ _, h => by simp [GV.enc, wv, pv, sv] at h
theorem GV.encs_inj : ∀ {a b : List GV}, GV.encs a = GV.encs b → a = b
  | [], [], _ => rfl
  | x :: a, y :: b, h => by
    simp only [GV.encs, List.cons.injEq] at h
    rw [GV.enc_inj h.1, GV.encs_inj h.2]
  | [], _ :: _, h | _ :: _, [], h => by simp [GV.encs] at h
end

theorem size_ok : sizeC.Ok Tryd.prog ED := by
  refine Con.ok_at ED_ok ED_pers [] (by simp) (fun (x : GV) _ => ⟨by show AV.persL [x.enc] = true; simp [AV.persL, GV.pers], rfl⟩) ?_
  rintro g ⟨h1, h2, h3⟩
  simp only [sizeC] at g ⊢
  refine ⟨1025, fun p hp => ?_⟩
  rw [callS_fn rfl]
  simp only [fnA, ED_fn41, fi41, Tryd.f41]
  obtain ⟨k, z, e⟩ := g.look
  have hlk := gv_lst (l := g.kids)
  obtain ⟨S', hcall, hsm, hm⟩ := walk_ev [] rfl 20 g h3 h1 1024 1 2 0
    (((((S0.push (.cells [.int .i64 k, .int .i64 z, lst (GV.encs g.kids)])).push (.cells [.int .i64 0])).put 1 (.cells [.int .i64 0])).push (.cells [.nilf])).put 2 (.cells [.fn 60 [] [.ptr 1 0, .ptr 2 0]]))
    (by omega) (by decide) (by simp [push_at, put_at, n_push', n_put', cellsOf?]) (by simp [push_at, put_at, n_push', n_put', cellsOf?]) (by omega)
  rw [e] at hcall ⊢
  simp only [Nat.zero_add] at hm
  simp [evalC_seq, evalC_region, runA_cons', runA_consN, runA_consG, guardR_true, guardR_false, guardV_bool, guardV_tup, runA_nil', inFrame, startLoc, startVals, Loc.clear, eff_move, eff_assign, eff_binOp, eff_build, eff_buildSlice, eff_alloc, eff_box, eff_store, eff_load, eff_fieldAddr, eff_field, eff_indexAddr, eff_slice, eff_extract, eff_pick, eff_unOp, eff_convert, eff_makeSlice, eff_makeFunc, eff_makeInterface, eff_nilCheck, eff_panic, eff_len1, eff_max2, eff_min2, eff_append2, eff_callV, stepE_val, contR_ok, contR_pan, outC_ok, outC_pan, thenC_normal, thenC_ret, thenC_exit, thenC_pan, blockC, evalC_ret, evalC_skip, evalC_exit, evalC_block, evalC_scope, evalC_loop, Loc.putO, Loc.put, idx, evO, constV, Loc.get, Vm.look, valO_some, bin_int, intA, evalC_cond, condC_true, condC_false, unwindA, resultsA, resultV, actA, pureA, storeA, loadA, fillE, repElems, TI.zeroV, fieldOf, fieldAddrA, fieldA, elemsA, retE, cells?_put_push, push_at, put_at, cellsOf?, Nat.add_assoc, n_push', n_put', isCell_undef, known_undef, cells_undef, isCell_bool, known_bool, cells_bool, isCell_int, known_int, cells_int, isCell_str, known_str, cells_str, isCell_nilp, known_nilp, cells_nilp, isCell_ptr, known_ptr, cells_ptr, isCell_rptr, known_rptr, cells_rptr, isCell_nils, known_nils, cells_nils, isCell_slice, known_slice, cells_slice, isCell_rsl, known_rsl, cells_rsl, isCell_nilm, known_nilm, cells_nilm, isCell_map, known_map, cells_map, isCell_fn, known_fn, cells_fn, isCell_yld, known_yld, cells_yld, isCell_nilf, known_nilf, cells_nilf, isCell_iface, known_iface, cells_iface, isCell_nili, known_nili, cells_nili, isCell_agg, known_agg, cells_agg, isCell_tup, known_tup, cells_tup, setCells, nowhere, GotF_some, Got_some, int_beq, int_bne, lenA, indexAddrA, hlk, hcall, hm]
  exact hp _ _ rfl

theorem size_use {cs : List Con} (h : sumOf cs 41 = sizeC.look) {n : Nat} {g : GV} {S : St} (h1 : g.slim) (h2 : g.nodes ≤ 20000) (h3 : g.deep < 20) :
    callS ED (sumOf cs) n (.fn 41) [g.enc] S = some (.ret (.tup [.int .i64 g.nodes, .bool true]), S) :=
  Con.use (c := sizeC) (fun (x y : GV) hx hy h => by
    have h' : [x.enc] = [y.enc] := h
    simp only [List.cons.injEq, and_true] at h'
    rw [GV.enc_inj h']) h (g : GV) ⟨h1, h2, h3⟩ (by show [g.enc.dead] = [g.enc]; simp)

structure CheckX where
  t : Ty
  g : GV
def checkC' : Con where
  f := 25
  X := CheckX
  dom x := (x.t = tComps ∨ x.t = tDist ∨ x.t = tSpmv ∨ x.t = tWalk ∨ x.t = tDuos) ∧ HasTy x.t x.g ∧ x.g.slim ∧ x.g.nodes ≤ 20000 ∧ x.g.deep < 20
  enc x := [x.g.enc, x.t.enc]
  res _ := .ret (.int .i64 0)

theorem check_ok : checkC'.Ok Tryd.prog ED := by
  refine Con.ok_at ED_ok ED_pers [askedC, sizeC, mustC, hasC [tComps, tDist, tSpmv, tWalk, tDuos]] (by simpa using ⟨asked_ok, size_ok, must_ok, has_all _⟩) (fun (x : CheckX) _ => ⟨by show AV.persL [x.g.enc, x.t.enc] = true; simp [AV.persL, GV.pers, Ty.enc_pers], rfl⟩) ?_
  rintro ⟨t, g⟩ ⟨ht, hty, h1, h2, h3⟩
  simp only at ht hty h1 h2 h3
  show ∃ n, ∀ p : FRes → St → Prop, (∀ r S', r.melt S' = .ret (.int .i64 0) → p r S') → GotF (callS ED (sumOf [askedC, sizeC, mustC, hasC [tComps, tDist, tSpmv, tWalk, tDuos]]) n (.fn 25) [g.enc, t.enc] S0) p
  refine ⟨2, fun p hp => ?_⟩
  rw [callS_fn rfl]
  have ha := fun (n : Nat) (S : St) => asked_use (cs := [askedC, sizeC, mustC, hasC [tComps, tDist, tSpmv, tWalk, tDuos]]) rfl (n := n) (S := S) ht
  have hs := fun (n : Nat) (S : St) => size_use (cs := [askedC, sizeC, mustC, hasC [tComps, tDist, tSpmv, tWalk, tDuos]]) rfl (n := n) (S := S) h1 h2 h3
  have hm := fun (n : Nat) (e : Int) (S : St) => must_use (cs := [askedC, sizeC, mustC, hasC [tComps, tDist, tSpmv, tWalk, tDuos]]) rfl (n := n) (S := S) (e := e)
  have hh := fun (n : Nat) (S : St) => has_use (cs := [askedC, sizeC, mustC, hasC [tComps, tDist, tSpmv, tWalk, tDuos]]) rfl (n := n) (S := S) (ts := [tComps, tDist, tSpmv, tWalk, tDuos]) (by simpa using ht) hty
  have hte : ∃ a b c, t.enc = .agg [.int .i64 a, .int .i64 b, c] ∧ c.isCell = true := by cases t <;> exact ⟨_, _, _, rfl, rfl⟩
  obtain ⟨a, b, c, te, tc⟩ := hte
  obtain ⟨k, z, e⟩ := g.look
  have hlk := gv_lst (l := g.kids)
  rw [te] at ha
  rw [e] at hs hh
  rw [te, e]
  generalize lst (GV.encs g.kids) = x at *
  simp only [fnA, ED_fn25, fi25, Tryd.f25]
  simp [evalC_seq, evalC_region, runA_cons', runA_consN, runA_consG, guardR_true, guardR_false, guardV_bool, guardV_tup, runA_nil', inFrame, startLoc, startVals, Loc.clear, eff_move, eff_assign, eff_binOp, eff_build, eff_buildSlice, eff_alloc, eff_box, eff_store, eff_load, eff_fieldAddr, eff_field, eff_indexAddr, eff_slice, eff_extract, eff_pick, eff_unOp, eff_convert, eff_makeSlice, eff_makeFunc, eff_makeInterface, eff_nilCheck, eff_panic, eff_len1, eff_max2, eff_min2, eff_append2, eff_callV, stepE_val, contR_ok, contR_pan, outC_ok, outC_pan, thenC_normal, thenC_ret, thenC_exit, thenC_pan, blockC, evalC_ret, evalC_skip, evalC_exit, evalC_block, evalC_scope, evalC_loop, Loc.putO, Loc.put, idx, evO, constV, Loc.get, Vm.look, valO_some, bin_int, intA, evalC_cond, condC_true, condC_false, unwindA, resultsA, resultV, actA, pureA, storeA, loadA, fillE, repElems, TI.zeroV, fieldOf, fieldAddrA, fieldA, elemsA, retE, cells?_put_push, push_at, put_at, cellsOf?, Nat.add_assoc, n_push', n_put', isCell_undef, known_undef, cells_undef, isCell_bool, known_bool, cells_bool, isCell_int, known_int, cells_int, isCell_str, known_str, cells_str, isCell_nilp, known_nilp, cells_nilp, isCell_ptr, known_ptr, cells_ptr, isCell_rptr, known_rptr, cells_rptr, isCell_nils, known_nils, cells_nils, isCell_slice, known_slice, cells_slice, isCell_rsl, known_rsl, cells_rsl, isCell_nilm, known_nilm, cells_nilm, isCell_map, known_map, cells_map, isCell_fn, known_fn, cells_fn, isCell_yld, known_yld, cells_yld, isCell_nilf, known_nilf, cells_nilf, isCell_iface, known_iface, cells_iface, isCell_nili, known_nili, cells_nili, isCell_agg, known_agg, cells_agg, isCell_tup, known_tup, cells_tup, setCells, nowhere, GotF_some, Got_some, int_beq, int_bne, lenA, indexAddrA, hlk, tc, ha, hs, hm, hh, eff_defer, stepE_dfr, df39_no]
  exact hp _ _ rfl

theorem check_use {cs : List Con} (h : sumOf cs 25 = checkC'.look) {n : Nat} {g : GV} {t : Ty} {S : St} (ht : t = tComps ∨ t = tDist ∨ t = tSpmv ∨ t = tWalk ∨ t = tDuos) (hty : HasTy t g) (h1 : g.slim) (h2 : g.nodes ≤ 20000) (h3 : g.deep < 20) :
    callS ED (sumOf cs) n (.fn 25) [g.enc, t.enc] S = some (.ret (.int .i64 0), S) :=
  Con.use (c := checkC') (fun _ _ _ _ _ => rfl) h ⟨t, g⟩ ⟨ht, hty, h1, h2, h3⟩ (by show [g.enc.dead, t.enc.dead] = [g.enc, t.enc]; simp [dead_of_pers _ (Ty.enc_pers t)])

end Go.Proofs.YtjgigcaelcapdaaDoor
