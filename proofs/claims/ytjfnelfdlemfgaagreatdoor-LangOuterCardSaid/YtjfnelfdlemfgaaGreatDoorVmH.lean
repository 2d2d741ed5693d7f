/-
Tables of a program, and the evaluator as equations. No conditions.
-/
import Derived.Test.YtjfnelfdlemfgaaGreatDoorVmG
set_option linter.all false
set_option maxHeartbeats 4000000
namespace Go.Vm
open Go
inductive Tab (α : Type) where
 | nil
 | one (k : Nat) (x : α)
 | node (m : Nat) (l r : Tab α)
def Tab.look {α : Type} : Tab α → Nat → Option α
 | .nil, _ => none
 | .one k x, t => bif Nat.beq t k then some x else none
 | .node m l r, t => bif Nat.blt t m then l.look t else r.look t
def Tab.All {α : Type} (p : Nat → α → Prop) : Tab α → Prop
 | .nil => True
 | .one k x => p k x
 | .node _ l r => l.All p ∧ r.All p
theorem Tab.look_all {α : Type} {p : Nat → α → Prop} : ∀ {T : Tab α} {t : Nat} {x : α}, T.All p → T.look t = some x → p t x
 | .nil, _, _, _, h => by simp [Tab.look] at h
 | .one k y, t, x, ha, h => by
  simp only [Tab.look] at h
  cases hb : Nat.beq t k with
  | false => rw [hb] at h; cases h
  | true =>
   rw [hb] at h
   cases h
   have := Nat.eq_of_beq_eq_true hb
   subst this
   exact ha
 | .node m l r, t, x, ha, h => by
  simp only [Tab.look] at h
  cases hb : Nat.blt t m with
  | true => rw [hb] at h; exact Tab.look_all ha.1 h
  | false => rw [hb] at h; exact Tab.look_all ha.2 h
def zeroB (x : TI) (z : Value) : Bool :=
 if x.agg then (match z with
  | .agg cs => AV.beqL x.zero (cs.toList.map constV)
  | _ => false)
 else (match z with
  | .agg _ => false
  | z => AV.beqL x.zero [constV z])
def tiB (P : Program) (t : TypeId) (x : TI) : Bool :=
 match P.info? t with
 | some i => i.size == x.size && i.bytes == x.bytes && (match i.zero with | some z => zeroB x z | none => false) &&
   (x.agg == (match x.desc with | .struct _ | .array _ _ => true | _ => false)) && x.zero.length == x.size && (x.agg || x.size == 1) &&
   (!x.cmp || (!P.stoodInHeld t && !P.eqGuardType P.depth t))
 | none => false
theorem constV_cells (v : Value) : (constV v).cells = [constV v] := by
 unfold constV
 split <;> try rfl
 split <;> rfl
theorem Reps_const (G : Gh) : ∀ (l : List Value), Reps G (l.map constV) l
 | [] => Reps.nil G
 | v :: l => Reps.cons (constV_rep v) (Reps_const G l)
theorem tiOk_of {P : Program} {t : TypeId} {x : TI} (und : P.underlying t = some x.desc) (h : tiB P t x = true) : TIOk P t x := by
 unfold tiB at h
 split at h
 ·rename_i i hi
  simp only [Bool.and_eq_true, beq_iff_eq, Bool.or_eq_true, Bool.not_eq_true'] at h
  obtain ⟨⟨⟨⟨⟨⟨h1, h2⟩, h3⟩, h4⟩, h5⟩, h6⟩, h7⟩ := h
  split at h3
  ·rename_i z hz
   have key : (∀ G, Rep G x.zeroV z) ∧ (∀ G, Reps G x.zero z.cells.toList) ∧ x.zeroV.cells = x.zero := by
    unfold zeroB at h3
    cases ha : x.agg with
    | true =>
     rw [ha] at h3
     simp only [if_true] at h3
     split at h3
     ·rename_i cs
      have he := AV.beqL_eq _ _ h3
      have hr : ∀ G, Reps G x.zero cs.toList := fun G => by rw [he]; exact Reps_const G _
      refine ⟨fun G => ?_, fun G => by simpa [Value.cells] using hr G, ?_⟩
      ·simp only [TI.zeroV, ha, if_true]
       exact Rep.agg' (hr G)
      ·simp [TI.zeroV, ha, AV.cells]
     ·cases h3
    | false =>
     rw [ha] at h3
     simp only [Bool.false_eq_true, if_false] at h3
     split at h3
     ·cases h3
     ·rename_i hna
      have he := AV.beqL_eq _ _ h3
      have hc : z.cells.toList = [z] := by
       cases z <;> first | rfl | exact absurd rfl (hna _)
      refine ⟨fun G => ?_, fun G => ?_, ?_⟩
      ·simp only [TI.zeroV, ha, he]
       exact constV_rep z
      ·rw [hc, he]; exact Reps_const G [z]
      ·simp only [TI.zeroV, ha, he]
       exact constV_cells z
   exact ⟨und, ⟨i, z, hi, h1, h2, hz, key.1, key.2.1⟩, h4, fun hc => by
    rcases h7 with h | h
    ·rw [hc] at h; cases h
    ·exact ⟨h.1, h.2⟩, key.2.2, h5, fun ha => by
    rcases h6 with h | h
    ·rw [ha] at h; cases h
    ·exact h⟩
  ·cases h3
 ·cases h
theorem envOk_of {P : Program} {ti : Tab TI} {fn : Tab FInfo} {glob : Nat → Option (List AV)} {mth : TypeId → String → Option FuncId} {ext lib : FuncId → Option (List AV → Option AV)} {libS : FuncId → Option (St → List AV → Option (Option (Nat × List AV)))} {own : TypeId → Bool} (h1 : ti.All (TIOk P)) (h2 : fn.All (fun f fi => P.funcs[f]? = some fi.fn ∧ (fi.fn.name == "runtime.NumGoroutine") = false))
  (h3 : P.follows .mixedOrders = true) (h4 : P.follows .rangeFuncRecover = true)
  (h5 : ∀ t nm f, mth t nm = some f → MthOk P t nm f) (h6 : ∀ f h, ext f = some h → ExtOk P f h) : EnvOk P { ti := ti.look, fn := fn.look, glob, mth, ext, lib, libS, own } :=
 ⟨fun _ _ h => Tab.look_all h1 h, fun _ _ h => Tab.look_all h2 h, h5, h6, h3, h4⟩
/-! the start of a call -/
/-- all that lies there is not written again -/
def startG (h : Array Obj) : Gh := {
 obj := fun _ => none
 tok := fun _ => none
 own := fun b o => match cl h b o with
  | some c => .imm c
  | none => .none
 blk := fun _ => none
 rm := fun b => match h[b]? with
  | some (.map en ck) => if (en.toList.all fun e => decide (e.born < ck)) = true ∧ (en.toList.map (·.born)).Nodup then some (en, ck) else none
  | _ => none
 ro := fun _ => none
 lo := h.size }
def S0 : St := { n := 0, t := .leaf }
theorem start_inv (E : Env) (w : World) : InvW E w.heap.size w (startG w.heap) S0 w := by
 refine ⟨⟨fun b _ => rfl, Nat.le_refl _, fun b o c k => ?_, fun b o c k => ?_, fun b o k => ?_, fun b k => rfl, fun i o k => ?_, fun i _ => ⟨rfl, rfl⟩, fun b i k => (by cases k), fun b en ck k => ?_, fun b x k => (by cases k), Nat.le_refl _⟩, rfl, rfl⟩
 ·simp only [startG] at k
  split at k
  ·rename_i y hy; cases k; exact hy
  ·cases k
 ·simp only [startG] at k
  split at k <;> cases k
 ·have : cl w.heap b o = none := by
   unfold cl
   rw [Array.getElem?_eq_none k]
  simp [startG, this]
 ·have := St.get_lt k
  simp [S0] at this
 ·simp only [startG] at k
  split at k
  ·rename_i en' ck' hb
   split at k
   ·rename_i hc
    cases k
    exact ⟨(Array.getElem?_eq_some_iff.1 hb).1, hb, fun e he => by simpa using List.all_eq_true.1 hc.1 e he, hc.2⟩
   ·cases k
  ·cases k
theorem start_imm {h : Array Obj} {b o : Nat} {c : Value} (k : cl h b o = some c) : (startG h).own b o = .imm c := by simp [startG, k]
end Go.Vm
namespace Go.Vm
open Go
section
variable {E : Env} {call : CallF} {vars : List Tmp} {nt : Nat} {ops : List Oper} {L L' : Loc} {S S' : St}
def contR (E : Env) (call : CallF) (vars : List Tmp) (nt : Nat) (ops rest : List Oper) : Option Out → Option Out
 | some (.ok L S) => if S.bad then none else runA E call vars nt ops rest L S
 | some (.pan v L S) => some (.pan v L S)
 | none => none
def stepE (vars : List Tmp) (dst : Option Tmp) (L : Loc) (S : St) : Option Eff → Option Out
 | some e => applyE vars dst L e S
 | none => none
def valO (S : St) : Option AV → Option Eff
 | some v => some (.val v S)
 | none => none
theorem runA_nil' : runA E call vars nt ops [] L S = some (.ok L S) := rfl
theorem runA_cons' {dst : Option Tmp} {op : Op} {ty : TypeId} {pos : String} {aft : Array Edge} {rest : List Oper} (h : inFrame nt dst = true) :
  runA E call vars nt ops ({ dst := dst, op := op, type := ty, pos := pos, after := aft, guard := none } :: rest) L S = contR E call vars nt ops rest (stepE vars dst L S (effR E call (evO E vars L) op S)) := by
 unfold runA
 simp only [wantA, stepA, h, if_true]
 cases effR E call (evO E vars L) op S with
 | none => rfl
 | some e =>
  simp only [stepE]
  cases applyE vars dst L e S with
  | none => rfl
  | some o => cases o <;> rfl
theorem contR_ok {rest : List Oper} (h : S.bad = false) : contR E call vars nt ops rest (some (.ok L S)) = runA E call vars nt ops rest L S := by
 unfold contR
 simp only [h, Bool.false_eq_true, if_false]
theorem contR_pan {rest : List Oper} {v : AV} : contR E call vars nt ops rest (some (.pan v L S)) = some (.pan v L S) := rfl
theorem contR_none {rest : List Oper} : contR E call vars nt ops rest none = none := rfl
theorem stepE_val {dst : Option Tmp} {v : AV} : stepE vars dst L S (some (.val v S')) = some (.ok (L.putO vars dst v) S') := rfl
theorem stepE_none {dst : Option Tmp} : stepE vars dst L S none = none := rfl
theorem valO_some {v : AV} : valO S (some v) = some (.val v S) := rfl
theorem valO_none : valO S none = none := rfl
theorem eff_move {ρ : Operand → AV} {x : Operand} : effA E call ρ (.move x) S = some (.val (ρ x) S) := rfl
theorem eff_assign {ρ : Operand → AV} {x : Operand} : effA E call ρ (.assign x) S = some (.val (ρ x) S) := rfl
theorem eff_binOp {ρ : Operand → AV} {op : BinOp} {t ty : TypeId} {x y : Operand} : effA E call ρ (.binOp op t x y ty) S = valO S (binA E op t x y (ρ x) (ρ y)) := by
 simp only [effA, opK, pureA]
 cases binA E op t x y (ρ x) (ρ y) <;> rfl
theorem bin_int {op : BinOp} {t : TypeId} {x y : Operand} {k : IntKind} {m n : Int} (h : op ≠ .shl) (h' : op ≠ .shr) : binA E op t x y (.int k m) (.int k n) = intA op k m n := by
 cases op <;> first | exact absurd rfl h | exact absurd rfl h' | simp [binA]
end
section
variable {X : Ctx} {L : Loc} {S : St}
def condC (X : Ctx) (x y : Code) (L : Loc) (S : St) : AV → CRes
 | .bool true => evalC X x L.clear S
 | .bool false => evalC X y L.clear S
 | _ => none
theorem evalC_seq {a b : Code} : evalC X (.seq a b) L S = thenC (evalC X b) (evalC X a L S) := rfl
theorem evalC_cond {c : Operand} {x y : Code} : evalC X (.cond c x y) L S = condC X x y L S (evO X.E X.vars L c) := by
 unfold evalC condC
 split <;> simp_all
theorem condC_true {x y : Code} : condC X x y L S (.bool true) = evalC X x L.clear S := rfl
theorem condC_false {x y : Code} : condC X x y L S (.bool false) = evalC X y L.clear S := rfl
theorem evalC_region {id : Nat} {ops : Array Oper} : evalC X (.region id ops false) L S = outC (runA X.E X.call X.vars X.nt ops.toList ops.toList L.clear S) := rfl
theorem evalC_draw {id : Nat} {ops : Array Oper} : evalC X (.region id ops true) L S = outC (drawA X.E X.call X.vars X.nt ops.toList L.clear S) := rfl
theorem evalC_skip : evalC X .skip L S = some (.normal, L, S) := rfl
theorem evalC_ret : evalC X .ret L S = some (.ret, L.clear, S) := rfl
theorem evalC_exit {i : Nat} : evalC X (.exit i) L S = some (.exit i, L.clear, S) := rfl
theorem evalC_block {i : Nat} {c : Code} : evalC X (.block i c) L S = blockC i (evalC X c L S) := rfl
theorem evalC_scope {c : Code} : evalC X (.scope c) L S = evalC X c L S := rfl
/-- a loop that is no range over a map -/
def mapHead : Code → Bool
 | .seq (.region _ ops false) _ => (headNext ops).isSome
 | _ => false
theorem evalC_loop {c : Code} (h : mapHead c = false) : evalC X (.loop c) L S = X.it (evalC X c) L S := by
 unfold evalC
 split
 all_goals first
  | (rename_i heq; cases heq; done)
  | skip
 ·rename_i heq
  cases heq
  simp only [mapHead] at h
  split
  ·rfl
  ·rename_i hn
   rw [hn] at h
   cases h
 ·rename_i heq
  cases heq
  rfl
theorem thenC_normal {f : Loc → St → CRes} : thenC f (some (.normal, L, S)) = f L S := rfl
theorem thenC_ret {f : Loc → St → CRes} : thenC f (some (.ret, L, S)) = some (.ret, L, S) := rfl
theorem thenC_exit {f : Loc → St → CRes} {i : Nat} : thenC f (some (.exit i, L, S)) = some (.exit i, L, S) := rfl
theorem thenC_pan {f : Loc → St → CRes} {v : AV} : thenC f (some (.pan v, L, S)) = some (.pan v, L, S) := rfl
theorem outC_ok : outC (some (.ok L S)) = some (.normal, L, S) := rfl
theorem outC_pan {v : AV} : outC (some (.pan v L S)) = some (.pan v, L, S) := rfl
theorem iter_succ {n : Nat} {body : Loc → St → CRes} : iter (n + 1) body L S = thenC (iter n body) (body L.clear S) := by
 simp only [iter]
 cases body L.clear S with
 | none => rfl
 | some r => obtain ⟨e, L', S'⟩ := r; cases e <;> rfl
end
theorem callN_fn (E : Env) (n : Nat) (f : FuncId) (args : List AV) (S : St) : callN E (n + 1) (.fn f) args S = fnA E (callN E n) (fun g a r T => dfA E (callN E n) (iter n) g a r T) (iter n) f args S := rfl
end Go.Vm
namespace Go.Vm
open Go
section
variable {E : Env} {call : CallF} {ρ : Operand → AV} {S : St}
theorem eff_pure {op : Op} (h : opK op = .pure) : effA E call ρ op S = valO S (pureA E ρ op) := by
 unfold effA
 rw [h]
 cases pureA E ρ op <;> rfl
theorem eff_pick {c a b : Operand} : effA E call ρ (.pick c a b) S = valO S (pureA E ρ (.pick c a b)) := eff_pure rfl
theorem eff_build {t : TypeId} {ps : Array (Nat × Operand)} : effA E call ρ (.build t ps) S = valO S (pureA E ρ (.build t ps)) := eff_pure rfl
theorem eff_buildSlice {t : TypeId} {n : Nat} {ps : Array (Nat × Operand)} : effA E call ρ (.buildSlice t n ps) S = valO S (pureA E ρ (.buildSlice t n ps)) := eff_pure rfl
theorem eff_nilCheck {x : Operand} : effA E call ρ (.nilCheck x) S = valO S (pureA E ρ (.nilCheck x)) := eff_pure rfl
theorem eff_unOp {o : UnOp} {t : TypeId} {x : Operand} : effA E call ρ (.unOp o t x) S = valO S (unA o (ρ x)) := eff_pure rfl
theorem eff_convert {s d : TypeId} {x : Operand} : effA E call ρ (.convert s d x) S = valO S (convA E s d (ρ x)) := eff_pure rfl
theorem eff_makeInterface {t : TypeId} {x : Operand} : effA E call ρ (.makeInterface t x) S = valO S (pureA E ρ (.makeInterface t x)) := eff_pure rfl
theorem eff_makeFunc {f : Fn} {a b : Array Operand} : effA E call ρ (.makeFunc f a b) S = valO S (pureA E ρ (.makeFunc f a b)) := eff_pure rfl
theorem eff_fieldAddr {t : TypeId} {x : Operand} {f : Nat} : effA E call ρ (.fieldAddr t x f) S = valO S (fieldAddrA E t (ρ x) f) := eff_pure rfl
theorem eff_field {t : TypeId} {x : Operand} {f : Nat} : effA E call ρ (.field t x f) S = valO S (fieldA E t (ρ x) f) := eff_pure rfl
theorem eff_indexAddr {t : TypeId} {x i : Operand} : effA E call ρ (.indexAddr t x i) S = valO S (indexAddrA E t (ρ x) (ρ i)) := eff_pure rfl
theorem eff_extract {x : Operand} {i : Nat} : effA E call ρ (.extract x i) S = valO S (pureA E ρ (.extract x i)) := eff_pure rfl
theorem eff_slice {t : TypeId} {x : Operand} {a b c : Option Operand} : effA E call ρ (.slice t x a b c) S = valO S (sliceA E t (ρ x) (a.map ρ) (b.map ρ) (c.map ρ)) := eff_pure rfl
theorem eff_load {t : TypeId} {a : Operand} : effA E call ρ (.load t a) S = valO S (loadA E S t (ρ a)) := by
 simp only [effA, opK, readA]
 cases loadA E S t (ρ a) <;> rfl
theorem eff_alloc {t : TypeId} : effA E call ρ (.alloc t) S = actA E call ρ S (.alloc t) := rfl
theorem eff_box {t : TypeId} {x : Operand} : effA E call ρ (.box t x) S = actA E call ρ S (.box t x) := rfl
theorem eff_makeSlice {t : TypeId} {a b : Operand} : effA E call ρ (.makeSlice t a b) S = actA E call ρ S (.makeSlice t a b) := rfl
theorem eff_store {t : TypeId} {a v : Operand} : effA E call ρ (.store t a v) S = actA E call ρ S (.store t a v) := rfl
theorem eff_call {c : Call} (h : opK (.call c) = .act) : effA E call ρ (.call c) S = actA E call ρ S (.call c) := by
 unfold effA
 rw [h]
theorem eff_len {c : Call} (h : opK (.call c) = .pure) : effA E call ρ (.call c) S = valO S (pureA E ρ (.call c)) := eff_pure h
theorem eff_panic {x : Operand} : effA E call ρ (.panic x) S = actA E call ρ S (.panic x) := rfl
theorem eff_defer {c : Call} : effA E call ρ (.defer c) S = actA E call ρ S (.defer c) := rfl
/-- what was there is there still -/
structure Ext (S S' : St) : Prop where
 n : S.n ≤ S'.n
 get : ∀ i o, S.get i = some o → S'.get i = some o
theorem Ext.refl (S : St) : Ext S S := ⟨Nat.le_refl _, fun _ _ h => h⟩
theorem Ext.trans {A B C : St} (h : Ext A B) (k : Ext B C) : Ext A C := ⟨Nat.le_trans h.n k.n, fun i o x => k.get i o (h.get i o x)⟩
theorem Ext.push (S : St) (o : AO) : Ext S (S.push o) := ⟨by rw [St.n_push]; omega, fun _ _ h => St.get_push_of S o h⟩
/-- a store into what is newer -/
theorem Ext.put {S S' : St} (h : Ext S S') {i : Nat} (hi : S.n ≤ i) (o : AO) : Ext S (S'.put i o) :=
 ⟨h.n, fun j x hx => by
  have := St.get_lt hx
  rw [St.get_put_ne _ _ _ (by omega)]; exact h.get j x hx⟩
theorem draw_ok {vars : List Tmp} {nt : Nat} {ops : List Oper} {L L' : Loc} {S' : St} {es : List Entry} (tau : List Nat) (h1 : (tauOf (befL ops []) ops.zipIdx []).map (·.2) = tau) (h2 : drawOk ops tau = true)
  (h3 : runT E call vars nt ops tau L S = some (es, .ok L' S')) (h4 : trOk E vars ops (befL ops []) es = true) : drawA E call vars nt ops L S = some (.ok L' S') := by
 unfold drawA
 simp only [h1, h2, h3, h4, if_true]
end
mutual
theorem AV.beq_self : ∀ a : AV, AV.beq a a = true
 | .undef | .bool _ | .int _ _ | .str _ | .nilp | .ptr _ _ | .nils | .rsl _ _ _ _ | .nilm | .map _ | .yld _ | .nilf | .nili => by simp [AV.beq]
 | .fref f a b => by simp [AV.beq, AV.beqL_self a, AV.beqL_self b]
 | .rmap a b => by simp [AV.beq, AV.beqL_self a, AV.beqL_self b]
 | .rptr cs => by simp [AV.beq, AV.beqL_self cs]
 | .slice es tk => by simp [AV.beq, AV.beqL_self es]
 | .fn f a b => by simp [AV.beq, AV.beqL_self a, AV.beqL_self b]
 | .iface t v => by simp [AV.beq, AV.beq_self v]
 | .agg cs => by simp [AV.beq, AV.beqL_self cs]
 | .tup cs => by simp [AV.beq, AV.beqL_self cs]
theorem AV.beqL_self : ∀ a : List AV, AV.beqL a a = true
 | [] => by simp [AV.beqL]
 | a :: x => by simp [AV.beqL, AV.beq_self a, AV.beqL_self x]
end
end Go.Vm
namespace Go.Vm
open Go
theorem cells?_push_self (S : St) (cs : List AV) : (S.push (.cells cs)).cells? S.n = some cs := by
 unfold St.cells?
 rw [St.get_push_self]
theorem cells?_push_ne (S : St) (o : AO) {i : Nat} (h : i ≠ S.n) : (S.push o).cells? i = S.cells? i := by
 unfold St.cells?
 rw [St.get_push_ne _ _ h]
theorem cells?_put_self (S : St) (i : Nat) (cs : List AV) (h : i < S.n) : (S.put i (.cells cs)).cells? i = some cs := by
 unfold St.cells?
 rw [St.get_put_self _ _ _ h]
theorem cells?_put_ne (S : St) (i : Nat) (o : AO) {j : Nat} (h : j ≠ i) : (S.put i o).cells? j = S.cells? j := by
 unfold St.cells?
 rw [St.get_put_ne _ _ _ h]
theorem n_push' (S : St) (o : AO) : (S.push o).n = S.n + 1 := rfl
theorem n_put' (S : St) (i : Nat) (o : AO) : (S.put i o).n = S.n := rfl
end Go.Vm
namespace Go.Vm
open Go
theorem runA_consN {E : Env} {call : CallF} {vars : List Tmp} {nt : Nat} {ops : List Oper} {L : Loc} {S : St} {op : Op} {ty : TypeId} {pos : String} {aft : Array Edge} {rest : List Oper} :
  runA E call vars nt ops ({ dst := none, op := op, type := ty, pos := pos, after := aft, guard := none } :: rest) L S = contR E call vars nt ops rest (stepE vars none L S (effR E call (evO E vars L) op S)) := runA_cons' rfl
end Go.Vm
namespace Go.Vm
open Go
theorem cells?_put_push (S : St) (o : AO) (cs : List AV) : ((S.push o).put S.n (.cells cs)).cells? S.n = some cs := cells?_put_self _ _ _ (by rw [n_push']; omega)
end Go.Vm
namespace Go.Vm
open Go
/-- a slice that may be appended to once more -/
def Live (B : Nat) (S : St) (sz : Nat) : Tk → Prop
 | .full => True
 | .dead => False
 | .lit => False
 | .tok j s => s = sz ∧ B ≤ j ∧ S.get j = some (.tok false)
/-- from a memory on: what was older is as it was, and all cells -/
structure Grew (B : Nat) (S S' : St) : Prop where
 n : S.n ≤ S'.n
 old : ∀ k o, k < B → S.get k = some o → S'.get k = some o
 cells : ∀ k cs, S.get k = some (.cells cs) → S'.get k = some (.cells cs)
theorem Grew.refl (B : Nat) (S : St) : Grew B S S := ⟨Nat.le_refl _, fun _ _ _ h => h, fun _ _ h => h⟩
theorem Grew.trans {B : Nat} {S S' S'' : St} (h : Grew B S S') (k : Grew B S' S'') : Grew B S S'' :=
 ⟨Nat.le_trans h.n k.n, fun i o hi x => k.old i o hi (h.old i o hi x), fun i cs x => k.cells i cs (h.cells i cs x)⟩
theorem Ext.grew {B : Nat} {S S' : St} (h : Ext S S') : Grew B S S' := ⟨h.n, fun k o _ x => h.get k o x, fun k cs x => h.get k _ x⟩
theorem Grew.cells? {B : Nat} {S S' : St} (h : Grew B S S') {k : Nat} {cs : List AV} (x : S.cells? k = some cs) : S'.cells? k = some cs := by
 have := h.cells k cs (cells?_inv x)
 unfold St.cells?
 rw [this]
theorem Grew.ext {S S' : St} (h : Grew S.n S S') : Ext S S' := ⟨h.n, fun i o x => h.old i o (St.get_lt x) x⟩
theorem append_live {E : Env} {S : St} {B : Nat} {e : TypeId} {i : TI} (hti : E.ti e = some i) (hsz : i.size ≠ 0) {es new : List AV} {tk : Tk} (hl : Live B S i.size tk) (hes : headSz i.size es = true)
  (hc : (new.flatMap AV.cells).all (·.isCell) = true) (hn : new.all (fun v => v.cells.length = i.size) = true) (hne : new ≠ []) (hr : roomOk i (es.length + new.length) = true) (hB : B ≤ S.n) :
  ∃ tk' S', appendA E S e (.slice es tk) new = some (.slice (es ++ new) tk', S') ∧ Live B S' i.size tk' ∧ Grew B S S' := by
 cases new with
 | nil => exact absurd rfl hne
 | cons x r =>
  have hbase : ∀ S1, spend S tk i.size = some S1 → appendA E S e (.slice es tk) (x :: r) = some (.slice (es ++ x :: r) (.tok S.n i.size), S1.push (.tok false)) := by
   intro S1 h1
   unfold appendA
   simp only [hti]
   rw [if_pos ⟨hc, hn, hsz⟩]
   have hnl : ¬ (tk = .lit ∧ i.size = 1) := by rintro ⟨rfl, _⟩; exact hl
   simp only [hes, hr, h1, and_self, if_true, if_neg hnl]
  cases tk with
  | dead => exact hl.elim
  | lit => exact hl.elim
  | full =>
   have hb := hbase S rfl
   exact ⟨_, _, hb, ⟨rfl, hB, St.get_push_self _ _⟩, (Ext.push S _).grew⟩
  | tok j s =>
   obtain ⟨rfl, h2, h3⟩ := hl
   have hb := hbase (S.put j (.tok true)) (by simp [spend, h3])
   refine ⟨_, _, hb, ⟨rfl, hB, ?_⟩, ⟨?_, fun k o hk h => ?_, fun k cs h => ?_⟩⟩
   ·have := St.get_push_self (S.put j (.tok true)) (.tok false)
    exact this
   ·rw [St.n_push, St.n_put]; omega
   ·apply St.get_push_of
    rw [St.get_put_ne _ _ _ (by omega)]; exact h
   ·apply St.get_push_of
    rw [St.get_put_ne _ _ _ (fun e => by subst e; rw [h3] at h; cases h)]; exact h
end Go.Vm
namespace Go.Vm
open Go
section
variable {E : Env} {call : CallF} {ρ : Operand → AV} {S : St}
theorem eff_len1 {x : Operand} {t : TypeId} : effA E call ρ (.call { callee := .builtin .len, args := #[x], argTypes := #[t] }) S = valO S (lenA E t (ρ x)) := eff_pure rfl
theorem eff_max2 {x y : Operand} {ts : Array TypeId} : effA E call ρ (.call { callee := .builtin .max, args := #[x, y], argTypes := ts }) S = valO S (foldA (maxA .max) (ρ x) [ρ y]) := eff_pure rfl
theorem eff_min2 {x y : Operand} {ts : Array TypeId} : effA E call ρ (.call { callee := .builtin .min, args := #[x, y], argTypes := ts }) S = valO S (foldA (maxA .min) (ρ x) [ρ y]) := eff_pure rfl
theorem eff_append2 {x y : Operand} {t u : TypeId} : effA E call ρ (.call { callee := .builtin .append, args := #[x, y], argTypes := #[t, u] }) S = actA E call ρ S (.call { callee := .builtin .append, args := #[x, y], argTypes := #[t, u] }) := rfl
theorem eff_callV {f : Operand} {args : Array Operand} {ts : Array TypeId} : effA E call ρ (.call { callee := .value f, args := args, argTypes := ts }) S = actA E call ρ S (.call { callee := .value f, args := args, argTypes := ts }) := rfl
end
end Go.Vm
namespace Go.Vm
open Go
theorem cells?_push_eq (S : St) (cs : List AV) {i : Nat} (h : i = S.n) : (S.push (.cells cs)).cells? i = some cs := by subst h; exact cells?_push_self S cs
theorem cells?_put_eq (S : St) (cs : List AV) {i j : Nat} (h : j = i) (h' : i < S.n) : (S.put i (.cells cs)).cells? j = some cs := by subst h; exact cells?_put_self S _ cs h'
end Go.Vm
namespace Go.Vm
open Go
def cellsOf? : AO → Option (List AV)
 | .cells cs => some cs
 | _ => none
theorem cells?_def (S : St) (i : Nat) : S.cells? i = (S.get i).bind cellsOf? := by
 unfold St.cells?
 cases S.get i with
 | none => rfl
 | some o => cases o <;> rfl
theorem push_at (S : St) (o : AO) (i : Nat) : (S.push o).cells? i = if i = S.n then cellsOf? o else S.cells? i := by
 split
 ·rename_i h
  subst h
  rw [cells?_def, St.get_push_self]
  rfl
 ·rename_i h
  exact cells?_push_ne S o h
theorem put_at (S : St) (j : Nat) (o : AO) (i : Nat) (hj : j < S.n) : (S.put j o).cells? i = if i = j then cellsOf? o else S.cells? i := by
 split
 ·rename_i h
  subst h
  rw [cells?_def, St.get_put_self _ _ _ hj]
  rfl
 ·rename_i h
  exact cells?_put_ne S j o h
end Go.Vm
namespace Go.Vm
open Go
def guardR (E : Env) (call : CallF) (vars : List Tmp) (nt : Nat) (ops rest : List Oper) (dst : Option Tmp) (op : Op) (L : Loc) (S : St) : Option Bool → Option Out
 | some true => contR E call vars nt ops rest (stepE vars dst L S (effR E call (evO E vars L) op S))
 | some false => runA E call vars nt ops rest (L.putO vars dst nowhere) S
 | none => none
def guardV (want : Bool) : AV → Option Bool
 | .bool b => some (b == want)
 | .tup _ => some false
 | _ => none
theorem guardR_true {E : Env} {call : CallF} {vars : List Tmp} {nt : Nat} {ops rest : List Oper} {dst : Option Tmp} {op : Op} {L : Loc} {S : St} :
  guardR E call vars nt ops rest dst op L S (some true) = contR E call vars nt ops rest (stepE vars dst L S (effR E call (evO E vars L) op S)) := rfl
theorem guardR_false {E : Env} {call : CallF} {vars : List Tmp} {nt : Nat} {ops rest : List Oper} {dst : Option Tmp} {op : Op} {L : Loc} {S : St} :
  guardR E call vars nt ops rest dst op L S (some false) = runA E call vars nt ops rest (L.putO vars dst nowhere) S := rfl
theorem guardV_bool {w b : Bool} : guardV w (.bool b) = some (b == w) := rfl
theorem guardV_tup {w : Bool} {l : List AV} : guardV w (.tup l) = some false := rfl
theorem runA_consG {E : Env} {call : CallF} {vars : List Tmp} {nt : Nat} {ops : List Oper} {L : Loc} {S : St} {dst : Option Tmp} {op : Op} {ty : TypeId} {pos : String} {aft : Array Edge} {rest : List Oper} {j : Nat} {want : Bool} {d : Tmp}
  (h : inFrame nt dst = true) (hd : (ops[j]?).bind (·.dst) = some d) :
  runA E call vars nt ops ({ dst := dst, op := op, type := ty, pos := pos, after := aft, guard := some (j, want) } :: rest) L S = guardR E call vars nt ops rest dst op L S (guardV want (L.get vars d)) := by
 unfold runA
 simp only [wantA, hd, stepA, h, if_true]
 unfold guardV
 split
 ·rename_i hb
  split at hb
  ·rename_i b e
   injection hb with hb
   rw [e]
   simp only [hb, guardR_true]
   cases effR E call (evO E vars L) op S with
   | none => simp_all [guardR, stepE, contR]
   | some e' =>
    cases ha : applyE vars dst L e' S with
    | none => simp_all [guardR, stepE, contR]
    | some o => cases o <;> simp_all [guardR, stepE, contR]
  ·cases hb
  ·cases hb
 ·rename_i hb
  split at hb
  ·rename_i b e; injection hb with hb; rw [e]; simp only [hb, guardR_false]
  ·rename_i e; rw [e]; rfl
  ·cases hb
 ·rename_i hb
  split at hb
  ·cases hb
  ·cases hb
  ·split
   ·rename_i e; exact absurd e (by simp_all)
   ·rename_i e; exact absurd e (by simp_all)
   ·rfl
end Go.Vm
