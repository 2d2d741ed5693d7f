/-
A step, a region, of the evaluator and of the machine. No conditions.
-/
import Derived.Test.YtjfnelfdlemfgaaGreatDoorVmD
import Derived.Laws.IdiomStrings
set_option linter.all false
set_option maxHeartbeats 4000000
namespace Go.Vm
open Go
variable {P : Program} {E : Env} {B : Nat} {h0 : World} {G : Gh} {S S' : St} {w : World}
/-- a frame that runs -/
def fat (b : Frame) (a : Act) (todo : List Item) : Frame :=
 { fn := b.fn, tmps := a.tmps, todo, defers := a.defers, mode := .run, kind := b.kind, roundOf := b.roundOf }
def entry (c : Value) : PanicEntry := { v := c, recovered := false }
theorem fat_eval (b : Frame) (a : Act) (todo : List Item) : (fat b a todo).eval = a.eval := by
 funext x
 cases x <;> rfl
theorem fat_finish (b : Frame) (a : Act) (ops : Array Oper) (i : Nat) (rest : List Nat) (k : List Item) (v : Value) :
  (fat b a (.inRegion ops (i :: rest) :: k)).finish v = fat b (a.put ((ops[i]?).bind (·.dst)) v) (.inRegion ops rest :: k) := by
 cases h : (ops[i]?).bind (·.dst) <;> simp [Frame.finish, fat, Act.put, h]
section
variable {b : Frame} {a : Act} {k : List Item} {cs : List Frame}
theorem fstep_skip : step P (lone (fat b a (.code .skip :: k)) cs w) = .next (lone (fat b a k) cs w) :=
 step_lone_go (by simp [stepG, stepG.exec, fat])
theorem fstep_label {l : Nat} : step P (lone (fat b a (.code (.label l) :: k)) cs w) = .next (lone (fat b a k) cs w) :=
 step_lone_go (by simp [stepG, stepG.exec, fat])
theorem fstep_inBlock {id : Nat} : step P (lone (fat b a (.inBlock id :: k)) cs w) = .next (lone (fat b a k) cs w) :=
 step_lone_go (by simp [stepG, stepG.exec, fat])
theorem fstep_inScope {c : Code} : step P (lone (fat b a (.inScope c :: k)) cs w) = .next (lone (fat b a k) cs w) :=
 step_lone_go (by simp [stepG, stepG.exec, fat])
theorem fstep_seq {x y : Code} : step P (lone (fat b a (.code (.seq x y) :: k)) cs w) = .next (lone (fat b a (.code x :: .code y :: k)) cs w) :=
 step_lone_go (by simp [stepG, stepG.exec, fat])
theorem fstep_cond {c : Operand} {x y : Code} {t : Bool} (h : a.eval c = .bool t) :
  step P (lone (fat b a (.code (.cond c x y) :: k)) cs w) = .next (lone (fat b a (.code (if t then x else y) :: k)) cs w) :=
 step_lone_go (by
  have := congrFun (fat_eval b a (.code (.cond c x y) :: k)) c
  simp only [fat] at this
  simp [stepG, stepG.exec, fat, this, h])
theorem fstep_block {id : Nat} {c : Code} : step P (lone (fat b a (.code (.block id c) :: k)) cs w) = .next (lone (fat b a (.code c :: .inBlock id :: k)) cs w) :=
 step_lone_go (by simp [stepG, stepG.exec, fat])
theorem fstep_scope {c : Code} : step P (lone (fat b a (.code (.scope c) :: k)) cs w) = .next (lone (fat b a (.code c :: .inScope c :: k)) cs w) :=
 step_lone_go (by simp [stepG, stepG.exec, fat])
theorem fstep_loop {c : Code} : step P (lone (fat b a (.code (.loop c) :: k)) cs w) = .next (lone (fat b a (.code c :: .inLoop c :: k)) cs w) :=
 step_lone_go (by simp [stepG, stepG.exec, fat])
theorem fstep_inLoop {c : Code} : step P (lone (fat b a (.inLoop c :: k)) cs w) = .next (lone (fat b a (.code c :: .inLoop c :: k)) cs w) :=
 step_lone_go (by simp [stepG, stepG.exec, fat])
theorem fstep_exit {id : Nat} {k' : List Item} (h : exitTo id k = some k') : step P (lone (fat b a (.code (.exit id) :: k)) cs w) = .next (lone (fat b a k') cs w) :=
 step_lone_go (by simp [stepG, stepG.exec, fat, h])
theorem fstep_ret (h : b.roundOf = none) : step P (lone (fat b a (.code .ret :: k)) cs w) = .next (lone { fat b a (.code .ret :: k) with mode := .returning } cs w) :=
 step_lone_go (by simp [stepG, stepG.exec, fat, h])
theorem fstep_end (h : b.roundOf = none) : step P (lone (fat b a []) cs w) = .next (lone { fat b a [] with mode := .returning } cs w) :=
 step_lone_go (by simp [stepG, stepG.exec, fat, h])
theorem fstep_region {id : Nat} {ops : Array Oper} :
  step P (lone (fat b a (.code (.region id ops false) :: k)) cs w) = .next (lone (fat b a (.inRegion ops (List.range ops.size) :: k)) cs w) :=
 step_lone_go (by simp [stepG, stepG.exec, fat])
theorem fstep_region_draw {id : Nat} {ops : Array Oper} :
  step P (lone (fat b a (.code (.region id ops true) :: k)) cs w) =
   .next (lone (fat b a (.inRegion ops (Region.schedule (P.follows .mixedOrders) ops (w.tape w.drawn (.order b.fn id))) :: k)) cs { w with drawn := w.drawn + 1 }) :=
 step_lone_go (by simp [stepG, stepG.exec, fat, choose, Sem.run, Question.forced, Question.cut])
theorem fstep_region_end {ops : Array Oper} : step P (lone (fat b a (.inRegion ops [] :: k)) cs w) = .next (lone (fat b a k) cs w) :=
 step_lone_go (by simp [stepG, stepG.exec, fat])
theorem fstep_op_skip {ops : Array Oper} {i : Nat} {rest : List Nat} (h : ((ops[i]?).map (Region.wanted · (yielded ops a.tmps))).getD false = false) :
  step P (lone (fat b a (.inRegion ops (i :: rest) :: k)) cs w) = .next (lone (fat b (a.put ((ops[i]?).bind (·.dst)) undef) (.inRegion ops rest :: k)) cs w) := by
 rw [← fat_finish]
 exact step_lone_go (by
  have h' := h
  simp only [fat] at *
  simp [stepG, stepG.exec, h'])
theorem fstepG_op {ops : Array Oper} {i : Nat} {rest : List Nat} {o : Oper} (ho : ops[i]? = some o) (hw : Region.wanted o (yielded ops a.tmps) = true) (hd : b.roundOf = none ∨ ∀ c, o.op ≠ .defer c) :
  stepG P true { frame := fat b a (.inRegion ops (i :: rest) :: k), callers := cs, status := .running, dying := none } w =
   stepG.apply P true (fat b a (.inRegion ops (i :: rest) :: k)) cs none (execOp a.eval o) w := by
 have he := fat_eval b a (.inRegion ops (i :: rest) :: k)
 simp only [fat] at he
 rcases hd with hd | hd
 ·rw [hd] at he
  simp [stepG, stepG.exec, stepG.oper, Frame.oper?, fat, ho, hw, he, hd]
 ·cases hr : b.roundOf with
  | none =>
   rw [hr] at he
   simp [stepG, stepG.exec, stepG.oper, Frame.oper?, fat, ho, hw, he, hr]
  | some l =>
   rw [hr] at he
   cases hop : o.op <;> first
    | exact absurd hop (hd _)
    | simp [stepG, stepG.exec, stepG.oper, Frame.oper?, fat, ho, hw, he, hr, hop]
theorem fstep_next {ops : Array Oper} {i : Nat} {rest : List Nat} {o : Oper} (ho : ops[i]? = some o) (hw : Region.wanted o (yielded ops a.tmps) = true) (hd : b.roundOf = none ∨ ∀ c, o.op ≠ .defer c)
  {n : Next} {c : Value} {w' : World} (hr : (execOp a.eval o).run P w = .ok n w') (hn : nextVal n = some c) :
  step P (lone (fat b a (.inRegion ops (i :: rest) :: k)) cs w) = .next (lone (fat b (a.put o.dst c) (.inRegion ops rest :: k)) cs w') := by
 have hfin : (fat b a (.inRegion ops (i :: rest) :: k)).finish c = fat b (a.put o.dst c) (.inRegion ops rest :: k) := by
  rw [fat_finish, ho]; rfl
 refine step_lone_go ?_
 rw [fstepG_op ho hw hd, ← hfin]
 cases n <;> simp [nextVal] at hn <;> subst hn <;> simp [stepG.apply, hr]
theorem fstep_panic {ops : Array Oper} {i : Nat} {rest : List Nat} {o : Oper} (ho : ops[i]? = some o) (hw : Region.wanted o (yielded ops a.tmps) = true) (hd : b.roundOf = none ∨ ∀ c, o.op ≠ .defer c)
  {c : Value} {w' : World} (hr : (execOp a.eval o).run P w = .halt (.panic c) w') :
  step P (lone (fat b a (.inRegion ops (i :: rest) :: k)) cs w) = .next (lone { fat b a (.inRegion ops (i :: rest) :: k) with mode := .panicking [entry c] } cs w') := by
 refine step_lone_go ?_
 rw [fstepG_op ho hw hd]
 simp [stepG.apply, hr, Frame.raise, fat, entry]
theorem fstep_enter {ops : Array Oper} {i : Nat} {rest : List Nat} {o : Oper} (ho : ops[i]? = some o) (hw : Region.wanted o (yielded ops a.tmps) = true) (hd : b.roundOf = none ∨ ∀ c, o.op ≠ .defer c)
  {f : FuncId} {args : Array Value} {w' : World} (hr : (execOp a.eval o).run P w = .ok (.enter f args) w') :
  step P (lone (fat b a (.inRegion ops (i :: rest) :: k)) cs w) = .next (lone (Frame.enter P f args .normal) (fat b a (.inRegion ops (i :: rest) :: k) :: cs) w') := by
 refine step_lone_go ?_
 rw [fstepG_op ho hw hd]
 simp [stepG.apply, hr, fat]
theorem fstep_round {ops : Array Oper} {i : Nat} {rest : List Nat} {o : Oper} (ho : ops[i]? = some o) (hw : Region.wanted o (yielded ops a.tmps) = true) (hd : b.roundOf = none ∨ ∀ c, o.op ≠ .defer c)
  {l : Nat} {f : FuncId} {tmps : Array Value} {asg body : Code} {w' : World} (hr : (execOp a.eval o).run P w = .ok (.round l f tmps asg body) w') :
  step P (lone (fat b a (.inRegion ops (i :: rest) :: k)) cs w) = .next (lone (Frame.round l f tmps asg body .normal) (fat b a (.inRegion ops (i :: rest) :: k) :: cs) w') := by
 refine step_lone_go ?_
 rw [fstepG_op ho hw hd]
 simp [stepG.apply, hr, fat]
theorem fstep_defer {ops : Array Oper} {i : Nat} {rest : List Nat} {o : Oper} (ho : ops[i]? = some o) (hw : Region.wanted o (yielded ops a.tmps) = true) (hd : b.roundOf = none)
  {d : Deferred} {w' : World} (hr : (execOp a.eval o).run P w = .ok (.defer d) w') :
  step P (lone (fat b a (.inRegion ops (i :: rest) :: k)) cs w) = .next (lone (fat b ({ a with defers := d :: a.defers }.put o.dst undef) (.inRegion ops rest :: k)) cs w') := by
 have hfin : (fat b { a with defers := d :: a.defers } (.inRegion ops (i :: rest) :: k)).finish undef = fat b ({ a with defers := d :: a.defers }.put o.dst undef) (.inRegion ops rest :: k) := by
  rw [fat_finish, ho]; rfl
 refine step_lone_go ?_
 rw [fstepG_op ho hw (.inl hd), ← hfin]
 simp [stepG.apply, hr, fat]
theorem fstep_recover {ops : Array Oper} {i : Nat} {rest : List Nat} {o : Oper} (ho : ops[i]? = some o) (hw : Region.wanted o (yielded ops a.tmps) = true) (hd : b.roundOf = none)
  {w' : World} (hr : (execOp a.eval o).run P w = .ok .recover w') :
  step P (lone (fat b a (.inRegion ops (i :: rest) :: k)) cs w) = match tryRecover (fat b a (.inRegion ops (i :: rest) :: k)) cs with
   | some (v, cs') => .next (lone (fat b (a.put o.dst v) (.inRegion ops rest :: k)) cs' w')
   | none => .next (lone (fat b (a.put o.dst .nilIface) (.inRegion ops rest :: k)) cs w') := by
 have hfin : ∀ v, (fat b a (.inRegion ops (i :: rest) :: k)).finish v = fat b (a.put o.dst v) (.inRegion ops rest :: k) := by
  intro v; rw [fat_finish, ho]; rfl
 have hro : (fat b a (.inRegion ops (i :: rest) :: k)).roundOf = none := hd
 cases ht : tryRecover (fat b a (.inRegion ops (i :: rest) :: k)) cs with
 | none =>
  refine step_lone_go ?_
  rw [fstepG_op ho hw (.inl hd), ← hfin]
  simp [stepG.apply, hr, hro, ht]
 | some x =>
  obtain ⟨v, cs'⟩ := x
  refine step_lone_go ?_
  rw [fstepG_op ho hw (.inl hd), ← hfin]
  simp [stepG.apply, hr, hro, ht]
end
/-! what a call comes to -/
def FEnd (G : Gh) : FRes → Ending → Prop
 | .ret v, e => ∃ c, e = .returned c ∧ Rep G v c
 | .pan v, e => ∃ c, e = .panicked [entry c] ∧ Rep G v c
def GlobOk (E : Env) (G : Gh) : Prop := ∀ g cs, E.glob g = some cs → Rep G (.rptr cs) (.pointer (some ⟨g, 0, none⟩))
theorem GlobOk.mono {G G' : Gh} (hG : G.Le0 G') (h : GlobOk E G) : GlobOk E G' := fun g cs hg => (h g cs hg).mono hG
structure CallOk (P : Program) (E : Env) (B : Nat) (h0 : World) (call : CallF) : Prop where
 fn : ∀ f args S r S', call (.fn f) args S = some (r, S') → ∀ G w cargs, InvW E B h0 G S w → GlobOk E G → Reps G args cargs.toList →
  (∃ fi, E.fn f = some fi ∧ fi.fn.body.isSome = true) ∧ Calls P f cargs w fun e w' => ∃ G', G.Le G' ∧ InvW E B h0 G' S' w' ∧ FEnd G' r e
 yld : ∀ l args S r S', call (.yld l) args S = some (r, S') → ∀ G w cargs bl, InvW E B h0 G S w → GlobOk E G → G.obj l = some (bl, 0) → Reps G args cargs.toList →
  ∃ f tmps asg body, (Instr.yield bl cargs).run P w = .ok (.round bl f tmps asg body) w ∧ ∀ c cs, ∃ G' w', G.Le G' ∧ InvW E B h0 G' S' w' ∧
   match r with
   | .ret v => ∃ u, Rep G' v u ∧ Steps P (lone (Frame.round bl f tmps asg body .normal) (c :: cs) w) (lone (c.finish u) cs w')
   | .pan v => ∃ u, Rep G' v u ∧ Steps P (lone (Frame.round bl f tmps asg body .normal) (c :: cs) w) (lone (c.raise [entry u]) cs w')
def DRel (G : Gh) : ADef → Deferred → Prop
 | .call f args, d => ∃ first cap, d.target = .fn (.func f) cap ∧ d.args = first ∧ Reps G args (first ++ cap).toList
 | .coll i, d => ∃ bl, G.obj i = some (bl, 0) ∧ d.target = .collected bl
theorem DRel.mono {G G' : Gh} (hG : G.Le0 G') {x : ADef} {d : Deferred} (h : DRel G x d) : DRel G' x d := by
 cases x with
 | call f args => obtain ⟨first, cap, h1, h2, h3⟩ := h; exact ⟨first, cap, h1, h2, h3.mono hG⟩
 | coll i => obtain ⟨bl, h1, h2⟩ := h; exact ⟨bl, hG.obj _ _ h1, h2⟩
def DRels (G : Gh) : List ADef → List Deferred → Prop
 | [], [] => True
 | x :: xs, d :: ds => DRel G x d ∧ DRels G xs ds
 | _, _ => False
theorem DRels.mono {G G' : Gh} (hG : G.Le0 G') : ∀ {xs : List ADef} {ds : List Deferred}, DRels G xs ds → DRels G' xs ds
 | [], [], _ => trivial
 | _ :: _, _ :: _, h => ⟨h.1.mono hG, DRels.mono hG h.2⟩
 | [], _ :: _, h => h.elim
 | _ :: _, [], h => h.elim
/-- one operation, whatever the frame's other slots -/
def EffRel (P : Program) (E : Env) (B : Nat) (h0 : World) (G : Gh) (b : Frame) (a : Act) (ops : Array Oper) (i : Nat) (rest : List Nat) (o : Oper) (k : List Item) (cs : List Frame) (w : World) : Eff → Prop
 | .val v S' => ∃ G' c w', G.Le G' ∧ InvW E B h0 G' S' w' ∧ Rep G' v c ∧ Steps P (lone (fat b a (.inRegion ops (i :: rest) :: k)) cs w) (lone (fat b (a.put o.dst c) (.inRegion ops rest :: k)) cs w')
 | .pan v S' => ∃ G' c w', G.Le G' ∧ InvW E B h0 G' S' w' ∧ Rep G' v c ∧
   Steps P (lone (fat b a (.inRegion ops (i :: rest) :: k)) cs w) (lone { fat b a (.inRegion ops (i :: rest) :: k) with mode := .panicking [entry c] } cs w')
 | .dfr d => ∃ d', DRel G d d' ∧ (execOp a.eval o).run P w = .ok (.defer d') w
 | .rcv => (execOp a.eval o).run P w = .ok .recover w
theorem callFunc_enter (H : EnvOk P E) {f : FuncId} {fi : FInfo} {args : Array Value} (hf : E.fn f = some fi) (hb : fi.fn.body.isSome = true) : (callFunc f args).run P w = .ok (.enter f args) w := by
 obtain ⟨h1, h2⟩ := H.fn f fi hf
 have h3 : fi.fn.body ≠ none := by
  intro e
  rw [e] at hb
  simp at hb
 have h4 : fi.fn.name ≠ "runtime.NumGoroutine" := by simpa using h2
 simp [callFunc, h1, h3, h4]
theorem Rep.fn_inv {f : FuncId} {fs cs : List AV} {c : Value} (h : Rep G (.fn f fs cs) c) : ∃ fs' cs', c = .func (.func f) fs' cs' ∧ Reps G fs fs'.toList ∧ Reps G cs cs'.toList := by
 cases h with
 | fn _ _ _ fs' cs' hf hc h1 h2 => exact ⟨fs', cs', rfl, ⟨by simpa using hf, fun j x y hx hy => h1 j x y hx (by simpa using hy)⟩, ⟨by simpa using hc, fun j x y hx hy => h2 j x y hx (by simpa using hy)⟩⟩
theorem extract_one (x : Value) (xs : Array Value) : (#[x] ++ xs).extract 1 (#[x] ++ xs).size = xs := by
 rw [← Array.toList_inj, Array.toList_extract]
 simp [List.extract_eq_take_drop, List.take_of_length_le]
theorem invoke_method {P : Program} {w : World} {t : TypeId} {nm : String} {g : FuncId} {c : Value} {cap xs : Array Value} {n : Nat} (hn : P.types.size + Made.depth = n + 1) (hm : (method (n + 1) t c nm).run P w = .ok (g, c) w) :
  (invoke (.fn (.method nm) cap) (#[.iface t c] ++ xs)).run P w = (callFunc g (#[c] ++ xs)).run P w := by
 have h0 : (#[Value.iface t c] ++ xs)[0]? = some (.iface t c) := by rw [Array.getElem?_append_left (by simp)]; rfl
 have h1 := extract_one (.iface t c) xs
 generalize (#[Value.iface t c] ++ xs) = ys at h0 h1
 simp [invoke, h0, h1, callMethod, hn, hm]
theorem find_born {en : List MapEntry} {e : MapEntry} (hn : (en.map (·.born)).Nodup) (he : e ∈ en) : en.find? (fun x => x.born == e.born) = some e := by
 induction en with
 | nil => cases he
 | cons x r ih =>
  simp only [List.map_cons, List.nodup_cons] at hn
  rw [List.find?_cons]
  by_cases hx : x.born = e.born
  ·rw [show (x.born == e.born) = true from by simp [hx]]
   rcases List.mem_cons.1 he with rfl | h
   ·rfl
   ·exact absurd (List.mem_map.2 ⟨e, h, hx.symm⟩) hn.1
  ·rw [show (x.born == e.born) = false from by simp [hx]]
   rcases List.mem_cons.1 he with rfl | h
   ·exact absurd rfl hx
   ·exact ih hn.2 h
/-- the operation of a range over a map that is only read -/
theorem range_sound (H : EnvOk P E) (I : InvW E B h0 G S w) {ρ : Operand → AV} {ρc : Operand → Value} (hρ : ∀ x, Rep G (ρ x) (ρc x)) {o : Oper} {t kt et : TypeId} {x : Operand} {ks vs : List AV} (ho : o.op = .range t x)
  (hd : E.desc t = some (.map kt et)) (hx : ρ x = .rmap ks vs) : Does P E B h0 G (S.push (.iter ks vs)) (.ptr S.n 0) (execOp ρc o) w := by
 have hr := hρ x
 rw [hx] at hr
 have hr' := hr
 obtain ⟨b, en, ck, _, hc, q1, _⟩ := hr.rmap_inv
 rw [hc] at hr'
 obtain ⟨q3, q4, _⟩ := I.rm b en ck q1
 have hb : w.heap[b]? = some (.map en ck) := by rw [I.old b q3]; exact q4
 obtain ⟨G', hG, hobj, hblk, I'⟩ := I.pushBlk (x := .mapIter (some b) ck #[] ck) (o := .iter ks vs) (by simp) (fun G' hG h1 h2 => ⟨w.heap.size, b, en, ck, h1, h2, I.size, by simp, hr'.mono hG.toLe0, by rw [hG.rm]; exact q1⟩)
 refine Does.value (c := .pointer (some ⟨w.heap.size, 0, none⟩)) (w' := { w with heap := w.heap.push (.mapIter (some b) ck #[] ck) }) (G' := G') ?_ hG ⟨I', I.os, I.out⟩ (.ptr S.n 0 w.heap.size 0 hobj)
 have hgo : (getObj b).run P w = .ok (.map en ck) w := by simp [getObj, Sem.run, hb]
 simp [execOp, ho, Instr.range, run_und (H.desc hd), hc, hgo]
theorem entry_sound (I : InvW E B h0 G S w) {ρ : Operand → AV} {ρc : Operand → Value} (hρ : ∀ x, Rep G (ρ x) (ρc x)) {o : Oper} {x : Operand} {i : Nat} {k v : AV} (ho : o.op = .entry x) (hx : ρ x = .ptr i 0) (hS : S.get i = some (.iter1 k v)) :
  Does P E B h0 G S (.tup [k, v]) (execOp ρc o) w := by
 have hr := hρ x
 rw [hx] at hr
 generalize hc : ρc x = c at hr
 cases hr with
 | ptr _ _ b0 o0 hG =>
 obtain ⟨b, mb, en, ck, seen, e, h1, h4', h5, h6, h7, h8, h9⟩ := I.objs i _ hS
 have h4 := (I.ro _ _ h4').1
 rw [hG] at h1
 cases h1
 obtain ⟨q3, q4, _, q5⟩ := I.rm mb en ck h5
 have hb : w.heap[mb]? = some (.map en ck) := by rw [I.old mb q3]; exact q4
 have hg1 : (getObj b0).run P w = .ok (.mapIter (some mb) ck seen ck) w := by simp [getObj, Sem.run, h4]
 have hg2 : (getObj mb).run P w = .ok (.map en ck) w := by simp [getObj, Sem.run, hb]
 have hf : en.find? (fun x => x.born == e.born) = some e := by
  rw [← Array.find?_toList]
  exact find_born q5 h7
 refine Does.value (c := .tuple #[e.key, e.val]) (w' := w) (G' := G) ?_ (.refl G) I (Rep.tup' (Reps.cons h8 (Reps.cons h9 (Reps.nil G))))
 simp [execOp, ho, Instr.entry, hc, hg1, hg2, h6, hf]
theorem eff_sound (H : EnvOk P E) {call : CallF} (HC : CallOk P E B h0 call) (I : InvW E B h0 G S w) (hg : GlobOk E G) {ρ : Operand → AV} {a : Act} (hρ : ∀ x, Rep G (ρ x) (a.eval x)) {o : Oper} {eff : Eff}
  (h : effA E call ρ o.op S = some eff) {b : Frame} {ops : Array Oper} {i : Nat} {rest : List Nat} {k : List Item} {cs : List Frame} (ho : ops[i]? = some o) (hw : Region.wanted o (yielded ops a.tmps) = true) :
  EffRel P E B h0 G b a ops i rest o k cs w eff := by
 have does : ∀ {v : AV} {S' : St}, Does P E B h0 G S' v (execOp a.eval o) w → (b.roundOf = none ∨ ∀ c, o.op ≠ .defer c) → EffRel P E B h0 G b a ops i rest o k cs w (.val v S') := by
  intro v S' hd hdf
  obtain ⟨n, c, w', G', h1, h2, h3, h4, h5⟩ := hd
  exact ⟨G', c, w', h3, h4, h5, .one (fstep_next ho hw hdf h1 h2)⟩
 unfold effA at h
 split at h
 ·-- no memory
  rename_i hk
  split at h
  ·rename_i v hv
   cases h
   have hnd : ∀ c, o.op ≠ .defer c := by intro c e; rw [e] at hk; simp [opK] at hk
   by_cases hb : ∃ t n ps, o.op = .buildSlice t n ps
   ·obtain ⟨t, n, ps, hb⟩ := hb
    exact does (buildSlice_sound H I hρ hb hv) (.inr hnd)
   ·obtain ⟨c, h1, h2⟩ := pure_sound (P := P) (w := w) H hρ hk (fun t n ps e => hb ⟨t, n, ps, e⟩) hv
    exact does (Does.value h1 (.refl G) I h2) (.inr hnd)
  ·cases h
 ·rename_i hk
  split at h
  ·rename_i v hv
   cases h
   have hnd : ∀ c, o.op ≠ .defer c := by intro c e; rw [e] at hk; simp [opK] at hk
   obtain ⟨c, h1, h2⟩ := read_sound (P := P) H I hρ hv
   exact does (Does.value h1 (.refl G) I h2) (.inr hnd)
  ·cases h
 ·-- acts
  rename_i hk1 hk2
  cases hop : o.op <;> rw [hop] at h <;> simp only [actA] at h
  case alloc e =>
   split at h
   ·rename_i i hi; cases h; exact does (alloc_sound H I hop hi) (.inr (by rw [hop]; simp))
   ·cases h
  case box e x =>
   split at h
   ·rename_i hkn; cases h; exact does (box_sound I hρ hop hkn) (.inr (by rw [hop]; simp))
   ·cases h
  case makeSlice t l c =>
   split at h
   ·rename_i e k1 n k2 m hd hl hc
    split at h
    ·rename_i i hi
     split at h
     ·rename_i hcond
      cases h
      exact does (makeSlice_sound H I hρ hop hd hi hl hc hcond.1 hcond.2.1 hcond.2.2) (.inr (by rw [hop]; simp))
     ·cases h
    ·cases h
   ·cases h
  case makeMap t r =>
   cases r with
   | some _ => simp only at h; cases h
   | none =>
    simp only at h
    split at h
    ·cases h
     exact does (makeMap_sound I hop) (.inr (by rw [hop]; simp))
    ·cases h
  case range t x =>
   split at h
   ·rename_i kt et ks vs hd hx
    cases h
    exact does (range_sound H I hρ hop hd hx) (.inr (by rw [hop]; simp))
   ·cases h
  case entry x =>
   split at h
   ·rename_i i hx
    split at h
    ·rename_i k v hS
     cases h
     exact does (entry_sound I hρ hop hx hS) (.inr (by rw [hop]; simp))
    ·cases h
   ·cases h
  case store t x v =>
   split at h
   ·rename_i S1 hS; cases h; exact does (store_sound H I hρ hop hS) (.inr (by rw [hop]; simp))
   ·cases h
  case mapUpdate t m x v =>
   split at h
   ·rename_i kt et id hd hm
    split at h
    ·rename_i hc
     split at h
     ·rename_i es hS
      split at h
      ·rename_i es' hp
       cases h
       have hmr := hρ m
       rw [hm] at hmr
       obtain ⟨w', h1, h2⟩ := mapUpdate_sound (P := P) H I hd hmr (hρ x) (hρ v) hc.1 hS hp
       exact does (Does.skip (by simp [execOp, hop, h1]) (.refl G) h2) (.inr (by rw [hop]; simp))
      ·cases h
     ·cases h
    ·cases h
   ·cases h
  case insert t m x v =>
   split at h
   ·rename_i kt et id hd hm
    split at h
    ·rename_i hc
     split at h
     ·rename_i es hS
      split at h
      ·rename_i es' hp
       cases h
       have hmr := hρ m
       rw [hm] at hmr
       obtain ⟨w', h1, h2⟩ := mapUpdate_sound (P := P) H I hd hmr (hρ x) (hρ v) hc.1 hS hp
       exact does (Does.skip (by simp [execOp, hop, h1]) (.refl G) h2) (.inr (by rw [hop]; simp))
      ·cases h
     ·cases h
    ·cases h
   ·cases h
  case call c =>
   obtain ⟨callee, args, argTypes⟩ := c
   simp only at h
   have hnd : ∀ c, o.op ≠ .defer c := by rw [hop]; simp
   have enters : ∀ {g : FuncId} {aargs : List AV} {cargs : Array Value}, retE (call (.fn g) aargs S) = some eff → Reps G aargs cargs.toList → (∀ fi, E.fn g = some fi → fi.fn.body.isSome = true → (execOp a.eval o).run P w = .ok (.enter g cargs) w) →
     EffRel P E B h0 G b a ops i rest o k cs w eff := by
    intro g aargs cargs h hargs hrun'
    cases hcall : call (.fn g) aargs S with
    | none => rw [hcall] at h; cases h
    | some r =>
     obtain ⟨r, S1⟩ := r
     rw [hcall] at h
     obtain ⟨⟨fi, hfi, hbody⟩, hcalls⟩ := HC.fn g _ S r S1 hcall G w _ I hg hargs
     have henter := fstep_enter (P := P) (b := b) (k := k) (cs := cs) (rest := rest) ho hw (.inr hnd) (hrun' fi hfi hbody)
     obtain ⟨e, w', fr, ⟨G', hG, I', hend⟩, hcomes, hfn, hleave⟩ := hcalls (fat b a (.inRegion ops (i :: rest) :: k) :: cs)
     cases r with
     | ret v =>
      simp only [retE] at h
      cases h
      obtain ⟨c, rfl, hv⟩ := hend
      refine ⟨G', c, w', hG, I', hv, .head henter (hcomes.trans (.one ?_))⟩
      rw [step_leave_returned hleave, fat_finish, ho]
      rfl
     | pan v =>
      simp only [retE] at h
      cases h
      obtain ⟨c, rfl, hv⟩ := hend
      refine ⟨G', c, w', hG, I', hv, .head henter (hcomes.trans (.one ?_))⟩
      rw [step_leave_panicked hleave]
      rfl
   obtain ⟨nd, hnd'⟩ := depth_succ P
   cases callee with
   | value f =>
    simp only at h
    have hf := hρ f
    split at h
    ·rename_i nm t v first cap hfe
     rw [hfe] at hf
     split at h
     ·rename_i g hm
      generalize hfv : a.eval f = fv at hf
      cases hf with
      | fref _ _ _ fs' cs' hfl hcl h1 h2 =>
      obtain ⟨c, r', hfs⟩ : ∃ c r', fs'.toList = .iface t c :: r' ∧ Rep G v c ∧ Reps G first r' := by
       have hlt : 0 < fs'.size := by rw [← hfl]; simp
       cases hl : fs'.toList with
       | nil => rw [← Array.length_toList, hl] at hlt; simp at hlt
       | cons q r' =>
        have hz := h1 0 (.iface t v) q rfl (by rw [← Array.getElem?_toList, hl]; rfl)
        have hlen : first.length = r'.length := by
         have := congrArg List.length hl
         simp at this hfl
         omega
        cases hz with
        | iface _ _ c hc => exact ⟨c, r', rfl, hc, hlen, fun j x y hx hy => h1 (j + 1) x y (by simpa using hx) (by rw [← Array.getElem?_toList, hl]; simpa using hy)⟩
      obtain ⟨hfs1, hc, hr'⟩ := hfs
      have hmth := fun w => ((H.mth t nm g hm) nd c w).1
      have hfsa : fs' = #[.iface t c] ++ r'.toArray := by
       rw [← Array.toList_inj, hfs1]; simp
      refine enters (cargs := #[c] ++ (r'.toArray ++ args.map a.eval)) h (by simpa using Reps.cons hc (hr'.append (Reps.map hρ args.toList))) fun fi hfi hbody => ?_
      have he : (execOp a.eval o).run P w = (invoke (.fn (.method nm) cs') (#[.iface t c] ++ (r'.toArray ++ args.map a.eval))).run P w := by
       rw [show #[Value.iface t c] ++ (r'.toArray ++ args.map a.eval) = fs' ++ args.map a.eval from by rw [hfsa, Array.append_assoc]]
       simp [execOp, hop, resolve, hfv, Deferred.ofValue]
      rw [he, invoke_method hnd' (hmth w), callFunc_enter H hfi hbody]
     ·cases h
    ·rename_i g first cap hfe
     rw [hfe] at hf
     obtain ⟨first', cap', hfv, hr1, hr2⟩ := hf.fn_inv
     have hargs0 : Reps G (first ++ args.toList.map ρ ++ cap) (first' ++ args.map a.eval ++ cap').toList := by
      simp only [Array.toList_append, Array.toList_map]
      exact (hr1.append (Reps.map hρ args.toList)).append hr2
     split at h
     ·rename_i hx hext
      split at h
      ·rename_i v hv
       cases h
       obtain ⟨c, hc, hrun⟩ := H.ext g hx hext _ v hv G _ hargs0
       exact does (Does.value (c := c) (by
        have := hrun w
        simp only [Array.append_assoc] at this
        simp [execOp, hop, resolve, hfv, Deferred.ofValue, invoke, this]) (.refl G) I hc) (.inr hnd)
      ·cases h
     ·exact enters h hargs0 fun fi hfi hbody => by simp [execOp, hop, resolve, hfv, Deferred.ofValue, invoke, callFunc_enter H hfi hbody]
    ·rename_i l hfe
     rw [hfe] at hf
     generalize hfv : a.eval f = fv at hf
     cases hf with
     | yld _ bl hG0 =>
     cases hcall : call (.yld l) (args.toList.map ρ) S with
     | none => rw [hcall] at h; cases h
     | some r =>
      obtain ⟨r, S1⟩ := r
      rw [hcall] at h
      obtain ⟨f', tmps, asg, body, hy, hsteps⟩ := HC.yld l _ S r S1 hcall G w (args.map a.eval) bl I hg hG0 (by simpa using Reps.map hρ args.toList)
      have hrun : (execOp a.eval o).run P w = .ok (.round bl f' tmps asg body) w := by
       simp [execOp, hop, resolve, hfv, Deferred.ofValue, invoke, hy]
      have henter := fstep_round (P := P) (b := b) (k := k) (cs := cs) (rest := rest) ho hw (.inr hnd) hrun
      obtain ⟨G', w', hG, I', hend⟩ := hsteps (fat b a (.inRegion ops (i :: rest) :: k)) cs
      cases r with
      | ret v =>
       simp only [retE] at h
       cases h
       obtain ⟨u, hu, hs⟩ := hend
       refine ⟨G', u, w', hG, I', hu, .head henter ?_⟩
       rw [fat_finish, ho] at hs
       exact hs
      | pan v =>
       simp only [retE] at h
       cases h
       obtain ⟨u, hu, hs⟩ := hend
       exact ⟨G', u, w', hG, I', hu, .head henter hs⟩
    ·cases h
   | invoke r n =>
    simp only at h
    have hr := hρ r
    split at h
    ·rename_i t v hre
     rw [hre] at hr
     split at h
     ·rename_i g hm
      generalize hrv : a.eval r = rv at hr
      cases hr with
      | iface _ _ c hc =>
      have hmth := fun w => ((H.mth t n g hm) nd c w).1
      refine enters (cargs := #[c] ++ args.map a.eval) h (by simpa using Reps.cons hc (Reps.map hρ args.toList)) fun fi hfi hbody => ?_
      have he : (execOp a.eval o).run P w = (invoke (.fn (.method n) #[]) (#[.iface t c] ++ args.map a.eval)).run P w := by
       simp [execOp, hop, resolve, hrv]
      rw [he, invoke_method hnd' (hmth w), callFunc_enter H hfi hbody]
     ·cases h
    ·cases h
   | builtin bi =>
    cases bi <;> simp only at h
    case append =>
     split at h
     ·rename_i s x t u hargs htypes
      split at h
      ·rename_i e e' hd hdx
       split at h
       ·rename_i new hel
        split at h
        ·rename_i v S1 hap
         cases h
         obtain ⟨r, w', G', h1, h2, h3, h4⟩ := append_sound (P := P) (ty := o.type) H I hd hdx (hρ s) (hρ x) hel hap
         have ha : args = #[s, x] := by rw [← Array.toList_inj]; simpa using hargs
         have ht : argTypes = #[t, u] := by rw [← Array.toList_inj]; simpa using htypes
         subst ha; subst ht
         exact does (Does.value (by simp [execOp, hop, resolve, invoke, builtin, h1]) h2 h3 h4) (.inr hnd)
        ·cases h
       ·cases h
      ·cases h
     ·cases h
    case copy =>
     split at h
     ·rename_i s x t u hargs htypes
      split at h
      ·rename_i e e' hd hdx
       split at h
       ·rename_i new hel
        split at h
        ·rename_i S1 hap
         cases h
         obtain ⟨w', h1, h3⟩ := copy_sound (P := P) (ty := o.type) H I hd hdx (hρ s) (hρ x) hel hap
         have ha : args = #[s, x] := by rw [← Array.toList_inj]; simpa using hargs
         have ht : argTypes = #[t, u] := by rw [← Array.toList_inj]; simpa using htypes
         subst ha; subst ht
         exact does (Does.value (by simp [execOp, hop, resolve, invoke, builtin, h1]; rfl) (.refl G) h3 (.int .i64 _)) (.inr hnd)
        ·cases h
       ·cases h
      ·cases h
     ·cases h
    case recover =>
     cases h
     simp [EffRel, execOp, hop, resolve, invoke, builtin]
    all_goals (cases h)
  case defer c =>
   obtain ⟨callee, args, argTypes⟩ := c
   simp only at h
   cases callee with
   | value f =>
    simp only at h
    have hf := hρ f
    split at h
    ·rename_i g first cap hfe
     rw [hfe] at hf
     obtain ⟨first', cap', hfv, hr1, hr2⟩ := hf.fn_inv
     cases h
     refine ⟨{ target := .fn (.func g) cap', args := first' ++ args.map a.eval }, ⟨first' ++ args.map a.eval, cap', rfl, rfl, ?_⟩, ?_⟩
     ·simp only [Array.toList_append, Array.toList_map]
      exact (hr1.append (Reps.map hρ args.toList)).append hr2
     ·simp [execOp, hop, resolve, hfv, Deferred.ofValue]
    ·cases h
   | invoke r n => simp only at h; cases h
   | builtin bi => simp only at h; cases h
  case panic x =>
   have hx := hρ x
   split at h
   ·rename_i t v hxe
    rw [hxe] at hx
    cases h
    generalize hxv : a.eval x = xv at hx
    have hx' := hx
    cases hx with
    | iface _ _ c hc =>
    refine ⟨G, .iface t c, w, .refl G, I, hx', .one (fstep_panic ho hw (.inr (by rw [hop]; simp)) ?_)⟩
    simp [execOp, hop, hxv, Instr.panic]
   ·cases h
  all_goals (cases h)
/-- the bytes of a text, as a slice that nobody writes -/
theorem bytes_sound (H : EnvOk P E) (I : InvW E B h0 G S w) {s d e : TypeId} (hs : E.desc s = some .string) (hd : E.desc d = some (.slice e)) (hu : E.desc e = some (.int .u8)) (bs : ByteArray) :
  ∃ c w' G', (convert s d (.string bs)).run P w = .ok c w' ∧ G.Le G' ∧ InvW E B h0 G' S w' ∧ Rep G' (.slice (bs.data.toList.map fun b => .int .u8 b.toNat) .dead) c := by
 obtain ⟨G', hG, hown, I'⟩ := I.pushImm (c := bytesRow bs (grownCap w bs.size 0 e)) (e := e) (fr := ((bytesRow bs (grownCap w bs.size 0 e)).size, (bytesRow bs (grownCap w bs.size 0 e)).size + 1))
 have hge := grownCap_ge w bs.size 0 e
 have hrun := run_bytes_of_string (P := P) w s d e bs (H.desc hs) (H.desc hd) (H.desc hu)
 refine ⟨_, _, G', hrun, hG, ⟨I', I.os, I.out⟩, ?_⟩
 have hc : ∀ (j : Nat) (b : UInt8), bs.data.toList[j]? = some b → (bytesRow bs (grownCap w bs.size 0 e))[j]? = some (.int .u8 b.toNat) := by
  intro j b hb
  have hj : j < bs.data.size := by
   have := getElem?_lt hb
   simpa using this
  unfold bytesRow
  rw [Array.getElem?_append_left (by simpa using hj), Array.getElem?_map]
  have : bs.data[j]? = some b := by simpa using hb
  rw [this]
  rfl
 have hfl : ∀ l : List UInt8, (l.map fun b => AV.int .u8 (b.toNat : Int)).flatMap AV.cells = l.map fun b => AV.int .u8 (b.toNat : Int) := by
  intro l
  induction l with
  | nil => rfl
  | cons x r ih => simp only [List.map_cons, List.flatMap_cons, ih]; rfl
 have hlen : (bs.data.toList.map fun b => AV.int .u8 (b.toNat : Int)).length = bs.size := by
  simp
 rw [show (Value.slice (some ⟨w.heap.size, 0, none⟩) bs.size (grownCap w bs.size 0 e)) = .slice (some ⟨w.heap.size, 0, none⟩) (bs.data.toList.map fun b => AV.int .u8 (b.toNat : Int)).length (grownCap w bs.size 0 e) from by rw [hlen]]
 refine .slice _ _ _ 0 _ _ 1 rfl (fun x hx => ?_) (by rw [hlen]; omega) (fun j hj => ?_) (fun j x y hx hy => ?_) trivial
 ·obtain ⟨b, _, rfl⟩ := List.mem_map.1 hx
  rfl
 ·rw [hfl] at hj
  have hj' : j < bs.data.toList.length := by simpa using hj
  exact ⟨_, by rw [Nat.zero_add]; exact hown j _ (hc j _ (List.getElem?_eq_getElem hj'))⟩
 ·rw [hfl, List.getElem?_map] at hx
  cases hb : bs.data.toList[j]? with
  | none => rw [hb] at hx; cases hx
  | some b =>
   rw [hb] at hx
   cases hx
   rw [Nat.zero_add, hown j _ (hc j b hb)] at hy
   cases hy
   exact .int _ _
/-- .. and what is made anew beside these -/
theorem effR_sound (H : EnvOk P E) {call : CallF} (HC : CallOk P E B h0 call) (I : InvW E B h0 G S w) (hg : GlobOk E G) {ρ : Operand → AV} {a : Act} (hρ : ∀ x, Rep G (ρ x) (a.eval x)) {o : Oper} {eff : Eff}
  (h : effR E call ρ o.op S = some eff) {b : Frame} {ops : Array Oper} {i : Nat} {rest : List Nat} {k : List Item} {cs : List Frame} (ho : ops[i]? = some o) (hw : Region.wanted o (yielded ops a.tmps) = true) :
  EffRel P E B h0 G b a ops i rest o k cs w eff := by
 unfold effR at h
 cases he : effA E call ρ o.op S with
 | some e =>
  rw [he] at h
  cases h
  exact eff_sound H HC I hg hρ he ho hw
 | none =>
  rw [he] at h
  simp only at h
  unfold newA at h
  split at h
  ·rename_i s d x hop
   split at h
   ·rename_i e l hs hd hx
    split at h
    ·rename_i hu
     cases h
     have hr := hρ x
     rw [hx] at hr
     obtain ⟨bs, hbs, rfl⟩ := hr.str_inv
     obtain ⟨c, w', G', h1, h2, h3, h4⟩ := bytes_sound (P := P) H I hs hd hu bs
     exact ⟨G', c, w', h2, h3, h4, .one (fstep_next ho hw (.inr (by rw [hop]; simp)) (n := .value c) (c := c) (by simp [execOp, hop, hbs, h1]) rfl)⟩
    ·cases h
   ·cases h
  ·cases h
end Go.Vm
namespace Go.Vm
open Go
variable {P : Program} {E : Env} {B : Nat} {h0 : World} {G : Gh} {S S' : St} {w : World}
def RRel (G : Gh) : RecS → Frame → List Frame → Prop
 | .no, b, cs => b.kind = .normal ∨ (b.kind = .deferred ∧ ∃ c0 r, cs = c0 :: r ∧ c0.mode = .returning)
 | .pan v, b, cs => b.kind = .deferred ∧ ∃ c0 r c, cs = c0 :: r ∧ c0.mode = .panicking [entry c] ∧ Rep G v c
 | .done, b, cs => b.kind = .deferred ∧ ∃ c0 r c, cs = c0 :: r ∧ c0.mode = .panicking [{ v := c, recovered := true }]
structure LRel (vars : List Tmp) (nt : Nat) (G : Gh) (L : Loc) (a : Act) (b : Frame) (cs : List Frame) : Prop where
 size : a.tmps.size = nt
 get : ∀ t, Rep G (L.get vars t) (a.tmps.getD t undef)
 defers : DRels G L.defers a.defers
 rnd : match L.rnd with
  | none => b.roundOf = none
  | some l => b.kind = .normal ∧ ∃ bl, G.obj l = some (bl, 0) ∧ b.roundOf = some bl
 recs : RRel G L.recs b cs
theorem RRel.mono {G G' : Gh} (hG : G.Le0 G') {r : RecS} {b : Frame} {cs : List Frame} (h : RRel G r b cs) : RRel G' r b cs := by
 cases r with
 | no => exact h
 | pan v => obtain ⟨h1, c0, rr, c, h2, h3, h4⟩ := h; exact ⟨h1, c0, rr, c, h2, h3, h4.mono hG⟩
 | done => exact h
theorem LRel.mono {G G' : Gh} (hG : G.Le0 G') {vars : List Tmp} {nt : Nat} {L : Loc} {a : Act} {b : Frame} {cs : List Frame} (h : LRel vars nt G L a b cs) : LRel vars nt G' L a b cs := by
 refine ⟨h.size, fun t => (h.get t).mono hG, h.defers.mono hG, ?_, h.recs.mono hG⟩
 have := h.rnd
 split at this
 ·exact this
 ·obtain ⟨h1, bl, h2, h3⟩ := this
  exact ⟨h1, bl, hG.obj _ _ h2, h3⟩
theorem idx_inj : ∀ {vars : List Tmp} {t u : Tmp} {k : Nat}, idx vars t = some k → idx vars u = some k → t = u
 | [], _, _, _, h, _ => by simp [idx] at h
 | x :: xs, t, u, k, h, h' => by
  unfold idx at h h'
  split at h
  ·rename_i e1
   cases h
   split at h'
   ·rename_i e2; rw [← e1, ← e2]
   ·cases hh : idx xs u <;> simp [hh] at h'
  ·split at h'
   ·cases h'
    cases hh : idx xs t <;> simp [hh] at h
   ·cases h1 : idx xs t with
    | none => simp [h1] at h
    | some k1 =>
     cases h2 : idx xs u with
     | none => simp [h2] at h'
     | some k2 =>
      simp [h1] at h
      simp [h2] at h'
      exact idx_inj h1 (by rw [h2]; congr 1; omega)
theorem get_put_ne {vars : List Tmp} {L : Loc} {t u : Tmp} {v : AV} (h : u ≠ t) : (L.put vars t v).get vars u = L.get vars u := by
 unfold Loc.put Loc.get
 cases ht : idx vars t with
 | none =>
  cases hu : idx vars u with
  | none => simp [look, Ne.symm h]
  | some k => rfl
 | some k =>
  cases hu : idx vars u with
  | none => rfl
  | some j =>
   have hjk : k ≠ j := fun e => h (by subst e; exact (idx_inj ht hu).symm)
   simp [List.getElem?_set_ne hjk]
theorem rep_put {vars : List Tmp} {L : Loc} {t : Tmp} {v : AV} {c : Value} (h : Rep G v c) : Rep G ((L.put vars t v).get vars t) c := by
 unfold Loc.put Loc.get
 cases ht : idx vars t with
 | none => simp [look]; exact h
 | some k =>
  simp only
  by_cases hk : k < L.vals.length
  ·simp [hk]; exact h
  ·have : (L.vals.set k v)[k]? = none := by rw [List.getElem?_eq_none]; simp; omega
   simp [this]; exact .undef c
theorem LRel.put {vars : List Tmp} {nt : Nat} {L : Loc} {a : Act} {b : Frame} {cs : List Frame} (h : LRel vars nt G L a b cs) {dst : Option Tmp} {v : AV} {c : Value} (hv : Rep G v c) (hd : inFrame nt dst = true) :
  LRel vars nt G (L.putO vars dst v) (a.put dst c) b cs := by
 cases dst with
 | none => exact h
 | some d =>
  have hdn : d < nt := by simpa [inFrame] using hd
  have hdef : (L.put vars d v).defers = L.defers := by unfold Loc.put; split <;> rfl
  have hrnd : (L.put vars d v).rnd = L.rnd := by unfold Loc.put; split <;> rfl
  have hrec : (L.put vars d v).recs = L.recs := by unfold Loc.put; split <;> rfl
  refine ⟨by simp [Act.put, h.size], fun t => ?_, ?_, ?_, ?_⟩
  ·show Rep G ((L.put vars d v).get vars t) _
   by_cases htd : t = d
   ·subst htd
    have : (a.put (some t) c).tmps.getD t undef = c := by simp [Act.put, h.size, hdn]
    rw [this]
    exact rep_put hv
   ·have : (a.put (some d) c).tmps.getD t undef = a.tmps.getD t undef := by
     simp only [Act.put, Array.getD_eq_getD_getElem?]
     rw [Array.getElem?_setIfInBounds_ne (Ne.symm htd)]
    rw [this, get_put_ne htd]
    exact h.get t
  ·show DRels G (L.put vars d v).defers _
   rw [hdef]; exact h.defers
  ·have := h.rnd
   rw [← hrnd] at this
   exact this
  ·show RRel G (L.put vars d v).recs b cs
   rw [hrec]; exact h.recs
theorem constV_rep : ∀ (v : Value), Rep G (constV v) v := by
 intro v
 unfold constV
 split
 ·exact .bool _
 ·exact .int _ _
 ·exact .str _
 ·exact .nilp
 ·exact .nils
 ·exact .nilm
 ·exact .nilf
 ·exact .nili
 ·rename_i f fs cs
  split
  ·rename_i h
   obtain ⟨h1, h2⟩ := h
   exact .fn f [] [] fs cs (by simp [h1]) (by simp [h2]) (by simp) (by simp)
  ·exact .undef _
 ·exact .undef _
theorem evO_rep (hg : GlobOk E G) {vars : List Tmp} {nt : Nat} {L : Loc} {a : Act} {b : Frame} {cs : List Frame} (h : LRel vars nt G L a b cs) (x : Operand) : Rep G (evO E vars L x) (a.eval x) := by
 cases x with
 | tmp t => exact h.get t
 | const v => exact constV_rep v
 | global g =>
  simp only [evO]
  cases hgg : E.glob g with
  | none => exact .undef _
  | some cs => exact hg g cs hgg
 | func f => exact .fn f [] [] #[] #[] rfl rfl (by simp) (by simp)
theorem want_sound {vars : List Tmp} {nt : Nat} {L : Loc} {a : Act} {b : Frame} {cs : List Frame} (h : LRel vars nt G L a b cs) {ops : Array Oper} {o : Oper} {bw : Bool}
  (hw : wantA vars ops.toList o L = some bw) : Region.wanted o (yielded ops a.tmps) = bw := by
 unfold wantA at hw
 unfold Region.wanted
 cases hg : o.guard with
 | none => simp [hg] at hw; simp [hw]
 | some jw =>
  obtain ⟨j, want⟩ := jw
  simp only [hg] at hw ⊢
  have hops : ops.toList[j]? = ops[j]? := by simp
  rw [hops] at hw
  unfold yielded
  cases hd : (ops[j]?).bind (·.dst) with
  | none => simp [hd] at hw; simp [hw]
  | some d =>
   simp only [hd] at hw
   have hrep := h.get d
   simp only [Option.bind_some]
   cases htd : a.tmps[d]? with
   | none =>
    have : a.tmps.getD d undef = undef := by simp [Array.getD_eq_getD_getElem?, htd]
    rw [this] at hrep
    split at hw
    ·rename_i e; rw [e] at hrep; cases hrep
    ·cases hw; simp
    ·cases hw
   | some x =>
    have : a.tmps.getD d undef = x := by simp [Array.getD_eq_getD_getElem?, htd]
    rw [this] at hrep
    split at hw
    ·rename_i bb e
     rw [e] at hrep
     cases hrep
     cases hw
     cases bb <;> cases want <;> rfl
    ·rename_i e
     rw [e] at hrep
     obtain ⟨ys, rfl, _⟩ := hrep.tup_inv
     cases hw
     simp
    ·cases hw
/-- what becomes of the frames below -/
def CsStep (r r' : RecS) (cs cs' : List Frame) : Prop :=
 (r' = r ∧ cs' = cs) ∨ (∃ v, r = .pan v ∧ r' = .done ∧ ∃ c0 rr c, cs = c0 :: rr ∧ c0.mode = .panicking [entry c] ∧ cs' = { c0 with mode := .panicking [{ v := c, recovered := true }] } :: rr)
theorem CsStep.refl (r : RecS) (cs : List Frame) : CsStep r r cs cs := .inl ⟨rfl, rfl⟩
theorem CsStep.trans {r r' r'' : RecS} {cs cs' cs'' : List Frame} (h : CsStep r r' cs cs') (k : CsStep r' r'' cs' cs'') : CsStep r r'' cs cs'' := by
 rcases h with ⟨rfl, rfl⟩ | ⟨v, rfl, rfl, c0, rr, c, h1, h2, h3⟩
 ·exact k
 ·rcases k with ⟨rfl, rfl⟩ | ⟨v', e, _⟩
  ·exact .inr ⟨v, rfl, rfl, c0, rr, c, h1, h2, h3⟩
  ·cases e
def REnds (P : Program) (E : Env) (B : Nat) (h0 : World) (vars : List Tmp) (nt : Nat) (G : Gh) (m : Machine) (b : Frame) (ops : Array Oper) (k : List Item) (r0 : RecS) (cs : List Frame) : Out → Prop
 | .ok L' S' => ∃ G' a' cs' w', G.Le G' ∧ InvW E B h0 G' S' w' ∧ LRel vars nt G' L' a' b cs' ∧ CsStep r0 L'.recs cs cs' ∧ Steps P m (lone (fat b a' (.inRegion ops [] :: k)) cs' w')
 | .pan v L' S' => ∃ G' a' cs' w' c todo, G.Le G' ∧ InvW E B h0 G' S' w' ∧ LRel vars nt G' L' a' b cs' ∧ CsStep r0 L'.recs cs cs' ∧ Rep G' v c ∧
   Steps P m (lone { fat b a' todo with mode := .panicking [entry c] } cs' w')
theorem REnds.head {vars : List Tmp} {nt : Nat} {G G1 : Gh} {m m1 : Machine} {b : Frame} {ops : Array Oper} {k : List Item} {r0 r1 : RecS} {cs cs1 : List Frame} {out : Out} (hG : G.Le G1) (hm : Steps P m m1) (hc : CsStep r0 r1 cs cs1)
  (h : REnds P E B h0 vars nt G1 m1 b ops k r1 cs1 out) : REnds P E B h0 vars nt G m b ops k r0 cs out := by
 cases out with
 | ok L' S' =>
  obtain ⟨G', a', cs', w', h1, h2, h3, h4, h5⟩ := h
  exact ⟨G', a', cs', w', hG.trans h1, h2, h3, hc.trans h4, hm.trans h5⟩
 | pan v L' S' =>
  obtain ⟨G', a', cs', w', c, todo, h1, h2, h3, h4, h5, h6⟩ := h
  exact ⟨G', a', cs', w', c, todo, hG.trans h1, h2, h3, hc.trans h4, h5, hm.trans h6⟩
theorem tryRecover_no {b : Frame} {a : Act} {todo : List Item} {cs : List Frame} (h : RRel G .no b cs) : tryRecover (fat b a todo) cs = none := by
 rcases h with h | ⟨h, c0, r, rfl, hm⟩
 ·simp [tryRecover, fat, h]
 ·simp [tryRecover, fat, h, hm]
theorem tryRecover_pan {b : Frame} {a : Act} {todo : List Item} {cs : List Frame} {v : AV} (h : RRel G (.pan v) b cs) :
  ∃ c c0 r, Rep G v c ∧ cs = c0 :: r ∧ c0.mode = .panicking [entry c] ∧ tryRecover (fat b a todo) cs = some (c, { c0 with mode := .panicking [{ v := c, recovered := true }] } :: r) := by
 obtain ⟨h1, c0, r, c, rfl, h3, h4⟩ := h
 exact ⟨c, c0, r, h4, rfl, h3, by simp [tryRecover, fat, h1, h3, entry]⟩
/-- one operation -/
theorem op_sound (H : EnvOk P E) {call : CallF} (HC : CallOk P E B h0 call) (I : InvW E B h0 G S w) (hg : GlobOk E G) {vars : List Tmp} {nt : Nat} {L : Loc} {a : Act} {b : Frame} {cs : List Frame} (hL : LRel vars nt G L a b cs)
  {ops : Array Oper} {i : Nat} {rest : List Nat} {o : Oper} {k : List Item} {out : Out} (ho : ops[i]? = some o) (hw : Region.wanted o (yielded ops a.tmps) = true) (h : stepA E call vars nt o L S = some out) :
  match out with
  | .ok L' S' => ∃ G' a' cs' w', G.Le G' ∧ InvW E B h0 G' S' w' ∧ LRel vars nt G' L' a' b cs' ∧ CsStep L.recs L'.recs cs cs' ∧
    Steps P (lone (fat b a (.inRegion ops (i :: rest) :: k)) cs w) (lone (fat b a' (.inRegion ops rest :: k)) cs' w')
  | .pan v L' S' => ∃ G' a' cs' w' c todo, G.Le G' ∧ InvW E B h0 G' S' w' ∧ LRel vars nt G' L' a' b cs' ∧ CsStep L.recs L'.recs cs cs' ∧ Rep G' v c ∧
    Steps P (lone (fat b a (.inRegion ops (i :: rest) :: k)) cs w) (lone { fat b a' todo with mode := .panicking [entry c] } cs' w') := by
 unfold stepA at h
 split at h
 ·rename_i hin
  cases he : effR E call (evO E vars L) o.op S with
  | none => simp [he] at h
  | some eff =>
   simp only [he] at h
   have heff := effR_sound (b := b) (rest := rest) (k := k) (cs := cs) H HC I hg (fun x => evO_rep hg hL x) he ho hw
   have hrecs : ∀ v, (L.putO vars o.dst v).recs = L.recs := by
    intro v
    cases o.dst with
    | none => rfl
    | some d => simp only [Loc.putO, Loc.put]; split <;> rfl
   cases eff with
   | val v S1 =>
    simp only [applyE] at h
    cases h
    obtain ⟨G', c, w', h1, h2, h3, h4⟩ := heff
    exact ⟨G', _, cs, w', h1, h2, (hL.mono h1.toLe0).put h3 hin, by rw [hrecs]; exact .refl _ _, h4⟩
   | pan v S1 =>
    simp only [applyE] at h
    cases h
    obtain ⟨G', c, w', h1, h2, h3, h4⟩ := heff
    exact ⟨G', a, cs, w', c, _, h1, h2, hL.mono h1.toLe0, .refl _ _, h3, h4⟩
   | dfr d =>
    simp only [applyE] at h
    split at h
    ·rename_i hr
     cases h
     obtain ⟨d', h1, h2⟩ := heff
     have hro : b.roundOf = none := by have := hL.rnd; rw [hr] at this; exact this
     have hL' : LRel vars nt G { L with defers := d :: L.defers } { a with defers := d' :: a.defers } b cs := ⟨hL.size, hL.get, ⟨h1, hL.defers⟩, hL.rnd, hL.recs⟩
     have hrecs' : (Loc.putO vars { L with defers := d :: L.defers } o.dst nowhere).recs = L.recs := by
      cases o.dst with
      | none => rfl
      | some d => simp only [Loc.putO, Loc.put]; split <;> rfl
     exact ⟨G, _, cs, w, .refl G, I, hL'.put (v := nowhere) (c := undef) (Rep.tup' (Reps.nil G)) hin, by rw [hrecs']; exact .refl _ _, .one (fstep_defer ho hw hro h2)⟩
    ·cases h
   | rcv =>
    simp only [applyE] at h
    split at h
    ·rename_i hr hrc
     cases h
     have hro : b.roundOf = none := by have := hL.rnd; rw [hr] at this; exact this
     have hst := fstep_recover (P := P) (b := b) (k := k) (cs := cs) (rest := rest) ho hw hro heff
     have hrr := hL.recs
     rw [hrc] at hrr
     rw [tryRecover_no hrr] at hst
     exact ⟨G, _, cs, w, .refl G, I, hL.put .nili hin, by rw [hrecs]; exact .refl _ _, .one hst⟩
    ·rename_i v hr hrc
     cases h
     have hro : b.roundOf = none := by have := hL.rnd; rw [hr] at this; exact this
     have hst := fstep_recover (P := P) (b := b) (k := k) (cs := cs) (rest := rest) ho hw hro heff
     have hrr := hL.recs
     rw [hrc] at hrr
     obtain ⟨c, c0, r, k1, k2, k3, k4⟩ := tryRecover_pan (a := a) (todo := .inRegion ops (i :: rest) :: k) hrr
     rw [k4] at hst
     have hrecs' : (Loc.putO vars { L with recs := .done } o.dst v).recs = .done := by
      cases o.dst with
      | none => rfl
      | some d => simp only [Loc.putO, Loc.put]; split <;> rfl
     have hL' : LRel vars nt G { L with recs := .done } a b ({ c0 with mode := .panicking [{ v := c, recovered := true }] } :: r) :=
      ⟨hL.size, hL.get, hL.defers, hL.rnd, ⟨hrr.1, _, r, c, rfl, rfl⟩⟩
     exact ⟨G, _, _, w, .refl G, I, hL'.put k1 hin, by rw [hrecs', hrc]; exact .inr ⟨v, rfl, rfl, c0, r, c, k2, k3, rfl⟩, .one hst⟩
    ·cases h
 ·cases h
theorem run_sound (H : EnvOk P E) {call : CallF} (HC : CallOk P E B h0 call) {vars : List Tmp} {nt : Nat} {b : Frame} {ops : Array Oper} {k : List Item} :
  ∀ (rest : List Oper) (j : Nat), (∀ i, rest[i]? = ops[j + i]?) → ∀ {G : Gh} {S : St} {w : World} {L : Loc} {a : Act} {cs : List Frame} {out : Out}, InvW E B h0 G S w → GlobOk E G → LRel vars nt G L a b cs →
   runA E call vars nt ops.toList rest L S = some out → REnds P E B h0 vars nt G (lone (fat b a (.inRegion ops (List.range' j rest.length) :: k)) cs w) b ops k L.recs cs out
 | [], j, _, G, S, w, L, a, cs, out, I, hg, hL, h => by
  simp only [runA] at h
  cases h
  exact ⟨G, a, cs, w, .refl G, I, hL, .refl _ _, Steps.refl P _⟩
 | o :: rest, j, hr, G, S, w, L, a, cs, out, I, hg, hL, h => by
  have ho : ops[j]? = some o := by have := hr 0; simpa using this.symm
  have hr' : ∀ i, rest[i]? = ops[j + 1 + i]? := fun i => by have := hr (i + 1); rw [List.getElem?_cons_succ] at this; rw [this]; congr 1; omega
  rw [List.length_cons, List.range'_succ]
  unfold runA at h
  split at h
  ·rename_i hwt
   have hw := want_sound hL hwt
   split at h
   ·rename_i L1 S1 hst
    split at h
    ·cases h
    obtain ⟨G1, a1, cs1, w1, k1, k2, k3, k4, k5⟩ := op_sound (P := P) (k := k) (rest := List.range' (j + 1) rest.length) H HC I hg hL ho hw hst
    exact REnds.head k1 k5 k4 (run_sound H HC rest (j + 1) hr' k2 (hg.mono k1.toLe0) k3 h)
   ·rename_i v L1 S1 hst
    cases h
    exact op_sound (P := P) (k := k) (rest := List.range' (j + 1) rest.length) H HC I hg hL ho hw hst
   ·cases h
  ·rename_i hwt
   have hw := want_sound hL hwt
   split at h
   ·rename_i hin
    have hst := fstep_op_skip (P := P) (b := b) (a := a) (k := k) (cs := cs) (w := w) (ops := ops) (i := j) (rest := List.range' (j + 1) rest.length) (by simp [ho, hw])
    simp only [ho, Option.bind_some] at hst
    have hL' := hL.put (v := nowhere) (c := undef) (Rep.tup' (Reps.nil G)) hin
    have hrecs : (L.putO vars o.dst nowhere).recs = L.recs := by
     cases o.dst with
     | none => rfl
     | some d => simp only [Loc.putO, Loc.put]; split <;> rfl
    have := run_sound (k := k) H HC rest (j + 1) hr' I hg hL' h
    rw [hrecs] at this
    exact REnds.head (.refl G) (.one hst) (.refl _ _) this
   ·cases h
  ·cases h
end Go.Vm
