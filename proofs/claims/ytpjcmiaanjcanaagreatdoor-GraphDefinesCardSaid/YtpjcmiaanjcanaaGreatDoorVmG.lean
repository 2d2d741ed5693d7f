/-
Code, functions and calls. No conditions.
-/
import Derived.Test.YtpjcmiaanjcanaaGreatDoorVmF
import Derived.RangeFuncNested
set_option linter.all false

namespace Go.Vm
open Go

variable {P : Program} {E : Env} {B : Nat} {h0 : World} {G : Gh} {S S' : St} {w : World}

theorem fat_atR (b : Frame) (a : Act) (todo : List Item) : fat b a todo = b.atR a todo := rfl

theorem get_clear {vars : List Tmp} {L : Loc} {t : Tmp} : (L.clear.get vars t).Le (L.get vars t) := by
  unfold Loc.get Loc.clear
  cases idx vars t with
  | none => exact .inl rfl
  | some k => exact .refl _

theorem LRel.clear {vars : List Tmp} {nt : Nat} {L : Loc} {a : Act} {b : Frame} {cs : List Frame} (h : LRel vars nt G L a b cs) : LRel vars nt G L.clear a b cs :=
  ⟨h.size, fun t => Rep.le get_clear (h.get t), h.defers, h.rnd, h.recs⟩

def Land (P : Program) (m : Machine) (b : Frame) (k : List Item) (a' : Act) (cs' : List Frame) (w' : World) (G' : Gh) : Ex → Prop
  | .normal => Steps P m (lone (fat b a' k) cs' w')
  | .exit id => ∃ todo, exitTo id todo = exitTo id k ∧ Steps P m (lone (fat b a' (.code (.exit id) :: todo)) cs' w')
  | .ret => ∃ todo, Steps P m (lone (fat b a' (.code .ret :: todo)) cs' w')
  | .pan v => ∃ c todo, Rep G' v c ∧ Steps P m (lone { fat b a' todo with mode := .panicking [entry c] } cs' w')

def Arr (P : Program) (E : Env) (B : Nat) (h0 : World) (vars : List Tmp) (nt : Nat) (G : Gh) (m : Machine) (b : Frame) (k : List Item) (r0 : RecS) (cs : List Frame) (ex : Ex) (L' : Loc) (S' : St) : Prop :=
  ∃ G' a' cs' w', G.Le G' ∧ InvW E B h0 G' S' w' ∧ LRel vars nt G' L' a' b cs' ∧ CsStep r0 L'.recs cs cs' ∧ Land P m b k a' cs' w' G' ex

section
variable {vars : List Tmp} {nt : Nat} {b : Frame} {k k' : List Item} {m m1 : Machine} {r0 r1 : RecS} {cs cs1 : List Frame} {ex : Ex} {L' : Loc}

theorem Land.head {a' : Act} {cs' : List Frame} {w' : World} {G' : Gh} (hm : Steps P m m1) (h : Land P m1 b k a' cs' w' G' ex) : Land P m b k a' cs' w' G' ex := by
  cases ex with
  | normal => exact hm.trans h
  | exit id => obtain ⟨todo, h1, h2⟩ := h; exact ⟨todo, h1, hm.trans h2⟩
  | ret => obtain ⟨todo, h2⟩ := h; exact ⟨todo, hm.trans h2⟩
  | pan v => obtain ⟨c, todo, h1, h2⟩ := h; exact ⟨c, todo, h1, hm.trans h2⟩

theorem Arr.head {G1 : Gh} (hG : G.Le G1) (hm : Steps P m m1) (hc : CsStep r0 r1 cs cs1) (h : Arr P E B h0 vars nt G1 m1 b k r1 cs1 ex L' S') : Arr P E B h0 vars nt G m b k r0 cs ex L' S' := by
  obtain ⟨G', a', cs', w', h1, h2, h3, h4, h5⟩ := h
  exact ⟨G', a', cs', w', hG.trans h1, h2, h3, hc.trans h4, h5.head hm⟩

/-- not here: then as far out -/
theorem Arr.out (hk : ∀ id, ex = .exit id → exitTo id k' = exitTo id k) (hn : ex ≠ .normal) (h : Arr P E B h0 vars nt G m b k' r0 cs ex L' S') : Arr P E B h0 vars nt G m b k r0 cs ex L' S' := by
  obtain ⟨G', a', cs', w', h1, h2, h3, h4, h5⟩ := h
  refine ⟨G', a', cs', w', h1, h2, h3, h4, ?_⟩
  cases ex with
  | normal => exact absurd rfl hn
  | exit id => obtain ⟨todo, q1, q2⟩ := h5; exact ⟨todo, by rw [q1, hk id rfl], q2⟩
  | ret => exact h5
  | pan v => exact h5

theorem exitTo_code (id : Nat) (c : Code) (k : List Item) : exitTo id (.code c :: k) = exitTo id k := rfl
theorem exitTo_inLoop (id : Nat) (c : Code) (k : List Item) : exitTo id (.inLoop c :: k) = exitTo id k := rfl
theorem exitTo_inScope (id : Nat) (c : Code) (k : List Item) : exitTo id (.inScope c :: k) = exitTo id k := rfl
theorem exitTo_inBlock (id i : Nat) (k : List Item) : exitTo id (.inBlock i :: k) = if i == id then some k else exitTo id k := rfl

/-- a run of code that goes out, or comes to what is behind it, which is steps away from k -/
theorem Arr.through (hk : ∀ id, exitTo id k' = exitTo id k) (hs : ∀ a cs w, step P (lone (fat b a k') cs w) = .next (lone (fat b a k) cs w)) (h : Arr P E B h0 vars nt G m b k' r0 cs ex L' S') : Arr P E B h0 vars nt G m b k r0 cs ex L' S' := by
  by_cases hn : ex = .normal
  · subst hn
    obtain ⟨G', a', cs', w', h1, h2, h3, h4, h5⟩ := h
    exact ⟨G', a', cs', w', h1, h2, h3, h4, Steps.trans h5 (.one (hs _ _ _))⟩
  · exact h.out (fun id _ => hk id) hn

theorem REnds.arr {ops : Array Oper} {out : Out} {L' : Loc} {ex : Ex} (h : REnds P E B h0 vars nt G m b ops k r0 cs out) (ho : outC (some out) = some (ex, L', S')) : Arr P E B h0 vars nt G m b k r0 cs ex L' S' := by
  cases out with
  | ok L1 S1 =>
    simp only [outC] at ho
    cases ho
    obtain ⟨G', a', cs', w', h1, h2, h3, h4, h5⟩ := h
    exact ⟨G', a', cs', w', h1, h2, h3, h4, h5.trans (.one fstep_region_end)⟩
  | pan v L1 S1 =>
    simp only [outC] at ho
    cases ho
    obtain ⟨G', a', cs', w', c, todo, h1, h2, h3, h4, h5, h6⟩ := h
    exact ⟨G', a', cs', w', h1, h2, h3, h4, c, todo, h5, h6⟩

end

/-- a call, and back in the caller -/
theorem call_steps {call : CallF} (HC : CallOk P E B h0 call) {f : FuncId} {args : List AV} {r : FRes} (hc : call (.fn f) args S = some (r, S')) {cargs : Array Value} (I : InvW E B h0 G S w) (hg : GlobOk E G) (hr : Reps G args cargs.toList) (c : Frame) (cs : List Frame) :
    (∃ fi, E.fn f = some fi ∧ fi.fn.body.isSome = true) ∧ ∃ G' w', G.Le G' ∧ InvW E B h0 G' S' w' ∧
      match r with
      | .ret v => ∃ u, Rep G' v u ∧ Steps P (lone (Frame.enter P f cargs .normal) (c :: cs) w) (lone (c.finish u) cs w')
      | .pan v => ∃ u, Rep G' v u ∧ Steps P (lone (Frame.enter P f cargs .normal) (c :: cs) w) (lone (c.raise [entry u]) cs w') := by
  obtain ⟨hfi, hcalls⟩ := HC.fn f args S r S' hc G w cargs I hg hr
  refine ⟨hfi, ?_⟩
  obtain ⟨e, w', fr, ⟨G', hG, I', hend⟩, hcomes, hfn, hleave⟩ := hcalls (c :: cs)
  refine ⟨G', w', hG, I', ?_⟩
  cases r with
  | ret v =>
    obtain ⟨u, rfl, hv⟩ := hend
    exact ⟨u, hv, hcomes.trans (.one (step_leave_returned hleave))⟩
  | pan v =>
    obtain ⟨u, rfl, hv⟩ := hend
    exact ⟨u, hv, hcomes.trans (.one (step_leave_panicked hleave))⟩

section
variable {call : CallF} {n : Nat} {fid : FuncId} {fi : FInfo} {b : Frame}

/-- the end of a range over a function -/
theorem endC_sound {l bl : Nat} {L L' : Loc} {a : Act} {ex : Ex} {r : FRes} {S2 S3 : St} {G' : Gh} {w' : World} {cs : List Frame} {k : List Item} {m : Machine} (hG : G.Le G') (I' : InvW E B h0 G' S2 w') (hl : G'.obj l = some (bl, 0))
    (hL : LRel fi.vars fi.fn.ntmps G' L a b cs) (h : endC l L (some (r, S2)) = some (ex, L', S3))
    (hr : match r with
      | .ret _ => Steps P m (lone (fat b a (.endRangeFunc bl :: k)) cs w')
      | .pan v => ∃ u todo, Rep G' v u ∧ Steps P m (lone { fat b a todo with mode := .panicking [entry u] } cs w')) :
    Arr P E B h0 fi.vars fi.fn.ntmps G m b k L.recs cs ex L' S3 := by
  cases r with
  | pan v =>
    simp only [endC] at h
    cases h
    obtain ⟨u, todo, h1, h2⟩ := hr
    exact ⟨G', a, cs, w', hG, I', hL, .refl _ _, u, todo, h1, h2⟩
  | ret v =>
    simp only at hr
    unfold endC at h
    split at h
    · rename_i v' S2' heq
      simp only [Option.some.injEq, Prod.mk.injEq] at heq
      obtain ⟨_, rfl⟩ := heq
      split at h
      · rename_i al hget
        obtain ⟨b', q1, q2, q3, rec, q4, q5⟩ := I'.objs l _ hget
        rw [hl] at q1; cases q1
        have hq5 := q5
        obtain ⟨s1, s2, s3, s4, s5, s6, s7, s8⟩ := q5
        have hlt := St.get_lt hget
        have hset : InvW E B h0 G' (S2.put l (.loop { al with state := .exhausted })) (w'.putObj bl (.loop { rec with state := .exhausted })) :=
          ⟨I'.setBlk hlt q2 q3 (by simp) ⟨bl, hl, q2, q3, { rec with state := .exhausted }, by
            have := (Array.getElem?_eq_some_iff.1 q4).1
            simp [this], ⟨rfl, s2, s3, s4, s5, s6, s7, s8⟩⟩, I'.os, I'.out⟩
        have hstep : rec.state ≠ .busy → step P (lone (fat b a (.endRangeFunc bl :: k)) cs w') = .next (lone (fat b a ((rec.pending.map Item.code).toList ++ k)) cs (w'.putObj bl (.loop { rec with state := .exhausted }))) := by
          intro hb
          exact stepR_endRangeFunc (run_endLoop q4 hb)
        have hnb : al.state ≠ .busy → rec.state ≠ .busy := fun h => by rw [s1]; exact h
        split at h
        · cases h
        · rename_i hp hst
          cases h
          have := hstep (hnb fun e => hst e)
          rw [show (rec.pending.map Item.code).toList = [] from by rw [s2, hp]; rfl] at this
          exact ⟨G', a, cs, _, hG, hset, hL, .refl _ _, hr.trans (.one this)⟩
        · rename_i i hp hst
          cases h
          have := hstep (hnb fun e => hst e)
          rw [show (rec.pending.map Item.code).toList = [.code (.exit i)] from by rw [s2, hp]; rfl] at this
          exact ⟨G', a, cs, _, hG, hset, hL, .refl _ _, k, rfl, hr.trans (.one this)⟩
        · rename_i hp hst
          cases h
          have := hstep (hnb fun e => hst e)
          rw [show (rec.pending.map Item.code).toList = [.code .ret] from by rw [s2, hp]; rfl] at this
          exact ⟨G', a, cs, _, hG, hset, hL, .refl _ _, k, hr.trans (.one this)⟩
        · cases h
      · cases h
    · rename_i heq
      simp at heq
    · rename_i heq
      simp at heq

theorem evalC_sound (H : EnvOk P E) (HC : CallOk P E B h0 call) (hfi : E.fn fid = some fi) (hb : b.fn = fid) : ∀ (c : Code) {L : Loc} {S : St} {ex : Ex} {L' : Loc} {S' : St}, evalC ⟨E, call, iter n, fid, fi.vars, fi.fn.ntmps⟩ c L S = some (ex, L', S') →
    ∀ {G : Gh} {a : Act} {cs : List Frame} {w : World} (k : List Item), InvW E B h0 G S w → GlobOk E G → LRel fi.vars fi.fn.ntmps G L a b cs → Arr P E B h0 fi.vars fi.fn.ntmps G (lone (fat b a (.code c :: k)) cs w) b k L.recs cs ex L' S' := by
  intro c
  induction c with
  | skip =>
    intro L S ex L' S' h G a cs w k I hg hL
    simp only [evalC] at h
    cases h
    exact ⟨G, a, cs, w, .refl G, I, hL, .refl _ _, .one fstep_skip⟩
  | label l =>
    intro L S ex L' S' h G a cs w k I hg hL
    simp only [evalC] at h
    cases h
    exact ⟨G, a, cs, w, .refl G, I, hL, .refl _ _, .one fstep_label⟩
  | goto l =>
    intro L S ex L' S' h
    simp only [evalC] at h
    cases h
  | refuse l =>
    intro L S ex L' S' h
    simp only [evalC] at h
    cases h
  | exit id =>
    intro L S ex L' S' h G a cs w k I hg hL
    simp only [evalC] at h
    cases h
    exact ⟨G, a, cs, w, .refl G, I, hL.clear, .refl _ _, k, rfl, Steps.refl P _⟩
  | ret =>
    intro L S ex L' S' h G a cs w k I hg hL
    simp only [evalC] at h
    cases h
    exact ⟨G, a, cs, w, .refl G, I, hL.clear, .refl _ _, k, Steps.refl P _⟩
  | region id ops draw =>
    intro L S ex L' S' h G a cs w k I hg hL
    simp only [evalC] at h
    cases draw with
    | false =>
      simp only [Bool.false_eq_true, if_false] at h
      cases hr : runA E call fi.vars fi.fn.ntmps ops.toList ops.toList L.clear S with
      | none => rw [hr] at h; cases h
      | some out =>
        rw [hr] at h
        have := run_sound (P := P) (k := k) (ops := ops) H HC ops.toList 0 (fun i => by simp) I hg hL.clear hr
        rw [← List.range_eq_range', Array.length_toList] at this
        exact Arr.head (.refl G) (.one fstep_region) (.refl _ _) (this.arr h)
    | true =>
      simp only [if_true] at h
      cases hr : drawA E call fi.vars fi.fn.ntmps ops.toList L.clear S with
      | none => rw [hr] at h; cases h
      | some out =>
        rw [hr] at h
        have hst := fstep_region_draw (P := P) (b := b) (a := a) (k := k) (cs := cs) (w := w) (id := id) (ops := ops)
        rw [show Region.schedule (P.follows .mixedOrders) ops (w.tape w.drawn (.order b.fn id)) = Region.linearise .any ops (w.tape w.drawn (.order b.fn id)) from by simp [Region.schedule, H.mixed]] at hst
        have := draw_sound (P := P) (w := { w with drawn := w.drawn + 1 }) (k := k) (opsA := ops) H HC ⟨I.toInv, I.os, I.out⟩ hg hL.clear hr (w.tape w.drawn (.order b.fn id))
        exact Arr.head (.refl G) (.one hst) (.refl _ _) (this.arr h)
  | seq x y ihx ihy =>
    intro L S ex L' S' h G a cs w k I hg hL
    simp only [evalC] at h
    cases hx : evalC ⟨E, call, iter n, fid, fi.vars, fi.fn.ntmps⟩ x L S with
    | none => rw [hx] at h; cases h
    | some r =>
      obtain ⟨e1, L1, S1⟩ := r
      rw [hx] at h
      have h1 := ihx hx (.code y :: k) I hg hL
      refine Arr.head (.refl G) (.one fstep_seq) (.refl _ _) ?_
      cases e1 with
      | normal =>
        simp only [thenC] at h
        obtain ⟨G1, a1, cs1, w1, q1, q2, q3, q4, q5⟩ := h1
        exact Arr.head q1 q5 q4 (ihy h k q2 (hg.mono q1.toLe0) q3)
      | exit i => simp only [thenC] at h; cases h; exact h1.out (fun id _ => exitTo_code id y k) (by simp)
      | ret => simp only [thenC] at h; cases h; exact h1.out (fun id _ => exitTo_code id y k) (by simp)
      | pan v => simp only [thenC] at h; cases h; exact h1.out (fun id _ => exitTo_code id y k) (by simp)
  | cond c x y ihx ihy =>
    intro L S ex L' S' h G a cs w k I hg hL
    simp only [evalC] at h
    have hc := evO_rep hg hL c
    split at h
    · rename_i hcv
      rw [hcv] at hc
      generalize hav : a.eval c = av at hc
      cases hc
      exact Arr.head (.refl G) (.one (fstep_cond hav)) (.refl _ _) (ihx h k I hg hL.clear)
    · rename_i hcv
      rw [hcv] at hc
      generalize hav : a.eval c = av at hc
      cases hc
      exact Arr.head (.refl G) (.one (fstep_cond hav)) (.refl _ _) (ihy h k I hg hL.clear)
    · cases h
  | block id c ih =>
    intro L S ex L' S' h G a cs w k I hg hL
    simp only [evalC] at h
    cases hx : evalC ⟨E, call, iter n, fid, fi.vars, fi.fn.ntmps⟩ c L S with
    | none => rw [hx] at h; cases h
    | some r =>
      obtain ⟨e1, L1, S1⟩ := r
      rw [hx] at h
      have h1 := ih hx (.inBlock id :: k) I hg hL
      refine Arr.head (.refl G) (.one fstep_block) (.refl _ _) ?_
      cases e1 with
      | normal =>
        simp only [blockC] at h; cases h
        obtain ⟨G1, a1, cs1, w1, q1, q2, q3, q4, q5⟩ := h1
        exact ⟨G1, a1, cs1, w1, q1, q2, q3, q4, Steps.trans q5 (.one fstep_inBlock)⟩
      | exit i =>
        simp only [blockC] at h
        split at h
        · rename_i hi
          cases h
          subst hi
          obtain ⟨G1, a1, cs1, w1, q1, q2, q3, q4, todo, q5, q6⟩ := h1
          rw [exitTo_inBlock] at q5
          exact ⟨G1, a1, cs1, w1, q1, q2, q3, q4, Steps.trans q6 (.one (fstep_exit (by rw [q5]; simp)))⟩
        · rename_i hi
          cases h
          exact h1.out (fun j hj => by cases hj; rw [exitTo_inBlock]; simp [Ne.symm hi]) (by simp)
      | ret => simp only [blockC] at h; cases h; exact h1.out (fun j hj => by cases hj) (by simp)
      | pan v => simp only [blockC] at h; cases h; exact h1.out (fun j hj => by cases hj) (by simp)
  | scope c ih =>
    intro L S ex L' S' h G a cs w k I hg hL
    simp only [evalC] at h
    exact Arr.head (.refl G) (.one fstep_scope) (.refl _ _) ((ih h (.inScope c :: k) I hg hL).through (fun id => exitTo_inScope id c k) (fun _ _ _ => fstep_inScope))
  | loop c ih =>
    intro L S ex L' S' h G a cs w k I hg hL
    simp only [evalC] at h
    have go : ∀ (n' : Nat) {L : Loc} {S : St} {ex : Ex} {L' : Loc} {S' : St}, iter n' (evalC ⟨E, call, iter n, fid, fi.vars, fi.fn.ntmps⟩ c) L S = some (ex, L', S') → ∀ {G : Gh} {a : Act} {cs : List Frame} {w : World}, InvW E B h0 G S w → GlobOk E G → LRel fi.vars fi.fn.ntmps G L a b cs →
        Arr P E B h0 fi.vars fi.fn.ntmps G (lone (fat b a (.code c :: .inLoop c :: k)) cs w) b k L.recs cs ex L' S' := by
      intro n'
      induction n' with
      | zero => intro L S ex L' S' h; simp only [iter] at h; cases h
      | succ n' ihn =>
        intro L S ex L' S' h G a cs w I hg hL
        simp only [iter] at h
        split at h
        · rename_i L1 S1 hx
          obtain ⟨G1, a1, cs1, w1, q1, q2, q3, q4, q5⟩ := ih hx (.inLoop c :: k) I hg hL.clear
          exact Arr.head q1 (Steps.trans q5 (.one fstep_inLoop)) q4 (ihn h q2 (hg.mono q1.toLe0) q3)
        · rename_i hne
          refine (ih h (.inLoop c :: k) I hg hL.clear).out (fun id _ => exitTo_inLoop id c k) fun he => ?_
          subst he
          exact hne _ _ h
    exact Arr.head (.refl G) (.one fstep_loop) (.refl _ _) (go n h I hg hL)
  | rangeFunc f params asg body ih1 ih2 =>
    intro L S ex L' S' h G a cs w k I hg hL
    simp only [evalC] at h
    have hf := evO_rep hg hL f
    split at h
    · rename_i g first cap hfv
      rw [hfv] at hf
      obtain ⟨first', cap', hav, hr1, hr2⟩ := hf.fn_inv
      have htm : a.tmps.size = fi.fn.ntmps ∧ ∀ t k, idx fi.vars t = some k → Rep G (L.vals.getD k .undef) (a.tmps.getD t undef) := by
        refine ⟨hL.size, fun t k hk => ?_⟩
        have := hL.get t
        unfold Loc.get at this
        rw [hk] at this
        exact this
      have hrnd := hL.rnd
      split at h
      · rename_i hno
        rw [hno] at hrnd
        simp only at hrnd
        -- an outermost loop
        obtain ⟨G1, g1, g2, g3, I1⟩ := I.pushBlk (x := .deferred (some [])) (o := .dfr false) (by simp) (fun G' hG h1 h2 => ⟨w.heap.size, h1, h2, I.size, by simp⟩)
        let al : ALoop := { state := .ready, pend := none, fid := fid, vals := L.vals, params, asg, body, dfr := S.n }
        let rec0 : Loop := { state := .ready, pending := none, fn := b.fn, tmps := a.tmps, params := params, assign := asg, body := body, defers := w.heap.size }
        obtain ⟨G2, g4, g5, g6, I2⟩ := I1.pushBlk (x := .loop rec0) (o := .loop al) (by simp) (fun G' hG h1 h2 => ⟨_, h1, h2, I1.size, rec0, Array.getElem?_push_size .., rfl, rfl, hb, rfl, rfl, rfl, hG.obj _ _ g2, fi, hfi, htm.1, fun t k hk => (htm.2 t k hk).mono (g1.trans hG).toLe0⟩)
        have hsz : (w.heap.push (.deferred (some []))).size = w.heap.size + 1 := by simp
        rw [hsz] at g5
        rw [St.n_push] at g5
        cases hcall : call (.fn g) (first ++ [.yld (S.n + 1)] ++ cap) ((S.push (.dfr false)).push (.loop al)) with
        | none => simp only [al] at hcall; rw [hcall] at h; cases h
        | some r =>
          obtain ⟨r, S3⟩ := r
          simp only [al] at hcall
          rw [hcall] at h
          have hargs : Reps G2 (first ++ [.yld (S.n + 1)] ++ cap) (first' ++ #[Value.func (.yield (w.heap.size + 1)) #[] #[]] ++ cap').toList := by
            simp only [Array.toList_append]
            exact ((hr1.mono (g1.trans g4).toLe0).append (Reps.cons (.yld _ _ g5) (Reps.nil _))).append (hr2.mono (g1.trans g4).toLe0)
          have I2' : InvW E B h0 G2 ((S.push (.dfr false)).push (.loop al)) ((w.alloc (.deferred (some []))).alloc (.loop rec0)) := ⟨I2, I.os, I.out⟩
          let fr : Frame := fat b { a with defers := { target := .collected w.heap.size, args := #[] } :: a.defers } (.inRangeFunc (w.heap.size + 1) :: k)
          obtain ⟨⟨fg, hfg, hbody⟩, G3, w3, k1, k2, k3⟩ := call_steps HC hcall I2' (hg.mono (g1.trans g4).toLe0) hargs fr cs
          have hstep : step P (lone (fat b a (.code (.rangeFunc f params asg body) :: k)) cs w) = .next (lone (Frame.enter P g (first' ++ #[Value.func (.yield (w.heap.size + 1)) #[] #[]] ++ cap') .normal) (fr :: cs) ((w.alloc (.deferred (some []))).alloc (.loop rec0))) := by
            refine stepR_rangeFunc (b := b) (a := a) (mark := [{ target := .collected w.heap.size, args := #[] }]) (w₁ := (w.alloc (.deferred (some []))).alloc (.loop rec0)) (w₁' := (w.alloc (.deferred (some []))).alloc (.loop rec0))
              (d := { target := .fn (.func g) cap', args := first' ++ #[Value.func (.yield (w.heap.size + 1)) #[] #[]] }) ?_ ?_ ?_
            · rw [hrnd]; exact run_enterLoop_outer _ _ _ _ _
            · unfold resolve
              simp only [hav]
              simp [Deferred.ofValue, Act.eval]
            · simp [invoke, callFunc_enter H hfg hbody]
          have hLr : LRel fi.vars fi.fn.ntmps G3 { L.clear with defers := .coll S.n :: L.defers } { a with defers := { target := .collected w.heap.size, args := #[] } :: a.defers } b cs := by
            have hc := (hL.clear).mono ((g1.trans g4).trans k1).toLe0
            exact ⟨hc.size, hc.get, ⟨⟨w.heap.size, (g4.trans k1).obj _ _ g2, rfl⟩, hc.defers⟩, hc.rnd, hc.recs⟩
          refine endC_sound (L := { L.clear with defers := .coll S.n :: L.defers }) ((g1.trans g4).trans k1) k2 (k1.obj _ _ g5) hLr h ?_
          cases r with
          | ret v =>
            obtain ⟨u, hu, hs⟩ := k3
            exact Steps.trans (.one hstep) hs
          | pan v =>
            obtain ⟨u, hu, hs⟩ := k3
            exact ⟨u, _, hu, Steps.trans (.one hstep) hs⟩
      · rename_i l hsome
        rw [hsome] at hrnd
        simp only at hrnd
        obtain ⟨hkind, bl, hbl, hro⟩ := hrnd
        split at h
        · rename_i al0 hget
          obtain ⟨b', q1, q2, q3, rec, q4, q5⟩ := I.objs l _ hget
          rw [hbl] at q1; cases q1
          let al : ALoop := { state := .ready, pend := none, fid := fid, vals := L.vals, params, asg, body, dfr := al0.dfr }
          let rec0 : Loop := { state := .ready, pending := none, fn := b.fn, tmps := a.tmps, params := params, assign := asg, body := body, defers := rec.defers }
          obtain ⟨G2, g4, g5, g6, I2⟩ := I.pushBlk (x := .loop rec0) (o := .loop al) (by simp) (fun G' hG h1 h2 => ⟨_, h1, h2, I.size, rec0, by simp, rfl, rfl, hb, rfl, rfl, rfl, hG.obj _ _ q5.2.2.2.2.2.2.1, fi, hfi, htm.1, fun t k hk => (htm.2 t k hk).mono hG.toLe0⟩)
          cases hcall : call (.fn g) (first ++ [.yld S.n] ++ cap) (S.push (.loop al)) with
          | none => simp only [al] at hcall; rw [hcall] at h; cases h
          | some r =>
            obtain ⟨r, S3⟩ := r
            simp only [al] at hcall
            rw [hcall] at h
            have hargs : Reps G2 (first ++ [.yld S.n] ++ cap) (first' ++ #[Value.func (.yield w.heap.size) #[] #[]] ++ cap').toList := by
              simp only [Array.toList_append]
              exact ((hr1.mono g4.toLe0).append (Reps.cons (.yld _ _ g5) (Reps.nil _))).append (hr2.mono g4.toLe0)
            have I2' : InvW E B h0 G2 (S.push (.loop al)) (w.alloc (.loop rec0)) := ⟨I2, I.os, I.out⟩
            let fr : Frame := fat b a (.inRangeFunc w.heap.size :: k)
            obtain ⟨⟨fg, hfg, hbody⟩, G3, w3, k1, k2, k3⟩ := call_steps HC hcall I2' (hg.mono g4.toLe0) hargs fr cs
            have hstep : step P (lone (fat b a (.code (.rangeFunc f params asg body) :: k)) cs w) = .next (lone (Frame.enter P g (first' ++ #[Value.func (.yield w.heap.size) #[] #[]] ++ cap') .normal) (fr :: cs) (w.alloc (.loop rec0))) := by
              refine stepR_rangeFunc (b := b) (a := a) (mark := []) (w₁ := w.alloc (.loop rec0)) (w₁' := w.alloc (.loop rec0))
                (d := { target := .fn (.func g) cap', args := first' ++ #[Value.func (.yield w.heap.size) #[] #[]] }) ?_ ?_ ?_
              · rw [hro]; exact run_enterLoop_inner q4 _ _ _ _ _
              · have hav' := hav
                unfold resolve
                simp only [hav']
                simp [Deferred.ofValue, Act.eval]
              · simp [invoke, callFunc_enter H hfg hbody]
            have hLr := (hL.clear).mono (g4.trans k1).toLe0
            refine endC_sound (L := L.clear) (g4.trans k1) k2 (k1.obj _ _ g5) hLr h ?_
            cases r with
            | ret v =>
              obtain ⟨u, hu, hs⟩ := k3
              exact Steps.trans (.one hstep) hs
            | pan v =>
              obtain ⟨u, hu, hs⟩ := k3
              exact ⟨u, _, hu, Steps.trans (.one hstep) hs⟩
        · cases h
    · cases h

end

end Go.Vm

namespace Go.Vm
open Go

variable {P : Program} {E : Env} {B : Nat} {h0 : World} {G : Gh} {S S' : St} {w : World}

/-! the results -/

theorem loadA_ptr (H : EnvOk P E) (I : InvW E B h0 G S w) {t : TypeId} {a v : AV} {c : Value} (h : loadA E S t a = some v) (ha : Rep G a c) :
    ∃ r, (do loadVar t (← asAddr c) : Sem Value).run P w = .ok r w ∧ Rep G v r := by
  obtain ⟨r, h1, h2⟩ := load_sound (P := P) H I h ha
  refine ⟨r, ?_, h2⟩
  have hc : ∃ ad, c = .pointer (some ad) := by
    unfold loadA at h
    split at h
    · cases h
    · split at h
      · obtain ⟨b, o, rfl, _⟩ := ha.rptr_inv; exact ⟨_, rfl⟩
      · cases ha; exact ⟨_, rfl⟩
      · cases h
  obtain ⟨ad, rfl⟩ := hc
  simp only [Instr.loadAt, Instr.sureAddr] at h1
  simpa [asAddr] using h1

theorem results_go (H : EnvOk P E) (I : InvW E B h0 G S w) {vars : List Tmp} {L : Loc} {tmps : Array Value} (hget : ∀ t, Rep G (L.get vars t) (tmps.getD t undef)) :
    ∀ (rs : List ResultVar) (vs : List AV), resultsA E L vars S rs = some vs →
      ∃ us, (rs.mapM (m := Sem) fun | .tmp t => pure (tmps.getD t undef) | .cell a t => do loadVar t (← asAddr (tmps.getD a undef))).run P w = .ok us w ∧ Reps G vs us
  | [], vs, h => by
    simp only [resultsA] at h
    cases h
    exact ⟨[], by simp, Reps.nil G⟩
  | .tmp t :: rs, vs, h => by
    simp only [resultsA] at h
    cases hr : resultsA E L vars S rs with
    | none => rw [hr] at h; cases h
    | some vs' =>
      rw [hr] at h
      simp at h
      subst h
      obtain ⟨us, h1, h2⟩ := results_go H I hget rs vs' hr
      exact ⟨tmps.getD t undef :: us, by rw [List.mapM_cons]; simp only [Sem.run_bind, Sem.run_pure, Result.andThen, h1], Reps.cons (hget t) h2⟩
  | .cell a t :: rs, vs, h => by
    simp only [resultsA] at h
    split at h
    · rename_i v vs' hl hr
      cases h
      obtain ⟨us, h1, h2⟩ := results_go H I hget rs vs' hr
      obtain ⟨r, h3, h4⟩ := loadA_ptr (P := P) H I hl (hget a)
      exact ⟨r :: us, by rw [List.mapM_cons]; simp only [Sem.run_bind, h3, Result.andThen, h1]; rfl, Reps.cons h4 h2⟩
    · cases h

theorem results_sound (H : EnvOk P E) (I : InvW E B h0 G S w) {vars : List Tmp} {L : Loc} {tmps : Array Value} (hget : ∀ t, Rep G (L.get vars t) (tmps.getD t undef)) {fn : Func} {vs : List AV} (h : resultsA E L vars S fn.results.toList = some vs) :
    ∃ u, (results fn tmps).run P w = .ok u w ∧ Rep G (resultV vs) u := by
  obtain ⟨us, h1, h2⟩ := results_go (P := P) H I hget _ vs h
  have hm : (results fn tmps).run P w = .ok (if h : us.toArray.size = 1 then us.toArray[0] else .tuple us.toArray) w := by
    unfold results
    rw [Array.mapM_eq_mapM_toList]
    simp only [bind_map_left]
    rw [Sem.run_bind]
    refine (congrArg (fun r => Result.andThen r _) h1).trans ?_
    simp [Result.andThen]
  refine ⟨_, hm, ?_⟩
  match vs, us, h2 with
  | [], [], h2 => exact Rep.tup' (ys := #[]) (Reps.nil G)
  | [v], [u], h2 => exact h2.head
  | v :: v' :: r, u :: u' :: r', h2 => exact Rep.tup' (ys := (u :: u' :: r').toArray) (by simpa using h2)
  | [], _ :: _, h2 => exact absurd h2.1 (by simp)
  | [_], [], h2 => exact absurd h2.1 (by simp)
  | [_], _ :: _ :: _, h2 => exact absurd h2.1 (by simp)
  | _ :: _ :: _, [], h2 => exact absurd h2.1 (by simp)
  | _ :: _ :: _, [_], h2 => exact absurd h2.1 (by simp)


/-! the way out of a function -/

def ModeRel (G : Gh) : Mode → FrameMode → Prop
  | .ret, u => u = .returning
  | .pan v, u => ∃ c, u = .panicking [entry c] ∧ Rep G v c

def recOf : Mode → RecS
  | .ret => .no
  | .pan v => .pan v

def DEnd (P : Program) (f : FuncId) (cargs : Array Value) (c : Frame) (cs : List Frame) (w : World) (mo : Mode) (w' : World) : RecS → Prop
  | .done => (∃ v, mo = .pan v) ∧ Steps P (lone (Frame.enter P f cargs .deferred) (c :: cs) w) (lone { c with mode := .returning } cs w')
  | .no => RecS.no = recOf mo ∧ Steps P (lone (Frame.enter P f cargs .deferred) (c :: cs) w) (lone c cs w')
  | .pan v => RecS.pan v = recOf mo ∧ Steps P (lone (Frame.enter P f cargs .deferred) (c :: cs) w) (lone c cs w')

/-- what a call of a deferred function does -/
def DfOk (P : Program) (E : Env) (B : Nat) (h0 : World) (callD : CallD) : Prop :=
  ∀ f args mo S r S', callD f args (recOf mo) S = some (r, S') → ∀ G w cargs (c : Frame) cs, InvW E B h0 G S w → GlobOk E G → Reps G args cargs.toList → ModeRel G mo c.mode →
    (∃ fi, E.fn f = some fi ∧ fi.fn.body.isSome = true) ∧ ∃ G' w', G.Le G' ∧ InvW E B h0 G' S' w' ∧ DEnd P f cargs c cs w mo w' r

theorem unwind_sound (H : EnvOk P E) {callD : CallD} (HD : DfOk P E B h0 callD) {fi : FInfo} {fid : FuncId} (hfi : E.fn fid = some fi) {L : Loc} : ∀ (ds : List ADef) {dsC : List Deferred} {mo : Mode} {S : St} {r : FRes} {S' : St} {G : Gh} {w : World} {fr : Frame} {cs : List Frame},
    unwindA E callD fi L ds mo S = some (r, S') → InvW E B h0 G S w → GlobOk E G → DRels G ds dsC → fr.defers = dsC → ModeRel G mo fr.mode → fr.fn = fid → fr.kind = .normal → (∀ t, Rep G (L.get fi.vars t) (fr.tmps.getD t undef)) →
    ∃ G' e w' fr', G.Le G' ∧ InvW E B h0 G' S' w' ∧ FEnd G' r e ∧ Comes P (lone fr cs w) (lone fr' cs w') e ∧ fr'.fn = fid ∧ fr'.leaving P w' e
  | [], dsC, mo, S, r, S', G, w, fr, cs, h, I, hg, hd, hdc, hm, hf, hk, hget => by
    have hnil : fr.defers = [] := by
      cases dsC with
      | nil => exact hdc
      | cons d ds => exact hd.elim
    have hP := (H.fn fid fi hfi).1
    cases mo with
    | ret =>
      simp only [unwindA] at h
      split at h
      · rename_i vs hvs
        cases h
        obtain ⟨u, h1, h2⟩ := results_sound (P := P) H I hget hvs
        exact ⟨G, .returned u, w, fr, .refl G, I, ⟨u, rfl, h2⟩, Steps.refl P _, hf, hm, hnil, hk, fi.fn, by rw [hf]; exact hP, h1⟩
      · cases h
    | pan v =>
      simp only [unwindA] at h
      cases h
      obtain ⟨c, h1, h2⟩ := hm
      exact ⟨G, .panicked [entry c], w, fr, .refl G, I, ⟨c, rfl, h2⟩, Steps.refl P _, hf, h1, hnil, fi.fn, by rw [hf]; exact hP⟩
  | .coll i :: ds, dsC, mo, S, r, S', G, w, fr, cs, h, I, hg, hd, hdc, hm, hf, hk, hget => by
    cases dsC with
    | nil => exact hd.elim
    | cons d dsC =>
      obtain ⟨⟨bl, hbl, htar⟩, hd2⟩ := hd
      simp only [unwindA] at h
      split at h
      · rename_i hS
        obtain ⟨b', q1, q2, q3, q4⟩ := I.objs i _ hS
        rw [hbl] at q1; cases q1
        simp only [Bool.false_eq_true, if_false] at q4
        have hrun : fr.mode ≠ .run := by
          cases mo with
          | ret => rw [show fr.mode = .returning from hm]; simp
          | pan v => obtain ⟨c, h1, _⟩ := hm; rw [h1]; simp
        have hst := step_collected (cs := cs) hrun hdc htar (run_takeDeferred (P := P) q4)
        have I' : InvW E B h0 G (S.put i (.dfr true)) (w.putObj bl (.deferred none)) :=
          ⟨I.setBlk (St.get_lt hS) q2 q3 (by simp) ⟨bl, hbl, q2, q3, by
            have := (Array.getElem?_eq_some_iff.1 q4).1
            simp [this]⟩, I.os, I.out⟩
        obtain ⟨G', e, w', fr', k1, k2, k3, k4, k5, k6⟩ := unwind_sound H HD hfi ds (fr := { fr with defers := [] ++ dsC }) (cs := cs) h I' hg hd2 rfl hm hf hk hget
        exact ⟨G', e, w', fr', k1, k2, k3, Comes.of_steps (.one hst) k4, k5, k6⟩
      · cases h
  | .call f args :: ds, dsC, mo, S, r, S', G, w, fr, cs, h, I, hg, hd, hdc, hm, hf, hk, hget => by
    cases dsC with
    | nil => exact hd.elim
    | cons d dsC =>
      obtain ⟨⟨first, cap, htar, hdargs, hargs⟩, hd2⟩ := hd
      have hrun : fr.mode ≠ .run := by
        cases mo with
        | ret => rw [show fr.mode = .returning from hm]; simp
        | pan v => obtain ⟨c, h1, _⟩ := hm; rw [h1]; simp
      unfold unwindA at h
      split at h
      · rename_i r1 S1 hc
        have hc' : callD f args (recOf mo) S = some (r1, S1) := by cases mo <;> exact hc
        obtain ⟨⟨fg, hfg, hbody⟩, G1, w1, k1, k2, k3⟩ := HD f args mo S r1 S1 hc' G w (first ++ cap) { fr with defers := dsC } cs I hg hargs hm
        have hinv : (invoke d.target d.args).run P w = .ok (.enter f (first ++ cap)) w := by
          rw [htar, hdargs]
          simp [invoke, callFunc_enter H hfg hbody]
        have hst := step_defer (cs := cs) hrun hdc htar hinv
        have fin : ∀ (mo' : Mode) (fr1 : Frame), unwindA E callD fi L ds mo' S1 = some (r, S') → fr1.defers = dsC → ModeRel G1 mo' fr1.mode → fr1.fn = fid → fr1.kind = .normal → fr1.tmps = fr.tmps →
            Steps P (lone (Frame.enter P f (first ++ cap) .deferred) ({ fr with defers := dsC } :: cs) w) (lone fr1 cs w1) →
            ∃ G' e w' fr', G.Le G' ∧ InvW E B h0 G' S' w' ∧ FEnd G' r e ∧ Comes P (lone fr cs w) (lone fr' cs w') e ∧ fr'.fn = fid ∧ fr'.leaving P w' e := by
          intro mo' fr1 hu hd1 hm1 hf1 hk1 ht1 hs1
          obtain ⟨G', e, w', fr', j1, j2, j3, j4, j5, j6⟩ := unwind_sound H HD hfi ds (fr := fr1) (cs := cs) hu k2 (hg.mono k1.toLe0) (hd2.mono k1.toLe0) hd1 hm1 hf1 hk1 (fun t => by rw [ht1]; exact (hget t).mono k1.toLe0)
          exact ⟨G', e, w', fr', k1.trans j1, j2, j3, Comes.of_steps (.head hst hs1) j4, j5, j6⟩
        cases mo with
        | ret =>
          cases r1 with
          | no =>
            simp only [DEnd] at h k3
            exact fin .ret { fr with defers := dsC } h rfl hm hf hk rfl k3.2
          | pan v' => simp at h
          | done => simp at h
        | pan v =>
          cases r1 with
          | no => simp at h
          | pan v' =>
            simp only [recOf, DEnd] at h k3
            obtain ⟨k3, k4⟩ := k3
            cases k3
            obtain ⟨c, h1, h2⟩ := hm
            exact fin (.pan v) { fr with defers := dsC } h rfl ⟨c, h1, h2.mono k1.toLe0⟩ hf hk rfl k4
          | done =>
            simp only [DEnd] at h k3
            exact fin .ret { fr with defers := dsC, mode := .returning } h rfl rfl hf hk rfl k3.2
      · cases h

end Go.Vm

namespace Go.Vm
open Go

variable {P : Program} {E : Env} {B : Nat} {h0 : World} {G : Gh} {S S' : St} {w : World}

theorem idx_get : ∀ {vars : List Tmp} {t : Tmp} {k : Nat}, idx vars t = some k → vars[k]? = some t
  | [], _, _, h => by simp [idx] at h
  | x :: xs, t, k, h => by
    unfold idx at h
    split at h
    · rename_i e; cases h; simp [e]
    · cases hh : idx xs t with
      | none => rw [hh] at h; cases h
      | some j => rw [hh] at h; simp at h; subst h; simpa using idx_get hh

theorem getD_append_undef {cargs : Array Value} {n t : Nat} : (cargs ++ Array.replicate n undef).getD t undef = cargs.getD t undef := by
  simp only [Array.getD_eq_getD_getElem?, Array.getElem?_append, Array.getElem?_replicate]
  split
  · rfl
  · rename_i h
    rw [Array.getElem?_eq_none (by omega)]
    split <;> rfl

theorem start_rel {fi : FInfo} {args : List AV} {cargs : Array Value} (hr : Reps G args cargs.toList) (hl : args.length ≤ fi.fn.ntmps) {b : Frame} {cs : List Frame} {rc : RecS} (hro : b.roundOf = none) (hrec : RRel G rc b cs) :
    LRel fi.vars fi.fn.ntmps G (startLoc fi args rc) { tmps := cargs ++ Array.replicate (fi.fn.ntmps - cargs.size) undef, defers := [] } b cs := by
  have hsz : args.length = cargs.size := by simpa using hr.1
  refine ⟨by simp; omega, fun t => ?_, trivial, hro, hrec⟩
  rw [getD_append_undef]
  unfold Loc.get startLoc
  cases hk : idx fi.vars t with
  | none => simp [look]; exact .undef _
  | some k =>
    have hv := idx_get hk
    simp only [startVals]
    have : (fi.vars.map fun t => args.getD t .undef).getD k .undef = args.getD t .undef := by
      simp [List.getD_eq_getElem?_getD, hv]
    rw [this]
    rcases Nat.lt_or_ge t args.length with h | h
    · obtain ⟨y, hy, hxy⟩ := hr.getElem (List.getElem?_eq_getElem h)
      have h1 : args.getD t .undef = args[t] := by simp [h]
      have h2 : cargs.getD t undef = y := by
        have : cargs[t]? = some y := by simpa using hy
        simp [Array.getD_eq_getD_getElem?, this]
      rw [h1, h2]
      exact hxy
    · have h1 : args.getD t .undef = .undef := by simp [List.getD_eq_getElem?_getD, List.getElem?_eq_none h]
      rw [h1]; exact .undef _

theorem csStep_no {r : RecS} {cs cs' : List Frame} (h : CsStep .no r cs cs') : r = .no ∧ cs' = cs := by
  rcases h with h | ⟨v, h, _⟩
  · exact h
  · cases h

def OutOf (mo : Mode) : Ex → Prop
  | .normal => mo = .ret
  | .ret => mo = .ret
  | .pan v => mo = .pan v
  | .exit _ => False

/-- where the code of a function ends: the mode of its frame -/
theorem out_steps {vars : List Tmp} {nt : Nat} {m : Machine} {b : Frame} {r0 : RecS} {cs : List Frame} {ex : Ex} {L' : Loc} (hro : b.roundOf = none) (h : Arr P E B h0 vars nt G m b [] r0 cs ex L' S') (mo : Mode) (hmo : OutOf mo ex) :
    ∃ G' a' cs' w' fr, G.Le G' ∧ InvW E B h0 G' S' w' ∧ LRel vars nt G' L' a' b cs' ∧ CsStep r0 L'.recs cs cs' ∧ Steps P m (lone fr cs' w') ∧ fr.fn = b.fn ∧ fr.kind = b.kind ∧ fr.tmps = a'.tmps ∧ fr.defers = a'.defers ∧ ModeRel G' mo fr.mode := by
  obtain ⟨G', a', cs', w', h1, h2, h3, h4, h5⟩ := h
  cases ex with
  | normal => cases hmo; exact ⟨G', a', cs', w', _, h1, h2, h3, h4, Steps.trans h5 (.one (fstep_end hro)), rfl, rfl, rfl, rfl, rfl⟩
  | ret => cases hmo; obtain ⟨todo, h5⟩ := h5; exact ⟨G', a', cs', w', _, h1, h2, h3, h4, Steps.trans h5 (.one (fstep_ret hro)), rfl, rfl, rfl, rfl, rfl⟩
  | pan v => cases hmo; obtain ⟨c, todo, h6, h5⟩ := h5; exact ⟨G', a', cs', w', _, h1, h2, h3, h4, h5, rfl, rfl, rfl, rfl, c, rfl, h6⟩
  | exit i => exact hmo.elim

section
variable {call : CallF} {n : Nat}

theorem fn_sound (H : EnvOk P E) (HC : CallOk P E B h0 call) {callD : CallD} (HD : DfOk P E B h0 callD) {f : FuncId} {args : List AV} {r : FRes} (h : fnA E call callD (iter n) f args S = some (r, S')) {cargs : Array Value}
    (I : InvW E B h0 G S w) (hg : GlobOk E G) (hr : Reps G args cargs.toList) :
    (∃ fi, E.fn f = some fi ∧ fi.fn.body.isSome = true) ∧ Calls P f cargs w fun e w' => ∃ G', G.Le G' ∧ InvW E B h0 G' S' w' ∧ FEnd G' r e := by
  unfold fnA at h
  cases hfi : E.fn f with
  | none => rw [hfi] at h; cases h
  | some fi =>
    rw [hfi] at h
    simp only at h
    cases hb : fi.fn.body with
    | none => rw [hb] at h; cases h
    | some c =>
      rw [hb] at h
      simp only at h
      split at h
      · rename_i hl
        refine ⟨⟨fi, rfl, by rw [hb]; rfl⟩, fun cs => ?_⟩
        let b : Frame := { (default : Frame) with fn := f, kind := .normal, roundOf := none }
        have hP := (H.fn f fi hfi).1
        have henter : Frame.enter P f cargs .normal = fat b { tmps := cargs ++ Array.replicate (fi.fn.ntmps - cargs.size) undef, defers := [] } [.code c] := by
          simp [Frame.enter, hP, hb, fat, b]
        have hL := start_rel (fi := fi) (b := b) (cs := cs) (rc := .no) hr hl rfl (.inl rfl)
        have main : ∀ (ex : Ex) (L' : Loc) (S1 : St) (mo : Mode), evalC ⟨E, call, iter n, f, fi.vars, fi.fn.ntmps⟩ c (startLoc fi args .no) S = some (ex, L', S1) → OutOf mo ex →
            unwindA E callD fi L' L'.defers mo S1 = some (r, S') →
            ∃ e w' fr, (∃ G', G.Le G' ∧ InvW E B h0 G' S' w' ∧ FEnd G' r e) ∧ Comes P (lone (Frame.enter P f cargs .normal) cs w) (lone fr cs w') e ∧ fr.fn = f ∧ fr.leaving P w' e := by
          intro ex L' S1 mo hev hmo hu
          have ha := evalC_sound (n := n) (b := b) H HC hfi rfl c hev [] I hg hL
          obtain ⟨G1, a1, cs1, w1, fr1, q1, q2, q3, q4, q5, q6, q7, q8, q9, q10⟩ := out_steps rfl ha mo hmo
          obtain ⟨_, hcs⟩ := csStep_no q4
          subst hcs
          obtain ⟨G2, e, w2, fr2, k1, k2, k3, k4, k5, k6⟩ := unwind_sound H HD hfi L'.defers (fr := fr1) (cs := cs1) hu q2 (hg.mono q1.toLe0) q3.defers q9 q10 q6 q7 (fun t => by rw [q8]; exact q3.get t)
          rw [← henter] at q5
          exact ⟨e, w2, fr2, ⟨G2, q1.trans k1, k2, k3⟩, Comes.of_steps q5 k4, k5, k6⟩
        split at h
        · rename_i L' S1 hev
          exact main _ _ _ .ret hev rfl h
        · rename_i L' S1 hev
          exact main _ _ _ .ret hev rfl h
        · rename_i v L' S1 hev
          exact main _ _ _ (.pan v) hev rfl h
        · cases h
      · cases h

theorem df_sound (H : EnvOk P E) (HC : CallOk P E B h0 call) : DfOk P E B h0 (fun g a r T => dfA E call (iter n) g a r T) := by
  intro f args mo S r S' h G w cargs c cs I hg hr hm
  simp only at h
  unfold dfA at h
  cases hfi : E.fn f with
  | none => rw [hfi] at h; cases h
  | some fi =>
    rw [hfi] at h
    simp only at h
    cases hb : fi.fn.body with
    | none => rw [hb] at h; cases h
    | some cd =>
      rw [hb] at h
      simp only at h
      split at h
      · rename_i hl
        refine ⟨⟨fi, rfl, by rw [hb]; rfl⟩, ?_⟩
        let b : Frame := { (default : Frame) with fn := f, kind := .deferred, roundOf := none }
        have hP := (H.fn f fi hfi).1
        have henter : Frame.enter P f cargs .deferred = fat b { tmps := cargs ++ Array.replicate (fi.fn.ntmps - cargs.size) undef, defers := [] } [.code cd] := by
          simp [Frame.enter, hP, hb, fat, b]
        have hrec : RRel G (recOf mo) b (c :: cs) := by
          cases mo with
          | ret => exact .inr ⟨rfl, c, cs, rfl, hm⟩
          | pan v => obtain ⟨u, h1, h2⟩ := hm; exact ⟨rfl, c, cs, u, rfl, h1, h2⟩
        have hL := start_rel (fi := fi) (b := b) (cs := c :: cs) (rc := recOf mo) hr hl.1 rfl hrec
        have main : ∀ (ex : Ex) (L' : Loc) (S1 : St), evalC ⟨E, call, iter n, f, fi.vars, fi.fn.ntmps⟩ cd (startLoc fi args (recOf mo)) S = some (ex, L', S1) → OutOf .ret ex →
            L'.defers = [] → some (L'.recs, S1) = some (r, S') →
            ∃ G' w', G.Le G' ∧ InvW E B h0 G' S' w' ∧ DEnd P f cargs c cs w mo w' r := by
          intro ex L' S1 hev hex hdf hres
          have ha := evalC_sound (n := n) (b := b) H HC hfi rfl cd hev [] I hg hL
          obtain ⟨G1, a1, cs1, w1, fr1, q1, q2, q3, q4, q5, q6, q7, q8, q9, q10⟩ := out_steps rfl ha .ret hex
          cases hres
          have hd0 : fr1.defers = [] := by
            have := q3.defers
            rw [hdf] at this
            rw [q9]
            cases hh : a1.defers with
            | nil => rfl
            | cons d ds => rw [hh] at this; exact this.elim
          have hgo : fr1.going P w1 (.returned (.tuple #[])) := by
            refine ⟨q10, hd0, fi.fn, by rw [q6]; exact hP, ?_⟩
            have : fi.fn.results = #[] := Array.eq_empty_of_size_eq_zero hl.2
            simp [results, this]
          rw [← henter] at q5
          refine ⟨G1, w1, q1, q2, ?_⟩
          rcases q4 with ⟨hre, hcs⟩ | ⟨v, hre, hre', c0, rr, u, hc0, hmode, hcs⟩
          · subst hcs
            have hst := step_going_returned (c := c) (cs := cs) q7 hgo
            have hset : settle c.mode = c.mode := by
              cases mo with
              | ret => rw [show c.mode = .returning from hm]; rfl
              | pan v => obtain ⟨u, h1, _⟩ := hm; rw [h1]; rfl
            rw [hset] at hst
            have hst' : step P (lone fr1 (c :: cs) w1) = .next (lone c cs w1) := hst
            have hres : L'.recs = recOf mo := hre
            rw [hres]
            cases mo with
            | ret => exact ⟨rfl, q5.trans (.one hst')⟩
            | pan v => exact ⟨rfl, q5.trans (.one hst')⟩
          · rw [hre']
            cases mo with
            | ret => cases hre
            | pan v0 =>
              refine ⟨⟨v0, rfl⟩, ?_⟩
              cases hc0
              rw [hcs] at q5
              exact q5.trans (.one (step_going_returned (c := { c with mode := .panicking [{ v := u, recovered := true }] }) (cs := cs) q7 hgo))
        split at h
        · rename_i L' S1 hev
          split at h
          · rename_i hdf
            exact main _ _ _ hev rfl hdf h
          · cases h
        · rename_i L' S1 hev
          split at h
          · rename_i hdf
            exact main _ _ _ hev rfl hdf h
          · cases h
        · cases h
      · cases h

theorem putAll_rel {fi : FInfo} {b : Frame} {cs : List Frame} : ∀ (ts : List Tmp) (args : List AV) {L L' : Loc} {a : Act} {cargs : List Value}, putAll fi.vars L ts args = some L' → ts.all (fun t => decide (t < fi.fn.ntmps)) = true → Reps G args cargs → LRel fi.vars fi.fn.ntmps G L a b cs →
    ts.length = cargs.length ∧ LRel fi.vars fi.fn.ntmps G L' { a with tmps := (ts.zip cargs).foldl (fun tmps (t, v) => tmps.setIfInBounds t v) a.tmps } b cs
  | [], [], L, L', a, cargs, h, _, hr, hL => by
    simp only [putAll] at h
    cases h
    have : cargs = [] := List.eq_nil_of_length_eq_zero (by simpa using hr.1.symm)
    subst this
    exact ⟨rfl, hL⟩
  | t :: ts, v :: args, L, L', a, [], h, _, hr, hL => absurd hr.1 (by simp)
  | t :: ts, v :: args, L, L', a, c :: cargs, h, ht, hr, hL => by
    simp only [putAll] at h
    simp only [List.all_cons, Bool.and_eq_true, decide_eq_true_eq] at ht
    have h1 := hL.put (dst := some t) hr.head (by simpa [inFrame] using ht.1)
    obtain ⟨h2, h3⟩ := putAll_rel ts args (a := a.put (some t) c) h ht.2 hr.tail h1
    refine ⟨by simp [h2], ?_⟩
    simp only [List.zip_cons_cons, List.foldl_cons]
    exact h3
  | [], _ :: _, L, L', a, cargs, h, _, _, _ => by simp [putAll] at h
  | _ :: _, [], L, L', a, cargs, h, _, _, _ => by simp [putAll] at h

theorem yld_sound (H : EnvOk P E) (HC : CallOk P E B h0 call) {l : Nat} {args : List AV} {r : FRes} (h : yldA E call (iter n) l args S = some (r, S')) {cargs : Array Value} {bl : Nat}
    (I : InvW E B h0 G S w) (hg : GlobOk E G) (hl : G.obj l = some (bl, 0)) (hr : Reps G args cargs.toList) :
    ∃ f tmps asg body, (Instr.yield bl cargs).run P w = .ok (.round bl f tmps asg body) w ∧ ∀ c cs, ∃ G' w', G.Le G' ∧ InvW E B h0 G' S' w' ∧
      match r with
      | .ret v => ∃ u, Rep G' v u ∧ Steps P (lone (Frame.round bl f tmps asg body .normal) (c :: cs) w) (lone (c.finish u) cs w')
      | .pan v => ∃ u, Rep G' v u ∧ Steps P (lone (Frame.round bl f tmps asg body .normal) (c :: cs) w) (lone (c.raise [entry u]) cs w') := by
  unfold yldA at h
  split at h
  · rename_i al hget
    obtain ⟨b', q1, q2, q3, rec, q4, s1, s2, s3, s4, s5, s6, s7, fi, s8, s9, s10⟩ := I.objs l _ hget
    rw [hl] at q1; cases q1
    rw [s8] at h
    simp only at h
    split at h
    · rename_i hpar
      split at h
      · cases h
      · rename_i L hput
        have hP := (H.fn al.fid fi s8).1
        -- the frame of the round
        let b : Frame := { (default : Frame) with fn := al.fid, kind := .normal, roundOf := some bl }
        have hsz : cargs.size = rec.params.size := by
          have := putAll_rel (G := G) (b := b) (cs := []) _ _ (a := { tmps := rec.tmps, defers := [] }) hput hpar hr ⟨s9, fun t => by
            unfold Loc.get
            cases hk : idx fi.vars t with
            | none => simp [look]; exact .undef _
            | some k => exact s10 t k hk, trivial, ⟨rfl, bl, hl, rfl⟩, .inl rfl⟩
          rw [s4]
          simpa using this.1.symm
        refine ⟨rec.fn, _, rec.assign, rec.body, run_yield q4 hsz, fun c cs => ?_⟩
        have hL := (putAll_rel (G := G) (b := b) (cs := c :: cs) _ _ (a := { tmps := rec.tmps, defers := [] }) hput hpar hr ⟨s9, fun t => by
            unfold Loc.get
            cases hk : idx fi.vars t with
            | none => simp [look]; exact .undef _
            | some k => exact s10 t k hk, trivial, ⟨rfl, bl, hl, rfl⟩, .inl rfl⟩).2
        have hrnd0 : L.rnd = some l ∧ L.recs = .no := by
          have : ∀ (ts : List Tmp) (as : List AV) (L L' : Loc), putAll fi.vars L ts as = some L' → L'.rnd = L.rnd ∧ L'.recs = L.recs := by
            intro ts
            induction ts with
            | nil => intro as L L' h; cases as <;> simp [putAll] at h; subst h; exact ⟨rfl, rfl⟩
            | cons t ts ih =>
              intro as L L' h
              cases as with
              | nil => simp [putAll] at h
              | cons a as =>
                simp only [putAll] at h
                obtain ⟨h1, h2⟩ := ih _ _ _ h
                have := putO_recs (vars := fi.vars) (L := L) (dst := some t) (v := a)
                exact ⟨h1.trans this.2.2, h2.trans this.1⟩
          exact this _ _ _ _ hput
        let tm := (rec.params.zip cargs).foldl (fun tmps (t, a) => tmps.setIfInBounds t a) rec.tmps
        have htm : tm = ((al.params.toList.zip cargs.toList).foldl (fun tmps (t, v) => tmps.setIfInBounds t v) rec.tmps) := by
          simp only [tm]
          rw [s4, ← Array.foldl_toList, Array.toList_zip]
        have hround : Frame.round bl rec.fn tm rec.assign rec.body .normal = fat b { tmps := tm, defers := [] } (.code al.asg :: [.beginRound, .code al.body]) := by
          simp [Frame.round, fat, b, s3, s5, s6]
        rw [← htm] at hL
        split at h
        · rename_i L1 S1 hasg
          have ha := evalC_sound (n := n) (b := b) H HC s8 rfl al.asg hasg [.beginRound, .code al.body] I hg hL
          obtain ⟨G1, a1, cs1, w1, k1, k2, k3, k4, k5⟩ := ha
          rw [hrnd0.2] at k4
          obtain ⟨hrec1, hcs1⟩ := csStep_no k4
          subst hcs1
          have hl1 := k1.obj _ _ hl
          split at h
          · rename_i al1 hget1
            obtain ⟨b1', p1, p2, p3, rec1, p4, t1, t2, t3, t4, t5, t6, t7, t8⟩ := k2.objs l _ hget1
            rw [hl1] at p1; cases p1
            split at h
            · rename_i hready
              have hlt1 := (Array.getElem?_eq_some_iff.1 p4).1
              have I2 : InvW E B h0 G1 (S1.put l (.loop { al1 with state := .busy })) (w1.putObj bl (.loop { rec1 with state := .busy })) :=
                ⟨k2.setBlk (St.get_lt hget1) p2 p3 (by simp) ⟨bl, hl1, p2, p3, { rec1 with state := .busy }, by simp [hlt1], rfl, t2, t3, t4, t5, t6, t7, t8⟩, k2.os, k2.out⟩
              have hbegin : step P (lone (fat b a1 (.beginRound :: [.code al.body])) (c :: cs) w1) = .next (lone (fat b a1 [.code al.body]) (c :: cs) (w1.putObj bl (.loop { rec1 with state := .busy }))) := by
                have hrun := run_beginRound (P := P) p4 (by rw [t1]; exact hready)
                exact step_lone_go (by simp [stepG, stepG.exec, fat, b, stepG.apply, Sem.run_bind, hrun, Result.andThen, Frame.finish])
              split at h
              · rename_i e L2 S2 hbody
                have hb2 := evalC_sound (n := n) (b := b) H HC s8 rfl al.body hbody [] I2 (hg.mono k1.toLe0) k3
                obtain ⟨G2, a2, cs2, w2, j1, j2, j3, j4, j5⟩ := hb2
                rw [hrec1] at j4
                obtain ⟨hrec2, hcs2⟩ := csStep_no j4
                subst hcs2
                have hl2 := j1.obj _ _ hl1
                split at h
                · rename_i al2 hdf hget2
                  obtain ⟨b2', o1, o2, o3, rec2, o4, u1, u2, u3, u4, u5, u6, u7, u8⟩ := j2.objs l _ hget2
                  rw [hl2] at o1; cases o1
                  have hlt2 := (Array.getElem?_eq_some_iff.1 o4).1
                  have hd0 : a2.defers = [] := by
                    have := j3.defers
                    rw [hdf] at this
                    cases hh : a2.defers with
                    | nil => rfl
                    | cons d ds => rw [hh] at this; exact this.elim
                  have pre : Steps P (lone (Frame.round bl rec.fn tm rec.assign rec.body .normal) (c :: cs) w) (lone (fat b a1 [.code al.body]) (c :: cs) (w1.putObj bl (.loop { rec1 with state := .busy }))) := by
                    rw [hround]
                    exact Steps.trans k5 (.one hbegin)
                  cases e with
                  | normal =>
                    cases h
                    have hend := run_endRound (P := P) none o4
                    have hst : step P (lone (fat b a2 []) (c :: cs) w2) = .next (lone (c.finish (.bool true)) cs (w2.putObj bl (.loop { rec2 with state := .ready, pending := none }))) :=
                      step_lone_go (by simp [stepG, stepG.exec, fat, b, doReturn, Sem.runT_eq, hend, GStep.bare_after])
                    refine ⟨G2, w2.putObj bl (.loop { rec2 with state := .ready, pending := none }), k1.trans j1, ⟨j2.setBlk (y := .loop { rec2 with state := .ready, pending := none }) (o := .loop { al2 with state := .ready, pend := none }) (St.get_lt hget2) o2 o3 (by simp) ⟨bl, hl2, o2, o3, { rec2 with state := .ready, pending := none }, by simp [hlt2], rfl, rfl, u3, u4, u5, u6, u7, u8⟩, j2.os, j2.out⟩, .bool true, .bool true, (pre.trans j5).trans (.one hst)⟩
                  | ret =>
                    cases h
                    obtain ⟨todo, j5⟩ := j5
                    have hend := run_endRound (P := P) (some .ret) o4
                    have hst : step P (lone (fat b a2 (.code .ret :: todo)) (c :: cs) w2) = .next (lone (c.finish (.bool false)) cs (w2.putObj bl (.loop { rec2 with state := .done, pending := some .ret }))) :=
                      step_lone_go (by simp [stepG, stepG.exec, fat, b, doReturn, Sem.runT_eq, hend, GStep.bare_after])
                    refine ⟨G2, w2.putObj bl (.loop { rec2 with state := .done, pending := some .ret }), k1.trans j1, ⟨j2.setBlk (y := .loop { rec2 with state := .done, pending := some .ret }) (o := .loop { al2 with state := .done, pend := some .ret }) (St.get_lt hget2) o2 o3 (by simp) ⟨bl, hl2, o2, o3, { rec2 with state := .done, pending := some .ret }, by simp [hlt2], rfl, rfl, u3, u4, u5, u6, u7, u8⟩, j2.os, j2.out⟩, .bool false, .bool false, (pre.trans j5).trans (.one hst)⟩
                  | exit i =>
                    cases h
                    obtain ⟨todo, hex, j5⟩ := j5
                    have hend := run_endRound (P := P) (some (.exit i)) o4
                    have hnone : exitTo i todo = none := by rw [hex]; rfl
                    have hst : step P (lone (fat b a2 (.code (.exit i) :: todo)) (c :: cs) w2) = .next (lone (c.finish (.bool false)) cs (w2.putObj bl (.loop { rec2 with state := .done, pending := some (.exit i) }))) :=
                      step_lone_go (by simp [stepG, stepG.exec, fat, b, hnone, doReturn, Sem.runT_eq, hend, GStep.bare_after])
                    refine ⟨G2, w2.putObj bl (.loop { rec2 with state := .done, pending := some (.exit i) }), k1.trans j1, ⟨j2.setBlk (y := .loop { rec2 with state := .done, pending := some (.exit i) }) (o := .loop { al2 with state := .done, pend := some (.exit i) }) (St.get_lt hget2) o2 o3 (by simp) ⟨bl, hl2, o2, o3, { rec2 with state := .done, pending := some (.exit i) }, by simp [hlt2], rfl, rfl, u3, u4, u5, u6, u7, u8⟩, j2.os, j2.out⟩, .bool false, .bool false, (pre.trans j5).trans (.one hst)⟩
                  | pan v =>
                    cases h
                    obtain ⟨u, todo, hv, j5⟩ := j5
                    refine ⟨G2, w2, k1.trans j1, j2, u, hv, (pre.trans j5).trans (.one (step_leave_panicked ⟨rfl, hd0, fi.fn, hP⟩))⟩
                · cases h
              · cases h
            · cases h
          · cases h
        · cases h
    · cases h
  · cases h

end

theorem call_sound (H : EnvOk P E) : ∀ n, CallOk P E B h0 (callN E n)
  | 0 => ⟨fun f args S r S' h => by simp [callN] at h, fun l args S r S' h => by simp [callN] at h⟩
  | n + 1 => by
    have ih := call_sound H n
    refine ⟨fun f args S r S' h G w cargs I hg hr => ?_, fun l args S r S' h G w cargs bl I hg hl hr => ?_⟩
    · simp only [callN] at h
      exact fn_sound H ih (df_sound H ih) h I hg hr
    · simp only [callN] at h
      have := yld_sound H ih h I hg hl hr
      cases r <;> exact this

end Go.Vm
