/-
Loops by an invariant, regions that draw, and slices that grow. No conditions.
-/
import Derived.Test.YtjfnelfdlemfgaaGreatDoorVmI
set_option linter.all false
set_option maxHeartbeats 4000000
namespace Go.Vm
open Go
def Got (c : CRes) (p : Ex → Loc → St → Prop) : Prop :=
 match c with
 | some (e, L, S) => p e L S
 | none => False
theorem Got_some {e : Ex} {L : Loc} {S : St} {p : Ex → Loc → St → Prop} : Got (some (e, L, S)) p = p e L S := rfl
theorem got_iff {c : CRes} {p : Ex → Loc → St → Prop} : Got c p ↔ ∃ e L S, c = some (e, L, S) ∧ p e L S := by
 constructor
 ·intro h
  unfold Got at h
  split at h
  ·exact ⟨_, _, _, rfl, h⟩
  ·exact h.elim
 ·rintro ⟨e, L, S, rfl, h⟩
  exact h
/-- the step of a loop: on with less to go, or out -/
def Round (body : Loc → St → CRes) (Inv : Nat → Loc → St → Prop) (Q : Ex → Loc → St → Prop) : Prop :=
 ∀ k L S, Inv k L S → ∀ p : Ex → Loc → St → Prop, (∀ k' L' S', k' < k → Inv k' L' S' → p .normal L' S') → (∀ e L' S', e ≠ .normal → Q e L' S' → p e L' S') → Got (body L.clear S) p
theorem loop_of {n : Nat} {body : Loc → St → CRes} {L : Loc} {S : St} {c : CRes} (hc : iter n body L S = c) (Inv : Nat → Loc → St → Prop) (Q : Ex → Loc → St → Prop) (k : Nat) (hk : k < n) (h0 : Inv k L S)
  (step : Round body Inv Q) : ∃ e L' S', c = some (e, L', S') ∧ Q e L' S' := by
 subst hc
 induction n generalizing k L S with
 | zero => omega
 | succ n ih =>
  rw [iter_succ]
  have h := step k L S h0 (fun e L' S' => (e = .normal ∧ ∃ k', k' < k ∧ Inv k' L' S') ∨ (e ≠ .normal ∧ Q e L' S')) (fun k' L' S' h1 h2 => .inl ⟨rfl, k', h1, h2⟩) (fun e L' S' h1 h2 => .inr ⟨h1, h2⟩)
  obtain ⟨e, L', S', hb, h⟩ := got_iff.1 h
  rw [hb]
  rcases h with ⟨rfl, k', h1, h2⟩ | ⟨h1, h2⟩
  ·rw [thenC_normal]
   exact ih k' (by omega) h2
  ·refine ⟨e, L', S', ?_, h2⟩
   cases e <;> first | rfl | exact absurd rfl h1
def GotF (c : Option (FRes × St)) (p : FRes → St → Prop) : Prop :=
 match c with
 | some (r, S) => p r S
 | none => False
theorem GotF_some {r : FRes} {S : St} {p : FRes → St → Prop} : GotF (some (r, S)) p = p r S := rfl
theorem gotF_iff {c : Option (FRes × St)} {p : FRes → St → Prop} : GotF c p ↔ ∃ r S, c = some (r, S) ∧ p r S := by
 constructor
 ·intro h
  unfold GotF at h
  split at h
  ·exact ⟨_, _, rfl, h⟩
  ·exact h.elim
 ·rintro ⟨r, S, rfl, h⟩
  exact h
theorem Con.ok_at {P : Program} {E : Env} (H : EnvOk P E) (hE : GlobPers E) {c : Con} (cs : List Con) (hcs : ∀ d ∈ cs, d.Ok P E)
  (hp : ∀ x, c.dom x → AV.persL (c.enc x) = true ∧ (c.res x).pers = true)
  (h : ∀ x, c.dom x → ∃ n, ∀ p : FRes → St → Prop, (∀ r S', r.melt S' = c.res x → p r S') → GotF (callS E (sumOf cs) n (.fn c.f) (c.enc x) S0) p) : c.Ok P E :=
 Con.ok_of H hE hcs fun x hx => ⟨(hp x hx).1, (hp x hx).2, by
  obtain ⟨n, hn⟩ := h x hx
  obtain ⟨r, S', h1, h2⟩ := gotF_iff.1 (hn (fun r S' => r.melt S' = c.res x) (fun _ _ h => h))
  exact ⟨n, r, S', h1, h2⟩⟩
theorem callS_fn' {E : Env} {cs : List Con} {n : Nat} {f : FuncId} {args : List AV} {S : St} (hl : sumOf cs f (args.map AV.dead) = none) :
  callS E (sumOf cs) (n + 1) (.fn f) args S = fnA E (callS E (sumOf cs) n) (fun g a r T => dfA E (callS E (sumOf cs) n) (iter n) g a r T) (iter n) f args S := by
 simp only [callS]
 rw [hl]
theorem Con.look_none {c : Con} {a : List AV} (h : ∀ x, c.dom x → c.enc x ≠ a) : c.look a = none := by
 unfold Con.look
 rw [dif_neg]
 rintro ⟨x, h1, h2⟩
 exact h x h1 h2
theorem dead_of_pers : ∀ v : AV, v.pers = true → v.dead = v := by
 intro v
 refine AV.rec (motive_1 := fun v => v.pers = true → v.dead = v) (motive_2 := fun l => AV.persL l = true → AV.deadL l = l) ?_ ?_ ?_ ?_ ?_ ?_ ?_ ?_ ?_ ?_ ?_ ?_ ?_ ?_ ?_ ?_ ?_ ?_ ?_ ?_ ?_ ?_ ?_ v
 all_goals intros
 all_goals simp_all [AV.pers, AV.persL, AV.dead, AV.deadL]
 all_goals split at * <;> simp_all
theorem map_dead {l : List AV} (h : ∀ x ∈ l, x.dead = x) : l.map AV.dead = l := by
 induction l with
 | nil => rfl
 | cons a x ih => simp [h a (by simp), ih (fun y hy => h y (by simp [hy]))]
end Go.Vm
namespace Go.Vm
open Go
section
variable {E : Env} {call : CallF} {vars : List Tmp} {nt : Nat} {ops : List Oper} {S : St}
theorem map_snd_congr {ρ ρ' : Operand → AV} {l : List (Nat × Operand)} (h : ∀ x ∈ l.map (·.2), ρ x = ρ' x) : l.map (fun p => (p.1, ρ p.2)) = l.map (fun p => (p.1, ρ' p.2)) := by
 apply List.map_congr_left
 intro p hp
 rw [h p.2 (List.mem_map.2 ⟨p, hp, rfl⟩)]
theorem list_congr {ρ ρ' : Operand → AV} {l : List Operand} (h : ∀ x ∈ l, ρ x = ρ' x) : l.map ρ = l.map ρ' := List.map_congr_left h
theorem opt_congr {ρ ρ' : Operand → AV} {l : Option Operand} (h : ∀ x, l = some x → ρ x = ρ' x) : l.map ρ = l.map ρ' := by
 cases l with
 | none => rfl
 | some x => simp [h x rfl]
theorem read_congr {ρ ρ' : Operand → AV} {op : Op} (h : ∀ x ∈ op.operands.toList, ρ x = ρ' x) : readA E ρ S op = readA E ρ' S op := by
 cases op <;> first | rfl | (simp only [Op.operands] at h; simp only [readA]; simp_all)
theorem pure_congr {ρ ρ' : Operand → AV} {op : Op} (h : ∀ x ∈ op.operands.toList, ρ x = ρ' x) : pureA E ρ op = pureA E ρ' op := by
 cases op with
 | build t ps =>
  simp only [Op.operands] at h
  simp only [pureA]
  rw [map_snd_congr (ρ := ρ) (ρ' := ρ') (l := ps.toList) (by simpa using h)]
 | buildSlice t n ps =>
  simp only [Op.operands] at h
  simp only [pureA]
  rw [map_snd_congr (ρ := ρ) (ρ' := ρ') (l := ps.toList) (by simpa using h)]
 | makeFunc f a b =>
  simp only [Op.operands, Array.toList_append, List.mem_append] at h
  cases f with
  | func f =>
   simp only [pureA]
   rw [list_congr (ρ := ρ) (ρ' := ρ') (l := a.toList) (fun x hx => h x (.inl hx)), list_congr (ρ := ρ) (ρ' := ρ') (l := b.toList) (fun x hx => h x (.inr hx))]
  | method f =>
   simp only [pureA]
   rw [list_congr (ρ := ρ) (ρ' := ρ') (l := a.toList) (fun x hx => h x (.inl hx)), list_congr (ρ := ρ) (ρ' := ρ') (l := b.toList) (fun x hx => h x (.inr hx))]
  | _ => rfl
 | slice t x a b c =>
  simp only [Op.operands, Array.toList_append, List.mem_append] at h
  simp only [pureA]
  rw [h x (by simp), opt_congr (ρ := ρ) (ρ' := ρ') (l := a) (fun y hy => h y (by subst hy; simp)), opt_congr (ρ := ρ) (ρ' := ρ') (l := b) (fun y hy => h y (by subst hy; simp)),
   opt_congr (ρ := ρ) (ρ' := ρ') (l := c) (fun y hy => h y (by subst hy; simp))]
 | call c =>
  obtain ⟨cal, args, ts⟩ := c
  have ha : ∀ x ∈ args.toList, ρ x = ρ' x := by
   intro x hx
   apply h x
   simp only [Op.operands, Call.operands]
   cases cal <;> simp_all
  simp only [pureA]
  generalize args.toList = l at ha ⊢
  cases l with
  | nil => cases cal <;> first | rfl | (rename_i b; cases b <;> rfl)
  | cons x r =>
   have hx := ha x (by simp)
   have hr := list_congr (ρ := ρ) (ρ' := ρ') (l := r) (fun y hy => ha y (by simp [hy]))
   cases cal with
   | builtin b =>
    cases b <;> first
     | rfl
     | (cases r <;> first
       | rfl
       | (simp only [hx]; done)
       | (simp only [hx]; rw [hr]))
   | _ => cases r <;> rfl
 | _ => first | rfl | (simp only [Op.operands] at h; simp only [pureA]; simp_all)
theorem act_congr {ρ ρ' : Operand → AV} {op : Op} (h : ∀ x ∈ op.operands.toList, ρ x = ρ' x) : actA E call ρ S op = actA E call ρ' S op := by
 have hcall : ∀ c : Call, op.operands = c.operands → (∀ x ∈ c.args.toList, ρ x = ρ' x) ∧ (∀ f, c.callee = .value f → ρ f = ρ' f) ∧ (∀ f nm, c.callee = .invoke f nm → ρ f = ρ' f) := by
  intro c hc
  rw [hc] at h
  obtain ⟨cal, args, ts⟩ := c
  refine ⟨fun x hx => h x ?_, fun f hf => h f ?_, fun f nm hf => h f ?_⟩
  ·simp only [Call.operands]; cases cal <;> simp_all
  ·simp only at hf; subst hf; simp [Call.operands]
  ·simp only at hf; subst hf; simp [Call.operands]
 cases op with
 | makeMap t r => cases r <;> rfl
 | call c =>
  obtain ⟨h1, h2, h3⟩ := hcall c rfl
  simp only [actA]
  split <;> try rfl
  ·split <;> try rfl
   rename_i s x t u hl hts
   rw [h1 s (by rw [hl]; simp), h1 x (by rw [hl]; simp)]
  ·split <;> try rfl
   rename_i s x t u hl hts
   rw [h1 s (by rw [hl]; simp), h1 x (by rw [hl]; simp)]
  ·rename_i f nm hf
   rw [h3 f nm hf, list_congr h1]
  ·rename_i f hf
   rw [h2 f hf, list_congr h1]
 | defer c =>
  obtain ⟨h1, h2, _⟩ := hcall c rfl
  simp only [actA]
  split <;> try rfl
  rename_i f hf
  rw [h2 f hf, list_congr h1]
 | _ => first | rfl | (simp only [Op.operands] at h; simp only [actA]; simp_all)
theorem eff_congr {ρ ρ' : Operand → AV} {op : Op} (h : ∀ x ∈ op.operands.toList, ρ x = ρ' x) : effA E call ρ op S = effA E call ρ' op S := by
 unfold effA
 rw [pure_congr h, read_congr h, act_congr h]
theorem mask_eq {o : Oper} {L : Loc} : ∀ x ∈ o.op.operands.toList, maskE E vars (namesOf ops o) L x = evO E vars L x := by
 intro x hx
 cases x with
 | tmp t =>
  have : (namesOf ops o).contains t = true := by
   rw [List.contains_iff_mem]
   unfold namesOf
   simp only [List.mem_append, List.mem_filterMap]
   exact .inl (.inr ⟨.tmp t, hx, rfl⟩)
  simp only [maskE, evO]
  rw [if_pos this]
 | _ => rfl
theorem eff_mask {o : Oper} {L : Loc} : effA E call (maskE E vars (namesOf ops o) L) o.op S = effA E call (evO E vars L) o.op S := eff_congr mask_eq
theorem read_mask {o : Oper} {L : Loc} : readA E (maskE E vars (namesOf ops o) L) S o.op = readA E (evO E vars L) S o.op := read_congr mask_eq
/-- reads and acts that may come in either order -/
def incPairs (b : List Nat) (ops : List Oper) : List (Nat × Nat) :=
 ops.zipIdx.flatMap fun (r, i) => if opK r.op == .read then ops.zipIdx.filterMap fun (c, j) => if isState c && !comparable b i j then some (i, j) else none else []
/-- what is looked at once -/
def statics (ops : List Oper) : Option (List Nat × List (Nat × Nat)) :=
 let b := befL ops []
 let tau := (tauOf b ops.zipIdx []).map (·.2)
 if drawOk ops tau then some (tau, incPairs b ops) else none
def readsC (E : Env) (vars : List Tmp) (r c : Entry) : Bool :=
 match readA E (evO E vars r.L) c.S r.o.op, readA E (evO E vars r.L) c.S' r.o.op with
 | some v1, some v2 => AV.beq r.v v1 && AV.beq r.v v2
 | _, _ => false
def okC (E : Env) (vars : List Tmp) (ops : List Oper) (pairs : List (Nat × Nat)) (r c : Entry) : Bool :=
 !pairs.contains (r.i, c.i) || !(wantA vars ops r.o r.L == some true) || readsC E vars r c
def inPairs (pairs : List (Nat × Nat)) (i : Nat) : Bool := pairs.any fun p => p.1 == i || p.2 == i
def keepC (pairs : List (Nat × Nat)) (i : Nat) (x : Entry) (acc : List Entry) : List Entry := bif inPairs pairs i then x :: acc else acc
def checkC (E : Env) (vars : List Tmp) (ops : List Oper) (pairs : List (Nat × Nat)) (x : Entry) (acc : List Entry) : Bool :=
 !inPairs pairs x.i || acc.all fun y => okC E vars ops pairs x y && okC E vars ops pairs y x
def ifC : Bool → Option Out → Option Out
 | true, r => r
 | false, _ => none
structure DC where
 E : Env
 call : CallF
 vars : List Tmp
 nt : Nat
 ops : List Oper
 pairs : List (Nat × Nat)
abbrev KC := List Entry → Loc → St → Option Out
def effC (X : DC) (i : Nat) (o : Oper) (k : KC) (rest : List Nat) (acc : List Entry) (L : Loc) (S : St) : Option Eff → Option Out
 | some (.val v S') => ifC (checkC X.E X.vars X.ops X.pairs ⟨i, o, L, S, S', v⟩ acc) (k (keepC X.pairs i ⟨i, o, L, S, S', v⟩ acc) (L.putO X.vars o.dst v) S')
 | some (.pan v S') => if rest.all (behindPan X.E X.nt (befL X.ops []) X.ops i) then some (.pan v (forget X.vars X.ops L) S') else none
 | _ => none
def wantC (X : DC) (i : Nat) (o : Oper) (k : KC) (rest : List Nat) (acc : List Entry) (L : Loc) (S : St) : Bool → Option Bool → Option Out
 | true, some true => effC X i o k rest acc L S (effA X.E X.call (evO X.E X.vars L) o.op S)
 | true, some false => ifC (checkC X.E X.vars X.ops X.pairs ⟨i, o, L, S, S, nowhere⟩ acc) (k (keepC X.pairs i ⟨i, o, L, S, S, nowhere⟩ acc) (L.putO X.vars o.dst nowhere) S)
 | _, _ => none
def pickC (X : DC) (i : Nat) (k : KC) (rest : List Nat) (acc : List Entry) (L : Loc) (S : St) : Option Oper → Option Out
 | some o => wantC X i o k rest acc L S (inFrame X.nt o.dst) (wantA X.vars X.ops o L)
 | none => none
def runC (X : DC) : List Nat → KC
 | [], _, L, S => some (.ok L S)
 | i :: rest, acc, L, S => pickC X i (runC X rest) rest acc L S X.ops[i]?
/-- the entries of a walk are of the region -/
theorem runT_ops : ∀ {tau : List Nat} {L : Loc} {S : St} {es : List Entry} {e : TEnd}, runT E call vars nt ops tau L S = some (es, e) → ∀ x ∈ es, ops[x.i]? = some x.o
 | [], L, S, es, e, h, x, hx => by simp [runT] at h; obtain ⟨rfl, _⟩ := h; simp at hx
 | i :: rest, L, S, es, e, h, x, hx => by
  simp only [runT] at h
  split at h
  ·cases h
  ·rename_i o ho
   split at h
   ·split at h
    ·split at h
     ·rename_i v S' _
      split at h
      ·rename_i es' e' hr
       cases h
       rcases List.mem_cons.1 hx with rfl | hx
       ·exact ho
       ·exact runT_ops hr x hx
      ·cases h
     ·cases h; simp at hx
     ·cases h
    ·split at h
     ·rename_i es' e' hr
      cases h
      rcases List.mem_cons.1 hx with rfl | hx
      ·exact ho
      ·exact runT_ops hr x hx
     ·cases h
    ·cases h
   ·cases h
def stopC (X : DC) : TEnd → Option Out
 | .ok L S => some (.ok L S)
 | .pan v L S i rest => if rest.all (behindPan X.E X.nt (befL X.ops []) X.ops i) then some (.pan v (forget X.vars X.ops L) S) else none
/-- the pairs of which one is new -/
def newC (X : DC) : List Entry → List Entry → Bool
 | _, [] => true
 | acc, x :: es => checkC X.E X.vars X.ops X.pairs x acc && newC X (keepC X.pairs x.i x acc) es
theorem runC_eq (X : DC) : ∀ (tau : List Nat) (acc : List Entry) (L : Loc) (S : St), runC X tau acc L S =
  match runT X.E X.call X.vars X.nt X.ops tau L S with
  | some (es, e) => if newC X acc es then stopC X e else none
  | none => none
 | [], acc, L, S => by simp [runC, runT, newC, stopC]
 | i :: rest, acc, L, S => by
  simp only [runC, runT]
  cases ho : X.ops[i]? with
  | none => simp [pickC]
  | some o =>
   simp only [pickC]
   cases hf : inFrame X.nt o.dst with
   | false => simp [wantC]
   | true =>
    cases hw : wantA X.vars X.ops o L with
    | none => simp [wantC]
    | some bb =>
     cases bb with
     | false =>
      simp only [wantC, if_true]
      rw [runC_eq X rest]
      cases hr : runT X.E X.call X.vars X.nt X.ops rest (L.putO X.vars o.dst nowhere) S with
      | none => cases checkC X.E X.vars X.ops X.pairs ⟨i, o, L, S, S, nowhere⟩ acc <;> simp [ifC]
      | some q =>
       obtain ⟨es, e⟩ := q
       cases hc : checkC X.E X.vars X.ops X.pairs ⟨i, o, L, S, S, nowhere⟩ acc <;> simp [ifC, newC, hc]
     | true =>
      simp only [wantC, if_true]
      rw [eff_mask]
      cases he : effA X.E X.call (evO X.E X.vars L) o.op S with
      | none => simp [effC]
      | some ef =>
       cases ef with
       | val v S' =>
        simp only [effC]
        rw [runC_eq X rest]
        cases hr : runT X.E X.call X.vars X.nt X.ops rest (L.putO X.vars o.dst v) S' with
        | none => cases checkC X.E X.vars X.ops X.pairs ⟨i, o, L, S, S', v⟩ acc <;> simp [ifC]
        | some q =>
         obtain ⟨es, e⟩ := q
         cases hc : checkC X.E X.vars X.ops X.pairs ⟨i, o, L, S, S', v⟩ acc <;> simp [ifC, newC, hc]
       | pan v S' => simp [effC, newC, stopC]
       | dfr d => simp [effC]
       | rcv => simp [effC]
theorem inc_mem {b : List Nat} {i j : Nat} {r c : Oper} (hr : ops[i]? = some r) (hc : ops[j]? = some c) (hk : opK r.op = .read) : (incPairs b ops).contains (i, j) = (isState c && !comparable b i j) := by
 rw [Bool.eq_iff_iff, List.contains_iff_mem]
 unfold incPairs
 rw [List.mem_flatMap]
 constructor
 ·rintro ⟨⟨r', i'⟩, h1, h2⟩
  have h1' := (List.mem_zipIdx_iff_getElem?).1 h1
  simp only at h1' h2
  split at h2
  ·obtain ⟨⟨c', j'⟩, h3, h4⟩ := List.mem_filterMap.1 h2
   have h3' := (List.mem_zipIdx_iff_getElem?).1 h3
   simp only at h3' h4
   split at h4
   ·rename_i hcond
    cases h4
    rw [hc] at h3'
    cases h3'
    exact hcond
   ·cases h4
  ·cases h2
 ·intro h
  refine ⟨(r, i), (List.mem_zipIdx_iff_getElem?).2 hr, ?_⟩
  simp only [hk]
  refine List.mem_filterMap.2 ⟨(c, j), (List.mem_zipIdx_iff_getElem?).2 hc, ?_⟩
  simp only [h, if_true]
theorem inc_out {b : List Nat} {i j : Nat} (h : inPairs (incPairs b ops) i = false) : (incPairs b ops).contains (i, j) = false ∧ (incPairs b ops).contains (j, i) = false := by
 unfold inPairs at h
 rw [List.any_eq_false] at h
 constructor
 ·rw [Bool.eq_false_iff]
  intro k
  rw [List.contains_iff_mem] at k
  have := h _ k
  simp at this
 ·rw [Bool.eq_false_iff]
  intro k
  rw [List.contains_iff_mem] at k
  have := h _ k
  simp at this
def okB (E : Env) (vars : List Tmp) (ops : List Oper) (b : List Nat) (r c : Entry) : Bool := !isRead vars ops r || (!isState c.o || comparable b r.i c.i || readsSame E vars ops r c)
theorem okB_eq {b : List Nat} {r c : Entry} (hr : ops[r.i]? = some r.o) (hc : ops[c.i]? = some c.o) : okC E vars ops (incPairs b ops) r c = okB E vars ops b r c := by
 unfold okC okB isRead
 have hsame : readsC E vars r c = readsSame E vars ops r c := by
  unfold readsC readsSame
  rw [read_mask, read_mask]
  cases readA E (evO E vars r.L) c.S r.o.op <;> cases readA E (evO E vars r.L) c.S' r.o.op <;> rfl
 rw [hsame]
 by_cases hk : opK r.o.op = .read
 ·rw [inc_mem hr hc hk]
  simp only [hk]
  cases isState c.o <;> cases comparable b r.i c.i <;> cases (wantA vars ops r.o r.L == some true) <;> simp
 ·have h1 : (opK r.o.op == OpK.read) = false := by simpa using hk
  rw [h1]
  have h2 : (incPairs b ops).contains (r.i, c.i) = false := by
   rw [Bool.eq_false_iff]
   intro k
   rw [List.contains_iff_mem] at k
   unfold incPairs at k
   rw [List.mem_flatMap] at k
   obtain ⟨⟨r', i'⟩, h3, h4⟩ := k
   have h3' := (List.mem_zipIdx_iff_getElem?).1 h3
   simp only at h3' h4
   split at h4
   ·rename_i hread
    obtain ⟨⟨c', j'⟩, h5, h6⟩ := List.mem_filterMap.1 h4
    simp only at h6
    split at h6
    ·cases h6
     rw [hr] at h3'
     cases h3'
     rw [h1] at hread
     cases hread
    ·cases h6
   ·cases h4
  rw [h2]
  simp
theorem okC_out {b : List Nat} {r c : Entry} (h : inPairs (incPairs b ops) r.i = false ∨ inPairs (incPairs b ops) c.i = false) : okC E vars ops (incPairs b ops) r c = true := by
 unfold okC
 rcases h with h | h
 ·rw [(inc_out h (j := c.i)).1]; rfl
 ·rw [(inc_out h (j := r.i)).2]; rfl
theorem keepC_mem {b : List Nat} {x y : Entry} {acc : List Entry} : (∀ r ∈ keepC (incPairs b ops) x.i x acc, okC E vars ops (incPairs b ops) y r = true ∧ okC E vars ops (incPairs b ops) r y = true) ↔
  ((okC E vars ops (incPairs b ops) y x = true ∧ okC E vars ops (incPairs b ops) x y = true) ∧ ∀ r ∈ acc, okC E vars ops (incPairs b ops) y r = true ∧ okC E vars ops (incPairs b ops) r y = true) := by
 unfold keepC
 cases h : inPairs (incPairs b ops) x.i with
 | true => simp
 | false =>
  have h1 := okC_out (E := E) (vars := vars) (ops := ops) (r := y) (c := x) (.inr h)
  have h2 := okC_out (E := E) (vars := vars) (ops := ops) (r := x) (c := y) (.inl h)
  simp [h1, h2]
theorem checkC_iff {b : List Nat} {x : Entry} {acc : List Entry} : checkC E vars ops (incPairs b ops) x acc = true ↔ ∀ y ∈ acc, okC E vars ops (incPairs b ops) x y = true ∧ okC E vars ops (incPairs b ops) y x = true := by
 unfold checkC
 cases h : inPairs (incPairs b ops) x.i with
 | true => simp
 | false =>
  simp only [Bool.not_false, Bool.true_or, true_iff]
  intro y _
  exact ⟨okC_out (.inl h), okC_out (.inr h)⟩
theorem okC_self {b : List Nat} {x : Entry} (hx : ops[x.i]? = some x.o) : okC E vars ops (incPairs b ops) x x = true := by
 rw [okB_eq hx hx]
 unfold okB isRead isState
 cases opK x.o.op <;> simp
theorem newC_iff {X : DC} {b : List Nat} (hp : X.pairs = incPairs b X.ops) : ∀ {es acc : List Entry}, (∀ x ∈ es, X.ops[x.i]? = some x.o) → (newC X acc es = true ↔
  (∀ x ∈ es, ∀ y ∈ acc, okC X.E X.vars X.ops X.pairs x y = true ∧ okC X.E X.vars X.ops X.pairs y x = true) ∧ ∀ x ∈ es, ∀ y ∈ es, okC X.E X.vars X.ops X.pairs x y = true)
 | [], acc, _ => by simp [newC]
 | x :: es, acc, h => by
  have ih := newC_iff hp (es := es) (acc := keepC X.pairs x.i x acc) (fun y hy => h y (by simp [hy]))
  have hself := okC_self (E := X.E) (vars := X.vars) (b := b) (h x (by simp))
  simp only [newC, Bool.and_eq_true, ih]
  rw [hp]
  rw [checkC_iff]
  constructor
  ·rintro ⟨h1, h2, h3⟩
   refine ⟨fun z hz y hy => ?_, fun z hz y hy => ?_⟩
   ·rcases List.mem_cons.1 hz with rfl | hz
    ·exact h1 y hy
    ·exact (keepC_mem.1 (h2 z hz)).2 y hy
   ·rcases List.mem_cons.1 hz with e1 | hz' <;> rcases List.mem_cons.1 hy with e2 | hy'
    ·rw [e1, e2]; exact hself
    ·rw [e1]; exact (keepC_mem.1 (h2 y hy')).1.2
    ·rw [e2]; exact (keepC_mem.1 (h2 z hz')).1.1
    ·exact h3 z hz' y hy'
  ·rintro ⟨h1, h2⟩
   refine ⟨fun y hy => h1 x (by simp) y hy, fun z hz => keepC_mem.2 ⟨⟨h2 z (by simp [hz]) x (by simp), h2 x (by simp) z (by simp [hz])⟩, fun y hy => h1 z (by simp [hz]) y hy⟩, fun z hz y hy => h2 z (by simp [hz]) y (by simp [hy])⟩
/-- a region that draws -/
theorem draw_eq {tau : List Nat} {pairs : List (Nat × Nat)} (h : statics ops = some (tau, pairs)) (L : Loc) (S : St) : drawA E call vars nt ops L S = runC ⟨E, call, vars, nt, ops, pairs⟩ tau [] L S := by
 unfold statics at h
 simp only at h
 split at h
 ·rename_i hd
  cases h
  unfold drawA
  simp only [hd, if_true]
  rw [runC_eq]
  simp only
  cases hr : runT E call vars nt ops ((tauOf (befL ops []) ops.zipIdx []).map (·.2)) L S with
  | none => rfl
  | some q =>
   obtain ⟨es, e⟩ := q
   have hops := runT_ops hr
   have key : newC ⟨E, call, vars, nt, ops, incPairs (befL ops []) ops⟩ [] es = trOk E vars ops (befL ops []) es := by
    rw [Bool.eq_iff_iff, newC_iff (b := befL ops []) rfl hops]
    unfold trOk
    simp only [List.not_mem_nil, false_implies, implies_true, true_and]
    constructor
    ·intro h
     rw [List.all_eq_true]
     intro r hr
     have : ∀ c ∈ es, okB E vars ops (befL ops []) r c = true := fun c hc => by rw [← okB_eq (hops r hr) (hops c hc)]; exact h r hr c hc
     cases hi : isRead vars ops r with
     | false => rfl
     | true =>
      simp only [Bool.not_true, Bool.false_or]
      rw [List.all_eq_true]
      intro c hc
      have := this c hc
      unfold okB at this
      rw [hi] at this
      simpa using this
    ·intro h r hr c hc
     rw [okB_eq (hops r hr) (hops c hc)]
     rw [List.all_eq_true] at h
     have := h r hr
     unfold okB
     cases hi : isRead vars ops r with
     | false => rfl
     | true =>
      rw [hi] at this
      simp only [Bool.not_true, Bool.false_or] at this
      rw [List.all_eq_true] at this
      simpa using this c hc
   simp only [key]
   cases e with
   | ok L' S' => simp [stopC]
   | pan v L' S' i rest =>
    simp only [stopC]
    cases trOk E vars ops (befL ops []) es <;> simp
 ·cases h
end
section
variable {X : DC} {i : Nat} {k : KC} {rest : List Nat} {acc : List Entry} {L : Loc} {S S' : St} {o : Oper} {v : AV}
theorem runC_nil : runC X [] acc L S = some (.ok L S) := rfl
theorem runC_cons : runC X (i :: rest) acc L S = pickC X i (runC X rest) rest acc L S X.ops[i]? := rfl
theorem pickC_some : pickC X i k rest acc L S (some o) = wantC X i o k rest acc L S (inFrame X.nt o.dst) (wantA X.vars X.ops o L) := rfl
theorem wantC_tt : wantC X i o k rest acc L S true (some true) = effC X i o k rest acc L S (effA X.E X.call (evO X.E X.vars L) o.op S) := rfl
theorem wantC_tf : wantC X i o k rest acc L S true (some false) = ifC (checkC X.E X.vars X.ops X.pairs ⟨i, o, L, S, S, nowhere⟩ acc) (k (keepC X.pairs i ⟨i, o, L, S, S, nowhere⟩ acc) (L.putO X.vars o.dst nowhere) S) := rfl
theorem effC_val : effC X i o k rest acc L S (some (.val v S')) = ifC (checkC X.E X.vars X.ops X.pairs ⟨i, o, L, S, S', v⟩ acc) (k (keepC X.pairs i ⟨i, o, L, S, S', v⟩ acc) (L.putO X.vars o.dst v) S') := rfl
theorem effC_pan : effC X i o k rest acc L S (some (.pan v S')) = if rest.all (behindPan X.E X.nt (befL X.ops []) X.ops i) then some (.pan v (forget X.vars X.ops L) S') else none := rfl
theorem ifC_true {r : Option Out} : ifC true r = r := rfl
def wantD (vars : List Tmp) (w : Bool) (L : Loc) : Option Tmp → Option Bool
 | none => some false
 | some d => guardV w (L.get vars d)
theorem wantA_n {vars : List Tmp} {ops : List Oper} {dst : Option Tmp} {op : Op} {ty : TypeId} {pos : String} {aft : Array Edge} : wantA vars ops { dst := dst, op := op, type := ty, pos := pos, after := aft, guard := none } L = some true := rfl
theorem wantA_g {vars : List Tmp} {ops : List Oper} {dst : Option Tmp} {op : Op} {ty : TypeId} {pos : String} {aft : Array Edge} {j : Nat} {w : Bool} : wantA vars ops { dst := dst, op := op, type := ty, pos := pos, after := aft, guard := some (j, w) } L = wantD vars w L ((ops[j]?).bind (·.dst)) := by
 unfold wantA wantD guardV
 simp only
 cases (ops[j]?).bind (·.dst) with
 | none => rfl
 | some d => simp only; cases L.get vars d <;> rfl
theorem wantD_some {vars : List Tmp} {w : Bool} {d : Tmp} : wantD vars w L (some d) = guardV w (L.get vars d) := rfl
def readV (v : AV) : Option AV → Option AV → Bool
 | some a, some b => AV.beq v a && AV.beq v b
 | _, _ => false
theorem readsC_load {E : Env} {vars : List Tmp} {dst : Option Tmp} {t : TypeId} {a : Operand} {ty : TypeId} {pos : String} {aft : Array Edge} {g : Option (Nat × Bool)} {c : Entry} :
  readsC E vars ⟨i, { dst := dst, op := .load t a, type := ty, pos := pos, after := aft, guard := g }, L, S, S', v⟩ c = readV v (loadA E c.S t (evO E vars L a)) (loadA E c.S' t (evO E vars L a)) := by
 unfold readsC readV
 simp only [readA]
theorem readV_some {a b : AV} : readV v (some a) (some b) = (AV.beq v a && AV.beq v b) := rfl
end
def drawsOf : Code → List (Nat × Array Oper)
 | .region id ops true => [(id, ops)]
 | .loop c => drawsOf c
 | .seq a b | .cond _ a b | .rangeFunc _ _ a b => drawsOf a ++ drawsOf b
 | .block _ c | .scope c => drawsOf c
 | _ => []
/-- the regions of a function that draw, by number -/
def drA (f : Func) (k : Nat) : Nat × Array Oper := (drawsOf (f.body.getD .skip)).getD k (0, #[])
theorem evalC_drawS {X : Ctx} {L : Loc} {S : St} {id : Nat} {ops : Array Oper} {tau : List Nat} {pairs : List (Nat × Nat)} (h : statics ops.toList = some (tau, pairs)) :
  evalC X (.region id ops true) L S = outC (runC ⟨X.E, X.call, X.vars, X.nt, ops.toList, pairs⟩ tau [] L.clear S) := by
 rw [evalC_draw, draw_eq h]
end Go.Vm
namespace Go.Vm
open Go
theorem int_bne (a b : Int) : (a != b) = !decide (a = b) := rfl
theorem int_beq (a b : Int) : (a == b) = decide (a = b) := rfl
/-- a slice that may be appended to; its token, if it has one -/
def LiveT (S : St) (sz : Nat) (v : AV) (es : List AV) : Option Nat → Prop
 | none => (v = .nils ∧ es = []) ∨ v = .slice es .full
 | some j => v = .slice es (.tok j sz) ∧ S.get j = some (.tok false)
theorem LiveT.cases {S : St} {sz : Nat} {v : AV} {es : List AV} {T : Option Nat} (h : LiveT S sz v es T) : (v = .nils ∧ es = []) ∨ ∃ tk, v = .slice es tk := by
 cases T with
 | none =>
  rcases h with h | h
  ·exact .inl h
  ·exact .inr ⟨_, h⟩
 | some j => exact .inr ⟨_, h.1⟩
/-- all objects but one token are as they were -/
structure Kept (T : Option Nat) (S S' : St) : Prop where
 n : S.n ≤ S'.n
 get : ∀ k o, T ≠ some k → S.get k = some o → S'.get k = some o
 cells : ∀ k cs, S.cells? k = some cs → S'.cells? k = some cs
theorem LiveT.keep {S S' : St} {sz : Nat} {v : AV} {es : List AV} {T U : Option Nat} (h : LiveT S sz v es T) (k : Kept U S S') (hne : ∀ j, T = some j → U ≠ some j) : LiveT S' sz v es T := by
 cases T with
 | none => exact h
 | some j => exact ⟨h.1, k.get _ _ (hne j rfl) h.2⟩
theorem LiveT.lt {S : St} {sz : Nat} {v : AV} {es : List AV} {j : Nat} (h : LiveT S sz v es (some j)) : j < S.n := St.get_lt h.2
theorem append_T {E : Env} {S : St} {e : TypeId} {i : TI} (hown : E.own e = false) (hti : E.ti e = some i) (hsz : i.size ≠ 0) {v : AV} {es new : List AV} {T : Option Nat} (hl : LiveT S i.size v es T) (hes : headSz i.size es = true)
  (hc : (new.flatMap AV.cells).all (·.isCell) = true) (hn : new.all (fun v => v.cells.length = i.size) = true) (hne : new ≠ []) (hr : roomOk i (es.length + new.length) = true) :
  ∃ v' S', appendA E S e v new = some (v', S') ∧ LiveT S' i.size v' (es ++ new) (some S.n) ∧ S'.n = S.n + 1 ∧ Kept T S S' := by
 have keepPush : ∀ o, Kept T S (S.push o) := fun o => ⟨by rw [St.n_push]; omega, fun k x _ h => St.get_push_of S o h, fun k cs h => by
  rw [push_at, if_neg (by have := St.get_lt (cells?_inv h); omega)]; exact h⟩
 cases new with
 | nil => exact absurd rfl hne
 | cons x r =>
  cases T with
  | none =>
   rcases hl with ⟨rfl, rfl⟩ | rfl
   ·refine ⟨.slice (x :: r) (.tok S.n i.size), S.push (.tok false), ?_, ⟨by simp, St.get_push_self _ _⟩, St.n_push _ _, keepPush _⟩
    unfold appendA
    simp only [hti]
    rw [if_pos ⟨hc, hn, hsz⟩, if_neg (by rw [hown]; simp), if_pos (by simpa using hr)]
   ·refine ⟨.slice (es ++ x :: r) (.tok S.n i.size), S.push (.tok false), ?_, ⟨rfl, St.get_push_self _ _⟩, St.n_push _ _, keepPush _⟩
    unfold appendA
    simp only [hti]
    rw [if_pos ⟨hc, hn, hsz⟩]
    simp only [hes, hr, and_self, if_true, spend]
    rw [if_neg (by rintro ⟨h, _⟩; cases h)]
  | some j =>
   obtain ⟨rfl, hj⟩ := hl
   refine ⟨.slice (es ++ x :: r) (.tok S.n i.size), (S.put j (.tok true)).push (.tok false), ?_, ⟨rfl, ?_⟩, by rw [St.n_push, St.n_put], ⟨by rw [St.n_push, St.n_put]; omega, fun k o hk h => ?_, fun k cs h => ?_⟩⟩
   ·unfold appendA
    simp only [hti]
    rw [if_pos ⟨hc, hn, hsz⟩]
    simp only [hes, hr, and_self, if_true, spend, hj]
    rw [if_neg (by rintro ⟨h, _⟩; cases h)]
   ·exact St.get_push_self (S.put j (.tok true)) (.tok false)
   ·apply St.get_push_of
    rw [St.get_put_ne _ _ _ (fun e => hk (by rw [e]))]; exact h
   ·have hlt := St.get_lt (cells?_inv h)
    rw [push_at, if_neg (by rw [St.n_put]; omega)]
    rw [put_at _ _ _ _ (St.get_lt hj)]
    rw [if_neg (fun e => by subst e; rw [cells?_inv h] at hj; cases hj)]
    exact h
/-- the same, of one element more -/
theorem append_1 {E : Env} {S : St} {e : TypeId} {i : TI} (hown : E.own e = false) (hti : E.ti e = some i) (hsz : i.size ≠ 0) {v : AV} {es : List AV} {x : AV} {T : Option Nat} (hl : LiveT S i.size v es T) (hes : ∀ y ∈ es, y.cells.length = i.size)
  (hc : x.cells.all (·.isCell) = true) (hn : x.cells.length = i.size) (hr : roomOk i (es.length + 1) = true) :
  ∃ v' S', appendA E S e v [x] = some (v', S') ∧ LiveT S' i.size v' (es ++ [x]) (some S.n) ∧ S'.n = S.n + 1 ∧ Kept T S S' := by
 refine append_T hown hti hsz hl ?_ (by simpa using hc) (by simpa using hn) (by simp) (by simpa using hr)
 cases es with
 | nil => rfl
 | cons y r => simp [headSz, hes y (by simp)]
/-- the length of a slice that grows -/
theorem lenA_T {E : Env} {S : St} {t e : TypeId} {sz : Nat} {v : AV} {es : List AV} {T : Option Nat} (ht : E.desc t = some (.slice e)) (hl : LiveT S sz v es T) : lenA E t v = some (.int .i64 es.length) := by
 rcases hl.cases with ⟨rfl, rfl⟩ | ⟨tk, rfl⟩
 ·simp [lenA, ht]
 ·simp [lenA, ht]
theorem LiveT.put {S : St} {sz i : Nat} {v : AV} {es cs : List AV} {o : AO} {T : Option Nat} (h : LiveT S sz v es T) (hi : S.cells? i = some cs) : LiveT (S.put i o) sz v es T := by
 cases T with
 | none => exact h
 | some j =>
  refine ⟨h.1, ?_⟩
  rw [St.get_put_ne _ _ _ (fun e => by subst e; have := h.2; rw [cells?_inv hi] at this; cases this)]
  exact h.2
theorem cells_put {S : St} {i j : Nat} {cs ds : List AV} {o : AO} (hi : S.cells? i = some cs) (hj : S.cells? j = some ds) (hne : j ≠ i) : (S.put i o).cells? j = some ds := by
 rw [put_at _ _ _ _ (St.get_lt (cells?_inv hi)), if_neg hne]
 exact hj
/-- an older object, behind a new one that is filled -/
theorem cells_box {S : St} {j : Nat} {ds : List AV} {o o' : AO} (h : S.cells? j = some ds) : ((S.push o).put S.n o').cells? j = some ds := by
 have := St.get_lt (cells?_inv h)
 rw [put_at _ _ _ _ (by rw [n_push']; omega), if_neg (by omega), push_at, if_neg (by omega)]
 exact h
theorem cells_push {S : St} {j : Nat} {ds : List AV} {o : AO} (h : S.cells? j = some ds) : (S.push o).cells? j = some ds := by
 have := St.get_lt (cells?_inv h)
 rw [push_at, if_neg (by omega)]
 exact h
theorem cells_put_self {S : St} {i : Nat} {cs ds : List AV} (hi : S.cells? i = some cs) : (S.put i (.cells ds)).cells? i = some ds := by
 rw [put_at _ _ _ _ (St.get_lt (cells?_inv hi)), if_pos rfl]
 rfl
/-! values, one by one -/
theorem isCell_undef  : AV.undef.isCell = false := rfl
theorem known_undef  : AV.undef.known = false := rfl
theorem cells_undef  : AV.undef.cells = [AV.undef] := rfl
theorem isCell_bool (b : Bool) : (AV.bool b).isCell = true := rfl
theorem known_bool (b : Bool) : (AV.bool b).known = true := rfl
theorem cells_bool (b : Bool) : (AV.bool b).cells = [(AV.bool b)] := rfl
theorem isCell_int (k : IntKind) (z : Int) : (AV.int k z).isCell = true := rfl
theorem known_int (k : IntKind) (z : Int) : (AV.int k z).known = true := rfl
theorem cells_int (k : IntKind) (z : Int) : (AV.int k z).cells = [(AV.int k z)] := rfl
theorem isCell_str (l : List UInt8) : (AV.str l).isCell = true := rfl
theorem known_str (l : List UInt8) : (AV.str l).known = true := rfl
theorem cells_str (l : List UInt8) : (AV.str l).cells = [(AV.str l)] := rfl
theorem isCell_nilp  : AV.nilp.isCell = true := rfl
theorem known_nilp  : AV.nilp.known = true := rfl
theorem cells_nilp  : AV.nilp.cells = [AV.nilp] := rfl
theorem isCell_ptr (i o : Nat) : (AV.ptr i o).isCell = true := rfl
theorem known_ptr (i o : Nat) : (AV.ptr i o).known = true := rfl
theorem cells_ptr (i o : Nat) : (AV.ptr i o).cells = [(AV.ptr i o)] := rfl
theorem isCell_rptr (cs : List AV) : (AV.rptr cs).isCell = true := rfl
theorem known_rptr (cs : List AV) : (AV.rptr cs).known = true := rfl
theorem cells_rptr (cs : List AV) : (AV.rptr cs).cells = [(AV.rptr cs)] := rfl
theorem isCell_nils  : AV.nils.isCell = true := rfl
theorem known_nils  : AV.nils.known = true := rfl
theorem cells_nils  : AV.nils.cells = [AV.nils] := rfl
theorem isCell_slice (es : List AV) (tk : Tk) : (AV.slice es tk).isCell = true := rfl
theorem known_slice (es : List AV) (tk : Tk) : (AV.slice es tk).known = true := rfl
theorem cells_slice (es : List AV) (tk : Tk) : (AV.slice es tk).cells = [(AV.slice es tk)] := rfl
theorem isCell_rsl (i o l c : Nat) : (AV.rsl i o l c).isCell = true := rfl
theorem known_rsl (i o l c : Nat) : (AV.rsl i o l c).known = true := rfl
theorem cells_rsl (i o l c : Nat) : (AV.rsl i o l c).cells = [(AV.rsl i o l c)] := rfl
theorem isCell_nilm  : AV.nilm.isCell = true := rfl
theorem known_nilm  : AV.nilm.known = true := rfl
theorem cells_nilm  : AV.nilm.cells = [AV.nilm] := rfl
theorem isCell_map (i : Nat) : (AV.map i).isCell = true := rfl
theorem known_map (i : Nat) : (AV.map i).known = true := rfl
theorem cells_map (i : Nat) : (AV.map i).cells = [(AV.map i)] := rfl
theorem isCell_fn (f : FuncId) (a b : List AV) : (AV.fn f a b).isCell = true := rfl
theorem known_fn (f : FuncId) (a b : List AV) : (AV.fn f a b).known = true := rfl
theorem cells_fn (f : FuncId) (a b : List AV) : (AV.fn f a b).cells = [(AV.fn f a b)] := rfl
theorem isCell_yld (i : Nat) : (AV.yld i).isCell = true := rfl
theorem known_yld (i : Nat) : (AV.yld i).known = true := rfl
theorem cells_yld (i : Nat) : (AV.yld i).cells = [(AV.yld i)] := rfl
theorem isCell_nilf  : AV.nilf.isCell = true := rfl
theorem known_nilf  : AV.nilf.known = true := rfl
theorem cells_nilf  : AV.nilf.cells = [AV.nilf] := rfl
theorem isCell_iface (t : TypeId) (v : AV) : (AV.iface t v).isCell = true := rfl
theorem known_iface (t : TypeId) (v : AV) : (AV.iface t v).known = true := rfl
theorem cells_iface (t : TypeId) (v : AV) : (AV.iface t v).cells = [(AV.iface t v)] := rfl
theorem isCell_nili  : AV.nili.isCell = true := rfl
theorem known_nili  : AV.nili.known = true := rfl
theorem cells_nili  : AV.nili.cells = [AV.nili] := rfl
theorem isCell_agg (cs : List AV) : (AV.agg cs).isCell = false := rfl
theorem known_agg (cs : List AV) : (AV.agg cs).known = true := rfl
theorem cells_agg (cs : List AV) : (AV.agg cs).cells = cs := rfl
theorem isCell_tup (cs : List AV) : (AV.tup cs).isCell = false := rfl
theorem known_tup (cs : List AV) : (AV.tup cs).known = true := rfl
theorem cells_tup (cs : List AV) : (AV.tup cs).cells = [(AV.tup cs)] := rfl
section
variable {E : Env} {t e : TypeId} {n : Int} {k : IntKind}
theorem len_slice {es : List AV} {tk : Tk} (h : E.desc t = some (.slice e)) : lenA E t (.slice es tk) = some (.int .i64 es.length) := by simp [lenA, h]
theorem len_nils (h : E.desc t = some (.slice e)) : lenA E t .nils = some (.int .i64 0) := by simp [lenA, h]
theorem len_rsl {i o l c : Nat} (h : E.desc t = some (.slice e)) : lenA E t (.rsl i o l c) = some (.int .i64 l) := by simp [lenA, h]
theorem len_str {l : List UInt8} (h : E.desc t = some .string) : lenA E t (.str l) = some (.int .i64 l.length) := by simp [lenA, h]
theorem index_slice {es : List AV} {tk : Tk} {v : AV} {s : Nat} (h : E.desc t = some (.slice e)) (hs : E.size e = some s) (h0 : 0 ≤ n) (h1 : n < es.length) (hv : es[n.toNat]'(by omega) = v) (hl : v.cells.length = s) :
  indexAddrA E t (.slice es tk) (.int k n) = some (.rptr v.cells) := by
 have : es[n.toNat]? = some v := by rw [List.getElem?_eq_getElem (by omega), hv]
 simp only [indexAddrA, h, hs]
 rw [if_pos ⟨h0, h1⟩, this]
 simp only [hl, if_true]
end
/-! slices that are made by appending, and written to -/
def GrowL (B : Nat) (S : St) (v : AV) (cs : List AV) : Prop :=
 (v = .slice [] .lit ∧ cs = []) ∨ ∃ i, B ≤ i ∧ v = .rsl i 0 cs.length 0 ∧ cs ≠ [] ∧ S.cells? i = some cs ∧ S.get (i + 1) = some (.tok false)
structure OldB (B : Nat) (S S' : St) : Prop where
 n : S.n ≤ S'.n
 get : ∀ k o, k < B → S.get k = some o → S'.get k = some o
theorem OldB.refl (B : Nat) (S : St) : OldB B S S := ⟨Nat.le_refl _, fun _ _ _ h => h⟩
theorem OldB.trans {B : Nat} {S S' S'' : St} (h : OldB B S S') (k : OldB B S' S'') : OldB B S S'' := ⟨Nat.le_trans h.n k.n, fun i o hi x => k.get i o hi (h.get i o hi x)⟩
theorem OldB.cells {B : Nat} {S S' : St} (h : OldB B S S') {k : Nat} {cs : List AV} (hk : k < B) (x : S.cells? k = some cs) : S'.cells? k = some cs := by
 have := h.get k _ hk (cells?_inv x)
 unfold St.cells?
 rw [this]
theorem cells?_of_get {S : St} {k : Nat} {cs : List AV} (h : S.get k = some (.cells cs)) : S.cells? k = some cs := by
 unfold St.cells?
 rw [h]
theorem append_G {E : Env} {S : St} {e : TypeId} {i : TI} {B : Nat} (hti : E.ti e = some i) (hsz : i.size = 1) {v x : AV} {cs : List AV} (hl : GrowL B S v cs) (hB : B ≤ S.n) (hall : cs.all (·.isCell) = true) (hx : x.isCell = true) (hxc : x.cells = [x])
  (hr : roomOk i (cs.length + 1) = true) : ∃ v' S', appendA E S e v [x] = some (v', S') ∧ GrowL B S' v' (cs ++ [x]) ∧ OldB B S S' := by
 have hc : ([x].flatMap AV.cells).all (·.isCell) = true := by simp [hxc, hx]
 have hn : [x].all (fun v => v.cells.length = i.size) = true := by simp [hxc, hsz]
 rcases hl with ⟨rfl, rfl⟩ | ⟨j, hj, rfl, hne, hcs, ht⟩
 ·refine ⟨.rsl S.n 0 1 0, (S.push (.cells [x])).push (.tok false), ?_, .inr ⟨S.n, hB, rfl, by simp, ?_, ?_⟩, ⟨by rw [St.n_push, St.n_push]; omega, fun k o hk h => St.get_push_of _ _ (St.get_push_of _ _ h)⟩⟩
  ·unfold appendA
   simp only [hti]
   rw [if_pos ⟨hc, hn, by omega⟩, if_pos ⟨trivial, hsz⟩, if_pos ⟨rfl, by simpa using hr⟩]
   simp [hxc]
  ·exact cells?_of_get (St.get_push_of _ _ (St.get_push_self _ _))
  ·have := St.get_push_self (S.push (.cells [x])) (.tok false)
   rw [St.n_push] at this
   exact this
 ·have hlt := St.get_lt (cells?_inv hcs)
  have hlt2 := St.get_lt ht
  have hn2 : ((S.put j (.cells [])).put (j + 1) (.tok true)).n = S.n := by rw [St.n_put, St.n_put]
  have hpos : cs.length ≠ 0 := fun h => hne (List.length_eq_zero_iff.1 h)
  refine ⟨.rsl S.n 0 (cs.length + 1) 0, (((S.put j (.cells [])).put (j + 1) (.tok true)).push (.cells (cs ++ [x]))).push (.tok false), ?_, .inr ⟨S.n, hB, by simp, by simp, ?_, ?_⟩, ⟨by rw [St.n_push, St.n_push, hn2]; omega, fun k o hk h => ?_⟩⟩
  ·unfold appendA
   simp only [hti]
   rw [if_pos ⟨hc, hn, by omega⟩, if_neg (by simp), if_pos ⟨trivial, hpos⟩]
   simp only [hcs, ht]
   rw [if_pos ⟨trivial, hsz, by simp, trivial, hall, hr⟩]
   simp [hxc]
  ·have := St.get_push_self ((S.put j (.cells [])).put (j + 1) (.tok true)) (.cells (cs ++ [x]))
   rw [hn2] at this
   exact cells?_of_get (St.get_push_of _ _ this)
  ·have := St.get_push_self (((S.put j (.cells [])).put (j + 1) (.tok true)).push (.cells (cs ++ [x]))) (.tok false)
   rw [St.n_push, hn2] at this
   exact this
  ·apply St.get_push_of
   apply St.get_push_of
   rw [St.get_put_ne _ _ _ (by omega), St.get_put_ne _ _ _ (by omega)]
   exact h
theorem GrowL.len {E : Env} {B : Nat} {S : St} {v : AV} {cs : List AV} {t e : TypeId} (h : GrowL B S v cs) (hd : E.desc t = some (.slice e)) : lenA E t v = some (.int .i64 cs.length) := by
 rcases h with ⟨rfl, rfl⟩ | ⟨j, hj, rfl, _⟩
 ·exact len_slice hd
 ·exact len_rsl hd
theorem GrowL.cell {B : Nat} {S : St} {v : AV} {cs : List AV} (h : GrowL B S v cs) : v.isCell = true ∧ v.known = true ∧ v.cells = [v] := by
 rcases h with ⟨rfl, rfl⟩ | ⟨j, hj, rfl, _⟩ <;> exact ⟨rfl, rfl, rfl⟩
theorem GrowL.index {E : Env} {B : Nat} {S : St} {v : AV} {cs : List AV} {t e : TypeId} (h : GrowL B S v cs) (hd : E.desc t = some (.slice e)) (hs : E.size e = some 1) (hne : cs ≠ []) :
  ∃ j, B ≤ j ∧ v = .rsl j 0 cs.length 0 ∧ S.cells? j = some cs ∧ S.get (j + 1) = some (.tok false) ∧ ∀ n : Nat, n < cs.length → indexAddrA E t v (.int .i64 n) = some (.ptr j n) := by
 rcases h with ⟨_, rfl⟩ | ⟨j, hj, rfl, h1, h2, h3⟩
 ·exact absurd rfl hne
 ·refine ⟨j, hj, rfl, h2, h3, fun n hn => ?_⟩
  have h0 : (0 : Int) ≤ (n : Int) ∧ (n : Int) < (cs.length : Nat) := ⟨by omega, by omega⟩
  simp [indexAddrA, hd, hs, h0, hn]
theorem GrowL.put {B : Nat} {S : St} {j : Nat} {cs ds : List AV} (hj : B ≤ j) (h : S.cells? j = some cs) (ht : S.get (j + 1) = some (.tok false)) (hl : ds.length = cs.length) (hne : cs ≠ []) : GrowL B (S.put j (.cells ds)) (.rsl j 0 cs.length 0) ds ∧ OldB B S (S.put j (.cells ds)) := by
 refine ⟨.inr ⟨j, hj, by rw [hl], fun e => hne (by rw [e] at hl; exact List.length_eq_zero_iff.1 hl.symm), ?_, ?_⟩, ⟨by rw [St.n_put]; omega, fun k o hk x => ?_⟩⟩
 ·exact cells?_of_get (St.get_put_self _ _ _ (St.get_lt (cells?_inv h)))
 ·rw [St.get_put_ne _ _ _ (by omega)]; exact ht
 ·rw [St.get_put_ne _ _ _ (by omega)]; exact x
theorem GrowL.melt {B : Nat} {S : St} {v : AV} {cs : List AV} (h : GrowL B S v cs) (hall : cs.all (·.isCell) = true) : v.melt S = .slice (AV.deadL cs) .dead := by
 rcases h with ⟨rfl, rfl⟩ | ⟨j, hj, rfl, h1, h2, h3⟩
 ·rfl
 ·have h4 : cs.all AV.isCell = true := hall
  simp only [AV.melt, h2, Nat.zero_add, List.drop_zero, List.take_length]
  rw [if_pos ⟨Nat.le_refl _, .inr trivial, h4⟩]
theorem GrowL.old {B : Nat} {S S' : St} {v : AV} {cs : List AV} (h : GrowL B S v cs) (k : ∀ i o, S.get i = some o → S'.get i = some o) : GrowL B S' v cs := by
 rcases h with ⟨rfl, rfl⟩ | ⟨j, hj, rfl, h1, h2, h3⟩
 ·exact .inl ⟨rfl, rfl⟩
 ·exact .inr ⟨j, hj, rfl, h1, cells?_of_get (k _ _ (cells?_inv h2)), k _ _ h3⟩
end Go.Vm
