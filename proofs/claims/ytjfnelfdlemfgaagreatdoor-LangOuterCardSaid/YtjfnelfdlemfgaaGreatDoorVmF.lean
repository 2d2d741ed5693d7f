/-
Regions that draw an order. No conditions.
-/
import Derived.Test.YtjfnelfdlemfgaaGreatDoorVmE
import Derived.Orders
set_option linter.all false
set_option maxHeartbeats 4000000
namespace Go.Vm
open Go
variable {P : Program} {E : Env} {B : Nat} {h0 : World} {G : Gh} {S S' : St} {w : World}
mutual
theorem AV.beq_eq : ∀ (a b : AV), AV.beq a b = true → a = b
 | a, b => by
  intro h
  cases a <;> cases b <;> simp [AV.beq] at h <;> first
   | rfl
   | (subst h; rfl)
   | (obtain ⟨rfl, rfl⟩ := h; rfl)
   | (obtain ⟨⟨⟨rfl, rfl⟩, rfl⟩, rfl⟩ := h; rfl)
   | (have := AV.beqL_eq _ _ h; subst this; rfl)
   | (obtain ⟨h1, rfl⟩ := h; have := AV.beqL_eq _ _ h1; subst this; rfl)
   | (obtain ⟨h1, h2⟩ := h; have := AV.beqL_eq _ _ h1; have := AV.beqL_eq _ _ h2; subst_vars; rfl)
   | (obtain ⟨⟨rfl, h1⟩, h2⟩ := h; have := AV.beqL_eq _ _ h1; have := AV.beqL_eq _ _ h2; subst_vars; rfl)
   | (obtain ⟨rfl, h1⟩ := h; have := AV.beq_eq _ _ h1; subst this; rfl)
theorem AV.beqL_eq : ∀ (a b : List AV), AV.beqL a b = true → a = b
 | [], [] => fun _ => rfl
 | [], _ :: _ => by intro h; simp [AV.beqL] at h
 | _ :: _, [] => by intro h; simp [AV.beqL] at h
 | a :: x, b :: y => by
  intro h
  simp [AV.beqL] at h
  rw [AV.beq_eq a b h.1, AV.beqL_eq x y h.2]
end
/-- memory that is new -/
def News (P : Program) (G : Gh) (S S' : St) (v : AV) (r : Sem Next) (w : World) : Prop :=
 ∃ c cv e cs, r.run P w = .ok (.value c) { w with heap := w.heap.push (.cells cv e (0, 0)) } ∧ S' = S.push (.cells cs) ∧ Reps G cs cv.toList ∧ ∀ G', Gh.obj G' S.n = some (w.heap.size, 0) → Rep G' v c
theorem alloc_new (H : EnvOk P E) {ρc : Operand → Value} {o : Oper} {e : TypeId} {i : TI} (ho : o.op = .alloc e) (hi : E.ti e = some i) :
  News P G S (S.push (.cells i.zero)) (.ptr S.n 0) (execOp ρc o) w := by
 obtain ⟨z, hz, hzr, hzc, _⟩ := H.run_zero (w := w) hi
 refine ⟨.pointer (some ⟨w.heap.size, 0, none⟩), z.cells, e, _, ?_, rfl, hzc G, fun G' h => .ptr S.n 0 w.heap.size 0 h⟩
 simp [execOp, ho, Instr.alloc, hz, newVar, newRow]
theorem box_new {ρ : Operand → AV} {ρc : Operand → Value} (hρ : ∀ x, Rep G (ρ x) (ρc x)) {o : Oper} {e : TypeId} {x : Operand} (ho : o.op = .box e x) (hk : (ρ x).known = true) :
  News P G S (S.push (.cells (ρ x).cells)) (.ptr S.n 0) (execOp ρc o) w := by
 refine ⟨.pointer (some ⟨w.heap.size, 0, none⟩), (ρc x).cells, e, _, ?_, rfl, (hρ x).cells hk, fun G' h => .ptr S.n 0 w.heap.size 0 h⟩
 simp [execOp, ho, Instr.box, newVar, newRow]
theorem makeSlice_new (H : EnvOk P E) {ρ : Operand → AV} {ρc : Operand → Value} (hρ : ∀ x, Rep G (ρ x) (ρc x)) {o : Oper} {t e : TypeId} {l c : Operand} {i : TI} {k k' : IntKind} {n m : Int}
  (ho : o.op = .makeSlice t l c) (hd : E.desc t = some (.slice e)) (hi : E.ti e = some i) (hl : ρ l = .int k n) (hc : ρ c = .int k' m) (h1 : 0 ≤ n) (h2 : n ≤ m) (h3 : m * (i.bytes + 1) ≤ roomMost) :
  News P G S (S.push (.cells (repeatL m.toNat i.zero))) (.rsl S.n 0 n.toNat m.toNat) (execOp ρc o) w := by
 have hu := H.desc hd
 obtain ⟨z, hz, hzr, hzc, ie, q1, q2, q3, q4⟩ := H.run_zero (w := w) hi
 have hzl : i.zero.length = i.size := (H.ti e i hi).zl
 have hlc := hρ l
 have hcc := hρ c
 rw [hl] at hlc
 rw [hc] at hcc
 generalize hlv : ρc l = lv at hlc
 generalize hcv : ρc c = cv at hcc
 cases hlc
 cases hcc
 have h3' : m * ((i.bytes : Int) + 1) ≤ 1099511627776 := by simpa [roomMost] using h3
 have hm0 : 0 ≤ m := by omega
 have hmm : m * (i.bytes : Int) + m = m * ((i.bytes : Int) + 1) := by rw [Int.mul_add]; omega
 have hmb : 0 ≤ m * (i.bytes : Int) := Int.mul_nonneg hm0 (by omega)
 have hwl : IntKind.i64.wrap n = n := by
  unfold IntKind.wrap
  simp [IntKind.bits, IntKind.signed]
  omega
 have hwm : IntKind.i64.wrap m = m := by
  unfold IntKind.wrap
  simp [IntKind.bits, IntKind.signed]
  omega
 let cells : Array Value := (Array.range (m.toNat * i.size)).map ((if m.toNat * i.size = 0 then #[] else z.cells)[· % (if m.toNat * i.size = 0 then #[] else z.cells).size]!)
 have hcells : Reps G (repeatL m.toNat i.zero) cells.toList := by
  unfold repeatL
  by_cases h0 : m.toNat * i.size = 0
  ·simp only [cells, h0]
   have : ((List.replicate m.toNat i.zero).flatten) = [] := by
    apply List.eq_nil_of_length_eq_zero
    simp [hzl, h0]
   rw [this]
   simp
   exact Reps.nil G
  ·simp only [cells, h0, if_false]
   exact zeroRow (hzc G) hzl
 refine ⟨.slice (some ⟨w.heap.size, 0, none⟩) n.toNat m.toNat, cells, e, _, ?_, rfl, hcells, fun G' hobj => ?_⟩
 ·have hb : (ie.bytes : Int) * m ≤ 281474976710656 := by rw [q3, Int.mul_comm]; omega
  have e1 : ¬ (m < 0) := by omega
  have e2 : ¬ (281474976710656 < (ie.bytes : Int) * m) := by omega
  have e3 : ¬ (n < 0) := by omega
  have e4 : ¬ (m < n) := by omega
  by_cases h0 : m.toNat * i.size = 0
  ·simp [execOp, ho, hlv, hcv, Instr.makeSlice, run_und hu, asInt, asIntOf, hwl, hwm, typeInfo, q1, sizeOf, q2, e1, e2, e3, e4, newRow, h0, cells]
  ·simp [execOp, ho, hlv, hcv, Instr.makeSlice, run_und hu, asInt, asIntOf, hwl, hwm, typeInfo, q1, sizeOf, q2, e1, e2, e3, e4, newRow, h0, cells, hz]
 ·have := Rep.rsl (G := G') S.n 0 n.toNat m.toNat w.heap.size 0 hobj (by omega)
  simpa using this
theorem new_sound (H : EnvOk P E) {call : CallF} {ρ : Operand → AV} {ρc : Operand → Value} (hρ : ∀ x, Rep G (ρ x) (ρc x)) {o : Oper} {eff : Eff} (hk : opK o.op = .new) (h : effA E call ρ o.op S = some eff) :
  ∃ v S', eff = .val v S' ∧ News P G S S' v (execOp ρc o) w := by
 unfold effA at h
 rw [hk] at h
 simp only at h
 generalize hop : o.op = op at h hk
 cases op <;> simp [opK] at hk
 case alloc e =>
  simp only [actA] at h
  split at h
  ·rename_i i hi
   cases h
   exact ⟨_, _, rfl, alloc_new H hop hi⟩
  ·cases h
 case box e x =>
  simp only [actA] at h
  split at h
  ·rename_i hkn
   cases h
   exact ⟨_, _, rfl, box_new hρ hop hkn⟩
  ·cases h
 case makeSlice t l c =>
  simp only [actA] at h
  split at h
  ·rename_i e k n k' m h1 h2 h3
   split at h
   ·rename_i i hi
    split at h
    ·rename_i hc
     cases h
     exact ⟨_, _, rfl, makeSlice_new H hρ hop h1 hi h2 h3 hc.1 hc.2.1 hc.2.2⟩
    ·cases h
   ·cases h
  ·cases h
 case call c => split at hk <;> cases hk
theorem quiet_val {call : CallF} {ρ : Operand → AV} {op : Op} {eff : Eff} (h : effA E call ρ op S = some eff) (hk : opK op ≠ .act) (hn : opK op ≠ .new) : ∃ v, eff = .val v S := by
 unfold effA at h
 cases hh : opK op <;> simp [hh] at h hk hn
 ·split at h
  ·cases h; exact ⟨_, rfl⟩
  ·cases h
 ·split at h
  ·cases h; exact ⟨_, rfl⟩
  ·cases h
/-- memory that is set aside -/
theorem Inv.pushRes {ha h : Array Obj} (I : Inv E B ha G S h) {c : Array Value} {e : TypeId} :
  ∃ G', G.Le G' ∧ (∀ (j : Nat) x, c[j]? = some x → G'.own h.size j = .res x) ∧ (∀ b o, b ≠ h.size → G'.own b o = G.own b o) ∧ (∀ o, c[o]? = none → G'.own h.size o = .none) ∧ Inv E B ha G' S (h.push (.cells c e (0, 0))) := by
 let G' : Gh := { G with own := fun b o => if b = h.size then (match c[o]? with | some x => .res x | none => .none) else G.own b o }
 have hown : ∀ b o, b ≠ h.size → G'.own b o = G.own b o := fun b o hb => by simp [G', hb]
 have hnew : ∀ (j : Nat) x, c[j]? = some x → G'.own h.size j = .res x := fun j x hx => by simp [G', hx]
 have hle : G.Le G' := by
  refine ⟨⟨fun i x k => k, fun i x k => k, fun b o c k => ?_, rfl, rfl, fun _ _ k => k, fun b o c hb k => (by rw [hown _ _ (by have := I.low; have := I.size; omega)] at k; exact k)⟩, fun b o c k => ?_⟩
  ·have := own_lt I (b := b) (o := o) (by rw [k]; simp)
   rw [hown _ _ (by omega)]; exact k
  ·have := own_lt I (b := b) (o := o) (by rw [k]; simp)
   rw [hown _ _ (by omega)]; exact k
 refine ⟨G', hle, hnew, hown, fun o ho => by simp [G', ho], ?_⟩
 constructor
 ·intro b hb
  rw [getElem?_push_lt' (by have := I.size; omega)]; exact I.old b hb
 ·simp; have := I.size; omega
 ·intro b o x k
  by_cases hb : b = h.size
  ·subst hb
   simp only [G', if_true] at k
   split at k <;> cases k
  ·rw [hown _ _ hb] at k; rw [cl_push_old hb]; exact I.imm _ _ _ k
 ·intro b o x k
  by_cases hb : b = h.size
  ·subst hb
   simp only [G', if_true] at k
   split at k
   ·rename_i y hy
    cases k
    exact ⟨by rw [cl_push_new]; exact hy, fz_push_new, I.size⟩
   ·cases k
  ·rw [hown _ _ hb] at k; rw [cl_push_old hb, fz_push_old hb]; exact I.res _ _ _ k
 ·intro b o hb
  simp at hb
  rw [hown _ _ (by omega)]; exact I.fresh b o (by omega)
 ·intro b hb
  simp at hb
  exact I.freshB b (by omega)
 ·intro i o k
  refine ORel.frame hle.toLe0 (by simp) ?_ ?_ ?_ (I.objs i o k)
  ·intro b q j kk
   have := own_lt I (b := b) (o := q) (by rw [kk]; simp)
   exact ⟨by rw [hown _ _ (by omega)]; exact kk, cl_push_old (by omega), fz_push_old (by omega)⟩
  ·intro b q kk
   have := own_lt I (b := b) (o := q) (by rw [kk]; simp)
   exact ⟨by rw [hown _ _ (by omega)]; exact kk, fun c hc => ⟨c, by rw [cl_push_old (by omega)]; exact hc⟩, fz_push_old (by omega)⟩
  ·intro b kk
   have := blk_lt I kk
   exact ⟨kk, getElem?_push_lt' this⟩
 ·exact I.ids
 ·intro b i k
  obtain ⟨x, hx, hn⟩ := I.blkC b i k
  exact ⟨x, by rw [getElem?_push_lt' (blk_lt I k)]; exact hx, hn⟩
 ·exact I.rm
 ·intro b0 x0 k0
  obtain ⟨q1, q2, q3⟩ := I.ro b0 x0 k0
  have hlt0 := (Array.getElem?_eq_some_iff.1 q1).1
  first
   | exact ⟨q1, q2, q3⟩
   | exact ⟨by rw [getElem?_push_lt' hlt0]; exact q1, q2, q3⟩
   | exact ⟨by rw [getElem?_push_lt' hlt0]; exact q1, by simp only [G']; rw [if_neg (by omega)]; exact q2, q3⟩
   | exact ⟨by rw [W.blk q1 q3]; exact q1, q2, q3⟩
   | exact ⟨by rw [Array.getElem?_setIfInBounds_ne (fun e => by subst e; rw [hb] at q2; cases q2)]; exact q1, q2, q3⟩
 ·exact I.low
/-- and that is made an object -/
theorem Inv.commit {ha h : Array Obj} (I : Inv E B ha G S h) {b : Nat} {cs : List AV} {c : List Value} (hr : Reps G cs c) (hown : ∀ (j : Nat) x, c[j]? = some x → G.own b j = .res x) (hb : B ≤ b) :
  ∃ G', G.Le0 G' ∧ G'.obj S.n = some (b, 0) ∧ (∀ b' o, ¬ (b' = b ∧ o < c.length) → G'.own b' o = G.own b' o) ∧ Inv E B ha G' (S.push (.cells cs)) h := by
 let G' : Gh := { G with obj := fun i => if i = S.n then some (b, 0) else G.obj i, own := fun b' o => if b' = b ∧ o < c.length then .obj S.n o else G.own b' o }
 have hobj : G'.obj S.n = some (b, 0) := by simp [G']
 have hne : ∀ b' o, ¬ (b' = b ∧ o < c.length) → G'.own b' o = G.own b' o := fun b' o hb => by simp only [G']; rw [if_neg hb]
 have hres : ∀ b' o, (∀ x, G.own b' o ≠ .res x) → G'.own b' o = G.own b' o := by
  intro b' o hx
  by_cases hh : b' = b ∧ o < c.length
  ·obtain ⟨rfl, ho⟩ := hh
   exact absurd (hown o _ (List.getElem?_eq_getElem ho)) (hx _)
  ·simp only [G']; rw [if_neg hh]
 have hle : G.Le0 G' := by
  refine ⟨fun i x k => ?_, fun i x k => k, fun b o c k => ?_, rfl, rfl, fun _ _ k => k, fun b' o c _ k => (by simp only [G'] at k; split at k <;> first | exact k | cases k)⟩
  ·have := obj_lt I k
   simp only [G']; rw [if_neg (by omega)]; exact k
  ·rw [hres _ _ (by rw [k]; simp)]; exact k
 refine ⟨G', hle, hobj, hne, ?_⟩
 constructor
 ·exact I.old
 ·exact I.size
 ·intro b' o x k
  refine I.imm b' o x ?_
  simp only [G'] at k
  split at k
  ·cases k
  ·exact k
 ·intro b' o x k
  refine I.res b' o x ?_
  simp only [G'] at k
  split at k
  ·cases k
  ·exact k
 ·intro b' o hb'
  rw [hres _ _ (fun x hx => by rw [I.fresh b' o hb'] at hx; cases hx)]; exact I.fresh b' o hb'
 ·exact I.freshB
 ·intro i o k
  by_cases hi : i = S.n
  ·subst hi
   rw [St.get_push_self] at k
   cases k
   refine ⟨b, 0, hobj, hb, fun j x hx => ?_⟩
   obtain ⟨y, hy, hxy⟩ := hr.getElem hx
   have hj : j < c.length := by
    rcases Nat.lt_or_ge j c.length with h | h
    ·exact h
    ·rw [List.getElem?_eq_none h] at hy; cases hy
   obtain ⟨k1, k2, _⟩ := I.res b j y (hown j y hy)
   refine ⟨by simp [G', hj], ⟨y, by simpa using k1, hxy.mono hle⟩, by simpa using k2⟩
  ·rw [St.get_push_ne _ _ hi] at k
   refine ORel.frame hle (Nat.le_refl _) ?_ ?_ ?_ (I.objs i o k)
   ·intro b q j kk
    exact ⟨by rw [hres _ _ (by rw [kk]; simp)]; exact kk, rfl, rfl⟩
   ·intro b q kk
    exact ⟨by rw [hres _ _ (by rw [kk]; simp)]; exact kk, fun c hc => ⟨c, hc⟩, rfl⟩
   ·intro b kk
    exact ⟨kk, rfl⟩
 ·intro i hi
  rw [St.n_push] at hi
  obtain ⟨h1, h2⟩ := I.ids i (by omega)
  exact ⟨by simp only [G']; rw [if_neg (by omega)]; exact h1, h2⟩
 ·exact I.blkC
 ·exact I.rm
 ·intro b0 x0 k0
  obtain ⟨q1, q2, q3⟩ := I.ro b0 x0 k0
  have hlt0 := (Array.getElem?_eq_some_iff.1 q1).1
  first
   | exact ⟨q1, q2, q3⟩
   | exact ⟨by rw [getElem?_push_lt' hlt0]; exact q1, q2, q3⟩
   | exact ⟨by rw [getElem?_push_lt' hlt0]; exact q1, by simp only [G']; rw [if_neg (by omega)]; exact q2, q3⟩
   | exact ⟨by rw [W.blk q1 q3]; exact q1, q2, q3⟩
   | exact ⟨by rw [Array.getElem?_setIfInBounds_ne (fun e => by subst e; rw [hb] at q2; cases q2)]; exact q1, q2, q3⟩
 ·exact I.low
/-! orders -/
theorem befOf_bit (done : List Nat) (j : Nat) : ∀ (l : List Edge) (s : Nat), (l.foldl (fun s e => if Region.binds .any e then s ||| 2 ^ e.on ||| done.getD e.on 0 else s) s).testBit j = true →
  s.testBit j = true ∨ ∃ e ∈ l, Region.binds .any e = true ∧ (e.on = j ∨ (done.getD e.on 0).testBit j = true)
 | [], s, h => .inl h
 | e :: l, s, h => by
  rw [List.foldl_cons] at h
  rcases befOf_bit done j l _ h with h | ⟨e', he', h1, h2⟩
  ·split at h
   ·rename_i hb
    simp only [Nat.testBit_or, Bool.or_eq_true, Nat.testBit_two_pow, decide_eq_true_eq] at h
    rcases h with (h | h) | h
    ·exact .inl h
    ·exact .inr ⟨e, by simp, hb, .inl h⟩
    ·exact .inr ⟨e, by simp, hb, .inr h⟩
   ·exact .inl h
  ·exact .inr ⟨e', by simp [he'], h1, h2⟩
theorem befL_get : ∀ (ops : List Oper) (done : List Nat), (befL ops done).length = done.length + ops.length ∧ (∀ k, k < done.length → (befL ops done).getD k 0 = done.getD k 0) ∧
  ∀ k o, ops[k]? = some o → ∃ pre : List Nat, pre.length = done.length + k ∧ (∀ j, j < pre.length → pre.getD j 0 = (befL ops done).getD j 0) ∧ (befL ops done).getD (done.length + k) 0 = befOf pre o
 | [], done => ⟨by simp [befL], fun k _ => rfl, fun k o h => by simp at h⟩
 | o :: r, done => by
  obtain ⟨h1, h2, h3⟩ := befL_get r (done ++ [befOf done o])
  have hd : (done ++ [befOf done o]).length = done.length + 1 := by simp
  refine ⟨by rw [befL, h1, hd]; simp; omega, fun k hk => ?_, fun k o' ho => ?_⟩
  ·rw [befL, h2 k (by omega)]
   simp [List.getD_eq_getElem?_getD, List.getElem?_append_left hk]
  ·cases k with
   | zero =>
    simp at ho
    subst ho
    refine ⟨done, by simp, fun j hj => ?_, ?_⟩
    ·rw [befL, h2 j (by omega)]
     simp [List.getD_eq_getElem?_getD, List.getElem?_append_left hj]
    ·rw [befL, Nat.add_zero, h2 done.length (by omega)]
     simp
   | succ k =>
    simp at ho
    obtain ⟨pre, k1, k2, k3⟩ := h3 k o' ho
    refine ⟨pre, by rw [k1, hd]; omega, fun j hj => by rw [befL]; exact k2 j hj, ?_⟩
    rw [befL, ← k3, hd]; congr 1; omega
theorem bef_spec {ops : List Oper} {i j : Nat} {o : Oper} (ho : ops[i]? = some o) (h : bef (befL ops []) j i = true) :
  ∃ e ∈ o.after, Region.binds .any e = true ∧ (e.on = j ∨ (e.on < i ∧ bef (befL ops []) j e.on = true)) := by
 obtain ⟨_, _, h3⟩ := befL_get ops []
 obtain ⟨pre, k1, k2, k3⟩ := h3 i o ho
 simp only [List.length_nil, Nat.zero_add] at k1 k3
 unfold bef at h
 rw [k3] at h
 unfold befOf at h
 rcases befOf_bit pre j _ _ h with h | ⟨e, he, h1, h2⟩
 ·simp at h
 ·refine ⟨e, by simpa using he, h1, ?_⟩
  rcases h2 with h2 | h2
  ·exact .inl h2
  ·refine .inr ?_
   have hlt : e.on < pre.length := by
    rcases Nat.lt_or_ge e.on pre.length with h | h
    ·exact h
    ·simp [List.getD_eq_getElem?_getD, List.getElem?_eq_none h] at h2
   exact ⟨by omega, by unfold bef; rw [← k2 _ hlt]; exact h2⟩
theorem leanOk_spec {b : List Nat} {ops : List Oper} {i : Nat} : ∀ (q : List Nat) (ahead : List Nat) (j : Nat) (r : List Nat) (y : Oper), leanOk b ops i ahead (q ++ j :: r) = true → ops[j]? = some y → opK y.op = .new → bef b j i = true →
  (∀ k ∈ ahead, bef b k i = true) ∧ ∀ k ∈ q, ∀ z, ops[k]? = some z → isState z = true → bef b k i = true
 | [], ahead, j, r, y, h, hy, hn, hb => by
  simp only [List.nil_append, leanOk, hy, hn, hb, Bool.and_eq_true] at h
  simp at h
  exact ⟨h.1, by simp⟩
 | k :: q, ahead, j, r, y, h, hy, hn, hb => by
  simp only [List.cons_append, leanOk, Bool.and_eq_true] at h
  obtain ⟨h1, h2⟩ := leanOk_spec q _ j r y h.2 hy hn hb
  cases hk : ops[k]? with
  | none => rw [hk] at h; simp at h
  | some z =>
   rw [hk] at h1
   simp only at h1
   refine ⟨fun x hx => h1 x (by split <;> simp [hx]), fun x hx z' hz' hs => ?_⟩
   rcases List.mem_cons.1 hx with rfl | hx
   ·rw [hk] at hz'
    cases hz'
    exact h1 x (by rw [if_pos hs]; simp)
   ·exact h2 x hx z' hz' hs
theorem tauOk_spec {b : List Nat} {ops : List Oper} : ∀ (p : List Nat) (done : List Nat) (i : Nat) (s : List Nat), tauOk b ops done (p ++ i :: s) = true →
  ∃ x, ops[i]? = some x ∧ quietOp x.op = true ∧ (∀ j ∈ done ++ p, ∃ y, ops[j]? = some y ∧ pairOk b ops j y i x = true) ∧ (opK x.op = .act ∨ leanOk b ops i [] (done ++ p) = true)
 | [], done, i, s, h => by
  simp only [List.nil_append, tauOk, Bool.and_eq_true] at h
  cases hx : ops[i]? with
  | none => rw [hx] at h; simp at h
  | some x =>
   rw [hx] at h
   simp only [Bool.and_eq_true, Bool.or_eq_true, List.all_eq_true, beq_iff_eq] at h
   refine ⟨x, rfl, h.1.1.1, fun j hj => ?_, by simpa using h.1.2⟩
   have := h.1.1.2 j (by simpa using hj)
   cases hy : ops[j]? with
   | none => rw [hy] at this; simp at this
   | some y => rw [hy] at this; exact ⟨y, rfl, this⟩
 | k :: p, done, i, s, h => by
  simp only [List.cons_append, tauOk, Bool.and_eq_true] at h
  have := tauOk_spec p (done ++ [k]) i s h.2
  simpa using this
end Go.Vm
namespace Go.Vm
open Go
variable {P : Program} {E : Env} {B : Nat} {h0 : World} {G : Gh} {S S' : St} {w : World}
def AV.Le (x y : AV) : Prop := x = .undef ∨ x = y
theorem AV.Le.refl (x : AV) : x.Le x := .inr rfl
theorem AV.Le.trans {x y z : AV} (h : x.Le y) (k : y.Le z) : x.Le z := by
 rcases h with rfl | rfl
 ·exact .inl rfl
 ·exact k
theorem Rep.le {x y : AV} {c : Value} (h : x.Le y) (k : Rep G y c) : Rep G x c := by
 rcases h with rfl | rfl
 ·exact .undef c
 ·exact k
def Tra (E : Env) (call : CallF) (vars : List Tmp) (nt : Nat) (ops : List Oper) : List Entry → Loc → St → Loc → St → Prop
 | [], L, S, L', S' => L' = L ∧ S' = S
 | e :: es, L, S, L', S' => ops[e.i]? = some e.o ∧ inFrame nt e.o.dst = true ∧ e.L = L ∧ e.S = S ∧
   ((wantA vars ops e.o e.L = some true ∧ effA E call (maskE E vars (namesOf ops e.o) e.L) e.o.op e.S = some (.val e.v e.S')) ∨ (wantA vars ops e.o e.L = some false ∧ e.v = nowhere ∧ e.S' = e.S)) ∧
   Tra E call vars nt ops es (L.putO vars e.o.dst e.v) e.S' L' S'
def PanAt (E : Env) (call : CallF) (vars : List Tmp) (nt : Nat) (ops : List Oper) (i : Nat) (L' : Loc) (S1 : St) (v : AV) (S' : St) : Prop :=
 ∃ o, ops[i]? = some o ∧ inFrame nt o.dst = true ∧ wantA vars ops o L' = some true ∧ effA E call (maskE E vars (namesOf ops o) L') o.op S1 = some (.pan v S')
section
variable {call : CallF} {vars : List Tmp} {nt : Nat} {ops : List Oper}
theorem runT_tra : ∀ (τ : List Nat) (L : Loc) (S : St) (es : List Entry) (en : TEnd), runT E call vars nt ops τ L S = some (es, en) →
  match en with
  | .ok L' S' => τ = es.map (·.i) ∧ Tra E call vars nt ops es L S L' S'
  | .pan v L' S' i rest => ∃ S1, τ = es.map (·.i) ++ i :: rest ∧ Tra E call vars nt ops es L S L' S1 ∧ PanAt E call vars nt ops i L' S1 v S'
 | [], L, S, es, en, h => by
  simp only [runT] at h
  cases h
  exact ⟨rfl, rfl, rfl⟩
 | i :: τ, L, S, es, en, h => by
  unfold runT at h
  split at h
  ·cases h
  ·rename_i o ho
   split at h
   ·rename_i hin
    split at h
    ·rename_i hw
     split at h
     ·rename_i v S1 he
      split at h
      ·rename_i es1 en1 hr
       cases h
       have := runT_tra τ _ _ _ _ hr
       cases en with
       | ok L' S' => exact ⟨by simp [this.1], ho, hin, rfl, rfl, .inl ⟨hw, he⟩, this.2⟩
       | pan v' L' S' j rest =>
        obtain ⟨S2, h1, h2, h3⟩ := this
        exact ⟨S2, by simp [h1], ⟨ho, hin, rfl, rfl, .inl ⟨hw, he⟩, h2⟩, h3⟩
      ·cases h
     ·rename_i v S1 he
      cases h
      exact ⟨S, rfl, ⟨rfl, rfl⟩, o, ho, hin, hw, he⟩
     ·cases h
    ·rename_i hw
     split at h
     ·rename_i es1 en1 hr
      cases h
      have := runT_tra τ _ _ _ _ hr
      cases en with
      | ok L' S' => exact ⟨by simp [this.1], ho, hin, rfl, rfl, .inr ⟨hw, rfl, rfl⟩, this.2⟩
      | pan v' L' S' j rest =>
       obtain ⟨S2, h1, h2, h3⟩ := this
       exact ⟨S2, by simp [h1], ⟨ho, hin, rfl, rfl, .inr ⟨hw, rfl, rfl⟩, h2⟩, h3⟩
     ·cases h
    ·cases h
   ·cases h
theorem tra_append : ∀ (p s : List Entry) (L : Loc) (S : St) (L' : Loc) (S' : St), Tra E call vars nt ops (p ++ s) L S L' S' → ∃ L1 S1, Tra E call vars nt ops p L S L1 S1 ∧ Tra E call vars nt ops s L1 S1 L' S'
 | [], s, L, S, L', S', h => ⟨L, S, ⟨rfl, rfl⟩, h⟩
 | e :: p, s, L, S, L', S', h => by
  obtain ⟨h1, h2, h3, h4, h5, h6⟩ := h
  obtain ⟨L1, S1, k1, k2⟩ := tra_append p s _ _ _ _ h6
  exact ⟨L1, S1, ⟨h1, h2, h3, h4, h5, k1⟩, k2⟩
def endS : St → List Entry → St
 | S, [] => S
 | _, e :: es => endS e.S' es
theorem endS_append : ∀ (p s : List Entry) (S : St), endS S (p ++ s) = endS (endS S p) s
 | [], _, _ => rfl
 | e :: p, s, _ => endS_append p s e.S'
theorem tra_endS : ∀ (es : List Entry) (L : Loc) (S : St) (L' : Loc) (S' : St), Tra E call vars nt ops es L S L' S' → S' = endS S es
 | [], _, _, _, _, h => h.2
 | _ :: es, _, _, _, _, h => tra_endS es _ _ _ _ h.2.2.2.2.2
def fv (f : Entry → AV) (D : Nat → Bool) (t : Tmp) : List Entry → AV → AV
 | [], x => x
 | e :: es, x => fv f D t es (if D e.i = true ∧ e.o.dst = some t then f e else x)
def allT : Nat → Bool := fun _ => true
theorem fv_append (f : Entry → AV) (D : Nat → Bool) (t : Tmp) : ∀ (p s : List Entry) (x : AV), fv f D t (p ++ s) x = fv f D t s (fv f D t p x)
 | [], _, _ => rfl
 | _ :: p, s, _ => fv_append f D t p s _
theorem fv_congr {f f' : Entry → AV} {D D' : Nat → Bool} {t : Tmp} : ∀ {l : List Entry} (x : AV), (∀ y ∈ l, y.o.dst = some t → D y.i = D' y.i ∧ (D y.i = true → f y = f' y)) → fv f D t l x = fv f' D' t l x
 | [], x, _ => rfl
 | e :: l, x, h => by
  simp only [fv]
  have he : (if D e.i = true ∧ e.o.dst = some t then f e else x) = (if D' e.i = true ∧ e.o.dst = some t then f' e else x) := by
   by_cases hd : e.o.dst = some t
   ·obtain ⟨h1, h2⟩ := h e (by simp) hd
    by_cases hD : D e.i = true
    ·rw [if_pos ⟨hD, hd⟩, if_pos ⟨by rw [← h1]; exact hD, hd⟩]; exact h2 hD
    ·rw [if_neg (fun q => hD q.1), if_neg (fun q => hD (by rw [h1]; exact q.1))]
   ·rw [if_neg (fun q => hd q.2), if_neg (fun q => hd q.2)]
  rw [he]
  exact fv_congr _ fun y hy => h y (by simp [hy])
theorem fv_none {f : Entry → AV} {D : Nat → Bool} {t : Tmp} : ∀ {l : List Entry} (x : AV), (∀ y ∈ l, y.o.dst = some t → D y.i = false) → fv f D t l x = x
 | [], x, _ => rfl
 | e :: l, x, h => by
  simp only [fv]
  rw [if_neg (fun q => by have := h e (by simp) q.2; rw [this] at q; exact absurd q.1 (by simp))]
  exact fv_none x fun y hy => h y (by simp [hy])
theorem fv_cases {f : Entry → AV} {D : Nat → Bool} {t : Tmp} : ∀ (l : List Entry), (∀ x y, fv f D t l x = fv f D t l y) ∨ (∀ x, fv f D t l x = x)
 | [] => .inr fun _ => rfl
 | e :: l => by
  rcases fv_cases (f := f) (D := D) (t := t) l with h | h
  ·exact .inl fun x y => h _ _
  ·by_cases he : D e.i = true ∧ e.o.dst = some t
   ·exact .inl fun x y => by simp [fv, he]
   ·refine .inr fun x => ?_
    simp only [fv, if_neg he]
    exact h x
theorem fv_le {f : Entry → AV} {D : Nat → Bool} {t : Tmp} (l : List Entry) {x y : AV} (h : x.Le y) : (fv f D t l x).Le (fv f D t l y) := by
 rcases fv_cases (f := f) (D := D) (t := t) l with hh | hh
 ·exact .inr (hh x y)
 ·rw [hh, hh]; exact h
theorem get_putO_le {L : Loc} {dst : Option Tmp} {v : AV} {t : Tmp} : ((L.putO vars dst v).get vars t).Le (if dst = some t then v else L.get vars t) := by
 cases dst with
 | none => exact .inr (by simp [Loc.putO])
 | some d =>
  by_cases h : d = t
  ·subst h
   rw [if_pos rfl]
   show ((L.put vars d v).get vars d).Le v
   unfold Loc.put Loc.get
   cases ht : idx vars d with
   | none => simp [look, AV.Le]
   | some k =>
    simp only
    by_cases hk : k < L.vals.length
    ·simp [hk, AV.Le]
    ·have : (L.vals.set k v)[k]? = none := by rw [List.getElem?_eq_none]; simp; omega
     simp [this, AV.Le]
  ·rw [if_neg (by simpa using h)]
   exact .inr (get_put_ne (Ne.symm h))
theorem tra_get (t : Tmp) : ∀ (es : List Entry) (L : Loc) (S : St) (L' : Loc) (S' : St), Tra E call vars nt ops es L S L' S' → (L'.get vars t).Le (fv (·.v) allT t es (L.get vars t))
 | [], L, S, L', S', h => by rw [h.1]; exact .refl _
 | e :: es, L, S, L', S', h => by
  refine (tra_get t es _ _ _ _ h.2.2.2.2.2).trans ?_
  simp only [fv, allT, true_and]
  exact fv_le es get_putO_le
theorem tra_mem {es : List Entry} : ∀ {L : Loc} {S : St} {L' : Loc} {S' : St}, Tra E call vars nt ops es L S L' S' → ∀ y ∈ es, ops[y.i]? = some y.o ∧ inFrame nt y.o.dst = true ∧
  ((wantA vars ops y.o y.L = some true ∧ effA E call (maskE E vars (namesOf ops y.o) y.L) y.o.op y.S = some (.val y.v y.S')) ∨ (wantA vars ops y.o y.L = some false ∧ y.v = nowhere ∧ y.S' = y.S)) := by
 induction es with
 | nil => intro L S L' S' _ y hy; cases hy
 | cons e es ih =>
  intro L S L' S' h y hy
  rcases List.mem_cons.1 hy with hE | hy
  ·rw [hE]; exact ⟨h.1, h.2.1, h.2.2.2.2.1⟩
  ·exact ih h.2.2.2.2.2 y hy
theorem quietS {y : Entry} (h : (wantA vars ops y.o y.L = some true ∧ effA E call (maskE E vars (namesOf ops y.o) y.L) y.o.op y.S = some (.val y.v y.S')) ∨ (wantA vars ops y.o y.L = some false ∧ y.v = nowhere ∧ y.S' = y.S))
  (hs : isState y.o = false) : y.S' = y.S := by
 rcases h with ⟨_, h⟩ | ⟨_, _, h⟩
 ·unfold isState at hs
  simp only [Bool.or_eq_false_iff, beq_eq_false_iff_ne] at hs
  obtain ⟨v, hv⟩ := quiet_val h hs.2 hs.1
  injection hv
 ·exact h
end
/-! what is fixed -/
structure Stat (ops : List Oper) (τ : List Nat) : Prop where
 spec : ∀ p i s, τ = p ++ i :: s → ∃ x, ops[i]? = some x ∧ quietOp x.op = true ∧ (∀ j ∈ p, ∃ y, ops[j]? = some y ∧ pairOk (befL ops []) ops j y i x = true) ∧ (opK x.op = .act ∨ leanOk (befL ops []) ops i [] p = true)
 all : ∀ i, i < ops.length → i ∈ τ
 back : ∀ i o, ops[i]? = some o → ∀ e ∈ o.after, Region.binds .any e = true → e.on < i
theorem drawOk_stat {ops : List Oper} {τ : List Nat} (h : drawOk ops τ = true) : Stat ops τ := by
 unfold drawOk at h
 simp only [Bool.and_eq_true, List.all_eq_true, List.mem_range, List.contains_eq_mem, decide_eq_true_eq] at h
 obtain ⟨⟨h1, h2⟩, h3⟩ := h
 refine ⟨fun p i s hp => ?_, h2, fun i o ho e he hb => ?_⟩
 ·rw [hp] at h1
  simpa using tauOk_spec p [] i s h1
 ·have hmem : (o, i) ∈ ops.zipIdx := by
   rw [List.mem_zipIdx_iff_getElem?]; simpa using ho
  have := h3 (o, i) hmem
  simp only [Bool.or_eq_true, Bool.not_eq_true', decide_eq_true_eq] at this
  rcases this e (by simpa using he) with h | h
  ·rw [hb] at h; cases h
  ·exact h
section
variable {ops : List Oper} {τ : List Nat}
theorem Stat.pair (T : Stat ops τ) {p : List Nat} {i : Nat} {s : List Nat} (hp : τ = p ++ i :: s) {j : Nat} (hj : j ∈ p) {x y : Oper} (hx : ops[i]? = some x) (hy : ops[j]? = some y) :
  j ≠ i ∧ bef (befL ops []) i j = false ∧ (bef (befL ops []) j i = true ∨ (apartA ops y x = true ∧ ¬ (opK x.op = .act ∧ isState y = true))) := by
 obtain ⟨x', k1, _, k2, _⟩ := T.spec p i s hp
 rw [hx] at k1; cases k1
 obtain ⟨y', k3, k4⟩ := k2 j hj
 rw [hy] at k3; cases k3
 unfold pairOk at k4
 simp only [Bool.and_eq_true, Bool.or_eq_true, Bool.not_eq_true', bne_iff_ne, ne_eq] at k4
 refine ⟨k4.1.1, k4.1.2, ?_⟩
 rcases k4.2 with h | h
 ·exact .inl h
 ·refine .inr ⟨h.1, fun q => ?_⟩
  have := h.2
  rw [q.1, q.2] at this
  simp at this
theorem apart_l {x y : Oper} (h : apartA ops y x = true) {d : Tmp} (hd : y.dst = some d) : d ∉ namesOf ops x := by
 unfold apartA at h
 rw [hd] at h
 simp at h
 exact h.1
theorem apart_r {x y : Oper} (h : apartA ops y x = true) {d : Tmp} (hd : x.dst = some d) : d ∉ namesOf ops y := by
 unfold apartA at h
 rw [hd] at h
 simp at h
 exact h.2
theorem dst_names {o : Oper} {d : Tmp} (h : o.dst = some d) : d ∈ namesOf ops o := by simp [namesOf, h]
theorem Stat.lean (T : Stat ops τ) {q : List Nat} {j : Nat} {r : List Nat} {i : Nat} {s : List Nat} (hp : τ = (q ++ j :: r) ++ i :: s) {x y : Oper} (hx : ops[i]? = some x) (hy : ops[j]? = some y) (hn : opK y.op = .new) (hb : bef (befL ops []) j i = true)
  {k : Nat} (hk : k ∈ q) {z : Oper} (hz : ops[k]? = some z) (hs : isState z = true) : bef (befL ops []) k i = true := by
 obtain ⟨x', k1, _, k2, k3⟩ := T.spec _ i s hp
 rw [hx] at k1; cases k1
 rcases k3 with h | h
 ·rcases (T.pair hp (j := k) (by simp [hk]) hx hz).2.2 with h' | h'
  ·exact h'
  ·exact absurd ⟨h, hs⟩ h'.2
 ·exact (leanOk_spec q [] j r y h hy hn hb).2 k hk z hz hs
end
/-! the run -/
def pv (y : Entry) : AV := if opK y.o.op = .new then .undef else y.v
def WPend (B : Nat) (G0 G : Gh) (a : Act) (y : Entry) (blk : Nat × Nat) : Prop :=
 ∃ c cv cs, (∀ d, y.o.dst = some d → a.tmps.getD d undef = c) ∧ y.S' = y.S.push (.cells cs) ∧ Reps G cs cv ∧ (∀ (j : Nat) x, cv[j]? = some x → G.own blk.1 j = .res x) ∧
  (∀ G', Gh.obj G' y.S.n = some (blk.1, 0) → Rep G' y.v c) ∧ (∀ o x, G0.own blk.1 o ≠ .res x) ∧ B ≤ blk.1 ∧ cv.length = blk.2
structure Sim (E : Env) (B : Nat) (h0 : World) (vars : List Tmp) (nt : Nat) (ops : List Oper) (L0 : Loc) (S0 : St) (G0 : Gh) (a0 : Act) (ts : List Nat)
  (D : Nat → Bool) (es1 es2 : List Entry) (pb : Nat → Nat × Nat) (G : Gh) (a : Act) (w : World) : Prop where
 closed : ∀ i j, D i = true → bef (befL ops []) j i = true → D j = true
 cut : ∀ c, ts.head? = some c → D c = false
 inv : InvW E B h0 G (endS S0 es1) w
 st : ∀ y ∈ es1, isState y.o = true → D y.i = true
 noact : ∀ y ∈ es2, D y.i = true → opK y.o.op ≠ .act
 size : a.tmps.size = nt
 defers : a.defers = a0.defers
 vals : ∀ t, (∀ j ∈ ts, D j = true → ∀ y, ops[j]? = some y → y.dst ≠ some t) → Rep G (fv pv D t es2 (fv (·.v) D t es1 (L0.get vars t))) (a.tmps.getD t undef)
 le : G0.Le G
 unw : ∀ y ∈ es2, D y.i = true → opK y.o.op = .new → wantA vars ops y.o y.L = some false → ∀ d, y.o.dst = some d → a.tmps.getD d undef = undef
 pend : ∀ y ∈ es2, D y.i = true → opK y.o.op = .new → wantA vars ops y.o y.L = some true → WPend B G0 G a y (pb y.i)
 pbinj : ∀ y ∈ es2, ∀ y' ∈ es2, D y.i = true → D y'.i = true → opK y.o.op = .new → opK y'.o.op = .new → wantA vars ops y.o y.L = some true → wantA vars ops y'.o y'.L = some true → y.i ≠ y'.i → (pb y.i).2 ≠ 0 → (pb y'.i).2 ≠ 0 → (pb y.i).1 ≠ (pb y'.i).1
section
variable {call : CallF} {vars : List Tmp} {nt : Nat} {ops : List Oper} {L0 : Loc} {S0 : St} {G0 : Gh} {a0 : Act} {ts : List Nat}
variable {D : Nat → Bool} {es1 es2 : List Entry} {pb : Nat → Nat × Nat} {a : Act}
def Maxi (D : Nat → Bool) : List Entry → Prop
 | [] => True
 | e :: _ => isState e.o = true ∧ D e.i = false
theorem new_state {o : Oper} (h : opK o.op = .new) : isState o = true := by simp [isState, h]
theorem act_state {o : Oper} (h : opK o.op = .act) : isState o = true := by simp [isState, h]
theorem state_cases {o : Oper} (h : isState o = true) : opK o.op = .new ∨ opK o.op = .act := by simpa [isState] using h
/-- all that is done up to here is made known -/
theorem Sim.advance {L1 : Loc} {S1 : St} : ∀ (es2 es1 : List Entry) (G : Gh), Sim E B h0 vars nt ops L0 S0 G0 a0 ts D es1 es2 pb G a w → Tra E call vars nt ops (es1 ++ es2) L0 S0 L1 S1 →
  ((es1 ++ es2).map (·.i)).Nodup →
  ∃ G' es1' es2', es1' ++ es2' = es1 ++ es2 ∧ Sim E B h0 vars nt ops L0 S0 G0 a0 ts D es1' es2' pb G' a w ∧ Maxi D es2'
 | [], es1, G, M, _, _ => ⟨G, es1, [], rfl, M, trivial⟩
 | e :: r, es1, G, M, T, hnd => by
  obtain ⟨La, Sa, T1, T2⟩ := tra_append es1 (e :: r) _ _ _ _ T
  have hSa := tra_endS _ _ _ _ _ T1
  have heS : e.S = endS S0 es1 := by rw [← hSa]; exact T2.2.2.2.1
  have hend : endS S0 (es1 ++ [e]) = e.S' := by rw [endS_append]; rfl
  have happ : (es1 ++ [e]) ++ r = es1 ++ e :: r := by simp
  have hfacts := T2.2.2.2.2.1
  by_cases hst : isState e.o = true
  ·cases hD : D e.i with
   | false => exact ⟨G, es1, e :: r, rfl, M, hst, hD⟩
   | true =>
    have hnew : opK e.o.op = .new := by
     rcases state_cases hst with h | h
     ·exact h
     ·exact absurd h (M.noact e (by simp) hD)
    have hpvne : ∀ G', G.Le0 G' → Rep G' e.v (match e.o.dst with | some d => a.tmps.getD d undef | none => undef) ∨ e.o.dst = none → ∀ t, (∀ j ∈ ts, D j = true → ∀ y, ops[j]? = some y → y.dst ≠ some t) →
      Rep G' (fv pv D t r (fv (·.v) D t (es1 ++ [e]) (L0.get vars t))) (a.tmps.getD t undef) := by
     intro G' hle hrep t ht
     have hold := (M.vals t ht).mono hle
     rw [fv_append]
     simp only [fv] at hold ⊢
     rcases fv_cases (f := pv) (D := D) (t := t) r with hc | hc
     ·rw [hc _ (if D e.i = true ∧ e.o.dst = some t then pv e else fv (·.v) D t es1 (L0.get vars t))]; exact hold
     ·rw [hc]
      by_cases hdt : e.o.dst = some t
      ·rw [if_pos ⟨hD, hdt⟩]
       rcases hrep with h | h
       ·rw [hdt] at h; exact h
       ·rw [hdt] at h; cases h
      ·rw [if_neg (fun q => hdt q.2)]
       rw [hc, if_neg (fun q => hdt q.2)] at hold
       exact hold
    have hni : ∀ y ∈ r, y.i ≠ e.i := by
     intro y hy hE
     rw [List.map_append, List.nodup_append] at hnd
     have := hnd.2.1
     rw [List.map_cons, List.nodup_cons] at this
     exact this.1 (by rw [← hE]; exact List.mem_map_of_mem hy)
    rcases hfacts with ⟨hw, he⟩ | ⟨hw, hv, hS⟩
    ·-- made an object
     obtain ⟨c, cv, cs, k1, k2, k3, k4, k5, k6, k7, k8⟩ := M.pend e (by simp) hD hnew hw
     obtain ⟨G', g1, g2, g3, g4⟩ := M.inv.toInv.commit k3 k4 k7
     have M' : Sim E B h0 vars nt ops L0 S0 G0 a0 ts D (es1 ++ [e]) r pb G' a w := by
      refine ⟨M.closed, M.cut, ?_, ?_, fun y hy => M.noact y (by simp [hy]), M.size, M.defers, ?_, ?_, fun y hy => M.unw y (by simp [hy]), ?_, fun y hy y' hy' => M.pbinj y (by simp [hy]) y' (by simp [hy'])⟩
      ·rw [hend, k2, heS]; exact ⟨g4, M.inv.os, M.inv.out⟩
      ·intro y hy hs'
       rcases List.mem_append.1 hy with h | h
       ·exact M.st y h hs'
       ·simp at h; subst h; exact hD
      ·refine hpvne G' g1 ?_
       cases hdd : e.o.dst with
       | none => exact .inr rfl
       | some d => refine .inl ?_; show Rep G' e.v (a.tmps.getD d undef); rw [k1 d hdd]; exact k5 G' (by rw [heS]; exact g2)
      ·refine ⟨M.le.toLe0.trans g1, fun b o c hc => ?_⟩
       have hb : b ≠ (pb e.i).1 := by
        intro hE
        subst hE
        exact k6 _ _ hc
       rw [g3 b o (fun q => hb q.1)]
       exact M.le.res b o c hc
      ·intro y hy hDy hny hwy
       obtain ⟨c', cv', cs', q1, q2, q3, q4, q5, q6, q7, q8⟩ := M.pend y (by simp [hy]) hDy hny hwy
       have hb := M.pbinj y (by simp [hy]) e (by simp) hDy hD hny hnew hwy hw (hni y hy)
       refine ⟨c', cv', cs', q1, q2, q3.mono g1, fun j x hx => ?_, q5, q6, q7, q8⟩
       rw [g3 _ _ (fun q => hb ?_ ?_ q.1)]
       ·exact q4 j x hx
       ·intro h0
        rw [← q8] at h0
        rw [List.eq_nil_of_length_eq_zero h0] at hx
        simp at hx
       ·rw [← k8]; omega
     obtain ⟨G'', e1, e2, r1, r2, r3⟩ := Sim.advance r (es1 ++ [e]) G' M' (by rw [happ]; exact T) (by rw [happ]; exact hnd)
     exact ⟨G'', e1, e2, by rw [r1, happ], r2, r3⟩
    ·have M' : Sim E B h0 vars nt ops L0 S0 G0 a0 ts D (es1 ++ [e]) r pb G a w := by
      refine ⟨M.closed, M.cut, ?_, ?_, fun y hy => M.noact y (by simp [hy]), M.size, M.defers, ?_, M.le, fun y hy => M.unw y (by simp [hy]), fun y hy => M.pend y (by simp [hy]), fun y hy y' hy' => M.pbinj y (by simp [hy]) y' (by simp [hy'])⟩
      ·rw [hend, hS, heS]; exact M.inv
      ·intro y hy hs'
       rcases List.mem_append.1 hy with h | h
       ·exact M.st y h hs'
       ·simp at h; subst h; exact hD
      ·refine hpvne G (.refl G) ?_
       cases hdd : e.o.dst with
       | none => exact .inr rfl
       | some d => refine .inl ?_; show Rep G e.v (a.tmps.getD d undef); rw [hv, M.unw e (by simp) hD hnew hw d hdd]; exact Rep.tup' (Reps.nil G)
     obtain ⟨G'', e1, e2, r1, r2, r3⟩ := Sim.advance r (es1 ++ [e]) G M' (by rw [happ]; exact T) (by rw [happ]; exact hnd)
     exact ⟨G'', e1, e2, by rw [r1, happ], r2, r3⟩
  ·have hst' : isState e.o = false := by simpa using hst
   have hpe : pv e = e.v := by
    unfold pv
    rw [if_neg]
    intro h
    rw [new_state h] at hst'
    cases hst'
   have M' : Sim E B h0 vars nt ops L0 S0 G0 a0 ts D (es1 ++ [e]) r pb G a w := by
    refine ⟨M.closed, M.cut, ?_, ?_, fun y hy => M.noact y (by simp [hy]), M.size, M.defers, ?_, M.le, fun y hy => M.unw y (by simp [hy]), fun y hy => M.pend y (by simp [hy]), fun y hy y' hy' => M.pbinj y (by simp [hy]) y' (by simp [hy'])⟩
    ·rw [hend, quietS hfacts hst', heS]; exact M.inv
    ·intro y hy hs'
     rcases List.mem_append.1 hy with h | h
     ·exact M.st y h hs'
     ·simp at h; subst h; rw [hst'] at hs'; cases hs'
    ·intro t ht
     have hold := M.vals t ht
     rw [fv_append]
     simp only [fv, hpe] at hold ⊢
     exact hold
   obtain ⟨G'', e1, e2, r1, r2, r3⟩ := Sim.advance r (es1 ++ [e]) G M' (by rw [happ]; exact T) (by rw [happ]; exact hnd)
   exact ⟨G'', e1, e2, by rw [r1, happ], r2, r3⟩
/-- what an operation looks at is what it looked at here -/
theorem Sim.names {τ : List Nat} (T : Stat ops τ) (M : Sim E B h0 vars nt ops L0 S0 G0 a0 ts D es1 es2 pb G a w) (hm : Maxi D es2) {i : Nat} {o : Oper} (ho : ops[i]? = some o) (hDi : D i = false) (hready : ∀ j, bef (befL ops []) j i = true → D j = true)
  {p s : List Entry} {rest : List Nat} (hτ : τ = p.map (·.i) ++ i :: rest) (hsplit : es1 ++ es2 = p ++ s) (hs' : ∀ y ∈ s, y.i ∈ i :: rest) (hts : ∀ j ∈ ts, j ∈ i :: rest)
  (hops : ∀ y ∈ es1 ++ es2, ops[y.i]? = some y.o) {L' : Loc} {S1 : St} (TP : Tra E call vars nt ops p L0 S0 L' S1) {t : Tmp} (ht : t ∈ namesOf ops o) :
  Rep G (L'.get vars t) (a.tmps.getD t undef) := by
 -- what comes behind, and writes it, isn't done
 have hlate : ∀ j ∈ i :: rest, ∀ y, ops[j]? = some y → y.dst = some t → D j = false := by
  intro j hj y hy hd
  rcases List.mem_cons.1 hj with rfl | hj
  ·exact hDi
  ·obtain ⟨r1, r2, hr⟩ := List.append_of_mem hj
   have hp : τ = (p.map (·.i) ++ i :: r1) ++ j :: r2 := by rw [hτ, hr]; simp
   rcases (T.pair hp (j := i) (by simp) hy ho).2.2 with h | h
   ·cases hDj : D j with
    | false => rfl
    | true => rw [M.closed j i hDj h] at hDi; cases hDi
   ·exact absurd ht (apart_r h.1 hd)
 have hearly : ∀ y ∈ p, y.o.dst = some t → bef (befL ops []) y.i i = true := by
  intro y hy hd
  have hyo := hops y (by rw [hsplit]; simp [hy])
  rcases (T.pair hτ (j := y.i) (List.mem_map_of_mem hy) ho hyo).2.2 with h | h
  ·exact h
  ·exact absurd ht (apart_l h.1 hd)
 have hval := M.vals t fun j hj hDj y hy hd => by
  have := hlate j (hts j hj) y hy hd
  rw [this] at hDj; cases hDj
 refine Rep.le (tra_get t p _ _ _ _ TP) ?_
 rcases List.append_eq_append_iff.1 hsplit with ⟨q, hq1, hq2⟩ | ⟨q, hq1, hq2⟩
 ·-- p = es1 ++ q, es2 = q ++ s
  subst hq1
  rw [hq2, fv_append, fv_none (l := s) _ (fun y hy hd => hlate y.i (hs' y hy) y.o (hops y (by rw [hsplit]; simp [hy])) hd)] at hval
  rw [fv_append]
  rw [fv_congr (l := es1) (f' := (·.v)) (D' := allT) _ (fun y hy hd => ⟨by rw [hready _ (hearly y (by simp [hy]) hd)]; rfl, fun _ => rfl⟩)] at hval
  rw [fv_congr (l := q) (f' := (·.v)) (D' := allT) _ (fun y hy hd => ⟨by rw [hready _ (hearly y (by simp [hy]) hd)]; rfl, fun hDy => ?_⟩)] at hval
  ·exact hval
  ·unfold pv
   rw [if_neg]
   intro hnew
   have hyo := hops y (by rw [hq2]; simp [hy])
   have hb := hearly y (by simp [hy]) hd
   cases q with
   | nil => cases hy
   | cons h q' =>
    rw [hq2] at hm
    obtain ⟨hm1, hm2⟩ := hm
    have hho := hops h (by rw [hq2]; simp)
    rcases List.mem_cons.1 hy with rfl | hy'
    ·rw [hDy] at hm2; cases hm2
    ·obtain ⟨u1, u2, hu⟩ := List.append_of_mem hy'
     have hp : τ = ((es1.map (·.i) ++ h.i :: u1.map (·.i)) ++ y.i :: u2.map (·.i)) ++ i :: rest := by rw [hτ, hu]; simp
     have := T.lean hp ho hyo hnew hb (k := h.i) (by simp) hho hm1
     rw [hready _ this] at hm2; cases hm2
 ·-- es1 = p ++ q, s = q ++ es2
  rw [fv_none (l := es2) _ (fun y hy hd => hlate y.i (hs' y (by rw [hq2]; simp [hy])) y.o (hops y (by simp [hy])) hd), hq1, fv_append,
   fv_none (l := q) _ (fun y hy hd => hlate y.i (hs' y (by rw [hq2]; simp [hy])) y.o (hops y (by rw [hq1]; simp [hy])) hd)] at hval
  rw [fv_congr (l := p) (f' := (·.v)) (D' := allT) _ (fun y hy hd => ⟨by rw [hready _ (hearly y hy hd)]; rfl, fun _ => rfl⟩)] at hval
  exact hval
end
end Go.Vm
namespace Go.Vm
open Go
variable {P : Program} {E : Env} {B : Nat} {h0 : World} {G : Gh} {S S' : St} {w : World}
variable {call : CallF} {vars : List Tmp} {nt : Nat} {ops : List Oper} {L0 : Loc} {S0 : St} {G0 : Gh} {a0 : Act} {ts : List Nat}
variable {D : Nat → Bool} {es1 es2 : List Entry} {pb : Nat → Nat × Nat} {a : Act}
def upd (D : Nat → Bool) (i : Nat) : Nat → Bool := fun j => j == i || D j
theorem upd_ne {i j : Nat} (h : j ≠ i) : upd D i j = D j := by simp [upd, h]
theorem upd_self {i : Nat} : upd D i i = true := by simp [upd]
theorem upd_of {i j : Nat} (h : D j = true) : upd D i j = true := by simp [upd, h]
theorem want_sound' {opsA : Array Oper} {L : Loc} {o : Oper} {bw : Bool} (h : ∀ t ∈ namesOf opsA.toList o, Rep G (L.get vars t) (a.tmps.getD t undef))
  (hw : wantA vars opsA.toList o L = some bw) : Region.wanted o (yielded opsA a.tmps) = bw := by
 unfold wantA at hw
 unfold Region.wanted
 cases hg : o.guard with
 | none => simp [hg] at hw; simp [hw]
 | some jw =>
  obtain ⟨j, want⟩ := jw
  simp only [hg] at hw ⊢
  have hops : opsA.toList[j]? = opsA[j]? := by simp
  rw [hops] at hw
  unfold yielded
  cases hd : (opsA[j]?).bind (·.dst) with
  | none => simp [hd] at hw; simp [hw]
  | some d =>
   simp only [hd] at hw
   have hrep := h d (by
    unfold namesOf
    rw [hg]
    simp only [hops, hd]
    simp)
   simp only [Option.bind_some]
   cases htd : a.tmps[d]? with
   | none =>
    have : a.tmps.getD d undef = undef := by simp [Array.getD_eq_getD_getElem?, htd]
    rw [this] at hrep
    split at hw
    ·rename_i e; rw [e] at hrep; cases hrep
    ·cases hw; simp
    ·cases hw
   | some x =>
    have : a.tmps.getD d undef = x := by simp [Array.getD_eq_getD_getElem?, htd]
    rw [this] at hrep
    split at hw
    ·rename_i bb e
     rw [e] at hrep
     cases hrep
     cases hw
     cases bb <;> cases want <;> rfl
    ·rename_i e
     rw [e] at hrep
     obtain ⟨ys, rfl, _⟩ := hrep.tup_inv
     cases hw
     simp
    ·cases hw
theorem mask_rep (hg : GlobOk E G) {ns : List Tmp} {L : Loc} (h : ∀ t ∈ ns, Rep G (L.get vars t) (a.tmps.getD t undef)) (x : Operand) : Rep G (maskE E vars ns L x) (a.eval x) := by
 cases x with
 | tmp t =>
  simp only [maskE]
  split
  ·rename_i hc
   exact h t (by simpa using hc)
  ·exact .undef _
 | const v => exact constV_rep v
 | global g =>
  simp only [maskE, evO]
  cases hgg : E.glob g with
  | none => exact .undef _
  | some cs => exact hg g cs hgg
 | func f => exact .fn f [] [] #[] #[] rfl rfl (by simp) (by simp)
/-- what is set aside is not written again -/
theorem Sim.keep {τ : List Nat} (T : Stat ops τ) (hcl : ∀ i j, D i = true → bef (befL ops []) j i = true → D j = true) (hm : Maxi D es2) {i : Nat} {o : Oper} (ho : ops[i]? = some o) (hDi : D i = false) (hready : ∀ j, bef (befL ops []) j i = true → D j = true)
  {p s : List Entry} {u rest : List Nat} (hτ : τ = (p.map (·.i) ++ u) ++ i :: rest) (hsplit : es1 ++ es2 = p ++ s) (hs' : ∀ y ∈ s, y.i ∈ i :: rest)
  (hops : ∀ y ∈ es1 ++ es2, ops[y.i]? = some y.o) {y : Entry} (hy : y ∈ es2) (hDy : D y.i = true) (hnew : opK y.o.op = .new) {d : Tmp} (hd : o.dst = some d) : y.o.dst ≠ some d := by
 intro hdy
 have hyo := hops y (by simp [hy])
 have late : y ∈ s → False := by
  intro hys
  rcases List.mem_cons.1 (hs' y hys) with h | h
  ·rw [h, hDi] at hDy; cases hDy
  ·obtain ⟨r1, r2, hr⟩ := List.append_of_mem h
   have hp : τ = ((p.map (·.i) ++ u) ++ i :: r1) ++ y.i :: r2 := by rw [hτ, hr]; simp
   rcases (T.pair hp (j := i) (by simp) hyo ho).2.2 with h | h
   ·rw [hcl _ _ hDy h] at hDi; cases hDi
   ·exact absurd (dst_names hd) (apart_r h.1 hdy)
 rcases List.append_eq_append_iff.1 hsplit with ⟨q, hq1, hq2⟩ | ⟨q, hq1, hq2⟩
 ·rw [hq2] at hy
  rcases List.mem_append.1 hy with hyq | hys
  ·have hyp : y.i ∈ p.map (·.i) ++ u := List.mem_append_left _ (List.mem_map_of_mem (by rw [hq1]; simp [hyq]))
   have hb : bef (befL ops []) y.i i = true := by
    rcases (T.pair hτ hyp ho hyo).2.2 with h | h
    ·exact h
    ·exact absurd (dst_names hd) (apart_l h.1 hdy)
   cases q with
   | nil => cases hyq
   | cons h q' =>
    rw [hq2] at hm
    obtain ⟨hm1, hm2⟩ := hm
    have hho := hops h (by rw [hq2]; simp)
    rcases List.mem_cons.1 hyq with rfl | hy'
    ·rw [hDy] at hm2; cases hm2
    ·obtain ⟨u1, u2, hu⟩ := List.append_of_mem hy'
     have hp : τ = ((es1.map (·.i) ++ h.i :: u1.map (·.i)) ++ y.i :: (u2.map (·.i) ++ u)) ++ i :: rest := by rw [hτ, hq1, hu]; simp
     have := T.lean hp ho hyo hnew hb (k := h.i) (by simp) hho hm1
     rw [hready _ this] at hm2; cases hm2
  ·exact late hys
 ·exact late (by rw [hq2]; simp [hy])
theorem getD_put_ne {a : Act} {dst : Option Tmp} {c : Value} {t : Tmp} (h : dst ≠ some t) : (a.put dst c).tmps.getD t undef = a.tmps.getD t undef := by
 cases dst with
 | none => rfl
 | some d =>
  simp only [Act.put, Array.getD_eq_getD_getElem?]
  rw [Array.getElem?_setIfInBounds_ne (by simpa using h)]
theorem getD_put_self {a : Act} {c : Value} {t : Tmp} (h : t < a.tmps.size) : (a.put (some t) c).tmps.getD t undef = c := by
 simp [Act.put, h]
theorem put_size {a : Act} {dst : Option Tmp} {c : Value} : (a.put dst c).tmps.size = a.tmps.size := by
 cases dst <;> simp [Act.put]
theorem put_defers {a : Act} {dst : Option Tmp} {c : Value} : (a.put dst c).defers = a.defers := by
 cases dst <;> simp [Act.put]
/-- the values, one more known -/
theorem Sim.vals_put {τ : List Nat} (T : Stat ops τ) (M : Sim E B h0 vars nt ops L0 S0 G0 a0 ts D es1 es2 pb G a w) {e : Entry} {p s : List Entry} (hDi : D e.i = false)
  (hτ : τ = p.map (·.i) ++ e.i :: (s.map (·.i) ++ ts)) (hsplit : es1 ++ es2 = p ++ e :: s) (hnd : ((es1 ++ es2).map (·.i)).Nodup)
  (hops : ∀ y ∈ es1 ++ es2, ops[y.i]? = some y.o) (hin : inFrame nt e.o.dst = true) {G' : Gh} (hG : G.Le0 G') {c : Value} (hc : opK e.o.op ≠ .new → Rep G' e.v c) (t : Tmp)
  (ht : ∀ j ∈ ts, upd D e.i j = true → ∀ y, ops[j]? = some y → y.dst ≠ some t) :
  Rep G' (fv pv (upd D e.i) t es2 (fv (·.v) (upd D e.i) t es1 (L0.get vars t))) ((a.put e.o.dst c).tmps.getD t undef) := by
 have heo := hops e (by rw [hsplit]; simp)
 have hsi : ∀ y ∈ s, y.i ≠ e.i := by
  intro y hy hE
  rw [hsplit, List.map_append, List.nodup_append] at hnd
  have := hnd.2.1
  rw [List.map_cons, List.nodup_cons] at this
  exact this.1 (by rw [← hE]; exact List.mem_map_of_mem hy)
 by_cases hdt : e.o.dst = some t
 ·have htn : t < a.tmps.size := by rw [M.size]; rw [hdt] at hin; simpa [inFrame] using hin
  rw [hdt, getD_put_self htn]
  have hlate : ∀ y ∈ s, y.o.dst = some t → upd D e.i y.i = false := by
   intro y hy hd
   rw [upd_ne (hsi y hy)]
   obtain ⟨r1, r2, hr⟩ := List.append_of_mem hy
   have hp : τ = (p.map (·.i) ++ e.i :: r1.map (·.i)) ++ y.i :: (r2.map (·.i) ++ ts) := by rw [hτ, hr]; simp
   rcases (T.pair hp (j := e.i) (by simp) (hops y (by rw [hsplit]; simp [hy])) heo).2.2 with h | h
   ·cases hDj : D y.i with
    | false => rfl
    | true => rw [M.closed _ _ hDj h] at hDi; cases hDi
   ·exact absurd (dst_names hdt) (apart_r h.1 hd)
  rcases List.append_eq_append_iff.1 hsplit with ⟨q, hq1, hq2⟩ | ⟨q, hq1, hq2⟩
  ·rw [hq2, fv_append]
   simp only [fv]
   rw [if_pos ⟨upd_self, hdt⟩, fv_none _ hlate]
   unfold pv
   split
   ·exact .undef _
   ·rename_i h; exact hc h
  ·cases q with
   | nil =>
    simp at hq2
    rw [← hq2]
    simp only [fv]
    rw [if_pos ⟨upd_self, hdt⟩, fv_none _ hlate]
    unfold pv
    split
    ·exact .undef _
    ·rename_i h; exact hc h
   | cons e' q =>
    simp only [List.cons_append, List.cons.injEq] at hq2
    obtain ⟨rfl, rfl⟩ := hq2
    rw [fv_none (l := es2) _ (fun y hy hd => hlate y (by simp [hy]) hd), hq1, fv_append]
    simp only [fv]
    rw [if_pos ⟨upd_self, hdt⟩, fv_none _ (fun y hy hd => hlate y (by simp [hy]) hd)]
    refine hc fun hnew => ?_
    have := M.st e (by rw [hq1]; simp) (new_state hnew)
    rw [hDi] at this; cases this
 ·rw [getD_put_ne hdt]
  have hsame : ∀ y ∈ es1 ++ es2, y.o.dst = some t → upd D e.i y.i = D y.i := by
   intro y hy hd
   refine upd_ne fun hE => hdt ?_
   have := hops y hy
   rw [hE, heo] at this
   injection this with this
   rw [this]; exact hd
  rw [fv_congr (l := es1) (f' := (·.v)) (D' := D) _ (fun y hy hd => ⟨hsame y (by simp [hy]) hd, fun _ => rfl⟩),
   fv_congr (l := es2) (f' := pv) (D' := D) _ (fun y hy hd => ⟨hsame y (by simp [hy]) hd, fun _ => rfl⟩)]
  refine (M.vals t fun j hj hDj y hy => ht j hj (upd_of hDj) y hy).mono hG
theorem endS_last {S1 : St} {L1 : Loc} : ∀ (q : List Entry) (L : Loc) (S : St), Tra E call vars nt ops q L S L1 S1 → endS S q = S ∨ ∃ z ∈ q, isState z.o = true ∧ endS S q = z.S'
 | [], _, _, _ => .inl rfl
 | y :: q, L, S, h => by
  have h5 := h.2.2.2.2.1
  have h4 := h.2.2.2.1
  simp only [endS]
  rcases endS_last q _ _ h.2.2.2.2.2 with hh | ⟨z, hz, hzs, hh⟩
  ·rw [hh]
   by_cases hs' : isState y.o = true
   ·exact .inr ⟨y, by simp, hs', rfl⟩
   ·rw [quietS h5 (by simpa using hs'), h4]; exact .inl rfl
  ·exact .inr ⟨z, by simp [hz], hzs, hh⟩
theorem readsSame_spec {r c : Entry} (h : readsSame E vars ops r c = true) : readA E (maskE E vars (namesOf ops r.o) r.L) c.S r.o.op = some r.v ∧ readA E (maskE E vars (namesOf ops r.o) r.L) c.S' r.o.op = some r.v := by
 unfold readsSame at h
 split at h
 ·rename_i v1 v2 h1 h2
  simp only [Bool.and_eq_true] at h
  rw [h1, h2]
  exact ⟨by rw [AV.beq_eq _ _ h.1], by rw [AV.beq_eq _ _ h.2]⟩
 ·cases h
/-- what is read, is read there too -/
theorem Sim.reads {τ : List Nat} (T : Stat ops τ) (M : Sim E B h0 vars nt ops L0 S0 G0 a0 ts D es1 es2 pb G a w) (hm : Maxi D es2) {e : Entry} {p s : List Entry} (hDi : D e.i = false) (hready : ∀ j, bef (befL ops []) j e.i = true → D j = true)
  (hτ : τ = p.map (·.i) ++ e.i :: (s.map (·.i) ++ ts)) (hsplit : es1 ++ es2 = p ++ e :: s) {L1 : Loc} {S1 : St} (TR : Tra E call vars nt ops (es1 ++ es2) L0 S0 L1 S1)
  (htr : trOk E vars ops (befL ops []) (es1 ++ es2) = true) (hk : isState e.o = false) (hw : wantA vars ops e.o e.L = some true) :
  effA E call (maskE E vars (namesOf ops e.o) e.L) e.o.op (endS S0 es1) = some (.val e.v (endS S0 es1)) := by
 have hmem := tra_mem TR
 have he := hmem e (by rw [hsplit]; simp)
 have heff : effA E call (maskE E vars (namesOf ops e.o) e.L) e.o.op e.S = some (.val e.v e.S') := by
  rcases he.2.2 with h | h
  ·exact h.2
  ·rw [hw] at h; simp at h
 have hks : opK e.o.op ≠ .act ∧ opK e.o.op ≠ .new := by
  constructor <;> intro h
  ·rw [act_state h] at hk; cases hk
  ·rw [new_state h] at hk; cases hk
 cases hop : opK e.o.op with
 | act => exact absurd hop hks.1
 | new => exact absurd hop hks.2
 | pure =>
  unfold effA at heff ⊢
  rw [hop] at heff ⊢
  simp only at heff ⊢
  split at heff
  ·rename_i v hv
   injection heff with heff
   injection heff with h1 h2
   rw [h1]
  ·cases heff
 | read =>
  have hrd : readA E (maskE E vars (namesOf ops e.o) e.L) e.S e.o.op = some e.v := by
   unfold effA at heff
   rw [hop] at heff
   simp only at heff
   split at heff
   ·rename_i v hv
    injection heff with heff
    injection heff with h1 h2
    rw [hv, h1]
   ·cases heff
  have hsame : ∀ z ∈ es1 ++ es2, isState z.o = true → comparable (befL ops []) e.i z.i = false → readsSame E vars ops e z = true := by
   intro z hz hzs hzc
   unfold trOk at htr
   rw [List.all_eq_true] at htr
   have h1 := htr e (by rw [hsplit]; simp)
   simp only [isRead, hop, hw, Bool.or_eq_true, List.all_eq_true] at h1
   rcases h1 with h1 | h1
   ·simp at h1
   ·have h2 := h1 z hz
    simp only [hzs, hzc, Bool.not_true, Bool.false_or, Bool.or_eq_true] at h2
    simpa using h2
  have goal : readA E (maskE E vars (namesOf ops e.o) e.L) (endS S0 es1) e.o.op = some e.v := by
   rcases List.append_eq_append_iff.1 hsplit with ⟨q, hq1, hq2⟩ | ⟨q, hq1, hq2⟩
   ·cases q with
    | nil =>
     simp at hq2
     rw [hq2] at hm
     rw [hm.1] at hk; cases hk
    | cons h q =>
     rw [hq2] at hm
     obtain ⟨hm1, hm2⟩ := hm
     have hhi : h.i ∈ p.map (·.i) := List.mem_map_of_mem (by rw [hq1]; simp)
     have hho := (hmem h (by rw [hq2]; simp)).1
     have hp := T.pair hτ hhi he.1 hho
     have hnc : comparable (befL ops []) e.i h.i = false := by
      unfold comparable
      rw [hp.2.1]
      cases hb : bef (befL ops []) h.i e.i with
      | false => rfl
      | true => rw [hready _ hb] at hm2; cases hm2
     have hS : h.S = endS S0 es1 := by
      rw [hq2] at TR
      obtain ⟨La, Sa, T1, T2⟩ := tra_append es1 _ _ _ _ _ TR
      rw [← tra_endS _ _ _ _ _ T1]
      exact T2.2.2.2.1
     rw [← hS]
     exact (readsSame_spec (hsame h (by rw [hq2]; simp) hm1 hnc)).1
   ·cases q with
    | nil =>
     simp at hq2
     rw [← hq2] at hm
     rw [hm.1] at hk; cases hk
    | cons e' q =>
     simp only [List.cons_append, List.cons.injEq] at hq2
     obtain ⟨rfl, rfl⟩ := hq2
     obtain ⟨La, Sa, T1, T2⟩ := tra_append es1 es2 _ _ _ _ TR
     rw [hq1] at T1
     obtain ⟨Lb, Sb, T3, T4⟩ := tra_append p _ _ _ _ _ T1
     have heS : e.S = endS S0 p := by rw [← tra_endS _ _ _ _ _ T3]; exact T4.2.2.2.1
     have heS' : e.S' = e.S := quietS he.2.2 hk
     have hend : endS S0 es1 = endS e.S q := by
      rw [hq1, endS_append]
      simp only [endS]
      rw [heS']
     have T5 : Tra E call vars nt ops q (Lb.putO vars e.o.dst e.v) e.S La Sa := by rw [← heS']; exact T4.2.2.2.2.2
     rcases endS_last q _ _ T5 with hh | ⟨z, hz, hzs, hh⟩
     ·rw [hend, hh]; exact hrd
     ·rw [hend, hh]
      have hzm : z ∈ es1 ++ es2 := by rw [hq1]; simp [hz]
      have hDz := M.st z (by rw [hq1]; simp [hz]) hzs
      obtain ⟨r1, r2, hr⟩ := List.append_of_mem hz
      have hp : τ = (p.map (·.i) ++ e.i :: r1.map (·.i)) ++ z.i :: (r2.map (·.i) ++ es2.map (·.i) ++ ts) := by rw [hτ, hr]; simp
      have hpp := T.pair hp (j := e.i) (by simp) (hmem z hzm).1 he.1
      have hnc : comparable (befL ops []) e.i z.i = false := by
       unfold comparable
       rw [hpp.2.1]
       cases hb : bef (befL ops []) e.i z.i with
       | false => rfl
       | true => rw [M.closed _ _ hDz hb] at hDi; cases hDi
      exact (readsSame_spec (hsame z hzm hzs hnc)).2
  unfold effA
  rw [hop]
  simp only [goal]
/-- an act is done in the state that it was done in here -/
theorem Sim.acts {τ : List Nat} (T : Stat ops τ) (M : Sim E B h0 vars nt ops L0 S0 G0 a0 ts D es1 es2 pb G a w) (hm : Maxi D es2) {i : Nat} {o : Oper} (ho : ops[i]? = some o) (hDi : D i = false) (hready : ∀ j, bef (befL ops []) j i = true → D j = true)
  {p s : List Entry} {rest : List Nat} (hτ : τ = p.map (·.i) ++ i :: rest) (hsplit : es1 ++ es2 = p ++ s) (hops : ∀ y ∈ es1 ++ es2, ops[y.i]? = some y.o) (hk : opK o.op = .act)
  (hs' : s = [] ∨ ∃ e s', s = e :: s' ∧ e.i = i ∧ e.o = o) : es1 = p ∧ es2 = s := by
 have hst : ∀ h ∈ p, isState h.o = true → D h.i = true := by
  intro h hh hs1
  rcases (T.pair hτ (List.mem_map_of_mem hh) ho (hops h (by rw [hsplit]; simp [hh]))).2.2 with hb | hb
  ·exact hready _ hb
  ·exact absurd ⟨hk, hs1⟩ hb.2
 rcases List.append_eq_append_iff.1 hsplit with ⟨q, hq1, hq2⟩ | ⟨q, hq1, hq2⟩
 ·cases q with
  | nil => simp at hq1 hq2; exact ⟨hq1.symm, hq2⟩
  | cons h q =>
   rw [hq2] at hm
   have := hst h (by rw [hq1]; simp) hm.1
   rw [hm.2] at this; cases this
 ·cases q with
  | nil => simp at hq1 hq2; exact ⟨hq1, hq2.symm⟩
  | cons e' q =>
   rcases hs' with h | ⟨e, s', h1, h2, h3⟩
   ·rw [h] at hq2; cases hq2
   ·rw [h1] at hq2
    simp only [List.cons_append, List.cons.injEq] at hq2
    obtain ⟨rfl, _⟩ := hq2
    have := M.st e (by rw [hq1]; simp) (by rw [h3]; exact act_state hk)
    rw [h2, hDi] at this; cases this
end Go.Vm
namespace Go.Vm
open Go
variable {P : Program} {E : Env} {B : Nat} {h0 : World} {G : Gh} {S S' : St} {w : World}
variable {call : CallF} {vars : List Tmp} {nt : Nat} {ops : List Oper} {L0 : Loc} {S0 : St} {G0 : Gh} {a0 : Act} {ts : List Nat}
variable {D : Nat → Bool} {es1 es2 : List Entry} {pb : Nat → Nat × Nat} {a : Act}
theorem eq_of_nodup {l : List Entry} : (l.map (·.i)).Nodup → ∀ {x y : Entry}, x ∈ l → y ∈ l → x.i = y.i → x = y := by
 induction l with
 | nil => intro _ x y h; cases h
 | cons e l ih =>
  intro hnd x y hx hy h
  rw [List.map_cons, List.nodup_cons] at hnd
  rcases List.mem_cons.1 hx with h1 | h1
  ·rcases List.mem_cons.1 hy with h2 | h2
   ·rw [h1, h2]
   ·exact absurd (by rw [← h1, h]; exact List.mem_map_of_mem h2) hnd.1
  ·rcases List.mem_cons.1 hy with h2 | h2
   ·exact absurd (by rw [← h2, ← h]; exact List.mem_map_of_mem h1) hnd.1
   ·exact ih hnd.2 h1 h2 h
theorem Stat.nodup {τ : List Nat} (T : Stat ops τ) : τ.Nodup := by
 have : ∀ (s p : List Nat), τ = p ++ s → s.Nodup := by
  intro s
  induction s with
  | nil => intro p _; exact List.nodup_nil
  | cons i s ih =>
   intro p hp
   rw [List.nodup_cons]
   refine ⟨fun hi => ?_, ih (p ++ [i]) (by rw [hp]; simp)⟩
   obtain ⟨r1, r2, hr⟩ := List.append_of_mem hi
   have hp' : τ = (p ++ i :: r1) ++ i :: r2 := by rw [hp, hr]; simp
   obtain ⟨x, hx, _⟩ := T.spec _ _ _ hp'
   exact (T.pair hp' (j := i) (by simp) hx hx).1 rfl
 exact this τ [] rfl
section
variable {τ : List Nat} (T : Stat ops τ) (M : Sim E B h0 vars nt ops L0 S0 G0 a0 ts D es1 es2 pb G a w) (hm : Maxi D es2) {L1 : Loc} {S1 : St} (TR : Tra E call vars nt ops (es1 ++ es2) L0 S0 L1 S1)
include T M hm TR
theorem Sim.exec (H : EnvOk P E) (HC : CallOk P E B h0 call) (hg : GlobOk E G0) (hnd : ((es1 ++ es2).map (·.i)).Nodup) {e : Entry} {p s : List Entry} (hDi : D e.i = false) (hready : ∀ j, bef (befL ops []) j e.i = true → D j = true)
  (hτ : τ = p.map (·.i) ++ e.i :: (s.map (·.i) ++ ts)) (hsplit : es1 ++ es2 = p ++ e :: s) (htr : trOk E vars ops (befL ops []) (es1 ++ es2) = true) {opsA : Array Oper} (hA : opsA.toList = ops)
  {b : Frame} {k : List Item} {cs : List Frame} {rest : List Nat} :
  ∃ G' es1' es2' pb' a' w', es1' ++ es2' = es1 ++ es2 ∧ Sim E B h0 vars nt ops L0 S0 G0 a0 ts (upd D e.i) es1' es2' pb' G' a' w' ∧
   Steps P (lone (fat b a (.inRegion opsA (e.i :: rest) :: k)) cs w) (lone (fat b a' (.inRegion opsA rest :: k)) cs w') := by
 have hmem := tra_mem TR
 have he := hmem e (by rw [hsplit]; simp)
 have hops : ∀ y ∈ es1 ++ es2, ops[y.i]? = some y.o := fun y hy => (hmem y hy).1
 have hin := he.2.1
 have hsi : ∀ y ∈ s, y.i ≠ e.i := by
  intro y hy hE
  rw [hsplit, List.map_append, List.nodup_append] at hnd
  have := hnd.2.1
  rw [List.map_cons, List.nodup_cons] at this
  exact this.1 (by rw [← hE]; exact List.mem_map_of_mem hy)
 have hcut : ∀ c, ts.head? = some c → upd D e.i c = false := by
  intro c hc
  have hct : c ∈ ts := List.mem_of_mem_head? hc
  have hne : c ≠ e.i := by
   intro hE
   have hn := T.nodup
   rw [hτ, List.nodup_append, List.nodup_cons] at hn
   exact hn.2.1.1 (by rw [← hE]; simp [hct])
  rw [upd_ne hne]; exact M.cut c hc
 have hclosed : ∀ i j, upd D e.i i = true → bef (befL ops []) j i = true → upd D e.i j = true := by
  intro i j hi hb
  by_cases hie : i = e.i
  ·subst hie; exact upd_of (hready j hb)
  ·rw [upd_ne hie] at hi; exact upd_of (M.closed i j hi hb)
 obtain ⟨La, Sa, TP, TE⟩ := tra_append p (e :: s) _ _ _ _ (by rw [← hsplit]; exact TR)
 have heL : e.L = La := TE.2.2.1
 have heS : e.S = endS S0 p := by rw [← tra_endS _ _ _ _ _ TP]; exact TE.2.2.2.1
 have hnames : ∀ t ∈ namesOf ops e.o, Rep G (e.L.get vars t) (a.tmps.getD t undef) := by
  intro t ht
  rw [heL]
  exact M.names T hm he.1 hDi hready (s := e :: s) (rest := s.map (·.i) ++ ts) hτ hsplit (fun y hy => by
   rcases List.mem_cons.1 hy with h | h
   ·rw [h]; simp
   ·exact List.mem_cons_of_mem _ (List.mem_append_left _ (List.mem_map_of_mem h))) (fun j hj => by simp [hj]) hops TP ht
 have hρ := fun x => mask_rep (hg.mono M.le.toLe0) hnames x
 have hoA : opsA[e.i]? = some e.o := by have := he.1; rw [← hA] at this; simpa using this
 have hkeep : ∀ y ∈ es2, D y.i = true → opK y.o.op = .new → ∀ d, e.o.dst = some d → y.o.dst ≠ some d := fun y hy hDy hny d hd =>
  Sim.keep (es1 := es1) T M.closed hm he.1 hDi hready (s := e :: s) (u := []) (rest := s.map (·.i) ++ ts) (by simpa using hτ) hsplit (fun y hy => by
   rcases List.mem_cons.1 hy with h | h
   ·rw [h]; simp
   ·exact List.mem_cons_of_mem _ (List.mem_append_left _ (List.mem_map_of_mem h))) hops hy hDy hny hd
 have heq : ∀ y ∈ es1 ++ es2, y.i = e.i → y = e := fun y hy h => eq_of_nodup hnd hy (by rw [hsplit]; simp) h
 have hdput : ∀ y ∈ es2, D y.i = true → opK y.o.op = .new → ∀ d c, y.o.dst = some d → (a.put e.o.dst c).tmps.getD d undef = a.tmps.getD d undef := by
  intro y hy hDy hny d c hd
  exact getD_put_ne fun h => hkeep y hy hDy hny d h hd
 -- the boundary stays
 have stay : ∀ {G' : Gh} {c : Value} {w' : World} {pb' : Nat → Nat × Nat}, G.Le G' → InvW E B h0 G' (endS S0 es1) w' → (opK e.o.op ≠ .new → Rep G' e.v c) → opK e.o.op ≠ .act → (∀ j, j ≠ e.i → pb' j = pb j) →
   (opK e.o.op = .new → wantA vars ops e.o e.L = some false → ∀ d, e.o.dst = some d → c = undef) →
   (opK e.o.op = .new → wantA vars ops e.o e.L = some true → WPend B G0 G' (a.put e.o.dst c) e (pb' e.i)) →
   (opK e.o.op = .new → wantA vars ops e.o e.L = some true → ∀ y ∈ es2, y.i ≠ e.i → D y.i = true → opK y.o.op = .new → wantA vars ops y.o y.L = some true → (pb y.i).2 ≠ 0 → (pb y.i).1 ≠ (pb' e.i).1) →
   Sim E B h0 vars nt ops L0 S0 G0 a0 ts (upd D e.i) es1 es2 pb' G' (a.put e.o.dst c) w' := by
  intro G' c w' pb' hG I' hc hna hpb hu hp hpf
  refine ⟨hclosed, hcut, I', fun y hy hs => upd_of (M.st y hy hs), ?_, by rw [put_size]; exact M.size, by rw [put_defers]; exact M.defers, fun t ht => M.vals_put T hDi hτ hsplit hnd hops hin hG.toLe0 hc t ht, M.le.trans hG, ?_, ?_, ?_⟩
  ·intro y hy hDy
   by_cases hye : y.i = e.i
   ·rw [heq y (by simp [hy]) hye]; exact hna
   ·rw [upd_ne hye] at hDy; exact M.noact y hy hDy
  ·intro y hy hDy hny hwy d hd
   by_cases hye : y.i = e.i
   ·have hE := heq y (by simp [hy]) hye
    rw [hE] at hny hwy hd
    rw [hd]
    rw [hd] at hin
    rw [getD_put_self (by rw [M.size]; simpa [inFrame] using hin)]
    exact hu hny hwy d hd
   ·rw [upd_ne hye] at hDy
    rw [hdput y hy hDy hny d c hd]
    exact M.unw y hy hDy hny hwy d hd
  ·intro y hy hDy hny hwy
   by_cases hye : y.i = e.i
   ·have hE := heq y (by simp [hy]) hye
    rw [hE] at hny hwy ⊢
    exact hp hny hwy
   ·rw [upd_ne hye] at hDy
    obtain ⟨c', cv, cs', q1, q2, q3, q4, q5, q6, q7, q8⟩ := M.pend y hy hDy hny hwy
    rw [hpb _ hye]
    exact ⟨c', cv, cs', fun d hd => by rw [hdput y hy hDy hny d c hd]; exact q1 d hd, q2, q3.mono hG.toLe0, fun j x hx => hG.res _ _ _ (q4 j x hx), q5, q6, q7, q8⟩
  ·intro y hy y' hy' hDy hDy' hny hny' hwy hwy' hne h2 h2'
   by_cases hye : y.i = e.i
   ·have hye' : y'.i ≠ e.i := fun h => hne (by rw [hye, h])
    rw [upd_ne hye'] at hDy'
    have hE := heq y (by simp [hy]) hye
    rw [hE] at hny hwy ⊢
    rw [hpb _ hye'] at h2' ⊢
    exact fun h => hpf hny hwy y' hy' hye' hDy' hny' hwy' h2' h.symm
   ·rw [upd_ne hye] at hDy
    by_cases hye' : y'.i = e.i
    ·have hE := heq y' (by simp [hy']) hye'
     rw [hE] at hny' hwy' ⊢
     rw [hpb _ hye] at h2 ⊢
     exact hpf hny' hwy' y hy hye hDy hny hwy h2
    ·rw [upd_ne hye'] at hDy'
     rw [hpb _ hye] at h2 ⊢
     rw [hpb _ hye'] at h2' ⊢
     exact M.pbinj y hy y' hy' hDy hDy' hny hny' hwy hwy' hne h2 h2'
 -- an act is passed
 have pass : opK e.o.op = .act → ∀ {G' : Gh} {c : Value} {w' : World}, G.Le G' → InvW E B h0 G' e.S' w' → Rep G' e.v c →
   Sim E B h0 vars nt ops L0 S0 G0 a0 ts (upd D e.i) (p ++ [e]) s pb G' (a.put e.o.dst c) w' := by
  intro hk G' c w' hG I' hc
  obtain ⟨hp1, hp2⟩ := M.acts T hm he.1 hDi hready (s := e :: s) hτ hsplit hops hk (.inr ⟨e, s, rfl, rfl, rfl⟩)
  subst hp1
  subst hp2
  refine ⟨hclosed, hcut, by rw [endS_append]; exact I', ?_, ?_, by rw [put_size]; exact M.size, by rw [put_defers]; exact M.defers, fun t ht => ?_, M.le.trans hG, ?_, ?_, ?_⟩
  ·intro y hy hs
   rcases List.mem_append.1 hy with h | h
   ·exact upd_of (M.st y h hs)
   ·simp at h; subst h; exact upd_self
  ·intro y hy hDy
   rw [upd_ne (hsi y hy)] at hDy
   exact M.noact y (by simp [hy]) hDy
  ·have := M.vals_put T hDi hτ rfl hnd hops hin hG.toLe0 (fun _ => hc) t ht
   rw [fv_append]
   simp only [fv] at this ⊢
   have hpe : pv e = e.v := by unfold pv; rw [hk]; rfl
   rw [hpe] at this
   exact this
  ·intro y hy hDy hny hwy d hd
   rw [upd_ne (hsi y hy)] at hDy
   rw [hdput y (by simp [hy]) hDy hny d c hd]
   exact M.unw y (by simp [hy]) hDy hny hwy d hd
  ·intro y hy hDy hny hwy
   rw [upd_ne (hsi y hy)] at hDy
   obtain ⟨c', cv, cs', q1, q2, q3, q4, q5, q6, q7, q8⟩ := M.pend y (by simp [hy]) hDy hny hwy
   exact ⟨c', cv, cs', fun d hd => by rw [hdput y (by simp [hy]) hDy hny d c hd]; exact q1 d hd, q2, q3.mono hG.toLe0, fun j x hx => hG.res _ _ _ (q4 j x hx), q5, q6, q7, q8⟩
  ·intro y hy y' hy' hDy hDy'
   rw [upd_ne (hsi y hy)] at hDy
   rw [upd_ne (hsi y' hy')] at hDy'
   exact M.pbinj y (by simp [hy]) y' (by simp [hy']) hDy hDy'
 rcases he.2.2 with ⟨hw, heff⟩ | ⟨hw, hv, hS⟩
 ·have hwant := want_sound' (opsA := opsA) (by rw [hA]; exact hnames) (by rw [hA]; exact hw)
  by_cases hnew : opK e.o.op = .new
  ·-- new memory
   obtain ⟨v1, S1', hE, c, cv, et, cs', r1, r2, r3, r4⟩ := new_sound (w := w) (ρc := a.eval) H hρ hnew heff
   injection hE with hE1 hE2
   obtain ⟨G', g1, g2, g3, g4, g5⟩ := M.inv.toInv.pushRes (c := cv) (e := et)
   have hst := fstep_next (P := P) (b := b) (k := k) (cs := cs) (rest := rest) hoA hwant (.inr (by intro c hc; rw [hc] at hnew; simp [opK] at hnew)) r1 rfl
   refine ⟨G', es1, es2, fun j => if j = e.i then (w.heap.size, cv.size) else pb j, _, _, rfl, stay (c := c) (w' := { w with heap := w.heap.push (.cells cv et (0, 0)) }) g1 ⟨g5, M.inv.os, M.inv.out⟩ (fun h => absurd hnew h) (by rw [hnew]; simp) (fun j hj => by simp [hj]) (fun _ h => by rw [hw] at h; simp at h) ?_ ?_, .one hst⟩
   ·intro _ _
    refine ⟨c, cv.toList, cs', fun d hd => ?_, by rw [hE2]; exact r2, r3.mono g1.toLe0, fun j x hx => ?_, fun G'' h => ?_, fun o x hx => ?_, ?_, ?_⟩
    ·rw [hd]
     rw [hd] at hin
     exact getD_put_self (by rw [M.size]; simpa [inFrame] using hin)
    ·simp only [if_true]; exact g2 j x (by simpa using hx)
    ·rw [hE1]; exact r4 G'' (by simpa using h)
    ·simp only [if_true] at hx
     have := own_lt M.inv.toInv (b := w.heap.size) (o := o) (by rw [M.le.res _ _ _ hx]; simp)
     omega
    ·simp only [if_true]; exact M.inv.size
    ·simp
   ·intro _ _ y hy hye hDy hny hwy h2
    simp only [if_true]
    obtain ⟨c', cv', cs'', q1, q2, q3, q4, q5, q6, q7, q8⟩ := M.pend y hy hDy hny hwy
    have hlen : 0 < cv'.length := by omega
    have := own_lt M.inv.toInv (b := (pb y.i).1) (o := 0) (by rw [q4 0 _ (List.getElem?_eq_getElem hlen)]; simp)
    omega
  ·by_cases hact : opK e.o.op = .act
   ·obtain ⟨hp1, hp2⟩ := M.acts T hm he.1 hDi hready (s := e :: s) hτ hsplit hops hact (.inr ⟨e, s, rfl, rfl, rfl⟩)
    have IS : InvW E B h0 G e.S w := by rw [heS, ← hp1]; exact M.inv
    obtain ⟨G', c, w', k1, k2, k3, k4⟩ := eff_sound (b := b) (rest := rest) (k := k) (cs := cs) H HC IS (hg.mono M.le.toLe0) hρ heff hoA hwant
    exact ⟨G', p ++ [e], s, pb, _, w', by rw [hsplit]; simp, pass hact k1 k2 k3, k4⟩
   ·have hq : isState e.o = false := by
     unfold isState
     simp [hnew, hact]
    have heff' := M.reads T hm hDi hready hτ hsplit TR htr hq hw
    obtain ⟨G', c, w', k1, k2, k3, k4⟩ := eff_sound (b := b) (rest := rest) (k := k) (cs := cs) H HC M.inv (hg.mono M.le.toLe0) hρ heff' hoA hwant
    exact ⟨G', es1, es2, pb, _, w', rfl, stay k1 k2 (fun _ => k3) hact (fun _ _ => rfl) (fun h => absurd h hnew) (fun h => absurd h hnew) (fun h => absurd h hnew), k4⟩
 ·have hwant := want_sound' (opsA := opsA) (by rw [hA]; exact hnames) (by rw [hA]; exact hw)
  have hst := fstep_op_skip (P := P) (b := b) (a := a) (k := k) (cs := cs) (w := w) (ops := opsA) (i := e.i) (rest := rest) (by simp [hoA, hwant])
  simp only [hoA, Option.bind_some] at hst
  have hrn : Rep G e.v undef := by rw [hv]; exact Rep.tup' (Reps.nil G)
  by_cases hact : opK e.o.op = .act
  ·obtain ⟨hp1, hp2⟩ := M.acts T hm he.1 hDi hready (s := e :: s) hτ hsplit hops hact (.inr ⟨e, s, rfl, rfl, rfl⟩)
   have IS : InvW E B h0 G e.S' w := by rw [hS, heS, ← hp1]; exact M.inv
   exact ⟨G, p ++ [e], s, pb, _, w, by rw [hsplit]; simp, pass hact (.refl G) IS hrn, .one hst⟩
  ·exact ⟨G, es1, es2, pb, _, w, rfl, stay (.refl G) M.inv (fun _ => hrn) hact (fun _ _ => rfl) (fun _ _ _ _ => rfl) (fun _ h => by rw [hw] at h; simp at h) (fun _ h => by rw [hw] at h; simp at h), .one hst⟩
end
end Go.Vm
namespace Go.Vm
open Go
variable {P : Program} {E : Env} {B : Nat} {h0 : World} {G : Gh} {S S' : St} {w : World}
variable {call : CallF} {vars : List Tmp} {nt : Nat} {ops : List Oper} {L0 : Loc} {S0 : St} {G0 : Gh} {a0 : Act} {ts : List Nat}
variable {D : Nat → Bool} {es1 es2 : List Entry} {pb : Nat → Nat × Nat} {a : Act}
theorem putO_recs {L : Loc} {dst : Option Tmp} {v : AV} : (L.putO vars dst v).recs = L.recs ∧ (L.putO vars dst v).defers = L.defers ∧ (L.putO vars dst v).rnd = L.rnd := by
 cases dst with
 | none => exact ⟨rfl, rfl, rfl⟩
 | some d => simp only [Loc.putO, Loc.put]; split <;> exact ⟨rfl, rfl, rfl⟩
theorem tra_recs : ∀ (es : List Entry) (L : Loc) (S : St) (L' : Loc) (S' : St), Tra E call vars nt ops es L S L' S' → L'.recs = L.recs ∧ L'.defers = L.defers ∧ L'.rnd = L.rnd
 | [], L, S, L', S', h => by rw [h.1]; exact ⟨rfl, rfl, rfl⟩
 | e :: es, L, S, L', S', h => by
  obtain ⟨h1, h2, h3⟩ := tra_recs es _ _ _ _ h.2.2.2.2.2
  rw [h1, h2, h3]; exact putO_recs
theorem forget_recs : ∀ (l : List Oper) (L : Loc), (forget vars l L).recs = L.recs ∧ (forget vars l L).defers = L.defers ∧ (forget vars l L).rnd = L.rnd
 | [], L => ⟨rfl, rfl, rfl⟩
 | o :: l, L => by
  obtain ⟨h1, h2, h3⟩ := forget_recs l (L.putO vars o.dst .undef)
  simp only [forget]
  rw [h1, h2, h3]; exact putO_recs
theorem forget_le (t : Tmp) : ∀ (l : List Oper) (L : Loc), ((forget vars l L).get vars t).Le (L.get vars t)
 | [], L => .refl _
 | o :: l, L => by
  refine (forget_le t l _).trans ?_
  have := get_putO_le (vars := vars) (L := L) (dst := o.dst) (v := .undef) (t := t)
  split at this
  ·exact this.trans (.inl rfl)
  ·exact this
theorem forget_undef {t : Tmp} : ∀ (l : List Oper) (L : Loc), (∃ o ∈ l, o.dst = some t) → (forget vars l L).get vars t = .undef
 | [], L, h => by obtain ⟨o, ho, _⟩ := h; cases ho
 | o :: l, L, h => by
  by_cases hd : o.dst = some t
  ·have h1 := get_putO_le (vars := vars) (L := L) (dst := o.dst) (v := .undef) (t := t)
   rw [if_pos hd] at h1
   have h2 := (forget_le (vars := vars) t l (L.putO vars o.dst .undef)).trans h1
   simp only [forget]
   rcases h2 with h | h <;> exact h
  ·obtain ⟨o', ho, hd'⟩ := h
   rcases List.mem_cons.1 ho with h | h
   ·rw [h] at hd'; exact absurd hd' hd
   ·exact forget_undef l _ ⟨o', h, hd'⟩
section
variable {τ : List Nat} (T : Stat ops τ) (M : Sim E B h0 vars nt ops L0 S0 G0 a0 ts D es1 es2 pb G a w) (hm : Maxi D es2) {L1 : Loc} {S1 : St} (TR : Tra E call vars nt ops (es1 ++ es2) L0 S0 L1 S1)
include T M hm TR
/-- the operation that panics -/
theorem Sim.execPan (H : EnvOk P E) (HC : CallOk P E B h0 call) (hg : GlobOk E G0) {i : Nat} {v : AV} {S' : St} {js : List Nat} (hts : ts = i :: js) (hτ : τ = (es1 ++ es2).map (·.i) ++ i :: js) (hready : ∀ j, bef (befL ops []) j i = true → D j = true)
  (hpan : PanAt E call vars nt ops i L1 S1 v S') {opsA : Array Oper} (hA : opsA.toList = ops) {b : Frame} {k : List Item} {cs : List Frame} {rest : List Nat} (hL0 : LRel vars nt G0 L0 a0 b cs) :
  REnds P E B h0 vars nt G0 (lone (fat b a (.inRegion opsA (i :: rest) :: k)) cs w) b opsA k L0.recs cs (.pan v (forget vars ops L1) S') := by
 obtain ⟨o, ho, hin, hw, heff⟩ := hpan
 have hmem := tra_mem TR
 have hops : ∀ y ∈ es1 ++ es2, ops[y.i]? = some y.o := fun y hy => (hmem y hy).1
 have hDi : D i = false := M.cut i (by rw [hts]; rfl)
 have hact : opK o.op = .act := by
  cases hop : opK o.op with
  | act => rfl
  | new =>
   obtain ⟨v1, S1', hE, _⟩ := new_sound (w := w) (G := G) (ρ := fun _ => .undef) (ρc := a.eval) (P := P) (S := S1) H (fun _ => .undef _) hop (call := call) (eff := .pan v S') (by
    exfalso
    unfold effA at heff
    rw [hop] at heff
    simp only at heff
    generalize hoo : o.op = op at heff hop
    cases op <;> simp [opK] at hop <;> simp only [actA] at heff <;> (repeat' split at heff) <;> simp_all)
   cases hE
  | pure => obtain ⟨v1, hv⟩ := quiet_val heff (by rw [hop]; simp) (by rw [hop]; simp); cases hv
  | read => obtain ⟨v1, hv⟩ := quiet_val heff (by rw [hop]; simp) (by rw [hop]; simp); cases hv
 obtain ⟨hp1, hp2⟩ := M.acts T hm ho hDi hready (p := es1 ++ es2) (s := []) (rest := js) hτ (by simp) hops hact (.inl rfl)
 have hnames : ∀ t ∈ namesOf ops o, Rep G (L1.get vars t) (a.tmps.getD t undef) := fun t ht =>
  M.names T hm ho hDi hready (p := es1 ++ es2) (s := []) (rest := js) hτ (by simp) (fun y hy => by cases hy) (fun j hj => by rw [hts] at hj; exact hj) hops TR ht
 have hρ := fun x => mask_rep (hg.mono M.le.toLe0) hnames x
 have hoA : opsA[i]? = some o := by have := ho; rw [← hA] at this; simpa using this
 have hwant := want_sound' (opsA := opsA) (by rw [hA]; exact hnames) (by rw [hA]; exact hw)
 have IS : InvW E B h0 G S1 w := by
  have := tra_endS _ _ _ _ _ TR
  rw [this, ← hp1]; exact M.inv
 obtain ⟨G', c, w', k1, k2, k3, k4⟩ := eff_sound (b := b) (rest := rest) (k := k) (cs := cs) H HC IS (hg.mono M.le.toLe0) hρ heff hoA hwant
 obtain ⟨f1, f2, f3⟩ := forget_recs (vars := vars) ops L1
 obtain ⟨t1, t2, t3⟩ := tra_recs _ _ _ _ _ TR
 refine ⟨G', a, cs, w', c, _, M.le.trans k1, k2, ⟨M.size, fun t => ?_, ?_, ?_, ?_⟩, ?_, k3, k4⟩
 ·by_cases hd : ∃ o ∈ ops, o.dst = some t
  ·rw [forget_undef ops L1 hd]; exact .undef _
  ·have hno : ∀ o ∈ ops, o.dst ≠ some t := fun o ho h => hd ⟨o, ho, h⟩
   have hno' : ∀ y ∈ es1 ++ es2, y.o.dst ≠ some t := fun y hy => hno _ (List.mem_of_getElem? (hops y hy))
   refine Rep.le ((forget_le t ops L1).trans (tra_get t _ _ _ _ _ TR)) ?_
   rw [fv_none _ (fun y hy h => absurd h (hno' y hy))]
   have := M.vals t (fun j _ _ y hy => hno y (List.mem_of_getElem? hy))
   rw [fv_none (l := es2) _ (fun y hy h => absurd h (hno' y (by simp [hy]))), fv_none (l := es1) _ (fun y hy h => absurd h (hno' y (by simp [hy])))] at this
   exact this.mono k1.toLe0
 ·rw [f2, t2, M.defers]; exact hL0.defers.mono (M.le.trans k1).toLe0
 ·have := (hL0.mono (M.le.trans k1).toLe0).rnd
  rw [f3, t3]; exact this
 ·rw [f1, t1]; exact hL0.recs.mono (M.le.trans k1).toLe0
 ·rw [f1, t1]; exact .refl _ _
/-- an operation behind the panic -/
theorem Sim.execJunk (H : EnvOk P E) {i c0 : Nat} {js : List Nat} (hts : ts = c0 :: js) (hi : i ∈ js) (hτ : τ = (es1 ++ es2).map (·.i) ++ c0 :: js) (hDi : D i = false) (hready : ∀ j, bef (befL ops []) j i = true → D j = true)
  (hb : behindPan E nt (befL ops []) ops c0 i = true) {opsA : Array Oper} (hA : opsA.toList = ops) {b : Frame} {k : List Item} {cs : List Frame} {rest : List Nat} :
  ∃ G' a' w', Sim E B h0 vars nt ops L0 S0 G0 a0 ts (upd D i) es1 es2 pb G' a' w' ∧
   Steps P (lone (fat b a (.inRegion opsA (i :: rest) :: k)) cs w) (lone (fat b a' (.inRegion opsA rest :: k)) cs w') := by
 have hmem := tra_mem TR
 have hops : ∀ y ∈ es1 ++ es2, ops[y.i]? = some y.o := fun y hy => (hmem y hy).1
 have hcD : D c0 = false := M.cut c0 (by rw [hts]; rfl)
 unfold behindPan at hb
 have hnb : bef (befL ops []) c0 i = false := by
  cases h : bef (befL ops []) c0 i with
  | false => rfl
  | true => rw [hready _ h] at hcD; cases hcD
 rw [hnb, Bool.false_or] at hb
 cases ho : ops[i]? with
 | none => rw [ho] at hb; cases hb
 | some o =>
  rw [ho] at hb
  simp only [Bool.and_eq_true] at hb
  obtain ⟨⟨hin, hgd⟩, hop⟩ := hb
  have hgd' : o.guard = none := by simpa using hgd
  cases hoo : o.op <;> rw [hoo] at hop <;> try cases hop
  case alloc e =>
  simp only at hop
  cases hti : E.ti e with
  | none => rw [hti] at hop; cases hop
  | some x =>
  obtain ⟨c, cv, et, cs', r1, r2, r3, r4⟩ := alloc_new (P := P) (G := G) (S := S0) (w := w) (ρc := a.eval) H hoo hti
  have hoA : opsA[i]? = some o := by have := ho; rw [← hA] at this; simpa using this
  have hwant : Region.wanted o (yielded opsA a.tmps) = true := by simp [Region.wanted, hgd']
  have hst := fstep_next (P := P) (b := b) (k := k) (cs := cs) (rest := rest) hoA hwant (.inr (by intro c hc; rw [hoo] at hc; cases hc)) r1 rfl
  obtain ⟨G', g1, g2, g3, g4, g5⟩ := M.inv.toInv.pushRes (c := cv) (e := et)
  have hne : ∀ y ∈ es1 ++ es2, y.i ≠ i := by
   intro y hy hE
   have hn := T.nodup
   rw [hτ, List.nodup_append] at hn
   exact hn.2.2 y.i (List.mem_map_of_mem hy) i (by simp [hi]) hE
  have hnc : c0 ≠ i := by
   intro hE
   have hn := T.nodup
   rw [hτ, List.nodup_append, List.nodup_cons] at hn
   exact hn.2.1.1 (by rw [hE]; exact hi)
  obtain ⟨r1', r2', hr⟩ := List.append_of_mem hi
  have hkeep : ∀ y ∈ es2, D y.i = true → opK y.o.op = .new → ∀ d c, y.o.dst = some d → (a.put o.dst c).tmps.getD d undef = a.tmps.getD d undef := fun y hy hDy hny d c hd =>
   getD_put_ne fun h => Sim.keep (es1 := es1) T M.closed hm ho hDi hready (p := es1 ++ es2) (s := []) (u := c0 :: r1') (rest := r2') (by rw [hτ, hr]; simp) (by simp) (fun y hy => by cases hy) hops hy hDy hny h hd
  refine ⟨G', a.put o.dst c, { w with heap := w.heap.push (.cells cv et (0, 0)) }, ⟨?_, ?_, ⟨g5, M.inv.os, M.inv.out⟩, fun y hy hs => upd_of (M.st y hy hs), ?_, by rw [put_size]; exact M.size, by rw [put_defers]; exact M.defers, ?_, M.le.trans g1, ?_, ?_, ?_⟩, .one hst⟩
  ·intro i' j hi' hb'
   by_cases hie : i' = i
   ·subst hie; exact upd_of (hready j hb')
   ·rw [upd_ne hie] at hi'; exact upd_of (M.closed i' j hi' hb')
  ·intro c' hc'
   rw [hts] at hc'
   simp at hc'
   rw [← hc', upd_ne hnc]; exact hcD
  ·intro y hy hDy
   rw [upd_ne (hne y (by simp [hy]))] at hDy
   exact M.noact y hy hDy
  ·intro t ht
   have hdt : o.dst ≠ some t := ht i (by rw [hts]; simp [hi]) upd_self o ho
   rw [getD_put_ne hdt]
   rw [fv_congr (l := es1) (f' := (·.v)) (D' := D) _ (fun y hy _ => ⟨upd_ne (hne y (by simp [hy])), fun _ => rfl⟩),
    fv_congr (l := es2) (f' := pv) (D' := D) _ (fun y hy _ => ⟨upd_ne (hne y (by simp [hy])), fun _ => rfl⟩)]
   exact (M.vals t fun j hj hDj y hy => ht j hj (upd_of hDj) y hy).mono g1.toLe0
  ·intro y hy hDy hny hwy d hd
   rw [upd_ne (hne y (by simp [hy]))] at hDy
   rw [hkeep y hy hDy hny d c hd]
   exact M.unw y hy hDy hny hwy d hd
  ·intro y hy hDy hny hwy
   rw [upd_ne (hne y (by simp [hy]))] at hDy
   obtain ⟨c', cv', cs'', q1, q2, q3, q4, q5, q6, q7, q8⟩ := M.pend y hy hDy hny hwy
   exact ⟨c', cv', cs'', fun d hd => by rw [hkeep y hy hDy hny d c hd]; exact q1 d hd, q2, q3.mono g1.toLe0, fun j x hx => g1.res _ _ _ (q4 j x hx), q5, q6, q7, q8⟩
  ·intro y hy y' hy' hDy hDy'
   rw [upd_ne (hne y (by simp [hy]))] at hDy
   rw [upd_ne (hne y' (by simp [hy']))] at hDy'
   exact M.pbinj y hy y' hy' hDy hDy'
end
theorem countP_lt {p q : Nat → Bool} : ∀ {l : List Nat} {i : Nat}, i ∈ l → p i = true → q i = false → (∀ j, q j = true → p j = true) → l.countP q < l.countP p
 | [], i, h, _, _, _ => by cases h
 | x :: l, i, h, hp, hq, hle => by
  have hmono : l.countP q ≤ l.countP p := List.countP_mono_left fun x _ => hle x
  rcases List.mem_cons.1 h with rfl | h
  ·rw [List.countP_cons_of_neg (by simp [hq]), List.countP_cons_of_pos hp]; omega
  ·have := countP_lt h hp hq hle
   simp only [List.countP_cons]
   cases hx : q x with
   | true => rw [hle x hx]; simp; omega
   | false => simp; omega
/-- any run ends where the run here ends -/
theorem Sim.all {τ : List Nat} (T : Stat ops τ) (H : EnvOk P E) (HC : CallOk P E B h0 call) (hg : GlobOk E G0) {es : List Entry} {L1 : Loc} {S1 : St} (TR : Tra E call vars nt ops es L0 S0 L1 S1) (hnd : (es.map (·.i)).Nodup)
  (hτ : τ = es.map (·.i) ++ ts) (htr : trOk E vars ops (befL ops []) es = true) {opsA : Array Oper} (hA : opsA.toList = ops) {b : Frame} {k : List Item} {cs : List Frame} (hL0 : LRel vars nt G0 L0 a0 b cs) {out : Out}
  (hout : (ts = [] ∧ out = .ok L1 S1) ∨ ∃ i js v S', ts = i :: js ∧ PanAt E call vars nt ops i L1 S1 v S' ∧ js.all (behindPan E nt (befL ops []) ops i) = true ∧ out = .pan v (forget vars ops L1) S') :
  ∀ (fuel t : Nat) (listed : Array Bool) {es1 es2 : List Entry} {pb : Nat → Nat × Nat} {G : Gh} {a : Act} {w : World}, Sim E B h0 vars nt ops L0 S0 G0 a0 ts (fun i => listed.getD i false) es1 es2 pb G a w → Maxi (fun i => listed.getD i false) es2 → es1 ++ es2 = es →
   listed.size = opsA.size → (List.range opsA.size).countP (fun i => !listed.getD i false) ≤ fuel →
   REnds P E B h0 vars nt G0 (lone (fat b a (.inRegion opsA (Region.linearise.go .any opsA fuel t listed []) :: k)) cs w) b opsA k L0.recs cs out := by
 have hlen : opsA.size = ops.length := by rw [← hA]; simp
 -- all is done
 have fin : ∀ (listed : Array Bool) {es1 es2 : List Entry} {pb : Nat → Nat × Nat} {G : Gh} {a : Act} {w : World}, Sim E B h0 vars nt ops L0 S0 G0 a0 ts (fun i => listed.getD i false) es1 es2 pb G a w → Maxi (fun i => listed.getD i false) es2 → es1 ++ es2 = es →
   (∀ i, i < opsA.size → listed.getD i false = true) → REnds P E B h0 vars nt G0 (lone (fat b a (.inRegion opsA [] :: k)) cs w) b opsA k L0.recs cs out := by
  intro listed es1 es2 pb G a w M hm hes hall
  have hlt : ∀ (i : Nat) (o : Oper), ops[i]? = some o → i < opsA.size := by
   intro i o h
   rw [hlen]
   rcases Nat.lt_or_ge i ops.length with h' | h'
   ·exact h'
   ·rw [List.getElem?_eq_none h'] at h; cases h
  rcases hout with ⟨ht, ho⟩ | ⟨i, js, v, S', ht, hp, _, _⟩
  ·subst ho
   have h2 : es2 = [] := by
    cases es2 with
    | nil => rfl
    | cons e r =>
     have he := (tra_mem TR e (by rw [← hes]; simp)).1
     have := hall e.i (hlt _ _ he)
     have hm2 := hm.2
     simp only at hm2
     rw [this] at hm2; cases hm2
   subst h2
   simp only [List.append_nil] at hes
   subst hes
   obtain ⟨t1, t2, t3⟩ := tra_recs _ _ _ _ _ TR
   refine ⟨G, a, cs, w, M.le, ?_, ⟨M.size, fun t => ?_, ?_, ?_, ?_⟩, ?_, Steps.refl P _⟩
   ·rw [tra_endS _ _ _ _ _ TR]; exact M.inv
   ·refine Rep.le (tra_get t _ _ _ _ _ TR) ?_
    have := M.vals t (fun j hj => by rw [ht] at hj; cases hj)
    simp only [fv] at this
    rw [fv_congr (l := es1) (f' := (·.v)) (D' := allT) _ (fun y hy _ => ⟨hall y.i (hlt _ _ (tra_mem TR y hy).1), fun _ => rfl⟩)] at this
    exact this
   ·rw [t2, M.defers]; exact hL0.defers.mono M.le.toLe0
   ·have := (hL0.mono M.le.toLe0).rnd
    rw [t3]; exact this
   ·rw [t1]; exact hL0.recs.mono M.le.toLe0
   ·rw [t1]; exact .refl _ _
  ·obtain ⟨o, ho, _⟩ := hp
   have h1 := M.cut i (by rw [ht]; rfl)
   have h2 := hall i (hlt _ _ ho)
   rw [h2] at h1; cases h1
 intro fuel
 induction fuel with
 | zero =>
  intro t listed es1 es2 pb G a w M hm hes hsz hcnt
  simp only [Region.linearise.go, List.reverse_nil]
  refine fin listed M hm hes fun i hi => ?_
  have h0 : (List.range opsA.size).countP (fun i => !listed.getD i false) = 0 := by omega
  rw [List.countP_eq_zero] at h0
  have := h0 i (by simpa using hi)
  simpa using this
 | succ fuel ih =>
  intro t listed es1 es2 pb G a w M hm hes hsz hcnt
  have hunf : Region.linearise.go .any opsA (fuel + 1) t listed [] = match (Region.ready .any opsA listed)[t % (Region.ready .any opsA listed).length]? with
    | some i => Region.linearise.go .any opsA fuel (t / (Region.ready .any opsA listed).length) (listed.setIfInBounds i true) [i]
    | none => [] := rfl
  cases hr : (Region.ready .any opsA listed)[t % (Region.ready .any opsA listed).length]? with
  | none =>
   rw [hunf, hr]
   simp only
   refine fin listed M hm hes ?_
   have hnil : Region.ready .any opsA listed = [] := by
    rw [List.getElem?_eq_none_iff] at hr
    rcases Nat.eq_zero_or_pos (Region.ready .any opsA listed).length with h | h
    ·exact List.eq_nil_of_length_eq_zero h
    ·have := Nat.mod_lt t h
     omega
   intro i
   induction i using Nat.strongRecOn with
   | ind i ihi =>
    intro hi
    cases hli : listed.getD i false with
    | true => rfl
    | false =>
     have ho : opsA[i]? = some opsA[i] := Array.getElem?_eq_getElem hi
     have : i ∈ Region.ready .any opsA listed := by
      rw [mem_ready]
      refine ⟨?_, opsA[i], ho, fun e he hb => ?_⟩
      ·rw [Array.getD_eq_getD_getElem?] at hli ⊢
       rw [Array.getElem?_eq_getElem (by rw [hsz]; exact hi)] at hli ⊢
       exact hli
      ·have hlt := T.back i opsA[i] (by rw [← hA]; simpa using ho) e he hb
       exact ihi e.on hlt (by omega)
     rw [hnil] at this
     cases this
  | some i =>
   rw [hunf, hr]
   simp only
   rw [linearise_go_acc]
   simp only [List.reverse_cons, List.reverse_nil, List.nil_append, List.singleton_append]
   have hmem : i ∈ Region.ready .any opsA listed := List.mem_of_getElem? hr
   rw [mem_ready] at hmem
   obtain ⟨hl1, o, hoA, hpre⟩ := hmem
   have hi : i < opsA.size := (Array.getElem?_eq_some_iff.1 hoA).1
   have ho : ops[i]? = some o := by rw [← hA]; simpa using hoA
   have hDi : listed.getD i false = false := by
    rw [Array.getD_eq_getD_getElem?] at hl1 ⊢
    rw [Array.getElem?_eq_getElem (by rw [hsz]; exact hi)] at hl1 ⊢
    exact hl1
   have hready : ∀ j, bef (befL ops []) j i = true → listed.getD j false = true := by
    intro j hb
    obtain ⟨e, he, hbi, h⟩ := bef_spec ho hb
    have hD := hpre e he hbi
    rcases h with h | ⟨_, h⟩
    ·rw [← h]; exact hD
    ·exact M.closed e.on j hD h
   have hupd : (fun j => (listed.setIfInBounds i true).getD j false) = upd (fun j => listed.getD j false) i := by
    funext j
    by_cases hj : j = i
    ·subst hj
     rw [upd_self]
     simp [hsz, hi]
    ·rw [upd_ne hj]
     exact getD_set_ne false (Ne.symm hj)
   have hcnt' : (List.range opsA.size).countP (fun j => !(listed.setIfInBounds i true).getD j false) ≤ fuel := by
    have := countP_lt (l := List.range opsA.size) (i := i) (p := fun j => !listed.getD j false) (q := fun j => !(listed.setIfInBounds i true).getD j false) (by simpa using hi) (by simp only [hDi]; rfl)
     (by have := congrFun hupd i; rw [this, upd_self]; rfl) (fun j hj => by
      have := congrFun hupd j
      rw [this] at hj
      unfold upd at hj
      simp only [Bool.not_or, Bool.and_eq_true] at hj
      exact hj.2)
    omega
   have hsz' : (listed.setIfInBounds i true).size = opsA.size := by simp [hsz]
   have hiτ : i ∈ es.map (·.i) ++ ts := by rw [← hτ]; exact T.all i (by omega)
   rcases List.mem_append.1 hiτ with hie | hit
   ·obtain ⟨e, hee, hei⟩ := List.mem_map.1 hie
    obtain ⟨p, s, hps⟩ := List.append_of_mem hee
    subst hei
    obtain ⟨G', es1', es2', pb', a', w', k1, k2, k3⟩ := M.exec T hm (by rw [hes]; exact TR) H HC hg (by rw [hes]; exact hnd) (e := e) (p := p) (s := s) hDi hready (by rw [hτ, hps]; simp) (by rw [hes, hps]) (by rw [hes]; exact htr) hA (b := b) (k := k) (cs := cs) (rest := Region.linearise.go .any opsA fuel (t / (Region.ready .any opsA listed).length) (listed.setIfInBounds e.i true) [])
    obtain ⟨G'', f1, f2, q1, q2, q3⟩ := Sim.advance es2' es1' G' k2 (by rw [k1, hes]; exact TR) (by rw [k1, hes]; exact hnd)
    rw [← hupd] at q2 q3
    exact REnds.head (.refl G0) k3 (.refl _ _) (ih _ _ q2 q3 (by rw [q1, k1, hes]) hsz' hcnt')
   ·rcases hout with ⟨ht, _⟩ | ⟨c, js, v, S', ht, hp, hj, ho'⟩
    ·rw [ht] at hit; cases hit
    ·subst ho'
     rw [ht] at hit
     rcases List.mem_cons.1 hit with h | h
     ·subst h
      exact M.execPan T hm (by rw [hes]; exact TR) H HC hg ht (by rw [hes, ← ht]; exact hτ) hready hp hA hL0
     ·rw [List.all_eq_true] at hj
      obtain ⟨G', a', w', k2, k3⟩ := M.execJunk T hm (by rw [hes]; exact TR) H ht h (by rw [hes, ← ht]; exact hτ) hDi hready (hj i h) hA (b := b) (k := k) (cs := cs) (rest := Region.linearise.go .any opsA fuel (t / (Region.ready .any opsA listed).length) (listed.setIfInBounds i true) [])
      obtain ⟨G'', f1, f2, q1, q2, q3⟩ := Sim.advance es2 es1 G' k2 (by rw [hes]; exact TR) (by rw [hes]; exact hnd)
      rw [← hupd] at q2 q3
      exact REnds.head (.refl G0) k3 (.refl _ _) (ih _ _ q2 q3 (by rw [q1, hes]) hsz' hcnt')
theorem draw_sound (H : EnvOk P E) (HC : CallOk P E B h0 call) (I : InvW E B h0 G S w) (hg : GlobOk E G) {L : Loc} {a : Act} {b : Frame} {cs : List Frame} (hL : LRel vars nt G L a b cs) {opsA : Array Oper} {k : List Item} {out : Out}
  (h : drawA E call vars nt opsA.toList L S = some out) (t : Nat) : REnds P E B h0 vars nt G (lone (fat b a (.inRegion opsA (Region.linearise .any opsA t) :: k)) cs w) b opsA k L.recs cs out := by
 unfold drawA at h
 simp only at h
 split at h
 ·rename_i hok
  have T := drawOk_stat hok
  have main : ∀ (es : List Entry) (L1 : Loc) (S1 : St) (ts : List Nat), Tra E call vars nt opsA.toList es L S L1 S1 → (tauOf (befL opsA.toList []) opsA.toList.zipIdx []).map (·.2) = es.map (·.i) ++ ts → trOk E vars opsA.toList (befL opsA.toList []) es = true →
    ((ts = [] ∧ out = .ok L1 S1) ∨ ∃ i js v S', ts = i :: js ∧ PanAt E call vars nt opsA.toList i L1 S1 v S' ∧ js.all (behindPan E nt (befL opsA.toList []) opsA.toList i) = true ∧ out = .pan v (forget vars opsA.toList L1) S') →
    REnds P E B h0 vars nt G (lone (fat b a (.inRegion opsA (Region.linearise .any opsA t) :: k)) cs w) b opsA k L.recs cs out := by
   intro es L1 S1 ts TR hτ htr hout
   have hnd : (es.map (·.i)).Nodup := by
    have := T.nodup
    rw [hτ, List.nodup_append] at this
    exact this.1
   have hfalse : ∀ i, (Array.replicate opsA.size false).getD i false = false := by
    intro i
    rw [Array.getD_eq_getD_getElem?, Array.getElem?_replicate]
    split <;> rfl
   have M0 : Sim E B h0 vars nt opsA.toList L S G a ts (fun i => (Array.replicate opsA.size false).getD i false) [] es (fun _ => (0, 0)) G a w := by
    refine ⟨fun i j hi => ?_, fun c _ => hfalse c, I, (fun y hy => by cases hy), fun y _ hy => ?_, hL.size, rfl, fun t _ => ?_, .refl G, fun y _ hy => ?_, fun y _ hy => ?_, fun y _ y' _ hy => ?_⟩
    ·rw [hfalse] at hi; cases hi
    ·rw [hfalse] at hy; cases hy
    ·rw [fv_none (l := es) _ (fun y _ _ => hfalse y.i)]
     exact hL.get t
    ·rw [hfalse] at hy; cases hy
    ·rw [hfalse] at hy; cases hy
    ·rw [hfalse] at hy; cases hy
   obtain ⟨G', f1, f2, q1, q2, q3⟩ := Sim.advance es [] G M0 TR hnd
   exact Sim.all T H HC hg TR hnd hτ htr rfl hL hout opsA.size t (Array.replicate opsA.size false) q2 q3 q1 (by simp) (by
    refine Nat.le_trans List.countP_le_length ?_
    simp)
  split at h
  ·rename_i tr L' S' hrun
   have := runT_tra _ _ _ _ _ hrun
   split at h
   ·rename_i htr
    cases h
    exact main tr _ _ [] this.2 (by rw [this.1]; simp) htr (.inl ⟨rfl, rfl⟩)
   ·cases h
  ·rename_i tr v L' S' i rest hrun
   obtain ⟨S1, h1, h2, h3⟩ := runT_tra _ _ _ _ _ hrun
   split at h
   ·rename_i htr
    cases h
    simp only [Bool.and_eq_true] at htr
    exact main tr _ _ (i :: rest) h2 h1 htr.1 (.inr ⟨i, rest, v, S', rfl, h3, htr.2, rfl⟩)
   ·cases h
  ·cases h
 ·cases h
end Go.Vm
