/-
Calls that are known from any world. No conditions.
-/
import Derived.Test.YtjfnelfdlemfgaaGreatDoorVmH
set_option linter.all false
set_option maxHeartbeats 4000000
namespace Go.Vm
open Go
mutual
/-- without leave to append in place -/
def AV.dead : AV → AV
 | .slice es _ => .slice (AV.deadL es) .dead
 | .agg cs => .agg (AV.deadL cs)
 | .tup cs => .tup (AV.deadL cs)
 | .rptr cs => .rptr (AV.deadL cs)
 | .iface t v => .iface t (AV.dead v)
 | .fn f a b => .fn f (AV.deadL a) (AV.deadL b)
 | .fref f a b => .fref f (AV.deadL a) (AV.deadL b)
 | .rmap a b => .rmap a (AV.deadL b)
 | .undef => .undef
 | .bool b => .bool b
 | .int k z => .int k z
 | .str s => .str s
 | .nilp => .nilp
 | .ptr i o => .ptr i o
 | .nils => .nils
 | .rsl a b c d => .rsl a b c d
 | .nilm => .nilm
 | .map i => .map i
 | .yld i => .yld i
 | .nilf => .nilf
 | .nili => .nili
def AV.deadL : List AV → List AV
 | [] => []
 | a :: x => AV.dead a :: AV.deadL x
end
mutual
/-- no memory that may be written -/
def AV.pers : AV → Bool
 | .slice es tk => AV.persL es && (match tk with | .dead => true | _ => false)
 | .agg cs => AV.persL cs
 | .tup cs => AV.persL cs
 | .rptr cs => AV.persL cs
 | .iface _ v => AV.pers v
 | .fn _ a b => AV.persL a && AV.persL b
 | .fref _ a b => AV.persL a && AV.persL b
 | .rmap a b => AV.persL a && AV.persL b
 | .undef => true
 | .bool _ => true
 | .int _ _ => true
 | .str _ => true
 | .nilp => true
 | .ptr _ _ => false
 | .nils => true
 | .rsl _ _ _ _ => false
 | .nilm => true
 | .map _ => false
 | .yld _ => false
 | .nilf => true
 | .nili => true
def AV.persL : List AV → Bool
 | [] => true
 | a :: x => AV.pers a && AV.persL x
end
theorem AV.deadL_map : ∀ l : List AV, AV.deadL l = l.map AV.dead
 | [] => rfl
 | a :: x => by simp [AV.deadL, AV.deadL_map x]
theorem AV.persL_iff : ∀ {l : List AV}, AV.persL l = true ↔ ∀ x ∈ l, x.pers = true
 | [] => by simp [AV.persL]
 | a :: x => by simp [AV.persL, AV.persL_iff (l := x)]
theorem AV.dead_cells (v : AV) : v.dead.cells = v.cells.map AV.dead := by
 cases v <;> simp [AV.dead, AV.cells, AV.deadL_map]
theorem AV.dead_flat : ∀ es : List AV, (AV.deadL es).flatMap AV.cells = (es.flatMap AV.cells).map AV.dead
 | [] => rfl
 | a :: x => by simp [AV.deadL, AV.dead_cells, AV.dead_flat x]
theorem Rep.dead {G : Gh} {v : AV} {c : Value} (h : Rep G v c) : Rep G v.dead c := by
 induction h with
 | undef c => exact .undef c
 | bool b => exact .bool b
 | int k n => exact .int k n
 | str s => exact .str s
 | nilp => exact .nilp
 | ptr i off b o h => exact .ptr i off b o h
 | rptr cs b o h1 h2 ih =>
  simp only [AV.dead, AV.deadL_map]
  refine .rptr _ b o (fun j hj => h1 j (by simpa using hj)) (fun j x y hx hy => ?_)
  rw [List.getElem?_map] at hx
  cases hxj : cs[j]? with
  | none => rw [hxj] at hx; cases hx
  | some z => rw [hxj] at hx; cases hx; exact ih j z y hxj hy
 | nils => exact .nils
 | slice es tk b o n cap sz hn hsz hcap h1 h2 ht ih =>
  simp only [AV.dead]
  refine .slice _ .dead b o n cap sz (by rw [AV.deadL_map]; simpa using hn) (fun e he => ?_) hcap (fun j hj => h1 j (by rw [AV.dead_flat] at hj; simpa using hj)) (fun j x y hx hy => ?_) trivial
  ·rw [AV.deadL_map] at he
   obtain ⟨e', he', rfl⟩ := List.mem_map.1 he
   rw [AV.dead_cells]; simpa using hsz e' he'
  ·rw [AV.dead_flat, List.getElem?_map] at hx
   cases hxj : (es.flatMap AV.cells)[j]? with
   | none => rw [hxj] at hx; cases hx
   | some z => rw [hxj] at hx; cases hx; exact ih j z y hxj hy
 | slice0 ad => exact .slice0 ad
 | rsl i off len cap b o h hl => exact .rsl i off len cap b o h hl
 | grw i len b o cap h h0 hl ht => exact .grw i len b o cap h h0 hl ht
 | nilm => exact .nilm
 | map i b h => exact .map i b h
 | fn f fs cs fs' cs' hf hc h1 h2 ih1 ih2 =>
  simp only [AV.dead, AV.deadL_map]
  refine .fn f _ _ fs' cs' (by simpa using hf) (by simpa using hc) (fun j x y hx hy => ?_) (fun j x y hx hy => ?_)
  ·rw [List.getElem?_map] at hx
   cases hxj : fs[j]? with
   | none => rw [hxj] at hx; cases hx
   | some z => rw [hxj] at hx; cases hx; exact ih1 j z y hxj hy
  ·rw [List.getElem?_map] at hx
   cases hxj : cs[j]? with
   | none => rw [hxj] at hx; cases hx
   | some z => rw [hxj] at hx; cases hx; exact ih2 j z y hxj hy
 | fref f fs cs fs' cs' hf hc h1 h2 ih1 ih2 =>
  simp only [AV.dead, AV.deadL_map]
  refine .fref f _ _ fs' cs' (by simpa using hf) (by simpa using hc) (fun j x y hx hy => ?_) (fun j x y hx hy => ?_)
  ·rw [List.getElem?_map] at hx
   cases hxj : fs[j]? with
   | none => rw [hxj] at hx; cases hx
   | some z => rw [hxj] at hx; cases hx; exact ih1 j z y hxj hy
  ·rw [List.getElem?_map] at hx
   cases hxj : cs[j]? with
   | none => rw [hxj] at hx; cases hx
   | some z => rw [hxj] at hx; cases hx; exact ih2 j z y hxj hy
 | rmap ks vs b en fs ck h hp ha hk hv h1 h2 ih1 ih2 =>
  simp only [AV.dead, AV.deadL_map]
  refine .rmap ks _ b en fs ck h hp ha hk (by simpa using hv) h1 (fun j x y hx hy => ?_)
  rw [List.getElem?_map] at hx
  cases hxj : vs[j]? with
  | none => rw [hxj] at hx; cases hx
  | some z => rw [hxj] at hx; cases hx; exact ih2 j z y hxj hy
 | yld i b h => exact .yld i b h
 | nilf => exact .nilf
 | iface t v c h ih => exact .iface t _ c ih
 | nili => exact .nili
 | agg xs ys hl h ih =>
  simp only [AV.dead, AV.deadL_map]
  refine .agg _ ys (by simpa using hl) (fun j x y hx hy => ?_)
  rw [List.getElem?_map] at hx
  cases hxj : xs[j]? with
  | none => rw [hxj] at hx; cases hx
  | some z => rw [hxj] at hx; cases hx; exact ih j z y hxj hy
 | tup xs ys hl h ih =>
  simp only [AV.dead, AV.deadL_map]
  refine .tup _ ys (by simpa using hl) (fun j x y hx hy => ?_)
  rw [List.getElem?_map] at hx
  cases hxj : xs[j]? with
  | none => rw [hxj] at hx; cases hx
  | some z => rw [hxj] at hx; cases hx; exact ih j z y hxj hy
theorem Reps.dead {G : Gh} {xs : List AV} {ys : List Value} (h : Reps G xs ys) : Reps G (xs.map AV.dead) ys := by
 refine ⟨by simpa using h.1, fun j x y hx hy => ?_⟩
 rw [List.getElem?_map] at hx
 cases hxj : xs[j]? with
 | none => rw [hxj] at hx; cases hx
 | some z => rw [hxj] at hx; cases hx; exact (h.2 j z y hxj hy).dead
theorem pers_get {l : List AV} (h : AV.persL l = true) {j : Nat} {x : AV} (hx : l[j]? = some x) : x.pers = true := AV.persL_iff.1 h x (List.mem_of_getElem? hx)
theorem pers_cells {v : AV} (h : v.pers = true) : AV.persL v.cells = true := by
 cases v <;> simp_all [AV.pers, AV.cells, AV.persL]
theorem pers_flat {es : List AV} (h : AV.persL es = true) : AV.persL (es.flatMap AV.cells) = true := by
 rw [AV.persL_iff] at h ⊢
 intro x hx
 obtain ⟨e, he, hxe⟩ := List.mem_flatMap.1 hx
 exact AV.persL_iff.1 (pers_cells (h e he)) x hxe
/-- what has no memory that may be written is seen alike where the memory that is not written again is the same -/
theorem Rep.carry {G G' : Gh} (hi : ∀ b o c, G.own b o = .imm c → G'.own b o = .imm c) (hm : G'.rm = G.rm) {v : AV} {c : Value} (h : Rep G v c) (hp : v.pers = true) : Rep G' v c := by
 induction h with
 | undef c => exact .undef c
 | bool b => exact .bool b
 | int k n => exact .int k n
 | str s => exact .str s
 | nilp => exact .nilp
 | ptr i off b o h => simp [AV.pers] at hp
 | rptr cs b o h1 h2 ih =>
  simp only [AV.pers] at hp
  refine .rptr _ b o (fun j hj => ?_) (fun j x y hx hy => ?_)
  ·obtain ⟨y, hy⟩ := h1 j hj
   exact ⟨y, hi _ _ _ hy⟩
  ·have hj : j < cs.length := by
    rcases Nat.lt_or_ge j cs.length with h | h
    ·exact h
    ·rw [List.getElem?_eq_none h] at hx; cases hx
   obtain ⟨y', hy'⟩ := h1 j hj
   have := hi _ _ _ hy'
   rw [this] at hy
   cases hy
   exact ih j x _ hx hy' (pers_get hp hx)
 | nils => exact .nils
 | slice es tk b o n cap sz hn hsz hcap h1 h2 ht ih =>
  simp only [AV.pers, Bool.and_eq_true] at hp
  obtain ⟨hp, htk⟩ := hp
  refine .slice es tk b o n cap sz hn hsz hcap (fun j hj => ?_) (fun j x y hx hy => ?_) ?_
  ·obtain ⟨y, hy⟩ := h1 j hj
   exact ⟨y, hi _ _ _ hy⟩
  ·have hj : j < (es.flatMap AV.cells).length := by
    rcases Nat.lt_or_ge j (es.flatMap AV.cells).length with h | h
    ·exact h
    ·rw [List.getElem?_eq_none h] at hx; cases hx
   obtain ⟨y', hy'⟩ := h1 j hj
   have := hi _ _ _ hy'
   rw [this] at hy
   cases hy
   exact ih j x _ hx hy' (pers_get (pers_flat hp) hx)
  ·cases tk <;> simp_all [TkOk]
 | slice0 ad => exact .slice0 ad
 | rsl i off len cap b o h hl => simp [AV.pers] at hp
 | grw i len b o cap h h0 hl ht => simp [AV.pers] at hp
 | nilm => exact .nilm
 | map i b h => simp [AV.pers] at hp
 | fn f fs cs fs' cs' hf hc h1 h2 ih1 ih2 =>
  simp only [AV.pers, Bool.and_eq_true] at hp
  exact .fn f fs cs fs' cs' hf hc (fun j x y hx hy => ih1 j x y hx hy (pers_get hp.1 hx)) (fun j x y hx hy => ih2 j x y hx hy (pers_get hp.2 hx))
 | fref f fs cs fs' cs' hf hc h1 h2 ih1 ih2 =>
  simp only [AV.pers, Bool.and_eq_true] at hp
  exact .fref f fs cs fs' cs' hf hc (fun j x y hx hy => ih1 j x y hx hy (pers_get hp.1 hx)) (fun j x y hx hy => ih2 j x y hx hy (pers_get hp.2 hx))
 | rmap ks vs b en fs ck h hq ha hk hv h1 h2 ih1 ih2 =>
  simp only [AV.pers, Bool.and_eq_true] at hp
  exact .rmap ks vs b en fs ck (by rw [hm]; exact h) hq ha hk hv (fun j x y hx hy => ih1 j x y hx hy (pers_get hp.1 hx)) (fun j x y hx hy => ih2 j x y hx hy (pers_get hp.2 hx))
 | yld i b h => simp [AV.pers] at hp
 | nilf => exact .nilf
 | iface t v c h ih => exact .iface t v c (ih (by simpa [AV.pers] using hp))
 | nili => exact .nili
 | agg xs ys hl h ih =>
  simp only [AV.pers] at hp
  exact .agg xs ys hl (fun j x y hx hy => ih j x y hx hy (pers_get hp hx))
 | tup xs ys hl h ih =>
  simp only [AV.pers] at hp
  exact .tup xs ys hl (fun j x y hx hy => ih j x y hx hy (pers_get hp hx))
theorem Reps.carry {G G' : Gh} (hi : ∀ b o c, G.own b o = .imm c → G'.own b o = .imm c) (hm : G'.rm = G.rm) {xs : List AV} {ys : List Value} (h : Reps G xs ys) (hp : AV.persL xs = true) : Reps G' xs ys :=
 ⟨h.1, fun j x y hx hy => (h.2 j x y hx hy).carry hi hm (pers_get hp hx)⟩
def FRes.pers : FRes → Bool
 | .ret v => v.pers
 | .pan v => v.pers
/-- the library is known, there and in all worlds that come of it -/
def LibAt (P : Program) (E : Env) (B : Nat) (h0 : World) : Prop :=
 ∃ Q : Nat → World → Prop, Q B h0 ∧ (∀ B h0, Q B h0 → LibOk P E B h0) ∧ (∀ B h0 G S w, Q B h0 → InvW E B h0 G S w → Q w.heap.size w)
theorem LibAt.ok {P : Program} {E : Env} {B : Nat} {h0 : World} (h : LibAt P E B h0) : LibOk P E B h0 := by
 obtain ⟨Q, h1, h2, _⟩ := h
 exact h2 _ _ h1
theorem LibAt.keep {P : Program} {E : Env} {B : Nat} {h0 : World} {G : Gh} {S : St} {w : World} (h : LibAt P E B h0) (I : InvW E B h0 G S w) : LibAt P E w.heap.size w := by
 obtain ⟨Q, h1, h2, h3⟩ := h
 exact ⟨Q, h3 _ _ _ _ _ h1 I, h2, h3⟩
/-- what a function does, from any world -/
def Sound (P : Program) (E : Env) (f : FuncId) (args : List AV) (r : FRes) : Prop :=
 ∀ (w : World) (G : Gh) (cargs : Array Value), LibAt P E w.heap.size w → InvW E w.heap.size w G S0 w → G.lo = w.heap.size → GlobOk E G → Reps G args cargs.toList →
  (∃ fi, E.fn f = some fi ∧ fi.fn.body.isSome = true) ∧ Calls P f cargs w fun e w' => ∃ G' S', G.Le G' ∧ InvW E w.heap.size w G' S' w' ∧ FEnd G' r e
def GlobPers (E : Env) : Prop := ∀ g cs, E.glob g = some cs → AV.persL cs = true
def SumOk (P : Program) (E : Env) (sum : FuncId → List AV → Option FRes) : Prop :=
 ∀ f a r, sum f a = some r → AV.persL a = true ∧ r.pers = true ∧ Sound P E f a r
/-- what lies there for good, alone -/
def Gh.start (G : Gh) (n : Nat) : Gh := {
 obj := fun _ => none
 tok := fun _ => none
 own := fun b o => match G.own b o with
  | .imm c => .imm c
  | _ => .none
 blk := fun _ => none
 rm := G.rm
 ro := fun _ => none
 lo := n }
theorem Gh.start_imm {G : Gh} {n b o : Nat} {c : Value} : (G.start n).own b o = .imm c ↔ G.own b o = .imm c := by
 simp only [Gh.start]
 split
 ·rename_i h; rw [h]
 ·rename_i h
  constructor
  ·intro k; cases k
  ·intro k; exact absurd k (h c)
section
variable {P : Program} {E : Env} {B : Nat} {h0 : World} {G : Gh} {S : St} {w : World}
theorem start_of (I : InvW E B h0 G S w) : InvW E w.heap.size w (G.start w.heap.size) S0 w := by
 refine ⟨⟨fun b _ => rfl, Nat.le_refl _, fun b o c k => I.imm _ _ _ (Gh.start_imm.1 k), fun b o c k => ?_, fun b o k => ?_, fun b k => rfl, fun i o k => ?_, fun i _ => ⟨rfl, rfl⟩, fun b i k => (by cases k), fun b en ck k => ?_, fun b x k => (by cases k), Nat.le_refl _⟩, rfl, rfl⟩
 ·simp only [Gh.start] at k
  split at k <;> cases k
 ·simp only [Gh.start]
  rw [I.fresh b o k]
 ·have := St.get_lt k
  simp [S0] at this
 ·obtain ⟨h1, h2, h3⟩ := I.rm b en ck k
  exact ⟨by have := I.size; omega, by rw [I.old b h1]; exact h2, h3⟩
theorem cl_same {h h' : Array Obj} {b o : Nat} (e : h'[b]? = h[b]?) : cl h' b o = cl h b o := by unfold cl; rw [e]
theorem fz_same {h h' : Array Obj} {b o : Nat} (e : h'[b]? = h[b]?) : fz h' b o = fz h b o := by unfold fz; rw [e]
theorem frame_of (I : InvW E B h0 G S w) {G2 : Gh} {S2 : St} {w' : World} (hG : (G.start w.heap.size).Le G2) (I2 : InvW E w.heap.size w G2 S2 w') :
  ∃ G'', G.Le G'' ∧ InvW E B h0 G'' S w' ∧ ∀ b o c, G2.own b o = .imm c → G''.own b o = .imm c := by
 let G'' : Gh := { G with own := fun b o => if b < w.heap.size then G.own b o else match G2.own b o with | .imm c => .imm c | _ => .none }
 have hlow : ∀ b o, b < w.heap.size → G''.own b o = G.own b o := fun b o hb => by simp only [G'']; rw [if_pos hb]
 have himm : ∀ b o c, ¬ b < w.heap.size → G''.own b o = .imm c → G2.own b o = .imm c := by
  intro b o c hb k
  simp only [G''] at k
  rw [if_neg hb] at k
  split at k
  ·rename_i c' hc; rw [hc]; exact k
  ·cases k
 have hres : ∀ b o c, ¬ b < w.heap.size → G''.own b o ≠ .res c := by
  intro b o c hb k
  simp only [G''] at k
  rw [if_neg hb] at k
  split at k <;> cases k
 have hsame : ∀ b, b < w.heap.size → w'.heap[b]? = w.heap[b]? := I2.old
 have hle : G.Le G'' := by
  refine ⟨⟨fun _ _ k => k, fun _ _ k => k, fun b o c k => ?_, rfl, rfl, fun _ _ k => k, fun b o c hb k => ?_⟩, fun b o c k => ?_⟩
  ·rw [hlow _ _ (own_lt I.toInv (by rw [k]; simp))]; exact k
  ·rw [hlow _ _ (by have := I.low; have := I.size; omega)] at k; exact k
  ·rw [hlow _ _ (own_lt I.toInv (by rw [k]; simp))]; exact k
 refine ⟨G'', hle, ⟨⟨fun b hb => ?_, ?_, fun b o c k => ?_, fun b o c k => ?_, fun b o k => ?_, fun b k => ?_, fun i o k => ?_, fun i hi => I.ids i hi, fun b i k => ?_, I.rm, fun b x k => (by obtain ⟨q1, q2, q3⟩ := I.ro b x k; exact ⟨by rw [hsame b (Array.getElem?_eq_some_iff.1 q1).1]; exact q1, q2, q3⟩), I.low⟩, ?_, ?_⟩, fun b o c k => ?_⟩
 ·rw [hsame b (by have := I.size; omega)]; exact I.old b hb
 ·have := I.size; have := I2.size; omega
 ·by_cases hb : b < w.heap.size
  ·rw [hlow _ _ hb] at k
   rw [cl_same (hsame b hb)]; exact I.imm _ _ _ k
  ·exact I2.imm _ _ _ (himm _ _ _ hb k)
 ·by_cases hb : b < w.heap.size
  ·rw [hlow _ _ hb] at k
   rw [cl_same (hsame b hb), fz_same (hsame b hb)]; exact I.res _ _ _ k
  ·exact absurd k (hres _ _ _ hb)
 ·have hb : ¬ b < w.heap.size := by have := I2.size; omega
  simp only [G'']
  rw [if_neg hb, I2.fresh b o k]
 ·exact I.freshB b (by have := I2.size; omega)
 ·refine ORel.frame hle.toLe0 I2.size ?_ ?_ ?_ (I.objs i o k)
  ·intro b q j kk
   have hb := own_lt I.toInv (b := b) (o := q) (by rw [kk]; simp)
   exact ⟨by rw [hlow _ _ hb]; exact kk, cl_same (hsame b hb), fz_same (hsame b hb)⟩
  ·intro b q kk
   have hb := own_lt I.toInv (b := b) (o := q) (by rw [kk]; simp)
   exact ⟨by rw [hlow _ _ hb]; exact kk, fun c hc => ⟨c, by rw [cl_same (hsame b hb)]; exact hc⟩, fz_same (hsame b hb)⟩
  ·intro b kk
   exact ⟨kk, hsame b (blk_lt I.toInv kk)⟩
 ·obtain ⟨x, hx, hn⟩ := I.blkC b i k
  exact ⟨x, by rw [hsame b (blk_lt I.toInv k)]; exact hx, hn⟩
 ·rw [I2.os]; exact I.os
 ·rw [I2.out]; exact I.out
 ·by_cases hb : b < w.heap.size
  ·rw [hlow _ _ hb]
   exact Gh.start_imm.1 (hG.back b o c hb k)
  ·simp only [G'']
   rw [if_neg hb, k]
/-- a call that is known -/
theorem known_call (HL : LibAt P E B h0) (hE : GlobPers E) {f : FuncId} {a : List AV} {r : FRes} (ha : AV.persL a = true) (hr : r.pers = true) (hs : Sound P E f a r) (I : InvW E B h0 G S w) (hg : GlobOk E G) {cargs : Array Value} (hc : Reps G a cargs.toList) :
  (∃ fi, E.fn f = some fi ∧ fi.fn.body.isSome = true) ∧ Calls P f cargs w fun e w' => ∃ G', G.Le G' ∧ InvW E B h0 G' S w' ∧ FEnd G' r e := by
 have hi : ∀ b o c, G.own b o = .imm c → (G.start w.heap.size).own b o = .imm c := fun b o c k => Gh.start_imm.2 k
 obtain ⟨h1, h2⟩ := hs w (G.start w.heap.size) cargs (HL.keep I) (start_of I) rfl (fun g cs k => (hg g cs k).carry hi rfl (by simpa [AV.pers] using hE g cs k)) (hc.carry hi rfl ha)
 refine ⟨h1, h2.mono fun e w' ⟨G2, S2, hG, I2, hend⟩ => ?_⟩
 obtain ⟨G'', k1, k2, k3⟩ := frame_of I hG I2
 refine ⟨G'', k1, k2, ?_⟩
 cases r with
 | ret v => obtain ⟨c, he, hv⟩ := hend; exact ⟨c, he, hv.carry k3 (by rw [k1.rm, hG.rm]; rfl) hr⟩
 | pan v => obtain ⟨c, he, hv⟩ := hend; exact ⟨c, he, hv.carry k3 (by rw [k1.rm, hG.rm]; rfl) hr⟩
/-- calls, of which some are known -/
def callS (E : Env) (sum : FuncId → List AV → Option FRes) : Nat → CallF
 | 0, .fn f, args, S => (sum f (args.map AV.dead)).map fun r => (r, S)
 | 0, .yld _, _, _ => none
 | n + 1, .fn f, args, S =>
  match sum f (args.map AV.dead) with
  | some r => some (r, S)
  | none => fnA E (callS E sum n) (fun g a r T => dfA E (callS E sum n) (iter n) g a r T) (iter n) f args S
 | n + 1, .yld l, args, S => yldA E (callS E sum n) (iter n) l args S
theorem callS_fr (E : Env) (sum : FuncId → List AV → Option FRes) : ∀ n, CallFr (callS E sum n)
 | 0 => fun c args S r S' h => by
  cases c with
  | fn f =>
   simp only [callS] at h
   cases hs : sum f (args.map AV.dead) with
   | none => rw [hs] at h; cases h
   | some r' => rw [hs] at h; cases h; exact Fr.refl _
  | yld l => simp only [callS] at h; cases h
 | n + 1 => fun c args S r S' h => by
  have hc := callS_fr E sum n
  have hi : ∀ body, BodyFr body → BodyFr (iter n body) := fun body hb => iter_fr hb n
  cases c with
  | fn f =>
   simp only [callS] at h
   split at h
   ·cases h; exact Fr.refl _
   ·exact fn_fr hc (fun f args r S r' S' k => df_fr hc hi k) hi h
  | yld l => simp only [callS] at h; exact yld_fr hc hi h
theorem callS_ok (HL : LibAt P E B h0) (H : EnvOk P E) (hE : GlobPers E) {sum : FuncId → List AV → Option FRes} (hs : SumOk P E sum) : ∀ n, CallOk P E B h0 (callS E sum n)
 | 0 => by
  refine ⟨fun f args S r S' h G w cargs I hg hr => ?_, fun l args S r S' h => by simp [callS] at h⟩
  simp only [callS] at h
  cases hsum : sum f (args.map AV.dead) with
  | none => rw [hsum] at h; cases h
  | some r' =>
   rw [hsum] at h
   cases h
   obtain ⟨h1, h2, h3⟩ := hs _ _ _ hsum
   exact known_call HL hE h1 h2 h3 I hg hr.dead
 | n + 1 => by
  have ih := callS_ok HL H hE hs n
  refine ⟨fun f args S r S' h G w cargs I hg hr => ?_, fun l args S r S' h G w cargs bl I hg hl hr => ?_⟩
  ·simp only [callS] at h
   split at h
   ·rename_i r' hsum
    cases h
    obtain ⟨h1, h2, h3⟩ := hs _ _ _ hsum
    exact known_call HL hE h1 h2 h3 I hg hr.dead
   ·exact fn_sound HL.ok H ih (callS_fr _ _ _) (df_sound H ih (callS_fr _ _ _)) h I hg hr
  ·simp only [callS] at h
   have := yld_sound H ih (callS_fr _ _ _) h I hg hl hr
   cases r <;> exact this
/-- a value as it is left behind: nothing of it is written again; through pointers, so many -/
def AV.meltF (S : St) : Nat → AV → AV
 | 0, v => v.dead
 | n + 1, .ptr i off =>
  match S.cells? i with
  | some cs => if off ≤ cs.length then .rptr ((cs.drop off).map (AV.meltF S n)) else .ptr i off
  | none => .ptr i off
 | n + 1, .slice es tk => if es.all AV.isCell = true then .slice (es.map (AV.meltF S n)) .dead else (AV.slice es tk).dead
 | _ + 1, v => v.dead
/-- a part of a value as it is left behind -/
def AV.meltE (S : St) : AV → AV
 | .rsl i off len cap =>
  match S.cells? i with
  | some cs => if off + len ≤ cs.length ∧ (len ≤ cap ∨ cap = 0) ∧ cs.all AV.isCell = true then .slice (AV.deadL ((cs.drop off).take len)) .dead else .rsl i off len cap
  | none => .rsl i off len cap
 | v => v.dead
/-- a value as it is left behind -/
def AV.melt (S : St) : AV → AV
 | .tup vs => .tup (vs.map (AV.meltE S))
 | .rsl i off len cap =>
  match S.cells? i with
  | some cs => if off + len ≤ cs.length ∧ (len ≤ cap ∨ cap = 0) ∧ cs.all AV.isCell = true then .slice (AV.deadL ((cs.drop off).take len)) .dead else .rsl i off len cap
  | none => .rsl i off len cap
 | .ptr i off => AV.meltF S 20 (.ptr i off)
 | v => v.dead
def FRes.melt (S : St) : FRes → FRes
 | .ret v => .ret (v.melt S)
 | .pan v => .pan (v.melt S)
theorem flat_cells : ∀ {l : List AV}, l.all AV.isCell = true → l.flatMap AV.cells = l
 | [], _ => rfl
 | a :: x, h => by
  simp only [List.all_cons, Bool.and_eq_true] at h
  have : a.cells = [a] := by cases a <;> simp_all [AV.isCell, AV.cells]
  simp [this, flat_cells h.2]
theorem dead_isCell (v : AV) : v.dead.isCell = v.isCell := by cases v <;> rfl
theorem isCell_len {v : AV} (h : v.isCell = true) : v.cells.length = 1 := by cases v <;> simp_all [AV.isCell, AV.cells]
/-- all that a call has made lies there for good once it has ended -/
theorem left_of {w' : World} {G' : Gh} {S' : St} (I0 : InvW E w.heap.size w G S0 w) (hlo : G.lo = w.heap.size) (hG : G.Le G') (I : InvW E w.heap.size w G' S' w') :
  ∃ G3, G.Le G3 ∧ InvW E w.heap.size w G3 S0 w' ∧ (∀ b o c, G'.own b o = .imm c → G3.own b o = .imm c) ∧ (∀ b o c, w.heap.size ≤ b → cl w'.heap b o = some c → G3.own b o = .imm c) := by
 let G3 : Gh := { G with own := fun b o => if b < w.heap.size then G.own b o else match cl w'.heap b o with | some c => .imm c | none => .none }
 have hlow : ∀ b o, b < w.heap.size → G3.own b o = G.own b o := fun b o hb => by simp only [G3]; rw [if_pos hb]
 have hnew : ∀ b o c, w.heap.size ≤ b → cl w'.heap b o = some c → G3.own b o = .imm c := fun b o c hb k => by simp only [G3]; rw [if_neg (by omega), k]
 have hlt : ∀ b o, G.own b o ≠ .none → b < w.heap.size := fun b o k => own_lt I0.toInv k
 have hsame : ∀ b, b < w.heap.size → w'.heap[b]? = w.heap[b]? := I.old
 have hle : G.Le G3 := by
  refine ⟨⟨fun _ _ k => k, fun _ _ k => k, fun b o c k => ?_, rfl, rfl, fun _ _ k => k, fun b o c hb k => ?_⟩, fun b o c k => ?_⟩
  ·rw [hlow _ _ (hlt b o (by rw [k]; simp))]; exact k
  ·rw [hlow _ _ (by omega)] at k; exact k
  ·rw [hlow _ _ (hlt b o (by rw [k]; simp))]; exact k
 refine ⟨G3, hle, ⟨⟨fun b hb => hsame b hb, I.size, fun b o c k => ?_, fun b o c k => ?_, fun b o k => ?_, fun b k => ?_, fun i o k => ?_, fun i hi => I0.ids i hi, fun b i k => ?_, I0.rm, fun b x k => (by obtain ⟨q1, q2, q3⟩ := I0.ro b x k; exact ⟨by rw [hsame b (Array.getElem?_eq_some_iff.1 q1).1]; exact q1, q2, q3⟩), I0.low⟩, I.os, I.out⟩, fun b o c k => ?_, hnew⟩
 ·by_cases hb : b < w.heap.size
  ·rw [hlow _ _ hb] at k
   rw [cl_same (hsame b hb)]; exact I0.imm _ _ _ k
  ·simp only [G3] at k
   rw [if_neg hb] at k
   split at k
   ·rename_i x hx; cases k; exact hx
   ·cases k
 ·by_cases hb : b < w.heap.size
  ·rw [hlow _ _ hb] at k
   have := (I0.res _ _ _ k).2.2
   omega
  ·simp only [G3] at k
   rw [if_neg hb] at k
   split at k <;> cases k
 ·have hb : ¬ b < w.heap.size := by have := I.size; omega
  have hn : cl w'.heap b o = none := by
   unfold cl
   rw [Array.getElem?_eq_none k]
  simp only [G3]
  rw [if_neg hb, hn]
 ·exact I0.freshB b (by have := I.size; omega)
 ·have := St.get_lt k
  simp [S0] at this
 ·obtain ⟨x, hx, hn⟩ := I0.blkC b i k
  exact ⟨x, by rw [hsame b (blk_lt I0.toInv k)]; exact hx, hn⟩
 ·by_cases hb : b < w.heap.size
  ·rw [hlow _ _ hb]; exact hG.back b o c (by omega) k
  ·exact hnew b o c (by omega) (I.imm _ _ _ k)
theorem meltF_isCell (S : St) : ∀ (n : Nat) (v : AV), v.isCell = true → (AV.meltF S n v).isCell = true
 | 0, v, h => by simpa [AV.meltF, dead_isCell] using h
 | n + 1, v, h => by
  cases v with
  | ptr i off =>
   simp only [AV.meltF]
   split
   ·split <;> rfl
   ·rfl
  | slice es tk =>
   simp only [AV.meltF]
   split <;> rfl
  | _ => exact (dead_isCell _).trans h
theorem Rep.meltF {w' : World} {G' G3 : Gh} {S' : St} (I : InvW E w.heap.size w G' S' w') (h1 : ∀ b o c, G'.own b o = .imm c → G3.own b o = .imm c) (hm : G3.rm = G'.rm) (h2 : ∀ b o c, w.heap.size ≤ b → cl w'.heap b o = some c → G3.own b o = .imm c) :
  ∀ (n : Nat) {v : AV} {c : Value}, Rep G' v c → (AV.meltF S' n v).pers = true → Rep G3 (AV.meltF S' n v) c
 | 0, v, c, h, hp => h.dead.carry h1 hm hp
 | n + 1, v, c, h, hp => by
  have key : v.dead.pers = true → Rep G3 v.dead c := fun hd => h.dead.carry h1 hm hd
  cases v with
  | ptr i off =>
   simp only [AV.meltF] at hp ⊢
   cases hc : S'.cells? i with
   | none => rw [hc] at hp; simp [AV.pers] at hp
   | some cs =>
    rw [hc] at hp
    simp only at hp ⊢
    by_cases hcond : off ≤ cs.length
    ·rw [if_pos hcond] at hp ⊢
     cases h with
     | ptr _ _ b o hobj =>
      obtain ⟨b', o', k1, k2, k3⟩ := I.objs i _ (cells?_inv hc)
      rw [hobj] at k1
      cases k1
      simp only [AV.pers] at hp
      have hget : ∀ j x, ((cs.drop off).map (AV.meltF S' n))[j]? = some x → ∃ z, cs[off + j]? = some z ∧ x = AV.meltF S' n z := by
       intro j x hx
       rw [List.getElem?_map, List.getElem?_drop] at hx
       cases hz : cs[off + j]? with
       | none => rw [hz] at hx; cases hx
       | some z => rw [hz] at hx; cases hx; exact ⟨z, rfl, rfl⟩
      refine .rptr _ b (o + off) (fun j hj => ?_) (fun j x y hx hy => ?_)
      ·obtain ⟨z, hz, _⟩ := hget j _ (List.getElem?_eq_getElem hj)
       obtain ⟨_, ⟨cc, hcc, _⟩, _⟩ := k3 _ _ hz
       exact ⟨cc, by rw [show o + off + j = o + (off + j) from by omega]; exact h2 _ _ _ k2 hcc⟩
      ·obtain ⟨z, hz, rfl⟩ := hget j x hx
       obtain ⟨_, ⟨cc, hcc, hrep⟩, _⟩ := k3 _ _ hz
       rw [show o + off + j = o + (off + j) from by omega, h2 _ _ _ k2 hcc] at hy
       cases hy
       exact Rep.meltF I h1 hm h2 n hrep (pers_get hp hx)
    ·rw [if_neg hcond] at hp; simp [AV.pers] at hp
  | slice es tk =>
   simp only [AV.meltF] at hp ⊢
   by_cases hall : es.all AV.isCell = true
   ·rw [if_pos hall] at hp ⊢
    simp only [AV.pers, Bool.and_true] at hp
    have hall' : (es.map (AV.meltF S' n)).all AV.isCell = true := by
     rw [List.all_map, List.all_eq_true]
     intro x hx
     exact meltF_isCell S' n x (List.all_eq_true.1 hall x hx)
    have hflat := flat_cells hall
    have hflat' := flat_cells hall'
    cases h with
    | slice _ _ b o m cap sz hn hsz hcap k1 k2 ht =>
     rw [hflat] at k1 k2
     have hsz1 : ∀ e ∈ es, e.cells.length = 1 := fun e he => isCell_len (List.all_eq_true.1 hall e he)
     refine .slice _ .dead b o m cap sz (by simpa using hn) (fun e he => ?_) hcap (fun j hj => ?_) (fun j x y hx hy => ?_) trivial
     ·obtain ⟨e', he', rfl⟩ := List.mem_map.1 he
      rw [isCell_len (meltF_isCell S' n e' (List.all_eq_true.1 hall e' he')), ← hsz e' he', hsz1 e' he']
     ·rw [hflat'] at hj
      obtain ⟨y, hy⟩ := k1 j (by simpa using hj)
      exact ⟨y, h1 _ _ _ hy⟩
     ·rw [hflat'] at hx
      have hx' := hx
      rw [List.getElem?_map] at hx
      cases hz : es[j]? with
      | none => rw [hz] at hx; cases hx
      | some z =>
       rw [hz] at hx
       cases hx
       have hj : j < es.length := by
        rcases Nat.lt_or_ge j es.length with h | h
        ·exact h
        ·rw [List.getElem?_eq_none h] at hz; cases hz
       obtain ⟨y', hy'⟩ := k1 j hj
       have := h1 _ _ _ hy'
       rw [this] at hy
       cases hy
       exact Rep.meltF I h1 hm h2 n (k2 j z _ hz hy') (pers_get hp hx')
    | slice0 ad => exact .slice0 ad
   ·rw [if_neg hall] at hp ⊢
    exact key hp
  | _ => exact key hp
theorem Rep.meltE {w' : World} {G' G3 : Gh} {S' : St} (I : InvW E w.heap.size w G' S' w') (h1 : ∀ b o c, G'.own b o = .imm c → G3.own b o = .imm c) (hm : G3.rm = G'.rm) (h2 : ∀ b o c, w.heap.size ≤ b → cl w'.heap b o = some c → G3.own b o = .imm c)
  {v : AV} {c : Value} (h : Rep G' v c) (hp : (v.meltE S').pers = true) : Rep G3 (v.meltE S') c := by
 have key : v.dead.pers = true → Rep G3 v.dead c := fun hd => h.dead.carry h1 hm hd
 cases v with
 | rsl i off len cap =>
  simp only [AV.meltE] at hp ⊢
  cases hc : S'.cells? i with
  | none => rw [hc] at hp; simp [AV.pers] at hp
  | some cs =>
   rw [hc] at hp
   simp only at hp ⊢
   by_cases hcond : off + len ≤ cs.length ∧ (len ≤ cap ∨ cap = 0) ∧ cs.all AV.isCell = true
   ·rw [if_pos hcond] at hp ⊢
    obtain ⟨hlen, _, hall⟩ := hcond
    obtain ⟨b, o, cap', hobj, rfl, hcap, _⟩ := h.rsl_inv
    ·obtain ⟨b', o', k1, k2, k3⟩ := I.objs i _ (cells?_inv hc)
     rw [hobj] at k1
     cases k1
     simp only [AV.pers, Bool.and_true] at hp
     have hall' : (AV.deadL ((cs.drop off).take len)).all AV.isCell = true := by
      rw [AV.deadL_map, List.all_map, List.all_eq_true]
      intro x hx
      simp only [Function.comp, dead_isCell]
      exact List.all_eq_true.1 hall x (List.mem_of_mem_drop (List.mem_of_mem_take hx))
     have hflat := flat_cells hall'
     have hl : (AV.deadL ((cs.drop off).take len)).length = len := by
      rw [AV.deadL_map, List.length_map, List.length_take, List.length_drop]; omega
     have hget : ∀ j, j < len → ∃ x, cs[off + j]? = some x := fun j hj => ⟨cs[off + j]'(by omega), List.getElem?_eq_getElem _⟩
     refine .slice _ .dead b (o + off) len cap' 1 hl.symm (fun e he => isCell_len (List.all_eq_true.1 hall' e he)) hcap (fun j hj => ?_) (fun j x y hx hy => ?_) trivial
     ·rw [hflat, hl] at hj
      obtain ⟨x, hx⟩ := hget j hj
      obtain ⟨_, ⟨cc, hcc, _⟩, _⟩ := k3 _ _ hx
      exact ⟨cc, by rw [show o + off + j = o + (off + j) from by omega]; exact h2 _ _ _ k2 hcc⟩
     ·rw [hflat] at hx
      have hj : j < len := by
       rw [← hl]
       rcases Nat.lt_or_ge j (AV.deadL ((cs.drop off).take len)).length with h | h
       ·exact h
       ·rw [List.getElem?_eq_none h] at hx; cases hx
      obtain ⟨z, hz⟩ := hget j hj
      obtain ⟨_, ⟨cc, hcc, hrep⟩, _⟩ := k3 _ _ hz
      have hxz : x = z.dead := by
       rw [AV.deadL_map, List.getElem?_map, List.getElem?_take, if_pos hj, List.getElem?_drop, hz] at hx
       cases hx; rfl
      subst hxz
      rw [show o + off + j = o + (off + j) from by omega, h2 _ _ _ k2 hcc] at hy
      cases hy
      exact hrep.dead.carry h1 hm (pers_get hp hx)
   ·rw [if_neg hcond] at hp; simp [AV.pers] at hp
 | _ => exact key hp
theorem Rep.melt {w' : World} {G' G3 : Gh} {S' : St} (I : InvW E w.heap.size w G' S' w') (h1 : ∀ b o c, G'.own b o = .imm c → G3.own b o = .imm c) (hm : G3.rm = G'.rm) (h2 : ∀ b o c, w.heap.size ≤ b → cl w'.heap b o = some c → G3.own b o = .imm c)
  {v : AV} {c : Value} (h : Rep G' v c) (hp : (v.melt S').pers = true) : Rep G3 (v.melt S') c := by
 have key : v.dead.pers = true → Rep G3 v.dead c := fun hd => h.dead.carry h1 hm hd
 cases v with
 | rsl i off len cap => exact Rep.meltE I h1 hm h2 h hp
 | ptr i off => exact Rep.meltF I h1 hm h2 20 h hp
 | tup vs =>
  cases h with
  | tup _ ys hl hxy =>
   show Rep G3 (.tup (vs.map (AV.meltE S'))) (.tuple ys)
   refine .tup _ ys (by simpa using hl) fun j x y hx hy => ?_
   rw [List.getElem?_map] at hx
   cases hv : vs[j]? with
   | none => rw [hv] at hx; cases hx
   | some u =>
    rw [hv] at hx
    cases hx
    have hpj : (u.meltE S').pers = true := by
     have hp' : AV.persL (vs.map (AV.meltE S')) = true := hp
     exact AV.persL_iff.1 hp' _ (List.mem_map.2 ⟨u, List.mem_of_getElem? hv, rfl⟩)
    exact Rep.meltE I h1 hm h2 (hxy j u y hv hy) hpj
 | _ => exact key hp
theorem FEnd.melt {w' : World} {G' G3 : Gh} {S' : St} (I : InvW E w.heap.size w G' S' w') (h1 : ∀ b o c, G'.own b o = .imm c → G3.own b o = .imm c) (hm : G3.rm = G'.rm) (h2 : ∀ b o c, w.heap.size ≤ b → cl w'.heap b o = some c → G3.own b o = .imm c)
  {r : FRes} {e : Ending} (h : FEnd G' r e) (hp : (r.melt S').pers = true) : FEnd G3 (r.melt S') e := by
 cases r with
 | ret v => obtain ⟨c, he, hv⟩ := h; exact ⟨c, he, hv.melt I h1 hm h2 hp⟩
 | pan v => obtain ⟨c, he, hv⟩ := h; exact ⟨c, he, hv.melt I h1 hm h2 hp⟩
/-- what the evaluator finds from nothing is so from any world -/
theorem sound_of (H : EnvOk P E) (hE : GlobPers E) {sum : FuncId → List AV → Option FRes} (hs : SumOk P E sum) {n : Nat} {f : FuncId} {a : List AV} {r : FRes} {S' : St} (h : callS E sum n (.fn f) a S0 = some (r, S'))
  (hp : (r.melt S').pers = true) : Sound P E f a (r.melt S') := by
 intro w G cargs HL I hlo hg hr
 obtain ⟨h1, h2⟩ := (callS_ok HL H hE hs n).fn f a S0 r S' h G w cargs I hg hr
 refine ⟨h1, h2.mono fun e w' ⟨G', k1, k2, k3⟩ => ?_⟩
 obtain ⟨G3, j1, j2, j3, j4⟩ := left_of I hlo k1 k2
 exact ⟨G3, S0, j1, j2, k3.melt k2 j3 (by rw [j1.rm, k1.rm]) j4 hp⟩
/-! what is known at arguments that are written out -/
def sumC : List (FuncId × List AV × FRes) → FuncId → List AV → Option FRes
 | [], _, _ => none
 | (g, b, r) :: l, f, a => bif Nat.beq g f then (bif AV.beqL b a then some r else sumC l f a) else sumC l f a
theorem sumC_ok : ∀ {l : List (FuncId × List AV × FRes)}, (∀ x ∈ l, AV.persL x.2.1 = true ∧ x.2.2.pers = true ∧ Sound P E x.1 x.2.1 x.2.2) → SumOk P E (sumC l)
 | [], _, f, a, r, h => by simp [sumC] at h
 | (g, b, r0) :: l, hc, f, a, r, h => by
  have ih : ∀ {r}, sumC l f a = some r → AV.persL a = true ∧ r.pers = true ∧ Sound P E f a r := fun h => sumC_ok (fun x hx => hc x (by simp [hx])) f a _ h
  simp only [sumC] at h
  cases hb : Nat.beq g f with
  | false => rw [hb] at h; exact ih h
  | true =>
   rw [hb] at h
   have := Nat.eq_of_beq_eq_true hb
   subst this
   cases hq : AV.beqL b a with
   | false => rw [hq] at h; exact ih h
   | true =>
    rw [hq] at h
    cases h
    have := AV.beqL_eq _ _ hq
    subst this
    exact hc (g, b, _) (List.mem_cons_self ..)
/-! what is known of a function, as a law of its arguments -/
structure Con where
 f : FuncId
 X : Type
 dom : X → Prop
 enc : X → List AV
 res : X → FRes
noncomputable def Con.look (c : Con) (a : List AV) : Option FRes :=
 open Classical in if h : ∃ x, c.dom x ∧ c.enc x = a then some (c.res h.choose) else none
structure Con.Ok (P : Program) (E : Env) (c : Con) : Prop where
 pers : ∀ x, c.dom x → AV.persL (c.enc x) = true ∧ (c.res x).pers = true
 sound : ∀ x, c.dom x → Sound P E c.f (c.enc x) (c.res x)
def Con.Cong (c : Con) : Prop := ∀ x y, c.dom x → c.dom y → c.enc x = c.enc y → c.res x = c.res y
noncomputable def sumOf : List Con → FuncId → List AV → Option FRes
 | [], _, _ => none
 | c :: cs, f, a => if c.f = f then c.look a else sumOf cs f a
theorem sumOf_ok : ∀ {cs : List Con}, (∀ c ∈ cs, c.Ok P E) → SumOk P E (sumOf cs)
 | [], _, f, a, r, h => by simp [sumOf] at h
 | c :: cs, hc, f, a, r, h => by
  simp only [sumOf] at h
  split at h
  ·rename_i hf
   subst hf
   unfold Con.look at h
   split at h
   ·rename_i hx
    cases h
    have hok := hc c (by simp)
    generalize hx.choose = y, hx.choose_spec = hx'
    obtain ⟨hd, rfl⟩ := hx'
    exact ⟨(hok.pers _ hd).1, (hok.pers _ hd).2, hok.sound _ hd⟩
   ·cases h
  ·exact sumOf_ok (fun c' hc' => hc c' (by simp [hc'])) f a r h
theorem Con.look_enc {c : Con} (hc : c.Cong) {x : c.X} (hx : c.dom x) : c.look (c.enc x) = some (c.res x) := by
 have h : ∃ y, c.dom y ∧ c.enc y = c.enc x := ⟨x, hx, rfl⟩
 unfold Con.look
 rw [dif_pos h]
 exact congrArg some (hc _ _ h.choose_spec.1 hx h.choose_spec.2)
/-- a call of a function that is known -/
theorem Con.use {c : Con} (hc : c.Cong) {cs : List Con} (hl : sumOf cs c.f = c.look) {n : Nat} {args : List AV} {S : St} (x : c.X) (hx : c.dom x) (ha : args.map AV.dead = c.enc x) :
  callS E (sumOf cs) n (.fn c.f) args S = some (c.res x, S) := by
 cases n with
 | zero => simp only [callS]; rw [ha, hl, Con.look_enc hc hx]; rfl
 | succ n => simp only [callS]; rw [ha, hl, Con.look_enc hc hx]
/-- a call of one that isn't -/
theorem callS_fn {cs : List Con} {n : Nat} {f : FuncId} {args : List AV} {S : St} (hl : sumOf cs f = fun _ => none) :
  callS E (sumOf cs) (n + 1) (.fn f) args S = fnA E (callS E (sumOf cs) n) (fun g a r T => dfA E (callS E (sumOf cs) n) (iter n) g a r T) (iter n) f args S := by
 simp only [callS]
 rw [hl]
/-- how a law of a function is proved -/
theorem Con.ok_of (H : EnvOk P E) (hE : GlobPers E) {c : Con} {cs : List Con} (hcs : ∀ d ∈ cs, d.Ok P E)
  (h : ∀ x, c.dom x → AV.persL (c.enc x) = true ∧ (c.res x).pers = true ∧ ∃ n r S', callS E (sumOf cs) n (.fn c.f) (c.enc x) S0 = some (r, S') ∧ r.melt S' = c.res x) : c.Ok P E :=
 ⟨fun x hx => ⟨(h x hx).1, (h x hx).2.1⟩, fun x hx => by
  obtain ⟨_, hp, n, r, S', hr, hd⟩ := h x hx
  rw [← hd] at hp ⊢
  exact sound_of H hE (sumOf_ok hcs) hr hp⟩
end
end Go.Vm
