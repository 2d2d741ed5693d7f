/-
The invariant behind acts on memory. No conditions.
-/
import Derived.Test.YtjfnelfdlemfgaaGreatDoorVmA
set_option linter.all false
set_option maxHeartbeats 4000000
namespace Go.Vm
open Go
variable {E : Env} {B : Nat} {h0 : Array Obj} {G : Gh} {S : St} {h : Array Obj}
theorem getElem?_push_lt' {h : Array Obj} {x : Obj} {b : Nat} (hb : b < h.size) : (h.push x)[b]? = h[b]? := by
 rw [Array.getElem?_push, if_neg (by omega)]
theorem own_lt (I : Inv E B h0 G S h) {b o : Nat} (k : G.own b o ≠ .none) : b < h.size := by
 rcases Nat.lt_or_ge b h.size with hb | hb
 ·exact hb
 ·exact absurd (I.fresh b o hb) k
theorem blk_lt (I : Inv E B h0 G S h) {b i : Nat} (k : G.blk b = some i) : b < h.size := by
 rcases Nat.lt_or_ge b h.size with hb | hb
 ·exact hb
 ·rw [I.freshB b hb] at k; cases k
theorem obj_lt (I : Inv E B h0 G S h) {i : Nat} {x : Nat × Nat} (k : G.obj i = some x) : i < S.n := by
 rcases Nat.lt_or_ge i S.n with hb | hb
 ·exact hb
 ·rw [(I.ids i hb).1] at k; cases k
theorem tok_lt (I : Inv E B h0 G S h) {i : Nat} {x : Nat × Nat × Nat} (k : G.tok i = some x) : i < S.n := by
 rcases Nat.lt_or_ge i S.n with hb | hb
 ·exact hb
 ·rw [(I.ids i hb).2] at k; cases k
/-- a new object of cells -/
theorem Inv.pushObj (I : Inv E B h0 G S h) {cs : List AV} {c : Array Value} {e : TypeId} (hr : Reps G cs c.toList) :
  ∃ G', G.Le G' ∧ G'.obj S.n = some (h.size, 0) ∧ Inv E B h0 G' (S.push (.cells cs)) (h.push (.cells c e (0, 0))) := by
 let G' : Gh := { G with obj := fun i => if i = S.n then some (h.size, 0) else G.obj i, own := fun b o => if b = h.size then .obj S.n o else G.own b o }
 have hobj : G'.obj S.n = some (h.size, 0) := by simp [G']
 have hown : ∀ b o, b ≠ h.size → G'.own b o = G.own b o := fun b o hb => by simp [G', hb]
 have hle : G.Le G' := by
  refine ⟨⟨fun i x k => ?_, fun i x k => k, fun b o c k => ?_, rfl, rfl, fun _ _ k => k, fun b o c hb k => (by rw [hown _ _ (by have := I.low; have := I.size; omega)] at k; exact k)⟩, fun b o c k => ?_⟩
  ·have := obj_lt I k
   simp only [G']; rw [if_neg (by omega)]; exact k
  ·have := own_lt I (b := b) (o := o) (by rw [k]; simp)
   rw [hown _ _ (by omega)]; exact k
  ·have := own_lt I (b := b) (o := o) (by rw [k]; simp)
   rw [hown _ _ (by omega)]; exact k
 refine ⟨G', hle, hobj, ?_⟩
 constructor
 ·intro b hb
  rw [getElem?_push_lt' (by have := I.size; omega)]; exact I.old b hb
 ·simp; have := I.size; omega
 ·intro b o c k
  by_cases hb : b = h.size
  ·simp [G', hb] at k
  ·rw [hown _ _ hb] at k; rw [cl_push_old hb]; exact I.imm _ _ _ k
 ·intro b o c k
  by_cases hb : b = h.size
  ·simp [G', hb] at k
  ·rw [hown _ _ hb] at k; rw [cl_push_old hb, fz_push_old hb]; exact I.res _ _ _ k
 ·intro b o hb
  simp at hb
  rw [hown _ _ (by omega)]; exact I.fresh b o (by omega)
 ·intro b hb
  simp at hb
  exact I.freshB b (by omega)
 ·intro i o k
  by_cases hi : i = S.n
  ·subst hi
   rw [St.get_push_self] at k
   cases k
   refine ⟨h.size, 0, hobj, I.size, fun j x hx => ?_⟩
   obtain ⟨y, hy, hxy⟩ := hr.getElem hx
   refine ⟨by simp [G'], ⟨y, ?_, hxy.mono hle.toLe0⟩, fz_push_new⟩
   rw [cl_push_new]; simpa using hy
  ·rw [St.get_push_ne _ _ hi] at k
   refine ORel.frame hle.toLe0 (by simp) ?_ ?_ ?_ (I.objs i o k)
   ·intro b q j kk
    have := own_lt I (b := b) (o := q) (by rw [kk]; simp)
    exact ⟨by rw [hown _ _ (by omega)]; exact kk, cl_push_old (by omega), fz_push_old (by omega)⟩
   ·intro b q kk
    have := own_lt I (b := b) (o := q) (by rw [kk]; simp)
    exact ⟨by rw [hown _ _ (by omega)]; exact kk, fun c hc => ⟨c, by rw [cl_push_old (by omega)]; exact hc⟩, fz_push_old (by omega)⟩
   ·intro b kk
    have := blk_lt I kk
    exact ⟨kk, getElem?_push_lt' this⟩
 ·intro i hi
  rw [St.n_push] at hi
  obtain ⟨h1, h2⟩ := I.ids i (by omega)
  exact ⟨by simp only [G']; rw [if_neg (by omega)]; exact h1, h2⟩
 ·intro b i k
  obtain ⟨x, hx, hn⟩ := I.blkC b i k
  exact ⟨x, by rw [getElem?_push_lt' (blk_lt I k)]; exact hx, hn⟩
 ·exact I.rm
 ·intro b0 x0 k0
  obtain ⟨q1, q2, q3⟩ := I.ro b0 x0 k0
  have hlt0 := (Array.getElem?_eq_some_iff.1 q1).1
  first
   | exact ⟨q1, q2, q3⟩
   | exact ⟨by rw [getElem?_push_lt' hlt0]; exact q1, q2, q3⟩
   | exact ⟨by rw [getElem?_push_lt' hlt0]; exact q1, by simp only [G']; rw [if_neg (by omega)]; exact q2, q3⟩
   | exact ⟨by rw [W.blk q1 q3]; exact q1, q2, q3⟩
   | exact ⟨by rw [Array.getElem?_setIfInBounds_ne (fun e => by subst e; rw [hb] at q2; cases q2)]; exact q1, q2, q3⟩
 ·exact I.low
/-- a new block that nothing writes -/
theorem Inv.pushImm (I : Inv E B h0 G S h) {c : Array Value} {e : TypeId} {fr : Nat × Nat} :
  ∃ G', G.Le G' ∧ (∀ (j : Nat) x, c[j]? = some x → G'.own h.size j = .imm x) ∧ Inv E B h0 G' S (h.push (.cells c e fr)) := by
 let G' : Gh := { G with own := fun b o => if b = h.size then (match c[o]? with | some x => .imm x | none => .none) else G.own b o }
 have hown : ∀ b o, b ≠ h.size → G'.own b o = G.own b o := fun b o hb => by simp [G', hb]
 have hnew : ∀ (j : Nat) x, c[j]? = some x → G'.own h.size j = .imm x := fun j x hx => by simp [G', hx]
 have hle : G.Le G' := by
  refine ⟨⟨fun i x k => k, fun i x k => k, fun b o c k => ?_, rfl, rfl, fun _ _ k => k, fun b o c hb k => (by rw [hown _ _ (by have := I.low; have := I.size; omega)] at k; exact k)⟩, fun b o c k => ?_⟩
  ·have := own_lt I (b := b) (o := o) (by rw [k]; simp)
   rw [hown _ _ (by omega)]; exact k
  ·have := own_lt I (b := b) (o := o) (by rw [k]; simp)
   rw [hown _ _ (by omega)]; exact k
 refine ⟨G', hle, hnew, ?_⟩
 constructor
 ·intro b hb
  rw [getElem?_push_lt' (by have := I.size; omega)]; exact I.old b hb
 ·simp; have := I.size; omega
 ·intro b o x k
  by_cases hb : b = h.size
  ·subst hb
   simp only [G', if_true] at k
   rw [cl_push_new]
   split at k
   ·rename_i y hy; cases k; exact hy
   ·cases k
  ·rw [hown _ _ hb] at k; rw [cl_push_old hb]; exact I.imm _ _ _ k
 ·intro b o x k
  by_cases hb : b = h.size
  ·subst hb
   simp only [G', if_true] at k
   split at k <;> cases k
  ·rw [hown _ _ hb] at k; rw [cl_push_old hb, fz_push_old hb]; exact I.res _ _ _ k
 ·intro b o hb
  simp at hb
  rw [hown _ _ (by omega)]; exact I.fresh b o (by omega)
 ·intro b hb
  simp at hb
  exact I.freshB b (by omega)
 ·intro i o k
  refine ORel.frame hle.toLe0 (by simp) ?_ ?_ ?_ (I.objs i o k)
  ·intro b q j kk
   have := own_lt I (b := b) (o := q) (by rw [kk]; simp)
   exact ⟨by rw [hown _ _ (by omega)]; exact kk, cl_push_old (by omega), fz_push_old (by omega)⟩
  ·intro b q kk
   have := own_lt I (b := b) (o := q) (by rw [kk]; simp)
   exact ⟨by rw [hown _ _ (by omega)]; exact kk, fun c hc => ⟨c, by rw [cl_push_old (by omega)]; exact hc⟩, fz_push_old (by omega)⟩
  ·intro b kk
   have := blk_lt I kk
   exact ⟨kk, getElem?_push_lt' this⟩
 ·exact I.ids
 ·intro b i k
  obtain ⟨x, hx, hn⟩ := I.blkC b i k
  exact ⟨x, by rw [getElem?_push_lt' (blk_lt I k)]; exact hx, hn⟩
 ·exact I.rm
 ·intro b0 x0 k0
  obtain ⟨q1, q2, q3⟩ := I.ro b0 x0 k0
  have hlt0 := (Array.getElem?_eq_some_iff.1 q1).1
  first
   | exact ⟨q1, q2, q3⟩
   | exact ⟨by rw [getElem?_push_lt' hlt0]; exact q1, q2, q3⟩
   | exact ⟨by rw [getElem?_push_lt' hlt0]; exact q1, by simp only [G']; rw [if_neg (by omega)]; exact q2, q3⟩
   | exact ⟨by rw [W.blk q1 q3]; exact q1, q2, q3⟩
   | exact ⟨by rw [Array.getElem?_setIfInBounds_ne (fun e => by subst e; rw [hb] at q2; cases q2)]; exact q1, q2, q3⟩
 ·exact I.low
/-- a new block: its first cells are not written again, the others are a token's -/
theorem Inv.pushTok (I : Inv E B h0 G S h) {c : Array Value} {e : TypeId} (m : Nat) :
  ∃ G', G.Le G' ∧ (∀ (j : Nat) x, j < m → c[j]? = some x → G'.own h.size j = .imm x) ∧ G'.tok S.n = some (h.size, m, c.size - m) ∧
   Inv E B h0 G' (S.push (.tok false)) (h.push (.cells c e (0, 0))) := by
 let G' : Gh := { G with own := fun b o => if b = h.size then (if o < m then (match c[o]? with | some x => .imm x | none => .none) else if o < c.size then .tok S.n else .none) else G.own b o, tok := fun i => if i = S.n then some (h.size, m, c.size - m) else G.tok i }
 have hown : ∀ b o, b ≠ h.size → G'.own b o = G.own b o := fun b o hb => by simp [G', hb]
 have hnew : ∀ (j : Nat) x, j < m → c[j]? = some x → G'.own h.size j = .imm x := fun j x hj hx => by simp [G', hj, hx]
 have htok : G'.tok S.n = some (h.size, m, c.size - m) := by simp [G']
 have hle : G.Le G' := by
  refine ⟨⟨fun i x k => k, fun i x k => ?_, fun b o c k => ?_, rfl, rfl, fun _ _ k => k, fun b o c hb k => (by rw [hown _ _ (by have := I.low; have := I.size; omega)] at k; exact k)⟩, fun b o c k => ?_⟩
  ·have := tok_lt I k
   simp only [G']; rw [if_neg (by omega)]; exact k
  ·have := own_lt I (b := b) (o := o) (by rw [k]; simp)
   rw [hown _ _ (by omega)]; exact k
  ·have := own_lt I (b := b) (o := o) (by rw [k]; simp)
   rw [hown _ _ (by omega)]; exact k
 refine ⟨G', hle, hnew, htok, ?_⟩
 constructor
 ·intro b hb
  rw [getElem?_push_lt' (by have := I.size; omega)]; exact I.old b hb
 ·simp; have := I.size; omega
 ·intro b o x k
  by_cases hb : b = h.size
  ·subst hb
   simp only [G', if_true] at k
   rw [cl_push_new]
   split at k
   ·split at k
    ·rename_i y hy; cases k; exact hy
    ·cases k
   ·split at k <;> cases k
  ·rw [hown _ _ hb] at k; rw [cl_push_old hb]; exact I.imm _ _ _ k
 ·intro b o x k
  by_cases hb : b = h.size
  ·subst hb
   simp only [G', if_true] at k
   split at k
   ·split at k <;> cases k
   ·split at k <;> cases k
  ·rw [hown _ _ hb] at k; rw [cl_push_old hb, fz_push_old hb]; exact I.res _ _ _ k
 ·intro b o hb
  simp at hb
  rw [hown _ _ (by omega)]; exact I.fresh b o (by omega)
 ·intro b hb
  simp at hb
  exact I.freshB b (by omega)
 ·intro i o k
  by_cases hi : i = S.n
  ·subst hi
   rw [St.get_push_self] at k
   cases k
   refine ⟨h.size, m, c.size - m, htok, fun j hj => ?_⟩
   refine ⟨by simp only [G', if_true]; rw [if_neg (by omega), if_pos (by omega)], I.size, ⟨c[m + j], ?_⟩, fz_push_new⟩
   rw [cl_push_new]; exact Array.getElem?_eq_getElem (by omega)
  ·rw [St.get_push_ne _ _ hi] at k
   refine ORel.frame hle.toLe0 (by simp) ?_ ?_ ?_ (I.objs i o k)
   ·intro b q j kk
    have := own_lt I (b := b) (o := q) (by rw [kk]; simp)
    exact ⟨by rw [hown _ _ (by omega)]; exact kk, cl_push_old (by omega), fz_push_old (by omega)⟩
   ·intro b q kk
    have := own_lt I (b := b) (o := q) (by rw [kk]; simp)
    exact ⟨by rw [hown _ _ (by omega)]; exact kk, fun c hc => ⟨c, by rw [cl_push_old (by omega)]; exact hc⟩, fz_push_old (by omega)⟩
   ·intro b kk
    have := blk_lt I kk
    exact ⟨kk, getElem?_push_lt' this⟩
 ·intro i hi
  rw [St.n_push] at hi
  obtain ⟨h1, h2⟩ := I.ids i (by omega)
  exact ⟨h1, by simp only [G']; rw [if_neg (by omega)]; exact h2⟩
 ·intro b i k
  obtain ⟨x, hx, hn⟩ := I.blkC b i k
  exact ⟨x, by rw [getElem?_push_lt' (blk_lt I k)]; exact hx, hn⟩
 ·exact I.rm
 ·intro b0 x0 k0
  obtain ⟨q1, q2, q3⟩ := I.ro b0 x0 k0
  have hlt0 := (Array.getElem?_eq_some_iff.1 q1).1
  first
   | exact ⟨q1, q2, q3⟩
   | exact ⟨by rw [getElem?_push_lt' hlt0]; exact q1, q2, q3⟩
   | exact ⟨by rw [getElem?_push_lt' hlt0]; exact q1, by simp only [G']; rw [if_neg (by omega)]; exact q2, q3⟩
   | exact ⟨by rw [W.blk q1 q3]; exact q1, q2, q3⟩
   | exact ⟨by rw [Array.getElem?_setIfInBounds_ne (fun e => by subst e; rw [hb] at q2; cases q2)]; exact q1, q2, q3⟩
 ·exact I.low
/-- some cells of a block have been written -/
structure Wrote (h h' : Array Obj) (b s : Nat) (vs : List Value) : Prop where
 size : h'.size = h.size
 other : ∀ b', b' ≠ b → h'[b']? = h[b']?
 cells : ∀ o, cl h' b o = if s ≤ o ∧ o < s + vs.length then vs[o - s]? else cl h b o
 frozen : ∀ o, fz h' b o = fz h b o
 isC : vs = [] ∨ ∃ c e f, h[b]? = some (.cells c e f)
 same : vs = [] → h' = h
theorem Wrote.cl_ne {h h' : Array Obj} {b s : Nat} {vs : List Value} (W : Wrote h h' b s vs) {b' o : Nat} (hb : b' ≠ b) : cl h' b' o = cl h b' o := by
 unfold cl; rw [W.other b' hb]
theorem Wrote.fz_all {h h' : Array Obj} {b s : Nat} {vs : List Value} (W : Wrote h h' b s vs) (b' o : Nat) : fz h' b' o = fz h b' o := by
 by_cases hb : b' = b
 ·subst hb; exact W.frozen o
 ·unfold fz; rw [W.other b' hb]
theorem Wrote.cl_out {h h' : Array Obj} {b s : Nat} {vs : List Value} (W : Wrote h h' b s vs) {b' o : Nat} (hb : ¬ (b' = b ∧ s ≤ o ∧ o < s + vs.length)) : cl h' b' o = cl h b' o := by
 by_cases hbb : b' = b
 ·subst hbb
  rw [W.cells, if_neg (fun k => hb ⟨rfl, k⟩)]
 ·exact W.cl_ne hbb
theorem Wrote.blk {h h' : Array Obj} {b s : Nat} {vs : List Value} (W : Wrote h h' b s vs) {b' : Nat} {x : Obj} (hx : h[b']? = some x) (hn : ∀ c e f, x ≠ .cells c e f) : h'[b']? = h[b']? := by
 by_cases hb : b' = b
 ·subst hb
  rcases W.isC with h1 | ⟨c, e, f, h1⟩
  ·rw [W.same h1]
  ·rw [h1] at hx; cases hx; exact absurd rfl (hn c e f)
 ·exact W.other b' hb
theorem setCells_length {α : Type} : ∀ (vs cs : List α) (off : Nat), (setCells cs off vs).length = cs.length
 | [], _, _ => rfl
 | v :: vs, cs, off => by simp [setCells, setCells_length vs]
theorem setCells_get {α : Type} : ∀ (vs cs : List α) (off j : Nat), off + vs.length ≤ cs.length →
  (setCells cs off vs)[j]? = if off ≤ j ∧ j < off + vs.length then vs[j - off]? else cs[j]?
 | [], cs, off, j, _ => by
  have : ¬ (off ≤ j ∧ j < off + ([] : List α).length) := by simp
  rw [if_neg this]; rfl
 | v :: vs, cs, off, j, hl => by
  simp only [List.length_cons] at hl ⊢
  rw [setCells, setCells_get vs (cs.set off v) (off + 1) j (by simp; omega)]
  by_cases h1 : off + 1 ≤ j ∧ j < off + 1 + vs.length
  ·rw [if_pos h1, if_pos (by omega)]
   have : j - off = (j - (off + 1)) + 1 := by omega
   rw [this, List.getElem?_cons_succ]
  ·rw [if_neg h1]
   by_cases h2 : j = off
   ·subst h2
    rw [if_pos ⟨Nat.le_refl _, by omega⟩, Nat.sub_self]
    simp only [List.getElem?_cons_zero]
    rw [List.getElem?_set_self (by omega)]
   ·rw [if_neg (by omega), List.getElem?_set_ne (by omega)]
theorem Wrote.keep {h h' : Array Obj} {b s : Nat} {vs : List Value} (W : Wrote h h' b s vs) : ∀ (b : Nat) (x : Obj), h[b]? = some x → (∀ c e f, x ≠ .cells c e f) → h'[b]? = some x :=
 fun b x hx hn => by rw [W.blk hx hn]; exact hx
theorem Inv.blk_keep (I : Inv E B h0 G S h) {h' : Array Obj} (k : ∀ (b : Nat) (x : Obj), h[b]? = some x → (∀ c e f, x ≠ .cells c e f) → h'[b]? = some x) {b i : Nat} (hb : G.blk b = some i) :
  h'[b]? = h[b]? := by
 obtain ⟨x, hx, hn⟩ := I.blkC b i hb
 rw [hx]; exact k b x hx hn
/-- a store into an object -/
theorem Inv.store (I : Inv E B h0 G S h) {h' : Array Obj} {i b o off : Nat} {cs xs : List AV} {vs : List Value} (hS : S.get i = some (.cells cs)) (hG : G.obj i = some (b, o))
  (hl : off + xs.length ≤ cs.length) (hr : Reps G xs vs) (W : Wrote h h' b (o + off) vs) : Inv E B h0 G (S.put i (.cells (setCells cs off xs))) h' := by
 have hi := St.get_lt hS
 obtain ⟨b', o', hG', hB, hc⟩ := I.objs i _ hS
 rw [hG] at hG'; cases hG'
 have hown : ∀ q, o + off ≤ q → q < o + off + vs.length → G.own b q = .obj i (q - o) := by
  intro q h1 h2
  have hj : q - o < cs.length := by have := hr.1; omega
  have := (hc (q - o) _ (List.getElem?_eq_getElem hj)).1
  rw [show o + (q - o) = q from by omega] at this
  exact this
 have hout : ∀ b' q, (∀ j, G.own b' q ≠ .obj i j) → cl h' b' q = cl h b' q := by
  intro b' q k
  refine W.cl_out fun ⟨h1, h2, h3⟩ => ?_
  subst h1
  exact k _ (hown q h2 h3)
 constructor
 ·intro b' hb'
  by_cases hbb : b' = b
  ·omega
  ·rw [W.other b' hbb]; exact I.old b' hb'
 ·rw [W.size]; exact I.size
 ·intro b' q c k
  rw [hout b' q (by rw [k]; simp)]; exact I.imm _ _ _ k
 ·intro b' q c k
  rw [hout b' q (by rw [k]; simp), W.fz_all]; exact I.res _ _ _ k
 ·intro b' q k; rw [W.size] at k; exact I.fresh b' q k
 ·intro b' k; rw [W.size] at k; exact I.freshB b' k
 ·intro i' o' k
  by_cases hii : i' = i
  ·subst hii
   rw [St.get_put_self _ _ _ hi] at k
   cases k
   refine ⟨b, o, hG, hB, fun j x hx => ?_⟩
   rw [setCells_get _ _ _ _ hl] at hx
   split at hx
   ·rename_i hj
    obtain ⟨y, hy, hxy⟩ := hr.getElem hx
    have hj' : j < cs.length := by omega
    obtain ⟨h1, _, h3⟩ := hc j _ (List.getElem?_eq_getElem hj')
    refine ⟨h1, ⟨y, ?_, hxy⟩, by rw [W.fz_all]; exact h3⟩
    rw [W.cells, if_pos (by have := hr.1; omega)]
    rw [show o + j - (o + off) = j - off from by omega]; exact hy
   ·rename_i hj
    obtain ⟨h1, ⟨c, h2, h2'⟩, h3⟩ := hc j x hx
    refine ⟨h1, ⟨c, ?_, h2'⟩, by rw [W.fz_all]; exact h3⟩
    rw [W.cells, if_neg (by have := hr.1; omega)]; exact h2
  ·rw [St.get_put_ne _ _ _ hii] at k
   refine ORel.frame (.refl G) (by rw [W.size]; exact Nat.le_refl _) ?_ ?_ ?_ (I.objs i' o' k)
   ·intro b' q j kk
    exact ⟨kk, hout b' q (by rw [kk]; intro j' e; cases e; exact hii rfl), W.fz_all _ _⟩
   ·intro b' q kk
    exact ⟨kk, fun c hc => ⟨c, by rw [hout b' q (by rw [kk]; simp)]; exact hc⟩, W.fz_all _ _⟩
   ·intro b' kk
    exact ⟨kk, I.blk_keep W.keep kk⟩
 ·intro i' hi'; exact I.ids i' hi'
 ·intro b' i' k
  obtain ⟨x, hx, hn⟩ := I.blkC b' i' k
  exact ⟨x, W.keep _ _ hx hn, hn⟩
 ·exact I.rm
 ·intro b0 x0 k0
  obtain ⟨q1, q2, q3⟩ := I.ro b0 x0 k0
  have hlt0 := (Array.getElem?_eq_some_iff.1 q1).1
  first
   | exact ⟨q1, q2, q3⟩
   | exact ⟨by rw [getElem?_push_lt' hlt0]; exact q1, q2, q3⟩
   | exact ⟨by rw [getElem?_push_lt' hlt0]; exact q1, by simp only [G']; rw [if_neg (by omega)]; exact q2, q3⟩
   | exact ⟨by rw [W.blk q1 q3]; exact q1, q2, q3⟩
   | exact ⟨by rw [Array.getElem?_setIfInBounds_ne (fun e => by subst e; rw [hb] at q2; cases q2)]; exact q1, q2, q3⟩
 ·exact I.low
/-- an append in place -/
theorem Inv.tokAppend (I : Inv E B h0 G S h) {h' : Array Obj} {t b s n : Nat} {vs : List Value} (hS : S.get t = some (.tok false)) (hG : G.tok t = some (b, s, n))
  (hl : vs.length ≤ n) (W : Wrote h h' b s vs) :
  ∃ G', G.Le G' ∧ (∀ (j : Nat) x, vs[j]? = some x → G'.own b (s + j) = .imm x) ∧ G'.tok S.n = some (b, s + vs.length, n - vs.length) ∧
   Inv E B h0 G' ((S.put t (.tok true)).push (.tok false)) h' := by
 have ht := St.get_lt hS
 obtain ⟨b', s', n', hG', hc⟩ := I.objs t _ hS
 rw [hG] at hG'; cases hG'
 have hreg : ∀ q, s ≤ q → q < s + n → G.own b q = .tok t ∧ B ≤ b ∧ (∃ c, cl h b q = some c) ∧ fz h b q = false := by
  intro q h1 h2
  have := hc (q - s) (by omega)
  rw [show s + (q - s) = q from by omega] at this
  exact this
 let G' : Gh := { G with own := fun b' q => if b' = b ∧ s ≤ q ∧ q < s + n then (match vs[q - s]? with | some x => .imm x | none => .tok S.n) else G.own b' q, tok := fun i => if i = S.n then some (b, s + vs.length, n - vs.length) else G.tok i }
 have hout : ∀ b' q, ¬ (b' = b ∧ s ≤ q ∧ q < s + n) → G'.own b' q = G.own b' q := fun b' q k => by simp only [G']; rw [if_neg k]
 have hin : ∀ b' q, G.own b' q ≠ .tok t → ¬ (b' = b ∧ s ≤ q ∧ q < s + n) := by
  intro b' q k ⟨h1, h2, h3⟩
  subst h1
  exact k (hreg q h2 h3).1
 have hnew : ∀ (j : Nat) x, vs[j]? = some x → G'.own b (s + j) = .imm x := by
  intro j x hx
  have hj : j < vs.length := by
   rcases Nat.lt_or_ge j vs.length with h | h
   ·exact h
   ·rw [List.getElem?_eq_none h] at hx; cases hx
  simp only [G']; rw [if_pos ⟨trivial, by omega, by omega⟩, show s + j - s = j from by omega, hx]
 have htok : G'.tok S.n = some (b, s + vs.length, n - vs.length) := by simp [G']
 have hcl : ∀ b' q, G.own b' q ≠ .tok t → cl h' b' q = cl h b' q := by
  intro b' q k
  exact W.cl_out fun ⟨h1, h2, h3⟩ => hin b' q k ⟨h1, h2, by omega⟩
 have hle : G.Le G' := by
  refine ⟨⟨fun i x k => k, fun i x k => ?_, fun b o c k => ?_, rfl, rfl, fun _ _ k => k, fun b' q c hb k => (by rw [hout b' q (by rintro ⟨rfl, h2, h3⟩; have := (hreg q h2 h3).2.1; have := I.low; omega)] at k; exact k)⟩, fun b o c k => ?_⟩
  ·have := tok_lt I k
   simp only [G']; rw [if_neg (by omega)]; exact k
  ·rw [hout _ _ (hin _ _ (by rw [k]; simp))]; exact k
  ·rw [hout _ _ (hin _ _ (by rw [k]; simp))]; exact k
 refine ⟨G', hle, hnew, htok, ?_⟩
 have hBb : vs ≠ [] → B ≤ b := fun hv => (hreg s (Nat.le_refl _) (by have := List.length_pos_iff.2 hv; omega)).2.1
 constructor
 ·intro b' hb'
  by_cases hv : vs = []
  ·rw [W.same hv]; exact I.old b' hb'
  ·rw [W.other b' (by have := hBb hv; omega)]; exact I.old b' hb'
 ·rw [W.size]; exact I.size
 ·intro b' q c k
  by_cases hq : b' = b ∧ s ≤ q ∧ q < s + n
  ·simp only [G'] at k
   rw [if_pos hq] at k
   obtain ⟨h1, h2, h3⟩ := hq
   subst h1
   split at k
   ·rename_i x hx
    cases k
    have hj : q - s < vs.length := by
     rcases Nat.lt_or_ge (q - s) vs.length with h | h
     ·exact h
     ·rw [List.getElem?_eq_none h] at hx; cases hx
    rw [W.cells, if_pos (by omega)]; exact hx
   ·cases k
  ·rw [hout _ _ hq] at k
   rw [hcl _ _ (by rw [k]; simp)]; exact I.imm _ _ _ k
 ·intro b' q c k
  by_cases hq : b' = b ∧ s ≤ q ∧ q < s + n
  ·simp only [G'] at k
   rw [if_pos hq] at k
   split at k <;> cases k
  ·rw [hout _ _ hq] at k
   rw [hcl _ _ (by rw [k]; simp), W.fz_all]; exact I.res _ _ _ k
 ·intro b' q k
  rw [W.size] at k
  have := I.fresh b' q k
  rw [hout _ _ (hin _ _ (by rw [this]; simp))]; exact this
 ·intro b' k; rw [W.size] at k; exact I.freshB b' k
 ·intro i o k
  by_cases hi : i = S.n
  ·subst hi
   rw [← St.n_put S t (.tok true), St.get_push_self] at k
   cases k
   refine ⟨b, s + vs.length, n - vs.length, htok, fun j hj => ?_⟩
   obtain ⟨_, h2, ⟨c, h3⟩, h4⟩ := hreg (s + vs.length + j) (by omega) (by omega)
   refine ⟨?_, h2, ⟨c, ?_⟩, by rw [W.fz_all]; exact h4⟩
   ·simp only [G']; rw [if_pos ⟨trivial, by omega, by omega⟩, List.getElem?_eq_none (by omega)]
   ·rw [W.cells, if_neg (by omega)]; exact h3
  ·rw [St.get_push_ne _ _ (by rw [St.n_put]; exact hi)] at k
   by_cases hit : i = t
   ·subst hit
    rw [St.get_put_self _ _ _ ht] at k
    cases k
    trivial
   ·rw [St.get_put_ne _ _ _ hit] at k
    refine ORel.frame hle.toLe0 (by rw [W.size]; exact Nat.le_refl _) ?_ ?_ ?_ (I.objs i o k)
    ·intro b' q j kk
     exact ⟨by rw [hout _ _ (hin _ _ (by rw [kk]; simp))]; exact kk, hcl _ _ (by rw [kk]; simp), W.fz_all _ _⟩
    ·intro b' q kk
     have hne : G.own b' q ≠ .tok t := by rw [kk]; intro e; cases e; exact hit rfl
     exact ⟨by rw [hout _ _ (hin _ _ hne)]; exact kk, fun c hc => ⟨c, by rw [hcl _ _ hne]; exact hc⟩, W.fz_all _ _⟩
    ·intro b' kk
     exact ⟨kk, I.blk_keep W.keep kk⟩
 ·intro i hi
  rw [St.n_push, St.n_put] at hi
  obtain ⟨h1, h2⟩ := I.ids i (by omega)
  exact ⟨h1, by simp only [G']; rw [if_neg (by omega)]; exact h2⟩
 ·intro b' i' k
  obtain ⟨x, hx, hn⟩ := I.blkC b' i' k
  exact ⟨x, W.keep _ _ hx hn, hn⟩
 ·exact I.rm
 ·intro b0 x0 k0
  obtain ⟨q1, q2, q3⟩ := I.ro b0 x0 k0
  have hlt0 := (Array.getElem?_eq_some_iff.1 q1).1
  first
   | exact ⟨q1, q2, q3⟩
   | exact ⟨by rw [getElem?_push_lt' hlt0]; exact q1, q2, q3⟩
   | exact ⟨by rw [getElem?_push_lt' hlt0]; exact q1, by simp only [G']; rw [if_neg (by omega)]; exact q2, q3⟩
   | exact ⟨by rw [W.blk q1 q3]; exact q1, q2, q3⟩
   | exact ⟨by rw [Array.getElem?_setIfInBounds_ne (fun e => by subst e; rw [hb] at q2; cases q2)]; exact q1, q2, q3⟩
 ·exact I.low
/-- a new object that is a block of its own kind -/
theorem Inv.pushBlk (I : Inv E B h0 G S h) {x : Obj} {o : AO} (hn : ∀ c e f, x ≠ .cells c e f)
  (ho : ∀ G', G.Le G' → G'.obj S.n = some (h.size, 0) → G'.blk h.size = some S.n → ORel E B G' (h.push x) S.n o) :
  ∃ G', G.Le G' ∧ G'.obj S.n = some (h.size, 0) ∧ G'.blk h.size = some S.n ∧ Inv E B h0 G' (S.push o) (h.push x) := by
 let G' : Gh := { G with obj := fun i => if i = S.n then some (h.size, 0) else G.obj i, blk := fun b => if b = h.size then some S.n else G.blk b }
 have hobj : G'.obj S.n = some (h.size, 0) := by simp [G']
 have hblk : G'.blk h.size = some S.n := by simp [G']
 have hle : G.Le G' := by
  refine ⟨⟨fun i x k => ?_, fun i x k => k, fun b o c k => k, rfl, rfl, fun _ _ k => k, fun b o c _ k => k⟩, fun b o c k => k⟩
  have := obj_lt I k
  simp only [G']; rw [if_neg (by omega)]; exact k
 have hlt : ∀ b o, G.own b o ≠ .none → b < h.size := fun b o k => own_lt I k
 refine ⟨G', hle, hobj, hblk, ?_⟩
 constructor
 ·intro b hb
  rw [getElem?_push_lt' (by have := I.size; omega)]; exact I.old b hb
 ·simp; have := I.size; omega
 ·intro b q c k
  have := hlt b q (by show G'.own b q ≠ _; rw [k]; simp)
  rw [cl_push_old (by omega)]; exact I.imm _ _ _ k
 ·intro b q c k
  have := hlt b q (by show G'.own b q ≠ _; rw [k]; simp)
  rw [cl_push_old (by omega), fz_push_old (by omega)]; exact I.res _ _ _ k
 ·intro b q hb
  simp at hb
  exact I.fresh b q (by omega)
 ·intro b hb
  simp at hb
  simp only [G']; rw [if_neg (by omega)]; exact I.freshB b (by omega)
 ·intro i o' k
  by_cases hi : i = S.n
  ·subst hi
   rw [St.get_push_self] at k
   cases k
   exact ho G' hle hobj hblk
  ·rw [St.get_push_ne _ _ hi] at k
   refine ORel.frame hle.toLe0 (by simp) ?_ ?_ ?_ (I.objs i o' k)
   ·intro b q j kk
    have := hlt b q (by rw [kk]; simp)
    exact ⟨kk, cl_push_old (by omega), fz_push_old (by omega)⟩
   ·intro b q kk
    have := hlt b q (by rw [kk]; simp)
    exact ⟨kk, fun c hc => ⟨c, by rw [cl_push_old (by omega)]; exact hc⟩, fz_push_old (by omega)⟩
   ·intro b kk
    have := blk_lt I kk
    exact ⟨by simp only [G']; rw [if_neg (by omega)]; exact kk, getElem?_push_lt' this⟩
 ·intro i hi
  rw [St.n_push] at hi
  obtain ⟨h1, h2⟩ := I.ids i (by omega)
  exact ⟨by simp only [G']; rw [if_neg (by omega)]; exact h1, h2⟩
 ·intro b i k
  by_cases hb : b = h.size
  ·subst hb
   exact ⟨x, by simp, hn⟩
  ·simp only [G'] at k
   rw [if_neg hb] at k
   obtain ⟨y, hy, hyn⟩ := I.blkC b i k
   exact ⟨y, by rw [getElem?_push_lt' (blk_lt I k)]; exact hy, hyn⟩
 ·exact I.rm
 ·intro b0 x0 k0
  obtain ⟨q1, q2, q3⟩ := I.ro b0 x0 k0
  have hlt0 := (Array.getElem?_eq_some_iff.1 q1).1
  first
   | exact ⟨q1, q2, q3⟩
   | exact ⟨by rw [getElem?_push_lt' hlt0]; exact q1, q2, q3⟩
   | exact ⟨by rw [getElem?_push_lt' hlt0]; exact q1, by simp only [G']; rw [if_neg (by omega)]; exact q2, q3⟩
   | exact ⟨by rw [W.blk q1 q3]; exact q1, q2, q3⟩
   | exact ⟨by rw [Array.getElem?_setIfInBounds_ne (fun e => by subst e; rw [hb] at q2; cases q2)]; exact q1, q2, q3⟩
 ·exact I.low
theorem cl_setBlk {h : Array Obj} {b : Nat} {x y : Obj} (hx : h[b]? = some x) (hn : ∀ c e f, x ≠ .cells c e f) (hm : ∀ c e f, y ≠ .cells c e f) (b' o : Nat) :
  cl (h.setIfInBounds b y) b' o = cl h b' o := by
 unfold cl
 by_cases hb : b = b'
 ·subst hb
  have hlt : b < h.size := by
   rcases Nat.lt_or_ge b h.size with k | k
   ·exact k
   ·rw [Array.getElem?_eq_none k] at hx; cases hx
  rw [Array.getElem?_setIfInBounds_self_of_lt hlt, hx]
  cases x <;> cases y <;> first | rfl | exact absurd rfl (hn _ _ _) | exact absurd rfl (hm _ _ _)
 ·rw [Array.getElem?_setIfInBounds_ne hb]
theorem fz_setBlk {h : Array Obj} {b : Nat} {x y : Obj} (hx : h[b]? = some x) (hn : ∀ c e f, x ≠ .cells c e f) (hm : ∀ c e f, y ≠ .cells c e f) (b' o : Nat) :
  fz (h.setIfInBounds b y) b' o = fz h b' o := by
 unfold fz
 by_cases hb : b = b'
 ·subst hb
  have hlt : b < h.size := by
   rcases Nat.lt_or_ge b h.size with k | k
   ·exact k
   ·rw [Array.getElem?_eq_none k] at hx; cases hx
  rw [Array.getElem?_setIfInBounds_self_of_lt hlt, hx]
  cases x <;> cases y <;> first | rfl | exact absurd rfl (hn _ _ _) | exact absurd rfl (hm _ _ _)
 ·rw [Array.getElem?_setIfInBounds_ne hb]
/-- an object that is a block of its own kind is written -/
theorem Inv.setBlk (I : Inv E B h0 G S h) {i b : Nat} {y : Obj} {o : AO} (hi : i < S.n) (hb : G.blk b = some i) (hB : B ≤ b) (hm : ∀ c e f, y ≠ .cells c e f)
  (ho : ORel E B G (h.setIfInBounds b y) i o) : Inv E B h0 G (S.put i o) (h.setIfInBounds b y) := by
 obtain ⟨x, hx, hn⟩ := I.blkC b i hb
 have hlt := blk_lt I hb
 constructor
 ·intro b' hb'
  rw [Array.getElem?_setIfInBounds_ne (by omega)]; exact I.old b' hb'
 ·simpa using I.size
 ·intro b' q c k
  rw [cl_setBlk hx hn hm]; exact I.imm _ _ _ k
 ·intro b' q c k
  rw [cl_setBlk hx hn hm, fz_setBlk hx hn hm]; exact I.res _ _ _ k
 ·intro b' q k; exact I.fresh b' q (by simpa using k)
 ·intro b' k; exact I.freshB b' (by simpa using k)
 ·intro i' o' k
  by_cases hii : i' = i
  ·subst hii
   rw [St.get_put_self _ _ _ hi] at k
   cases k
   exact ho
  ·rw [St.get_put_ne _ _ _ hii] at k
   refine ORel.frame (.refl G) (by simp) ?_ ?_ ?_ (I.objs i' o' k)
   ·intro b' q j kk
    exact ⟨kk, cl_setBlk hx hn hm _ _, fz_setBlk hx hn hm _ _⟩
   ·intro b' q kk
    exact ⟨kk, fun c hc => ⟨c, by rw [cl_setBlk hx hn hm]; exact hc⟩, fz_setBlk hx hn hm _ _⟩
   ·intro b' kk
    have hne : b ≠ b' := by
     intro e; subst e; rw [hb] at kk; cases kk; exact hii rfl
    exact ⟨kk, Array.getElem?_setIfInBounds_ne hne⟩
 ·intro i' hi'; exact I.ids i' hi'
 ·intro b' i' k
  by_cases hbb : b = b'
  ·subst hbb
   exact ⟨y, Array.getElem?_setIfInBounds_self_of_lt hlt, hm⟩
  ·obtain ⟨z, hz, hzn⟩ := I.blkC b' i' k
   exact ⟨z, by rw [Array.getElem?_setIfInBounds_ne hbb]; exact hz, hzn⟩
 ·exact I.rm
 ·intro b0 x0 k0
  obtain ⟨q1, q2, q3⟩ := I.ro b0 x0 k0
  have hlt0 := (Array.getElem?_eq_some_iff.1 q1).1
  first
   | exact ⟨q1, q2, q3⟩
   | exact ⟨by rw [getElem?_push_lt' hlt0]; exact q1, q2, q3⟩
   | exact ⟨by rw [getElem?_push_lt' hlt0]; exact q1, by simp only [G']; rw [if_neg (by omega)]; exact q2, q3⟩
   | exact ⟨by rw [W.blk q1 q3]; exact q1, q2, q3⟩
   | exact ⟨by rw [Array.getElem?_setIfInBounds_ne (fun e => by subst e; rw [hb] at q2; cases q2)]; exact q1, q2, q3⟩
 ·exact I.low
theorem lt_of_get {α : Type} {l : List α} {j : Nat} {x : α} (h : l[j]? = some x) : j < l.length := by
 rcases Nat.lt_or_ge j l.length with k | k
 ·exact k
 ·rw [List.getElem?_eq_none k] at h; cases h
/-- an object that is no more looked at -/
theorem Inv.gone (I : Inv E B h0 G S h) {i : Nat} {cs : List AV} (hS : S.get i = some (.cells cs)) : Inv E B h0 G (S.put i (.cells [])) h := by
 refine ⟨I.old, I.size, I.imm, I.res, I.fresh, I.freshB, fun k o hk => ?_, fun k hk => I.ids k (by rw [St.n_put] at hk; exact hk), I.blkC, I.rm, I.ro, I.low⟩
 by_cases hik : k = i
 ·subst hik
  rw [St.get_put_self _ _ _ (St.get_lt hS)] at hk
  cases hk
  obtain ⟨b, o, h1, h2, _⟩ := I.objs k _ hS
  exact ⟨b, o, h1, h2, fun j x hx => by simp at hx⟩
 ·rw [St.get_put_ne _ _ _ hik] at hk
  exact I.objs k o hk
theorem Inv.spent (I : Inv E B h0 G S h) {i : Nat} (hS : S.get i = some (.tok false)) : Inv E B h0 G (S.put i (.tok true)) h := by
 refine ⟨I.old, I.size, I.imm, I.res, I.fresh, I.freshB, fun k o hk => ?_, fun k hk => I.ids k (by rw [St.n_put] at hk; exact hk), I.blkC, I.rm, I.ro, I.low⟩
 by_cases hik : k = i
 ·subst hik
  rw [St.get_put_self _ _ _ (St.get_lt hS)] at hk
  cases hk
  trivial
 ·rw [St.get_put_ne _ _ _ hik] at hk
  exact I.objs k o hk
/-- a new block: its first cells are an object's, the others a token's -/
theorem Inv.pushGrw (I : Inv E B h0 G S h) {c : Array Value} {e : TypeId} {cs : List AV} {news : List Value} (hr : Reps G cs news) (hc : ∀ (j : Nat) y, news[j]? = some y → c[j]? = some y) (hm : cs.length ≤ c.size) :
  ∃ G', G.Le G' ∧ G'.obj S.n = some (h.size, 0) ∧ G'.tok (S.n + 1) = some (h.size, cs.length, c.size - cs.length) ∧
   Inv E B h0 G' ((S.push (.cells cs)).push (.tok false)) (h.push (.cells c e (0, 0))) := by
 let G' : Gh := { G with obj := fun i => if i = S.n then some (h.size, 0) else G.obj i, own := fun b o => if b = h.size then (if o < cs.length then .obj S.n o else if o < c.size then .tok (S.n + 1) else .none) else G.own b o, tok := fun i => if i = S.n + 1 then some (h.size, cs.length, c.size - cs.length) else G.tok i }
 have hobj : G'.obj S.n = some (h.size, 0) := by simp [G']
 have htok : G'.tok (S.n + 1) = some (h.size, cs.length, c.size - cs.length) := by simp [G']
 have hown : ∀ b o, b ≠ h.size → G'.own b o = G.own b o := fun b o hb => by simp [G', hb]
 have hle : G.Le G' := by
  refine ⟨⟨fun i x k => ?_, fun i x k => ?_, fun b o c k => ?_, rfl, rfl, fun _ _ k => k, fun b o c hb k => (by rw [hown _ _ (by have := I.low; have := I.size; omega)] at k; exact k)⟩, fun b o c k => ?_⟩
  ·have := obj_lt I k
   simp only [G']; rw [if_neg (by omega)]; exact k
  ·have := tok_lt I k
   simp only [G']; rw [if_neg (by omega)]; exact k
  ·have := own_lt I (b := b) (o := o) (by rw [k]; simp)
   rw [hown _ _ (by omega)]; exact k
  ·have := own_lt I (b := b) (o := o) (by rw [k]; simp)
   rw [hown _ _ (by omega)]; exact k
 refine ⟨G', hle, hobj, htok, ?_⟩
 constructor
 ·intro b hb
  rw [getElem?_push_lt' (by have := I.size; omega)]; exact I.old b hb
 ·simp; have := I.size; omega
 ·intro b o x k
  by_cases hb : b = h.size
  ·subst hb
   simp only [G', if_true] at k
   split at k
   ·cases k
   ·split at k <;> cases k
  ·rw [hown _ _ hb] at k; rw [cl_push_old hb]; exact I.imm _ _ _ k
 ·intro b o x k
  by_cases hb : b = h.size
  ·subst hb
   simp only [G', if_true] at k
   split at k
   ·cases k
   ·split at k <;> cases k
  ·rw [hown _ _ hb] at k; rw [cl_push_old hb, fz_push_old hb]; exact I.res _ _ _ k
 ·intro b o hb
  simp at hb
  rw [hown _ _ (by omega)]; exact I.fresh b o (by omega)
 ·intro b hb
  simp at hb
  exact I.freshB b (by omega)
 ·intro i o k
  by_cases hi1 : i = S.n + 1
  ·subst hi1
   have hn : (S.push (.cells cs)).n = S.n + 1 := St.n_push _ _
   rw [← hn, St.get_push_self] at k
   cases k
   refine ⟨h.size, cs.length, c.size - cs.length, htok, fun j hj => ⟨?_, I.size, ⟨c[cs.length + j]'(by omega), ?_⟩, fz_push_new⟩⟩
   ·simp only [G', if_true]
    rw [if_neg (by omega), if_pos (by omega)]
   ·rw [cl_push_new]
    exact Array.getElem?_eq_getElem (by omega)
  rw [St.get_push_ne _ _ (by rw [St.n_push]; exact hi1)] at k
  by_cases hi : i = S.n
  ·subst hi
   rw [St.get_push_self] at k
   cases k
   refine ⟨h.size, 0, hobj, I.size, fun j x hx => ?_⟩
   obtain ⟨y, hy, hxy⟩ := hr.getElem hx
   refine ⟨?_, ⟨y, ?_, hxy.mono hle.toLe0⟩, fz_push_new⟩
   ·simp only [G', if_true, Nat.zero_add]
    rw [if_pos (lt_of_get hx)]
   ·rw [cl_push_new, Nat.zero_add]; exact hc j y hy
  ·rw [St.get_push_ne _ _ hi] at k
   refine ORel.frame hle.toLe0 (by simp) ?_ ?_ ?_ (I.objs i o k)
   ·intro b q j kk
    have := own_lt I (b := b) (o := q) (by rw [kk]; simp)
    exact ⟨by rw [hown _ _ (by omega)]; exact kk, cl_push_old (by omega), fz_push_old (by omega)⟩
   ·intro b q kk
    have := own_lt I (b := b) (o := q) (by rw [kk]; simp)
    exact ⟨by rw [hown _ _ (by omega)]; exact kk, fun c hc => ⟨c, by rw [cl_push_old (by omega)]; exact hc⟩, fz_push_old (by omega)⟩
   ·intro b kk
    have := blk_lt I kk
    exact ⟨kk, getElem?_push_lt' this⟩
 ·intro i hi
  rw [St.n_push, St.n_push] at hi
  obtain ⟨h1, h2⟩ := I.ids i (by omega)
  exact ⟨by simp only [G']; rw [if_neg (by omega)]; exact h1, by simp only [G']; rw [if_neg (by omega)]; exact h2⟩
 ·intro b i k
  obtain ⟨x, hx, hn⟩ := I.blkC b i k
  exact ⟨x, by rw [getElem?_push_lt' (blk_lt I k)]; exact hx, hn⟩
 ·exact I.rm
 ·intro b0 x0 k0
  obtain ⟨q1, q2, q3⟩ := I.ro b0 x0 k0
  have hlt0 := (Array.getElem?_eq_some_iff.1 q1).1
  first
   | exact ⟨q1, q2, q3⟩
   | exact ⟨by rw [getElem?_push_lt' hlt0]; exact q1, q2, q3⟩
   | exact ⟨by rw [getElem?_push_lt' hlt0]; exact q1, by simp only [G']; rw [if_neg (by omega)]; exact q2, q3⟩
   | exact ⟨by rw [W.blk q1 q3]; exact q1, q2, q3⟩
   | exact ⟨by rw [Array.getElem?_setIfInBounds_ne (fun e => by subst e; rw [hb] at q2; cases q2)]; exact q1, q2, q3⟩
 ·exact I.low
/-- cells that grow in place -/
theorem Inv.moveIn (I : Inv E B h0 G S h) {h' : Array Obj} {id b o n : Nat} {cs ns : List AV} {vs : List Value} (hS : S.get id = some (.cells cs)) (hG : G.obj id = some (b, o)) (hT : S.get (id + 1) = some (.tok false))
  (hK : G.tok (id + 1) = some (b, o + cs.length, n)) (hl : vs.length ≤ n) (hr : Reps G ns vs) (W : Wrote h h' b (o + cs.length) vs) (hv : vs ≠ []) :
  ∃ G', G.Le G' ∧ G'.obj S.n = some (b, o) ∧ G'.tok (S.n + 1) = some (b, o + cs.length + vs.length, n - vs.length) ∧
   Inv E B h0 G' ((((S.put id (.cells [])).put (id + 1) (.tok true)).push (.cells (cs ++ ns))).push (.tok false)) h' := by
 have ht := St.get_lt hT
 obtain ⟨b1, o1, hG1, hB, hc⟩ := I.objs id _ hS
 rw [hG] at hG1; cases hG1
 obtain ⟨b', s', n', hG', hd⟩ := I.objs (id + 1) _ hT
 rw [hK] at hG'; cases hG'
 have hreg1 : ∀ q, o ≤ q → q < o + cs.length → ∃ j, G.own b q = .obj id j := by
  intro q h1 h2
  obtain ⟨x, hx⟩ : ∃ x, cs[q - o]? = some x := ⟨_, List.getElem?_eq_getElem (by omega)⟩
  have := (hc (q - o) x hx).1
  rw [show o + (q - o) = q from by omega] at this
  exact ⟨_, this⟩
 have hreg : ∀ q, o + cs.length ≤ q → q < o + cs.length + n → G.own b q = .tok (id + 1) ∧ B ≤ b ∧ (∃ c, cl h b q = some c) ∧ fz h b q = false := by
  intro q h1 h2
  have := hd (q - (o + cs.length)) (by omega)
  rw [show o + cs.length + (q - (o + cs.length)) = q from by omega] at this
  exact this
 let G' : Gh := { G with obj := fun i => if i = S.n then some (b, o) else G.obj i, own := fun b' q => if b' = b ∧ o ≤ q ∧ q < o + cs.length + n then (if q < o + cs.length + vs.length then .obj S.n (q - o) else .tok (S.n + 1)) else G.own b' q, tok := fun i => if i = S.n + 1 then some (b, o + cs.length + vs.length, n - vs.length) else G.tok i }
 have hobj : G'.obj S.n = some (b, o) := by simp [G']
 have htok : G'.tok (S.n + 1) = some (b, o + cs.length + vs.length, n - vs.length) := by simp [G']
 have hout : ∀ b' q, ¬ (b' = b ∧ o ≤ q ∧ q < o + cs.length + n) → G'.own b' q = G.own b' q := fun b' q k => by simp only [G']; rw [if_neg k]
 have hin : ∀ b' q, G.own b' q ≠ .tok (id + 1) → (∀ j, G.own b' q ≠ .obj id j) → ¬ (b' = b ∧ o ≤ q ∧ q < o + cs.length + n) := by
  intro b' q k k' ⟨h1, h2, h3⟩
  subst h1
  by_cases h4 : q < o + cs.length
  ·obtain ⟨j, hj⟩ := hreg1 q h2 h4
   exact k' j hj
  ·exact k (hreg q (by omega) h3).1
 have hcl : ∀ b' q, G.own b' q ≠ .tok (id + 1) → cl h' b' q = cl h b' q := by
  intro b' q k
  refine W.cl_out fun ⟨h1, h2, h3⟩ => ?_
  subst h1
  exact k (hreg q h2 (by omega)).1
 have hle : G.Le G' := by
  refine ⟨⟨fun i x k => ?_, fun i x k => ?_, fun b o c k => ?_, rfl, rfl, fun _ _ k => k, fun b' q c hb k => (by rw [hout b' q (by rintro ⟨rfl, h2, h3⟩; have := I.low; omega)] at k; exact k)⟩, fun b o c k => ?_⟩
  ·have := obj_lt I k
   simp only [G']; rw [if_neg (by omega)]; exact k
  ·have := tok_lt I k
   simp only [G']; rw [if_neg (by omega)]; exact k
  ·rw [hout _ _ (hin _ _ (by rw [k]; simp) (fun j => by rw [k]; simp))]; exact k
  ·rw [hout _ _ (hin _ _ (by rw [k]; simp) (fun j => by rw [k]; simp))]; exact k
 refine ⟨G', hle, hobj, htok, ?_⟩
 have hn0 : 0 < vs.length := List.length_pos_iff.2 hv
 constructor
 ·intro b' hb'
  rw [W.other b' (by omega)]; exact I.old b' hb'
 ·rw [W.size]; exact I.size
 ·intro b' q c k
  by_cases hq : b' = b ∧ o ≤ q ∧ q < o + cs.length + n
  ·simp only [G'] at k
   rw [if_pos hq] at k
   split at k <;> cases k
  ·rw [hout _ _ hq] at k
   rw [hcl _ _ (by rw [k]; simp)]; exact I.imm _ _ _ k
 ·intro b' q c k
  by_cases hq : b' = b ∧ o ≤ q ∧ q < o + cs.length + n
  ·simp only [G'] at k
   rw [if_pos hq] at k
   split at k <;> cases k
  ·rw [hout _ _ hq] at k
   rw [hcl _ _ (by rw [k]; simp), W.fz_all]; exact I.res _ _ _ k
 ·intro b' q k
  rw [W.size] at k
  have := I.fresh b' q k
  rw [hout _ _ (hin _ _ (by rw [this]; simp) (fun j => by rw [this]; simp))]; exact this
 ·intro b' k; rw [W.size] at k; exact I.freshB b' k
 ·intro i x k
  have hn1 : (((S.put id (.cells [])).put (id + 1) (.tok true)).push (.cells (cs ++ ns))).n = S.n + 1 := by rw [St.n_push, St.n_put, St.n_put]
  have hn2 : ((S.put id (.cells [])).put (id + 1) (.tok true)).n = S.n := by rw [St.n_put, St.n_put]
  by_cases hi1 : i = S.n + 1
  ·subst hi1
   rw [← hn1, St.get_push_self] at k
   cases k
   refine ⟨b, o + cs.length + vs.length, n - vs.length, htok, fun j hj => ?_⟩
   obtain ⟨_, h2, ⟨c, h3⟩, h4⟩ := hreg (o + cs.length + vs.length + j) (by omega) (by omega)
   refine ⟨?_, h2, ⟨c, ?_⟩, by rw [W.fz_all]; exact h4⟩
   ·simp only [G']; rw [if_pos ⟨trivial, by omega, by omega⟩, if_neg (by omega)]
   ·rw [W.cells, if_neg (by omega)]; exact h3
  rw [St.get_push_ne _ _ (by rw [hn1]; exact hi1)] at k
  by_cases hi : i = S.n
  ·subst hi
   rw [← hn2, St.get_push_self] at k
   cases k
   refine ⟨b, o, hobj, hB, fun j x hx => ?_⟩
   have hjl := lt_of_get hx
   rw [List.length_append] at hjl
   have hnl : ns.length = vs.length := hr.1
   refine ⟨?_, ?_, ?_⟩
   ·simp only [G']; rw [if_pos ⟨trivial, by omega, by omega⟩, if_pos (by omega), show o + j - o = j from by omega]
   ·by_cases hj : j < cs.length
    ·rw [List.getElem?_append_left hj] at hx
     obtain ⟨h1, ⟨c, h2, h3⟩, _⟩ := hc j x hx
     exact ⟨c, by rw [hcl _ _ (by rw [h1]; simp)]; exact h2, h3.mono hle.toLe0⟩
    ·rw [List.getElem?_append_right (by omega)] at hx
     obtain ⟨y, hy, hxy⟩ := hr.getElem hx
     refine ⟨y, ?_, hxy.mono hle.toLe0⟩
     rw [W.cells, if_pos (by omega), show o + j - (o + cs.length) = j - cs.length from by omega]
     exact hy
   ·rw [W.fz_all]
    by_cases hj : j < cs.length
    ·rw [List.getElem?_append_left hj] at hx
     exact (hc j x hx).2.2
    ·exact (hreg (o + j) (by omega) (by omega)).2.2.2
  ·rw [St.get_push_ne _ _ (by rw [hn2]; exact hi)] at k
   by_cases hit : i = id + 1
   ·subst hit
    rw [St.get_put_self _ _ _ (by rw [St.n_put]; exact ht)] at k
    cases k
    trivial
   ·rw [St.get_put_ne _ _ _ hit] at k
    by_cases hid : i = id
    ·subst hid
     rw [St.get_put_self _ _ _ (St.get_lt hS)] at k
     cases k
     exact ⟨b, o, hle.toLe0.obj _ _ hG, hB, fun j x hx => by simp at hx⟩
    ·rw [St.get_put_ne _ _ _ hid] at k
     refine ORel.frame hle.toLe0 (by rw [W.size]; exact Nat.le_refl _) ?_ ?_ ?_ (I.objs i x k)
     ·intro b' q j kk
      have hne : G.own b' q ≠ .tok (id + 1) := by rw [kk]; simp
      exact ⟨by rw [hout _ _ (hin _ _ hne (fun j' e => by rw [kk] at e; cases e; exact hid rfl))]; exact kk, hcl _ _ hne, W.fz_all _ _⟩
     ·intro b' q kk
      have hne : G.own b' q ≠ .tok (id + 1) := by rw [kk]; intro e; cases e; exact hit rfl
      exact ⟨by rw [hout _ _ (hin _ _ hne (fun j' => by rw [kk]; simp))]; exact kk, fun c hc => ⟨c, by rw [hcl _ _ hne]; exact hc⟩, W.fz_all _ _⟩
     ·intro b' kk
      exact ⟨kk, I.blk_keep W.keep kk⟩
 ·intro i hi
  rw [St.n_push, St.n_push, St.n_put, St.n_put] at hi
  obtain ⟨h1, h2⟩ := I.ids i (by omega)
  exact ⟨by simp only [G']; rw [if_neg (by omega)]; exact h1, by simp only [G']; rw [if_neg (by omega)]; exact h2⟩
 ·intro b' i' k
  obtain ⟨x, hx, hn⟩ := I.blkC b' i' k
  exact ⟨x, W.keep _ _ hx hn, hn⟩
 ·exact I.rm
 ·intro b0 x0 k0
  obtain ⟨q1, q2, q3⟩ := I.ro b0 x0 k0
  have hlt0 := (Array.getElem?_eq_some_iff.1 q1).1
  first
   | exact ⟨q1, q2, q3⟩
   | exact ⟨by rw [getElem?_push_lt' hlt0]; exact q1, q2, q3⟩
   | exact ⟨by rw [getElem?_push_lt' hlt0]; exact q1, by simp only [G']; rw [if_neg (by omega)]; exact q2, q3⟩
   | exact ⟨by rw [W.blk q1 q3]; exact q1, q2, q3⟩
   | exact ⟨by rw [Array.getElem?_setIfInBounds_ne (fun e => by subst e; rw [hb] at q2; cases q2)]; exact q1, q2, q3⟩
 ·exact I.low
end Go.Vm
