/-
Code, functions and calls. No conditions.
-/
import Derived.Test.YtjfnelfdlemfgaaGreatDoorVmA
import Derived.Test.YtjfnelfdlemfgaaGreatDoorVmF
import Derived.Maps.RangeRun
import Derived.RangeFuncNested
import Derived.Below
set_option linter.all false
set_option maxHeartbeats 4000000
namespace Go.Vm
open Go
variable {P : Program} {E : Env} {B : Nat} {h0 : Array Obj} {G G' : Gh} {S S' : St} {h h' : Array Obj}
/-- of an abstract state nothing counts but what is got -/
theorem Inv.congr (I : Inv E B h0 G S h) (hn : S'.n = S.n) (hg : ∀ i, S'.get i = S.get i) : Inv E B h0 G S' h :=
 ⟨I.old, I.size, I.imm, I.res, I.fresh, I.freshB, fun i o k => I.objs i o (by rw [← hg]; exact k), fun i hi => I.ids i (by rw [← hn]; exact hi), I.blkC, I.rm, I.ro, I.low⟩
def Gh.cut (G : Gh) (n : Nat) (K : Nat → Option Nat) (R : Nat → Option Obj) : Gh := {
 obj := fun i => if i < n then G.obj i else none
 tok := fun i => if i < n then G.tok i else none
 own := fun b o => match G.own b o with
  | .obj i j => if i < n then .obj i j else .none
  | .tok i => if i < n then .tok i else .none
  | x => x
 blk := K
 rm := G.rm
 ro := R
 lo := G.lo }
section
variable {K : Nat → Option Nat} {R : Nat → Option Obj}
theorem Gh.cut_imm {n b o : Nat} {c : Value} : (G.cut n K R).own b o = .imm c ↔ G.own b o = .imm c := by
 simp only [Gh.cut]
 split
 ·rename_i h; rw [h]; split <;> simp
 ·rename_i h; rw [h]; split <;> simp
 ·rfl
theorem Gh.cut_obj {n i : Nat} (hi : i < n) : (G.cut n K R).obj i = G.obj i := by simp [Gh.cut, hi]
theorem Gh.cut_tok {n i : Nat} (hi : i < n) : (G.cut n K R).tok i = G.tok i := by simp [Gh.cut, hi]
/-- ids that are told are below a number -/
def Below (G : Gh) (n : Nat) : Prop := (∀ i x, G.obj i = some x → i < n) ∧ (∀ i x, G.tok i = some x → i < n)
theorem sameLen {α β : Type} {xs : List α} {ys : Array β} (h : xs.length = ys.size) {j : Nat} {x : α} (hx : xs[j]? = some x) : ∃ y, ys[j]? = some y := by
 have hj : j < ys.size := by rw [← h]; exact getElem?_lt hx
 exact ⟨ys[j], Array.getElem?_eq_getElem hj⟩
theorem Rep.shrink {n : Nat} (hB : Below G n) {v : AV} {c : Value} (h : Rep G' v c) : ∀ {c0 : Value}, Rep G v c0 → Rep (G'.cut n K R) v c := by
 induction h with
 | undef c => intro c0 _; exact .undef c
 | bool b => intro c0 _; exact .bool b
 | int k z => intro c0 _; exact .int k z
 | str s => intro c0 _; exact .str s
 | nilp => intro c0 _; exact .nilp
 | ptr i off b o hobj =>
  intro c0 h0
  cases h0 with
  | ptr _ _ b0 o0 k => exact .ptr i off b o (by rw [Gh.cut_obj (hB.1 _ _ k)]; exact hobj)
 | rptr cs b o h1 h2 ih =>
  intro c0 h0
  cases h0 with
  | rptr _ b0 o0 k1 k2 =>
   refine .rptr cs b o (fun j hj => ?_) (fun j x y hx hy => ?_)
   ·obtain ⟨y, hy⟩ := h1 j hj
    exact ⟨y, Gh.cut_imm.2 hy⟩
   ·obtain ⟨y0, hy0⟩ := k1 j (getElem?_lt hx)
    exact ih j x y hx (Gh.cut_imm.1 hy) (k2 j x y0 hx hy0)
 | nils => intro c0 _; exact .nils
 | slice es tk b o m cap sz hn hsz hcap h1 h2 ht ih =>
  intro c0 h0
  cases h0 with
  | slice _ _ b0 o0 m0 cap0 sz0 hn0 hsz0 hcap0 k1 k2 kt =>
   refine .slice es tk b o m cap sz hn hsz hcap (fun j hj => ?_) (fun j x y hx hy => ?_) ?_
   ·obtain ⟨y, hy⟩ := h1 j hj
    exact ⟨y, Gh.cut_imm.2 hy⟩
   ·obtain ⟨y0, hy0⟩ := k1 j (getElem?_lt hx)
    exact ih j x y hx (Gh.cut_imm.1 hy) (k2 j x y0 hx hy0)
   ·cases tk with
    | full => exact ht
    | lit => exact ht
    | dead => trivial
    | tok i s =>
     obtain ⟨q0, b', e', q1, q2⟩ := ht
     obtain ⟨_, _, _, q3, _⟩ := kt
     exact ⟨q0, b', e', by rw [Gh.cut_tok (hB.2 _ _ q3)]; exact q1, q2⟩
  | slice0 ad =>
   refine .slice [] .dead b o m cap sz hn hsz hcap (fun j hj => ?_) (fun j x y hx hy => ?_) trivial
   ·simp at hj
   ·simp at hx
 | slice0 ad => intro c0 _; exact .slice0 ad
 | rsl i off len cap b o hobj hl =>
  intro c0 h0
  obtain ⟨b0, o0, _, k, _⟩ := h0.rsl_inv
  exact .rsl i off len cap b o (by rw [Gh.cut_obj (hB.1 _ _ k)]; exact hobj) hl
 | grw i len b o cap hobj hpos hl ht =>
  intro c0 h0
  obtain ⟨b0, o0, cap', k, _, kl, kk⟩ := h0.rsl_inv
  rcases kk with rfl | ⟨_, _, _, kt⟩
  ·omega
  ·obtain ⟨q0, b', e', q1, q2⟩ := ht
   obtain ⟨_, _, _, q3, _⟩ := kt
   exact .grw i len b o cap (by rw [Gh.cut_obj (hB.1 _ _ k)]; exact hobj) hpos hl ⟨q0, b', e', by rw [Gh.cut_tok (hB.2 _ _ q3)]; exact q1, q2⟩
 | nilm => intro c0 _; exact .nilm
 | map i b hobj =>
  intro c0 h0
  cases h0 with
  | map _ b0 k => exact .map i b (by rw [Gh.cut_obj (hB.1 _ _ k)]; exact hobj)
 | fn f fs cs fs' cs' hf hc h1 h2 ih1 ih2 =>
  intro c0 h0
  cases h0 with
  | fn _ _ _ fs0 cs0 hf0 hc0 k1 k2 =>
   refine .fn f fs cs fs' cs' hf hc (fun j x y hx hy => ?_) (fun j x y hx hy => ?_)
   ·exact (sameLen hf0 hx).elim fun y0 hy0 => ih1 j x y hx hy (k1 j x y0 hx hy0)
   ·exact (sameLen hc0 hx).elim fun y0 hy0 => ih2 j x y hx hy (k2 j x y0 hx hy0)
 | fref f fs cs fs' cs' hf hc h1 h2 ih1 ih2 =>
  intro c0 h0
  cases h0 with
  | fref _ _ _ fs0 cs0 hf0 hc0 k1 k2 =>
   refine .fref f fs cs fs' cs' hf hc (fun j x y hx hy => ?_) (fun j x y hx hy => ?_)
   ·exact (sameLen hf0 hx).elim fun y0 hy0 => ih1 j x y hx hy (k1 j x y0 hx hy0)
   ·exact (sameLen hc0 hx).elim fun y0 hy0 => ih2 j x y hx hy (k2 j x y0 hx hy0)
 | rmap ks vs b en fs ck hm hp ha hk hv h1 h2 ih1 ih2 =>
  intro c0 h0
  cases h0 with
  | rmap _ _ b0 en0 fs0 ck0 hm0 hp0 ha0 hk0 hv0 k1 k2 =>
   refine .rmap ks vs b en fs ck hm hp ha hk hv (fun j x y hx hy => ?_) (fun j x y hx hy => ?_)
   ·exact (sameLen hk0 hx).elim fun y0 hy0 => ih1 j x y hx hy (k1 j x y0 hx hy0)
   ·exact (sameLen hv0 hx).elim fun y0 hy0 => ih2 j x y hx hy (k2 j x y0 hx hy0)
 | yld i b hobj =>
  intro c0 h0
  cases h0 with
  | yld _ b0 k => exact .yld i b (by rw [Gh.cut_obj (hB.1 _ _ k)]; exact hobj)
 | nilf => intro c0 _; exact .nilf
 | iface t v c h ih =>
  intro c0 h0
  cases h0 with
  | iface _ _ c1 k => exact .iface t v c (ih k)
 | nili => intro c0 _; exact .nili
 | agg xs ys hl h ih =>
  intro c0 h0
  cases h0 with
  | agg _ ys0 hl0 k =>
   exact .agg xs ys hl fun j x y hx hy => (sameLen hl0 hx).elim fun y0 hy0 => ih j x y hx hy (k j x y0 hx hy0)
 | tup xs ys hl h ih =>
  intro c0 h0
  cases h0 with
  | tup _ ys0 hl0 k =>
   exact .tup xs ys hl fun j x y hx hy => (sameLen hl0 hx).elim fun y0 hy0 => ih j x y hx hy (k j x y0 hx hy0)
theorem MapRel.shrink {n : Nat} (hB : Below G n) : ∀ {es : List (AV × AV)} {fs fs0 : List MapEntry}, MapRel G' es fs → MapRel G es fs0 → MapRel (G'.cut n K R) es fs
 | [], [], [], _, _ => trivial
 | (_, _) :: _, _ :: _, _ :: _, h, k => ⟨h.1.shrink hB k.1, h.2.1.shrink hB k.2.1, MapRel.shrink hB h.2.2 k.2.2⟩
 | [], [], _ :: _, _, k => k.elim
 | [], _ :: _, _, h, _ => h.elim
 | (_, _) :: _, [], _, h, _ => h.elim
 | (_, _) :: _, _ :: _, [], _, k => k.elim
theorem ORel.shrink {n i : Nat} (hB : Below G n) (hi : i < n) {o : AO} (hK : ∀ b, G'.blk b = some i → K b = some i) (hG : G.Le0 G') (k' : ORel E B G' h' i o) (k : ORel E B G h i o) : ORel E B (G'.cut n K G.ro) h' i o := by
 have hobj : (G'.cut n K G.ro).obj i = G'.obj i := Gh.cut_obj hi
 cases o with
 | cells cs =>
  obtain ⟨b, o, h1, h2, h3⟩ := k'
  obtain ⟨b0, o0, q1, q2, q3⟩ := k
  refine ⟨b, o, by rw [hobj]; exact h1, h2, fun j x hx => ?_⟩
  obtain ⟨h4, ⟨c, h5, h6⟩, h7⟩ := h3 j x hx
  obtain ⟨_, ⟨c0, _, q6⟩, _⟩ := q3 j x hx
  exact ⟨by simp [Gh.cut, h4, hi], ⟨c, h5, h6.shrink hB q6⟩, h7⟩
 | map es =>
  obtain ⟨b, h1, h2, h3, en, ck, h4, h5, h6⟩ := k'
  obtain ⟨b0, q1, q2, q3, en0, ck0, q4, q5, q6⟩ := k
  exact ⟨b, by rw [hobj]; exact h1, hK b h2, h3, en, ck, h4, h5.shrink hB q5, h6⟩
 | tok s =>
  cases s with
  | true => trivial
  | false =>
   obtain ⟨b, s, m, h1, h2⟩ := k'
   refine ⟨b, s, m, by rw [Gh.cut_tok hi]; exact h1, fun j hj => ?_⟩
   obtain ⟨h3, h4, h5, h6⟩ := h2 j hj
   exact ⟨by simp [Gh.cut, h3, hi], h4, h5, h6⟩
 | loop a =>
  obtain ⟨b, h1, h2, h3, r, h4, h5⟩ := k'
  obtain ⟨b0, q1, q2, q3, r0, q4, q5⟩ := k
  refine ⟨b, by rw [hobj]; exact h1, hK b h2, h3, r, h4, ?_⟩
  obtain ⟨s1, s2, s3, s4, s5, s6, s7, fi, s8, s9, s10⟩ := h5
  obtain ⟨_, _, _, _, _, _, p7, fi0, p8, p9, p10⟩ := q5
  rw [s8] at p8
  cases p8
  exact ⟨s1, s2, s3, s4, s5, s6, by rw [Gh.cut_obj (hB.1 _ _ p7)]; exact s7, fi, s8, s9, fun t k hk => (s10 t k hk).shrink hB (p10 t k hk)⟩
 | dfr t =>
  obtain ⟨b, h1, h2, h3, h4⟩ := k'
  exact ⟨b, by rw [hobj]; exact h1, hK b h2, h3, h4⟩
 | iter ks vs =>
  obtain ⟨b, mb, en, ck, h1, h2, h3, h4, h5, h6⟩ := k'
  obtain ⟨b0, mb0, en0, ck0, q1, q2, q3, q4, q5, q6⟩ := k
  exact ⟨b, mb, en, ck, by rw [hobj]; exact h1, hK b h2, h3, h4, h5.shrink hB q5, h6⟩
 | iterX =>
  obtain ⟨b, mb, en, ck, seen, h1, h2, h3, h4, h6⟩ := k'
  exact ⟨b, mb, en, ck, seen, by rw [hobj]; exact h1, hK b h2, h3, h4, h6⟩
 | iter1 x v =>
  obtain ⟨b0, mb0, en0, ck0, seen0, e0, q1, q4, q5, q6, q7, q8, q9⟩ := k
  obtain ⟨b, mb, en, ck, seen, e, h1, h4, h5, h6, h7, h8, h9⟩ := k'
  have hb : b0 = b := by
   have := hG.obj _ _ q1
   rw [h1] at this
   cases this
   rfl
  subst hb
  have hq := hG.ro _ _ q4
  rw [h4] at hq
  rw [← hq] at q4
  exact ⟨b0, mb, en, ck, seen, e, by rw [hobj]; exact h1, q4, h5, h6, h7, h8.shrink hB q8, h9.shrink hB q9⟩
end
/-- back to what was said ahead of a round, of the memory behind it -/
theorem Inv.cut (I : Inv E B h0 G S h) (hG : G.Le G') (I' : Inv E B h0 G' S' h') {i b0 mb ck : Nat} {en : Array MapEntry} {seen : Array Nat} (hS : S.get i = some .iterX) (hk : ∀ j, j < S.n → j ≠ i → S'.get j = S.get j)
  (hb : G.blk b0 = some i) (ho : G.obj i = some (b0, 0)) (hB0 : B ≤ b0) (hrm : G.rm mb = some (en, ck)) (hy : G'.ro b0 = some (.mapIter (some mb) ck seen ck)) :
  ∃ G3, G.Le G3 ∧ Inv E B h0 G3 S h' ∧ G3.blk b0 = some i ∧ (∀ v c c0, Rep G' v c → Rep G v c0 → Rep G3 v c) := by
 have hi := St.get_lt hS
 have hB : Below G S.n := ⟨fun i x k => obj_lt I k, fun i x k => tok_lt I k⟩
 let K : Nat → Option Nat := fun b => if b = b0 then some i else match G'.blk b with
  | some j => if j < S.n then some j else none
  | none => none
 obtain ⟨r1, r2, r3⟩ := I'.ro _ _ hy
 have hK : ∀ j, j < S.n → ∀ b, G'.blk b = some j → K b = some j := by
  intro j hj b e
  have : b ≠ b0 := by intro q; subst q; rw [r2] at e; cases e
  simp [K, this, e, hj]
 refine ⟨G'.cut S.n K G.ro, ⟨⟨fun j x k => ?_, fun j x k => ?_, fun b o c k => Gh.cut_imm.2 (hG.imm _ _ _ k), hG.lo, hG.rm, fun _ _ k => k, fun b o c hb k => hG.back b o c hb (Gh.cut_imm.1 k)⟩, fun b o c k => ?_⟩, ?_, by simp [Gh.cut, K], fun v c c0 k1 k2 => k1.shrink hB k2⟩
 ·rw [Gh.cut_obj (hB.1 _ _ k)]; exact hG.obj _ _ k
 ·rw [Gh.cut_tok (hB.2 _ _ k)]; exact hG.tok _ _ k
 ·have := hG.res _ _ _ k
  simp [Gh.cut, this]
 ·refine ⟨I'.old, I'.size, fun b o c k => I'.imm _ _ _ (Gh.cut_imm.1 k), fun b o c k => I'.res _ _ _ ?_, fun b o hb => ?_, fun b hb' => ?_, fun j o k => ?_, fun j hj => ?_, fun b j k => ?_, I'.rm, fun b x k => ?_, I'.low⟩
  ·simp only [Gh.cut] at k
   split at k
   ·split at k <;> cases k
   ·split at k <;> cases k
   ·exact k
  ·simp [Gh.cut, I'.fresh b o hb]
  ·have : b ≠ b0 := by
    intro q; subst q
    have := (Array.getElem?_eq_some_iff.1 r1).1
    omega
   simp [Gh.cut, K, this, I'.freshB b hb']
  ·have hj := St.get_lt k
   by_cases hji : j = i
   ·subst hji
    rw [hS] at k
    cases k
    exact ⟨b0, mb, en, ck, seen, by rw [Gh.cut_obj hi]; exact hG.obj _ _ ho, by simp [Gh.cut, K], hB0, r1, by show G'.rm mb = _; rw [hG.rm]; exact hrm⟩
   ·exact ORel.shrink hB hj (hK j hj) hG.toLe0 (I'.objs j o (by rw [hk j hj hji]; exact k)) (I.objs j o k)
  ·have hj' : ¬ j < S.n := by omega
   simp [Gh.cut, hj']
  ·have k' : K b = some j := k
   by_cases hbb : b = b0
   ·subst hbb
    exact ⟨_, r1, r3⟩
   ·simp only [K, if_neg hbb] at k'
    split at k'
    ·rename_i j' hj'
     split at k'
     ·cases k'; exact I'.blkC b _ hj'
     ·cases k'
    ·cases k'
  ·have k' : G.ro b = some x := k
   obtain ⟨p1, p2, p3⟩ := I.ro b x k'
   obtain ⟨q1, q2, q3⟩ := I'.ro b x (hG.ro _ _ k')
   have hbb : b ≠ b0 := by intro q; subst q; rw [hb] at p2; cases p2
   exact ⟨q1, by simp [Gh.cut, K, hbb, q2], q3⟩
/-- the iterator's block, for a round: nothing writes it -/
theorem Inv.hold (I : Inv E B h0 G S h) {i b0 : Nat} {y : Obj} {k v : AV} (hS : S.get i = some .iterX) (hb : G.blk b0 = some i) (hy : h[b0]? = some y) (hn : ∀ c e f, y ≠ .cells c e f)
  (ho : ORel E B { G with blk := fun b => if b = b0 then none else G.blk b, ro := fun b => if b = b0 then some y else G.ro b } h i (.iter1 k v)) :
  G.Le { G with blk := fun b => if b = b0 then none else G.blk b, ro := fun b => if b = b0 then some y else G.ro b } ∧
  Inv E B h0 { G with blk := fun b => if b = b0 then none else G.blk b, ro := fun b => if b = b0 then some y else G.ro b } (S.put i (.iter1 k v)) h := by
 have hi := St.get_lt hS
 have hro : ∀ b x, G.ro b = some x → b ≠ b0 := by
  intro b x k q
  subst q
  rw [(I.ro _ _ k).2.1] at hb
  cases hb
 have hle : G.Le { G with blk := fun b => if b = b0 then none else G.blk b, ro := fun b => if b = b0 then some y else G.ro b } :=
  ⟨⟨fun _ _ k => k, fun _ _ k => k, fun _ _ _ k => k, rfl, rfl, fun b x k => by simp [hro b x k, k], fun _ _ _ _ k => k⟩, fun _ _ _ k => k⟩
 refine ⟨hle, I.old, I.size, I.imm, I.res, I.fresh, fun b hb' => ?_, fun j o k => ?_, fun j hj => I.ids j (by rw [St.n_put] at hj; exact hj), fun b j k => ?_, I.rm, fun b x k => ?_, I.low⟩
 ·simp only
  split
  ·rfl
  ·exact I.freshB b hb'
 ·by_cases hji : j = i
  ·subst hji
   rw [St.get_put_self _ _ _ hi] at k
   cases k
   exact ho
  ·rw [St.get_put_ne _ _ _ hji] at k
   refine ORel.frame hle.toLe0 (Nat.le_refl _) (fun b q j kk => ⟨kk, rfl, rfl⟩) (fun b q kk => ⟨kk, fun c hc => ⟨c, hc⟩, rfl⟩) (fun b kk => ⟨?_, rfl⟩) (I.objs j o k)
   have : b ≠ b0 := by
    intro q; subst q
    rw [hb] at kk
    cases kk
    exact hji rfl
   simp [this, kk]
 ·simp only at k
  split at k
  ·cases k
  ·exact I.blkC b j k
 ·simp only at k
  split at k
  ·rename_i hbb
   cases k
   subst hbb
   exact ⟨hy, by simp, hn⟩
  ·rename_i hbb
   obtain ⟨q1, q2, q3⟩ := I.ro b x k
   exact ⟨q1, by simp [hbb, q2], q3⟩
/-- what is newer than all that is known -/
theorem Inv.grow (I : Inv E B h0 G S h) {h' : Array Obj} (hs : h.size ≤ h'.size) (hk : ∀ b, b < h.size → h'[b]? = h[b]?) : Inv E B h0 G S h' := by
 have hcl : ∀ {b o : Nat} {c : Value}, cl h b o = some c → cl h' b o = some c := fun {b o c} k => by
  have := hk b (cl_lt k)
  unfold cl at k ⊢
  rw [this]; exact k
 have hlt : ∀ {b : Nat} {x : Obj}, h[b]? = some x → h'[b]? = some x := fun {b x} k => by
  rw [hk b (Array.getElem?_eq_some_iff.1 k).1]; exact k
 have hcf : ∀ b o, G.own b o ≠ .none → cl h' b o = cl h b o ∧ fz h' b o = fz h b o := fun b o k => by
  have hb : b < h.size := by
   rcases Nat.lt_or_ge b h.size with q | q
   ·exact q
   ·exact absurd (I.fresh b o q) k
  unfold cl fz
  rw [hk b hb]
  exact ⟨rfl, rfl⟩
 refine ⟨fun b hb => ?_, Nat.le_trans I.size hs, fun b o c k => hcl (I.imm b o c k), fun b o c k => ?_, fun b o hb => I.fresh b o (Nat.le_trans hs hb), fun b hb => I.freshB b (Nat.le_trans hs hb), fun i o k => ?_, I.ids, fun b i k => ?_, I.rm, fun b x k => ?_, I.low⟩
 ·rw [hk b (Nat.lt_of_lt_of_le hb I.size)]; exact I.old b hb
 ·obtain ⟨q1, q2, q3⟩ := I.res b o c k
  exact ⟨hcl q1, by rw [(hcf b o (by rw [k]; simp)).2]; exact q2, q3⟩
 ·have hown : ∀ b q j, G.own b q = .obj i j → G.own b q = .obj i j ∧ cl h' b q = cl h b q ∧ fz h' b q = fz h b q := fun b q j kk => ⟨kk, hcf b q (by rw [kk]; simp)⟩
  have htok : ∀ b q, G.own b q = .tok i → G.own b q = .tok i ∧ (∀ c, cl h b q = some c → ∃ c', cl h' b q = some c') ∧ fz h' b q = fz h b q := fun b q kk => ⟨kk, fun c hc => ⟨c, hcl hc⟩, (hcf b q (by rw [kk]; simp)).2⟩
  have hblk : ∀ b, G.blk b = some i → G.blk b = some i ∧ h'[b]? = h[b]? := fun b kk => by
   obtain ⟨x, hx, _⟩ := I.blkC b i kk
   exact ⟨kk, by rw [hlt hx, hx]⟩
  exact ORel.frame (Gh.Le.refl G).toLe0 hs hown htok hblk (I.objs i o k)
 ·obtain ⟨x, hx, hn⟩ := I.blkC b i k
  exact ⟨x, hlt hx, hn⟩
 ·obtain ⟨q1, q2, q3⟩ := I.ro b x k
  exact ⟨hlt q1, q2, q3⟩
theorem leVals_get : ∀ {a b : List AV}, leVals a b = true → ∀ k, (a.getD k .undef).Le (b.getD k .undef)
 | [], [], _, k => .refl _
 | [], _ :: _, h, _ => by simp [leVals] at h
 | _ :: _, [], h, _ => by simp [leVals] at h
 | x :: a, y :: b, h, k => by
  simp only [leVals, Bool.and_eq_true] at h
  cases k with
  | zero =>
   simp only [List.getD_cons_zero]
   have h1 := h.1
   split at h1
   ·exact .inl rfl
   ·rw [AV.beq_eq _ _ h1]; exact .refl _
  | succ k =>
   simp only [List.getD_cons_succ]
   exact leVals_get h.2 k
end Go.Vm
namespace Go.Vm
open Go
variable {P : Program} {E : Env} {B : Nat} {h0 : World} {G : Gh} {S S' : St} {w : World}
theorem fat_atR (b : Frame) (a : Act) (todo : List Item) : fat b a todo = b.atR a todo := rfl
theorem get_clear {vars : List Tmp} {L : Loc} {t : Tmp} : (L.clear.get vars t).Le (L.get vars t) := by
 unfold Loc.get Loc.clear
 cases idx vars t with
 | none => exact .inl rfl
 | some k => exact .refl _
theorem LRel.clear {vars : List Tmp} {nt : Nat} {L : Loc} {a : Act} {b : Frame} {cs : List Frame} (h : LRel vars nt G L a b cs) : LRel vars nt G L.clear a b cs :=
 ⟨h.size, fun t => Rep.le get_clear (h.get t), h.defers, h.rnd, h.recs⟩
def Land (P : Program) (m : Machine) (b : Frame) (k : List Item) (a' : Act) (cs' : List Frame) (w' : World) (G' : Gh) : Ex → Prop
 | .normal => Steps P m (lone (fat b a' k) cs' w')
 | .exit id => ∃ todo, exitTo id todo = exitTo id k ∧ Steps P m (lone (fat b a' (.code (.exit id) :: todo)) cs' w')
 | .ret => ∃ todo, Steps P m (lone (fat b a' (.code .ret :: todo)) cs' w')
 | .pan v => ∃ c todo, Rep G' v c ∧ Steps P m (lone { fat b a' todo with mode := .panicking [entry c] } cs' w')
def Arr (P : Program) (E : Env) (B : Nat) (h0 : World) (vars : List Tmp) (nt : Nat) (G : Gh) (m : Machine) (b : Frame) (k : List Item) (r0 : RecS) (cs : List Frame) (ex : Ex) (L' : Loc) (S' : St) : Prop :=
 ∃ G' a' cs' w', G.Le G' ∧ InvW E B h0 G' S' w' ∧ LRel vars nt G' L' a' b cs' ∧ CsStep r0 L'.recs cs cs' ∧ Land P m b k a' cs' w' G' ex
section
variable {vars : List Tmp} {nt : Nat} {b : Frame} {k k' : List Item} {m m1 : Machine} {r0 r1 : RecS} {cs cs1 : List Frame} {ex : Ex} {L' : Loc}
theorem Land.head {a' : Act} {cs' : List Frame} {w' : World} {G' : Gh} (hm : Steps P m m1) (h : Land P m1 b k a' cs' w' G' ex) : Land P m b k a' cs' w' G' ex := by
 cases ex with
 | normal => exact hm.trans h
 | exit id => obtain ⟨todo, h1, h2⟩ := h; exact ⟨todo, h1, hm.trans h2⟩
 | ret => obtain ⟨todo, h2⟩ := h; exact ⟨todo, hm.trans h2⟩
 | pan v => obtain ⟨c, todo, h1, h2⟩ := h; exact ⟨c, todo, h1, hm.trans h2⟩
theorem Arr.head {G1 : Gh} (hG : G.Le G1) (hm : Steps P m m1) (hc : CsStep r0 r1 cs cs1) (h : Arr P E B h0 vars nt G1 m1 b k r1 cs1 ex L' S') : Arr P E B h0 vars nt G m b k r0 cs ex L' S' := by
 obtain ⟨G', a', cs', w', h1, h2, h3, h4, h5⟩ := h
 exact ⟨G', a', cs', w', hG.trans h1, h2, h3, hc.trans h4, h5.head hm⟩
/-- not here: then as far out -/
theorem Arr.out (hk : ∀ id, ex = .exit id → exitTo id k' = exitTo id k) (hn : ex ≠ .normal) (h : Arr P E B h0 vars nt G m b k' r0 cs ex L' S') : Arr P E B h0 vars nt G m b k r0 cs ex L' S' := by
 obtain ⟨G', a', cs', w', h1, h2, h3, h4, h5⟩ := h
 refine ⟨G', a', cs', w', h1, h2, h3, h4, ?_⟩
 cases ex with
 | normal => exact absurd rfl hn
 | exit id => obtain ⟨todo, q1, q2⟩ := h5; exact ⟨todo, by rw [q1, hk id rfl], q2⟩
 | ret => exact h5
 | pan v => exact h5
theorem exitTo_code (id : Nat) (c : Code) (k : List Item) : exitTo id (.code c :: k) = exitTo id k := rfl
theorem exitTo_inLoop (id : Nat) (c : Code) (k : List Item) : exitTo id (.inLoop c :: k) = exitTo id k := rfl
theorem exitTo_inScope (id : Nat) (c : Code) (k : List Item) : exitTo id (.inScope c :: k) = exitTo id k := rfl
theorem exitTo_inBlock (id i : Nat) (k : List Item) : exitTo id (.inBlock i :: k) = if i == id then some k else exitTo id k := rfl
/-- a run of code that goes out, or comes to what is behind it, which is steps away from k -/
theorem Arr.through (hk : ∀ id, exitTo id k' = exitTo id k) (hs : ∀ a cs w, step P (lone (fat b a k') cs w) = .next (lone (fat b a k) cs w)) (h : Arr P E B h0 vars nt G m b k' r0 cs ex L' S') : Arr P E B h0 vars nt G m b k r0 cs ex L' S' := by
 by_cases hn : ex = .normal
 ·subst hn
  obtain ⟨G', a', cs', w', h1, h2, h3, h4, h5⟩ := h
  exact ⟨G', a', cs', w', h1, h2, h3, h4, Steps.trans h5 (.one (hs _ _ _))⟩
 ·exact h.out (fun id _ => hk id) hn
theorem REnds.arr {ops : Array Oper} {out : Out} {L' : Loc} {ex : Ex} (h : REnds P E B h0 vars nt G m b ops k r0 cs out) (ho : outC (some out) = some (ex, L', S')) : Arr P E B h0 vars nt G m b k r0 cs ex L' S' := by
 cases out with
 | ok L1 S1 =>
  simp only [outC] at ho
  cases ho
  obtain ⟨G', a', cs', w', h1, h2, h3, h4, h5⟩ := h
  exact ⟨G', a', cs', w', h1, h2, h3, h4, h5.trans (.one fstep_region_end)⟩
 | pan v L1 S1 =>
  simp only [outC] at ho
  cases ho
  obtain ⟨G', a', cs', w', c, todo, h1, h2, h3, h4, h5, h6⟩ := h
  exact ⟨G', a', cs', w', h1, h2, h3, h4, c, todo, h5, h6⟩
end
/-! a range over a map -/
theorem LRel.forget {vars : List Tmp} {nt : Nat} {a : Act} {b : Frame} {cs : List Frame} (l : List Oper) {L : Loc} (h : LRel vars nt G L a b cs) : LRel vars nt G (forget vars l L) a b cs := by
 obtain ⟨h1, h2, h3⟩ := forget_recs (vars := vars) l L
 refine ⟨h.size, fun t => Rep.le (forget_le t l L) (h.get t), by rw [h2]; exact h.defers, ?_, by rw [h1]; exact h.recs⟩
 have := h.rnd
 rw [← h3] at this
 exact this
theorem wipe_same (vars : List Tmp) : ∀ (c : Code) (L : Loc), (wipe vars c L).recs = L.recs
 | .region _ ops _, L => (forget_recs ops.toList L).1
 | .seq a b, L => by simp only [wipe]; rw [wipe_same vars b, wipe_same vars a]
 | .cond _ a b, L => by simp only [wipe]; rw [wipe_same vars b, wipe_same vars a]
 | .block _ c, L => by simp only [wipe]; exact wipe_same vars c L
 | .loop c, L => by simp only [wipe]; exact wipe_same vars c L
 | .scope c, L => by simp only [wipe]; exact wipe_same vars c L
 | .rangeFunc _ _ a b, L => by simp only [wipe]; rw [wipe_same vars b, wipe_same vars a]
 | .skip, L => rfl
 | .exit _, L => rfl
 | .ret, L => rfl
 | .label _, L => rfl
 | .goto _, L => rfl
 | .refuse _, L => rfl
theorem LRel.wipe {vars : List Tmp} {nt : Nat} {a : Act} {b : Frame} {cs : List Frame} : ∀ (c : Code) {L : Loc}, LRel vars nt G L a b cs → LRel vars nt G (wipe vars c L) a b cs
 | .region _ ops _, L, h => h.forget ops.toList
 | .seq x y, L, h => by simp only [Vm.wipe]; exact LRel.wipe y (LRel.wipe x h)
 | .cond _ x y, L, h => by simp only [Vm.wipe]; exact LRel.wipe y (LRel.wipe x h)
 | .block _ c, L, h => by simp only [Vm.wipe]; exact LRel.wipe c h
 | .loop c, L, h => by simp only [Vm.wipe]; exact LRel.wipe c h
 | .scope c, L, h => by simp only [Vm.wipe]; exact LRel.wipe c h
 | .rangeFunc _ _ x y, L, h => by simp only [Vm.wipe]; exact LRel.wipe y (LRel.wipe x h)
 | .skip, L, h => h
 | .exit _, L, h => h
 | .ret, L, h => h
 | .label _, L, h => h
 | .goto _, L, h => h
 | .refuse _, L, h => h
section
variable {call : CallF} {vars : List Tmp} {nt : Nat} {b : Frame}
def SdF (P : Program) (E : Env) (B : Nat) (h0 : World) (vars : List Tmp) (nt : Nat) (b : Frame) (c : Code) (f : Loc → St → CRes) : Prop :=
 ∀ ⦃L : Loc⦄ ⦃S : St⦄ ⦃ex : Ex⦄ ⦃L' : Loc⦄ ⦃S' : St⦄, f L S = some (ex, L', S') →
  ∀ ⦃G : Gh⦄ ⦃a : Act⦄ ⦃cs : List Frame⦄ ⦃w : World⦄ (k : List Item), InvW E B h0 G S w → GlobOk E G → LRel vars nt G L a b cs → Arr P E B h0 vars nt G (lone (fat b a (.code c :: k)) cs w) b k L.recs cs ex L' S'
/-- a round, from what is yielded on -/
theorem round_sound (H : EnvOk P E) (HC : CallOk P E B h0 call) {ops : Array Oper} {o : Oper} {r : List Oper} {d : Tmp} (hops : ops.toList = o :: r) (hdst : o.dst = some d) (hgd : o.guard = none) (hd : d < nt) (hnd : ∀ c, o.op ≠ .defer c)
  {c : Code} {f : Loc → St → CRes} (hf : SdF P E B h0 vars nt b c f) {L L' : Loc} {S S' : St} {ex : Ex} {v : AV} {u : Value} {a : Act} {cs : List Frame} {w w1 : World} {k : List Item} {id : Nat} (hL : LRel vars nt G L a b cs)
  (hrun : (execOp a.eval o).run P w = .ok (.value u) w1) (hv : Rep G v u) (I : InvW E B h0 G S w1) (hg : GlobOk E G)
  (h : thenC f (outC (runA E call vars nt ops.toList r (L.clear.put vars d v) S)) = some (ex, L', S')) :
  Arr P E B h0 vars nt G (lone (fat b a (.code (.seq (.region id ops false) c) :: k)) cs w) b k L.recs cs ex L' S' := by
 have hsz : ops.size = r.length + 1 := by
  have := congrArg List.length hops
  simpa using this
 have hr0 : List.range ops.size = 0 :: List.range' 1 r.length := by
  rw [hsz, List.range_eq_range', List.range'_succ]
 have ho : ops[0]? = some o := by
  rw [← Array.getElem?_toList, hops]; rfl
 have hrest : ∀ i, r[i]? = ops[1 + i]? := fun i => by
  rw [← Array.getElem?_toList, hops, Nat.add_comm, List.getElem?_cons_succ]
 have hwant : Region.wanted o (yielded ops a.tmps) = true := by
  unfold Region.wanted
  rw [hgd]
 have hst := fstep_next (P := P) (b := b) (k := .code c :: k) (cs := cs) (rest := List.range' 1 r.length) ho hwant (.inr hnd) (n := .value u) hrun rfl
 have hL1 : LRel vars nt G (L.clear.put vars d v) (a.put o.dst u) b cs := by
  have := hL.clear.put (dst := o.dst) hv (by rw [hdst]; simpa [inFrame] using hd)
  rw [hdst] at this ⊢
  exact this
 have hrecs : (L.clear.put vars d v).recs = L.recs := by unfold Loc.put; split <;> rfl
 cases hra : runA E call vars nt ops.toList r (L.clear.put vars d v) S with
 | none => rw [hra] at h; cases h
 | some out =>
  have hrs := run_sound (P := P) (b := b) (ops := ops) (k := .code c :: k) H HC r 1 hrest I hg hL1 hra
  rw [hrecs] at hrs
  have hsteps : Steps P (lone (fat b a (.code (.seq (.region id ops false) c) :: k)) cs w) (lone (fat b (a.put o.dst u) (.inRegion ops (List.range' 1 r.length) :: .code c :: k)) cs w1) := by
   refine .head fstep_seq (.head fstep_region ?_)
   rw [hr0]
   exact .one hst
  rw [hra] at h
  cases hout : outC (some out) with
  | none => rw [hout] at h; cases h
  | some q =>
   obtain ⟨e1, L1, S1⟩ := q
   rw [hout] at h
   have h1 : Arr P E B h0 vars nt G (lone (fat b (a.put o.dst u) (.inRegion ops (List.range' 1 r.length) :: .code c :: k)) cs w1) b (.code c :: k) L.recs cs e1 L1 S1 := hrs.arr hout
   refine Arr.head (.refl G) hsteps (.refl _ _) ?_
   cases e1 with
   | normal =>
    simp only [thenC] at h
    obtain ⟨G1, a1, cs1, w2, q1, q2, q3, q4, q5⟩ := h1
    exact Arr.head q1 q5 q4 (hf h k q2 (hg.mono q1.toLe0) q3)
   | exit i => simp only [thenC] at h; cases h; exact h1.out (fun id _ => exitTo_code id c k) (by simp)
   | ret => simp only [thenC] at h; cases h; exact h1.out (fun id _ => exitTo_code id c k) (by simp)
   | pan v => simp only [thenC] at h; cases h; exact h1.out (fun id _ => exitTo_code id c k) (by simp)
theorem headNext_inv {ops : Array Oper} {t d : Tmp} {r : List Oper} (h : headNext ops = some (t, d, r)) : ∃ o, ops.toList = o :: r ∧ o.op = .next (.tmp t) false ∧ o.guard = none ∧ o.dst = some d := by
 unfold headNext at h
 split at h
 ·rename_i o r' hops
  split at h
  ·rename_i t' d' h1 h2 h3
   cases h
   exact ⟨o, hops, h1, h2, h3⟩
  ·cases h
 ·cases h
theorem MapRel.get {G : Gh} : ∀ {es : List (AV × AV)} {fs : List MapEntry}, MapRel G es fs → es.length = fs.length ∧ ∀ (j : Nat) e f, es[j]? = some e → fs[j]? = some f → Rep G e.1 f.key ∧ Rep G e.2 f.val
 | [], [], _ => ⟨rfl, fun j e f he => by simp at he⟩
 | (k, v) :: es, f :: fs, h => by
  obtain ⟨h1, h2⟩ := MapRel.get h.2.2
  refine ⟨by simp [h1], fun j e g he hg => ?_⟩
  cases j with
  | zero => simp at he hg; subst he; subst hg; exact ⟨h.1, h.2.1⟩
  | succ j => simp at he hg; exact h2 j e g he hg
 | [], _ :: _, h => h.elim
 | (_, _) :: _, [], h => h.elim
theorem filter_lt {α : Type} {f g : α → Bool} (h : ∀ x, f x = true → g x = true) : ∀ {l : List α} {y : α}, y ∈ l → g y = true → f y = false → (l.filter f).length < (l.filter g).length
 | x :: l, y, hy, h1, h2 => by
  have hle : ∀ l : List α, (l.filter f).length ≤ (l.filter g).length := by
   intro l
   induction l with
   | nil => exact Nat.le_refl _
   | cons x l ih =>
    rw [List.filter_cons, List.filter_cons]
    by_cases hf : f x = true
    ·rw [if_pos hf, if_pos (h x hf)]
     simp only [List.length_cons]
     omega
    ·rw [if_neg hf]
     split
     ·simp only [List.length_cons]; omega
     ·exact ih
  rw [List.filter_cons, List.filter_cons]
  rcases List.mem_cons.1 hy with rfl | hy
  ·rw [if_neg (by simp [h2]), if_pos h1]
   have := hle l
   simp only [List.length_cons]
   omega
  ·have ih := filter_lt h hy h1 h2
   by_cases hf : f x = true
   ·rw [if_pos hf, if_pos (h x hf)]
    simp only [List.length_cons]
    omega
   ·rw [if_neg hf]
    split
    ·simp only [List.length_cons]; omega
    ·exact ih
theorem left_lt {en : Array MapEntry} {seen : Array Nat} {ent : MapEntry} (h1 : ent ∈ en.toList) (h2 : seen.contains ent.born = false) : (leftOf en (seen.push ent.born)).size < (leftOf en seen).size := by
 unfold leftOf
 have he : ∀ p : MapEntry → Bool, (en.filter p).size = (en.toList.filter p).length := fun p => by
  rw [← Array.length_toList (xs := en.filter p), Array.toList_filter]
 rw [he, he]
 refine filter_lt (fun x hx => ?_) h1 (by simp only [h2]; rfl) (by simp)
 simp at hx ⊢
 exact hx.1
theorem goesOut_inv {x : CRes} {ex : Ex} {L' : Loc} {S' : St} (h : goesOut x = some (ex, L', S')) : x = some (ex, L', S') ∧ ex ≠ .normal := by
 unfold goesOut at h
 split at h
 ·cases h
 ·rename_i hn
  exact ⟨h, fun e => by subst e; exact hn _ _ h⟩
theorem born_inj {en : List MapEntry} (hn : (en.map (·.born)).Nodup) {i j : Nat} {x y : MapEntry} (hx : en[i]? = some x) (hy : en[j]? = some y) (h : x.born = y.born) : i = j := by
 have hi := getElem?_lt hx
 have hj := getElem?_lt hy
 have h1 : (en.map (·.born))[i]? = some x.born := by rw [List.getElem?_map, hx]; rfl
 have h2 : (en.map (·.born))[j]? = some x.born := by rw [List.getElem?_map, hy, h]; rfl
 exact (List.getElem?_inj (by simpa using hi) hn).1 (by rw [h1, h2])
theorem leLoc_rel {G G' G3 : Gh} {L0 L1 : Loc} {a a1 : Act} {cs cs1 : List Frame} (h : leLoc L0 L1 = true) (hsc : L0.sc = []) (hL0 : LRel vars nt G L0 a b cs) (hL1 : LRel vars nt G' L1 a1 b cs1) (hG : G.Le G3)
  (hR : ∀ v c c0, Rep G' v c → Rep G v c0 → Rep G3 v c) : LRel vars nt G3 L0 a1 b cs1 ∧ L0.recs = .no ∧ L1.recs = .no := by
 unfold leLoc at h
 simp only [Bool.and_eq_true, decide_eq_true_eq] at h
 obtain ⟨⟨⟨⟨⟨h1, h2⟩, h3⟩, h4⟩, h5⟩, h6⟩ := h
 have r0 : L0.recs = .no := by cases hr : L0.recs <;> rw [hr] at h4 <;> simp_all [RecS.isNo]
 have r1 : L1.recs = .no := by cases hr : L1.recs <;> rw [hr] at h5 <;> simp_all [RecS.isNo]
 have d0 : L0.defers = [] := List.isEmpty_iff.1 h2
 have d1 : L1.defers = [] := List.isEmpty_iff.1 h3
 refine ⟨⟨hL1.size, fun t => ?_, ?_, ?_, ?_⟩, r0, r1⟩
 ·have q1 := hL1.get t
  have q0 := hL0.get t
  unfold Loc.get at q0 q1 ⊢
  split
  ·rename_i k hk
   rw [hk] at q0 q1
   simp only at q0 q1
   rcases leVals_get h1 k with e | e
   ·rw [e]; exact .undef _
   ·rw [e] at q0 ⊢
    exact hR _ _ _ q1 q0
  ·rw [hsc]
   exact .undef _
 ·have := hL1.defers
  rw [d1] at this
  rw [d0]
  cases hd : a1.defers with
  | nil => trivial
  | cons x xs => rw [hd] at this; exact this.elim
 ·have := hL0.rnd
  have := hL1.rnd
  rw [← h6] at this
  cases hr : L0.rnd with
  | none => rw [hr] at this; exact this
  | some l =>
   have q := hL0.rnd
   rw [hr] at q
   obtain ⟨p1, bl, p2, p3⟩ := q
   exact ⟨p1, bl, hG.obj _ _ p2, p3⟩
 ·have := hL1.recs
  rw [r1] at this
  rw [r0]
  exact this
theorem mapLoop_sound (H : EnvOk P E) (HC : CallOk P E B h0 call) {ops : Array Oper} {id : Nat} {t d : Tmp} {r : List Oper} (hn : headNext ops = some (t, d, r)) {c : Code} {f : Loc → St → CRes} (hf : SdF P E B h0 vars nt b c f)
  (hfr : ∀ (v : AV) (L : Loc) (S : St) (ex : Ex) (L' : Loc) (S' : St), thenC f (outC (runA E call vars nt ops.toList r (L.clear.put vars d v) S)) = some (ex, L', S') → Fr S S')
  {L0 L' : Loc} {S S' : St} {ex : Ex} (hsc : L0.sc = []) (h : mapLoop (fun v L S => thenC f (outC (runA E call vars nt ops.toList r (L.clear.put vars d v) S))) vars nt t d L0 S = some (ex, L', S'))
  {a : Act} {cs : List Frame} (k : List Item) (I : InvW E B h0 G S w) (hg : GlobOk E G) (hL : LRel vars nt G L0 a b cs) :
  Arr P E B h0 vars nt G (lone (fat b a (.code (.seq (.region id ops false) c) :: .inLoop (.seq (.region id ops false) c) :: k)) cs w) b k L0.recs cs ex L' S' := by
 obtain ⟨o, hops, hop, hgd, hdst⟩ := headNext_inv hn
 generalize hrnd : (fun (v : AV) (L : Loc) (S : St) => thenC f (outC (runA E call vars nt ops.toList r (L.clear.put vars d v) S))) = rnd at h
 have hrd : ∀ v L S, rnd v L S = thenC f (outC (runA E call vars nt ops.toList r (L.clear.put vars d v) S)) := fun v L S => by rw [← hrnd]
 have hnd : ∀ c, o.op ≠ .defer c := fun c e => by rw [hop] at e; cases e
 unfold mapLoop at h
 split at h
 rotate_left
 ·cases h
 rename_i hd
 split at h
 rotate_left
 ·cases h
 rename_i i hit
 split at h
 rotate_left
 ·cases h
 rename_i ks vs hS
 have hi := St.get_lt hS
 obtain ⟨b0, mb, en, ck, g1, g2, g3, g4, g5, g6⟩ := I.objs i _ hS
 obtain ⟨mb', en', ck', es, e1, e2, ep, _, e3⟩ := g5.rmap_inv
 cases e1
 rw [g6] at e2
 cases e2
 obtain ⟨m1, m2⟩ := e3.get
 obtain ⟨q1, q2, q3, q4⟩ := I.rm mb en ck g6
 replace h : (match es.filter fun e => !roundSame rnd i L0 S e with
    | [] => goesOut (rnd (.tup [.bool false]) L0 (S.put i .iterX))
    | [e] => goesOut (rnd (.tup [.bool true, e.1, e.2]) L0 (S.put i (.iter1 e.1 e.2)))
    | _ => none) = some (ex, L', S') := by
  have hflt := ep.filter (fun e => !roundSame rnd i L0 S e)
  generalize (es.filter fun e => !roundSame rnd i L0 S e) = l2 at hflt ⊢
  generalize ((ks.zip vs).filter fun e => !roundSame rnd i L0 S e) = l1 at hflt h
  match l1, h, hflt with
  | [], h, hflt => rw [← hflt.nil_eq]; exact h
  | [e], h, hflt => rw [List.singleton_perm.1 hflt |>.symm]; exact h
  | _ :: _ :: _, h, _ => cases h
 have hX : (S.put i .iterX).get i = some .iterX := St.get_put_self _ _ _ hi
 have go : ∀ (m : Nat) {G : Gh} {a : Act} {cs : List Frame} {w : World} (seen : Array Nat), (leftOf en seen).size = m → InvW E B h0 G (S.put i .iterX) w → GlobOk E G → LRel vars nt G L0 a b cs → G.obj i = some (b0, 0) → G.blk b0 = some i → G.rm mb = some (en, ck) →
   (∀ (j : Nat) e f, es[j]? = some e → en.toList[j]? = some f → Rep G e.1 f.key ∧ Rep G e.2 f.val) → w.heap[b0]? = some (.mapIter (some mb) ck seen ck) →
   (∀ s, seen.contains s = true → ∃ (j : Nat) (e : AV × AV) (f : MapEntry), es[j]? = some e ∧ en.toList[j]? = some f ∧ f.born = s ∧ roundSame rnd i L0 S e = true) →
   Arr P E B h0 vars nt G (lone (fat b a (.code (.seq (.region id ops false) c) :: .inLoop (.seq (.region id ops false) c) :: k)) cs w) b k L0.recs cs ex L' S' := by
  intro m
  induction m using Nat.strongRecOn with
  | _ m ihm =>
   intro G a cs w seen hm I hg hL g1 g2 g6 m2 hr hseen
   have hmap : w.heap[mb]? = some (.map en ck) := by rw [I.old mb q1]; exact q2
   have hev : a.eval (.tmp t) = .pointer (some ⟨b0, 0, none⟩) := by
    have hrep := evO_rep (E := E) hg hL (.tmp t)
    rw [show evO E vars L0 (.tmp t) = L0.get vars t from rfl, hit] at hrep
    generalize a.eval (.tmp t) = u at hrep
    cases hrep with
    | ptr _ _ b1 o1 hG1 => rw [g1] at hG1; cases hG1; rfl
   have hexec : ∀ (u : Value) (w1 : World), (Instr.next (.pointer (some ⟨b0, 0, none⟩)) false o.type).run P w = .ok u w1 → (execOp a.eval o).run P w = .ok (.value u) w1 := by
    intro u w1 hu
    have hu' : (Instr.next (a.eval (.tmp t)) false o.type).run P w = .ok u w1 := by rw [hev]; exact hu
    simp [execOp, hop, hu']
   rcases run_next_at (P := P) w o.type b0 mb ck ck seen en ck hr hmap q3 (Nat.le_refl _) with ⟨h0', hrun⟩ | ⟨ent, hent, w1, hw1, hrun⟩
   ·-- nothing is left
    have hall : (es.filter fun e => !roundSame rnd i L0 S e) = [] := by
     rw [List.filter_eq_nil_iff]
     intro e he
     obtain ⟨j, hj, hje⟩ := List.getElem_of_mem he
     have hj' : es[j]? = some e := by rw [List.getElem?_eq_getElem hj, hje]
     have hjl : j < en.toList.length := by rw [← m1]; exact hj
     have hfm : en.toList[j]? = some en.toList[j] := List.getElem?_eq_getElem hjl
     have hcon : seen.contains en.toList[j].born = true := by
      have hem : leftOf en seen = #[] := Array.eq_empty_of_size_eq_zero h0'
      unfold leftOf at hem
      rw [Array.filter_eq_empty_iff] at hem
      have := hem en.toList[j] (by simp)
      simpa using this
     obtain ⟨j2, e2, f2, k1, k2, k3, k4⟩ := hseen _ hcon
     have hjj : j2 = j := born_inj q4 k2 hfm k3
     subst hjj
     rw [hj'] at k1
     cases k1
     simp [k4]
    rw [hall] at h
    obtain ⟨h1, h2⟩ := goesOut_inv h
    rw [hrd] at h1
    exact (round_sound (k := .inLoop (.seq (.region id ops false) c) :: k) H HC hops hdst hgd hd hnd hf hL (hexec _ _ hrun) (Rep.tup' (Reps.cons (.bool false) (Reps.nil G))) I hg h1).out (fun id _ => exitTo_inLoop id _ k) h2
   ·-- an entry comes out
    have hle : ent ∈ en.toList ∧ seen.contains ent.born = false := by
     unfold leftOf at hent
     simpa using hent
    obtain ⟨j, hj, hje⟩ := List.getElem_of_mem hle.1
    have hfj : en.toList[j]? = some ent := by rw [List.getElem?_eq_getElem hj, hje]
    have hjl : j < es.length := by rw [m1]; exact hj
    have hej : es[j]? = some es[j] := List.getElem?_eq_getElem hjl
    obtain ⟨rk, rv⟩ := m2 j _ _ hej hfj
    generalize he : es[j] = e at hej rk rv
    have hw1h : w1.heap = w.heap := by rcases hw1 with rfl | rfl <;> rfl
    have hw1o : w1.os = w.os ∧ w1.output = w.output := by rcases hw1 with rfl | rfl <;> exact ⟨rfl, rfl⟩
    -- the iterator's block is written
    let y : Obj := .mapIter (some mb) ck (seen.push ent.born) ck
    have hI1 : Inv E B h0.heap G ((S.put i .iterX).put i .iterX) (w.heap.setIfInBounds b0 y) := by
     obtain ⟨bX, mX, enX, ckX, sX, x1, x2, x3, x4, x5⟩ := I.objs i _ hX
     rw [g1] at x1
     cases x1
     exact I.setBlk (by rw [St.n_put]; exact hi) g2 x3 (by simp [y]) ⟨b0, mb, en, ck, seen.push ent.born, g1, g2, x3, Array.getElem?_setIfInBounds_self_of_lt (Array.getElem?_eq_some_iff.1 hr).1, g6⟩
    have hB0 : B ≤ b0 := by
     obtain ⟨bX, mX, enX, ckX, sX, x1, x2, x3, x4, x5⟩ := I.objs i _ hX
     rw [g1] at x1
     cases x1
     exact x3
    have hI2 : Inv E B h0.heap G (S.put i .iterX) (w.heap.setIfInBounds b0 y) := hI1.congr rfl fun x => by
     by_cases hx : x = i
     ·subst hx; rw [hX, St.get_put_self _ _ _ (by rw [St.n_put]; exact hi)]
     ·rw [St.get_put_ne _ _ _ hx, St.get_put_ne _ _ _ hx, St.get_put_ne _ _ _ hx]
    have hy0 : (w.heap.setIfInBounds b0 y)[b0]? = some y := Array.getElem?_setIfInBounds_self_of_lt (Array.getElem?_eq_some_iff.1 hr).1
    have hsm : ∀ {x : AV} {c : Value}, Rep G x c → Rep { G with blk := fun b => if b = b0 then none else G.blk b, ro := fun b => if b = b0 then some y else G.ro b } x c := fun {x c} k =>
     Rep.same (G := G) (T := { G with blk := fun b => if b = b0 then none else G.blk b, ro := fun b => if b = b0 then some y else G.ro b }) rfl rfl rfl rfl k
    obtain ⟨hle1, hI3⟩ := hI2.hold (k := e.1) (v := e.2) hX g2 hy0 (by simp [y]) ⟨b0, mb, en, ck, seen.push ent.born, ent, g1, by simp [y], g6, by simp, hle.1, hsm rk, hsm rv⟩
    generalize hG1 : ({ G with blk := fun b => if b = b0 then none else G.blk b, ro := fun b => if b = b0 then some y else G.ro b } : Gh) = G1 at hle1 hI3
    have hro1 : G1.ro b0 = some y := by rw [← hG1]; simp
    have hg1 : GlobOk E G1 := hg.mono hle1.toLe0
    have hL1 : LRel vars nt G1 L0 a b cs := hL.mono hle1.toLe0
    have hw2 : (ChangeMaps.setBlock w1 b0 y).heap = w.heap.setIfInBounds b0 y := by
     rw [← hw1h]; rfl
    have hIW : ∀ T : St, T.n = S.n → (∀ x, T.get x = ((S.put i .iterX).put i (.iter1 e.1 e.2)).get x) → InvW E B h0 G1 T (ChangeMaps.setBlock w1 b0 y) := fun T t1 t2 => by
     refine ⟨?_, ?_, ?_⟩
     ·rw [hw2]
      exact hI3.congr t1 t2
     ·show w1.os = h0.os
      rw [hw1o.1]; exact I.os
     ·show w1.output = h0.output
      rw [hw1o.2]; exact I.out
    have hgetp : ∀ x, (S.put i (.iter1 e.1 e.2)).get x = ((S.put i .iterX).put i (.iter1 e.1 e.2)).get x := fun x => by
     by_cases hx : x = i
     ·subst hx; rw [St.get_put_self _ _ _ hi, St.get_put_self _ _ _ (by rw [St.n_put]; exact hi)]
     ·rw [St.get_put_ne _ _ _ hx, St.get_put_ne _ _ _ hx, St.get_put_ne _ _ _ hx]
    have hv : Rep G1 (.tup [.bool true, e.1, e.2]) (.tuple #[.bool true, ent.key, ent.val]) := Rep.tup' (Reps.cons (.bool true) (Reps.cons (rk.mono hle1.toLe0) (Reps.cons (rv.mono hle1.toLe0) (Reps.nil G1))))
    cases hsame : roundSame rnd i L0 S e with
    | true =>
     have hs := hsame
     unfold roundSame at hs
     split at hs
     rotate_left
     ·cases hs
     rename_i L1 S1 hrd1
     rw [hrd] at hrd1
     simp only [Bool.and_eq_true, Bool.not_eq_true'] at hs
     have hfr1 := hfr _ _ _ _ _ _ hrd1
     obtain ⟨_, hkeep⟩ := hfr1.keep hs.2
     obtain ⟨G2, a2, cs2, w2, p1, p2, p3, p4, p5⟩ := round_sound (ex := .normal) (id := id) (k := .inLoop (.seq (.region id ops false) c) :: k) H HC hops hdst hgd hd hnd hf hL1 (hexec _ _ hrun) hv (hIW { S.put i (.iter1 e.1 e.2) with wb := S.n, bad := false } rfl hgetp) hg1 hrd1
     have hkp : ∀ x, x < (S.put i .iterX).n → x ≠ i → S1.get x = (S.put i .iterX).get x := by
      intro x hx hxi
      rw [hkeep x hx hx]
      show (S.put i (.iter1 e.1 e.2)).get x = _
      rw [St.get_put_ne _ _ _ hxi, St.get_put_ne _ _ _ hxi]
     obtain ⟨G3, c1, c2, c3, c4⟩ := I.toInv.cut (hle1.trans p1) p2.toInv hX hkp g2 g1 hB0 g6 (p1.ro _ _ hro1)
     obtain ⟨hL3, hn0, hn1⟩ := leLoc_rel hs.1 hsc hL p3 c1 c4
     have hcs : cs2 = cs := by
      rw [hn0, hn1] at p4
      rcases p4 with ⟨_, h⟩ | ⟨v, h, _⟩
      ·exact h
      ·cases h
     subst hcs
     have hlt : (leftOf en (seen.push ent.born)).size < m := by
      rw [← hm]
      exact left_lt hle.1 hle.2
     have p5' : Steps P (lone (fat b a (.code (.seq (.region id ops false) c) :: .inLoop (.seq (.region id ops false) c) :: k)) cs2 w) (lone (fat b a2 (.inLoop (.seq (.region id ops false) c) :: k)) cs2 w2) := p5
     refine Arr.head c1 (Steps.trans p5' (.one fstep_inLoop)) (.refl _ _) (ihm _ hlt (seen.push ent.born) rfl ⟨c2, p2.os, p2.out⟩ (hg.mono c1.toLe0) hL3 (c1.obj _ _ g1) c3 (by rw [c1.rm]; exact g6) (fun j e f k1 k2 => ⟨(m2 j e f k1 k2).1.mono c1.toLe0, (m2 j e f k1 k2).2.mono c1.toLe0⟩) (p2.ro _ _ (p1.ro _ _ hro1)).1 ?_)
     intro s hs'
     have hs' : seen.contains s = true ∨ s = ent.born := by simpa using hs'
     rcases hs' with h | rfl
     ·exact hseen s h
     ·exact ⟨j, e, ent, hej, hfj, rfl, hsame⟩
    | false =>
     have hmem : e ∈ es.filter fun e => !roundSame rnd i L0 S e := List.mem_filter.2 ⟨List.mem_of_getElem? hej, by simp [hsame]⟩
     split at h
     ·rename_i heq; rw [heq] at hmem; cases hmem
     ·rename_i e' heq
      rw [heq] at hmem
      have : e = e' := by simpa using hmem
      subst this
      obtain ⟨h1, h2⟩ := goesOut_inv h
      rw [hrd] at h1
      have := (round_sound (id := id) (k := .inLoop (.seq (.region id ops false) c) :: k) H HC hops hdst hgd hd hnd hf hL1 (hexec _ _ hrun) hv (hIW (S.put i (.iter1 e.1 e.2)) rfl hgetp) hg1 h1).out (fun id _ => exitTo_inLoop id _ k) h2
      exact Arr.head hle1 (.refl P _) (.refl _ _) this
     ·cases h
 have I0 : InvW E B h0 G (S.put i .iterX) w := by
  refine ⟨⟨I.old, I.size, I.imm, I.res, I.fresh, I.freshB, fun j o hj => ?_, fun j hj => I.ids j (by rw [St.n_put] at hj; exact hj), I.blkC, I.rm, I.ro, I.low⟩, I.os, I.out⟩
  by_cases hij : j = i
  ·subst hij
   rw [hX] at hj
   cases hj
   exact ⟨b0, mb, en, ck, #[], g1, g2, g3, g4, g6⟩
  ·rw [St.get_put_ne _ _ _ hij] at hj
   exact I.objs j o hj
 exact go _ #[] rfl I0 hg hL g1 g2 g6 m2 g4 (fun s hs => by simp at hs)
end
/-- a call, and back in the caller -/
theorem call_steps {call : CallF} (HC : CallOk P E B h0 call) {f : FuncId} {args : List AV} {r : FRes} (hc : call (.fn f) args S = some (r, S')) {cargs : Array Value} (I : InvW E B h0 G S w) (hg : GlobOk E G) (hr : Reps G args cargs.toList) (c : Frame) (cs : List Frame) :
  (∃ fi, E.fn f = some fi ∧ fi.fn.body.isSome = true) ∧ ∃ G' w', G.Le G' ∧ InvW E B h0 G' S' w' ∧
   match r with
   | .ret v => ∃ u, Rep G' v u ∧ Steps P (lone (Frame.enter P f cargs .normal) (c :: cs) w) (lone (c.finish u) cs w')
   | .pan v => ∃ u, Rep G' v u ∧ Steps P (lone (Frame.enter P f cargs .normal) (c :: cs) w) (lone (c.raise [entry u]) cs w') := by
 obtain ⟨hfi, hcalls⟩ := HC.fn f args S r S' hc G w cargs I hg hr
 refine ⟨hfi, ?_⟩
 obtain ⟨e, w', fr, ⟨G', hG, I', hend⟩, hcomes, hfn, hleave⟩ := hcalls (c :: cs)
 refine ⟨G', w', hG, I', ?_⟩
 cases r with
 | ret v =>
  obtain ⟨u, rfl, hv⟩ := hend
  exact ⟨u, hv, hcomes.trans (.one (step_leave_returned hleave))⟩
 | pan v =>
  obtain ⟨u, rfl, hv⟩ := hend
  exact ⟨u, hv, hcomes.trans (.one (step_leave_panicked hleave))⟩
section
variable {call : CallF} {n : Nat} {fid : FuncId} {fi : FInfo} {b : Frame}
/-- the end of a range over a function -/
theorem endC_sound {l bl : Nat} {L L' : Loc} {a : Act} {ex : Ex} {r : FRes} {S2 S3 : St} {G' : Gh} {w' : World} {cs : List Frame} {k : List Item} {m : Machine} (hG : G.Le G') (I' : InvW E B h0 G' S2 w') (hl : G'.obj l = some (bl, 0))
  (hL : LRel fi.vars fi.fn.ntmps G' L a b cs) (h : endC l L (some (r, S2)) = some (ex, L', S3))
  (hr : match r with
   | .ret _ => Steps P m (lone (fat b a (.endRangeFunc bl :: k)) cs w')
   | .pan v => ∃ u todo, Rep G' v u ∧ Steps P m (lone { fat b a todo with mode := .panicking [entry u] } cs w')) :
  Arr P E B h0 fi.vars fi.fn.ntmps G m b k L.recs cs ex L' S3 := by
 cases r with
 | pan v =>
  simp only [endC] at h
  cases h
  obtain ⟨u, todo, h1, h2⟩ := hr
  exact ⟨G', a, cs, w', hG, I', hL, .refl _ _, u, todo, h1, h2⟩
 | ret v =>
  simp only at hr
  unfold endC at h
  split at h
  ·rename_i v' S2' heq
   simp only [Option.some.injEq, Prod.mk.injEq] at heq
   obtain ⟨_, rfl⟩ := heq
   split at h
   ·rename_i al hget
    obtain ⟨b', q1, q2, q3, rec, q4, q5⟩ := I'.objs l _ hget
    rw [hl] at q1; cases q1
    have hq5 := q5
    obtain ⟨s1, s2, s3, s4, s5, s6, s7, s8⟩ := q5
    have hlt := St.get_lt hget
    have hset : InvW E B h0 G' (S2.put l (.loop { al with state := .exhausted })) (w'.putObj bl (.loop { rec with state := .exhausted })) :=
     ⟨I'.setBlk hlt q2 q3 (by simp) ⟨bl, hl, q2, q3, { rec with state := .exhausted }, by
      have := (Array.getElem?_eq_some_iff.1 q4).1
      simp [this], ⟨rfl, s2, s3, s4, s5, s6, s7, s8⟩⟩, I'.os, I'.out⟩
    have hstep : rec.state ≠ .busy → step P (lone (fat b a (.endRangeFunc bl :: k)) cs w') = .next (lone (fat b a ((rec.pending.map Item.code).toList ++ k)) cs (w'.putObj bl (.loop { rec with state := .exhausted }))) := by
     intro hb
     exact stepR_endRangeFunc (run_endLoop q4 hb)
    have hnb : al.state ≠ .busy → rec.state ≠ .busy := fun h => by rw [s1]; exact h
    split at h
    ·cases h
    ·rename_i hp hst
     cases h
     have := hstep (hnb fun e => hst e)
     rw [show (rec.pending.map Item.code).toList = [] from by rw [s2, hp]; rfl] at this
     exact ⟨G', a, cs, _, hG, hset, hL, .refl _ _, hr.trans (.one this)⟩
    ·rename_i i hp hst
     cases h
     have := hstep (hnb fun e => hst e)
     rw [show (rec.pending.map Item.code).toList = [.code (.exit i)] from by rw [s2, hp]; rfl] at this
     exact ⟨G', a, cs, _, hG, hset, hL, .refl _ _, k, rfl, hr.trans (.one this)⟩
    ·rename_i hp hst
     cases h
     have := hstep (hnb fun e => hst e)
     rw [show (rec.pending.map Item.code).toList = [.code .ret] from by rw [s2, hp]; rfl] at this
     exact ⟨G', a, cs, _, hG, hset, hL, .refl _ _, k, hr.trans (.one this)⟩
    ·cases h
   ·cases h
  ·rename_i heq
   simp at heq
  ·rename_i heq
   simp at heq
theorem evalC_both (H : EnvOk P E) (HC : CallOk P E B h0 call) (hcf : CallFr call) (hfi : E.fn fid = some fi) (hb : b.fn = fid) : ∀ (c : Code), SdF P E B h0 fi.vars fi.fn.ntmps b c (evalC ⟨E, call, iter n, fid, fi.vars, fi.fn.ntmps⟩ c) ∧
  (match c with | .seq _ y => SdF P E B h0 fi.vars fi.fn.ntmps b y (evalC ⟨E, call, iter n, fid, fi.vars, fi.fn.ntmps⟩ y) | _ => True) := by
 intro c
 induction c with
 | skip =>
  refine ⟨?_, trivial⟩
  intro L S ex L' S' h G a cs w k I hg hL
  simp only [evalC] at h
  cases h
  exact ⟨G, a, cs, w, .refl G, I, hL, .refl _ _, .one fstep_skip⟩
 | label l =>
  refine ⟨?_, trivial⟩
  intro L S ex L' S' h G a cs w k I hg hL
  simp only [evalC] at h
  cases h
  exact ⟨G, a, cs, w, .refl G, I, hL, .refl _ _, .one fstep_label⟩
 | goto l =>
  refine ⟨?_, trivial⟩
  intro L S ex L' S' h
  simp only [evalC] at h
  cases h
 | refuse l =>
  refine ⟨?_, trivial⟩
  intro L S ex L' S' h
  simp only [evalC] at h
  cases h
 | exit id =>
  refine ⟨?_, trivial⟩
  intro L S ex L' S' h G a cs w k I hg hL
  simp only [evalC] at h
  cases h
  exact ⟨G, a, cs, w, .refl G, I, hL.clear, .refl _ _, k, rfl, Steps.refl P _⟩
 | ret =>
  refine ⟨?_, trivial⟩
  intro L S ex L' S' h G a cs w k I hg hL
  simp only [evalC] at h
  cases h
  exact ⟨G, a, cs, w, .refl G, I, hL.clear, .refl _ _, k, Steps.refl P _⟩
 | region id ops draw =>
  refine ⟨?_, trivial⟩
  intro L S ex L' S' h G a cs w k I hg hL
  simp only [evalC] at h
  cases draw with
  | false =>
   simp only [Bool.false_eq_true, if_false] at h
   cases hr : runA E call fi.vars fi.fn.ntmps ops.toList ops.toList L.clear S with
   | none => rw [hr] at h; cases h
   | some out =>
    rw [hr] at h
    have := run_sound (P := P) (k := k) (ops := ops) H HC ops.toList 0 (fun i => by simp) I hg hL.clear hr
    rw [← List.range_eq_range', Array.length_toList] at this
    exact Arr.head (.refl G) (.one fstep_region) (.refl _ _) (this.arr h)
  | true =>
   simp only [if_true] at h
   cases hr : drawA E call fi.vars fi.fn.ntmps ops.toList L.clear S with
   | none => rw [hr] at h; cases h
   | some out =>
    rw [hr] at h
    have hst := fstep_region_draw (P := P) (b := b) (a := a) (k := k) (cs := cs) (w := w) (id := id) (ops := ops)
    rw [show Region.schedule (P.follows .mixedOrders) ops (w.tape w.drawn (.order b.fn id)) = Region.linearise .any ops (w.tape w.drawn (.order b.fn id)) from by simp [Region.schedule, H.mixed]] at hst
    have := draw_sound (P := P) (w := { w with drawn := w.drawn + 1 }) (k := k) (opsA := ops) H HC ⟨I.toInv, I.os, I.out⟩ hg hL.clear hr (w.tape w.drawn (.order b.fn id))
    exact Arr.head (.refl G) (.one hst) (.refl _ _) (this.arr h)
 | seq x y ihx ihy =>
  replace ihx := ihx.1
  replace ihy := ihy.1
  refine ⟨?_, ihy⟩
  intro L S ex L' S' h G a cs w k I hg hL
  simp only [evalC] at h
  cases hx : evalC ⟨E, call, iter n, fid, fi.vars, fi.fn.ntmps⟩ x L S with
  | none => rw [hx] at h; cases h
  | some r =>
   obtain ⟨e1, L1, S1⟩ := r
   rw [hx] at h
   have h1 := ihx hx (.code y :: k) I hg hL
   refine Arr.head (.refl G) (.one fstep_seq) (.refl _ _) ?_
   cases e1 with
   | normal =>
    simp only [thenC] at h
    obtain ⟨G1, a1, cs1, w1, q1, q2, q3, q4, q5⟩ := h1
    exact Arr.head q1 q5 q4 (ihy h k q2 (hg.mono q1.toLe0) q3)
   | exit i => simp only [thenC] at h; cases h; exact h1.out (fun id _ => exitTo_code id y k) (by simp)
   | ret => simp only [thenC] at h; cases h; exact h1.out (fun id _ => exitTo_code id y k) (by simp)
   | pan v => simp only [thenC] at h; cases h; exact h1.out (fun id _ => exitTo_code id y k) (by simp)
 | cond c x y ihx ihy =>
  replace ihx := ihx.1
  replace ihy := ihy.1
  refine ⟨?_, trivial⟩
  intro L S ex L' S' h G a cs w k I hg hL
  simp only [evalC] at h
  have hc := evO_rep hg hL c
  split at h
  ·rename_i hcv
   rw [hcv] at hc
   generalize hav : a.eval c = av at hc
   cases hc
   exact Arr.head (.refl G) (.one (fstep_cond hav)) (.refl _ _) (ihx h k I hg hL.clear)
  ·rename_i hcv
   rw [hcv] at hc
   generalize hav : a.eval c = av at hc
   cases hc
   exact Arr.head (.refl G) (.one (fstep_cond hav)) (.refl _ _) (ihy h k I hg hL.clear)
  ·cases h
 | block id c ih =>
  replace ih := ih.1
  refine ⟨?_, trivial⟩
  intro L S ex L' S' h G a cs w k I hg hL
  simp only [evalC] at h
  cases hx : evalC ⟨E, call, iter n, fid, fi.vars, fi.fn.ntmps⟩ c L S with
  | none => rw [hx] at h; cases h
  | some r =>
   obtain ⟨e1, L1, S1⟩ := r
   rw [hx] at h
   have h1 := ih hx (.inBlock id :: k) I hg hL
   refine Arr.head (.refl G) (.one fstep_block) (.refl _ _) ?_
   cases e1 with
   | normal =>
    simp only [blockC] at h; cases h
    obtain ⟨G1, a1, cs1, w1, q1, q2, q3, q4, q5⟩ := h1
    exact ⟨G1, a1, cs1, w1, q1, q2, q3, q4, Steps.trans q5 (.one fstep_inBlock)⟩
   | exit i =>
    simp only [blockC] at h
    split at h
    ·rename_i hi
     cases h
     subst hi
     obtain ⟨G1, a1, cs1, w1, q1, q2, q3, q4, todo, q5, q6⟩ := h1
     rw [exitTo_inBlock] at q5
     exact ⟨G1, a1, cs1, w1, q1, q2, q3, q4, Steps.trans q6 (.one (fstep_exit (by rw [q5]; simp)))⟩
    ·rename_i hi
     cases h
     exact h1.out (fun j hj => by cases hj; rw [exitTo_inBlock]; simp [Ne.symm hi]) (by simp)
   | ret => simp only [blockC] at h; cases h; exact h1.out (fun j hj => by cases hj) (by simp)
   | pan v => simp only [blockC] at h; cases h; exact h1.out (fun j hj => by cases hj) (by simp)
 | scope c ih =>
  replace ih := ih.1
  refine ⟨?_, trivial⟩
  intro L S ex L' S' h G a cs w k I hg hL
  simp only [evalC] at h
  exact Arr.head (.refl G) (.one fstep_scope) (.refl _ _) ((ih h (.inScope c :: k) I hg hL).through (fun id => exitTo_inScope id c k) (fun _ _ _ => fstep_inScope))
 | loop c ih0 =>
  have ih := ih0.1
  refine ⟨?_, trivial⟩
  intro L S ex L' S' h G a cs w k I hg hL
  have go : ∀ (n' : Nat) {L : Loc} {S : St} {ex : Ex} {L' : Loc} {S' : St}, iter n' (evalC ⟨E, call, iter n, fid, fi.vars, fi.fn.ntmps⟩ c) L S = some (ex, L', S') → ∀ {G : Gh} {a : Act} {cs : List Frame} {w : World}, InvW E B h0 G S w → GlobOk E G → LRel fi.vars fi.fn.ntmps G L a b cs →
    Arr P E B h0 fi.vars fi.fn.ntmps G (lone (fat b a (.code c :: .inLoop c :: k)) cs w) b k L.recs cs ex L' S' := by
   intro n'
   induction n' with
   | zero => intro L S ex L' S' h; simp only [iter] at h; cases h
   | succ n' ihn =>
    intro L S ex L' S' h G a cs w I hg hL
    simp only [iter] at h
    split at h
    ·rename_i L1 S1 hx
     obtain ⟨G1, a1, cs1, w1, q1, q2, q3, q4, q5⟩ := ih hx (.inLoop c :: k) I hg hL.clear
     exact Arr.head q1 (Steps.trans q5 (.one fstep_inLoop)) q4 (ihn h q2 (hg.mono q1.toLe0) q3)
    ·rename_i hne
     refine (ih h (.inLoop c :: k) I hg hL.clear).out (fun id _ => exitTo_inLoop id c k) fun he => ?_
     subst he
     exact hne _ _ h
  have hw := wipe_same fi.vars c L
  have hLw := (hL.wipe c).clear
  unfold evalC at h
  split at h
  all_goals first
   | (rename_i heq; cases heq; done)
   | skip
  ·rename_i id ops c' heq
   cases heq
   split at h
   ·exact Arr.head (.refl G) (.one fstep_loop) (.refl _ _) (go n h I hg hL)
   ·rename_i t d r hn
    have hfr : ∀ (v : AV) (L : Loc) (S : St) (ex : Ex) (L' : Loc) (S' : St), thenC (evalC ⟨E, call, iter n, fid, fi.vars, fi.fn.ntmps⟩ c') (outC (runA E call fi.vars fi.fn.ntmps ops.toList r (L.clear.put fi.vars d v) S)) = some (ex, L', S') → Fr S S' := by
     intro v L S ex L' S' h
     exact thenC_fr (fun e L1 S1 k => outC_fr' (fun out k => run_fr hcf _ k) k) ((evalC_fr ⟨E, call, iter n, fid, fi.vars, fi.fn.ntmps⟩ hcf (fun body hb => iter_fr hb n) c').1) h
    have := mapLoop_sound (b := b) (id := id) H HC hn ih0.2 hfr (by rfl) h k I hg hLw
    rw [show ∀ X : Loc, X.clear.recs = X.recs from fun _ => rfl, hw] at this
    exact Arr.head (.refl G) (.one fstep_loop) (.refl _ _) this
  ·rename_i c' hno heq
   cases heq
   exact Arr.head (.refl G) (.one fstep_loop) (.refl _ _) (go n h I hg hL)
 | rangeFunc f params asg body ih1 ih2 =>
  replace ih1 := ih1.1
  replace ih2 := ih2.1
  refine ⟨?_, trivial⟩
  intro L S ex L' S' h G a cs w k I hg hL
  simp only [evalC] at h
  have hf := evO_rep hg hL f
  split at h
  ·rename_i g first cap hfv
   rw [hfv] at hf
   obtain ⟨first', cap', hav, hr1, hr2⟩ := hf.fn_inv
   have htm : a.tmps.size = fi.fn.ntmps ∧ ∀ t k, idx fi.vars t = some k → Rep G (L.vals.getD k .undef) (a.tmps.getD t undef) := by
    refine ⟨hL.size, fun t k hk => ?_⟩
    have := hL.get t
    unfold Loc.get at this
    rw [hk] at this
    exact this
   have hrnd := hL.rnd
   split at h
   ·rename_i hno
    rw [hno] at hrnd
    simp only at hrnd
    -- an outermost loop
    obtain ⟨G1, g1, g2, g3, I1⟩ := I.pushBlk (x := .deferred (some [])) (o := .dfr false) (by simp) (fun G' hG h1 h2 => ⟨w.heap.size, h1, h2, I.size, by simp⟩)
    let al : ALoop := { state := .ready, pend := none, fid := fid, vals := L.vals, params, asg, body, dfr := S.n }
    let rec0 : Loop := { state := .ready, pending := none, fn := b.fn, tmps := a.tmps, params := params, assign := asg, body := body, defers := w.heap.size }
    obtain ⟨G2, g4, g5, g6, I2⟩ := I1.pushBlk (x := .loop rec0) (o := .loop al) (by simp) (fun G' hG h1 h2 => ⟨_, h1, h2, I1.size, rec0, Array.getElem?_push_size .., rfl, rfl, hb, rfl, rfl, rfl, hG.obj _ _ g2, fi, hfi, htm.1, fun t k hk => (htm.2 t k hk).mono (g1.trans hG).toLe0⟩)
    have hsz : (w.heap.push (.deferred (some []))).size = w.heap.size + 1 := by simp
    rw [hsz] at g5
    rw [St.n_push] at g5
    cases hcall : call (.fn g) (first ++ [.yld (S.n + 1)] ++ cap) ((S.push (.dfr false)).push (.loop al)) with
    | none => simp only [al] at hcall; rw [hcall] at h; cases h
    | some r =>
     obtain ⟨r, S3⟩ := r
     simp only [al] at hcall
     rw [hcall] at h
     have hargs : Reps G2 (first ++ [.yld (S.n + 1)] ++ cap) (first' ++ #[Value.func (.yield (w.heap.size + 1)) #[] #[]] ++ cap').toList := by
      simp only [Array.toList_append]
      exact ((hr1.mono (g1.trans g4).toLe0).append (Reps.cons (.yld _ _ g5) (Reps.nil _))).append (hr2.mono (g1.trans g4).toLe0)
     have I2' : InvW E B h0 G2 ((S.push (.dfr false)).push (.loop al)) ((w.alloc (.deferred (some []))).alloc (.loop rec0)) := ⟨I2, I.os, I.out⟩
     let fr : Frame := fat b { a with defers := { target := .collected w.heap.size, args := #[] } :: a.defers } (.inRangeFunc (w.heap.size + 1) :: k)
     obtain ⟨⟨fg, hfg, hbody⟩, G3, w3, k1, k2, k3⟩ := call_steps HC hcall I2' (hg.mono (g1.trans g4).toLe0) hargs fr cs
     have hstep : step P (lone (fat b a (.code (.rangeFunc f params asg body) :: k)) cs w) = .next (lone (Frame.enter P g (first' ++ #[Value.func (.yield (w.heap.size + 1)) #[] #[]] ++ cap') .normal) (fr :: cs) ((w.alloc (.deferred (some []))).alloc (.loop rec0))) := by
      refine stepR_rangeFunc (b := b) (a := a) (mark := [{ target := .collected w.heap.size, args := #[] }]) (w₁ := (w.alloc (.deferred (some []))).alloc (.loop rec0)) (w₁' := (w.alloc (.deferred (some []))).alloc (.loop rec0))
       (d := { target := .fn (.func g) cap', args := first' ++ #[Value.func (.yield (w.heap.size + 1)) #[] #[]] }) ?_ ?_ ?_
      ·rw [hrnd]; exact run_enterLoop_outer _ _ _ _ _
      ·unfold resolve
       simp only [hav]
       simp [Deferred.ofValue, Act.eval]
      ·simp [invoke, callFunc_enter H hfg hbody]
     have hLr : LRel fi.vars fi.fn.ntmps G3 { L.clear with defers := .coll S.n :: L.defers } { a with defers := { target := .collected w.heap.size, args := #[] } :: a.defers } b cs := by
      have hc := (hL.clear).mono ((g1.trans g4).trans k1).toLe0
      exact ⟨hc.size, hc.get, ⟨⟨w.heap.size, (g4.trans k1).obj _ _ g2, rfl⟩, hc.defers⟩, hc.rnd, hc.recs⟩
     refine endC_sound (L := { L.clear with defers := .coll S.n :: L.defers }) ((g1.trans g4).trans k1) k2 (k1.obj _ _ g5) hLr h ?_
     cases r with
     | ret v =>
      obtain ⟨u, hu, hs⟩ := k3
      exact Steps.trans (.one hstep) hs
     | pan v =>
      obtain ⟨u, hu, hs⟩ := k3
      exact ⟨u, _, hu, Steps.trans (.one hstep) hs⟩
   ·rename_i l hsome
    rw [hsome] at hrnd
    simp only at hrnd
    obtain ⟨hkind, bl, hbl, hro⟩ := hrnd
    split at h
    ·rename_i al0 hget
     obtain ⟨b', q1, q2, q3, rec, q4, q5⟩ := I.objs l _ hget
     rw [hbl] at q1; cases q1
     let al : ALoop := { state := .ready, pend := none, fid := fid, vals := L.vals, params, asg, body, dfr := al0.dfr }
     let rec0 : Loop := { state := .ready, pending := none, fn := b.fn, tmps := a.tmps, params := params, assign := asg, body := body, defers := rec.defers }
     obtain ⟨G2, g4, g5, g6, I2⟩ := I.pushBlk (x := .loop rec0) (o := .loop al) (by simp) (fun G' hG h1 h2 => ⟨_, h1, h2, I.size, rec0, by simp, rfl, rfl, hb, rfl, rfl, rfl, hG.obj _ _ q5.2.2.2.2.2.2.1, fi, hfi, htm.1, fun t k hk => (htm.2 t k hk).mono hG.toLe0⟩)
     cases hcall : call (.fn g) (first ++ [.yld S.n] ++ cap) (S.push (.loop al)) with
     | none => simp only [al] at hcall; rw [hcall] at h; cases h
     | some r =>
      obtain ⟨r, S3⟩ := r
      simp only [al] at hcall
      rw [hcall] at h
      have hargs : Reps G2 (first ++ [.yld S.n] ++ cap) (first' ++ #[Value.func (.yield w.heap.size) #[] #[]] ++ cap').toList := by
       simp only [Array.toList_append]
       exact ((hr1.mono g4.toLe0).append (Reps.cons (.yld _ _ g5) (Reps.nil _))).append (hr2.mono g4.toLe0)
      have I2' : InvW E B h0 G2 (S.push (.loop al)) (w.alloc (.loop rec0)) := ⟨I2, I.os, I.out⟩
      let fr : Frame := fat b a (.inRangeFunc w.heap.size :: k)
      obtain ⟨⟨fg, hfg, hbody⟩, G3, w3, k1, k2, k3⟩ := call_steps HC hcall I2' (hg.mono g4.toLe0) hargs fr cs
      have hstep : step P (lone (fat b a (.code (.rangeFunc f params asg body) :: k)) cs w) = .next (lone (Frame.enter P g (first' ++ #[Value.func (.yield w.heap.size) #[] #[]] ++ cap') .normal) (fr :: cs) (w.alloc (.loop rec0))) := by
       refine stepR_rangeFunc (b := b) (a := a) (mark := []) (w₁ := w.alloc (.loop rec0)) (w₁' := w.alloc (.loop rec0))
        (d := { target := .fn (.func g) cap', args := first' ++ #[Value.func (.yield w.heap.size) #[] #[]] }) ?_ ?_ ?_
       ·rw [hro]; exact run_enterLoop_inner q4 _ _ _ _ _
       ·have hav' := hav
        unfold resolve
        simp only [hav']
        simp [Deferred.ofValue, Act.eval]
       ·simp [invoke, callFunc_enter H hfg hbody]
      have hLr := (hL.clear).mono (g4.trans k1).toLe0
      refine endC_sound (L := L.clear) (g4.trans k1) k2 (k1.obj _ _ g5) hLr h ?_
      cases r with
      | ret v =>
       obtain ⟨u, hu, hs⟩ := k3
       exact Steps.trans (.one hstep) hs
      | pan v =>
       obtain ⟨u, hu, hs⟩ := k3
       exact ⟨u, _, hu, Steps.trans (.one hstep) hs⟩
    ·cases h
  ·cases h
theorem evalC_sound (H : EnvOk P E) (HC : CallOk P E B h0 call) (hcf : CallFr call) (hfi : E.fn fid = some fi) (hb : b.fn = fid) (c : Code) {L : Loc} {S : St} {ex : Ex} {L' : Loc} {S' : St} (h : evalC ⟨E, call, iter n, fid, fi.vars, fi.fn.ntmps⟩ c L S = some (ex, L', S')) {G : Gh} {a : Act} {cs : List Frame} {w : World} (k : List Item) (I : InvW E B h0 G S w) (hg : GlobOk E G) (hL : LRel fi.vars fi.fn.ntmps G L a b cs) :
  Arr P E B h0 fi.vars fi.fn.ntmps G (lone (fat b a (.code c :: k)) cs w) b k L.recs cs ex L' S' := (evalC_both H HC hcf hfi hb c).1 h k I hg hL
end
end Go.Vm
namespace Go.Vm
open Go
variable {P : Program} {E : Env} {B : Nat} {h0 : World} {G : Gh} {S S' : St} {w : World}
/-! the results -/
theorem loadA_ptr (H : EnvOk P E) (I : InvW E B h0 G S w) {t : TypeId} {a v : AV} {c : Value} (h : loadA E S t a = some v) (ha : Rep G a c) :
  ∃ r, (do loadVar t (← asAddr c) : Sem Value).run P w = .ok r w ∧ Rep G v r := by
 obtain ⟨r, h1, h2⟩ := load_sound (P := P) H I h ha
 refine ⟨r, ?_, h2⟩
 have hc : ∃ ad, c = .pointer (some ad) := by
  unfold loadA at h
  split at h
  ·cases h
  ·split at h
   ·obtain ⟨b, o, rfl, _⟩ := ha.rptr_inv; exact ⟨_, rfl⟩
   ·cases ha; exact ⟨_, rfl⟩
   ·cases h
 obtain ⟨ad, rfl⟩ := hc
 simp only [Instr.loadAt, Instr.sureAddr] at h1
 simpa [asAddr] using h1
theorem results_go (H : EnvOk P E) (I : InvW E B h0 G S w) {vars : List Tmp} {L : Loc} {tmps : Array Value} (hget : ∀ t, Rep G (L.get vars t) (tmps.getD t undef)) :
  ∀ (rs : List ResultVar) (vs : List AV), resultsA E L vars S rs = some vs →
   ∃ us, (rs.mapM (m := Sem) fun | .tmp t => pure (tmps.getD t undef) | .cell a t => do loadVar t (← asAddr (tmps.getD a undef))).run P w = .ok us w ∧ Reps G vs us
 | [], vs, h => by
  simp only [resultsA] at h
  cases h
  exact ⟨[], by simp, Reps.nil G⟩
 | .tmp t :: rs, vs, h => by
  simp only [resultsA] at h
  cases hr : resultsA E L vars S rs with
  | none => rw [hr] at h; cases h
  | some vs' =>
   rw [hr] at h
   simp at h
   subst h
   obtain ⟨us, h1, h2⟩ := results_go H I hget rs vs' hr
   exact ⟨tmps.getD t undef :: us, by rw [List.mapM_cons]; simp only [Sem.run_bind, Sem.run_pure, Result.andThen, h1], Reps.cons (hget t) h2⟩
 | .cell a t :: rs, vs, h => by
  simp only [resultsA] at h
  split at h
  ·rename_i v vs' hl hr
   cases h
   obtain ⟨us, h1, h2⟩ := results_go H I hget rs vs' hr
   obtain ⟨r, h3, h4⟩ := loadA_ptr (P := P) H I hl (hget a)
   exact ⟨r :: us, by rw [List.mapM_cons]; simp only [Sem.run_bind, h3, Result.andThen, h1]; rfl, Reps.cons h4 h2⟩
  ·cases h
theorem results_sound (H : EnvOk P E) (I : InvW E B h0 G S w) {vars : List Tmp} {L : Loc} {tmps : Array Value} (hget : ∀ t, Rep G (L.get vars t) (tmps.getD t undef)) {fn : Func} {vs : List AV} (h : resultsA E L vars S fn.results.toList = some vs) :
  ∃ u, (results fn tmps).run P w = .ok u w ∧ Rep G (resultV vs) u := by
 obtain ⟨us, h1, h2⟩ := results_go (P := P) H I hget _ vs h
 have hm : (results fn tmps).run P w = .ok (if h : us.toArray.size = 1 then us.toArray[0] else .tuple us.toArray) w := by
  unfold results
  rw [Array.mapM_eq_mapM_toList]
  simp only [bind_map_left]
  rw [Sem.run_bind]
  refine (congrArg (fun r => Result.andThen r _) h1).trans ?_
  simp [Result.andThen]
 refine ⟨_, hm, ?_⟩
 match vs, us, h2 with
 | [], [], h2 => exact Rep.tup' (ys := #[]) (Reps.nil G)
 | [v], [u], h2 => exact h2.head
 | v :: v' :: r, u :: u' :: r', h2 => exact Rep.tup' (ys := (u :: u' :: r').toArray) (by simpa using h2)
 | [], _ :: _, h2 => exact absurd h2.1 (by simp)
 | [_], [], h2 => exact absurd h2.1 (by simp)
 | [_], _ :: _ :: _, h2 => exact absurd h2.1 (by simp)
 | _ :: _ :: _, [], h2 => exact absurd h2.1 (by simp)
 | _ :: _ :: _, [_], h2 => exact absurd h2.1 (by simp)
/-! the way out of a function -/
def ModeRel (G : Gh) : Mode → FrameMode → Prop
 | .ret, u => u = .returning
 | .pan v, u => ∃ c, u = .panicking [entry c] ∧ Rep G v c
def recOf : Mode → RecS
 | .ret => .no
 | .pan v => .pan v
def DEnd (P : Program) (f : FuncId) (cargs : Array Value) (c : Frame) (cs : List Frame) (w : World) (mo : Mode) (w' : World) : RecS → Prop
 | .done => (∃ v, mo = .pan v) ∧ Steps P (lone (Frame.enter P f cargs .deferred) (c :: cs) w) (lone { c with mode := .returning } cs w')
 | .no => RecS.no = recOf mo ∧ Steps P (lone (Frame.enter P f cargs .deferred) (c :: cs) w) (lone c cs w')
 | .pan v => RecS.pan v = recOf mo ∧ Steps P (lone (Frame.enter P f cargs .deferred) (c :: cs) w) (lone c cs w')
/-- what a call of a deferred function does -/
def DfOk (P : Program) (E : Env) (B : Nat) (h0 : World) (callD : CallD) : Prop :=
 ∀ f args mo S r S', callD f args (recOf mo) S = some (r, S') → ∀ G w cargs (c : Frame) cs, InvW E B h0 G S w → GlobOk E G → Reps G args cargs.toList → ModeRel G mo c.mode →
  (∃ fi, E.fn f = some fi ∧ fi.fn.body.isSome = true) ∧ ∃ G' w', G.Le G' ∧ InvW E B h0 G' S' w' ∧ DEnd P f cargs c cs w mo w' r
theorem unwind_sound (H : EnvOk P E) {callD : CallD} (HD : DfOk P E B h0 callD) {fi : FInfo} {fid : FuncId} (hfi : E.fn fid = some fi) {L : Loc} : ∀ (ds : List ADef) {dsC : List Deferred} {mo : Mode} {S : St} {r : FRes} {S' : St} {G : Gh} {w : World} {fr : Frame} {cs : List Frame},
  unwindA E callD fi L ds mo S = some (r, S') → InvW E B h0 G S w → GlobOk E G → DRels G ds dsC → fr.defers = dsC → ModeRel G mo fr.mode → fr.fn = fid → fr.kind = .normal → (∀ t, Rep G (L.get fi.vars t) (fr.tmps.getD t undef)) →
  ∃ G' e w' fr', G.Le G' ∧ InvW E B h0 G' S' w' ∧ FEnd G' r e ∧ Comes P (lone fr cs w) (lone fr' cs w') e ∧ fr'.fn = fid ∧ fr'.leaving P w' e
 | [], dsC, mo, S, r, S', G, w, fr, cs, h, I, hg, hd, hdc, hm, hf, hk, hget => by
  have hnil : fr.defers = [] := by
   cases dsC with
   | nil => exact hdc
   | cons d ds => exact hd.elim
  have hP := (H.fn fid fi hfi).1
  cases mo with
  | ret =>
   simp only [unwindA] at h
   split at h
   ·rename_i vs hvs
    cases h
    obtain ⟨u, h1, h2⟩ := results_sound (P := P) H I hget hvs
    exact ⟨G, .returned u, w, fr, .refl G, I, ⟨u, rfl, h2⟩, Steps.refl P _, hf, hm, hnil, hk, fi.fn, by rw [hf]; exact hP, h1⟩
   ·cases h
  | pan v =>
   simp only [unwindA] at h
   cases h
   obtain ⟨c, h1, h2⟩ := hm
   exact ⟨G, .panicked [entry c], w, fr, .refl G, I, ⟨c, rfl, h2⟩, Steps.refl P _, hf, h1, hnil, fi.fn, by rw [hf]; exact hP⟩
 | .coll i :: ds, dsC, mo, S, r, S', G, w, fr, cs, h, I, hg, hd, hdc, hm, hf, hk, hget => by
  cases dsC with
  | nil => exact hd.elim
  | cons d dsC =>
   obtain ⟨⟨bl, hbl, htar⟩, hd2⟩ := hd
   simp only [unwindA] at h
   split at h
   ·rename_i hS
    obtain ⟨b', q1, q2, q3, q4⟩ := I.objs i _ hS
    rw [hbl] at q1; cases q1
    simp only [Bool.false_eq_true, if_false] at q4
    have hrun : fr.mode ≠ .run := by
     cases mo with
     | ret => rw [show fr.mode = .returning from hm]; simp
     | pan v => obtain ⟨c, h1, _⟩ := hm; rw [h1]; simp
    have hst := step_collected (cs := cs) hrun hdc htar (run_takeDeferred (P := P) q4)
    have I' : InvW E B h0 G (S.put i (.dfr true)) (w.putObj bl (.deferred none)) :=
     ⟨I.setBlk (St.get_lt hS) q2 q3 (by simp) ⟨bl, hbl, q2, q3, by
      have := (Array.getElem?_eq_some_iff.1 q4).1
      simp [this]⟩, I.os, I.out⟩
    obtain ⟨G', e, w', fr', k1, k2, k3, k4, k5, k6⟩ := unwind_sound H HD hfi ds (fr := { fr with defers := [] ++ dsC }) (cs := cs) h I' hg hd2 rfl hm hf hk hget
    exact ⟨G', e, w', fr', k1, k2, k3, Comes.of_steps (.one hst) k4, k5, k6⟩
   ·cases h
 | .call f args :: ds, dsC, mo, S, r, S', G, w, fr, cs, h, I, hg, hd, hdc, hm, hf, hk, hget => by
  cases dsC with
  | nil => exact hd.elim
  | cons d dsC =>
   obtain ⟨⟨first, cap, htar, hdargs, hargs⟩, hd2⟩ := hd
   have hrun : fr.mode ≠ .run := by
    cases mo with
    | ret => rw [show fr.mode = .returning from hm]; simp
    | pan v => obtain ⟨c, h1, _⟩ := hm; rw [h1]; simp
   unfold unwindA at h
   split at h
   ·rename_i r1 S1 hc
    have hc' : callD f args (recOf mo) S = some (r1, S1) := by cases mo <;> exact hc
    obtain ⟨⟨fg, hfg, hbody⟩, G1, w1, k1, k2, k3⟩ := HD f args mo S r1 S1 hc' G w (first ++ cap) { fr with defers := dsC } cs I hg hargs hm
    have hinv : (invoke d.target d.args).run P w = .ok (.enter f (first ++ cap)) w := by
     rw [htar, hdargs]
     simp [invoke, callFunc_enter H hfg hbody]
    have hst := step_defer (cs := cs) hrun hdc htar hinv
    have fin : ∀ (mo' : Mode) (fr1 : Frame), unwindA E callD fi L ds mo' S1 = some (r, S') → fr1.defers = dsC → ModeRel G1 mo' fr1.mode → fr1.fn = fid → fr1.kind = .normal → fr1.tmps = fr.tmps →
      Steps P (lone (Frame.enter P f (first ++ cap) .deferred) ({ fr with defers := dsC } :: cs) w) (lone fr1 cs w1) →
      ∃ G' e w' fr', G.Le G' ∧ InvW E B h0 G' S' w' ∧ FEnd G' r e ∧ Comes P (lone fr cs w) (lone fr' cs w') e ∧ fr'.fn = fid ∧ fr'.leaving P w' e := by
     intro mo' fr1 hu hd1 hm1 hf1 hk1 ht1 hs1
     obtain ⟨G', e, w', fr', j1, j2, j3, j4, j5, j6⟩ := unwind_sound H HD hfi ds (fr := fr1) (cs := cs) hu k2 (hg.mono k1.toLe0) (hd2.mono k1.toLe0) hd1 hm1 hf1 hk1 (fun t => by rw [ht1]; exact (hget t).mono k1.toLe0)
     exact ⟨G', e, w', fr', k1.trans j1, j2, j3, Comes.of_steps (.head hst hs1) j4, j5, j6⟩
    cases mo with
    | ret =>
     cases r1 with
     | no =>
      simp only [DEnd] at h k3
      exact fin .ret { fr with defers := dsC } h rfl hm hf hk rfl k3.2
     | pan v' => simp at h
     | done => simp at h
    | pan v =>
     cases r1 with
     | no => simp at h
     | pan v' =>
      simp only [recOf, DEnd] at h k3
      obtain ⟨k3, k4⟩ := k3
      cases k3
      obtain ⟨c, h1, h2⟩ := hm
      exact fin (.pan v) { fr with defers := dsC } h rfl ⟨c, h1, h2.mono k1.toLe0⟩ hf hk rfl k4
     | done =>
      simp only [DEnd] at h k3
      exact fin .ret { fr with defers := dsC, mode := .returning } h rfl rfl hf hk rfl k3.2
   ·cases h
end Go.Vm
namespace Go.Vm
open Go
variable {P : Program} {E : Env} {B : Nat} {h0 : World} {G : Gh} {S S' : St} {w : World}
theorem idx_get : ∀ {vars : List Tmp} {t : Tmp} {k : Nat}, idx vars t = some k → vars[k]? = some t
 | [], _, _, h => by simp [idx] at h
 | x :: xs, t, k, h => by
  unfold idx at h
  split at h
  ·rename_i e; cases h; simp [e]
  ·cases hh : idx xs t with
   | none => rw [hh] at h; cases h
   | some j => rw [hh] at h; simp at h; subst h; simpa using idx_get hh
theorem getD_append_undef {cargs : Array Value} {n t : Nat} : (cargs ++ Array.replicate n undef).getD t undef = cargs.getD t undef := by
 simp only [Array.getD_eq_getD_getElem?, Array.getElem?_append, Array.getElem?_replicate]
 split
 ·rfl
 ·rename_i h
  rw [Array.getElem?_eq_none (by omega)]
  split <;> rfl
theorem start_rel {fi : FInfo} {args : List AV} {cargs : Array Value} (hr : Reps G args cargs.toList) (hl : args.length ≤ fi.fn.ntmps) {b : Frame} {cs : List Frame} {rc : RecS} (hro : b.roundOf = none) (hrec : RRel G rc b cs) :
  LRel fi.vars fi.fn.ntmps G (startLoc fi args rc) { tmps := cargs ++ Array.replicate (fi.fn.ntmps - cargs.size) undef, defers := [] } b cs := by
 have hsz : args.length = cargs.size := by simpa using hr.1
 refine ⟨by simp; omega, fun t => ?_, trivial, hro, hrec⟩
 rw [getD_append_undef]
 unfold Loc.get startLoc
 cases hk : idx fi.vars t with
 | none => simp [look]; exact .undef _
 | some k =>
  have hv := idx_get hk
  simp only [startVals]
  have : (fi.vars.map fun t => args.getD t .undef).getD k .undef = args.getD t .undef := by
   simp [List.getD_eq_getElem?_getD, hv]
  rw [this]
  rcases Nat.lt_or_ge t args.length with h | h
  ·obtain ⟨y, hy, hxy⟩ := hr.getElem (List.getElem?_eq_getElem h)
   have h1 : args.getD t .undef = args[t] := by simp [h]
   have h2 : cargs.getD t undef = y := by
    have : cargs[t]? = some y := by simpa using hy
    simp [Array.getD_eq_getD_getElem?, this]
   rw [h1, h2]
   exact hxy
  ·have h1 : args.getD t .undef = .undef := by simp [List.getD_eq_getElem?_getD, List.getElem?_eq_none h]
   rw [h1]; exact .undef _
theorem csStep_no {r : RecS} {cs cs' : List Frame} (h : CsStep .no r cs cs') : r = .no ∧ cs' = cs := by
 rcases h with h | ⟨v, h, _⟩
 ·exact h
 ·cases h
def OutOf (mo : Mode) : Ex → Prop
 | .normal => mo = .ret
 | .ret => mo = .ret
 | .pan v => mo = .pan v
 | .exit _ => False
/-- where the code of a function ends: the mode of its frame -/
theorem out_steps {vars : List Tmp} {nt : Nat} {m : Machine} {b : Frame} {r0 : RecS} {cs : List Frame} {ex : Ex} {L' : Loc} (hro : b.roundOf = none) (h : Arr P E B h0 vars nt G m b [] r0 cs ex L' S') (mo : Mode) (hmo : OutOf mo ex) :
  ∃ G' a' cs' w' fr, G.Le G' ∧ InvW E B h0 G' S' w' ∧ LRel vars nt G' L' a' b cs' ∧ CsStep r0 L'.recs cs cs' ∧ Steps P m (lone fr cs' w') ∧ fr.fn = b.fn ∧ fr.kind = b.kind ∧ fr.tmps = a'.tmps ∧ fr.defers = a'.defers ∧ ModeRel G' mo fr.mode := by
 obtain ⟨G', a', cs', w', h1, h2, h3, h4, h5⟩ := h
 cases ex with
 | normal => cases hmo; exact ⟨G', a', cs', w', _, h1, h2, h3, h4, Steps.trans h5 (.one (fstep_end hro)), rfl, rfl, rfl, rfl, rfl⟩
 | ret => cases hmo; obtain ⟨todo, h5⟩ := h5; exact ⟨G', a', cs', w', _, h1, h2, h3, h4, Steps.trans h5 (.one (fstep_ret hro)), rfl, rfl, rfl, rfl, rfl⟩
 | pan v => cases hmo; obtain ⟨c, todo, h6, h5⟩ := h5; exact ⟨G', a', cs', w', _, h1, h2, h3, h4, h5, rfl, rfl, rfl, rfl, c, rfl, h6⟩
 | exit i => exact hmo.elim
/-- what is written -/
def St.after (S : St) : Option (Nat × List AV) → St
 | none => S
 | some (i, cs) => S.put i (.cells cs)
/-- functions of the library that are known by what they return -/
def LibOk (P : Program) (E : Env) (B : Nat) (h0 : World) : Prop :=
 (∀ f h, E.lib f = some h → ∀ args v, h args = some v → ∀ (G : Gh) (S : St) (cargs : Array Value) (w : World), InvW E B h0 G S w → GlobOk E G → Reps G args cargs.toList →
  Calls P f cargs w fun e w' => ∃ G' c, e = .returned c ∧ G.Le G' ∧ InvW E B h0 G' S w' ∧ Rep G' v c) ∧
 (∀ f h, E.libS f = some h → ∀ args S r, h S args = some r → ∀ (G : Gh) (cargs : Array Value) (w : World), InvW E B h0 G S w → GlobOk E G → Reps G args cargs.toList →
  Calls P f cargs w fun e w' => ∃ G', e = .returned (.tuple #[]) ∧ G.Le G' ∧ InvW E B h0 G' (S.after r) w')
/-- nothing of what was there is touched, and nothing new is told of -/
theorem lib_below {v : AV} {c : Value} {w w' : World} {e : Ending} (I : InvW E B h0 G S w) (h1 : e = .returned c) (h2 : Rep G v c) (h3 : _root_.Go.RowKit.Below w.heap.size w w') : ∃ G' c, e = .returned c ∧ G.Le G' ∧ InvW E B h0 G' S w' ∧ Rep G' v c :=
 ⟨G, c, h1, .refl G, ⟨I.toInv.grow h3.size h3.block, by rw [h3.os]; exact I.os, by rw [h3.output]; exact I.out⟩, h2⟩
section
variable {call : CallF} {n : Nat}
theorem fn_sound (HL : LibOk P E B h0) (H : EnvOk P E) (HC : CallOk P E B h0 call) (hcf : CallFr call) {callD : CallD} (HD : DfOk P E B h0 callD) {f : FuncId} {args : List AV} {r : FRes} (h : fnA E call callD (iter n) f args S = some (r, S')) {cargs : Array Value}
  (I : InvW E B h0 G S w) (hg : GlobOk E G) (hr : Reps G args cargs.toList) :
  (∃ fi, E.fn f = some fi ∧ fi.fn.body.isSome = true) ∧ Calls P f cargs w fun e w' => ∃ G', G.Le G' ∧ InvW E B h0 G' S' w' ∧ FEnd G' r e := by
 unfold fnA at h
 cases hfi : E.fn f with
 | none => rw [hfi] at h; cases h
 | some fi =>
  rw [hfi] at h
  simp only at h
  cases hb : fi.fn.body with
  | none => rw [hb] at h; cases h
  | some c =>
   rw [hb] at h
   simp only at h
   split at h
   ·rename_i g hlib
    split at h
    ·rename_i v hv
     cases h
     refine ⟨⟨fi, rfl, by rw [hb]; rfl⟩, fun cs => ?_⟩
     obtain ⟨e, w', fr, ⟨G', u, k1, k2, k3, kr⟩, k4, k5, k6⟩ := HL.1 f g hlib args v hv G S cargs w I hg hr cs
     exact ⟨e, w', fr, ⟨G', k2, k3, u, k1, kr⟩, k4, k5, k6⟩
    ·cases h
   split at h
   ·rename_i g hlib
    split at h
    ·rename_i hv
     cases h
     refine ⟨⟨fi, rfl, by rw [hb]; rfl⟩, fun cs => ?_⟩
     obtain ⟨e, w', fr, ⟨G', k1, k2, k3⟩, k4, k5, k6⟩ := HL.2 f g hlib args S none hv G cargs w I hg hr cs
     exact ⟨e, w', fr, ⟨G', k2, k3, _, k1, Rep.tup' (Reps.nil _)⟩, k4, k5, k6⟩
    ·rename_i i cc hv
     cases h
     refine ⟨⟨fi, rfl, by rw [hb]; rfl⟩, fun cs => ?_⟩
     obtain ⟨e, w', fr, ⟨G', k1, k2, k3⟩, k4, k5, k6⟩ := HL.2 f g hlib args S (some (i, cc)) hv G cargs w I hg hr cs
     exact ⟨e, w', fr, ⟨G', k2, k3, _, k1, Rep.tup' (Reps.nil _)⟩, k4, k5, k6⟩
    ·cases h
   split at h
   ·rename_i hl
    refine ⟨⟨fi, rfl, by rw [hb]; rfl⟩, fun cs => ?_⟩
    let b : Frame := { (default : Frame) with fn := f, kind := .normal, roundOf := none }
    have hP := (H.fn f fi hfi).1
    have henter : Frame.enter P f cargs .normal = fat b { tmps := cargs ++ Array.replicate (fi.fn.ntmps - cargs.size) undef, defers := [] } [.code c] := by
     simp [Frame.enter, hP, hb, fat, b]
    have hL := start_rel (fi := fi) (b := b) (cs := cs) (rc := .no) hr hl rfl (.inl rfl)
    have main : ∀ (ex : Ex) (L' : Loc) (S1 : St) (mo : Mode), evalC ⟨E, call, iter n, f, fi.vars, fi.fn.ntmps⟩ c (startLoc fi args .no) S = some (ex, L', S1) → OutOf mo ex →
      unwindA E callD fi L' L'.defers mo S1 = some (r, S') →
      ∃ e w' fr, (∃ G', G.Le G' ∧ InvW E B h0 G' S' w' ∧ FEnd G' r e) ∧ Comes P (lone (Frame.enter P f cargs .normal) cs w) (lone fr cs w') e ∧ fr.fn = f ∧ fr.leaving P w' e := by
     intro ex L' S1 mo hev hmo hu
     have ha := evalC_sound (n := n) (b := b) H HC hcf hfi rfl c hev [] I hg hL
     obtain ⟨G1, a1, cs1, w1, fr1, q1, q2, q3, q4, q5, q6, q7, q8, q9, q10⟩ := out_steps rfl ha mo hmo
     obtain ⟨_, hcs⟩ := csStep_no q4
     subst hcs
     obtain ⟨G2, e, w2, fr2, k1, k2, k3, k4, k5, k6⟩ := unwind_sound H HD hfi L'.defers (fr := fr1) (cs := cs1) hu q2 (hg.mono q1.toLe0) q3.defers q9 q10 q6 q7 (fun t => by rw [q8]; exact q3.get t)
     rw [← henter] at q5
     exact ⟨e, w2, fr2, ⟨G2, q1.trans k1, k2, k3⟩, Comes.of_steps q5 k4, k5, k6⟩
    split at h
    ·rename_i L' S1 hev
     exact main _ _ _ .ret hev rfl h
    ·rename_i L' S1 hev
     exact main _ _ _ .ret hev rfl h
    ·rename_i v L' S1 hev
     exact main _ _ _ (.pan v) hev rfl h
    ·cases h
   ·cases h
theorem df_sound (H : EnvOk P E) (HC : CallOk P E B h0 call) (hcf : CallFr call) : DfOk P E B h0 (fun g a r T => dfA E call (iter n) g a r T) := by
 intro f args mo S r S' h G w cargs c cs I hg hr hm
 simp only at h
 unfold dfA at h
 cases hfi : E.fn f with
 | none => rw [hfi] at h; cases h
 | some fi =>
  rw [hfi] at h
  simp only at h
  cases hb : fi.fn.body with
  | none => rw [hb] at h; cases h
  | some cd =>
   rw [hb] at h
   simp only at h
   split at h
   ·rename_i hl
    refine ⟨⟨fi, rfl, by rw [hb]; rfl⟩, ?_⟩
    let b : Frame := { (default : Frame) with fn := f, kind := .deferred, roundOf := none }
    have hP := (H.fn f fi hfi).1
    have henter : Frame.enter P f cargs .deferred = fat b { tmps := cargs ++ Array.replicate (fi.fn.ntmps - cargs.size) undef, defers := [] } [.code cd] := by
     simp [Frame.enter, hP, hb, fat, b]
    have hrec : RRel G (recOf mo) b (c :: cs) := by
     cases mo with
     | ret => exact .inr ⟨rfl, c, cs, rfl, hm⟩
     | pan v => obtain ⟨u, h1, h2⟩ := hm; exact ⟨rfl, c, cs, u, rfl, h1, h2⟩
    have hL := start_rel (fi := fi) (b := b) (cs := c :: cs) (rc := recOf mo) hr hl.1 rfl hrec
    have main : ∀ (ex : Ex) (L' : Loc) (S1 : St), evalC ⟨E, call, iter n, f, fi.vars, fi.fn.ntmps⟩ cd (startLoc fi args (recOf mo)) S = some (ex, L', S1) → OutOf .ret ex →
      L'.defers = [] → some (L'.recs, S1) = some (r, S') →
      ∃ G' w', G.Le G' ∧ InvW E B h0 G' S' w' ∧ DEnd P f cargs c cs w mo w' r := by
     intro ex L' S1 hev hex hdf hres
     have ha := evalC_sound (n := n) (b := b) H HC hcf hfi rfl cd hev [] I hg hL
     obtain ⟨G1, a1, cs1, w1, fr1, q1, q2, q3, q4, q5, q6, q7, q8, q9, q10⟩ := out_steps rfl ha .ret hex
     cases hres
     have hd0 : fr1.defers = [] := by
      have := q3.defers
      rw [hdf] at this
      rw [q9]
      cases hh : a1.defers with
      | nil => rfl
      | cons d ds => rw [hh] at this; exact this.elim
     have hgo : fr1.going P w1 (.returned (.tuple #[])) := by
      refine ⟨q10, hd0, fi.fn, by rw [q6]; exact hP, ?_⟩
      have : fi.fn.results = #[] := Array.eq_empty_of_size_eq_zero hl.2
      simp [results, this]
     rw [← henter] at q5
     refine ⟨G1, w1, q1, q2, ?_⟩
     rcases q4 with ⟨hre, hcs⟩ | ⟨v, hre, hre', c0, rr, u, hc0, hmode, hcs⟩
     ·subst hcs
      have hst := step_going_returned (c := c) (cs := cs) q7 hgo
      have hset : settle c.mode = c.mode := by
       cases mo with
       | ret => rw [show c.mode = .returning from hm]; rfl
       | pan v => obtain ⟨u, h1, _⟩ := hm; rw [h1]; rfl
      rw [hset] at hst
      have hst' : step P (lone fr1 (c :: cs) w1) = .next (lone c cs w1) := hst
      have hres : L'.recs = recOf mo := hre
      rw [hres]
      cases mo with
      | ret => exact ⟨rfl, q5.trans (.one hst')⟩
      | pan v => exact ⟨rfl, q5.trans (.one hst')⟩
     ·rw [hre']
      cases mo with
      | ret => cases hre
      | pan v0 =>
       refine ⟨⟨v0, rfl⟩, ?_⟩
       cases hc0
       rw [hcs] at q5
       exact q5.trans (.one (step_going_returned (c := { c with mode := .panicking [{ v := u, recovered := true }] }) (cs := cs) q7 hgo))
    split at h
    ·rename_i L' S1 hev
     split at h
     ·rename_i hdf
      exact main _ _ _ hev rfl hdf h
     ·cases h
    ·rename_i L' S1 hev
     split at h
     ·rename_i hdf
      exact main _ _ _ hev rfl hdf h
     ·cases h
    ·cases h
   ·cases h
theorem putAll_rel {fi : FInfo} {b : Frame} {cs : List Frame} : ∀ (ts : List Tmp) (args : List AV) {L L' : Loc} {a : Act} {cargs : List Value}, putAll fi.vars L ts args = some L' → ts.all (fun t => decide (t < fi.fn.ntmps)) = true → Reps G args cargs → LRel fi.vars fi.fn.ntmps G L a b cs →
  ts.length = cargs.length ∧ LRel fi.vars fi.fn.ntmps G L' { a with tmps := (ts.zip cargs).foldl (fun tmps (t, v) => tmps.setIfInBounds t v) a.tmps } b cs
 | [], [], L, L', a, cargs, h, _, hr, hL => by
  simp only [putAll] at h
  cases h
  have : cargs = [] := List.eq_nil_of_length_eq_zero (by simpa using hr.1.symm)
  subst this
  exact ⟨rfl, hL⟩
 | t :: ts, v :: args, L, L', a, [], h, _, hr, hL => absurd hr.1 (by simp)
 | t :: ts, v :: args, L, L', a, c :: cargs, h, ht, hr, hL => by
  simp only [putAll] at h
  simp only [List.all_cons, Bool.and_eq_true, decide_eq_true_eq] at ht
  have h1 := hL.put (dst := some t) hr.head (by simpa [inFrame] using ht.1)
  obtain ⟨h2, h3⟩ := putAll_rel ts args (a := a.put (some t) c) h ht.2 hr.tail h1
  refine ⟨by simp [h2], ?_⟩
  simp only [List.zip_cons_cons, List.foldl_cons]
  exact h3
 | [], _ :: _, L, L', a, cargs, h, _, _, _ => by simp [putAll] at h
 | _ :: _, [], L, L', a, cargs, h, _, _, _ => by simp [putAll] at h
theorem yld_sound (H : EnvOk P E) (HC : CallOk P E B h0 call) (hcf : CallFr call) {l : Nat} {args : List AV} {r : FRes} (h : yldA E call (iter n) l args S = some (r, S')) {cargs : Array Value} {bl : Nat}
  (I : InvW E B h0 G S w) (hg : GlobOk E G) (hl : G.obj l = some (bl, 0)) (hr : Reps G args cargs.toList) :
  ∃ f tmps asg body, (Instr.yield bl cargs).run P w = .ok (.round bl f tmps asg body) w ∧ ∀ c cs, ∃ G' w', G.Le G' ∧ InvW E B h0 G' S' w' ∧
   match r with
   | .ret v => ∃ u, Rep G' v u ∧ Steps P (lone (Frame.round bl f tmps asg body .normal) (c :: cs) w) (lone (c.finish u) cs w')
   | .pan v => ∃ u, Rep G' v u ∧ Steps P (lone (Frame.round bl f tmps asg body .normal) (c :: cs) w) (lone (c.raise [entry u]) cs w') := by
 unfold yldA at h
 split at h
 ·rename_i al hget
  obtain ⟨b', q1, q2, q3, rec, q4, s1, s2, s3, s4, s5, s6, s7, fi, s8, s9, s10⟩ := I.objs l _ hget
  rw [hl] at q1; cases q1
  rw [s8] at h
  simp only at h
  split at h
  ·rename_i hpar
   split at h
   ·cases h
   ·rename_i L hput
    have hP := (H.fn al.fid fi s8).1
    -- the frame of the round
    let b : Frame := { (default : Frame) with fn := al.fid, kind := .normal, roundOf := some bl }
    have hsz : cargs.size = rec.params.size := by
     have := putAll_rel (G := G) (b := b) (cs := []) _ _ (a := { tmps := rec.tmps, defers := [] }) hput hpar hr ⟨s9, fun t => by
      unfold Loc.get
      cases hk : idx fi.vars t with
      | none => simp [look]; exact .undef _
      | some k => exact s10 t k hk, trivial, ⟨rfl, bl, hl, rfl⟩, .inl rfl⟩
     rw [s4]
     simpa using this.1.symm
    refine ⟨rec.fn, _, rec.assign, rec.body, run_yield q4 hsz, fun c cs => ?_⟩
    have hL := (putAll_rel (G := G) (b := b) (cs := c :: cs) _ _ (a := { tmps := rec.tmps, defers := [] }) hput hpar hr ⟨s9, fun t => by
      unfold Loc.get
      cases hk : idx fi.vars t with
      | none => simp [look]; exact .undef _
      | some k => exact s10 t k hk, trivial, ⟨rfl, bl, hl, rfl⟩, .inl rfl⟩).2
    have hrnd0 : L.rnd = some l ∧ L.recs = .no := by
     have : ∀ (ts : List Tmp) (as : List AV) (L L' : Loc), putAll fi.vars L ts as = some L' → L'.rnd = L.rnd ∧ L'.recs = L.recs := by
      intro ts
      induction ts with
      | nil => intro as L L' h; cases as <;> simp [putAll] at h; subst h; exact ⟨rfl, rfl⟩
      | cons t ts ih =>
       intro as L L' h
       cases as with
       | nil => simp [putAll] at h
       | cons a as =>
        simp only [putAll] at h
        obtain ⟨h1, h2⟩ := ih _ _ _ h
        have := putO_recs (vars := fi.vars) (L := L) (dst := some t) (v := a)
        exact ⟨h1.trans this.2.2, h2.trans this.1⟩
     exact this _ _ _ _ hput
    let tm := (rec.params.zip cargs).foldl (fun tmps (t, a) => tmps.setIfInBounds t a) rec.tmps
    have htm : tm = ((al.params.toList.zip cargs.toList).foldl (fun tmps (t, v) => tmps.setIfInBounds t v) rec.tmps) := by
     simp only [tm]
     rw [s4, ← Array.foldl_toList, Array.toList_zip]
    have hround : Frame.round bl rec.fn tm rec.assign rec.body .normal = fat b { tmps := tm, defers := [] } (.code al.asg :: [.beginRound, .code al.body]) := by
     simp [Frame.round, fat, b, s3, s5, s6]
    rw [← htm] at hL
    split at h
    ·rename_i L1 S1 hasg
     have ha := evalC_sound (n := n) (b := b) H HC hcf s8 rfl al.asg hasg [.beginRound, .code al.body] I hg hL
     obtain ⟨G1, a1, cs1, w1, k1, k2, k3, k4, k5⟩ := ha
     rw [hrnd0.2] at k4
     obtain ⟨hrec1, hcs1⟩ := csStep_no k4
     subst hcs1
     have hl1 := k1.obj _ _ hl
     split at h
     ·rename_i al1 hget1
      obtain ⟨b1', p1, p2, p3, rec1, p4, t1, t2, t3, t4, t5, t6, t7, t8⟩ := k2.objs l _ hget1
      rw [hl1] at p1; cases p1
      split at h
      ·rename_i hready
       have hlt1 := (Array.getElem?_eq_some_iff.1 p4).1
       have I2 : InvW E B h0 G1 (S1.put l (.loop { al1 with state := .busy })) (w1.putObj bl (.loop { rec1 with state := .busy })) :=
        ⟨k2.setBlk (St.get_lt hget1) p2 p3 (by simp) ⟨bl, hl1, p2, p3, { rec1 with state := .busy }, by simp [hlt1], rfl, t2, t3, t4, t5, t6, t7, t8⟩, k2.os, k2.out⟩
       have hbegin : step P (lone (fat b a1 (.beginRound :: [.code al.body])) (c :: cs) w1) = .next (lone (fat b a1 [.code al.body]) (c :: cs) (w1.putObj bl (.loop { rec1 with state := .busy }))) := by
        have hrun := run_beginRound (P := P) p4 (by rw [t1]; exact hready)
        exact step_lone_go (by simp [stepG, stepG.exec, fat, b, stepG.apply, Sem.run_bind, hrun, Result.andThen, Frame.finish])
       split at h
       ·rename_i e L2 S2 hbody
        have hb2 := evalC_sound (n := n) (b := b) H HC hcf s8 rfl al.body hbody [] I2 (hg.mono k1.toLe0) k3
        obtain ⟨G2, a2, cs2, w2, j1, j2, j3, j4, j5⟩ := hb2
        rw [hrec1] at j4
        obtain ⟨hrec2, hcs2⟩ := csStep_no j4
        subst hcs2
        have hl2 := j1.obj _ _ hl1
        split at h
        ·rename_i al2 hdf hget2
         obtain ⟨b2', o1, o2, o3, rec2, o4, u1, u2, u3, u4, u5, u6, u7, u8⟩ := j2.objs l _ hget2
         rw [hl2] at o1; cases o1
         have hlt2 := (Array.getElem?_eq_some_iff.1 o4).1
         have hd0 : a2.defers = [] := by
          have := j3.defers
          rw [hdf] at this
          cases hh : a2.defers with
          | nil => rfl
          | cons d ds => rw [hh] at this; exact this.elim
         have pre : Steps P (lone (Frame.round bl rec.fn tm rec.assign rec.body .normal) (c :: cs) w) (lone (fat b a1 [.code al.body]) (c :: cs) (w1.putObj bl (.loop { rec1 with state := .busy }))) := by
          rw [hround]
          exact Steps.trans k5 (.one hbegin)
         cases e with
         | normal =>
          cases h
          have hend := run_endRound (P := P) none o4
          have hst : step P (lone (fat b a2 []) (c :: cs) w2) = .next (lone (c.finish (.bool true)) cs (w2.putObj bl (.loop { rec2 with state := .ready, pending := none }))) :=
           step_lone_go (by simp [stepG, stepG.exec, fat, b, doReturn, Sem.runT_eq, hend, GStep.bare_after])
          refine ⟨G2, w2.putObj bl (.loop { rec2 with state := .ready, pending := none }), k1.trans j1, ⟨j2.setBlk (y := .loop { rec2 with state := .ready, pending := none }) (o := .loop { al2 with state := .ready, pend := none }) (St.get_lt hget2) o2 o3 (by simp) ⟨bl, hl2, o2, o3, { rec2 with state := .ready, pending := none }, by simp [hlt2], rfl, rfl, u3, u4, u5, u6, u7, u8⟩, j2.os, j2.out⟩, .bool true, .bool true, (pre.trans j5).trans (.one hst)⟩
         | ret =>
          cases h
          obtain ⟨todo, j5⟩ := j5
          have hend := run_endRound (P := P) (some .ret) o4
          have hst : step P (lone (fat b a2 (.code .ret :: todo)) (c :: cs) w2) = .next (lone (c.finish (.bool false)) cs (w2.putObj bl (.loop { rec2 with state := .done, pending := some .ret }))) :=
           step_lone_go (by simp [stepG, stepG.exec, fat, b, doReturn, Sem.runT_eq, hend, GStep.bare_after])
          refine ⟨G2, w2.putObj bl (.loop { rec2 with state := .done, pending := some .ret }), k1.trans j1, ⟨j2.setBlk (y := .loop { rec2 with state := .done, pending := some .ret }) (o := .loop { al2 with state := .done, pend := some .ret }) (St.get_lt hget2) o2 o3 (by simp) ⟨bl, hl2, o2, o3, { rec2 with state := .done, pending := some .ret }, by simp [hlt2], rfl, rfl, u3, u4, u5, u6, u7, u8⟩, j2.os, j2.out⟩, .bool false, .bool false, (pre.trans j5).trans (.one hst)⟩
         | exit i =>
          cases h
          obtain ⟨todo, hex, j5⟩ := j5
          have hend := run_endRound (P := P) (some (.exit i)) o4
          have hnone : exitTo i todo = none := by rw [hex]; rfl
          have hst : step P (lone (fat b a2 (.code (.exit i) :: todo)) (c :: cs) w2) = .next (lone (c.finish (.bool false)) cs (w2.putObj bl (.loop { rec2 with state := .done, pending := some (.exit i) }))) :=
           step_lone_go (by simp [stepG, stepG.exec, fat, b, hnone, doReturn, Sem.runT_eq, hend, GStep.bare_after])
          refine ⟨G2, w2.putObj bl (.loop { rec2 with state := .done, pending := some (.exit i) }), k1.trans j1, ⟨j2.setBlk (y := .loop { rec2 with state := .done, pending := some (.exit i) }) (o := .loop { al2 with state := .done, pend := some (.exit i) }) (St.get_lt hget2) o2 o3 (by simp) ⟨bl, hl2, o2, o3, { rec2 with state := .done, pending := some (.exit i) }, by simp [hlt2], rfl, rfl, u3, u4, u5, u6, u7, u8⟩, j2.os, j2.out⟩, .bool false, .bool false, (pre.trans j5).trans (.one hst)⟩
         | pan v =>
          cases h
          obtain ⟨u, todo, hv, j5⟩ := j5
          refine ⟨G2, w2, k1.trans j1, j2, u, hv, (pre.trans j5).trans (.one (step_leave_panicked ⟨rfl, hd0, fi.fn, hP⟩))⟩
        ·cases h
       ·cases h
      ·cases h
     ·cases h
    ·cases h
  ·cases h
 ·cases h
end
theorem call_sound (HL : LibOk P E B h0) (H : EnvOk P E) : ∀ n, CallOk P E B h0 (callN E n)
 | 0 => ⟨fun f args S r S' h => by simp [callN] at h, fun l args S r S' h => by simp [callN] at h⟩
 | n + 1 => by
  have ih := call_sound HL H n
  refine ⟨fun f args S r S' h G w cargs I hg hr => ?_, fun l args S r S' h G w cargs bl I hg hl hr => ?_⟩
  ·simp only [callN] at h
   exact fn_sound HL H ih (callN_fr _ _) (df_sound H ih (callN_fr _ _)) h I hg hr
  ·simp only [callN] at h
   have := yld_sound H ih (callN_fr _ _) h I hg hl hr
   cases r <;> exact this
end Go.Vm
