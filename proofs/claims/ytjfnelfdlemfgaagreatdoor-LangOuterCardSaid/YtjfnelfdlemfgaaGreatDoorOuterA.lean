/-
The nodes of a program as a tree, and what they take from outside. No conditions.
-/
import Derived.Test.YtjfnelfdlemfgaaGreatDoorFreeE
set_option linter.all false
set_option maxHeartbeats 4000000
namespace Go.Vm.L
open Go Go.Proofs Go.Vm
set_option maxRecDepth 100000
attribute [local simp] inFrame startLoc startVals Loc.clear blockC Loc.putO Loc.put idx evO constV Loc.get Vm.look intA unwindA resultsA resultV actA pureA storeA loadA fillE repElems TI.zeroV fieldOf fieldAddrA fieldA elemsA retE cellsOf? setCells nowhere mapHead headNext
theorem withL_mem (zs : List Int) (b v : Int) : v ∈ withL zs b ↔ v ∈ zs ∨ (b ≠ -1 ∧ v = b) := by
 unfold withL
 split
 ·rename_i h
  simp [h]
 ·rename_i h
  simp [h]
mutual
theorem occ_mem : ∀ (e : Ex) (zs : List Int) (v : Int), v ∈ e.occ zs ↔ v ∈ e.occ [] ∧ v ∉ zs
 | .leaf o n m z, zs, v => by
  simp only [Ex.occ]
  by_cases ho : o = 0
  ·cases hc : zs.contains n with
   | true =>
    have hn : n ∈ zs := List.contains_iff_mem.1 hc
    rw [if_neg (by simp), if_pos ⟨ho, rfl⟩]
    constructor
    ·intro h; simp at h
    ·rintro ⟨h1, h2⟩
     simp only [List.mem_singleton] at h1
     subst h1
     exact absurd hn h2
   | false =>
    have hn : n ∉ zs := fun h => by
     rw [List.contains_iff_mem.2 h] at hc
     cases hc
    rw [if_pos ⟨ho, rfl⟩, if_pos ⟨ho, rfl⟩]
    simp only [List.mem_singleton]
    constructor
    ·rintro rfl
     exact ⟨rfl, hn⟩
    ·exact fun h => h.1
  ·rw [if_neg (fun q => ho q.1), if_neg (fun q => ho q.1)]
   simp
 | .node o n m x l, zs, v => by
  simp only [Ex.occ, List.mem_append]
  have h1 := occ_mem x (withL zs (binderI o n m (0 : Nat))) v
  have h2 := occ_mem x (withL [] (binderI o n m (0 : Nat))) v
  have h3 := occs_mem o n m l 1 zs v
  have hd : v ∈ (if o = 0 ∧ zs.contains n = false then [n] else []) ↔ v ∈ (if o = 0 ∧ ([] : List Int).contains n = false then [n] else []) ∧ v ∉ zs := by
   by_cases ho : o = 0
   ·cases hc : zs.contains n with
    | true =>
     have hn : n ∈ zs := List.contains_iff_mem.1 hc
     rw [if_neg (by simp), if_pos ⟨ho, rfl⟩]
     constructor
     ·intro h; simp at h
     ·rintro ⟨h7, h8⟩
      simp only [List.mem_singleton] at h7
      rw [h7] at h8
      exact absurd hn h8
    | false =>
     have hn : n ∉ zs := fun h => by
      rw [List.contains_iff_mem.2 h] at hc
      cases hc
     rw [if_pos ⟨ho, rfl⟩, if_pos ⟨ho, rfl⟩]
     simp only [List.mem_singleton]
     constructor
     ·rintro rfl
      exact ⟨rfl, hn⟩
     ·exact fun h => h.1
   ·rw [if_neg (fun q => ho q.1), if_neg (fun q => ho q.1)]
    simp
  rw [h1, h2, h3, hd, withL_mem, withL_mem]
  constructor
  ·rintro (⟨a, b⟩ | ⟨a, b⟩ | ⟨a, b⟩)
   ·exact ⟨.inl a, b⟩
   ·exact ⟨.inr (.inl ⟨a, fun q => b (q.elim (fun q => absurd q (by simp)) .inr)⟩), fun q => b (.inl q)⟩
   ·exact ⟨.inr (.inr a), b⟩
  ·rintro ⟨a | ⟨a, b⟩ | a, c⟩
   ·exact .inl ⟨a, c⟩
   ·exact .inr (.inl ⟨a, fun q => q.elim c (fun q => b (.inr q))⟩)
   ·exact .inr (.inr ⟨a, c⟩)
theorem occs_mem (o n m : Int) : ∀ (l : List Ex) (i : Nat) (zs : List Int) (v : Int), v ∈ Ex.occs o n m l i zs ↔ v ∈ Ex.occs o n m l i [] ∧ v ∉ zs
 | [], i, zs, v => by simp [Ex.occs]
 | x :: l, i, zs, v => by
  simp only [Ex.occs, List.mem_append]
  have h1 := occ_mem x (withL zs (binderI o n m (i : Nat))) v
  have h2 := occ_mem x (withL [] (binderI o n m (i : Nat))) v
  have h3 := occs_mem o n m l (i + 1) zs v
  rw [h1, h2, h3, withL_mem, withL_mem]
  constructor
  ·rintro (⟨a, b⟩ | ⟨a, b⟩)
   ·exact ⟨.inl ⟨a, fun q => b (q.elim (fun q => absurd q (by simp)) .inr)⟩, fun q => b (.inl q)⟩
   ·exact ⟨.inr a, b⟩
  ·rintro ⟨⟨a, b⟩ | a, c⟩
   ·exact .inl ⟨a, fun q => q.elim c (fun q => b (.inr q))⟩
   ·exact .inr ⟨a, c⟩
end
mutual
theorem occ_var : ∀ (e : Ex) (zs : List Int) (v : Int), e.fvOk → v ∈ e.occ zs → isVarB v = true
 | .leaf o n m z, zs, v, h, hv => by
  simp only [Ex.occ] at hv
  split at hv
  ·rename_i hc
   simp only [List.mem_singleton] at hv
   subst hv
   exact h.2.1 hc.1
  ·simp at hv
 | .node o n m x l, zs, v, h, hv => by
  simp only [Ex.occ, List.mem_append] at hv
  rcases hv with hv | hv | hv
  ·split at hv
   ·rename_i hc
    simp only [List.mem_singleton] at hv
    subst hv
    exact h.1.2.1 hc.1
   ·simp at hv
  ·exact occ_var x _ v h.2.1 hv
  ·exact occs_var o n m l 1 zs v h.2.2 hv
theorem occs_var (o n m : Int) : ∀ (l : List Ex) (i : Nat) (zs : List Int) (v : Int), Ex.fvOks l → v ∈ Ex.occs o n m l i zs → isVarB v = true
 | [], i, zs, v, _, hv => by simp [Ex.occs] at hv
 | x :: l, i, zs, v, h, hv => by
  simp only [Ex.occs, List.mem_append] at hv
  rcases hv with hv | hv
  ·exact occ_var x _ v h.1 hv
  ·exact occs_var o n m l (i + 1) zs v h.2 hv
end
/-- what parts take -/
theorem occs_parts (o n m : Int) : ∀ (l : List Ex) (i : Nat) (v : Int), v ∈ Ex.occs o n m l i [] ↔ ∃ (j : Nat) (c : Ex), l[j]? = some c ∧ v ∈ c.occ [] ∧ v ∉ withL [] (binderI o n m ((i + j : Nat) : Int))
 | [], i, v => by simp [Ex.occs]
 | x :: l, i, v => by
  simp only [Ex.occs, List.mem_append]
  rw [occ_mem, occs_parts o n m l (i + 1) v]
  constructor
  ·rintro (h | ⟨j, c, h1, h2, h3⟩)
   ·exact ⟨0, x, rfl, h.1, by rw [Nat.add_zero]; exact h.2⟩
   ·exact ⟨j + 1, c, by rw [List.getElem?_cons_succ]; exact h1, h2, by rw [show i + (j + 1) = i + 1 + j by omega]; exact h3⟩
  ·rintro ⟨j, c, h1, h2, h3⟩
   cases j with
   | zero =>
    rw [List.getElem?_cons_zero] at h1
    cases h1
    exact .inl ⟨h2, by rw [Nat.add_zero] at h3; exact h3⟩
   | succ j =>
    rw [List.getElem?_cons_succ] at h1
    exact .inr ⟨j, c, h1, h2, by rw [show i + 1 + j = i + (j + 1) by omega]; exact h3⟩
/-- what a node takes -/
theorem occ_parts {e : Ex} (hok : e.fvOk) (v : Int) : v ∈ e.occ [] ↔ (e.op = 0 ∧ v = e.num) ∨ ∃ (j : Nat) (c : Ex), e.kids[j]? = some c ∧ v ∈ c.occ [] ∧ v ≠ binderI e.op e.num e.mun (j : Nat) := by
 rw [e.occ_kids, List.mem_append, occs_parts]
 have h0 : v ∈ (if e.op = 0 ∧ ([] : List Int).contains e.num = false then [e.num] else []) ↔ e.op = 0 ∧ v = e.num := by
  split
  ·rename_i h
   simp [h.1]
  ·rename_i h
   have : ¬ e.op = 0 := fun q => h ⟨q, rfl⟩
   simp [this]
 rw [h0]
 have hk : ∀ (j : Nat) (c : Ex), e.kids[j]? = some c → v ∈ c.occ [] → (v ∉ withL [] (binderI e.op e.num e.mun ((0 + j : Nat) : Int)) ↔ v ≠ binderI e.op e.num e.mun (j : Nat)) := fun j c h1 h2 => by
  have hv := occ_var c [] v (Ex.fvOks_mem ((Ex.fvOk_kids e).1 hok).2 (List.mem_of_getElem? h1)) h2
  have hv' := var_ne hv
  rw [Nat.zero_add, withL_mem]
  constructor
  ·intro q q2
   exact q (.inr ⟨fun q3 => hv' (q2.trans q3), q2⟩)
  ·rintro q (q2 | ⟨_, q2⟩)
   ·simp at q2
   ·exact q q2
 constructor
 ·rintro (h | ⟨j, c, h1, h2, h3⟩)
  ·exact .inl h
  ·exact .inr ⟨j, c, h1, h2, (hk j c h1 h2).1 h3⟩
 ·rintro (h | ⟨j, c, h1, h2, h3⟩)
  ·exact .inl h
  ·exact .inr ⟨j, c, h1, h2, (hk j c h1 h2).2 h3⟩
/-! a body takes at most the parameter -/
mutual
theorem occ_shp (k : Nat) : ∀ (e : Ex) (d : Nat) (zs : List Int), e.shp k zs d = true → e.occ zs = []
 | .leaf o n m z, d, zs, h => by
  simp only [Ex.shp, headB, numbersB, Bool.and_eq_true] at h
  simp only [Ex.occ]
  split
  ·rename_i hc
   have h2 := h.2
   rw [if_pos hc.1, hc.2] at h2
   cases h2
  ·rfl
 | .node o n m x l, d, zs, h => by
  simp only [Ex.shp, Bool.and_eq_true] at h
  simp only [Ex.occ]
  rw [occ_shp k x _ _ h.2.1, occs_shp k o n m l 1 zs _ h.2.2]
  split
  ·rename_i hc
   have h1 := h.1
   simp only [headB, numbersB, Bool.and_eq_true] at h1
   have h2 := h1.2
   rw [if_pos hc.1, hc.2] at h2
   cases h2
  ·rfl
theorem occs_shp (k : Nat) (o n m : Int) : ∀ (l : List Ex) (i : Nat) (zs : List Int) (d : Nat), Ex.shps k o n m l i zs d = true → Ex.occs o n m l i zs = []
 | [], _, _, _, _ => rfl
 | x :: l, i, zs, d, h => by
  simp only [Ex.shps, Bool.and_eq_true] at h
  simp only [Ex.occs]
  rw [occ_shp k x _ _ h.1, occs_shp k o n m l (i + 1) zs d h.2]
  rfl
end
theorem body_par {fs : List Fu} {main : Int} (h : formedB fs main = true) : ∀ f ∈ fs, ∀ v ∈ f.body.occ [], v = f.par := by
 intro f hf v hv
 rw [formed_same] at h
 simp only [Bool.and_eq_true] at h
 have h2 := List.all_eq_true.1 h.2 f hf
 simp only [okB, Bool.and_eq_true] at h2
 have h3 := occ_shp fs.length f.body 40 [f.par] h2.1
 have h4 := occ_mem f.body [f.par] v
 rw [h3] at h4
 apply Classical.byContradiction
 intro hne
 have := h4.2 ⟨hv, by simpa using hne⟩
 simp at this
theorem up_one {L : List Int} {a : Int} (hu : Up L) (h : ∀ v ∈ L, v = a) : L = [] ∨ L = [a] := by
 cases L with
 | nil => exact .inl rfl
 | cons b r =>
  have hb := h b (by simp)
  subst hb
  cases r with
  | nil => exact .inr rfl
  | cons c r =>
   have h1 := (List.pairwise_cons.1 hu).1 c (by simp)
   have h2 := h c (by simp)
   omega
theorem zip_get {α : Type} {l : List α} {x : α} {i : Nat} : (x, i) ∈ l.zipIdx 0 ↔ l[i]? = some x := by
 rw [List.mem_zipIdx_iff_getElem?]
theorem zip_lo {α : Type} {l : List α} {x : α} {i k : Nat} (h : (x, i) ∈ l.zipIdx k) : k ≤ i ∧ i < k + l.length := ⟨(List.mem_zipIdx h).1, (List.mem_zipIdx h).2.1⟩
/-- a part of a node, at its place -/
def kidAt (y z : Nd × Ex) : Prop := ∃ p : Nat, y.2.kids[p]? = some z.2 ∧ z.1.place = (p : Int)
structure Tree (e : Ex) : Prop where
 r : ∀ (f : Int) (m : Nat) (at_ : Nd) z b, (z, b) ∈ (e.pre f (m : Nat) at_).zipIdx m → (z = (at_, e) ∧ b = m) ∨ ((m : Int) ≤ z.1.up ∧ z.1.up < (m : Int) + e.size ∧ m < b)
 a : ∀ (f : Int) (m : Nat) (at_ : Nd) y a z b, (y, a) ∈ (e.pre f (m : Nat) at_).zipIdx m → (z, b) ∈ (e.pre f (m : Nat) at_).zipIdx m → b ≠ m → z.1.up = (a : Nat) → kidAt y z
 b : ∀ (f : Int) (m : Nat) (at_ : Nd) y a (p : Nat) c, (y, a) ∈ (e.pre f (m : Nat) at_).zipIdx m → y.2.kids[p]? = some c → ∃ z b, (z, b) ∈ (e.pre f (m : Nat) at_).zipIdx m ∧ b ≠ m ∧ z.1.up = (a : Nat) ∧ z.1.place = (p : Int) ∧ z.2 = c
structure Sibs (l : List Ex) : Prop where
 r : ∀ (f : Int) (m own i : Nat) z b, own < m → (z, b) ∈ (Ex.pres f l (m : Nat) (own : Nat) (i : Nat)).zipIdx m → (∃ k : Nat, l[k]? = some z.2 ∧ z.1.up = (own : Nat) ∧ z.1.place = ((i + k : Nat) : Int)) ∨ ((m : Int) ≤ z.1.up ∧ z.1.up < (m : Int) + Ex.sizes l)
 a : ∀ (f : Int) (m own i : Nat) y a z b, own < m → (y, a) ∈ (Ex.pres f l (m : Nat) (own : Nat) (i : Nat)).zipIdx m → (z, b) ∈ (Ex.pres f l (m : Nat) (own : Nat) (i : Nat)).zipIdx m → z.1.up = (a : Nat) → kidAt y z
 b0 : ∀ (f : Int) (m own i : Nat) (k : Nat) c, l[k]? = some c → ∃ z b, (z, b) ∈ (Ex.pres f l (m : Nat) (own : Nat) (i : Nat)).zipIdx m ∧ z.1.up = (own : Nat) ∧ z.1.place = ((i + k : Nat) : Int) ∧ z.2 = c
 b : ∀ (f : Int) (m own i : Nat) y a (p : Nat) c, (y, a) ∈ (Ex.pres f l (m : Nat) (own : Nat) (i : Nat)).zipIdx m → y.2.kids[p]? = some c → ∃ z b, (z, b) ∈ (Ex.pres f l (m : Nat) (own : Nat) (i : Nat)).zipIdx m ∧ z.1.up = (a : Nat) ∧ z.1.place = (p : Int) ∧ z.2 = c
theorem pres_zip (f : Int) (x : Ex) (l : List Ex) (m own i : Nat) : (Ex.pres f (x :: l) (m : Nat) (own : Nat) (i : Nat)).zipIdx m = (x.pre f (m : Nat) ⟨f, (own : Nat), (i : Nat), x.op⟩).zipIdx m ++ (Ex.pres f l ((m + x.size : Nat) : Int) (own : Nat) ((i + 1 : Nat) : Int)).zipIdx (m + x.size) := by
 simp only [Ex.pres]
 rw [List.zipIdx_append, Ex.pre_length]
 rfl
theorem root_in (f : Int) (x : Ex) (m : Nat) (at_ : Nd) : ((at_, x), m) ∈ (x.pre f (m : Nat) at_).zipIdx m := by
 rw [x.pre_kids, List.zipIdx_cons]
 exact List.mem_cons_self ..
theorem sibs_of : ∀ (l : List Ex), (∀ x ∈ l, Tree x) → Sibs l
 | [], _ => ⟨fun _ _ _ _ _ _ _ h => by simp [Ex.pres] at h, fun _ _ _ _ _ _ _ _ _ h => by simp [Ex.pres] at h, fun _ _ _ _ _ _ h => by simp at h, fun _ _ _ _ _ _ _ _ h => by simp [Ex.pres] at h⟩
 | x :: l, h => by
  have T := h x (by simp)
  have S := sibs_of l fun y hy => h y (by simp [hy])
  refine ⟨fun f m own i z b ho hz => ?_, fun f m own i y a z b ho hy hz hu => ?_, fun f m own i k c hk => ?_, fun f m own i y a p c hy hk => ?_⟩
  ·rw [pres_zip, List.mem_append] at hz
   simp only [Ex.sizes]
   rcases hz with hz | hz
   ·rcases T.r _ _ _ _ _ hz with ⟨rfl, _⟩ | ⟨h1, h2, _⟩
    ·exact .inl ⟨0, rfl, rfl, rfl⟩
    ·exact .inr ⟨h1, by omega⟩
   ·rcases S.r _ _ _ _ _ _ (by omega) hz with ⟨k, h1, h2, h3⟩ | ⟨h1, h2⟩
    ·exact .inl ⟨k + 1, h1, h2, by rw [h3]; omega⟩
    ·exact .inr ⟨by omega, by omega⟩
  ·rw [pres_zip, List.mem_append] at hy hz
   rcases hy with hy | hy
   ·have ha := zip_lo hy
    rw [Ex.pre_length] at ha
    rcases hz with hz | hz
    ·by_cases hb : b = m
     ·rcases T.r _ _ _ _ _ hz with ⟨rfl, _⟩ | ⟨_, _, h3⟩
      ·simp only at hu
       omega
      ·omega
     ·exact T.a _ _ _ _ _ _ _ hy hz hb hu
    ·rcases S.r _ _ _ _ _ _ (by omega) hz with ⟨k, h1, h2, h3⟩ | ⟨h1, h2⟩ <;> omega
   ·have ha := zip_lo hy
    rcases hz with hz | hz
    ·rcases T.r _ _ _ _ _ hz with ⟨rfl, _⟩ | ⟨_, h2, h3⟩
     ·simp only at hu
      omega
     ·omega
    ·exact S.a _ _ _ _ _ _ _ _ (by omega) hy hz hu
  ·rw [pres_zip]
   cases k with
   | zero =>
    rw [List.getElem?_cons_zero] at hk
    cases hk
    exact ⟨_, m, List.mem_append_left _ (root_in f x m ⟨f, (own : Nat), (i : Nat), x.op⟩), rfl, rfl, rfl⟩
   | succ k =>
    rw [List.getElem?_cons_succ] at hk
    obtain ⟨z, b, h1, h2, h3, h4⟩ := S.b0 f (m + x.size) own (i + 1) k c hk
    exact ⟨z, b, List.mem_append_right _ h1, h2, by rw [h3]; omega, h4⟩
  ·rw [pres_zip, List.mem_append] at hy
   rw [pres_zip]
   rcases hy with hy | hy
   ·obtain ⟨z, b, h1, h2, h3, h4, h5⟩ := T.b _ _ _ _ _ _ _ hy hk
    exact ⟨z, b, List.mem_append_left _ h1, h3, h4, h5⟩
   ·obtain ⟨z, b, h1, h3, h4, h5⟩ := S.b _ _ _ _ _ _ _ _ hy hk
    exact ⟨z, b, List.mem_append_right _ h1, h3, h4, h5⟩
theorem tree_of : ∀ (d : Nat) (e : Ex), e.deep ≤ d → Tree e := by
 intro d
 induction d with
 | zero => intro e hd; have := e.deep_pos; omega
 | succ d ih =>
  intro e hd
  have S := sibs_of e.kids fun x hx => ih x (by have := Ex.deep_kid hx; omega)
  have hz : ∀ (f : Int) (m : Nat) (at_ : Nd), (e.pre f (m : Nat) at_).zipIdx m = ((at_, e), m) :: (Ex.pres f e.kids ((m + 1 : Nat) : Int) (m : Nat) ((0 : Nat) : Int)).zipIdx (m + 1) := fun f m at_ => by
   rw [e.pre_kids, List.zipIdx_cons]
   rfl
  have hsz := e.size_kids
  refine ⟨fun f m at_ z b h => ?_, fun f m at_ y a z b hy hzz hb hu => ?_, fun f m at_ y a p c hy hk => ?_⟩
  ·rw [hz, List.mem_cons] at h
   rcases h with h | h
   ·cases h
    exact .inl ⟨rfl, rfl⟩
   ·have hb := zip_lo h
    rcases S.r _ _ _ _ _ _ (by omega) h with ⟨k, h1, h2, h3⟩ | ⟨h1, h2⟩
    ·exact .inr ⟨by omega, by omega, by omega⟩
    ·exact .inr ⟨by omega, by omega, by omega⟩
  ·rw [hz, List.mem_cons] at hy hzz
   rcases hzz with h | hzz
   ·cases h
    exact absurd rfl hb
   ·rcases hy with h | hy
    ·cases h
     rcases S.r _ _ _ _ _ _ (by omega) hzz with ⟨k, h1, h2, h3⟩ | ⟨h1, h2⟩
     ·exact ⟨k, h1, by rw [h3, Nat.zero_add]⟩
     ·omega
    ·exact S.a _ _ _ _ _ _ _ _ (by omega) hy hzz hu
  ·rw [hz, List.mem_cons] at hy
   rw [hz]
   rcases hy with h | hy
   ·cases h
    obtain ⟨z, b, h1, h2, h3, h4⟩ := S.b0 f (m + 1) m 0 p c hk
    exact ⟨z, b, List.mem_cons_of_mem _ h1, by have := zip_lo h1; omega, h2, by rw [h3, Nat.zero_add], h4⟩
   ·obtain ⟨z, b, h1, h2, h3, h4⟩ := S.b _ _ _ _ _ _ _ _ hy hk
    exact ⟨z, b, List.mem_cons_of_mem _ h1, by have := zip_lo h1; omega, h2, h3, h4⟩
/-! all functions -/
structure Trees (fs : List Fu) : Prop where
 r : ∀ (m i : Nat) z b, (z, b) ∈ (allPre fs (m : Nat) (i : Nat)).zipIdx m → (z.1.up = -1 ∧ ∃ (k : Nat) (f : Fu), fs[k]? = some f ∧ z.1.fn = ((i + k : Nat) : Int) ∧ z.2 = f.body) ∨ ((m : Int) ≤ z.1.up ∧ z.1.up < (m : Int) + allSize fs)
 a : ∀ (m i : Nat) y a z b, (y, a) ∈ (allPre fs (m : Nat) (i : Nat)).zipIdx m → (z, b) ∈ (allPre fs (m : Nat) (i : Nat)).zipIdx m → z.1.up = (a : Nat) → kidAt y z
 b : ∀ (m i : Nat) y a (p : Nat) c, (y, a) ∈ (allPre fs (m : Nat) (i : Nat)).zipIdx m → y.2.kids[p]? = some c → ∃ z b, (z, b) ∈ (allPre fs (m : Nat) (i : Nat)).zipIdx m ∧ z.1.up = (a : Nat) ∧ z.1.place = (p : Int) ∧ z.2 = c
theorem all_zip (f : Fu) (r : List Fu) (m i : Nat) : (allPre (f :: r) (m : Nat) (i : Nat)).zipIdx m = (f.body.pre (i : Nat) (m : Nat) ⟨(i : Nat), -1, 0, f.body.op⟩).zipIdx m ++ (allPre r ((m + f.body.size : Nat) : Int) ((i + 1 : Nat) : Int)).zipIdx (m + f.body.size) := by
 simp only [allPre]
 rw [List.zipIdx_append, Ex.pre_length]
 rfl
theorem trees_of : ∀ fs : List Fu, Trees fs
 | [] => ⟨fun _ _ _ _ h => by simp [allPre] at h, fun _ _ _ _ _ _ h => by simp [allPre] at h, fun _ _ _ _ _ _ h => by simp [allPre] at h⟩
 | f :: r => by
  have T := tree_of f.body.deep f.body (Nat.le_refl _)
  have S := trees_of r
  refine ⟨fun m i z b hz => ?_, fun m i y a z b hy hz hu => ?_, fun m i y a p c hy hk => ?_⟩
  ·rw [all_zip, List.mem_append] at hz
   simp only [allSize]
   rcases hz with hz | hz
   ·rcases T.r _ _ _ _ _ hz with ⟨rfl, _⟩ | ⟨h1, h2, _⟩
    ·exact .inl ⟨rfl, 0, f, rfl, rfl, rfl⟩
    ·exact .inr ⟨h1, by omega⟩
   ·rcases S.r _ _ _ _ hz with ⟨h0, k, g, h1, h2, h3⟩ | ⟨h1, h2⟩
    ·exact .inl ⟨h0, k + 1, g, h1, by rw [h2]; omega, h3⟩
    ·exact .inr ⟨by omega, by omega⟩
  ·rw [all_zip, List.mem_append] at hy hz
   rcases hy with hy | hy
   ·have ha := zip_lo hy
    rw [Ex.pre_length] at ha
    rcases hz with hz | hz
    ·by_cases hb : b = m
     ·rcases T.r _ _ _ _ _ hz with ⟨rfl, _⟩ | ⟨_, _, h3⟩
      ·simp only at hu
       omega
      ·omega
     ·exact T.a _ _ _ _ _ _ _ hy hz hb hu
    ·rcases S.r _ _ _ _ hz with ⟨h0, _⟩ | ⟨h1, h2⟩ <;> omega
   ·have ha := zip_lo hy
    rcases hz with hz | hz
    ·rcases T.r _ _ _ _ _ hz with ⟨rfl, _⟩ | ⟨_, h2, h3⟩
     ·simp only at hu
      omega
     ·omega
    ·exact S.a _ _ _ _ _ _ hy hz hu
  ·rw [all_zip, List.mem_append] at hy
   rw [all_zip]
   rcases hy with hy | hy
   ·obtain ⟨z, b, h1, h2, h3, h4, h5⟩ := T.b _ _ _ _ _ _ _ hy hk
    exact ⟨z, b, List.mem_append_left _ h1, h3, h4, h5⟩
   ·obtain ⟨z, b, h1, h3, h4, h5⟩ := S.b _ _ _ _ _ _ hy hk
    exact ⟨z, b, List.mem_append_right _ h1, h3, h4, h5⟩
theorem nodes_kids {fs : List Fu} {n : Nat} {x : Nd × Ex} (hx : (allPre fs 0 0)[n]? = some x) :
  (∀ (i : Nat) z, (allPre fs 0 0)[i]? = some z → z.1.up = (n : Nat) → kidAt x z) ∧ (∀ (p : Nat) c, x.2.kids[p]? = some c → ∃ (i : Nat) (z : Nd × Ex), (allPre fs 0 0)[i]? = some z ∧ z.1.up = (n : Nat) ∧ z.1.place = (p : Int) ∧ z.2 = c) := by
 have T := trees_of fs
 have ta := T.a 0 0
 have tb := T.b 0 0
 refine ⟨fun i z hz hu => ta x n z i (zip_get.2 hx) (zip_get.2 hz) hu, fun p c hk => ?_⟩
 obtain ⟨z, b, h1, h2⟩ := tb x n p c (zip_get.2 hx) hk
 exact ⟨b, z, zip_get.1 h1, h2⟩
theorem nodes_root {fs : List Fu} {n : Nat} {x : Nd × Ex} (hx : (allPre fs 0 0)[n]? = some x) (hu : x.1.up < 0) : ∃ (k : Nat) (f : Fu), fs[k]? = some f ∧ x.1.fn = (k : Nat) ∧ x.2 = f.body := by
 have tr := (trees_of fs).r 0 0 x n (zip_get.2 hx)
 rcases tr with ⟨_, k, f, h1, h2, h3⟩ | ⟨h1, _⟩
 ·exact ⟨k, f, h1, by rw [h2, Nat.zero_add], h3⟩
 ·omega
/-- marks of variables -/
def wl (W : Nat → Bool) : List AV := (List.range 400).map fun v => .bool (W v)
theorem wl_len (W : Nat → Bool) : (wl W).length = 400 := by simp [wl]
theorem wl_get {W : Nat → Bool} {j : Nat} (h : j < 400) : (wl W)[j]? = some (.bool (W j)) := by
 unfold wl
 rw [List.getElem?_map, List.getElem?_range h]
 rfl
theorem setCells1 {α : Type} (cs : List α) (j : Nat) (b : α) (h : j < cs.length) : Vm.setCells cs j [b] = cs.set j b := by
 have e : cs = cs.take j ++ [cs[j]] ++ cs.drop (j + 1) := by
  rw [List.append_assoc, List.singleton_append, ← List.drop_eq_getElem_cons h, List.take_append_drop]
 have hl : (cs.take j).length = j := by rw [List.length_take]; omega
 have := setCells_app [b] (xs := cs.take j) (ys := [cs[j]]) (zs := cs.drop (j + 1)) rfl
 rw [hl, ← e] at this
 rw [this, List.set_eq_take_append_cons_drop, if_pos h, List.append_assoc]
 rfl
theorem wl_set {W : Nat → Bool} {j : Nat} (h : j < 400) (b : Bool) : Vm.setCells (wl W) j [.bool b] = wl fun v => if v = j then b else W v := by
 rw [setCells1 _ _ _ (by rw [wl_len]; exact h)]
 refine List.ext_getElem? fun i => ?_
 rw [List.getElem?_set]
 by_cases hi : i < 400
 ·have hr := wl_get (W := fun v => if v = j then b else W v) hi
  rw [hr]
  by_cases hj : j = i
  ·subst hj
   rw [if_pos rfl, if_pos (by rw [wl_len]; exact h), if_pos rfl]
  ·rw [if_neg hj, if_neg (fun e => hj e.symm), wl_get hi]
 ·have h1 : (wl W)[i]? = none := List.getElem?_eq_none (by rw [wl_len]; omega)
  have h2 : (wl fun v => if v = j then b else W v)[i]? = none := List.getElem?_eq_none (by rw [wl_len]; omega)
  rw [if_neg (by omega), h1, h2]
theorem wl_cells (W : Nat → Bool) : (wl W).all (·.isCell) = true := by
 unfold wl
 rw [List.all_eq_true]
 intro x hx
 obtain ⟨v, _, rfl⟩ := List.mem_map.1 hx
 rfl
theorem wl_flat (W : Nat → Bool) : (wl W).flatMap AV.cells = wl W := flat_cells (wl_cells W)
/-- the first marks -/
def w0 (o n : Int) : Nat → Bool := if o = 0 then fun k => decide (k = n.toNat) else fun _ => false
/-- marks of what one part takes -/
def addV (b : Int) (W : Nat → Bool) (v : Int) : Nat → Bool := fun k => if k = v.toNat then W k || decide (v ≠ b) else W k
def addY (x : Ex) (n : Int) (W : Nat → Bool) (y : Nd × Ex) : Nat → Bool := if y.1.up = n then (insFs [] (y.2.occ [])).foldl (addV (binderI x.op x.num x.mun y.1.place)) W else W
theorem addV_all (b : Int) : ∀ (P : List Int) (W : Nat → Bool) (k : Nat), (∀ v ∈ P, 0 ≤ v) → ((P.foldl (addV b) W) k = true ↔ W k = true ∨ ((k : Int) ∈ P ∧ (k : Int) ≠ b))
 | [], W, k, _ => by simp
 | v :: P, W, k, h => by
  rw [List.foldl_cons, addV_all b P _ k fun u hu => h u (by simp [hu])]
  have hv := h v (by simp)
  unfold addV
  by_cases hk : k = v.toNat
  ·have hkv : (k : Int) = v := by omega
   rw [if_pos hk]
   simp only [Bool.or_eq_true, decide_eq_true_eq, List.mem_cons]
   constructor
   ·rintro ((h | h) | h)
    ·exact .inl h
    ·exact .inr ⟨.inl hkv, by rw [hkv]; exact h⟩
    ·exact .inr ⟨.inr h.1, h.2⟩
   ·rintro (h | ⟨_, h⟩)
    ·exact .inl (.inl h)
    ·exact .inl (.inr (by rw [← hkv]; exact h))
  ·have hkv : ¬ (k : Int) = v := by omega
   rw [if_neg hk]
   simp only [List.mem_cons, hkv, false_or]
theorem addY_all (x : Ex) (n : Int) : ∀ (R : List (Nd × Ex)) (W : Nat → Bool) (k : Nat), (∀ y ∈ R, ∀ v ∈ y.2.occ [], 0 ≤ v) → ((R.foldl (addY x n) W) k = true ↔ W k = true ∨ ∃ y ∈ R, y.1.up = n ∧ (k : Int) ∈ y.2.occ [] ∧ (k : Int) ≠ binderI x.op x.num x.mun y.1.place)
 | [], W, k, _ => by simp
 | y :: R, W, k, h => by
  rw [List.foldl_cons, addY_all x n R _ k fun u hu => h u (by simp [hu])]
  unfold addY
  split
  ·rename_i hu
   rw [addV_all _ _ _ _ fun v hv => h y (by simp) v (by
    rcases (insFs_mem _ _ _).1 hv with q | q
    ·simp at q
    ·exact q)]
   have hm : (k : Int) ∈ insFs [] (y.2.occ []) ↔ (k : Int) ∈ y.2.occ [] := by rw [insFs_mem]; simp
   rw [hm]
   simp only [List.mem_cons, exists_eq_or_imp]
   constructor
   ·rintro ((h | h) | h)
    ·exact .inl h
    ·exact .inr (.inl ⟨hu, h⟩)
    ·exact .inr (.inr h)
   ·rintro (h | h | h)
    ·exact .inl (.inl h)
    ·exact .inl (.inr h.2)
    ·exact .inr h
  ·rename_i hu
   simp only [List.mem_cons, exists_eq_or_imp]
   constructor
   ·rintro (h | h)
    ·exact .inl h
    ·exact .inr (.inr h)
   ·rintro (h | h | h)
    ·exact .inl h
    ·exact absurd h.1 hu
    ·exact .inr h
/-- all that is marked is what the node takes -/
theorem marks {fs : List Fu} {main : Int} (hF : formedB fs main = true) {n : Nat} {x : Nd × Ex} (hx : (allPre fs 0 0)[n]? = some x) (hok : ∀ y ∈ allPre fs 0 0, y.2.fvOk) (k : Nat) :
  ((allPre fs 0 0).foldl (addY x.2 (n : Nat)) (w0 x.2.op x.2.num)) k = true ↔ (k : Int) ∈ x.2.occ [] := by
 have hpos : ∀ y ∈ allPre fs 0 0, ∀ v ∈ y.2.occ [], 0 ≤ v := fun y hy v hv => by
  have := occ_var y.2 [] v (hok y hy) hv
  unfold isVarB at this
  simp only [decide_eq_true_eq] at this
  exact this.1
 have hxok := hok x (List.mem_of_getElem? hx)
 rw [addY_all _ _ _ _ _ hpos, occ_parts hxok]
 obtain ⟨ka, kb⟩ := nodes_kids hx
 have h0 : w0 x.2.op x.2.num k = true ↔ x.2.op = 0 ∧ (k : Int) = x.2.num := by
  unfold w0
  by_cases ho : x.2.op = 0
  ·rw [if_pos ho]
   have hv := ((Ex.fvOk_kids x.2).1 hxok).1.2.1 ho
   unfold isVarB at hv
   simp only [decide_eq_true_eq] at hv ⊢
   constructor
   ·exact fun h => ⟨ho, by omega⟩
   ·exact fun h => by have := h.2; omega
  ·rw [if_neg ho]
   simp [ho]
 rw [h0]
 constructor
 ·rintro (h | ⟨y, hy, h1, h2, h3⟩)
  ·exact .inl h
  ·obtain ⟨i, hi⟩ := List.getElem?_of_mem hy
   obtain ⟨p, h4, h5⟩ := ka i y hi h1
   exact .inr ⟨p, y.2, h4, h2, by rw [← h5]; exact h3⟩
 ·rintro (h | ⟨j, c, h1, h2, h3⟩)
  ·exact .inl h
  ·obtain ⟨i, z, h4, h5, h6, rfl⟩ := kb j c h1
   exact .inr ⟨z, List.mem_of_getElem? h4, h5, h2, by rw [h6]; exact h3⟩
/-! lists that rise, and marks -/
def ofW (W : Nat → Bool) (k : Nat) : List Int := ((List.range k).filter W).map fun (v : Nat) => (v : Int)
theorem ofW_succ (W : Nat → Bool) (k : Nat) : ofW W (k + 1) = ofW W k ++ (if W k then [(k : Int)] else []) := by
 unfold ofW
 rw [List.range_succ, List.filter_append, List.map_append]
 cases h : W k <;> simp [h]
theorem ofW_mem (W : Nat → Bool) : ∀ (k : Nat) (v : Int), v ∈ ofW W k ↔ ∃ j : Nat, j < k ∧ W j = true ∧ v = (j : Int)
 | 0, v => by simp [ofW]
 | k + 1, v => by
  rw [ofW_succ, List.mem_append, ofW_mem W k]
  constructor
  ·rintro (⟨j, h1, h2, h3⟩ | h)
   ·exact ⟨j, by omega, h2, h3⟩
   ·split at h
    ·rename_i hw
     exact ⟨k, by omega, hw, by simpa using h⟩
    ·simp at h
  ·rintro ⟨j, h1, h2, h3⟩
   by_cases hj : j < k
   ·exact .inl ⟨j, hj, h2, h3⟩
   ·have : j = k := by omega
    subst this
    exact .inr (by rw [if_pos h2]; simp [h3])
theorem ofW_up (W : Nat → Bool) : ∀ k : Nat, Up (ofW W k)
 | 0 => by simp [ofW, Up]
 | k + 1 => by
  rw [ofW_succ]
  refine List.pairwise_append.2 ⟨ofW_up W k, ?_, fun a ha b hb => ?_⟩
  ·split
   ·exact List.pairwise_singleton _ _
   ·exact List.Pairwise.nil
  ·obtain ⟨j, h1, _, h3⟩ := (ofW_mem W k a).1 ha
   split at hb
   ·simp only [List.mem_singleton] at hb
    omega
   ·simp at hb
theorem ofW_pre (W : Nat → Bool) (k : Nat) : ∀ r : Nat, ∃ t, ofW W (k + r) = ofW W k ++ t
 | 0 => ⟨[], by simp⟩
 | r + 1 => by
  obtain ⟨t, ht⟩ := ofW_pre W k r
  exact ⟨t ++ (if W (k + r) then [((k + r : Nat) : Int)] else []), by rw [← Nat.add_assoc, ofW_succ, ht, List.append_assoc]⟩
theorem ofW_at {W : Nat → Bool} {j : Nat} (h : j < 400) (hw : W j = true) : (ofW W 400)[(ofW W j).length]? = some (j : Int) := by
 obtain ⟨t, ht⟩ := ofW_pre W (j + 1) (399 - j)
 rw [show 400 = j + 1 + (399 - j) by omega, ht, ofW_succ, if_pos hw, List.append_assoc, List.getElem?_append_right (Nat.le_refl _), Nat.sub_self]
 rfl
/-- what a node takes, by its marks -/
theorem own_eq {e : Ex} (hok : e.fvOk) {W : Nat → Bool} (hW : ∀ k : Nat, W k = true ↔ (k : Int) ∈ e.occ []) : insFs [] (e.occ []) = ofW W 400 :=
 up_eq (insFs_up _ List.Pairwise.nil) (ofW_up W 400) fun v => by
  rw [insFs_mem, ofW_mem]
  constructor
  ·rintro (h | h)
   ·simp at h
   ·have hv := occ_var e [] v hok h
    unfold isVarB at hv
    simp only [decide_eq_true_eq] at hv
    have hvn : v = ((v.toNat : Nat) : Int) := by omega
    exact ⟨v.toNat, by omega, (hW _).2 (by rw [← hvn]; exact h), hvn⟩
  ·rintro ⟨j, _, h2, rfl⟩
   exact .inr ((hW j).1 h2)
end Go.Vm.L
