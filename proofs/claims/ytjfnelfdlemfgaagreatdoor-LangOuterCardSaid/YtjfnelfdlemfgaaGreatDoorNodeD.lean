/-
Expressions of any shape. No conditions.
-/
import Derived.Test.YtjfnelfdlemfgaaGreatDoorNodeC
import Derived.Test.YtjfnelfdlemfgaaGreatDoorNodeB
set_option linter.all false
set_option maxHeartbeats 4000000
namespace Go.Vm.L
open Go Go.Proofs Go.Vm
set_option maxRecDepth 100000
attribute [local simp] inFrame startLoc startVals Loc.clear blockC Loc.putO Loc.put idx evO constV Loc.get Vm.look intA unwindA resultsA resultV actA pureA storeA loadA fillE repElems TI.zeroV fieldOf fieldAddrA fieldA elemsA retE cellsOf? setCells nowhere mapHead headNext
inductive Ex where
 | leaf (o n m : Int) (e : Bool)
 | node (o n m : Int) (x : Ex) (l : List Ex)
def Ex.op : Ex → Int
 | .leaf o _ _ _ => o
 | .node o _ _ _ _ => o
def Ex.num : Ex → Int
 | .leaf _ n _ _ => n
 | .node _ n _ _ _ => n
def Ex.mun : Ex → Int
 | .leaf _ _ m _ => m
 | .node _ _ m _ _ => m
def Ex.kids : Ex → List Ex
 | .leaf _ _ _ _ => []
 | .node _ _ _ x l => x :: l
mutual
def Ex.enc : Ex → AV
 | .leaf o n m e => .agg [.int .i64 o, .int .i64 n, .int .i64 m, if e then .slice [] .dead else .nils]
 | .node o n m x l => .agg [.int .i64 o, .int .i64 n, .int .i64 m, .slice (x.enc :: Ex.encs l) .dead]
def Ex.encs : List Ex → List AV
 | [] => []
 | a :: r => a.enc :: Ex.encs r
end
def Ex.lst : Ex → AV
 | .leaf _ _ _ e => if e then .slice [] .dead else .nils
 | .node _ _ _ x l => .slice (x.enc :: Ex.encs l) .dead
theorem Ex.look (v : Ex) : v.enc = .agg [.int .i64 v.op, .int .i64 v.num, .int .i64 v.mun, v.lst] := by cases v <;> simp only [Ex.enc, Ex.op, Ex.num, Ex.mun, Ex.lst]
theorem Ex.encs_map : ∀ l : List Ex, Ex.encs l = l.map Ex.enc
 | [] => rfl
 | a :: r => by simp [Ex.encs, Ex.encs_map r]
theorem Ex.cell (v : Ex) : v.lst.isCell = true ∧ v.lst.known = true ∧ v.lst.cells = [v.lst] := by
 cases v with
 | leaf o n m e => cases e <;> exact ⟨rfl, rfl, rfl⟩
 | node o n m x l => exact ⟨rfl, rfl, rfl⟩
@[simp] theorem Ex.enc_cells (v : Ex) : v.enc.cells.length = 4 := by rw [v.look]; rfl
theorem Ex.len (v : Ex) : lenA ED 57 v.lst = some (.int .i64 v.kids.length) := by
 cases v with
 | leaf o n m e => cases e <;> rfl
 | node o n m x l => simp [Ex.lst, Ex.kids, lenA, Ex.encs_map]
theorem Ex.index (v : Ex) {j : Nat} (h : j < v.kids.length) : indexAddrA ED 57 v.lst (.int .i64 (j : Nat)) = some (.rptr v.kids[j].enc.cells) := by
 cases v with
 | leaf o n m e => simp [Ex.kids] at h
 | node o n m x l =>
  have h' : j < (x :: l).length := h
  have e : (x.enc :: Ex.encs l)[j]? = some ((x :: l)[j]'h').enc := by
   rw [Ex.encs_map, show x.enc :: l.map Ex.enc = (x :: l).map Ex.enc from rfl, List.getElem?_map, List.getElem?_eq_getElem h']
   rfl
  show indexAddrA ED 57 (Ex.node o n m x l).lst (.int .i64 (j : Nat)) = some (.rptr ((x :: l)[j]'h').enc.cells)
  simp only [Ex.lst, indexAddrA, ED_desc57, ED_size59, Int.toNat_natCast]
  have h1 : (0 : Int) ≤ (j : Int) ∧ (j : Int) < ((x.enc :: Ex.encs l).length : Nat) := by
   simp only [Ex.encs_map, List.length_cons, List.length_map]
   simp only [List.length_cons] at h'
   omega
  rw [if_pos h1, e]
  simp
mutual
theorem Ex.pers : ∀ v : Ex, v.enc.pers = true
 | .leaf o n m e => by cases e <;> rfl
 | .node o n m x l => by simp [Ex.enc, AV.pers, AV.persL, Ex.pers x, Ex.perss l]
theorem Ex.perss : ∀ l : List Ex, AV.persL (Ex.encs l) = true
 | [] => rfl
 | a :: r => by simp [Ex.encs, AV.persL, Ex.pers a, Ex.perss r]
end
@[simp] theorem Ex.enc_dead (v : Ex) : v.enc.dead = v.enc := dead_of_pers _ (Ex.pers v)
theorem Ex.lst_pers (v : Ex) : v.lst.pers = true := by
 have := v.pers
 rw [v.look] at this
 simpa [AV.pers, AV.persL] using this
mutual
theorem Ex.inj : ∀ {v w : Ex}, v.enc = w.enc → v = w
 | .leaf k n m e, .leaf k' n' m' e', h => by
  simp only [Ex.enc, AV.agg.injEq, List.cons.injEq, AV.int.injEq, true_and, and_true] at h
  obtain ⟨h1, h2, h2', h3⟩ := h
  have : e = e' := by cases e <;> cases e' <;> first | rfl | (simp at h3)
  rw [h1, h2, h2', this]
 | .leaf k n m e, .node k' n' m' x l, h => by
  simp only [Ex.enc, AV.agg.injEq, List.cons.injEq, AV.int.injEq, true_and, and_true] at h
  have := h.2.2.2
  cases e <;> simp at this
 | .node k n m x l, .leaf k' n' m' e, h => by
  simp only [Ex.enc, AV.agg.injEq, List.cons.injEq, AV.int.injEq, true_and, and_true] at h
  have := h.2.2.2
  cases e <;> simp at this
 | .node k n m x l, .node k' n' m' x' l', h => by
  simp only [Ex.enc, AV.agg.injEq, List.cons.injEq, AV.int.injEq, true_and, and_true, AV.slice.injEq] at h
  obtain ⟨h1, h2, h2', h3, h4⟩ := h
  rw [h1, h2, h2', Ex.inj h3, Ex.injs h4]
theorem Ex.injs : ∀ {l m : List Ex}, Ex.encs l = Ex.encs m → l = m
 | [], [], _ => rfl
 | [], b :: m, h => by simp [Ex.encs] at h
 | a :: l, [], h => by simp [Ex.encs] at h
 | a :: l, b :: m, h => by
  simp only [Ex.encs, List.cons.injEq] at h
  rw [Ex.inj h.1, Ex.injs h.2]
end
mutual
def Ex.deep : Ex → Nat
 | .leaf _ _ _ _ => 1
 | .node _ _ _ x l => max x.deep (Ex.deeps l) + 1
def Ex.deeps : List Ex → Nat
 | [] => 0
 | a :: r => max a.deep (Ex.deeps r)
end
theorem Ex.deeps_mem : ∀ {l : List Ex} {x : Ex}, x ∈ l → x.deep ≤ Ex.deeps l
 | a :: l, x, h => by
  rcases List.mem_cons.1 h with rfl | h
  ·simp only [Ex.deeps]; omega
  ·have := Ex.deeps_mem h; simp only [Ex.deeps]; omega
theorem Ex.deep_kid {v x : Ex} (h : x ∈ v.kids) : x.deep < v.deep := by
 cases v with
 | leaf k n m e => simp [Ex.kids] at h
 | node k n m y l =>
  rcases List.mem_cons.1 h with rfl | h
  ·simp only [Ex.deep]; omega
  ·have := Ex.deeps_mem h; simp only [Ex.deep]; omega
theorem Ex.deep_pos (v : Ex) : 0 < v.deep := by cases v <;> simp [Ex.deep]
mutual
def Ex.fit : Ex → Prop
 | .leaf _ _ _ _ => True
 | .node _ _ _ x l => l.length + 1 ≤ maxLen ∧ x.fit ∧ Ex.fits l
def Ex.fits : List Ex → Prop
 | [] => True
 | a :: r => a.fit ∧ Ex.fits r
end
theorem Ex.fits_mem : ∀ {l : List Ex} {x : Ex}, Ex.fits l → x ∈ l → x.fit
 | a :: l, x, h, hx => by
  rcases List.mem_cons.1 hx with rfl | hx
  ·exact h.1
  ·exact Ex.fits_mem h.2 hx
theorem Ex.fit_kid {v x : Ex} (h : v.fit) (hx : x ∈ v.kids) : x.fit := by
 cases v with
 | leaf k n m e => simp [Ex.kids] at hx
 | node k n m y l =>
  rcases List.mem_cons.1 hx with rfl | hx
  ·exact h.2.1
  ·exact Ex.fits_mem h.2.2 hx
theorem Ex.fit_len {v : Ex} (h : v.fit) : v.kids.length ≤ maxLen := by
 cases v with
 | leaf k n m e => simp [Ex.kids]
 | node k n m y l => simpa [Ex.kids] using h.1
theorem drop_kid {l : List Ex} {j : Nat} (h : j < l.length) : l.drop j = l[j] :: l.drop (j + 1) := List.drop_eq_getElem_cons h
/-! what is well formed -/
/-- a node, but for what is within it -/
def Ex.check (k : Nat) (o n m : Int) (len : Nat) (left deep : Int) (vars : List Int) (go : Int → Int → Option Int) : Option Int :=
 if 1 ≤ left ∧ deep ≤ 40 ∧ 0 ≤ o ∧ o ≤ 26 then
  match formT[o.toNat]? with
  | some (parts, f, b1, b2) => if lookB k f n = true ∧ ((len : Int) = parts ∨ (parts < 0 ∧ (len : Int) ≤ 8)) ∧ (o ≠ 0 ∨ vars.contains n = true) ∧ (b2 = 0 ∨ isVarB m = true) then go b1 b2 else none
  | none => none
 else none
mutual
/-- what is left of the nodes that a body may have, if it is well formed -/
def Ex.walk (k : Nat) : Ex → Int → Int → List Int → Option Int
 | .leaf o n m _, left, deep, vars => Ex.check k o n m 0 left deep vars (fun _ _ => some (left - 1))
 | .node o n m x l, left, deep, vars => Ex.check k o n m (l.length + 1) left deep vars (fun b1 b2 =>
   match x.walk k (left - 1) (deep + 1) (boundL b1 b2 (0 : Nat) vars n m) with
   | some left => Ex.walks k l left (deep + 1) vars b1 b2 n m 1
   | none => none)
def Ex.walks (k : Nat) : List Ex → Int → Int → List Int → Int → Int → Int → Int → Nat → Option Int
 | [], left, _, _, _, _, _, _, _ => some left
 | x :: l, left, deep, vars, b1, b2, n, m, i =>
  match x.walk k left deep (boundL b1 b2 (i : Nat) vars n m) with
  | some left => Ex.walks k l left deep vars b1 b2 n m (i + 1)
  | none => none
end
theorem Ex.walk_kids (k : Nat) (v : Ex) (left deep : Int) (vars : List Int) : v.walk k left deep vars = Ex.check k v.op v.num v.mun v.kids.length left deep vars (fun b1 b2 => Ex.walks k v.kids (left - 1) (deep + 1) vars b1 b2 v.num v.mun 0) := by
 cases v with
 | leaf o n m e => simp only [Ex.walk, Ex.kids, Ex.walks, Ex.op, Ex.num, Ex.mun, List.length_nil]
 | node o n m x l => simp only [Ex.walk, Ex.kids, Ex.walks, Ex.op, Ex.num, Ex.mun, List.length_cons]
theorem formT_at {o : Nat} (h : o < 27) : ∃ parts f b1 b2, formT[o]? = some (parts, f, b1, b2) ∧ (formCells.drop (o * 4)).take 4 = [.int .i64 parts, .fn f [] [], .int .i64 b1, .int .i64 b2] ∧ f ∈ [89, 87, 149, 150, 151, 152] ∧ ED.ext f = none ∧ -1 ≤ parts ∧ parts ≤ 3 := by
 have : ∀ o, o < 27 → ((match formT[o]? with | some (parts, f, b1, b2) => AV.beqL ((formCells.drop (o * 4)).take 4) [.int .i64 parts, .fn f [] [], .int .i64 b1, .int .i64 b2] && [89, 87, 149, 150, 151, 152].contains f && decide (-1 ≤ parts ∧ parts ≤ 3) | none => false) = true) := by decide +kernel
 have h1 := this o h
 split at h1
 ·rename_i parts f b1 b2 e
  simp only [Bool.and_eq_true, decide_eq_true_eq] at h1
  obtain ⟨⟨h2, h3⟩, h4, h5⟩ := h1
  refine ⟨parts, f, b1, b2, e, AV.beqL_eq _ _ h2, List.contains_iff_mem.1 h3, ?_, h4, h5⟩
  have := List.contains_iff_mem.1 h3
  simp only [List.mem_cons, List.mem_nil_iff, or_false] at this
  rcases this with rfl | rfl | rfl | rfl | rfl | rfl <;> rfl
 ·cases h1
theorem forms_length : formCells.length = 108 := by decide +kernel
theorem forms_isCell : formCells.all AV.isCell = true := by decide +kernel
end Go.Vm.L
