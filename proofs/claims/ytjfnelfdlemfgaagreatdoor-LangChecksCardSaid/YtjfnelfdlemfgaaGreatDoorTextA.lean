/-
Programs as texts, and how long they are. No conditions.
-/
import Derived.Test.YtjfnelfdlemfgaaGreatDoorSaidB
set_option linter.all false
set_option maxHeartbeats 4000000
namespace Go.Vm.L
open Go Go.Proofs Go.Vm
set_option maxRecDepth 100000
attribute [local simp] inFrame startLoc startVals Loc.clear blockC Loc.putO Loc.put idx evO constV Loc.get Vm.look intA unwindA resultsA resultV actA pureA storeA loadA fillE repElems TI.zeroV fieldOf fieldAddrA fieldA elemsA retE cellsOf? setCells nowhere mapHead headNext
theorem dec_ne (u : Nat) : ∀ b ∈ Lib.decDigits u, b ≠ 45 := by
 induction u using Nat.strongRecOn with
 | _ u ih =>
  have h1 : ∀ v, v < 10 → UInt8.ofNat (48 + v) ≠ 45 := fun v hv e => by
   have := congrArg UInt8.toNat e
   simp at this
   omega
  intro b hb
  rw [Lib.decDigits] at hb
  split at hb
  ·rename_i h
   simp only [List.mem_singleton] at hb
   rw [hb]
   exact h1 u h
  ·rename_i h
   rw [List.mem_append, List.mem_singleton] at hb
   rcases hb with hb | hb
   ·exact ih (u / 10) (by omega) b hb
   ·rw [hb]
    exact h1 _ (by omega)
theorem index_miss : ∀ d : List UInt8, (∀ b ∈ d, b ≠ 45) → Lib.index d [45] = -1
 | [], _ => rfl
 | b :: l, h => by
  have h1 : ((45 : UInt8) = b) = False := eq_false fun e => h b (by simp) e.symm
  have h2 := index_miss l fun c hc => h c (by simp [hc])
  simp [Lib.index, h1, h2]
theorem replaceK_miss {o w s : List UInt8} (h : Lib.index s o = -1) : ∀ k, Lib.replaceK o w k s = s
 | 0 => rfl
 | k + 1 => by simp [Lib.replaceK, h]
theorem replace_miss {d : List UInt8} (h : ∀ b ∈ d, b ≠ 45) : Lib.replace d [45] [126] 1 = d := by
 unfold Lib.replace
 rw [if_neg (by decide)]
 exact replaceK_miss (index_miss d h) _
theorem replace_hit (d : List UInt8) : Lib.replace (45 :: d) [45] [126] 1 = 126 :: d := by
 have hi : Lib.index (45 :: d) [45] = 0 := by simp [Lib.index]
 have hc : 1 ≤ Lib.count (45 :: d) [45] := by
  unfold Lib.count
  rw [List.length_cons, Lib.countFrom, hi]
  simp
 have hn : Lib.replaceNum (45 :: d) [45] 1 = 1 := by
  unfold Lib.replaceNum
  rw [if_neg (by omega)]
  rfl
 unfold Lib.replace
 rw [if_neg (by decide), hn, Lib.replaceK, hi]
 rfl
def levL : List Int := [4, 4, 5, 5, 5, 1, 1, 0, 0, 3, 2, 2]
/-- the level of an operation between two operands -/
def opLev (n : Int) : Int := if 0 ≤ n then (levL[n.toNat]?).getD 0 else 0
/-- the level of an expression -/
def levI (o n : Int) : Int :=
 if o = 3 ∨ o = 4 ∨ o = 13 ∨ o = 14 then 0 else if o = 5 ∨ o = 7 ∨ o = 21 then 6 else if o = 15 then (if 0 < opLev n then opLev n else 7) else 7
def signL : List (List UInt8) := [[43], [45], [42], [47], [37], [60], [61, 61], [109, 105, 110], [109, 97, 120], [38], [124], [94]]
def signT (n : Int) : List UInt8 := (signL[n.toNat]?).getD []
/-- two texts, one behind the other -/
def cat (a b : List UInt8) : List UInt8 := a ++ b
def catS : List UInt8 → List (List UInt8) → List UInt8
 | a, [] => a
 | a, b :: l => catS (cat a b) l
/-- the evaluator puts them so -/
def CatsOk : List UInt8 → List (List UInt8) → Prop
 | _, [] => True
 | a, b :: l => strA .add a b = some (.str (cat a b)) ∧ CatsOk (cat a b) l
def lensL : List (List UInt8) → Nat
 | [] => 0
 | a :: l => a.length + lensL l
theorem cat_length (a b : List UInt8) : (cat a b).length = a.length + b.length := by simp [cat]
theorem cats_ok : ∀ (l : List (List UInt8)) (a : List UInt8), a.length + lensL l ≤ 9223372036854775807 → CatsOk a l
 | [], _, _ => trivial
 | b :: l, a, h => by
  simp only [lensL] at h
  refine ⟨?_, cats_ok l (cat a b) (by rw [cat_length]; omega)⟩
  simp only [strA]
  rw [if_pos (by omega)]
  rfl
theorem catS_length : ∀ (l : List (List UInt8)) (a : List UInt8), (catS a l).length = a.length + lensL l
 | [], _ => rfl
 | b :: l, a => by
  simp only [catS, lensL]
  rw [catS_length l, cat_length]
  omega
def varT (n : Int) : List UInt8 := cat [120] (Lib.itoa n)
def intT (n : Int) : List UInt8 := if n < 0 then cat [126] (Lib.itoa (-n)) else Lib.itoa n
theorem int_replace (n : Int) : Lib.replace (Lib.itoa n) [45] [126] 1 = intT n := by
 unfold intT Lib.itoa
 by_cases h : n < 0
 ·rw [if_pos h, if_pos h, if_neg (by omega), replace_hit]
  show _ = 126 :: _
  congr 2
  omega
 ·rw [if_neg h, if_neg h]
  exact replace_miss (dec_ne _)
/-- a part, as it is written -/
structure Kid where
 t : List UInt8
 lev : Int
 op : Int
def Kid.at (k : Kid) (least : Int) : List UInt8 := if k.lev < least then catS [40] [k.t, [41]] else k.t
def kidAt (ks : List Kid) (i : Nat) : Kid := (ks[i]?).getD ⟨[], 0, 0⟩
def commaT (ks : List Kid) : List UInt8 := Lib.join (ks.map Kid.t) [44, 32]
/-- the words of operations that are written as calls -/
def callL : List (List UInt8) := [[], [], [], [], [], [], [], [], [], [102, 115, 116], [115, 110, 100], [108, 101, 102, 116], [114, 105, 103, 104, 116], [], [], [], [], [], [], [105, 111, 116, 97], [108, 101, 110], [], [], [], [102, 108, 97, 116], [110, 101, 115, 116], [112, 117, 116]]
def callT (o n : Int) : List UInt8 := if o = 15 then (if opLev n = 0 then signT n else []) else (callL[o.toNat]?).getD []
/-- a node, as it is written -/
def nodeT (nm : List (List UInt8)) (o n m : Int) (ks : List Kid) : List UInt8 :=
 if callT o n ≠ [] then catS (callT o n) [[40], commaT ks, [41]]
 else if o = 0 then varT n
 else if o = 1 then intT n
 else if o = 2 then [40, 41]
 else if o = 3 then catS [108, 101, 116, 32] [varT n, [32, 61, 32], (kidAt ks 0).t, [32, 105, 110, 32], (kidAt ks 1).t]
 else if o = 4 then catS [102, 110, 32] [varT n, [32, 61, 62, 32], (kidAt ks 0).t]
 else if o = 5 then catS (if (kidAt ks 0).op = 6 then catS [40] [(kidAt ks 0).at 6, [41]] else (kidAt ks 0).at 6) [[40], (kidAt ks 1).t, [41]]
 else if o = 6 then (nm[n.toNat]?).getD []
 else if o = 7 then catS ((nm[n.toNat]?).getD []) [[40], (kidAt ks 0).t, [41]]
 else if o = 8 then catS [40] [commaT ks, [41]]
 else if o = 13 then catS [99, 97, 115, 101, 32] [(kidAt ks 0).t, [32, 111, 102, 32, 108, 101, 102, 116, 32], varT n, [32, 61, 62, 32], (kidAt ks 1).t, [32, 111, 114, 32, 114, 105, 103, 104, 116, 32], varT m, [32, 61, 62, 32], (kidAt ks 2).t]
 else if o = 14 then catS [105, 102, 32] [(kidAt ks 0).t, [32, 116, 104, 101, 110, 32], (kidAt ks 1).t, [32, 101, 108, 115, 101, 32], (kidAt ks 2).t]
 else if o = 15 then catS ((kidAt ks 0).at (opLev n)) [[32], signT n, [32], (kidAt ks 1).at (opLev n + 1)]
 else if o = 16 then catS [91] [commaT ks, [93]]
 else if o = 17 then catS [91] [(kidAt ks 1).t, [32, 102, 111, 114, 32], varT n, [32, 105, 110, 32], (kidAt ks 0).t, [93]]
 else if o = 18 then catS [91] [varT n, [32, 105, 110, 32], (kidAt ks 0).t, [32, 105, 102, 32], (kidAt ks 1).t, [93]]
 else if o = 21 then catS ((kidAt ks 0).at 6) [[91], (kidAt ks 1).t, [93]]
 else catS (if o = 23 then [115, 99, 97, 110] else [102, 111, 108, 100]) [[40], signT n, [44, 32], (kidAt ks 0).t, [41]]
mutual
def Ex.txt (nm : List (List UInt8)) : Ex → List UInt8
 | .leaf o n m _ => nodeT nm o n m []
 | .node o n m x l => nodeT nm o n m (⟨x.txt nm, levI x.op x.num, x.op⟩ :: Ex.txts nm l)
def Ex.txts (nm : List (List UInt8)) : List Ex → List Kid
 | [] => []
 | x :: l => ⟨x.txt nm, levI x.op x.num, x.op⟩ :: Ex.txts nm l
end
theorem Ex.txt_kids (nm : List (List UInt8)) (e : Ex) : e.txt nm = nodeT nm e.op e.num e.mun (Ex.txts nm e.kids) := by
 cases e with
 | leaf o n m z => simp only [Ex.txt, Ex.kids, Ex.txts, Ex.op, Ex.num, Ex.mun]
 | node o n m x l => simp only [Ex.txt, Ex.kids, Ex.txts, Ex.op, Ex.num, Ex.mun]
theorem Ex.txts_length (nm : List (List UInt8)) : ∀ l : List Ex, (Ex.txts nm l).length = l.length
 | [] => rfl
 | x :: l => by simp [Ex.txts, Ex.txts_length nm l]
theorem Ex.txts_at (nm : List (List UInt8)) : ∀ (l : List Ex) (j : Nat) (h : j < l.length), (Ex.txts nm l)[j]? = some ⟨l[j].txt nm, levI l[j].op l[j].num, l[j].op⟩
 | x :: l, 0, _ => rfl
 | x :: l, j + 1, h => by
  simp only [Ex.txts, List.getElem?_cons_succ, List.getElem_cons_succ]
  exact Ex.txts_at nm l j (by simpa using h)
/-- what a node is, in a program of so many functions -/
def askN (k : Nat) (o n m : Int) (len : Nat) : Prop :=
 (0 ≤ o ∧ o ≤ 26) ∧ ∃ x : Int × FuncId × Int × Int, formT[o.toNat]? = some x ∧ lookB k x.2.1 n = true ∧ ((len : Int) = x.1 ∨ (x.1 < 0 ∧ (len : Int) ≤ 8)) ∧ (x.2.2.2 = 0 ∨ isVarB m = true)
mutual
def Ex.okN (k : Nat) : Ex → Prop
 | .leaf o n m _ => askN k o n m 0
 | .node o n m x l => askN k o n m (l.length + 1) ∧ x.okN k ∧ Ex.okNs k l
def Ex.okNs (k : Nat) : List Ex → Prop
 | [] => True
 | x :: l => x.okN k ∧ Ex.okNs k l
end
theorem Ex.okN_kids (k : Nat) (e : Ex) : e.okN k ↔ askN k e.op e.num e.mun e.kids.length ∧ Ex.okNs k e.kids := by
 cases e with
 | leaf o n m z => simp [Ex.okN, Ex.kids, Ex.okNs, Ex.op, Ex.num, Ex.mun]
 | node o n m x l => simp [Ex.okN, Ex.kids, Ex.okNs, Ex.op, Ex.num, Ex.mun]
theorem Ex.okNs_mem {k : Nat} : ∀ {l : List Ex} {x : Ex}, Ex.okNs k l → x ∈ l → x.okN k
 | a :: l, x, h, hx => by
  rcases List.mem_cons.1 hx with rfl | hx
  ·exact h.1
  ·exact Ex.okNs_mem h.2 hx
theorem ask_of_check {k : Nat} {o n m : Int} {len : Nat} {left deep : Int} {vars : List Int} {go : Int → Int → Option Int} {r : Int} (h : Ex.check k o n m len left deep vars go = some r) :
  askN k o n m len ∧ ∃ b1 b2, go b1 b2 = some r := by
 unfold Ex.check at h
 split at h
 ·rename_i h1
  split at h
  ·rename_i parts f b1 b2 hx
   split at h
   ·rename_i h2
    exact ⟨⟨⟨h1.2.2.1, h1.2.2.2⟩, _, hx, h2.1, h2.2.1, h2.2.2.2⟩, b1, b2, h⟩
   ·cases h
  ·cases h
 ·cases h
mutual
theorem Ex.okN_walk (k : Nat) : ∀ (e : Ex) (left deep : Int) (vars : List Int) (r : Int), e.walk k left deep vars = some r → e.okN k
 | .leaf o n m z, left, deep, vars, r, h => by
  simp only [Ex.walk] at h
  exact (ask_of_check h).1
 | .node o n m x l, left, deep, vars, r, h => by
  simp only [Ex.walk] at h
  obtain ⟨h1, b1, b2, h2⟩ := ask_of_check h
  split at h2
  ·rename_i lf hx
   exact ⟨h1, Ex.okN_walk k x _ _ _ _ hx, Ex.okNs_walks k l _ _ _ _ _ _ _ _ _ h2⟩
  ·cases h2
theorem Ex.okNs_walks (k : Nat) : ∀ (l : List Ex) (left deep : Int) (vars : List Int) (b1 b2 n m : Int) (i : Nat) (r : Int), Ex.walks k l left deep vars b1 b2 n m i = some r → Ex.okNs k l
 | [], _, _, _, _, _, _, _, _, _, _ => trivial
 | x :: l, left, deep, vars, b1, b2, n, m, i, r, h => by
  simp only [Ex.walks] at h
  split at h
  ·rename_i lf hx
   exact ⟨Ex.okN_walk k x _ _ _ _ hx, Ex.okNs_walks k l _ _ _ _ _ _ _ _ _ h⟩
  ·cases h
end
theorem okN_body {k : Nat} {e : Ex} {zs : List Int} (h : bodyB k e zs = true) : e.okN k := by
 unfold bodyB at h
 cases hw : e.walk k 600 1 zs with
 | none => rw [hw] at h; cases h
 | some r => exact Ex.okN_walk k e _ _ _ _ hw
theorem nDig_le : ∀ (k u : Nat), u < 10 ^ (k + 1) → Lib.nDigits u ≤ k + 1
 | 0, u, h => by rw [Lib.nDigits_small (by simpa using h)]; omega
 | k + 1, u, h => by
  by_cases hu : u < 10
  ·rw [Lib.nDigits_small hu]; omega
  ·rw [Lib.nDigits_big hu]
   have := nDig_le k (u / 10) (by rw [Nat.pow_succ] at h; omega)
   omega
theorem itoa_length {n : Int} (h : -9223372036854775808 ≤ n ∧ n ≤ 9223372036854775808) : (Lib.itoa n).length ≤ 20 := by
 unfold Lib.itoa
 split
 ·rw [List.length_cons, Lib.decDigits_length]
  have := nDig_le 18 n.natAbs (by omega)
  omega
 ·rw [Lib.decDigits_length]
  have := nDig_le 18 n.toNat (by omega)
  omega
theorem var_length {n : Int} (h : isVarB n = true) : (varT n).length ≤ 21 := by
 unfold isVarB at h
 simp only [decide_eq_true_eq] at h
 unfold varT
 rw [cat_length]
 have := itoa_length (n := n) (by omega)
 simp only [List.length_cons, List.length_nil]
 omega
theorem int_length {n : Int} (h : isWordB n = true) : (intT n).length ≤ 21 := by
 unfold isWordB at h
 simp only [decide_eq_true_eq] at h
 unfold intT
 split
 ·rw [cat_length]
  have := itoa_length (n := -n) (by omega)
  simp only [List.length_cons, List.length_nil]
  omega
 ·have := itoa_length (n := n) (by omega)
  omega
theorem sign_length (n : Int) : (signT n).length ≤ 3 := by
 unfold signT
 cases h : signL[n.toNat]? with
 | none => simp
 | some s =>
  have hm := List.mem_of_getElem? h
  have : ∀ s ∈ signL, s.length ≤ 3 := by decide
  exact this s hm
theorem call_length (o n : Int) : (callT o n).length ≤ 5 := by
 unfold callT
 split
 ·split
  ·have := sign_length n; omega
  ·simp
 ·cases h : callL[o.toNat]? with
  | none => simp
  | some s =>
   have hm := List.mem_of_getElem? h
   have : ∀ s ∈ callL, s.length ≤ 5 := by decide
   exact this s hm
def kidsL : List Kid → Nat
 | [] => 0
 | k :: l => k.t.length + kidsL l
theorem kid3 (ks : List Kid) : (kidAt ks 0).t.length + (kidAt ks 1).t.length + (kidAt ks 2).t.length ≤ kidsL ks := by
 match ks with
 | [] => simp [kidAt, kidsL]
 | [a] => simp [kidAt, kidsL]
 | [a, b] => simp [kidAt, kidsL]
 | a :: b :: c :: l => simp [kidAt, kidsL]; omega
theorem at_length (k : Kid) (least : Int) : (k.at least).length ≤ k.t.length + 2 := by
 unfold Kid.at
 split
 ·rw [catS_length]
  simp [lensL]
  omega
 ·omega
theorem lens_kids : ∀ ks : List Kid, Lib.lens (ks.map Kid.t) = kidsL ks
 | [] => rfl
 | k :: l => by
  have := lens_kids l
  unfold Lib.lens at this ⊢
  simp only [List.map_cons, List.sum_cons, kidsL]
  omega
theorem comma_length (ks : List Kid) : (commaT ks).length ≤ kidsL ks + 2 * ks.length := by
 unfold commaT
 cases ks with
 | nil => simp [Lib.join_nil]
 | cons k l =>
  rw [List.map_cons, Lib.join_length, ← List.map_cons, lens_kids]
  simp only [List.length_cons, List.length_nil, List.length_map]
  omega
theorem get_length {nm : List (List UInt8)} (h : ∀ s ∈ nm, s.length ≤ 12) (j : Nat) : ((nm[j]?).getD []).length ≤ 12 := by
 cases hj : nm[j]? with
 | none => simp
 | some s => exact h s (List.mem_of_getElem? hj)
theorem ite_len {c : Prop} [Decidable c] {a b : List UInt8} {B : Nat} (h1 : c → a.length ≤ B) (h2 : ¬ c → b.length ≤ B) : (if c then a else b).length ≤ B := by
 by_cases h : c
 ·rw [if_pos h]; exact h1 h
 ·rw [if_neg h]; exact h2 h
theorem node_length {nm : List (List UInt8)} (hnm : ∀ s ∈ nm, s.length ≤ 12) {k : Nat} {o n m : Int} {ks : List Kid} (h : askN k o n m ks.length) : (nodeT nm o n m ks).length ≤ kidsL ks + 100 := by
 have k3 := kid3 ks
 have kc := comma_length ks
 have a1 := fun x => at_length (kidAt ks 0) x
 have a2 := fun x => at_length (kidAt ks 1) x
 have s1 := sign_length n
 have c1 := call_length o n
 have g1 := get_length hnm n.toNat
 obtain ⟨⟨h1, h2⟩, x, hx, hl, hlen, hm⟩ := h
 have hks : ks.length ≤ 8 := by
  have : x.1 ≤ 3 := by
   have hmem := List.mem_of_getElem? hx
   have : ∀ x ∈ formT, x.1 ≤ 3 := by decide
   exact this x hmem
  omega
 have hv : (o = 0 ∨ o = 3 ∨ o = 4 ∨ o = 13 ∨ o = 17 ∨ o = 18) → (varT n).length ≤ 21 := fun e => by
  rcases e with rfl | rfl | rfl | rfl | rfl | rfl <;> (cases hx; exact var_length (by simpa [lookB] using hl))
 have hi : o = 1 → (intT n).length ≤ 21 := fun e => by
  subst e; cases hx; exact int_length (by simpa [lookB] using hl)
 have hm' : o = 13 → (varT m).length ≤ 21 := fun e => by
  subst e; cases hx; exact var_length (by simpa using hm)
 unfold nodeT
 refine ite_len (fun _ => ?_) (fun _ => ?_)
 ·rw [catS_length]; simp only [lensL, List.length_cons, List.length_nil]; omega
 refine ite_len (fun e => ?_) (fun _ => ?_)
 ·have := hv (.inl e); omega
 refine ite_len (fun e => ?_) (fun _ => ?_)
 ·have := hi e; omega
 refine ite_len (fun _ => ?_) (fun _ => ?_)
 ·simp only [List.length_cons, List.length_nil]; omega
 refine ite_len (fun e => ?_) (fun _ => ?_)
 ·have := hv (.inr (.inl e)); rw [catS_length]; simp only [lensL, List.length_cons, List.length_nil]; omega
 refine ite_len (fun e => ?_) (fun _ => ?_)
 ·have := hv (.inr (.inr (.inl e))); rw [catS_length]; simp only [lensL, List.length_cons, List.length_nil]; omega
 refine ite_len (fun _ => ?_) (fun _ => ?_)
 ·have h5 : (if (kidAt ks 0).op = 6 then catS [40] [(kidAt ks 0).at 6, [41]] else (kidAt ks 0).at 6).length ≤ (kidAt ks 0).t.length + 4 := by
   refine ite_len (fun _ => ?_) (fun _ => ?_)
   ·have := a1 6; rw [catS_length]; simp only [lensL, List.length_cons, List.length_nil]; omega
   ·have := a1 6; omega
  rw [catS_length]; simp only [lensL, List.length_cons, List.length_nil]; omega
 refine ite_len (fun _ => ?_) (fun _ => ?_)
 ·omega
 refine ite_len (fun _ => ?_) (fun _ => ?_)
 ·rw [catS_length]; simp only [lensL, List.length_cons, List.length_nil]; omega
 refine ite_len (fun _ => ?_) (fun _ => ?_)
 ·rw [catS_length]; simp only [lensL, List.length_cons, List.length_nil]; omega
 refine ite_len (fun e => ?_) (fun _ => ?_)
 ·have := hv (.inr (.inr (.inr (.inl e)))); have := hm' e; rw [catS_length]; simp only [lensL, List.length_cons, List.length_nil]; omega
 refine ite_len (fun _ => ?_) (fun _ => ?_)
 ·rw [catS_length]; simp only [lensL, List.length_cons, List.length_nil]; omega
 refine ite_len (fun _ => ?_) (fun _ => ?_)
 ·have := a1 (opLev n); have := a2 (opLev n + 1); rw [catS_length]; simp only [lensL, List.length_cons, List.length_nil]; omega
 refine ite_len (fun _ => ?_) (fun _ => ?_)
 ·rw [catS_length]; simp only [lensL, List.length_cons, List.length_nil]; omega
 refine ite_len (fun e => ?_) (fun _ => ?_)
 ·have := hv (.inr (.inr (.inr (.inr (.inl e))))); rw [catS_length]; simp only [lensL, List.length_cons, List.length_nil]; omega
 refine ite_len (fun e => ?_) (fun _ => ?_)
 ·have := hv (.inr (.inr (.inr (.inr (.inr e))))); rw [catS_length]; simp only [lensL, List.length_cons, List.length_nil]; omega
 refine ite_len (fun _ => ?_) (fun _ => ?_)
 ·have := a1 6; rw [catS_length]; simp only [lensL, List.length_cons, List.length_nil]; omega
 have hfs : (if o = 23 then [115, 99, 97, 110] else [102, 111, 108, 100] : List UInt8).length ≤ 4 := ite_len (fun _ => Nat.le_refl _) (fun _ => Nat.le_refl _)
 rw [catS_length]; simp only [lensL, List.length_cons, List.length_nil]; omega
mutual
theorem Ex.txt_length {nm : List (List UInt8)} (hnm : ∀ s ∈ nm, s.length ≤ 12) {k : Nat} : ∀ (e : Ex), e.okN k → (e.txt nm).length ≤ 100 * e.size
 | .leaf o n m z, h => by
  have := node_length hnm (ks := []) h
  simp only [Ex.txt, Ex.size, kidsL] at this ⊢
  omega
 | .node o n m x l, h => by
  have h1 := Ex.txt_length hnm x h.2.1
  have h2 := Ex.txts_len hnm l h.2.2
  have := node_length hnm (n := n) (m := m) (ks := ⟨x.txt nm, levI x.op x.num, x.op⟩ :: Ex.txts nm l) (by rw [List.length_cons, Ex.txts_length]; exact h.1)
  simp only [Ex.txt, Ex.size, kidsL] at this ⊢
  omega
theorem Ex.txts_len {nm : List (List UInt8)} (hnm : ∀ s ∈ nm, s.length ≤ 12) {k : Nat} : ∀ (l : List Ex), Ex.okNs k l → kidsL (Ex.txts nm l) ≤ 100 * Ex.sizes l
 | [], _ => Nat.le_refl _
 | x :: l, h => by
  have h1 := Ex.txt_length hnm x h.1
  have h2 := Ex.txts_len hnm l h.2
  simp only [Ex.txts, Ex.sizes, kidsL]
  omega
end
def signsG : List AV → Option FRes
 | [] => some (.ret (.slice (signL.map .str) .dead))
 | _ => none
theorem signs_ok : FOk 148 signsG := by
 intro a r h
 unfold signsG at h
 split at h
 ·cases h
  exact ⟨rfl, by decide, fok_of_run (l := []) (by simp) (n := 4) (by kernel_rfl) (by decide)⟩
 ·cases h
theorem signs_use {l : Sm} (h : sumG l 148 = signsG) {n : Nat} {S : St} : callS ED (sumG l) n (.fn 148) [] S = some (.ret (.slice (signL.map .str) .dead), S) :=
 callS_sum (by rw [h]; rfl)
theorem sign_at {n : Int} (h : isOpB n = true) : indexAddrA ED 47 (.slice (signL.map .str) .dead) (.int .i64 n) = some (.rptr [.str (signT n)]) := by
 unfold isOpB at h
 simp only [decide_eq_true_eq] at h
 obtain ⟨j, rfl⟩ : ∃ j : Nat, n = j := ⟨n.toNat, by omega⟩
 have hj : j < signL.length := by simp [signL]; omega
 rw [index_strs hj]
 unfold signT
 rw [Int.toNat_natCast, List.getElem?_eq_getElem hj]
 rfl
def levelG : List AV → Option FRes
 | [.int .i64 n] => some (.ret (.int .i64 (opLev n)))
 | _ => none
theorem level_ok : FOk 40 levelG := by
 refine fok [] (by simp) ?_
 intro a r h
 unfold levelG at h
 split at h
 ·rename_i o
  cases h
  refine ⟨rfl, rfl, 2, fun p hp => ?_⟩
  rw [callS_go rfl]
  simp only [fnA, ED_fn40, fi40, Tryz.f40]
  by_cases ho : 0 ≤ o ∧ o ≤ 11
  ·have h12 : o = 0 ∨ o = 1 ∨ o = 2 ∨ o = 3 ∨ o = 4 ∨ o = 5 ∨ o = 6 ∨ o = 7 ∨ o = 8 ∨ o = 9 ∨ o = 10 ∨ o = 11 := by omega
   rcases h12 with rfl | rfl | rfl | rfl | rfl | rfl | rfl | rfl | rfl | rfl | rfl | rfl <;>
    (simp [vmS, lenA, indexAddrA]; exact hp _ _ rfl)
  ·have hne : ∀ k : Int, 0 ≤ k ∧ k ≤ 11 → (o = k) = False := fun k hk => eq_false fun e => ho (e ▸ hk)
   have hpI : opLev o = 0 := by
    unfold opLev
    split
    ·have : levL.length ≤ o.toNat := by simp [levL]; omega
     rw [List.getElem?_eq_none this]
     rfl
    ·rfl
   simp [vmS, lenA, indexAddrA, hne]
   exact hp _ _ (by rw [hpI]; rfl)
 ·cases h
theorem level_use {l : Sm} (h : sumG l 40 = levelG) {n : Nat} {x : Int} {S : St} : callS ED (sumG l) n (.fn 40) [.int .i64 x] S = some (.ret (.int .i64 (opLev x)), S) :=
 callS_sum (by rw [h]; rfl)
theorem opLev_pos (n : Int) : 0 ≤ opLev n ∧ opLev n ≤ 5 := by
 unfold opLev
 split
 ·cases h : levL[n.toNat]? with
  | none => simp
  | some s =>
   have hm := List.mem_of_getElem? h
   have : ∀ s ∈ levL, 0 ≤ s ∧ s ≤ 5 := by decide
   exact this s hm
 ·omega
def levG : List AV → Option FRes
 | [.agg [.int .i64 o, .int .i64 n, .int .i64 _, A]] => if A.pers = true ∧ A.isCell = true then some (.ret (.int .i64 (levI o n))) else none
 | _ => none
theorem lev_ok : FOk 191 levG := by
 refine fok [(40, levelG)] (by simp; exact level_ok) ?_
 intro a r h
 unfold levG at h
 split at h
 ·rename_i o n m A
  split at h
  ·rename_i hA
   cases h
   refine ⟨by simp [AV.persL, AV.pers, hA.1], rfl, 2, fun p hp => ?_⟩
   rw [callS_go rfl]
   have lu := fun m S => level_use (l := [(40, levelG)]) rfl (n := m) (x := n) (S := S)
   simp only [fnA, ED_fn191, fi191, Tryz.f191]
   by_cases ho : o = 3 ∨ o = 4 ∨ o = 5 ∨ o = 7 ∨ o = 13 ∨ o = 14 ∨ o = 21
   ·rcases ho with rfl | rfl | rfl | rfl | rfl | rfl | rfl <;> (simp [vmS, lenA, indexAddrA, hA.2]; exact hp _ _ rfl)
   ·simp only [not_or] at ho
    obtain ⟨h3, h4, h5, h7, h13, h14, h21⟩ := ho
    by_cases h15 : o = 15
    ·subst h15
     by_cases hl : 0 < opLev n
     ·simp [vmS, lenA, indexAddrA, hA.2, lu, hl]
      exact hp _ _ (by simp [levI, hl]; rfl)
     ·simp [vmS, lenA, indexAddrA, hA.2, lu, hl]
      exact hp _ _ (by simp [levI, hl]; rfl)
    ·simp [vmS, lenA, indexAddrA, hA.2, h3, h4, h5, h7, h13, h14, h21, h15]
     exact hp _ _ (by simp [levI, h3, h4, h5, h7, h13, h14, h21, h15]; rfl)
  ·cases h
 ·cases h
theorem lev_use {l : Sm} (h : sumG l 191 = levG) {k : Nat} {e : Ex} {S : St} :
  callS ED (sumG l) k (.fn 191) [.agg [.int .i64 e.op, .int .i64 e.num, .int .i64 e.mun, e.lst]] S = some (.ret (.int .i64 (levI e.op e.num)), S) := by
 have hA : e.lst.pers = true ∧ e.lst.isCell = true := ⟨e.lst_pers, e.cell.1⟩
 have hd : e.lst.dead = e.lst := dead_of_pers _ hA.1
 exact callS_sum (by rw [h]; simp [AV.dead, AV.deadL, hd, levG, hA])
/-- the word of a call -/
def namedTG : List AV → Option FRes
 | [.agg [.int .i64 o, .int .i64 n, .int .i64 _, A]] => if A.pers = true ∧ A.isCell = true ∧ 0 ≤ o ∧ o ≤ 26 ∧ (o = 15 → isOpB n = true) then some (.ret (.str (callT o n))) else none
 | _ => none
theorem namedT_ok : FOk 144 namedTG := by
 refine fok [(40, levelG), (148, signsG)] (by intro x hx; simp only [List.mem_cons, List.mem_nil_iff, or_false] at hx; rcases hx with rfl | rfl; exact level_ok; exact signs_ok) ?_
 intro a r h
 unfold namedTG at h
 split at h
 ·rename_i o n m A
  split at h
  ·rename_i hA
   obtain ⟨hA1, hA2, ho1, ho2, hn⟩ := hA
   cases h
   refine ⟨by simp [AV.persL, AV.pers, hA1], rfl, 2, fun p hp => ?_⟩
   rw [callS_go rfl]
   have lu := fun m S => level_use (l := [(40, levelG), (148, signsG)]) rfl (n := m) (x := n) (S := S)
   have su := fun m S => signs_use (l := [(40, levelG), (148, signsG)]) rfl (n := m) (S := S)
   have d0 := @dr144_0
   simp only [drA, drawsOf, Option.getD_some, List.nil_append, List.append_nil, List.getD_cons_zero, List.getD_cons_succ, List.cons_append, Tryz.f144] at d0
   simp only [fnA, ED_fn144, fi144, Tryz.f144]
   by_cases h15 : o = 15
   ·subst h15
    have ha := sign_at (hn rfl)
    generalize AV.slice (signL.map .str) .dead = WV at *
    by_cases hl : opLev n = 0
    ·simp [vmS, runC_nil, runC_cons, pickC_some, wantC_tt, wantC_tf, effC_val, ifC_true, checkC, inPairs, keepC, okC, readsC_load, readV_some, AV.beq_self, wantA_n, wantA_g, wantD_some, d0, hA2, lu, su, hl, ha]
     exact hp _ _ (by simp [FRes.melt, AV.melt, AV.dead, callT, hl])
    ·simp [vmS, runC_nil, runC_cons, pickC_some, wantC_tt, wantC_tf, effC_val, ifC_true, checkC, inPairs, keepC, okC, readsC_load, readV_some, AV.beq_self, wantA_n, wantA_g, wantD_some, d0, hA2, lu, su, hl]
     exact hp _ _ (by simp [FRes.melt, AV.melt, AV.dead, callT, hl])
   ·have h27 := op27 ⟨ho1, ho2⟩
    rcases h27 with rfl | rfl | rfl | rfl | rfl | rfl | rfl | rfl | rfl | rfl | rfl | rfl | rfl | rfl | rfl | rfl | rfl | rfl | rfl | rfl | rfl | rfl | rfl | rfl | rfl | rfl | rfl <;>
     first
     | (exact absurd rfl h15)
     | (simp [vmS, lenA, indexAddrA, hA2]; exact hp _ _ rfl)
  ·cases h
 ·cases h
theorem namedT_use {l : Sm} (h : sumG l 144 = namedTG) {k : Nat} {e : Ex} {S : St} (h1 : 0 ≤ e.op ∧ e.op ≤ 26) (h2 : e.op = 15 → isOpB e.num = true) :
  callS ED (sumG l) k (.fn 144) [.agg [.int .i64 e.op, .int .i64 e.num, .int .i64 e.mun, e.lst]] S = some (.ret (.str (callT e.op e.num)), S) := by
 have hA : e.lst.pers = true ∧ e.lst.isCell = true := ⟨e.lst_pers, e.cell.1⟩
 have hd : e.lst.dead = e.lst := dead_of_pers _ hA.1
 refine callS_sum ?_
 rw [h]
 simp only [List.map_cons, List.map_nil, AV.dead, AV.deadL, hd, namedTG]
 rw [if_pos ⟨hA.1, hA.2, h1.1, h1.2, h2⟩]
/-! numbers -/
theorem itoa_use {l : Sm} (h : sumG l 98 = fun _ => none) {n : Nat} {x : Int} {S : St} (hx : -9223372036854775808 ≤ x ∧ x ≤ 9223372036854775807) : callS ED (sumG l) (n + 1) (.fn 98) [.int .i64 x] S = some (.ret (.str (Lib.itoa x)), S) := by
 rw [callS_go (by rw [h])]
 simp only [fnA, ED_fn98, fi98, Tryz.f98, ED_lib98, libItoa]
 rw [if_pos hx]
def inI (n : Int) : Prop := -9223372036854775807 ≤ n ∧ n ≤ 9223372036854775807
instance (n : Int) : Decidable (inI n) := by unfold inI; infer_instance
def varTG : List AV → Option FRes
 | [.int .i64 n] => if inI n then some (.ret (.str (varT n))) else none
 | _ => none
theorem cat_ok {a b : List UInt8} (h : a.length + b.length ≤ 9223372036854775807) : strA .add a b = some (.str (cat a b)) := by
 simp only [strA]
 rw [if_pos h]
 rfl
theorem varT_ok (f : FuncId) (hf : f = 99) : FOk f varTG := by
 subst hf
 refine fok [] (by simp) ?_
 intro a r h
 unfold varTG at h
 split at h
 ·rename_i n
  split at h
  ·rename_i hn
   cases h
   refine ⟨rfl, rfl, 3, fun p hp => ?_⟩
   rw [callS_go rfl]
   unfold inI at hn
   have iu := fun m S => itoa_use (l := []) rfl (n := m) (x := n) (S := S) (by omega)
   have iu1 := iu 1
   have hl := itoa_length (n := n) (by omega)
   have hc := cat_ok (a := [120]) (b := Lib.itoa n) (by simp only [List.length_cons, List.length_nil]; omega)
   simp only [fnA, ED_fn99, fi99, Tryz.f99]
   simp [vmS, lenA, indexAddrA, iu, iu1, bin_str, hc]
   exact hp _ _ rfl
  ·cases h
 ·cases h
theorem var_use2 {l : Sm} {f : FuncId} (h : sumG l f = varTG) {n : Nat} {x : Int} {S : St} (hx : inI x) : callS ED (sumG l) n (.fn f) [.int .i64 x] S = some (.ret (.str (varT x)), S) :=
 callS_sum (by rw [h]; simp only [List.map_cons, List.map_nil, AV.dead, varTG]; rw [if_pos hx])
def intTG : List AV → Option FRes
 | [.int .i64 n] => if inI n then some (.ret (.str (intT n))) else none
 | _ => none
theorem intT_ok : FOk 146 intTG := by
 refine fok [] (by simp) ?_
 intro a r h
 unfold intTG at h
 split at h
 ·rename_i n
  split at h
  ·rename_i hn
   cases h
   refine ⟨rfl, rfl, 3, fun p hp => ?_⟩
   rw [callS_go rfl]
   unfold inI at hn
   have iu := fun m S => itoa_use (l := []) rfl (n := m) (x := n) (S := S) (by omega)
   have ju := fun m S => itoa_use (l := []) rfl (n := m) (x := -n) (S := S) (by omega)
   have iu1 := iu 1
   have ju1 := ju 1
   have hw : IntKind.i64.wrap (-n) = -n := wrap_id (by omega) (by omega)
   have hl := itoa_length (n := -n) (by omega)
   have hc := cat_ok (a := [126]) (b := Lib.itoa (-n)) (by simp only [List.length_cons, List.length_nil]; omega)
   simp only [fnA, ED_fn146, fi146, Tryz.f146]
   by_cases h0 : n < 0
   ·simp [vmS, lenA, indexAddrA, iu, iu1, ju, ju1, bin_str, hc, h0, unA, hw]
    exact hp _ _ (by simp [FRes.melt, AV.melt, AV.dead, intT, h0])
   ·simp [vmS, lenA, indexAddrA, iu, iu1, ju, ju1, bin_str, hc, h0]
    exact hp _ _ (by simp [FRes.melt, AV.melt, AV.dead, intT, h0])
  ·cases h
 ·cases h
theorem int_use2 {l : Sm} {f : FuncId} (h : sumG l f = intTG) {n : Nat} {x : Int} {S : St} (hx : inI x) : callS ED (sumG l) n (.fn f) [.int .i64 x] S = some (.ret (.str (intT x)), S) :=
 callS_sum (by rw [h]; simp only [List.map_cons, List.map_nil, AV.dead, intTG]; rw [if_pos hx])
end Go.Vm.L
