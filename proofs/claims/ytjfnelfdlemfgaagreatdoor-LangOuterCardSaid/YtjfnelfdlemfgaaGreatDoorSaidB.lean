/-
What the document asks of a node. No conditions.
-/
import Derived.Test.YtjfnelfdlemfgaaGreatDoorSaidA
import Derived.Test.YtjfnelfdlemfgaaGreatDoorNodeG
set_option linter.all false
set_option maxHeartbeats 4000000
namespace Go.Vm.L
open Go Go.Proofs Go.Vm
set_option maxRecDepth 100000
attribute [local simp] inFrame startLoc startVals Loc.clear blockC Loc.putO Loc.put idx evO constV Loc.get Vm.look intA unwindA resultsA resultV actA pureA storeA loadA fillE repElems TI.zeroV fieldOf fieldAddrA fieldA elemsA retE cellsOf? setCells nowhere mapHead headNext
/-- which variable a node binds in a part; -1: none -/
def binderI (o n m p : Int) : Int :=
 if o = 4 then n else if o = 3 ∨ o = 17 ∨ o = 18 then (if p = 1 then n else -1) else if o = 13 then (if p = 1 then n else if p = 2 then m else -1) else -1
def withL (zs : List Int) (n : Int) : List Int := if n = -1 then zs else zs ++ [n]
def placeB (o n m p : Int) : Bool := if binderI o n m p = -1 then !decide (binderI o 0 0 p = 0) else isVarB (binderI o n m p)
def numbersB (k : Nat) (o n m : Int) (len : Nat) (zs : List Int) : Bool :=
 if o = 0 then zs.contains n else if o = 1 then isWordB n else if o = 6 then isFunB k n else if o = 7 then isFunB k n else if o = 15 then isOpB n else if o = 22 then joinB n else if o = 23 then joinB n else (List.range len).all fun p => placeB o n m (p : Nat)
def headB (k : Nat) (o n m : Int) (len : Nat) (zs : List Int) (d : Nat) : Bool :=
 decide (d ≠ 0) && decide (partsI o ≠ -1) && (decide (partsI o < 0) || decide ((len : Int) = partsI o)) && decide (len ≤ 8) && numbersB k o n m len zs
mutual
def Ex.shp (k : Nat) : Ex → List Int → Nat → Bool
 | .leaf o n m _, zs, d => headB k o n m 0 zs d
 | .node o n m x l, zs, d => headB k o n m (l.length + 1) zs d && (x.shp k (withL zs (binderI o n m (0 : Nat))) (d - 1) && Ex.shps k o n m l 1 zs (d - 1))
def Ex.shps (k : Nat) (o n m : Int) : List Ex → Nat → List Int → Nat → Bool
 | [], _, _, _ => true
 | x :: l, i, zs, d => x.shp k (withL zs (binderI o n m (i : Nat))) d && Ex.shps k o n m l (i + 1) zs d
end
theorem Ex.shp_kids (k : Nat) (v : Ex) (zs : List Int) (d : Nat) : v.shp k zs d = (headB k v.op v.num v.mun v.kids.length zs d && Ex.shps k v.op v.num v.mun v.kids 0 zs (d - 1)) := by
 cases v with
 | leaf o n m e => simp only [Ex.shp, Ex.kids, Ex.shps, Ex.op, Ex.num, Ex.mun, List.length_nil, Bool.and_true]
 | node o n m x l => simp only [Ex.shp, Ex.kids, Ex.shps, Ex.op, Ex.num, Ex.mun, List.length_cons]
theorem Ex.size_pos (v : Ex) : 1 ≤ v.size := by rw [v.size_kids]; omega
theorem bit_zero (p : Int) : bitB 0 p = false := by
 unfold bitB bitI
 rw [Int.zero_fdiv]
 rfl
theorem bit_two : bitB 2 0 = false ∧ bitB 2 1 = true ∧ bitB 2 2 = false := by decide
theorem bit_one : bitB 1 0 = true := by decide
theorem bit_four : bitB 4 0 = false ∧ bitB 4 1 = false ∧ bitB 4 2 = true := by decide
theorem range_all {f : Nat → Bool} : (List.range 1).all f = f 0 ∧ (List.range 2).all f = (f 0 && f 1) ∧ (List.range 3).all f = (f 0 && f 1 && f 2) := by
 simp [List.range_succ, Bool.and_assoc]
theorem range_true {f : Nat → Bool} (h : ∀ p, f p = true) (n : Nat) : (List.range n).all f = true := by
 rw [List.all_eq_true]
 intro x _
 exact h x
theorem place_none {o n m p : Int} (h1 : o ≠ 3) (h2 : o ≠ 4) (h3 : o ≠ 13) (h4 : o ≠ 17) (h5 : o ≠ 18) : binderI o n m p = -1 := by
 simp [binderI, h1, h2, h3, h4, h5]
theorem place_true {o n m p : Int} (h1 : o ≠ 3) (h2 : o ≠ 4) (h3 : o ≠ 13) (h4 : o ≠ 17) (h5 : o ≠ 18) : placeB o n m p = true := by
 simp [placeB, place_none h1 h2 h3 h4 h5]
theorem var_ne {n : Int} (h : isVarB n = true) : n ≠ -1 := by
 unfold isVarB at h
 simp only [decide_eq_true_eq] at h
 omega
theorem withL_var {zs : List Int} {n : Int} (hz : zs.all isVarB = true) (h : n = -1 ∨ isVarB n = true) : (withL zs n).all isVarB = true := by
 unfold withL
 split
 ·exact hz
 ·rename_i hn
  rcases h with h | h
  ·exact absurd h hn
  ·rw [List.all_append, hz]
   simp [h]
/-- what is asked of a node -/
def askB (k : Nat) (o n m : Int) (len : Nat) (zs : List Int) (x : Int × FuncId × Int × Int) : Prop :=
 lookB k x.2.1 n = true ∧ ((len : Int) = x.1 ∨ (x.1 < 0 ∧ (len : Int) ≤ 8)) ∧ (o ≠ 0 ∨ zs.contains n = true) ∧ (x.2.2.2 = 0 ∨ isVarB m = true)
instance (k : Nat) (o n m : Int) (len : Nat) (zs : List Int) (x : Int × FuncId × Int × Int) : Decidable (askB k o n m len zs x) := by unfold askB; infer_instance
/-- and what comes of it -/
def gotB (o n m : Int) (len : Nat) (zs : List Int) (x : Int × FuncId × Int × Int) : Prop :=
 ∀ p : Nat, p < len → boundL x.2.2.1 x.2.2.2 (p : Nat) zs n m = withL zs (binderI o n m (p : Nat)) ∧ (withL zs (binderI o n m (p : Nat))).all isVarB = true
def sameB (k : Nat) (o n m : Int) (len : Nat) (zs : List Int) (x : Int × FuncId × Int × Int) : Prop :=
 (headB k o n m len zs 1 = true ↔ askB k o n m len zs x) ∧ (headB k o n m len zs 1 = true → gotB o n m len zs x)
/-- operations that bind nothing -/
theorem same_plain {k : Nat} {o n m : Int} {len : Nat} {zs : List Int} (hz : zs.all isVarB = true) {parts : Int} {f : FuncId} (h1 : o ≠ 3) (h2 : o ≠ 4) (h3 : o ≠ 13) (h4 : o ≠ 17) (h5 : o ≠ 18)
  (hp : (partsI o = parts ∧ 0 ≤ parts ∧ parts ≤ 3) ∨ (partsI o = -2 ∧ parts = -1)) (hn : numbersB k o n m len zs = true ↔ (lookB k f n = true ∧ (o ≠ 0 ∨ zs.contains n = true))) : sameB k o n m len zs (parts, f, 0, 0) := by
 refine ⟨?_, fun _ p _ => ?_⟩
 ·unfold headB askB
  simp only [Bool.and_eq_true, Bool.or_eq_true, decide_eq_true_eq, hn]
  rcases hp with ⟨e1, e2, e3⟩ | ⟨e1, e2⟩
  ·constructor
   ·rintro ⟨⟨⟨⟨_, _⟩, q | q⟩, q2⟩, q3, q4⟩
    ·omega
    ·exact ⟨q3, .inl (by omega), q4, .inl trivial⟩
   ·rintro ⟨q1, q2, q3, _⟩
    exact ⟨⟨⟨⟨by omega, by omega⟩, .inr (by omega)⟩, by omega⟩, q1, q3⟩
  ·constructor
   ·rintro ⟨⟨⟨⟨_, _⟩, q⟩, q2⟩, q3, q4⟩
    exact ⟨q3, .inr (by omega), q4, .inl trivial⟩
   ·rintro ⟨q1, q2, q3, _⟩
    exact ⟨⟨⟨⟨by omega, by omega⟩, .inl (by omega)⟩, by omega⟩, q1, q3⟩
 ·rw [place_none h1 h2 h3 h4 h5]
  refine ⟨?_, by simpa [withL] using hz⟩
  simp [boundL, bit_zero, bit_two, bit_one, bit_four, withL]
theorem nums_free {k : Nat} {o n m : Int} {len : Nat} {zs : List Int} (h : o ≠ 0 ∧ o ≠ 1 ∧ o ≠ 6 ∧ o ≠ 7 ∧ o ≠ 15 ∧ o ≠ 22 ∧ o ≠ 23) (h1 : o ≠ 3) (h2 : o ≠ 4) (h3 : o ≠ 13) (h4 : o ≠ 17) (h5 : o ≠ 18) :
  numbersB k o n m len zs = true ↔ (lookB k 149 n = true ∧ (o ≠ 0 ∨ zs.contains n = true)) := by
 obtain ⟨a, b, c, d, e, f, g⟩ := h
 unfold numbersB
 rw [if_neg a, if_neg b, if_neg c, if_neg d, if_neg e, if_neg f, if_neg g, range_true (fun p => place_true h1 h2 h3 h4 h5)]
 simp [lookB, a]
theorem same_all {k : Nat} {o : Nat} (ho : o < 27) {n m : Int} {len : Nat} {zs : List Int} (hz : zs.all isVarB = true) : ∃ x, formT[o]? = some x ∧ sameB k (o : Int) n m len zs x := by
 have hv : zs.contains n = true → isVarB n = true := fun h => List.all_eq_true.1 hz n (List.contains_iff_mem.1 h)
 have two : ∀ {o : Int}, o = 3 ∨ o = 17 ∨ o = 18 → sameB k o n m len zs (2, 89, 2, 0) := by
  intro o h
  have hb : ∀ p, binderI o n m p = if p = 1 then n else -1 := by intro p; rcases h with rfl | rfl | rfl <;> simp [binderI]
  have hb0 : ∀ p, binderI o 0 0 p = if p = 1 then 0 else -1 := by intro p; rcases h with rfl | rfl | rfl <;> simp [binderI]
  have hpI : partsI o = 2 := by rcases h with rfl | rfl | rfl <;> rfl
  have hnum : numbersB k o n m len zs = (List.range len).all fun p => placeB o n m (p : Nat) := by rcases h with rfl | rfl | rfl <;> simp [numbersB]
  have ho0 : o ≠ 0 := by rcases h with rfl | rfl | rfl <;> simp
  have hnum2 : (List.range 2).all (fun p => placeB o n m (p : Nat)) = isVarB n := by
   rw [range_all.2.1]
   unfold placeB
   rw [hb, hb, hb0, hb0]
   by_cases hn : n = -1
   ·subst hn; rfl
   ·simp [hn]
  have hhead : headB k o n m len zs 1 = true ↔ (len = 2 ∧ isVarB n = true) := by
   unfold headB
   simp only [hpI, hnum, Bool.and_eq_true, Bool.or_eq_true, decide_eq_true_eq]
   constructor
   ·rintro ⟨⟨⟨_, q⟩, _⟩, q2⟩
    have : len = 2 := by omega
    subst this
    exact ⟨rfl, by rw [← hnum2]; exact q2⟩
   ·rintro ⟨rfl, q⟩
    exact ⟨⟨⟨by omega, by omega⟩, by omega⟩, by rw [hnum2]; exact q⟩
  refine ⟨?_, fun hh p hp => ?_⟩
  ·rw [hhead]
   unfold askB
   simp only [lookB]
   constructor
   ·rintro ⟨rfl, q⟩
    exact ⟨by simpa using q, .inl rfl, .inl ho0, .inl trivial⟩
   ·rintro ⟨q1, q2, _, _⟩
    exact ⟨by omega, by simpa using q1⟩
  ·obtain ⟨rfl, q⟩ := hhead.1 hh
   rw [hb]
   have : p = 0 ∨ p = 1 := by omega
   rcases this with rfl | rfl
   ·exact ⟨by simp [boundL, bit_zero, bit_two, bit_one, bit_four, withL], by simpa [withL] using hz⟩
   ·refine ⟨?_, withL_var hz (.inr (by simpa using q))⟩
    have := var_ne q
    simp [boundL, bit_zero, bit_two, bit_one, bit_four, withL, this]
 have hcase : ((o : Int) = 0 ∨ (o : Int) = 1 ∨ (o : Int) = 2 ∨ (o : Int) = 3 ∨ (o : Int) = 4 ∨ (o : Int) = 5 ∨ (o : Int) = 6 ∨ (o : Int) = 7 ∨ (o : Int) = 8 ∨ (o : Int) = 9 ∨ (o : Int) = 10 ∨ (o : Int) = 11 ∨ (o : Int) = 12 ∨ (o : Int) = 13 ∨ (o : Int) = 14 ∨ (o : Int) = 15 ∨ (o : Int) = 16 ∨ (o : Int) = 17 ∨ (o : Int) = 18 ∨ (o : Int) = 19 ∨ (o : Int) = 20 ∨ (o : Int) = 21 ∨ (o : Int) = 22 ∨ (o : Int) = 23 ∨ (o : Int) = 24 ∨ (o : Int) = 25 ∨ (o : Int) = 26) := by omega
 have free : ∀ {o : Nat} (parts : Int), ((o : Int) ≠ 0 ∧ (o : Int) ≠ 1 ∧ (o : Int) ≠ 6 ∧ (o : Int) ≠ 7 ∧ (o : Int) ≠ 15 ∧ (o : Int) ≠ 22 ∧ (o : Int) ≠ 23) → (o : Int) ≠ 3 ∧ (o : Int) ≠ 4 ∧ (o : Int) ≠ 13 ∧ (o : Int) ≠ 17 ∧ (o : Int) ≠ 18 →
   ((partsI o = parts ∧ 0 ≤ parts ∧ parts ≤ 3) ∨ (partsI o = -2 ∧ parts = -1)) → sameB k (o : Int) n m len zs (parts, 149, 0, 0) := fun parts a b c => same_plain hz b.1 b.2.1 b.2.2.1 b.2.2.2.1 b.2.2.2.2 c (nums_free a b.1 b.2.1 b.2.2.1 b.2.2.2.1 b.2.2.2.2)
 clear hcase
 have hc : o = 0 ∨ o = 1 ∨ o = 2 ∨ o = 3 ∨ o = 4 ∨ o = 5 ∨ o = 6 ∨ o = 7 ∨ o = 8 ∨ o = 9 ∨ o = 10 ∨ o = 11 ∨ o = 12 ∨ o = 13 ∨ o = 14 ∨ o = 15 ∨ o = 16 ∨ o = 17 ∨ o = 18 ∨ o = 19 ∨ o = 20 ∨ o = 21 ∨ o = 22 ∨ o = 23 ∨ o = 24 ∨ o = 25 ∨ o = 26 := by omega
 rcases hc with rfl | rfl | rfl | rfl | rfl | rfl | rfl | rfl | rfl | rfl | rfl | rfl | rfl | rfl | rfl | rfl | rfl | rfl | rfl | rfl | rfl | rfl | rfl | rfl | rfl | rfl | rfl
 ·exact ⟨_, rfl, same_plain hz (by decide) (by decide) (by decide) (by decide) (by decide) (.inl ⟨rfl, by decide, by decide⟩) (by simp [numbersB, lookB]; intro h; exact hv (by simpa using h))⟩
 ·exact ⟨_, rfl, same_plain hz (by decide) (by decide) (by decide) (by decide) (by decide) (.inl ⟨rfl, by decide, by decide⟩) (by simp [numbersB, lookB])⟩
 ·exact ⟨_, rfl, free _ (by decide) (by decide) (.inl ⟨rfl, by decide, by decide⟩)⟩
 ·exact ⟨_, rfl, two (.inl rfl)⟩
 ·refine ⟨_, rfl, ?_, ?_⟩
  ·unfold headB askB
   simp only [Bool.and_eq_true, Bool.or_eq_true, decide_eq_true_eq]
   constructor
   ·rintro ⟨⟨⟨_, q⟩, _⟩, q2⟩
    have hl : len = 1 := by
     have : partsI ((4 : Nat) : Int) = 1 := rfl
     omega
    subst hl
    refine ⟨?_, .inl rfl, .inl (by decide), .inl trivial⟩
    simp only [numbersB] at q2
    simp [range_all.1, placeB, binderI] at q2
    simp only [lookB]
    by_cases hn : n = -1
    ·subst hn; simp at q2
    ·simpa [hn] using q2
   ·rintro ⟨q1, q2, _, _⟩
    have hl : len = 1 := by omega
    subst hl
    refine ⟨⟨⟨⟨by omega, by decide⟩, .inr rfl⟩, by omega⟩, ?_⟩
    have hn := var_ne (n := n) (by simpa [lookB] using q1)
    simp [numbersB, range_all.1, placeB, binderI, hn]
    simpa [lookB] using q1
  ·intro hh p hp
   unfold headB at hh
   simp only [Bool.and_eq_true, Bool.or_eq_true, decide_eq_true_eq] at hh
   obtain ⟨⟨⟨_, q⟩, _⟩, q2⟩ := hh
   have hl : len = 1 := by
    have : partsI ((4 : Nat) : Int) = 1 := rfl
    omega
   subst hl
   have hp0 : p = 0 := by omega
   subst hp0
   simp only [numbersB] at q2
   simp [range_all.1, placeB, binderI] at q2
   by_cases hn : n = -1
   ·subst hn; simp at q2
   ·have hvn : isVarB n = true := by simpa [hn] using q2
    refine ⟨by simp [boundL, bit_zero, bit_two, bit_one, bit_four, withL, binderI, hn], withL_var hz (.inr (by simpa [binderI] using hvn))⟩
 ·exact ⟨_, rfl, free _ (by decide) (by decide) (.inl ⟨rfl, by decide, by decide⟩)⟩
 ·exact ⟨_, rfl, same_plain hz (by decide) (by decide) (by decide) (by decide) (by decide) (.inl ⟨rfl, by decide, by decide⟩) (by simp [numbersB, lookB])⟩
 ·exact ⟨_, rfl, same_plain hz (by decide) (by decide) (by decide) (by decide) (by decide) (.inl ⟨rfl, by decide, by decide⟩) (by simp [numbersB, lookB])⟩
 ·exact ⟨_, rfl, free _ (by decide) (by decide) (.inl ⟨rfl, by decide, by decide⟩)⟩
 ·exact ⟨_, rfl, free _ (by decide) (by decide) (.inl ⟨rfl, by decide, by decide⟩)⟩
 ·exact ⟨_, rfl, free _ (by decide) (by decide) (.inl ⟨rfl, by decide, by decide⟩)⟩
 ·exact ⟨_, rfl, free _ (by decide) (by decide) (.inl ⟨rfl, by decide, by decide⟩)⟩
 ·exact ⟨_, rfl, free _ (by decide) (by decide) (.inl ⟨rfl, by decide, by decide⟩)⟩
 ·have hnum3 : (List.range 3).all (fun p => placeB 13 n m (p : Nat)) = (isVarB n && isVarB m) := by
   rw [range_all.2.2]
   simp only [placeB, binderI]
   by_cases hn : n = -1
   ·subst hn; simp [isVarB]
   ·by_cases hm : m = -1
    ·subst hm; simp [isVarB]
    ·simp [hn, hm]
  have hhead : headB k ((13 : Nat) : Int) n m len zs 1 = true ↔ (len = 3 ∧ isVarB n = true ∧ isVarB m = true) := by
   have hpI : partsI ((13 : Nat) : Int) = 3 := rfl
   have hnum : numbersB k ((13 : Nat) : Int) n m len zs = (List.range len).all fun p => placeB 13 n m (p : Nat) := by simp [numbersB]
   unfold headB
   simp only [hpI, hnum, Bool.and_eq_true, Bool.or_eq_true, decide_eq_true_eq]
   constructor
   ·rintro ⟨⟨⟨_, q⟩, _⟩, q2⟩
    have : len = 3 := by omega
    subst this
    rw [hnum3, Bool.and_eq_true] at q2
    exact ⟨rfl, q2⟩
   ·rintro ⟨rfl, q⟩
    exact ⟨⟨⟨by omega, by omega⟩, by omega⟩, by rw [hnum3, Bool.and_eq_true]; exact q⟩
  refine ⟨_, rfl, ?_, fun hh p hp => ?_⟩
  ·rw [hhead]
   unfold askB
   simp only [lookB]
   constructor
   ·rintro ⟨rfl, q, q'⟩
    exact ⟨by simpa using q, .inl rfl, .inl (by decide), .inr q'⟩
   ·rintro ⟨q1, q2, _, q4⟩
    exact ⟨by omega, by simpa using q1, by rcases q4 with q4 | q4 <;> simp_all⟩
  ·obtain ⟨rfl, q, q'⟩ := hhead.1 hh
   have n1 := var_ne q
   have n2 := var_ne q'
   have : p = 0 ∨ p = 1 ∨ p = 2 := by omega
   rcases this with rfl | rfl | rfl
   ·exact ⟨by simp [boundL, bit_zero, bit_two, bit_one, bit_four, withL, binderI], by simpa [withL, binderI] using hz⟩
   ·exact ⟨by simp [boundL, bit_zero, bit_two, bit_one, bit_four, withL, binderI, n1], withL_var hz (.inr (by simpa [binderI] using q))⟩
   ·exact ⟨by simp [boundL, bit_zero, bit_two, bit_one, bit_four, withL, binderI, n2], withL_var hz (.inr (by simpa [binderI] using q'))⟩
 ·exact ⟨_, rfl, free _ (by decide) (by decide) (.inl ⟨rfl, by decide, by decide⟩)⟩
 ·exact ⟨_, rfl, same_plain hz (by decide) (by decide) (by decide) (by decide) (by decide) (.inl ⟨rfl, by decide, by decide⟩) (by simp [numbersB, lookB])⟩
 ·exact ⟨_, rfl, free _ (by decide) (by decide) (.inr ⟨rfl, rfl⟩)⟩
 ·exact ⟨_, rfl, two (.inr (.inl rfl))⟩
 ·exact ⟨_, rfl, two (.inr (.inr rfl))⟩
 ·exact ⟨_, rfl, free _ (by decide) (by decide) (.inl ⟨rfl, by decide, by decide⟩)⟩
 ·exact ⟨_, rfl, free _ (by decide) (by decide) (.inl ⟨rfl, by decide, by decide⟩)⟩
 ·exact ⟨_, rfl, free _ (by decide) (by decide) (.inl ⟨rfl, by decide, by decide⟩)⟩
 ·exact ⟨_, rfl, same_plain hz (by decide) (by decide) (by decide) (by decide) (by decide) (.inl ⟨rfl, by decide, by decide⟩) (by simp [numbersB, lookB])⟩
 ·exact ⟨_, rfl, same_plain hz (by decide) (by decide) (by decide) (by decide) (by decide) (.inl ⟨rfl, by decide, by decide⟩) (by simp [numbersB, lookB])⟩
 ·exact ⟨_, rfl, free _ (by decide) (by decide) (.inl ⟨rfl, by decide, by decide⟩)⟩
 ·exact ⟨_, rfl, free _ (by decide) (by decide) (.inl ⟨rfl, by decide, by decide⟩)⟩
 ·exact ⟨_, rfl, free _ (by decide) (by decide) (.inl ⟨rfl, by decide, by decide⟩)⟩
theorem head_deep {k : Nat} {o n m : Int} {len : Nat} {zs : List Int} {d : Nat} (h : d ≠ 0) : headB k o n m len zs d = headB k o n m len zs 1 := by
 unfold headB
 simp [h]
theorem head_zero {k : Nat} {o n m : Int} {len : Nat} {zs : List Int} : headB k o n m len zs 0 = false := by
 simp [headB]
theorem head_out {k : Nat} {o n m : Int} {len : Nat} {zs : List Int} {d : Nat} (h : ¬ (0 ≤ o ∧ o ≤ 26)) : headB k o n m len zs d = false := by
 have : partsI o = -1 := by
  unfold partsI
  split
  ·have : partsL.length ≤ o.toNat := by simp [partsL]; omega
   rw [List.getElem?_eq_none this]
   rfl
  ·rfl
 simp [headB, this]
theorem check_head {k : Nat} {o n m : Int} {len : Nat} {zs : List Int} {left : Int} {d : Nat} {go : Int → Int → Option Int} (hz : zs.all isVarB = true) (hd : d ≤ 40) :
  (headB k o n m len zs d = true ∧ 1 ≤ left ∧ ∃ x : Int × FuncId × Int × Int, Ex.check k o n m len left (41 - (d : Int)) zs go = go x.2.2.1 x.2.2.2 ∧ gotB o n m len zs x) ∨
  (¬ (headB k o n m len zs d = true ∧ 1 ≤ left) ∧ Ex.check k o n m len left (41 - (d : Int)) zs go = none) := by
 by_cases h0 : 1 ≤ left ∧ 41 - (d : Int) ≤ 40 ∧ 0 ≤ o ∧ o ≤ 26
 ·obtain ⟨a1, a2, a3, a4⟩ := h0
  obtain ⟨oN, rfl⟩ : ∃ oN : Nat, o = oN := ⟨o.toNat, by omega⟩
  obtain ⟨⟨parts, f, b1, b2⟩, hx, hs1, hs2⟩ := same_all (k := k) (o := oN) (by omega) (n := n) (m := m) (len := len) hz
  have hd0 : d ≠ 0 := by omega
  rw [head_deep hd0]
  have hck : Ex.check k (oN : Int) n m len left (41 - (d : Int)) zs go = if askB k (oN : Int) n m len zs (parts, f, b1, b2) then go b1 b2 else none := by
   unfold Ex.check
   rw [if_pos ⟨a1, a2, a3, a4⟩, Int.toNat_natCast, hx]
   rfl
  rw [hck]
  by_cases hh : headB k (oN : Int) n m len zs 1 = true
  ·exact .inl ⟨hh, a1, (parts, f, b1, b2), if_pos (hs1.1 hh), hs2 hh⟩
  ·exact .inr ⟨fun q => hh q.1, if_neg fun q => hh (hs1.2 q)⟩
 ·refine .inr ⟨?_, if_neg h0⟩
  rintro ⟨q1, q2⟩
  apply h0
  refine ⟨q2, ?_, ?_⟩
  ·by_cases hd0 : d = 0
   ·subst hd0
    rw [head_zero] at q1
    cases q1
   ·omega
  ·by_cases ho : 0 ≤ o ∧ o ≤ 26
   ·exact ho
   ·rw [head_out ho] at q1
    cases q1
def resW (b : Bool) (s : Nat) (left : Int) : Option Int := if b = true ∧ (s : Int) ≤ left then some (left - s) else none
theorem resW_yes {b : Bool} {s : Nat} {left : Int} (h1 : b = true) (h2 : (s : Int) ≤ left) : resW b s left = some (left - s) := if_pos ⟨h1, h2⟩
theorem resW_no {b : Bool} {s : Nat} {left : Int} (h : ¬ (b = true ∧ (s : Int) ≤ left)) : resW b s left = none := if_neg h
mutual
theorem Ex.walk_shp (k : Nat) : ∀ (e : Ex) (left : Int) (d : Nat) (zs : List Int), zs.all isVarB = true → d ≤ 40 → 0 ≤ left →
  e.walk k left (41 - (d : Int)) zs = resW (e.shp k zs d) e.size left
 | .leaf o n m e', left, d, zs, hz, hd, hl => by
  simp only [Ex.walk, Ex.shp, Ex.size]
  rcases check_head (k := k) (o := o) (n := n) (m := m) (len := 0) (left := left) (go := fun _ _ => some (left - 1)) hz hd with ⟨h1, h2, x, h3, h4⟩ | ⟨h1, h3⟩
  ·rw [h3, resW_yes h1 (by omega)]
   rfl
  ·rw [h3, resW_no fun q => h1 ⟨q.1, by have := q.2; omega⟩]
 | .node o n m x l, left, d, zs, hz, hd, hl => by
  simp only [Ex.shp, Ex.size]
  rw [Ex.walk_kids]
  simp only [Ex.op, Ex.num, Ex.mun, Ex.kids, List.length_cons]
  rcases check_head (k := k) (o := o) (n := n) (m := m) (len := l.length + 1) (left := left) (go := fun b1 b2 => Ex.walks k (x :: l) (left - 1) (41 - (d : Int) + 1) zs b1 b2 n m 0) hz hd with ⟨h1, h2, x', h3, h4⟩ | ⟨h1, h3⟩
  ·rw [h3]
   have hd0 : d ≠ 0 := by
    intro e
    subst e
    rw [head_zero] at h1
    cases h1
   have hdd : 41 - (d : Int) + 1 = 41 - ((d - 1 : Nat) : Int) := by omega
   simp only [Ex.walks]
   obtain ⟨g1, g2⟩ := h4 0 (by omega)
   rw [g1, hdd, Ex.walk_shp k x (left - 1) (d - 1) _ g2 (by omega) (by omega), h1, Bool.true_and]
   cases hx : x.shp k (withL zs (binderI o n m ((0 : Nat) : Int))) (d - 1) with
   | false =>
    rw [resW_no (by simp), Bool.false_and, resW_no (by simp)]
   | true =>
    by_cases hs : (x.size : Int) ≤ left - 1
    ·have hw := Ex.walks_shp k l (left - 1 - x.size) (d - 1) zs o n m x'.2.2.1 x'.2.2.2 1 (fun p hp1 hp2 => h4 p (by omega)) (by omega) (by omega)
     rw [resW_yes rfl hs, Bool.true_and]
     simp only [hw]
     by_cases hq : Ex.shps k o n m l 1 zs (d - 1) = true ∧ (Ex.sizes l : Int) ≤ left - 1 - x.size
     ·rw [resW_yes hq.1 hq.2, resW_yes hq.1 (by have := hq.2; omega)]
      congr 1
      omega
     ·rw [resW_no hq, resW_no fun q => hq ⟨q.1, by have := q.2; omega⟩]
    ·rw [resW_no fun q => hs q.2, resW_no fun q => hs (by have := q.2; omega)]
  ·rw [h3, resW_no fun q => h1 ⟨by have := q.1; rw [Bool.and_eq_true] at this; exact this.1, by have := q.2; omega⟩]
theorem Ex.walks_shp (k : Nat) : ∀ (l : List Ex) (left : Int) (d : Nat) (zs : List Int) (o n m b1 b2 : Int) (i : Nat),
  (∀ p : Nat, i ≤ p → p < i + l.length → boundL b1 b2 (p : Nat) zs n m = withL zs (binderI o n m (p : Nat)) ∧ (withL zs (binderI o n m (p : Nat))).all isVarB = true) → d ≤ 40 → 0 ≤ left →
  Ex.walks k l left (41 - (d : Int)) zs b1 b2 n m i = resW (Ex.shps k o n m l i zs d) (Ex.sizes l) left
 | [], left, d, zs, o, n, m, b1, b2, i, _, _, hl => by
  simp only [Ex.walks, Ex.shps, Ex.sizes]
  rw [resW_yes rfl (by omega)]
  congr 1
  omega
 | x :: l, left, d, zs, o, n, m, b1, b2, i, hb, hd, hl => by
  simp only [Ex.walks, Ex.shps, Ex.sizes]
  obtain ⟨g1, g2⟩ := hb i (Nat.le_refl _) (by simp)
  rw [g1, Ex.walk_shp k x left d _ g2 hd hl]
  cases hx : x.shp k (withL zs (binderI o n m (i : Nat))) d with
  | false =>
   rw [resW_no (by simp), Bool.false_and, resW_no (by simp)]
  | true =>
   by_cases hs : (x.size : Int) ≤ left
   ·have hw := Ex.walks_shp k l (left - x.size) d zs o n m b1 b2 (i + 1) (fun p hp1 hp2 => hb p (by omega) (by simp; omega)) hd (by omega)
    rw [resW_yes rfl hs, Bool.true_and]
    simp only [hw]
    by_cases hq : Ex.shps k o n m l (i + 1) zs d = true ∧ (Ex.sizes l : Int) ≤ left - x.size
    ·rw [resW_yes hq.1 hq.2, resW_yes hq.1 (by have := hq.2; omega)]
     congr 1
     omega
    ·rw [resW_no hq, resW_no fun q => hq ⟨q.1, by have := q.2; omega⟩]
   ·rw [resW_no fun q => hs q.2, resW_no fun q => hs (by have := q.2; omega)]
end
/-- a body, as the document has it -/
def okB (k : Nat) (f : Fu) : Bool := f.body.shp k [f.par] 40 && decide (f.body.size ≤ 600)
theorem body_same {k : Nat} {f : Fu} (h : isVarB f.par = true) : bodyB k f.body [f.par] = okB k f := by
 unfold bodyB okB
 have := Ex.walk_shp k f.body 600 40 [f.par] (by simp [h]) (Nat.le_refl _) (by decide)
 rw [show (41 - ((40 : Nat) : Int)) = 1 from rfl] at this
 rw [this]
 by_cases hq : f.body.shp k [f.par] 40 = true ∧ ((f.body.size : Nat) : Int) ≤ 600
 ·have h2 : f.body.size ≤ 600 := by have := hq.2; omega
  rw [resW_yes hq.1 hq.2, hq.1]
  simp [h2]
 ·rw [resW_no hq]
  cases hs : f.body.shp k [f.par] 40 with
  | false => rfl
  | true =>
   have h2 : ¬ f.body.size ≤ 600 := fun q => hq ⟨hs, by omega⟩
   simp [h2]
def headsB : List Fu → List Fu → Bool
 | _, [] => true
 | prev, f :: r => (decide (f.name.length ≤ 12) && nameB f.name && isVarB f.par && !(prev.any fun g => g.name == f.name)) && headsB (prev ++ [f]) r
def headF (fs : List Fu) (main : Int) : Bool := decide (1 ≤ fs.length ∧ fs.length ≤ 40) && isFunB fs.length main && headsB [] fs
theorem goods_same (k : Nat) : ∀ (l prev : List Fu), goodsB k prev l = (headsB prev l && l.all (okB k))
 | [], _ => rfl
 | f :: r, prev => by
  simp only [goodsB, headsB, List.all_cons, name_same, goods_same k r]
  cases hv : isVarB f.par with
  | false => simp
  | true =>
   rw [body_same hv]
   cases namedB f.name <;> cases (prev.any fun g => g.name == f.name) <;> cases okB k f <;> simp
/-- a program is well formed, as the document has it -/
theorem formed_same (fs : List Fu) (main : Int) : formedB fs main = (headF fs main && fs.all (okB fs.length)) := by
 unfold formedB headF
 rw [goods_same, Bool.and_assoc, Bool.and_assoc, Bool.and_assoc]
theorem joins2_ok : FOk 188 joinsG := by
 refine fok [] (by simp) ?_
 intro a r h
 unfold joinsG at h
 split at h
 ·rename_i n
  cases h
  refine ⟨rfl, rfl, 2, fun p hp => ?_⟩
  rw [callS_go rfl]
  simp only [fnA, ED_fn188, fi188, Tryz.f188]
  by_cases hj : n ∈ [(0 : Int), 2, 7, 8, 9, 10, 11]
  ·simp only [List.mem_cons, List.mem_nil_iff, or_false] at hj
   rcases hj with rfl | rfl | rfl | rfl | rfl | rfl | rfl <;> (simp [vmS, lenA, indexAddrA]; exact hp _ _ rfl)
  ·have hb : joinB n = false := by
    unfold joinB
    cases hc : [(0 : Int), 2, 7, 8, 9, 10, 11].contains n with
    | false => rfl
    | true => exact absurd (List.contains_iff_mem.1 hc) hj
   simp only [List.mem_cons, List.mem_nil_iff, or_false, not_or] at hj
   obtain ⟨h1, h2, h3, h4, h5, h6, h7⟩ := hj
   simp [vmS, lenA, indexAddrA, h1, h2, h3, h4, h5, h6, h7]
   exact hp _ _ (by rw [hb]; rfl)
 ·cases h
theorem joins2_use {l : Sm} (h : sumG l 188 = joinsG) {n : Nat} {x : Int} {S : St} : callS ED (sumG l) n (.fn 188) [.int .i64 x] S = some (.ret (.bool (joinB x)), S) :=
 callS_sum (by rw [h]; rfl)
/-! which variable -/
def binderG : List AV → Option FRes
 | [.agg [.int .i64 o, .int .i64 n, .int .i64 m, A], .int .i64 p] => if A.pers = true ∧ A.isCell = true then some (.ret (.int .i64 (binderI o n m p))) else none
 | _ => none
theorem binder_ok : FOk 39 binderG := by
 refine fok [] (by simp) ?_
 intro a r h
 unfold binderG at h
 split at h
 ·rename_i o n m A p'
  split at h
  ·rename_i hA
   cases h
   refine ⟨by simp [AV.persL, AV.pers, hA.1], rfl, 2, fun p hp => ?_⟩
   rw [callS_go rfl]
   simp only [fnA, ED_fn39, fi39, Tryz.f39]
   have hd : (o = 3 ∨ o = 4 ∨ o = 13 ∨ o = 17 ∨ o = 18) ∨ (o ≠ 3 ∧ o ≠ 4 ∧ o ≠ 13 ∧ o ≠ 17 ∧ o ≠ 18) := by omega
   rcases hd with hd | ⟨h3, h4, h13, h17, h18⟩
   ·by_cases p1 : p' = 1
    ·subst p1
     rcases hd with rfl | rfl | rfl | rfl | rfl <;> (simp [vmS, lenA, indexAddrA, hA.2]; exact hp _ _ rfl)
    ·by_cases p2 : p' = 2
     ·subst p2
      rcases hd with rfl | rfl | rfl | rfl | rfl <;> (simp [vmS, lenA, indexAddrA, hA.2]; exact hp _ _ rfl)
     ·rcases hd with rfl | rfl | rfl | rfl | rfl <;> (simp [vmS, lenA, indexAddrA, hA.2, p1, p2]; exact hp _ _ (by simp [binderI, p1, p2]; rfl))
   ·simp [vmS, lenA, indexAddrA, hA.2, h3, h4, h13, h17, h18]
    exact hp _ _ (by simp [binderI, h3, h4, h13, h17, h18]; rfl)
  ·cases h
 ·cases h
theorem binder_use {l : Sm} (h : sumG l 39 = binderG) {k : Nat} {o n m p : Int} {A : AV} {S : St} (hA : A.pers = true ∧ A.isCell = true) :
  callS ED (sumG l) k (.fn 39) [.agg [.int .i64 o, .int .i64 n, .int .i64 m, A], .int .i64 p] S = some (.ret (.int .i64 (binderI o n m p)), S) := by
 have hd : A.dead = A := dead_of_pers _ hA.1
 exact callS_sum (by rw [h]; simp [AV.dead, AV.deadL, hd, binderG, hA])
def bindsG : List AV → Option FRes
 | [.agg [.int .i64 o, .int .i64 _, .int .i64 _, A], .int .i64 p] => if A.pers = true ∧ A.isCell = true then some (.ret (.bool (decide (binderI o 0 0 p = 0)))) else none
 | _ => none
theorem binds_ok : FOk 189 bindsG := by
 refine fok [(39, binderG)] (by simp; exact binder_ok) ?_
 intro a r h
 unfold bindsG at h
 split at h
 ·rename_i o n m A p'
  split at h
  ·rename_i hA
   cases h
   refine ⟨by simp [AV.persL, AV.pers, hA.1], rfl, 2, fun p hp => ?_⟩
   rw [callS_go rfl]
   have bu := fun k x y p S => binder_use (l := [(39, binderG)]) rfl (k := k) (o := o) (n := x) (m := y) (p := p) (S := S) hA
   simp only [fnA, ED_fn189, fi189, Tryz.f189]
   simp [vmS, lenA, indexAddrA, hA.2, bu]
   exact hp _ _ (by simp [FRes.melt, AV.melt, AV.dead])
  ·cases h
 ·cases h
theorem binds_use {l : Sm} (h : sumG l 189 = bindsG) {k : Nat} {o n m p : Int} {A : AV} {S : St} (hA : A.pers = true ∧ A.isCell = true) :
  callS ED (sumG l) k (.fn 189) [.agg [.int .i64 o, .int .i64 n, .int .i64 m, A], .int .i64 p] S = some (.ret (.bool (decide (binderI o 0 0 p = 0))), S) := by
 have hd : A.dead = A := dead_of_pers _ hA.1
 exact callS_sum (by rw [h]; simp [AV.dead, AV.deadL, hd, bindsG, hA])
/-! lists -/
def hasG : List AV → Option FRes
 | [.slice es .dead, .int .i64 n] => match intsOf es with
  | some zs => if zs.length ≤ 1000000 then some (.ret (.bool (zs.contains n))) else none
  | none => none
 | _ => none
theorem has_ok : FOk 106 hasG := by
 refine fok [] (by simp) ?_
 intro a r h
 unfold hasG at h
 split at h
 ·rename_i es n
  split at h
  ·rename_i zs hzs
   split at h
   ·rename_i hlen
    cases h
    have := intsOf_eq hzs
    subst this
    refine ⟨by simp [AV.persL, AV.pers, ints_pers], rfl, zs.length + 2, fun p hp => ?_⟩
    rw [callS_go rfl]
    have hl : (ints zs).length = zs.length := by simp [ints]
    simp only [fnA, ED_fn106, fi106, Tryz.f106]
    have ls : lenA ED 35 (.slice (ints zs) .dead) = some (.int .i64 zs.length) := by
     have : ∀ es : List AV, lenA ED 35 (.slice es .dead) = some (.int .i64 (es.length : Nat)) := fun es => rfl
     rw [this, hl]
    simp [vmS]
    generalize hc : iter _ _ _ _ = c
    obtain ⟨ex, L1, S1, rfl, hq⟩ := loop_of hc
     (fun r L S' => ∃ (j : Nat) (sc : List (Tmp × AV)), j + r = zs.length ∧ (zs.drop j).contains n = zs.contains n ∧ L = vloc [.slice (ints zs) .dead, .int .i64 n, .bool false, .int .i64 (j : Nat)] sc ∧ S' = S0)
     (fun ex L S' => S' = S0 ∧ ∃ (y : AV) (sc : List (Tmp × AV)), (ex = .exit 0 ∧ zs.contains n = false ∧ L = vloc [.slice (ints zs) .dead, .int .i64 n, .bool false, y] sc) ∨ (ex = .ret ∧ zs.contains n = true ∧ L = vloc [.slice (ints zs) .dead, .int .i64 n, .bool true, y] sc))
     zs.length (by omega)
     ⟨0, _, by simp, by simp, rfl, rfl⟩
     (by
      rintro r L S' ⟨j, sc, hjk, hs, rfl, rfl⟩ q hq1 hq2
      by_cases hj : j < zs.length
      ·have hw : IntKind.i64.wrap ((j : Int) + 1) = ((j : Int) + 1) := wrap_id (by omega) (by omega)
       have hix := index_ints (t := 35) (tk := .dead) rfl hj
       rw [List.drop_eq_getElem_cons hj, List.contains_cons] at hs
       generalize zs[j] = z at *
       by_cases hz : n = z
       ·subst hz
        simp [vmS, vloc, ls, hj, hw, hix]
        exact hq2 _ _ _ (by simp) ⟨rfl, _, _, .inr ⟨rfl, by rw [← hs]; simp, rfl⟩⟩
       ·have hz' : (z = n) = False := eq_false fun e => hz e.symm
        have hz'' : (n == z) = false := by simpa using hz
        rw [hz'', Bool.false_or] at hs
        simp [vmS, vloc, ls, hj, hw, hix, hz']
        exact hq1 (r - 1) _ _ (by omega) ⟨j + 1, _, by omega, by simpa using hs, rfl, rfl⟩
      ·have hjl : j = zs.length := by omega
       subst hjl
       rw [List.drop_length] at hs
       simp [vmS, vloc, ls]
       exact hq2 _ _ _ (by simp) ⟨rfl, _, _, .inl ⟨rfl, by rw [← hs]; rfl, rfl⟩⟩)
    obtain ⟨rfl, y, sc, ⟨rfl, ha, rfl⟩ | ⟨rfl, ha, rfl⟩⟩ := hq
    ·simp [vmS, vloc]
     exact hp _ _ (by rw [ha]; rfl)
    ·simp [vmS, vloc]
     exact hp _ _ (by rw [ha]; rfl)
   ·cases h
  ·cases h
 ·cases h
theorem has_use {l : Sm} (h : sumG l 106 = hasG) {n : Nat} {zs : List Int} {tk : Tk} {z : Int} {S : St} (hl : zs.length ≤ 1000000) :
  callS ED (sumG l) n (.fn 106) [.slice (ints zs) tk, .int .i64 z] S = some (.ret (.bool (zs.contains z)), S) :=
 callS_sum (by rw [h]; simp [ints_dead, AV.dead, hasG, intsOf_ints, hl])
def withG : List AV → Option FRes
 | [.slice es .dead, .int .i64 n] => match intsOf es with
  | some zs => if zs.length ≤ 1000000 ∧ zs ≠ [] then some (.ret (.slice (ints (withL zs n)) .dead)) else none
  | none => none
 | _ => none
theorem app_lit {S : St} {zs : List Int} (h : zs.length ≤ 1000000) (hne : zs ≠ []) : appendA ED S 3 (.slice [] .lit) (ints zs) = some (.rsl S.n 0 zs.length 0, (S.push (.cells (ints zs))).push (.tok false)) := by
 have hl : (ints zs).length = zs.length := by simp [ints]
 obtain ⟨c1, c2, c3⟩ := ints_cells zs
 have hc : ((ints zs).flatMap AV.cells).all (·.isCell) = true ∧ (ints zs).all (fun v => v.cells.length = 1) = true ∧ (1 : Nat) ≠ 0 := by
  refine ⟨by rw [flat_cells c2]; exact c2, ?_, by decide⟩
  rw [List.all_eq_true]
  intro x hx
  have := List.all_eq_true.1 c2 x hx
  simpa using isCell_len this
 cases hz : ints zs with
 | nil => rw [hz] at hl; exact absurd (List.length_eq_zero_iff.1 hl.symm) hne
 | cons a r =>
  rw [hz] at hc hl
  have hfl : (a :: r).flatMap AV.cells = a :: r := by rw [← hz]; exact flat_cells c2
  unfold appendA
  simp only [ED_ti3]
  rw [if_pos hc]
  try simp only []
  rw [if_pos ⟨by first | rfl | trivial, by first | rfl | trivial⟩, if_pos ⟨by first | rfl | trivial, by simp only [roomOk, roomMost, ti3, decide_eq_true_eq, hl]; omega⟩, hfl, hl]
theorem app_rsl {S : St} {id : Nat} {zs : List Int} {x : Int} (h : zs.length ≤ 1000000) (hne : zs ≠ []) (hc : S.cells? id = some (ints zs)) (ht : S.get (id + 1) = some (.tok false)) :
  appendA ED S 3 (.rsl id 0 zs.length 0) [.int .i64 x] = some (.rsl S.n 0 (zs.length + 1) 0, (((S.put id (.cells [])).put (id + 1) (.tok true)).push (.cells (ints (zs ++ [x])))).push (.tok false)) := by
 have hl : (ints zs).length = zs.length := by simp [ints]
 have hz0 : zs.length ≠ 0 := fun e => hne (List.length_eq_zero_iff.1 e)
 obtain ⟨c1, c2, c3⟩ := ints_cells zs
 unfold appendA
 simp only [ED_ti3]
 rw [if_pos ⟨by first | rfl | trivial, by first | rfl | trivial, by decide⟩]
 try simp only []
 rw [if_neg (by simp), if_pos ⟨by first | rfl | trivial, hz0⟩]
 simp only [hc, ht]
 rw [if_pos ⟨by first | rfl | trivial, by first | rfl | trivial, by simp, hl, c2, by simp [roomOk, roomMost, ti3]; omega⟩]
 simp [ints, AV.cells]
theorem melt_ints0 {S : St} {i len : Nat} {cs : List Int} (h : S.cells? i = some (ints cs)) (h1 : len = cs.length) : (FRes.ret (.rsl i 0 len 0)).melt S = .ret (.slice (ints cs) .dead) := by
 have hl : (ints cs).length = cs.length := by simp [ints]
 subst h1
 simp only [FRes.melt, AV.melt, h, List.drop_zero, ints_dead]
 rw [if_pos ⟨by omega, .inr trivial, (ints_cells cs).2.1⟩, List.take_of_length_le (by omega), ints_dead]
theorem with_ok : FOk 108 withG := by
 refine fok [] (by simp) ?_
 intro a r h
 unfold withG at h
 split at h
 ·rename_i es n
  split at h
  ·rename_i zs hzs
   split at h
   ·rename_i hc
    obtain ⟨hlen, hne⟩ := hc
    cases h
    have := intsOf_eq hzs
    subst this
    refine ⟨by simp [AV.persL, AV.pers, ints_pers], by simp [FRes.pers, AV.pers, ints_pers], 2, fun p hp => ?_⟩
    rw [callS_go rfl]
    simp only [fnA, ED_fn108, fi108, Tryz.f108]
    by_cases hn : n = -1
    ·subst hn
     simp [vmS, lenA, indexAddrA]
     exact hp _ _ (by simp [FRes.melt, AV.melt, AV.dead, ints_dead, withL])
    ·have a1 := app_lit (S := S0) hlen hne
     have hc0 : ((S0.push (.cells (ints zs))).push (.tok false)).cells? 0 = some (ints zs) := by simp [push_at, n_push', n_S0, cellsOf?]
     have ht0 : ((S0.push (.cells (ints zs))).push (.tok false)).get (0 + 1) = some (.tok false) := by
      have := St.get_push_self (S0.push (.cells (ints zs))) (.tok false)
      rwa [n_push', n_S0] at this
     have a2 := app_rsl (x := n) hlen hne hc0 ht0
     simp only [n_S0] at a1
     have hT2 : ((S0.push (.cells (ints zs))).push (.tok false)).n = 2 := by simp [n_push', n_S0]
     rw [hT2] at a2
     simp [vmS, lenA, indexAddrA, hn, a1, a2]
     refine hp _ _ (melt_ints0 ?_ ?_)
     ·simp [push_at, n_push', put_at, n_put', hT2, n_S0, withL, hn, cellsOf?]
     ·simp [withL, hn]
   ·cases h
  ·cases h
 ·cases h
theorem with_use {l : Sm} (h : sumG l 108 = withG) {k : Nat} {zs : List Int} {tk : Tk} {n : Int} {S : St} (hl : zs.length ≤ 1000000) (hne : zs ≠ []) :
  callS ED (sumG l) k (.fn 108) [.slice (ints zs) tk, .int .i64 n] S = some (.ret (.slice (ints (withL zs n)) .dead), S) :=
 callS_sum (by rw [h]; simp [ints_dead, AV.dead, withG, intsOf_ints, hl, hne])
def placesFrom (o n m : Int) : Nat → Nat → Bool
 | _, 0 => true
 | j, r + 1 => placeB o n m (j : Nat) && placesFrom o n m (j + 1) r
theorem places_range (o n m : Int) : ∀ r j, (List.range' j r).all (fun p => placeB o n m (p : Nat)) = placesFrom o n m j r
 | 0, _ => rfl
 | r + 1, j => by
  rw [List.range'_succ, List.all_cons, places_range o n m r (j + 1)]
  rfl
theorem places_all (o n m : Int) (len : Nat) : (List.range len).all (fun p => placeB o n m (p : Nat)) = placesFrom o n m 0 len := by
 rw [List.range_eq_range']
 exact places_range o n m len 0
noncomputable def numbersG : List AV → Option FRes
 | [v, .int .i64 many, .slice es .dead] => match exOf v, intsOf es with
  | some e, some zs => if zs.length ≤ 1000000 ∧ e.kids.length ≤ 1000 ∧ 0 ≤ many ∧ many ≤ 1000000 then some (.ret (.bool (numbersB many.toNat e.op e.num e.mun e.kids.length zs))) else none
  | _, _ => none
 | _ => none
def LQ6 : Sm := [(106, hasG), (187, wordG), (60, withinG), (188, joinsG), (39, binderG), (189, bindsG)]
theorem LQ6_ok : ∀ x ∈ LQ6, FOk x.1 x.2 := by
 intro x hx
 simp only [LQ6, List.mem_cons, List.mem_nil_iff, or_false] at hx
 rcases hx with rfl | rfl | rfl | rfl | rfl | rfl
 ·exact has_ok
 ·exact word_ok
 ·exact in_ok
 ·exact joins2_ok
 ·exact binder_ok
 ·exact binds_ok
theorem numbers_ok : FOk 142 numbersG := by
 refine fok LQ6 LQ6_ok ?_
 intro a r h
 unfold numbersG at h
 split at h
 ·rename_i v many es
  split at h
  ·rename_i e zs he hzs
   split at h
   ·rename_i hc
    obtain ⟨hzl, hkl, hm0, hm1⟩ := hc
    obtain ⟨hfit, rfl⟩ := exOf_some he
    have := intsOf_eq hzs
    subst this
    cases h
    refine ⟨by simp [AV.persL, AV.pers, ints_pers, Ex.pers], rfl, e.kids.length + 3, fun p hp => ?_⟩
    rw [callS_go rfl]
    have hu := fun m z S => has_use (l := LQ6) rfl (n := m) (zs := zs) (tk := .dead) (z := z) (S := S) hzl
    have wu := fun m x S => word_use (l := LQ6) rfl (n := m) (x := x) (S := S)
    have iu := fun m x a b S => in_use (l := LQ6) rfl (n := m) (x := x) (a := a) (b := b) (S := S)
    have ju := fun m x S => joins2_use (l := LQ6) rfl (n := m) (x := x) (S := S)
    have hlen := e.len
    obtain ⟨hc1, hc2, hc3⟩ := e.cell
    have hlp := e.lst_pers
    have bu := fun k o n m p S => binder_use (l := LQ6) rfl (k := k) (o := o) (n := n) (m := m) (p := p) (A := e.lst) (S := S) ⟨hlp, hc1⟩
    have bs := fun k o n m p S => binds_use (l := LQ6) rfl (k := k) (o := o) (n := n) (m := m) (p := p) (A := e.lst) (S := S) ⟨hlp, hc1⟩
    have hmw : IntKind.i64.wrap (many - 1) = many - 1 := wrap_id (by omega) (by omega)
    have hmt : ((many.toNat : Nat) : Int) = many := by omega
    rw [e.look]
    simp only [fnA, ED_fn142, fi142, Tryz.f142]
    generalize e.op = o at *
    generalize e.num = N at *
    generalize e.mun = M at *
    generalize e.lst = A at *
    generalize e.kids.length = len at *
    by_cases o0 : o = 0
    ·subst o0
     simp [vmS, lenA, indexAddrA, hc1, hu]
     exact hp _ _ (by simp [FRes.melt, AV.melt, AV.dead, numbersB])
    by_cases o1 : o = 1
    ·subst o1
     simp [vmS, lenA, indexAddrA, hc1, wu]
     exact hp _ _ (by simp [FRes.melt, AV.melt, AV.dead, numbersB])
    by_cases o6 : o = 6
    ·subst o6
     simp [vmS, lenA, indexAddrA, hc1, iu, hmw]
     exact hp _ _ (by simp [FRes.melt, AV.melt, AV.dead, numbersB, isFunB, hmt])
    by_cases o7 : o = 7
    ·subst o7
     simp [vmS, lenA, indexAddrA, hc1, iu, hmw]
     exact hp _ _ (by simp [FRes.melt, AV.melt, AV.dead, numbersB, isFunB, hmt])
    by_cases o15 : o = 15
    ·subst o15
     simp [vmS, lenA, indexAddrA, hc1, iu]
     exact hp _ _ (by simp [FRes.melt, AV.melt, AV.dead, numbersB, isOpB])
    by_cases o22 : o = 22
    ·subst o22
     simp [vmS, lenA, indexAddrA, hc1, ju]
     exact hp _ _ (by simp [FRes.melt, AV.melt, AV.dead, numbersB])
    by_cases o23 : o = 23
    ·subst o23
     simp [vmS, lenA, indexAddrA, hc1, ju]
     exact hp _ _ (by simp [FRes.melt, AV.melt, AV.dead, numbersB])
    have hB : numbersB many.toNat o N M len zs = placesFrom o N M 0 len := by
     unfold numbersB
     rw [if_neg o0, if_neg o1, if_neg o6, if_neg o7, if_neg o15, if_neg o22, if_neg o23, places_all]
    rw [hB] at hp
    simp [vmS, hc1, o0, o1, o6, o7, o15, o22, o23]
    generalize hR : placesFrom o N M 0 len = R at hp
    generalize hT : S0.push (.cells [.int .i64 o, .int .i64 N, .int .i64 M, A]) = T
    have tb : T.bad = false := by subst hT; rfl
    have tw : T.wb = 0 := by subst hT; rfl
    have t0 : T.cells? 0 = some [.int .i64 o, .int .i64 N, .int .i64 M, A] := by subst hT; simp [push_at, n_push', n_S0, cellsOf?]
    generalize hc : iter _ _ _ _ = c
    obtain ⟨ex, L1, S1, rfl, hq⟩ := loop_of hc
     (fun r L S' => ∃ (j : Nat) (y : AV) (sc : List (Tmp × AV)), j + r = len ∧ placesFrom o N M j r = R ∧ L = vloc [.agg [.int .i64 o, .int .i64 N, .int .i64 M, A], .int .i64 many, .slice (ints zs) .dead, .ptr 0 0, .bool false, .int .i64 (j : Nat), y, .int .i64 o, .bool false, .bool false] sc ∧ S' = T)
     (fun ex L S' => S' = T ∧ ∃ (x y : AV) (sc : List (Tmp × AV)), (ex = .exit 1 ∧ R = true ∧ L = vloc [.agg [.int .i64 o, .int .i64 N, .int .i64 M, A], .int .i64 many, .slice (ints zs) .dead, .ptr 0 0, .bool false, x, y, .int .i64 o, .bool false, .bool false] sc) ∨
      (ex = .ret ∧ R = false ∧ L = vloc [.agg [.int .i64 o, .int .i64 N, .int .i64 M, A], .int .i64 many, .slice (ints zs) .dead, .ptr 0 0, .bool false, x, y, .int .i64 o, .bool false, .bool false] sc))
     len (by omega)
     ⟨0, _, _, by simp, hR, rfl, rfl⟩
     (by
      rintro r L S' ⟨j, y, sc, hjk, hs, rfl, rfl⟩ q hq1 hq2
      by_cases hj : j < len
      ·have hw : IntKind.i64.wrap ((j : Int) + 1) = ((j : Int) + 1) := wrap_id (by omega) (by omega)
       obtain ⟨r', rfl⟩ : ∃ r', r = r' + 1 := ⟨r - 1, by omega⟩
       simp only [placesFrom, placeB] at hs
       have bu := fun k S => bu k o N M (j : Nat) S
       have bs := fun k S => bs k o N M (j : Nat) S
       generalize binderI o N M (j : Nat) = bi at *
       generalize decide (binderI o 0 0 (j : Nat) = 0) = bb at *
       by_cases hb : bi = -1
       ·subst hb
        rw [if_pos rfl] at hs
        cases bb with
        | true =>
         simp [vmS, vloc, tb, tw, t0, hlen, hj, hw, bu, bs, iu, unA]
         exact hq2 _ _ _ (by simp) ⟨rfl, _, _, _, .inr ⟨rfl, by rw [← hs]; rfl, rfl⟩⟩
        | false =>
         simp [vmS, vloc, tb, tw, t0, hlen, hj, hw, bu, bs, iu, unA]
         exact hq1 r' _ _ (by omega) ⟨j + 1, _, _, by omega, by simpa using hs, rfl, rfl⟩
       ·rw [if_neg hb] at hs
        have iv : ∀ m S, callS ED (sumG LQ6) m (.fn 60) [.int .i64 bi, .int .i64 0, .int .i64 399] S = some (.ret (.bool (isVarB bi)), S) := fun m S => iu m bi 0 399 S
        cases hv : isVarB bi with
        | true =>
         rw [hv] at hs iv
         simp [vmS, vloc, tb, tw, t0, hlen, hj, hw, bu, bs, iv, unA, hb]
         exact hq1 r' _ _ (by omega) ⟨j + 1, _, _, by omega, by simpa using hs, rfl, rfl⟩
        | false =>
         rw [hv] at hs iv
         simp [vmS, vloc, tb, tw, t0, hlen, hj, hw, bu, bs, iv, unA, hb]
         exact hq2 _ _ _ (by simp) ⟨rfl, _, _, _, .inr ⟨rfl, by rw [← hs]; rfl, rfl⟩⟩
      ·have hr0 : r = 0 := by omega
       subst hr0
       have hjl : j = len := by omega
       subst hjl
       simp [vmS, vloc, tb, tw, t0, hlen]
       exact hq2 _ _ _ (by simp) ⟨rfl, _, _, _, .inl ⟨rfl, by rw [← hs]; rfl, rfl⟩⟩)
    obtain ⟨rfl, x, y, sc, ⟨rfl, ha, rfl⟩ | ⟨rfl, ha, rfl⟩⟩ := hq
    ·simp [vmS, vloc, tb, tw]
     exact hp _ _ (by rw [ha]; rfl)
    ·simp [vmS, vloc, tb, tw]
     exact hp _ _ (by rw [ha]; rfl)
   ·cases h
  ·cases h
 ·cases h
theorem numbers_use {l : Sm} (h : sumG l 142 = numbersG) {m : Nat} {e : Ex} {k : Nat} {zs : List Int} {tk : Tk} {S : St} (he : e.fit) (hz : zs.length ≤ 1000000) (hl : e.kids.length ≤ 1000) (hk : k ≤ 1000000) :
  callS ED (sumG l) m (.fn 142) [.agg [.int .i64 e.op, .int .i64 e.num, .int .i64 e.mun, e.lst], .int .i64 (k : Nat), .slice (ints zs) tk] S = some (.ret (.bool (numbersB k e.op e.num e.mun e.kids.length zs)), S) := by
 rw [← e.look]
 refine callS_sum ?_
 have h1 : (0 : Int) ≤ (k : Nat) := by omega
 have h2 : ((k : Nat) : Int) ≤ 1000000 := by omega
 rw [h]
 simp [numbersG, exOf_enc he, intsOf_ints, ints_dead, AV.dead, hz, hl, h1, h2]
end Go.Vm.L
