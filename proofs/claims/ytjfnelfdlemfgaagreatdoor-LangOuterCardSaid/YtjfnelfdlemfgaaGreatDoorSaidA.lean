/-
What the document says of names. No conditions.
-/
import Derived.Test.YtjfnelfdlemfgaaGreatDoorNodeF
set_option linter.all false
set_option maxHeartbeats 4000000
namespace Go.Vm.L
open Go Go.Proofs Go.Vm
set_option maxRecDepth 100000
attribute [local simp] inFrame startLoc startVals Loc.clear blockC Loc.putO Loc.put idx evO constV Loc.get Vm.look intA unwindA resultsA resultV actA pureA storeA loadA fillE repElems TI.zeroV fieldOf fieldAddrA fieldA elemsA retE cellsOf? setCells nowhere mapHead headNext
theorem in_ok : FOk 60 withinG := by
 refine fok [] (by simp) ?_
 intro a r h
 unfold withinG at h
 split at h
 ·rename_i n lo hi
  cases h
  refine ⟨rfl, rfl, 1, fun p hp => ?_⟩
  rw [callS_go rfl]
  simp only [fnA, ED_fn60, fi60, Tryz.f60]
  by_cases h1 : lo ≤ n
  ·simp [vmS, lenA, indexAddrA, h1]
   exact hp _ _ (by simp [FRes.melt, AV.melt, AV.dead, h1])
  ·simp [vmS, lenA, indexAddrA, h1]
   exact hp _ _ (by simp [FRes.melt, AV.melt, AV.dead, h1])
 ·cases h
theorem in_use {l : Sm} (h : sumG l 60 = withinG) {n : Nat} {x a b : Int} {S : St} : callS ED (sumG l) n (.fn 60) [.int .i64 x, .int .i64 a, .int .i64 b] S = some (.ret (.bool (decide (a ≤ x ∧ x ≤ b))), S) :=
 callS_sum (by rw [h]; rfl)
def bytesG (lo hi : Int) : List AV → Option FRes
 | [.int .u8 c] => some (.ret (.bool (decide (lo ≤ c) && decide (c ≤ hi))))
 | _ => none
theorem letter_ok : FOk 72 (bytesG 97 122) := by
 refine fok [] (by simp) ?_
 intro a r h
 unfold bytesG at h
 split at h
 ·rename_i c
  cases h
  refine ⟨rfl, rfl, 1, fun p hp => ?_⟩
  rw [callS_go rfl]
  simp only [fnA, ED_fn72, fi72, Tryz.f72]
  by_cases h1 : 97 ≤ c
  ·simp [vmS, lenA, indexAddrA, h1]
   exact hp _ _ (by simp [FRes.melt, AV.melt, AV.dead, h1])
  ·simp [vmS, lenA, indexAddrA, h1]
   exact hp _ _ (by simp [FRes.melt, AV.melt, AV.dead, h1])
 ·cases h
theorem digit_ok : FOk 73 (bytesG 48 57) := by
 refine fok [] (by simp) ?_
 intro a r h
 unfold bytesG at h
 split at h
 ·rename_i c
  cases h
  refine ⟨rfl, rfl, 1, fun p hp => ?_⟩
  rw [callS_go rfl]
  simp only [fnA, ED_fn73, fi73, Tryz.f73]
  by_cases h1 : 48 ≤ c
  ·simp [vmS, lenA, indexAddrA, h1]
   exact hp _ _ (by simp [FRes.melt, AV.melt, AV.dead, h1])
  ·simp [vmS, lenA, indexAddrA, h1]
   exact hp _ _ (by simp [FRes.melt, AV.melt, AV.dead, h1])
 ·cases h
def byteB (lo hi : Int) (c : UInt8) : Bool := decide (lo ≤ (c.toNat : Int)) && decide ((c.toNat : Int) ≤ hi)
theorem byte_use {l : Sm} {f : FuncId} {lo hi : Int} (h : sumG l f = bytesG lo hi) {n : Nat} {c : UInt8} {S : St} : callS ED (sumG l) n (.fn f) [.int .u8 c.toNat] S = some (.ret (.bool (byteB lo hi c)), S) :=
 callS_sum (by rw [h]; rfl)
theorem index_str {s : List UInt8} {j : Nat} (h : j < s.length) : indexA ED 9 (.str s) (.int .i64 (j : Nat)) = some (.int .u8 s[j].toNat) := by
 have h0 : (0 : Int) ≤ (j : Nat) ∧ ((j : Nat) : Int) < (s.length : Nat) := ⟨by omega, by omega⟩
 simp only [indexA, ED_desc9]
 rw [if_pos h0]
 simp [h]
def digitsB (s : List UInt8) : Bool := s.all (byteB 48 57) && decide (0 < s.length)
def digitsG : List AV → Option FRes
 | [.str s] => if s.length ≤ 1000000 then some (.ret (.bool (digitsB s))) else none
 | _ => none
theorem digits_ok : FOk 128 digitsG := by
 refine fok [(73, bytesG 48 57)] (by simp; exact digit_ok) ?_
 intro a r h
 unfold digitsG at h
 split at h
 ·rename_i s
  split at h
  ·rename_i hl
   cases h
   refine ⟨rfl, rfl, s.length + 3, fun p hp => ?_⟩
   rw [callS_go rfl]
   have bu := fun m c S => byte_use (l := [(73, bytesG 48 57)]) (f := 73) (lo := 48) (hi := 57) rfl (n := m) (c := c) (S := S)
   have ls : lenA ED 9 (.str s) = some (.int .i64 s.length) := rfl
   simp only [fnA, ED_fn128, fi128, Tryz.f128]
   simp [vmS]
   generalize hc : iter _ _ _ _ = c
   obtain ⟨ex, L1, S1, rfl, hq⟩ := loop_of hc
    (fun r L S' => ∃ (j : Nat) (sc : List (Tmp × AV)), j + r = s.length ∧ (s.drop j).all (byteB 48 57) = s.all (byteB 48 57) ∧ L = vloc [.str s, .bool false, .int .i64 (j : Nat)] sc ∧ S' = S0)
    (fun ex L S' => S' = S0 ∧ ∃ (y : AV) (sc : List (Tmp × AV)), (ex = .exit 0 ∧ s.all (byteB 48 57) = true ∧ L = vloc [.str s, .bool false, y] sc) ∨ (ex = .ret ∧ s.all (byteB 48 57) = false ∧ L = vloc [.str s, .bool false, y] sc))
    s.length (by omega)
    ⟨0, _, by simp, by simp, rfl, rfl⟩
    (by
     rintro r L S' ⟨j, sc, hjk, hs, rfl, rfl⟩ q hq1 hq2
     by_cases hj : j < s.length
     ·have hix := index_str hj
      have hw : IntKind.i64.wrap ((j : Int) + 1) = ((j : Int) + 1) := wrap_id (by omega) (by omega)
      rw [List.drop_eq_getElem_cons hj, List.all_cons] at hs
      generalize s[j] = b at *
      cases hb : byteB 48 57 b with
      | true =>
       rw [hb] at hs
       simp [vmS, vloc, hj, ls, eff_index, hix, bu, hb, unA, hw]
       exact hq1 (r - 1) _ _ (by omega) ⟨j + 1, _, by omega, by simpa using hs, rfl, rfl⟩
      | false =>
       rw [hb] at hs
       simp [vmS, vloc, hj, ls, eff_index, hix, bu, hb, unA, hw]
       exact hq2 _ _ _ (by simp) ⟨rfl, _, _, .inr ⟨rfl, by simpa using hs.symm, rfl⟩⟩
     ·have hjl : j = s.length := by omega
      subst hjl
      rw [List.drop_length] at hs
      simp [vmS, vloc, ls]
      exact hq2 _ _ _ (by simp) ⟨rfl, _, _, .inl ⟨rfl, hs.symm, rfl⟩⟩)
   obtain ⟨rfl, y, sc, ⟨rfl, ha, rfl⟩ | ⟨rfl, ha, rfl⟩⟩ := hq
   ·simp [vmS, vloc, ls]
    refine hp _ _ ?_
    simp [FRes.melt, AV.melt, AV.dead, digitsB, ha]
   ·simp [vmS, vloc, ls]
    refine hp _ _ ?_
    simp [FRes.melt, AV.melt, AV.dead, digitsB, ha]
  ·cases h
 ·cases h
theorem digits_use {l : Sm} (h : sumG l 128 = digitsG) {n : Nat} {s : List UInt8} {S : St} (hs : s.length ≤ 1000000) : callS ED (sumG l) n (.fn 128) [.str s] S = some (.ret (.bool (digitsB s)), S) :=
 callS_sum (by rw [h]; simp only [List.map_cons, List.map_nil, AV.dead, digitsG]; rw [if_pos hs])
/-- the words that are no names -/
def refW : List (List UInt8) := ["let", "in", "fn", "if", "then", "else", "case", "of", "left", "right", "or", "fun", "main", "for", "fst", "snd", "iota", "len", "flat", "fold", "scan", "nest", "put", "min", "max"].map fun s => s.toUTF8.data.toList
def wordsG : List AV → Option FRes
 | [] => some (.ret (.slice (refW.map .str) .dead))
 | _ => none
theorem words_ok : FOk 223 wordsG := by
 intro a r h
 unfold wordsG at h
 split at h
 ·cases h
  exact ⟨rfl, by decide, fok_of_run (l := []) (by simp) (n := 4) (by kernel_rfl) (by decide)⟩
 ·cases h
def isWordG : List AV → Option FRes
 | [.str s] => some (.ret (.bool (refW.contains s)))
 | _ => none
theorem words_use {l : Sm} (h : sumG l 223 = wordsG) {n : Nat} {S : St} : callS ED (sumG l) n (.fn 223) [] S = some (.ret (.slice (refW.map .str) .dead), S) :=
 callS_sum (by rw [h]; rfl)
theorem index_strs {l : List (List UInt8)} {tk : Tk} {j : Nat} (h : j < l.length) : indexAddrA ED 47 (.slice (l.map .str) tk) (.int .i64 (j : Nat)) = some (.rptr [.str l[j]]) := by
 have := index_slice (E := ED) (t := 47) (e := 9) (n := (j : Int)) (k := .i64) (es := l.map .str) (tk := tk) (v := .str l[j]) (s := 1) rfl rfl (by omega) (by simp; omega) (by simp) rfl
 exact this
theorem isWord_ok : FOk 186 isWordG := by
 refine fok [(223, wordsG)] (by simp; exact words_ok) ?_
 intro a r h
 unfold isWordG at h
 split at h
 ·rename_i s
  cases h
  refine ⟨rfl, rfl, 40, fun p hp => ?_⟩
  rw [callS_go rfl]
  have wu := fun m S => words_use (l := [(223, wordsG)]) rfl (n := m) (S := S)
  have hwl : refW.length = 25 := rfl
  have ls : lenA ED 47 (.slice (refW.map .str) .dead) = some (.int .i64 25) := rfl
  have hixa := fun (j : Nat) (hj : j < refW.length) => index_strs (tk := .dead) hj
  have hcl : (AV.slice (refW.map .str) .dead).isCell = true ∧ (AV.slice (refW.map .str) .dead).known = true ∧ (AV.slice (refW.map .str) .dead).cells = [.slice (refW.map .str) .dead] := ⟨rfl, rfl, rfl⟩
  obtain ⟨k1, k2, k3⟩ := hcl
  generalize AV.slice (refW.map .str) .dead = WV at *
  simp only [fnA, ED_fn186, fi186, Tryz.f186]
  simp [vmS]
  generalize hc : iter _ _ _ _ = c
  obtain ⟨ex, L1, S1, rfl, hq⟩ := loop_of hc
   (fun r L S' => ∃ (j : Nat) (sc : List (Tmp × AV)), j + r = refW.length ∧ (refW.drop j).contains s = refW.contains s ∧ L = vloc [.str s, .bool false, .int .i64 (j : Nat)] sc ∧ S' = S0)
   (fun ex L S' => S' = S0 ∧ ∃ (y : AV) (sc : List (Tmp × AV)), (ex = .exit 0 ∧ refW.contains s = false ∧ L = vloc [.str s, .bool false, y] sc) ∨ (ex = .ret ∧ refW.contains s = true ∧ L = vloc [.str s, .bool true, y] sc))
   refW.length (by omega)
   ⟨0, _, by simp, by simp, rfl, rfl⟩
   (by
    rintro r L S' ⟨j, sc, hjk, hs, rfl, rfl⟩ q hq1 hq2
    by_cases hj : j < refW.length
    ·have hix := hixa j hj
     have hw : IntKind.i64.wrap ((j : Int) + 1) = ((j : Int) + 1) := wrap_id (by omega) (by omega)
     have hj' : (j : Int) < 25 := by omega
     have hj'' : j < 25 := by omega
     rw [List.drop_eq_getElem_cons hj, List.contains_cons] at hs
     generalize refW[j] = b at *
     cases hb : s == b with
     | false =>
      have hb' : (b = s) = False := eq_false fun e => by rw [e] at hb; simp at hb
      have hb'' : (b == s) = false := by simp [hb']
      rw [hb] at hs
      simp [vmS, vloc, hj', hj'', ls, hix, wu, hb', hb'', hw, k1, k2, k3, bin_str, strA]
      exact hq1 (r - 1) _ _ (by omega) ⟨j + 1, _, by omega, by simpa using hs, rfl, rfl⟩
     | true =>
      have hb' : s = b := by simpa using hb
      subst hb'
      rw [hb] at hs
      simp [vmS, vloc, hj', hj'', ls, hix, wu, hw, k1, k2, k3, bin_str, strA]
      exact hq2 _ _ _ (by simp) ⟨rfl, _, _, .inr ⟨rfl, by rw [← hs]; rfl, rfl⟩⟩
    ·have hjl : j = refW.length := by omega
     subst hjl
     rw [List.drop_length] at hs
     have h25 : ¬ ((refW.length : Nat) : Int) < 25 := by omega
     have h25' : ¬ refW.length < 25 := by omega
     simp [vmS, vloc, ls, wu, h25, h25', k1, k2, k3]
     exact hq2 _ _ _ (by simp) ⟨rfl, _, _, .inl ⟨rfl, by rw [← hs]; rfl, rfl⟩⟩)
  obtain ⟨rfl, y, sc, ⟨rfl, ha, rfl⟩ | ⟨rfl, ha, rfl⟩⟩ := hq
  ·simp [vmS, vloc]
   refine hp _ _ ?_
   simp only [FRes.melt, AV.melt, AV.dead, ha]
  ·simp [vmS, vloc]
   refine hp _ _ ?_
   simp only [FRes.melt, AV.melt, AV.dead, ha]
 ·cases h
theorem isWord_use {l : Sm} (h : sumG l 186 = isWordG) {n : Nat} {s : List UInt8} {S : St} : callS ED (sumG l) n (.fn 186) [.str s] S = some (.ret (.bool (refW.contains s)), S) :=
 callS_sum (by rw [h]; rfl)
/-- letters, and digits behind them -/
def nameCs : List UInt8 → Bool
 | [] => false
 | c :: r => byteB 97 122 c && r.all fun b => byteB 97 122 b || byteB 48 57 b
def nameB (s : List UInt8) : Bool := nameCs s && !refW.contains s && !(match s with
 | [] => false
 | c :: r => decide (c.toNat = 120) && digitsB r)
def nameG : List AV → Option FRes
 | [.str s] => if s.length ≤ 1000000 then some (.ret (.bool (nameB s))) else none
 | _ => none
def okH (j : Nat) (b : UInt8) : Bool := byteB 97 122 b || (decide (j ≠ 0) && byteB 48 57 b)
def okHs : Nat → List UInt8 → Bool
 | _, [] => true
 | j, b :: r => okH j b && okHs (j + 1) r
theorem okHs_pos : ∀ (r : List UInt8) (j : Nat), j ≠ 0 → okHs j r = r.all fun b => byteB 97 122 b || byteB 48 57 b
 | [], _, _ => rfl
 | b :: r, j, h => by
  simp only [okHs, okH, List.all_cons]
  rw [okHs_pos r (j + 1) (by omega)]
  simp [h]
theorem okHs_zero (s : List UInt8) : (okHs 0 s && decide (0 < s.length)) = nameCs s := by
 cases s with
 | nil => rfl
 | cons c r =>
  simp only [okHs, nameCs, okH]
  rw [okHs_pos r 1 (by omega)]
  simp
def LN1 : Sm := [(72, bytesG 97 122), (73, bytesG 48 57), (186, isWordG), (128, digitsG)]
theorem LN1_ok : ∀ x ∈ LN1, FOk x.1 x.2 := by
 intro x hx
 simp only [LN1, List.mem_cons, List.mem_nil_iff, or_false] at hx
 rcases hx with rfl | rfl | rfl | rfl
 ·exact letter_ok
 ·exact digit_ok
 ·exact isWord_ok
 ·exact digits_ok
theorem name_ok : FOk 140 nameG := by
 refine fok LN1 LN1_ok ?_
 intro a r h
 unfold nameG at h
 split at h
 ·rename_i s
  split at h
  ·rename_i hl
   cases h
   refine ⟨rfl, rfl, s.length + 3, fun p hp => ?_⟩
   rw [callS_go rfl]
   have lu := fun m c S => byte_use (l := LN1) (f := 72) (lo := 97) (hi := 122) rfl (n := m) (c := c) (S := S)
   have du := fun m c S => byte_use (l := LN1) (f := 73) (lo := 48) (hi := 57) rfl (n := m) (c := c) (S := S)
   have iu := fun m S => isWord_use (l := LN1) rfl (n := m) (s := s) (S := S)
   have ls : lenA ED 9 (.str s) = some (.int .i64 s.length) := rfl
   simp only [fnA, ED_fn140, fi140, Tryz.f140]
   simp [vmS]
   generalize hc : iter _ _ _ _ = c
   obtain ⟨ex, L1, S1, rfl, hq⟩ := loop_of hc
    (fun r L S' => ∃ (j : Nat) (sc : List (Tmp × AV)), j + r = s.length ∧ okHs j (s.drop j) = okHs 0 s ∧ L = vloc [.str s, .bool false, .int .i64 (j : Nat)] sc ∧ S' = S0)
    (fun ex L S' => S' = S0 ∧ ∃ (y : AV) (sc : List (Tmp × AV)), (ex = .exit 0 ∧ okHs 0 s = true ∧ L = vloc [.str s, .bool false, y] sc) ∨ (ex = .ret ∧ okHs 0 s = false ∧ L = vloc [.str s, .bool false, y] sc))
    s.length (by omega)
    ⟨0, _, by simp, by simp, rfl, rfl⟩
    (by
     rintro r L S' ⟨j, sc, hjk, hs, rfl, rfl⟩ q hq1 hq2
     by_cases hj : j < s.length
     ·have hix := index_str hj
      have hw : IntKind.i64.wrap ((j : Int) + 1) = ((j : Int) + 1) := wrap_id (by omega) (by omega)
      rw [List.drop_eq_getElem_cons hj] at hs
      simp only [okHs, okH] at hs
      generalize s[j] = b at *
      cases hb : byteB 97 122 b with
      | true =>
       rw [hb] at hs
       simp [vmS, vloc, hj, ls, eff_index, hix, lu, hb, unA, hw]
       exact hq1 (r - 1) _ _ (by omega) ⟨j + 1, _, by omega, by simpa using hs, rfl, rfl⟩
      | false =>
       by_cases hj0 : j = 0
       ·subst hj0
        rw [hb] at hs
        simp only [Int.natCast_zero] at hix hw
        simp [vmS, vloc, hj, ls, eff_index, hix, lu, hb, unA, hw]
        exact hq2 _ _ _ (by simp) ⟨rfl, _, _, .inr ⟨rfl, by simpa using hs.symm, rfl⟩⟩
       ·have hj0' : ((j : Int) = 0) = False := by simp; omega
        have hj0'' : (j = 0) = False := by simp [hj0]
        cases hb2 : byteB 48 57 b with
        | true =>
         rw [hb, hb2] at hs
         simp [vmS, vloc, hj, ls, eff_index, hix, lu, du, hb, hb2, unA, hw, hj0', hj0'']
         exact hq1 (r - 1) _ _ (by omega) ⟨j + 1, _, by omega, by simpa [hj0] using hs, rfl, rfl⟩
        | false =>
         rw [hb, hb2] at hs
         simp [vmS, vloc, hj, ls, eff_index, hix, lu, du, hb, hb2, unA, hw, hj0', hj0'']
         exact hq2 _ _ _ (by simp) ⟨rfl, _, _, .inr ⟨rfl, by simpa using hs.symm, rfl⟩⟩
     ·have hjl : j = s.length := by omega
      subst hjl
      rw [List.drop_length] at hs
      simp [vmS, vloc, ls]
      exact hq2 _ _ _ (by simp) ⟨rfl, _, _, .inl ⟨rfl, hs.symm, rfl⟩⟩)
   have hz := okHs_zero s
   obtain ⟨rfl, y, sc, ⟨rfl, ha, rfl⟩ | ⟨rfl, ha, rfl⟩⟩ := hq
   ·rw [ha] at hz
    match s, hl, ls, iu, hz with
    | [], _, ls, _, _ =>
     simp [vmS, vloc, ls]
     exact hp _ _ rfl
    | c :: r, hl, ls, iu, hz =>
     have hdu := fun m S => digits_use (l := LN1) rfl (n := m) (s := r) (S := S) (by simp at hl; omega)
     have hz' : nameCs (c :: r) = true := by rw [← hz]; simp
     have hlr : (0 : Int) < ((c :: r).length : Nat) := by simp
     cases hwd : refW.contains (c :: r) with
     | true =>
      simp only [hwd] at iu
      simp [vmS, vloc, ls, iu, unA]
      refine hp _ _ ?_
      simp only [FRes.melt, AV.melt, AV.dead, nameB, hz', hwd]
      rfl
     | false =>
      simp only [hwd] at iu
      by_cases hx : c.toNat = 120
      ·have hx' : ((c.toNat : Int) = 120) = True := by simp; omega
       simp [vmS, vloc, ls, iu, unA, eff_index, index0, slice1, hx, hx', hdu]
       refine hp _ _ ?_
       simp only [FRes.melt, AV.melt, AV.dead, nameB, hz', hwd, hx]
       simp
      ·have hx' : ((c.toNat : Int) = 120) = False := by simp; omega
       simp [vmS, vloc, ls, iu, unA, eff_index, index0, slice1, hx, hx', hdu]
       refine hp _ _ ?_
       simp only [FRes.melt, AV.melt, AV.dead, nameB, hz', hwd, hx]
       simp
   ·rw [ha] at hz
    have hz' : nameCs s = false := by rw [← hz]; simp
    simp [vmS, vloc]
    refine hp _ _ ?_
    simp only [FRes.melt, AV.melt, AV.dead, nameB, hz', Bool.false_and]
  ·cases h
 ·cases h
theorem name_use {l : Sm} (h : sumG l 140 = nameG) {n : Nat} {s : List UInt8} {S : St} (hs : s.length ≤ 1000000) : callS ED (sumG l) n (.fn 140) [.str s] S = some (.ret (.bool (nameB s)), S) :=
 callS_sum (by rw [h]; simp only [List.map_cons, List.map_nil, AV.dead, nameG]; rw [if_pos hs])
theorem dw_all {p : UInt8 → Bool} : ∀ {l : List UInt8}, (l.dropWhile p).all p = true → l.all p = true
 | [], _ => rfl
 | a :: l, h => by
  simp only [List.dropWhile] at h
  cases ha : p a with
  | true =>
   rw [ha] at h
   simp only [List.all_cons, ha, Bool.true_and]
   exact dw_all h
  | false =>
   rw [ha] at h
   simp [ha] at h
theorem all_dw {p : UInt8 → Bool} : ∀ {l : List UInt8}, l.all p = true → l.dropWhile p = []
 | [], _ => rfl
 | a :: l, h => by
  simp only [List.all_cons, Bool.and_eq_true] at h
  simp only [List.dropWhile, h.1]
  exact all_dw h.2
theorem trim_nil (s c : List UInt8) : Lib.trimS s c = [] ↔ (s.all fun b => c.contains b) = true := by
 unfold Lib.trimS Lib.trimLeftS Lib.trimRightS
 constructor
 ·intro h
  have h1 : ((s.reverse.dropWhile fun b => c.contains b).reverse.dropWhile fun b => c.contains b).all (fun b => c.contains b) = true := by rw [h]; rfl
  have h2 := dw_all h1
  rw [List.all_reverse] at h2
  have h3 := dw_all h2
  rwa [List.all_reverse] at h3
 ·intro h
  have h1 : (s.reverse.all fun b => c.contains b) = true := by rw [List.all_reverse]; exact h
  rw [all_dw h1]
  rfl
theorem byte_all (c : UInt8) : (byteB 97 122 c || byteB 48 57 c) = letters.contains c := by
 have h : ∀ n, n < 256 → (byteB 97 122 (UInt8.ofNat n) || byteB 48 57 (UInt8.ofNat n)) = letters.contains (UInt8.ofNat n) := by decide +kernel
 have := h c.toNat c.toNat_lt
 rwa [UInt8.ofNat_toNat] at this
theorem byte_dig (c : UInt8) : byteB 48 57 c = digits.contains c := by
 have h : ∀ n, n < 256 → byteB 48 57 (UInt8.ofNat n) = digits.contains (UInt8.ofNat n) := by decide +kernel
 have := h c.toNat c.toNat_lt
 rwa [UInt8.ofNat_toNat] at this
theorem kept_ref (s : List UInt8) : refW.contains s = keptW.contains s := by
 have h1 : refW.all (fun w => keptW.contains w) = true := by decide +kernel
 have h2 : keptW.all (fun w => refW.contains w) = true := by decide +kernel
 rw [List.all_eq_true] at h1 h2
 rw [Bool.eq_iff_iff]
 constructor
 ·intro h
  exact h1 s (List.contains_iff_mem.1 h)
 ·intro h
  exact h2 s (List.contains_iff_mem.1 h)
/-- a name is one -/
theorem name_same (s : List UInt8) : (decide (s.length ≤ 12) && nameB s) = namedB s := by
 cases s with
 | nil => rfl
 | cons c r =>
  have hv : (decide (c.toNat = 120) && digitsB r) = varB (c :: r) := by
   cases r with
   | nil => simp [digitsB, varB]
   | cons d t =>
    simp only [varB, digitsB]
    congr 1
    have h1 : ((d :: t).all (byteB 48 57)) = (d :: t).all fun b => digits.contains b := by congr 1; funext b; exact byte_dig b
    rw [h1]
    have h2 := trim_nil (d :: t) digits
    rw [Bool.eq_iff_iff]
    constructor
    ·intro h
     simp only [Bool.and_eq_true] at h
     rw [beq_iff_eq]
     exact h2.2 h.1
    ·intro h
     rw [beq_iff_eq] at h
     simp only [Bool.and_eq_true]
     exact ⟨h2.1 h, by simp⟩
  have hc : nameCs (c :: r) = (decide (97 ≤ c.toNat ∧ c.toNat ≤ 122) && decide (Lib.trimS (c :: r) letters = [])) := by
   have hb : byteB 97 122 c = decide (97 ≤ c.toNat ∧ c.toNat ≤ 122) := by
    unfold byteB
    rw [Bool.eq_iff_iff]
    simp only [Bool.and_eq_true, decide_eq_true_eq]
    omega
   simp only [nameCs, ← hb]
   cases hx : byteB 97 122 c with
   | false => rfl
   | true =>
    have h0 := byte_all c
    rw [hx, Bool.true_or] at h0
    have h1 : (r.all fun b => byteB 97 122 b || byteB 48 57 b) = r.all fun b => letters.contains b := by congr 1; funext b; exact byte_all b
    rw [h1]
    have h2 := trim_nil (c :: r) letters
    rw [List.all_cons, ← h0, Bool.true_and] at h2
    rw [Bool.true_and, Bool.true_and, Bool.eq_iff_iff, decide_eq_true_eq]
    exact h2.symm
  have hl : (c :: r).length = r.length + 1 := rfl
  simp only [nameB, namedB, hv, hc, kept_ref, hl, Bool.and_assoc]
def wordG : List AV → Option FRes
 | [.int .i64 n] => some (.ret (.bool (isWordB n)))
 | _ => none
theorem word_ok : FOk 187 wordG := by
 refine fok [(60, withinG)] (by simp; exact in_ok) ?_
 intro a r h
 unfold wordG at h
 split at h
 ·rename_i n
  cases h
  refine ⟨rfl, rfl, 2, fun p hp => ?_⟩
  rw [callS_go rfl]
  have iu := fun m x a b S => in_use (l := [(60, withinG)]) rfl (n := m) (x := x) (a := a) (b := b) (S := S)
  simp only [fnA, ED_fn187, fi187, Tryz.f187]
  simp [vmS, lenA, indexAddrA, iu]
  exact hp _ _ (by simp [FRes.melt, AV.melt, AV.dead, isWordB])
 ·cases h
theorem word_use {l : Sm} (h : sumG l 187 = wordG) {n : Nat} {x : Int} {S : St} : callS ED (sumG l) n (.fn 187) [.int .i64 x] S = some (.ret (.bool (isWordB x)), S) :=
 callS_sum (by rw [h]; rfl)
/-- how many parts -/
def partsL : List Int := [0, 0, 0, 2, 1, 2, 0, 1, 2, 1, 1, 1, 1, 3, 3, 2, -2, 2, 2, 1, 1, 2, 1, 1, 1, 2, 2]
def partsI (o : Int) : Int := if 0 ≤ o then (partsL[o.toNat]?).getD (-1) else -1
def partsG : List AV → Option FRes
 | [.int .i64 o] => some (.ret (.int .i64 (partsI o)))
 | _ => none
theorem op27 {o : Int} (h : 0 ≤ o ∧ o ≤ 26) : o = 0 ∨ o = 1 ∨ o = 2 ∨ o = 3 ∨ o = 4 ∨ o = 5 ∨ o = 6 ∨ o = 7 ∨ o = 8 ∨ o = 9 ∨ o = 10 ∨ o = 11 ∨ o = 12 ∨ o = 13 ∨ o = 14 ∨ o = 15 ∨ o = 16 ∨ o = 17 ∨ o = 18 ∨ o = 19 ∨ o = 20 ∨ o = 21 ∨ o = 22 ∨ o = 23 ∨ o = 24 ∨ o = 25 ∨ o = 26 := by omega
theorem parts_ok : FOk 141 partsG := by
 refine fok [] (by simp) ?_
 intro a r h
 unfold partsG at h
 split at h
 ·rename_i o
  cases h
  refine ⟨rfl, rfl, 2, fun p hp => ?_⟩
  rw [callS_go rfl]
  simp only [fnA, ED_fn141, fi141, Tryz.f141]
  by_cases ho : 0 ≤ o ∧ o ≤ 26
  ·rcases op27 ho with rfl | rfl | rfl | rfl | rfl | rfl | rfl | rfl | rfl | rfl | rfl | rfl | rfl | rfl | rfl | rfl | rfl | rfl | rfl | rfl | rfl | rfl | rfl | rfl | rfl | rfl | rfl <;>
    (simp [vmS, lenA, indexAddrA]; exact hp _ _ rfl)
  ·have hne : ∀ k : Int, 0 ≤ k ∧ k ≤ 26 → (o = k) = False := fun k hk => eq_false fun e => ho (e ▸ hk)
   have hpI : partsI o = -1 := by
    unfold partsI
    split
    ·have : partsL.length ≤ o.toNat := by simp [partsL]; omega
     rw [List.getElem?_eq_none this]
     rfl
    ·rfl
   simp [vmS, lenA, indexAddrA, hne]
   exact hp _ _ (by rw [hpI]; rfl)
 ·cases h
theorem parts_use {l : Sm} (h : sumG l 141 = partsG) {n : Nat} {x : Int} {S : St} : callS ED (sumG l) n (.fn 141) [.int .i64 x] S = some (.ret (.int .i64 (partsI x)), S) :=
 callS_sum (by rw [h]; rfl)
end Go.Vm.L
