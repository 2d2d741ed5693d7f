/-
The document's lists. No conditions.
-/
import Derived.Test.YtjfnelfdlemfgaaGreatDoorFreeA
import Derived.Test.YtjfnelfdlemfgaaGreatDoorSaidB
import Derived.Test.YtjfnelfdlemfgaaGreatDoorFreeC
import Derived.Test.YtjfnelfdlemfgaaGreatDoorSaidC
set_option linter.all false
set_option maxHeartbeats 4000000
namespace Go.Vm.L
open Go Go.Proofs Go.Vm
set_option maxRecDepth 100000
attribute [local simp] inFrame startLoc startVals Loc.clear blockC Loc.putO Loc.put idx evO constV Loc.get Vm.look intA unwindA resultsA resultV actA pureA storeA loadA fillE repElems TI.zeroV fieldOf fieldAddrA fieldA elemsA retE cellsOf? setCells nowhere mapHead headNext
def ivW : AV → Option (List Int)
 | .nils => some []
 | .slice es .dead => match intsOf es with
  | some (z :: zs) => some (z :: zs)
  | _ => none
 | _ => none
theorem ivW_V (zs : List Int) : ivW (ivV zs) = some zs := by
 cases zs with
 | nil => rfl
 | cons z r => simp [ivV, ivW, intsOf_ints]
theorem ivW_some {v : AV} {zs : List Int} (h : ivW v = some zs) : v = ivV zs := by
 unfold ivW at h
 split at h
 ·cases h; rfl
 ·split at h
  ·rename_i hz
   cases h
   rw [intsOf_eq hz]
   rfl
  ·cases h
 ·cases h
theorem ivV_dead (zs : List Int) : (ivV zs).dead = ivV zs := dead_of_pers _ (ivV_pers zs)
theorem ivV_len (zs : List Int) : lenA ED 35 (ivV zs) = some (.int .i64 (zs.length : Nat)) := by
 cases zs with
 | nil => rfl
 | cons z r =>
  have : ∀ es : List AV, lenA ED 35 (.slice es .dead) = some (.int .i64 (es.length : Nat)) := fun es => rfl
  rw [ivV, this, ints_length]
theorem ivV_index {zs : List Int} {j : Nat} (h : j < zs.length) : indexAddrA ED 35 (ivV zs) (.int .i64 (j : Nat)) = some (.rptr [.int .i64 zs[j]]) := by
 cases zs with
 | nil => simp at h
 | cons z r => exact index_ints (t := 35) (tk := .dead) rfl h
theorem ivV_facts (zs : List Int) : (ivV zs).isCell = true ∧ (ivV zs).known = true ∧ (ivV zs).cells = [ivV zs] := by
 cases zs <;> exact ⟨rfl, rfl, rfl⟩
theorem ivV_slice {zs : List Int} (h : zs ≠ []) : ivV zs = .slice (ints zs) .dead := by
 cases zs with
 | nil => exact absurd rfl h
 | cons z r => rfl
/-! Has -/
def has2G : List AV → Option FRes
 | [v, .int .i64 n] => match ivW v with
  | some zs => if zs.length ≤ 1000000 then some (.ret (.bool (zs.contains n))) else none
  | none => none
 | _ => none
theorem has2_ok : FOk 106 has2G := by
 refine fok [] (by simp) ?_
 intro a r h
 unfold has2G at h
 split at h
 ·rename_i v n
  split at h
  ·rename_i zs hzs
   split at h
   ·rename_i hlen
    cases h
    have := ivW_some hzs
    subst this
    refine ⟨by simp [AV.persL, AV.pers, ivV_pers], rfl, zs.length + 2, fun p hp => ?_⟩
    rw [callS_go rfl]
    have ls := ivV_len zs
    have hixs := fun j (h : j < zs.length) => ivV_index h
    obtain ⟨v1, v2, v3⟩ := ivV_facts zs
    generalize ivV zs = V at *
    simp only [fnA, ED_fn106, fi106, Tryz.f106]
    simp [vmS, v1, v2, v3]
    generalize hc : iter _ _ _ _ = c
    obtain ⟨ex, L1, S1, rfl, hq⟩ := loop_of hc
     (fun r L S' => ∃ (j : Nat) (sc : List (Tmp × AV)), j + r = zs.length ∧ (zs.drop j).contains n = zs.contains n ∧ L = vloc [V, .int .i64 n, .bool false, .int .i64 (j : Nat)] sc ∧ S' = S0)
     (fun ex L S' => S' = S0 ∧ ∃ (y : AV) (sc : List (Tmp × AV)), (ex = .exit 0 ∧ zs.contains n = false ∧ L = vloc [V, .int .i64 n, .bool false, y] sc) ∨ (ex = .ret ∧ zs.contains n = true ∧ L = vloc [V, .int .i64 n, .bool true, y] sc))
     zs.length (by omega)
     ⟨0, _, by simp, by simp, rfl, rfl⟩
     (by
      rintro r L S' ⟨j, sc, hjk, hs, rfl, rfl⟩ q hq1 hq2
      by_cases hj : j < zs.length
      ·have hw : IntKind.i64.wrap ((j : Int) + 1) = ((j : Int) + 1) := wrap_id (by omega) (by omega)
       have hix := hixs j hj
       rw [List.drop_eq_getElem_cons hj, List.contains_cons] at hs
       generalize zs[j] = z at *
       by_cases hz : n = z
       ·subst hz
        simp [vmS, vloc, ls, hj, hw, hix, v1, v2, v3]
        exact hq2 _ _ _ (by simp) ⟨rfl, _, _, .inr ⟨rfl, by rw [← hs]; simp, rfl⟩⟩
       ·have hz' : (z = n) = False := eq_false fun e => hz e.symm
        have hz'' : (n == z) = false := by simpa using hz
        rw [hz'', Bool.false_or] at hs
        simp [vmS, vloc, ls, hj, hw, hix, hz', v1, v2, v3]
        exact hq1 (r - 1) _ _ (by omega) ⟨j + 1, _, by omega, by simpa using hs, rfl, rfl⟩
      ·have hjl : j = zs.length := by omega
       subst hjl
       rw [List.drop_length] at hs
       simp [vmS, vloc, ls, v1, v2, v3]
       exact hq2 _ _ _ (by simp) ⟨rfl, _, _, .inl ⟨rfl, by rw [← hs]; rfl, rfl⟩⟩)
    obtain ⟨rfl, y, sc, ⟨rfl, ha, rfl⟩ | ⟨rfl, ha, rfl⟩⟩ := hq
    ·simp [vmS, vloc]
     exact hp _ _ (by rw [ha]; rfl)
    ·simp [vmS, vloc]
     exact hp _ _ (by rw [ha]; rfl)
   ·cases h
  ·cases h
 ·cases h
theorem has2_use {l : Sm} (h : sumG l 106 = has2G) {n : Nat} {zs : List Int} {z : Int} {S : St} (hl : zs.length ≤ 1000000) :
  callS ED (sumG l) n (.fn 106) [ivV zs, .int .i64 z] S = some (.ret (.bool (zs.contains z)), S) :=
 callS_sum (by rw [h]; simp [ivV_dead, AV.dead, has2G, ivW_V, hl])
/-! With -/
def with2G : List AV → Option FRes
 | [v, .int .i64 n] => match ivW v with
  | some zs => if zs.length ≤ 1000000 then some (.ret (ivV (withL zs n))) else none
  | none => none
 | _ => none
theorem withN_ok : FOk 108 (fun a => match a with
  | [.nils, .int .i64 n] => some (.ret (ivV (withL [] n)))
  | _ => none) := by
 refine fok [] (by simp) ?_
 intro a r h
 split at h
 ·rename_i n
  cases h
  refine ⟨rfl, ivV_pers _, 2, fun p hp => ?_⟩
  rw [callS_go rfl]
  simp only [fnA, ED_fn108, fi108, Tryz.f108]
  by_cases hn : n = -1
  ·subst hn
   simp [vmS, lenA, indexAddrA]
   exact hp _ _ (by simp [FRes.melt, AV.melt, AV.dead, withL, ivV])
  ·have a0 : appendA ED S0 3 (.slice [] .lit) [] = some (.slice [] .lit, S0) := rfl
   have a1 := app_lit (S := S0) (zs := [n]) (by simp) (by simp)
   simp only [n_S0, ints, List.map_cons, List.map_nil, List.length_cons, List.length_nil, Nat.zero_add] at a1
   simp [vmS, lenA, indexAddrA, hn, a0, a1]
   refine hp _ _ ((melt_ints0 (cs := [n]) ?_ rfl).trans ?_)
   ·simp [push_at, n_push', n_S0, cellsOf?, ints]
   ·simp [withL, hn, ivV]
 ·cases h
theorem with2_ok : FOk 108 with2G := by
 intro a r h
 unfold with2G at h
 split at h
 ·rename_i v n
  split at h
  ·rename_i zs hzs
   split at h
   ·rename_i hlen
    have := ivW_some hzs
    subst this
    cases zs with
    | nil => exact withN_ok _ _ h
    | cons z l =>
     refine with_ok _ _ ?_
     cases h
     have hne : withL (z :: l) n ≠ [] := by
      unfold withL
      split <;> simp
     rw [ivV_slice hne, ivV_slice (by simp)]
     simp only [withG, intsOf_ints]
     rw [if_pos ⟨hlen, by simp⟩]
   ·cases h
  ·cases h
 ·cases h
theorem with2_use {l : Sm} (h : sumG l 108 = with2G) {k : Nat} {zs : List Int} {n : Int} {S : St} (hl : zs.length ≤ 1000000) :
  callS ED (sumG l) k (.fn 108) [ivV zs, .int .i64 n] S = some (.ret (ivV (withL zs n)), S) :=
 callS_sum (by rw [h]; simp [ivV_dead, AV.dead, with2G, ivW_V, hl])
/-! Ints, of lists that are the same -/
open Classical in
noncomputable def sameG : List AV → Option FRes
 | [v, w] => match ivW v with
  | some zs => if zs.length ≤ 1000000 ∧ w = v then some (.ret (.bool true)) else none
  | none => none
 | _ => none
theorem same_ok : FOk 26 sameG := by
 refine fok [] (by simp) ?_
 intro a r h
 unfold sameG at h
 split at h
 ·rename_i v w
  split at h
  ·rename_i zs hzs
   split at h
   ·rename_i hc
    obtain ⟨hlen, rfl⟩ := hc
    cases h
    have := ivW_some hzs
    subst this
    refine ⟨by simp [AV.persL, ivV_pers], rfl, zs.length + 2, fun p hp => ?_⟩
    rw [callS_go rfl]
    have ls := ivV_len zs
    have hixs := fun j (h : j < zs.length) => ivV_index h
    obtain ⟨v1, v2, v3⟩ := ivV_facts zs
    generalize ivV zs = V at *
    have d0 := @dr26_0
    simp only [drA, drawsOf, Option.getD_some, List.nil_append, List.append_nil, List.getD_cons_zero, List.getD_cons_succ, List.cons_append, Tryz.f26] at d0
    simp only [fnA, ED_fn26, fi26, Tryz.f26]
    simp [vmS, ls, v1, v2, v3]
    generalize hc : iter _ _ _ _ = c
    obtain ⟨ex, L1, S1, rfl, hq⟩ := loop_of hc
     (fun r L S' => ∃ (j : Nat) (sc : List (Tmp × AV)), j + r = zs.length ∧ L = vloc [V, V, .bool false, .int .i64 (j : Nat)] sc ∧ S' = S0)
     (fun ex L S' => S' = S0 ∧ ex = .exit 0 ∧ ∃ (y : AV) (sc : List (Tmp × AV)), L = vloc [V, V, .bool false, y] sc)
     zs.length (by omega)
     ⟨0, _, by simp, rfl, rfl⟩
     (by
      rintro r L S' ⟨j, sc, hjk, rfl, rfl⟩ q hq1 hq2
      by_cases hj : j < zs.length
      ·have hw : IntKind.i64.wrap ((j : Int) + 1) = ((j : Int) + 1) := wrap_id (by omega) (by omega)
       have hix := hixs j hj
       generalize zs[j] = z at *
       simp [vmS, runC_nil, runC_cons, pickC_some, wantC_tt, wantC_tf, effC_val, ifC_true, checkC, inPairs, keepC, okC, readsC_load, readV_some, AV.beq_self, wantA_n, wantA_g, wantD_some, d0, vloc, ls, hj, hw, hix, v1, v2, v3]
       exact hq1 (r - 1) _ _ (by omega) ⟨j + 1, _, by omega, rfl, rfl⟩
      ·have hjl : j = zs.length := by omega
       subst hjl
       simp [vmS, vloc, ls, v1, v2, v3]
       exact hq2 _ _ _ (by simp) ⟨rfl, rfl, _, _, rfl⟩)
    obtain ⟨rfl, rfl, y, sc, rfl⟩ := hq
    simp [vmS, vloc]
    exact hp _ _ rfl
   ·cases h
  ·cases h
 ·cases h
theorem same_use {l : Sm} (h : sumG l 26 = sameG) {n : Nat} {zs : List Int} {S : St} (hl : zs.length ≤ 1000000) :
  callS ED (sumG l) n (.fn 26) [ivV zs, ivV zs] S = some (.ret (.bool true), S) :=
 callS_sum (by rw [h]; simp [ivV_dead, sameG, ivW_V, hl])
/-- what is put out from here on -/
def ris (n : Int) : List Int → Bool → List Int
 | [], d => if d then [] else [n]
 | a :: l, d => (if d = false ∧ n ≤ a then [n] else []) ++ (if a = n then [] else [a]) ++ ris n l (d || decide (n ≤ a))
theorem ris_done {n : Int} : ∀ {l : List Int}, (∀ x ∈ l, n < x) → ris n l true = l
 | [], _ => rfl
 | a :: l, h => by
  have h1 := h a (by simp)
  have h2 : ¬ a = n := by omega
  simp only [ris, Bool.true_or, if_neg h2]
  rw [ris_done fun x hx => h x (by simp [hx])]
  simp
theorem ris_ins {n : Int} : ∀ {l : List Int}, Up l → ris n l false = insF l n
 | [], _ => rfl
 | a :: l, h => by
  obtain ⟨p1, p2⟩ := List.pairwise_cons.1 h
  unfold ris insF
  by_cases h1 : n < a
  ·have h2 : n ≤ a := by omega
   have h3 : ¬ a = n := by omega
   rw [if_pos h1, if_pos ⟨rfl, h2⟩, if_neg h3, decide_eq_true h2, Bool.or_true, ris_done fun x hx => by have := p1 x hx; omega]
   rfl
  ·rw [if_neg h1]
   by_cases h2 : n = a
   ·subst h2
    rw [if_pos rfl, if_pos ⟨rfl, Int.le_refl _⟩, if_pos rfl, decide_eq_true (Int.le_refl n), Bool.or_true, ris_done p1]
    rfl
   ·have h3 : ¬ n ≤ a := by omega
    rw [if_neg h2, if_neg (fun q => h3 q.2), if_neg (fun e => h2 e.symm), decide_eq_false h3, Bool.false_or, ris_ins p2]
    rfl
open Classical in
noncomputable def risG : List AV → Option FRes
 | [v, .int .i64 n] => match ivW v with
  | some L => if L.length ≤ 400000 ∧ Up L then some (.ret (ivV (insF L n))) else none
  | none => none
 | _ => none
theorem ris_ok : FOk 107 risG := by
 refine fok [] (by simp) ?_
 intro a r h
 unfold risG at h
 split at h
 ·rename_i v n
  split at h
  ·rename_i zs hzs
   split at h
   ·rename_i hcond
    obtain ⟨hlen, hup⟩ := hcond
    cases h
    have := ivW_some hzs
    subst this
    refine ⟨by simp [AV.persL, AV.pers, ivV_pers], ivV_pers _, zs.length + 2, fun p hp => ?_⟩
    rw [callS_go rfl]
    rw [← ris_ins hup] at hp
    have ls := ivV_len zs
    have hixs := fun j (h : j < zs.length) => ivV_index h
    obtain ⟨v1, v2, v3⟩ := ivV_facts zs
    generalize ivV zs = V at *
    simp only [fnA, ED_fn107, fi107, Tryz.f107]
    simp [vmS, v1, v2, v3]
    generalize hR : ris n zs false = R at hp
    generalize hc : iter _ _ _ _ = c
    obtain ⟨ex, L1, S1, rfl, hq⟩ := loop_of hc
     (fun r L S' => ∃ (j : Nat) (w : AV) (out : List Int) (d : Bool) (sc : List (Tmp × AV)), j + r = zs.length ∧ out ++ ris n (zs.drop j) d = R ∧ out.length ≤ 2 * j ∧ LV S' w out ∧ Cl S' ∧
      L = vloc [V, .int .i64 n, .nils, w, .bool d, .int .i64 (j : Nat)] sc)
     (fun ex L S' => ex = .exit 0 ∧ ∃ (w y : AV) (out : List Int) (d : Bool) (sc : List (Tmp × AV)), out ++ (if d then [] else [n]) = R ∧ out.length ≤ 2 * zs.length ∧ LV S' w out ∧ Cl S' ∧ L = vloc [V, .int .i64 n, .nils, w, .bool d, y] sc)
     zs.length (by omega)
     ⟨0, .nils, [], false, _, by simp, by simpa using hR, by simp, .inl ⟨rfl, rfl⟩, Cl.zero, rfl⟩
     (by
      rintro r L S' ⟨j, w, out, d, sc, hjk, hs, hol, hlv, hcl, rfl⟩ q hq1 hq2
      obtain ⟨w1, w2, w3⟩ := hlv.cell
      by_cases hj : j < zs.length
      ·have hw : IntKind.i64.wrap ((j : Int) + 1) = ((j : Int) + 1) := wrap_id (by omega) (by omega)
       have hix := hixs j hj
       rw [List.drop_eq_getElem_cons hj] at hs
       simp only [ris] at hs
       generalize zs[j] = z at *
       by_cases h1 : d = false ∧ n ≤ z
       ·obtain ⟨rfl, h1⟩ := h1
        obtain ⟨u, S2, ha, hl2, hn2, hc2, _⟩ := hlv.app (by omega) hcl n
        obtain ⟨u1, u2, u3⟩ := hl2.cell
        rw [if_pos ⟨rfl, h1⟩, decide_eq_true h1, Bool.or_true] at hs
        by_cases h2 : z = n
        ·rw [if_pos h2] at hs
         simp [vmS, vloc, ls, hj, hw, hix, v1, v2, v3, w1, w2, w3, hcl.1, hcl.2, unA, h1, ha, u1, u2, u3, hc2.1, hc2.2, h2]
         try simp [h2] at ha
         exact hq1 (r - 1) _ _ (by omega) ⟨j + 1, u, out ++ [n], true, _, by omega, by rw [← hs]; simp, by simp; omega, hl2, hc2, rfl⟩
        ·rw [if_neg h2] at hs
         obtain ⟨t, S3, hb, hl3, hn3, hc3, _⟩ := hl2.app (by simp; omega) hc2 z
         obtain ⟨t1, t2, t3⟩ := hl3.cell
         simp [vmS, vloc, ls, hj, hw, hix, v1, v2, v3, w1, w2, w3, hcl.1, hcl.2, unA, h1, ha, u1, u2, u3, hc2.1, hc2.2, h2, hb, t1, t2, t3, hc3.1, hc3.2]
         exact hq1 (r - 1) _ _ (by omega) ⟨j + 1, t, out ++ [n] ++ [z], true, _, by omega, by rw [← hs]; simp, by simp; omega, hl3, hc3, rfl⟩
       ·rw [if_neg h1] at hs
        have h1' : ((d = true) = True) ∨ ((d = false) = True ∧ (n ≤ z) = False) := by
         cases d with
         | true => exact .inl (by simp)
         | false => exact .inr ⟨by simp, eq_false fun e => h1 ⟨rfl, e⟩⟩
        by_cases h2 : z = n
        ·rw [if_pos h2] at hs
         cases d with
         | true =>
          simp [vmS, vloc, ls, hj, hw, hix, v1, v2, v3, w1, w2, w3, hcl.1, hcl.2, unA, h2]
          exact hq1 (r - 1) _ _ (by omega) ⟨j + 1, w, out, true, _, by omega, by rw [← hs]; simp, by omega, hlv, hcl, rfl⟩
         | false => exact absurd ⟨rfl, by omega⟩ h1
        ·rw [if_neg h2] at hs
         obtain ⟨t, S3, hb, hl3, hn3, hc3, _⟩ := hlv.app (by omega) hcl z
         obtain ⟨t1, t2, t3⟩ := hl3.cell
         cases d with
         | true =>
          simp [vmS, vloc, ls, hj, hw, hix, v1, v2, v3, w1, w2, w3, hcl.1, hcl.2, unA, h2, hb, t1, t2, t3, hc3.1, hc3.2]
          exact hq1 (r - 1) _ _ (by omega) ⟨j + 1, t, out ++ [z], true, _, by omega, by rw [← hs]; simp, by simp; omega, hl3, hc3, rfl⟩
         | false =>
          have h3 : ¬ n ≤ z := fun e => h1 ⟨rfl, e⟩
          rw [decide_eq_false h3, Bool.false_or] at hs
          simp [vmS, vloc, ls, hj, hw, hix, v1, v2, v3, w1, w2, w3, hcl.1, hcl.2, unA, h3, h2, hb, t1, t2, t3, hc3.1, hc3.2]
          exact hq1 (r - 1) _ _ (by omega) ⟨j + 1, t, out ++ [z], false, _, by omega, by rw [← hs]; simp, by simp; omega, hl3, hc3, rfl⟩
      ·have hjl : j = zs.length := by omega
       subst hjl
       rw [List.drop_length] at hs
       simp only [ris] at hs
       simp [vmS, vloc, ls, v1, v2, v3, hcl.1, hcl.2]
       exact hq2 _ _ _ (by simp) ⟨rfl, w, _, out, d, _, hs, hol, hlv, hcl, rfl⟩)
    obtain ⟨rfl, w, y, out, d, sc, hs, hol, hlv, hcl, rfl⟩ := hq
    obtain ⟨w1, w2, w3⟩ := hlv.cell
    cases d with
    | true =>
     simp [vmS, vloc, hcl.1, hcl.2, unA, w1, w2, w3]
     refine hp _ _ ?_
     rw [hlv.melt, ← hs]
     simp
    | false =>
     obtain ⟨t, S3, hb, hl3, hn3, hc3, _⟩ := hlv.app (by omega) hcl n
     obtain ⟨t1, t2, t3⟩ := hl3.cell
     simp [vmS, vloc, hcl.1, hcl.2, unA, w1, w2, w3, hb, t1, t2, t3, hc3.1, hc3.2]
     refine hp _ _ ?_
     rw [hl3.melt, ← hs]
     rfl
   ·cases h
  ·cases h
 ·cases h
theorem ris_use {l : Sm} (h : sumG l 107 = risG) {n : Nat} {L : List Int} {z : Int} {S : St} (hl : L.length ≤ 400000) (hu : Up L) :
  callS ED (sumG l) n (.fn 107) [ivV L, .int .i64 z] S = some (.ret (ivV (insF L z)), S) :=
 callS_sum (by rw [h]; simp [ivV_dead, AV.dead, risG, ivW_V, hl, hu])
open Classical in
noncomputable def freesG (D : Nat) : List AV → Option FRes
 | [v, b, l] => match exOf v, ivW b, ivW l with
  | some e, some zs, some L => if e.deep ≤ D ∧ zs.length + e.deep ≤ 1000 ∧ L.length + e.size ≤ 300000 ∧ Up L then some (.ret (ivV (insFs L (e.occ zs)))) else none
  | _, _, _ => none
 | _ => none
theorem frees_use {l : Sm} {D : Nat} (h : sumG l 61 = freesG D) {m : Nat} {e : Ex} {zs L : List Int} {S : St} (he : e.fit) (hd : e.deep ≤ D) (h1 : zs.length + e.deep ≤ 1000) (h2 : L.length + e.size ≤ 300000) (hu : Up L) :
  callS ED (sumG l) m (.fn 61) [.agg [.int .i64 e.op, .int .i64 e.num, .int .i64 e.mun, e.lst], ivV zs, ivV L] S = some (.ret (ivV (insFs L (e.occ zs))), S) := by
 rw [← e.look]
 refine callS_sum ?_
 rw [h]
 simp [ivV_dead, freesG, exOf_enc he, ivW_V, hd, h1, h2, hu]
noncomputable def LF61 (D : Nat) : Sm := [(61, freesG D), (106, has2G), (107, risG), (108, with2G), (39, binderG)]
theorem LF61_ok {D : Nat} (h : FOk 61 (freesG D)) : ∀ x ∈ LF61 D, FOk x.1 x.2 := by
 intro x hx
 simp only [LF61, List.mem_cons, List.mem_nil_iff, or_false] at hx
 rcases hx with rfl | rfl | rfl | rfl | rfl
 ·exact h
 ·exact has2_ok
 ·exact ris_ok
 ·exact with2_ok
 ·exact binder_ok
theorem insF_len : ∀ (l : List Int) (z : Int), (insF l z).length ≤ l.length + 1
 | [], z => by simp [insF]
 | a :: l, z => by
  have := insF_len l z
  unfold insF
  split
  ·simp
  ·split
   ·simp
   ·simp; omega
theorem insFs_len : ∀ (l L : List Int), (insFs L l).length ≤ L.length + l.length
 | [], L => by simp [insFs]
 | z :: l, L => by
  have h1 := insFs_len l (insF L z)
  have h2 := insF_len L z
  have e : insFs L (z :: l) = insFs (insF L z) l := rfl
  rw [e, List.length_cons]
  omega
theorem frees_step {D : Nat} (ih : FOk 61 (freesG D)) : FOk 61 (freesG (D + 1)) := by
 refine fok (LF61 D) (LF61_ok ih) ?_
 intro a r h
 unfold freesG at h
 split at h
 ·rename_i v b lv
  split at h
  ·rename_i e zs L he hb hl0
   split at h
   ·rename_i hc
    obtain ⟨hD, hzd, hLs, hup⟩ := hc
    obtain ⟨hfit, rfl⟩ := exOf_some he
    have := ivW_some hb
    subst this
    have := ivW_some hl0
    subst this
    cases h
    refine ⟨by simp [AV.persL, Ex.pers, ivV_pers], ivV_pers _, e.kids.length + 3, fun p hp => ?_⟩
    by_cases hD' : e.deep ≤ D
    ·rw [e.look, frees_use (l := LF61 D) rfl hfit hD' hzd hLs hup]
     refine hp _ _ ?_
     show FRes.ret ((ivV _).melt _) = _
     cases insFs L (e.occ zs) with
     | nil => rfl
     | cons z r => simp [ivV, AV.melt, AV.dead, ints_dead]
    have hno : sumG (LF61 D) 61 ([e.enc, ivV zs, ivV L].map AV.dead) = none := by
     rw [show sumG (LF61 D) 61 = freesG D from rfl]
     simp [freesG, exOf_enc hfit, ivV_dead, ivW_V, hD']
    rw [callS_go hno]
    have hlen := e.len
    obtain ⟨hc1, hc2, hc3⟩ := e.cell
    have hlp := e.lst_pers
    have hidx := fun j (hj : j < e.kids.length) => e.index hj
    have hesz := e.size_kids
    have hocc := e.occ_kids zs
    have hkid := fun x (hx : x ∈ e.kids) => (⟨Ex.deep_kid hx, Ex.fit_kid hfit hx, sizes_mem hx⟩ : x.deep < e.deep ∧ x.fit ∧ x.size ≤ Ex.sizes e.kids)
    rw [hocc, insFs_app] at hp
    rw [e.look]
    simp only [fnA, ED_fn61, fi61, Tryz.f61]
    have hmel : ∀ S M, (ivV M).melt S = ivV M := fun S M => by
     cases M with
     | nil => rfl
     | cons z r => simp [ivV, AV.melt, AV.dead, ints_dead]
    obtain ⟨b1, b2, b3⟩ := ivV_facts zs
    obtain ⟨l1, l2, l3⟩ := ivV_facts L
    have hu := fun m z S => has2_use (l := LF61 D) rfl (n := m) (zs := zs) (z := z) (S := S) (by omega)
    have ru := fun m z S => ris_use (l := LF61 D) rfl (n := m) (L := L) (z := z) (S := S) (by omega) hup
    have wu := fun m z S => with2_use (l := LF61 D) rfl (k := m) (zs := zs) (n := z) (S := S) (by omega)
    generalize hl : e.kids = l at *
    generalize e.op = o at *
    generalize e.num = N at *
    generalize e.mun = M at *
    generalize e.lst = A at *
    have bu := fun m o n mm p S => binder_use (l := LF61 D) rfl (k := m) (o := o) (n := n) (m := mm) (p := p) (S := S) ⟨hlp, hc1⟩
    have hsl := sizes_len l
    have hu := fun m S => hu m N S
    have ru := fun m S => ru m N S
    have H : ∃ (L1 : List Int), insFs L (if o = 0 ∧ zs.contains N = false then [N] else []) = L1 ∧ Up L1 ∧ L1.length ≤ L.length + 1 ∧
      (((o = 0) = False ∧ L = L1 ∧ (o = 0) = False ∧ (o = 0) = False) ∨ ((o = 0) = True ∧ L = L1 ∧ (∀ m S, callS ED (sumG (LF61 D)) m (.fn 106) [ivV zs, .int .i64 N] S = some (.ret (.bool true), S)) ∧ (o = 0) = True) ∨
       ((o = 0) = True ∧ L = L ∧ (∀ m S, callS ED (sumG (LF61 D)) m (.fn 106) [ivV zs, .int .i64 N] S = some (.ret (.bool false), S)) ∧ (∀ m S, callS ED (sumG (LF61 D)) m (.fn 107) [ivV L, .int .i64 N] S = some (.ret (ivV L1), S)))) := by
     by_cases h0 : o = 0
     ·cases hcn : zs.contains N with
      | true =>
       rw [hcn] at hu
       exact ⟨L, by rw [if_neg (by simp)]; rfl, hup, by omega, .inr (.inl ⟨eq_true h0, rfl, hu, eq_true h0⟩)⟩
      | false =>
       rw [hcn] at hu
       exact ⟨insF L N, by rw [if_pos ⟨h0, rfl⟩]; rfl, ins_up hup, insF_len L N, .inr (.inr ⟨eq_true h0, rfl, hu, ru⟩)⟩
     ·exact ⟨L, by rw [if_neg (fun q => h0 q.1)]; rfl, hup, by omega, .inl ⟨eq_false h0, rfl, eq_false h0, eq_false h0⟩⟩
    obtain ⟨L1, hL1, hup1, hl1, H⟩ := H
    rw [hL1] at hp
    have d0 := @dr61_0
    simp only [drA, drawsOf, Option.getD_some, List.nil_append, List.append_nil, List.getD_cons_zero, List.getD_cons_succ, List.cons_append, Tryz.f61] at d0
    generalize hR : insFs L1 (Ex.occs o N M l 0 zs) = R at hp
    obtain ⟨m1, m2, m3⟩ := ivV_facts L1
    clear hocc hc2 hc3 hno
    generalize hT : S0.push (.cells [.int .i64 o, .int .i64 N, .int .i64 M, A]) = T
    have tb : T.bad = false := by subst hT; rfl
    have tw : T.wb = 0 := by subst hT; rfl
    have t0 : T.cells? 0 = some [.int .i64 o, .int .i64 N, .int .i64 M, A] := by subst hT; simp [push_at, n_push', n_S0, cellsOf?]
    have hTs := hT
    rcases H with ⟨f1, f2, f3, f4⟩ | ⟨f1, f2, f3, f4⟩ | ⟨f1, f2, f3, f4⟩ <;>
    ·simp [vmS, hc1, b1, b2, b3, l1, l2, l3, m1, m2, m3, f1, f3, f4, unA, hTs, tb, tw, t0]
     try rw [f2]
     generalize hc : iter _ _ _ _ = c
     obtain ⟨ex, L2, S1, rfl, hq⟩ := loop_of hc
      (fun r L' S' => ∃ (j : Nat) (Lj : List Int) (sc : List (Tmp × AV)), j + r = l.length ∧ insFs Lj (Ex.occs o N M (l.drop j) j zs) = R ∧ Lj.length + Ex.sizes (l.drop j) ≤ 300000 ∧ Up Lj ∧
       L' = vloc [.agg [.int .i64 o, .int .i64 N, .int .i64 M, A], ivV zs, ivV Lj, .ptr 0 0, .nils, .int .i64 (j : Nat)] sc ∧ S' = T)
      (fun ex L' S' => S' = T ∧ ex = .exit 0 ∧ ∃ (y : AV) (sc : List (Tmp × AV)), L' = vloc [.agg [.int .i64 o, .int .i64 N, .int .i64 M, A], ivV zs, ivV R, .ptr 0 0, .nils, y] sc)
      l.length (by omega)
      ⟨0, L1, _, by simp, by rw [← hR]; rfl, by rw [List.drop_zero]; omega, hup1, rfl, rfl⟩
      (by
       rintro r L' S' ⟨j, Lj, sc, hjk, hs, hLj, hupj, rfl, rfl⟩ q hq1 hq2
       obtain ⟨n1, n2, n3⟩ := ivV_facts Lj
       by_cases hj : j < l.length
       ·have hw : IntKind.i64.wrap ((j : Int) + 1) = ((j : Int) + 1) := wrap_id (by omega) (by omega)
        have hix := hidx j hj
        obtain ⟨k1, k2, k3⟩ := hkid _ (List.getElem_mem hj)
        rw [drop_kid hj] at hs hLj
        simp only [Ex.occs] at hs
        simp only [Ex.sizes] at hLj
        rw [insFs_app] at hs
        generalize l[j] = xk at *
        have xl := xk.look
        obtain ⟨g1, g2, g3⟩ := xk.cell
        rw [xl] at hix
        have bu := fun m S => bu m o N M (j : Nat) S
        have wu := fun m S => wu m (binderI o N M (j : Nat)) S
        have wl := withL_len zs (binderI o N M (j : Nat))
        have su := fun m S => frees_use (l := LF61 D) rfl (m := m) (e := xk) (zs := withL zs (binderI o N M (j : Nat))) (L := Lj) (S := S) k2 (by omega) (by omega) (by omega) hupj
        obtain ⟨o1, o2, o3⟩ := ivV_facts (withL zs (binderI o N M (j : Nat)))
        have a1 := insFs_len (xk.occ (withL zs (binderI o N M (j : Nat)))) Lj
        have a2 := xk.occ_len (withL zs (binderI o N M (j : Nat)))
        have a3 := insFs_up (xk.occ (withL zs (binderI o N M (j : Nat)))) hupj
        obtain ⟨p1, p2, p3⟩ := ivV_facts (insFs Lj (xk.occ (withL zs (binderI o N M (j : Nat)))))
        simp [vmS, runC_nil, runC_cons, pickC_some, wantC_tt, wantC_tf, effC_val, ifC_true, checkC, inPairs, keepC, okC, readsC_load, readV_some, AV.beq_self, wantA_n, wantA_g, wantD_some, d0, vloc, tb, tw, t0, hlen, hj, hw, hix, bu, wu, su, b1, b2, b3, n1, n2, n3, g1, g2, g3, o1, o2, o3, p1, p2, p3]
        exact hq1 (r - 1) _ _ (by omega) ⟨j + 1, _, _, by omega, hs, by omega, a3, rfl, rfl⟩
       ·have hjl : j = l.length := by omega
        subst hjl
        rw [List.drop_length] at hs
        simp only [Ex.occs] at hs
        have hR' : Lj = R := hs
        subst hR'
        simp [vmS, vloc, tb, tw, t0, hlen]
        exact hq2 _ _ _ (by simp) ⟨rfl, rfl, _, _, rfl⟩)
     obtain ⟨rfl, rfl, y, sc, rfl⟩ := hq
     obtain ⟨n1, n2, n3⟩ := ivV_facts R
     simp [vmS, vloc, tb, tw, n1, n2, n3]
     exact hp _ _ (by rw [FRes.melt, hmel])
   ·cases h
  ·cases h
 ·cases h
theorem frees_ok : ∀ D, FOk 61 (freesG D)
 | 0 => by
  intro a r h
  unfold freesG at h
  split at h
  ·split at h
   ·rename_i e zs L he _ _
    split at h
    ·rename_i hc
     have := e.deep_pos
     omega
    ·cases h
   ·cases h
  ·cases h
 | D + 1 => frees_step (frees_ok D)
end Go.Vm.L
