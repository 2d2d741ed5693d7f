/-
Whether a program is well formed, as the document has it. No conditions.
-/
import Derived.Test.YtjfnelfdlemfgaaGreatDoorSaidB
import Derived.Test.YtjfnelfdlemfgaaGreatDoorNodeH
import Derived.Test.YtjfnelfdlemfgaaGreatDoorNodeI
set_option linter.all false
set_option maxHeartbeats 4000000
namespace Go.Vm.L
open Go Go.Proofs Go.Vm
set_option maxRecDepth 100000
attribute [local simp] inFrame startLoc startVals Loc.clear blockC Loc.putO Loc.put idx evO constV Loc.get Vm.look intA unwindA resultsA resultV actA pureA storeA loadA fillE repElems TI.zeroV fieldOf fieldAddrA fieldA elemsA retE cellsOf? setCells nowhere mapHead headNext
noncomputable def shapedG (D : Nat) : List AV → Option FRes
 | [v, .int .i64 many, .slice es .dead, .int .i64 most] => match exOf v, intsOf es with
  | some e, some zs => if e.deep ≤ D ∧ 0 ≤ many ∧ many ≤ 1000000 ∧ 0 ≤ most ∧ (zs ≠ [] ∧ (zs.length : Int) + most ≤ 1000) then some (.ret (.bool (e.shp many.toNat zs most.toNat))) else none
  | _, _ => none
 | _ => none
noncomputable def LQ7 (D : Nat) : Sm := [(96, shapedG D), (141, partsG), (142, numbersG), (39, binderG), (108, withG)]
theorem LQ7_ok {D : Nat} (h : FOk 96 (shapedG D)) : ∀ x ∈ LQ7 D, FOk x.1 x.2 := by
 intro x hx
 simp only [LQ7, List.mem_cons, List.mem_nil_iff, or_false] at hx
 rcases hx with rfl | rfl | rfl | rfl | rfl
 ·exact h
 ·exact parts_ok
 ·exact numbers_ok
 ·exact binder_ok
 ·exact with_ok
theorem shaped_use {l : Sm} {D : Nat} (h : sumG l 96 = shapedG D) {m : Nat} {e : Ex} {k most : Nat} {zs : List Int} {tk : Tk} {S : St} (he : e.fit) (hd : e.deep ≤ D) (hk : k ≤ 1000000) (hne : zs ≠ []) (hz : zs.length + most ≤ 1000) {mv : Int} (hm : mv = (most : Int)) :
  callS ED (sumG l) m (.fn 96) [.agg [.int .i64 e.op, .int .i64 e.num, .int .i64 e.mun, e.lst], .int .i64 (k : Nat), .slice (ints zs) tk, .int .i64 mv] S = some (.ret (.bool (e.shp k zs most)), S) := by
 rw [← e.look]
 subst hm
 refine callS_sum ?_
 have h1 : (0 : Int) ≤ (k : Nat) ∧ ((k : Nat) : Int) ≤ 1000000 ∧ (0 : Int) ≤ (most : Nat) ∧ ((zs.length : Nat) : Int) + (most : Nat) ≤ 1000 := by omega
 obtain ⟨h1, h2, h3, h4⟩ := h1
 rw [h]
 simp [shapedG, exOf_enc he, intsOf_ints, ints_dead, AV.dead, hd, h1, h2, h3, h4, hne]
theorem withL_len (zs : List Int) (n : Int) : (withL zs n).length ≤ zs.length + 1 := by
 unfold withL
 split <;> simp
theorem withL_ne {zs : List Int} (n : Int) (h : zs ≠ []) : withL zs n ≠ [] := by
 unfold withL
 split
 ·exact h
 ·simp
theorem shaped_step {D : Nat} (ih : FOk 96 (shapedG D)) : FOk 96 (shapedG (D + 1)) := by
 refine fok (LQ7 D) (LQ7_ok ih) ?_
 intro a r h
 unfold shapedG at h
 split at h
 ·rename_i v many es most
  split at h
  ·rename_i e zs he hzs
   split at h
   ·rename_i hc
    obtain ⟨hD, hm0, hm1, hs0, hne, hzl⟩ := hc
    obtain ⟨hfit, rfl⟩ := exOf_some he
    have := intsOf_eq hzs
    subst this
    cases h
    obtain ⟨d, rfl⟩ : ∃ d : Nat, most = d := ⟨most.toNat, by omega⟩
    obtain ⟨k, rfl⟩ : ∃ k : Nat, many = k := ⟨many.toNat, by omega⟩
    rw [Int.toNat_natCast, Int.toNat_natCast]
    refine ⟨by simp [AV.persL, AV.pers, ints_pers, Ex.pers], rfl, e.kids.length + 3, fun p hp => ?_⟩
    by_cases hD' : e.deep ≤ D
    ·rw [e.look, shaped_use (l := LQ7 D) rfl hfit hD' (by omega) hne (by omega) rfl]
     exact hp _ _ rfl
    have hno : sumG (LQ7 D) 96 ([e.enc, .int .i64 (k : Nat), .slice (ints zs) .dead, .int .i64 (d : Nat)].map AV.dead) = none := by
     rw [show sumG (LQ7 D) 96 = shapedG D from rfl]
     simp [shapedG, exOf_enc hfit, intsOf_ints, ints_dead, AV.dead, hD']
    rw [callS_go hno]
    have pu := fun m x S => parts_use (l := LQ7 D) rfl (n := m) (x := x) (S := S)
    have nu := fun m S (h8 : e.kids.length ≤ 1000) => numbers_use (l := LQ7 D) rfl (m := m) (e := e) (k := k) (zs := zs) (tk := .dead) (S := S) hfit (by omega) h8 (by omega)
    have hlen := e.len
    obtain ⟨hc1, hc2, hc3⟩ := e.cell
    have hlp := e.lst_pers
    have bu := fun m o n mm p S => binder_use (l := LQ7 D) rfl (k := m) (o := o) (n := n) (m := mm) (p := p) (A := e.lst) (S := S) ⟨hlp, hc1⟩
    have hidx := fun j (hj : j < e.kids.length) => e.index hj
    have hkid := fun x (hx : x ∈ e.kids) => (⟨Ex.deep_kid hx, Ex.fit_kid hfit hx⟩ : x.deep < e.deep ∧ x.fit)
    rw [e.shp_kids] at hp
    rw [e.look]
    simp only [fnA, ED_fn96, fi96, Tryz.f96]
    generalize hl : e.kids = l at *
    generalize e.op = o at *
    generalize e.num = N at *
    generalize e.mun = M at *
    generalize e.lst = A at *
    by_cases d0 : d = 0
    ·subst d0
     simp [vmS, hc1, pu]
     exact hp _ _ (by rw [head_zero]; rfl)
    have hdm : IntKind.i64.wrap ((d : Int) - 1) = (d : Int) - 1 := wrap_id (by omega) (by omega)
    have pu := fun m S => pu m o S
    have hhead : headB k o N M l.length zs d = (decide (partsI o ≠ -1) && (decide (partsI o < 0) || decide ((l.length : Int) = partsI o)) && decide (l.length ≤ 8) && numbersB k o N M l.length zs) := by
     unfold headB
     simp [d0]
    rw [hhead] at hp
    generalize partsI o = kp at *
    by_cases d1 : kp = -1
    ·subst d1
     simp [vmS, hc1, pu, d0]
     exact hp _ _ (by simp [FRes.melt, AV.melt, AV.dead])
    by_cases hbad : 0 ≤ kp ∧ ¬ (l.length : Int) = kp
    ·obtain ⟨b1, b2⟩ := hbad
     have b3 : ¬ kp < 0 := by omega
     simp [vmS, hc1, pu, d0, d1, b1, b2, hlen, unA]
     exact hp _ _ (by simp [FRes.melt, AV.melt, AV.dead, b2, b3])
    have hgood : (decide (kp ≠ -1) && (decide (kp < 0) || decide ((l.length : Int) = kp))) = true := by
     simp only [Bool.and_eq_true, Bool.or_eq_true, decide_eq_true_eq]
     exact ⟨d1, by omega⟩
    rw [hgood, Bool.true_and] at hp
    have hab : ((0 ≤ kp) = True ∧ ((l.length : Int) = kp) = True) ∨ ((0 ≤ kp) = False ∧ True) := by
     by_cases b1 : 0 ≤ kp
     ·left; exact ⟨eq_true b1, eq_true (by omega)⟩
     ·right; exact ⟨eq_false b1, trivial⟩
    by_cases h8 : l.length ≤ 8
    ·have e1 : ((8 : Int) < (l.length : Int)) = False := eq_false (by omega)
     have e2 : (8 < l.length) = False := eq_false (by omega)
     have nu := fun m S => nu m S (by omega)
     cases hn : numbersB k o N M l.length zs with
     | false =>
      rw [hn] at hp nu
      rcases hab with ⟨b1, b2⟩ | ⟨b1, b2⟩ <;>
      ·simp [vmS, hc1, pu, d0, d1, b1, b2, hlen, unA, e1, e2, nu]
       exact hp _ _ (by simp [FRes.melt, AV.melt, AV.dead])
     | true =>
      rw [hn] at hp nu
      have hd8 : decide (l.length ≤ 8) = true := by simpa using h8
      rw [hd8] at hp
      generalize hR : Ex.shps k o N M l 0 zs (d - 1) = R at hp
      rcases hab with ⟨b1, b2⟩ | ⟨b1, b2⟩ <;>
      ·simp [vmS, hc1, pu, d0, d1, b1, b2, hlen, unA, e1, e2, nu]
       have d0' := @dr96_0
       simp only [drA, drawsOf, Option.getD_some, List.nil_append, List.append_nil, List.getD_cons_zero, List.getD_cons_succ, List.cons_append, Tryz.f96] at d0'
       generalize hT : S0.push (.cells [.int .i64 o, .int .i64 N, .int .i64 M, A]) = T
       have tb : T.bad = false := by subst hT; rfl
       have tw : T.wb = 0 := by subst hT; rfl
       have t0 : T.cells? 0 = some [.int .i64 o, .int .i64 N, .int .i64 M, A] := by subst hT; simp [push_at, n_push', n_S0, cellsOf?]
       generalize hc : iter _ _ _ _ = c
       obtain ⟨ex, L1, S1, rfl, hq⟩ := loop_of hc
        (fun r L S' => ∃ (j : Nat) (sc : List (Tmp × AV)), j + r = l.length ∧ Ex.shps k o N M (l.drop j) j zs (d - 1) = R ∧ L = vloc [.agg [.int .i64 o, .int .i64 N, .int .i64 M, A], .int .i64 (k : Nat), .slice (ints zs) .dead, .int .i64 (d : Nat), .ptr 0 0, .bool false, .int .i64 kp, .int .i64 (j : Nat)] sc ∧ S' = T)
        (fun ex L S' => S' = T ∧ ∃ (x : AV) (sc : List (Tmp × AV)), (ex = .exit 0 ∧ R = true ∧ L = vloc [.agg [.int .i64 o, .int .i64 N, .int .i64 M, A], .int .i64 (k : Nat), .slice (ints zs) .dead, .int .i64 (d : Nat), .ptr 0 0, .bool false, .int .i64 kp, x] sc) ∨
         (ex = .ret ∧ R = false ∧ L = vloc [.agg [.int .i64 o, .int .i64 N, .int .i64 M, A], .int .i64 (k : Nat), .slice (ints zs) .dead, .int .i64 (d : Nat), .ptr 0 0, .bool false, .int .i64 kp, x] sc))
        l.length (by omega)
        ⟨0, _, by simp, by simpa using hR, rfl, rfl⟩
        (by
         rintro r L S' ⟨j, sc, hjk, hs, rfl, rfl⟩ q hq1 hq2
         by_cases hj : j < l.length
         ·have hw : IntKind.i64.wrap ((j : Int) + 1) = ((j : Int) + 1) := wrap_id (by omega) (by omega)
          have hix := hidx j hj
          obtain ⟨k1, k2⟩ := hkid _ (List.getElem_mem hj)
          rw [drop_kid hj] at hs
          simp only [Ex.shps] at hs
          generalize l[j] = xk at *
          have xl := xk.look
          obtain ⟨g1, g2, g3⟩ := xk.cell
          rw [xl] at hix
          have bu := fun m S => bu m o N M (j : Nat) S
          have wl := withL_len zs (binderI o N M (j : Nat))
          have wu := fun m S => with_use (l := LQ7 D) rfl (k := m) (zs := zs) (tk := .dead) (n := binderI o N M (j : Nat)) (S := S) (by omega) hne
          have su := fun m tk S => shaped_use (l := LQ7 D) rfl (m := m) (e := xk) (k := k) (most := d - 1) (zs := withL zs (binderI o N M (j : Nat))) (tk := tk) (S := S) k2 (by omega) (by omega) (withL_ne _ hne) (by omega) (mv := (d : Int) - 1) (by omega)
          generalize binderI o N M (j : Nat) = bi at *
          generalize withL zs bi = wz at *
          cases hx : xk.shp k wz (d - 1) with
          | true =>
           rw [hx] at hs su
           simp [vmS, runC_nil, runC_cons, pickC_some, wantC_tt, wantC_tf, effC_val, ifC_true, checkC, inPairs, keepC, okC, readsC_load, readV_some, AV.beq_self, wantA_n, wantA_g, wantD_some, d0', vloc, tb, tw, t0, hlen, hj, hw, hdm, hix, bu, wu, su, unA, g1, g2, g3]
           exact hq1 (r - 1) _ _ (by omega) ⟨j + 1, _, by omega, by simpa using hs, rfl, rfl⟩
          | false =>
           rw [hx] at hs su
           simp [vmS, runC_nil, runC_cons, pickC_some, wantC_tt, wantC_tf, effC_val, ifC_true, checkC, inPairs, keepC, okC, readsC_load, readV_some, AV.beq_self, wantA_n, wantA_g, wantD_some, d0', vloc, tb, tw, t0, hlen, hj, hw, hdm, hix, bu, wu, su, unA, g1, g2, g3]
           exact hq2 _ _ _ (by simp) ⟨rfl, _, _, .inr ⟨rfl, by rw [← hs]; rfl, rfl⟩⟩
         ·have hjl : j = l.length := by omega
          subst hjl
          rw [List.drop_length] at hs
          simp only [Ex.shps] at hs
          simp [vmS, vloc, tb, tw, t0, hlen]
          exact hq2 _ _ _ (by simp) ⟨rfl, _, _, .inl ⟨rfl, by rw [← hs], rfl⟩⟩)
       obtain ⟨rfl, x, sc, ⟨rfl, ha, rfl⟩ | ⟨rfl, ha, rfl⟩⟩ := hq
       ·simp [vmS, vloc, tb, tw]
        exact hp _ _ (by rw [ha]; rfl)
       ·simp [vmS, vloc, tb, tw]
        exact hp _ _ (by rw [ha]; rfl)
    ·have e1 : ((8 : Int) < (l.length : Int)) = True := eq_true (by omega)
     have e2 : (8 < l.length) = True := eq_true (by omega)
     rcases hab with ⟨b1, b2⟩ | ⟨b1, b2⟩ <;>
     ·simp [vmS, hc1, pu, d0, d1, b1, b2, hlen, unA, e1, e2]
      exact hp _ _ (by simp [FRes.melt, AV.melt, AV.dead, h8])
   ·cases h
  ·cases h
 ·cases h
theorem shaped_zero : FOk 96 (shapedG 0) := by
 intro a r h
 unfold shapedG at h
 split at h
 ·split at h
  ·rename_i e zs he hzs
   split at h
   ·rename_i hc
    have := e.deep_pos
    omega
   ·cases h
  ·cases h
 ·cases h
theorem shaped_ok : ∀ D, FOk 96 (shapedG D)
 | 0 => shaped_zero
 | D + 1 => shaped_step (shaped_ok D)
/-! how great -/
noncomputable def sizeG (D : Nat) : List AV → Option FRes
 | [v] => match exOf v with
  | some e => if e.deep ≤ D ∧ e.size ≤ 100000 then some (.ret (.int .i64 (e.size : Nat))) else none
  | none => none
 | _ => none
theorem size_use {l : Sm} {D : Nat} (h : sumG l 97 = sizeG D) {m : Nat} {e : Ex} {S : St} (he : e.fit) (hd : e.deep ≤ D) (hs : e.size ≤ 100000) :
  callS ED (sumG l) m (.fn 97) [.agg [.int .i64 e.op, .int .i64 e.num, .int .i64 e.mun, e.lst]] S = some (.ret (.int .i64 (e.size : Nat)), S) := by
 rw [← e.look]
 refine callS_sum ?_
 rw [h]
 simp [sizeG, exOf_enc he, hd, hs]
theorem sizes_mem : ∀ {l : List Ex} {x : Ex}, x ∈ l → x.size ≤ Ex.sizes l
 | a :: l, x, hx => by
  simp only [Ex.sizes]
  rcases List.mem_cons.1 hx with rfl | hx
  ·omega
  ·have := sizes_mem hx; omega
theorem sizes_len : ∀ (l : List Ex), l.length ≤ Ex.sizes l
 | [] => Nat.le_refl _
 | a :: l => by
  have := sizes_len l
  have := a.size_pos
  simp only [Ex.sizes, List.length_cons]
  omega
theorem sizes_drop : ∀ (l : List Ex) (j : Nat), Ex.sizes (l.drop j) ≤ Ex.sizes l
 | [], j => by simp
 | a :: l, 0 => by simp
 | a :: l, j + 1 => by
  have := sizes_drop l j
  simp only [List.drop_succ_cons, Ex.sizes]
  omega
theorem size_step {D : Nat} (ih : FOk 97 (sizeG D)) : FOk 97 (sizeG (D + 1)) := by
 refine fok [(97, sizeG D)] (by simp; exact ih) ?_
 intro a r h
 unfold sizeG at h
 split at h
 ·rename_i v
  split at h
  ·rename_i e he
   split at h
   ·rename_i hc
    obtain ⟨hD, hsz⟩ := hc
    obtain ⟨hfit, rfl⟩ := exOf_some he
    cases h
    refine ⟨by simp [AV.persL, Ex.pers], rfl, e.kids.length + 3, fun p hp => ?_⟩
    by_cases hD' : e.deep ≤ D
    ·rw [e.look, size_use (l := [(97, sizeG D)]) rfl hfit hD' hsz]
     exact hp _ _ rfl
    have hno : sumG [(97, sizeG D)] 97 ([e.enc].map AV.dead) = none := by
     rw [show sumG [(97, sizeG D)] 97 = sizeG D from rfl]
     simp [sizeG, exOf_enc hfit, hD']
    rw [callS_go hno]
    have hlen := e.len
    obtain ⟨hc1, hc2, hc3⟩ := e.cell
    have hlp := e.lst_pers
    have hidx := fun j (hj : j < e.kids.length) => e.index hj
    rw [e.size_kids] at hp hsz
    have hkid := fun x (hx : x ∈ e.kids) => (⟨Ex.deep_kid hx, Ex.fit_kid hfit hx, sizes_mem hx⟩ : x.deep < e.deep ∧ x.fit ∧ x.size ≤ Ex.sizes e.kids)
    rw [e.look]
    simp only [fnA, ED_fn97, fi97, Tryz.f97]
    generalize hl : e.kids = l at *
    generalize e.op = o at *
    generalize e.num = N at *
    generalize e.mun = M at *
    generalize e.lst = A at *
    have hsl := sizes_len l
    simp [vmS, hc1]
    generalize hT : S0.push (.cells [.int .i64 o, .int .i64 N, .int .i64 M, A]) = T
    have tb : T.bad = false := by subst hT; rfl
    have tw : T.wb = 0 := by subst hT; rfl
    have t0 : T.cells? 0 = some [.int .i64 o, .int .i64 N, .int .i64 M, A] := by subst hT; simp [push_at, n_push', n_S0, cellsOf?]
    generalize hc : iter _ _ _ _ = c
    obtain ⟨ex, L1, S1, rfl, hq⟩ := loop_of hc
     (fun r L S' => ∃ (j x : Nat) (sc : List (Tmp × AV)), j + r = l.length ∧ x + Ex.sizes (l.drop j) = Ex.sizes l + 1 ∧ L = vloc [.agg [.int .i64 o, .int .i64 N, .int .i64 M, A], .ptr 0 0, .int .i64 0, .int .i64 (x : Nat), .int .i64 (j : Nat)] sc ∧ S' = T)
     (fun ex L S' => S' = T ∧ ex = .exit 0 ∧ ∃ (y : AV) (sc : List (Tmp × AV)), L = vloc [.agg [.int .i64 o, .int .i64 N, .int .i64 M, A], .ptr 0 0, .int .i64 0, .int .i64 (Ex.sizes l + 1 : Nat), y] sc)
     l.length (by omega)
     ⟨0, 1, _, by simp, by simp; omega, rfl, rfl⟩
     (by
      rintro r L S' ⟨j, x, sc, hjk, hs, rfl, rfl⟩ q hq1 hq2
      by_cases hj : j < l.length
      ·have hw : IntKind.i64.wrap ((j : Int) + 1) = ((j : Int) + 1) := wrap_id (by omega) (by omega)
       have hix := hidx j hj
       obtain ⟨k1, k2, k3⟩ := hkid _ (List.getElem_mem hj)
       rw [drop_kid hj] at hs
       simp only [Ex.sizes] at hs
       generalize l[j] = xk at *
       have xl := xk.look
       obtain ⟨g1, g2, g3⟩ := xk.cell
       rw [xl] at hix
       have su := fun m S => size_use (l := [(97, sizeG D)]) rfl (m := m) (e := xk) (S := S) k2 (by omega) (by omega)
       have hwx : IntKind.i64.wrap ((x : Int) + (xk.size : Int)) = (x : Int) + (xk.size : Int) := wrap_id (by omega) (by omega)
       simp [vmS, vloc, tb, tw, t0, hlen, hj, hw, hix, su, hwx, g1, g2, g3]
       exact hq1 (r - 1) _ _ (by omega) ⟨j + 1, x + xk.size, _, by omega, by omega, by rfl, rfl⟩
      ·have hjl : j = l.length := by omega
       subst hjl
       rw [List.drop_length] at hs
       simp only [Ex.sizes] at hs
       have hx : x = Ex.sizes l + 1 := by omega
       subst hx
       simp [vmS, vloc, tb, tw, t0, hlen]
       exact hq2 _ _ _ (by simp) ⟨rfl, rfl, _, _, rfl⟩)
    obtain ⟨rfl, rfl, y, sc, rfl⟩ := hq
    simp [vmS, vloc, tb, tw]
    exact hp _ _ rfl
   ·cases h
  ·cases h
 ·cases h
theorem size_ok : ∀ D, FOk 97 (sizeG D)
 | 0 => by
  intro a r h
  unfold sizeG at h
  split at h
  ·split at h
   ·rename_i e he
    split at h
    ·rename_i hc
     have := e.deep_pos
     omega
    ·cases h
   ·cases h
  ·cases h
 | D + 1 => size_step (size_ok D)
/-! functions as values -/
mutual
def Ex.core : Ex → Bool
 | .leaf o _ _ _ => opB o
 | .node o _ _ x l => x.core && Ex.cores l && opB o
def Ex.cores : List Ex → Bool
 | [] => true
 | x :: l => x.core && Ex.cores l
end
theorem Ex.core_kids (v : Ex) : v.core = (Ex.cores v.kids && opB v.op) := by
 cases v with
 | leaf o n m e => simp only [Ex.core, Ex.kids, Ex.cores, Ex.op, Bool.true_and]
 | node o n m x l => simp only [Ex.core, Ex.kids, Ex.cores, Ex.op]
noncomputable def firstG (D : Nat) : List AV → Option FRes
 | [v] => match exOf v with
  | some e => if e.deep ≤ D then some (.ret (.bool e.core)) else none
  | none => none
 | _ => none
theorem first_use {l : Sm} {D : Nat} (h : sumG l 57 = firstG D) {m : Nat} {e : Ex} {S : St} (he : e.fit) (hd : e.deep ≤ D) :
  callS ED (sumG l) m (.fn 57) [.agg [.int .i64 e.op, .int .i64 e.num, .int .i64 e.mun, e.lst]] S = some (.ret (.bool e.core), S) := by
 rw [← e.look]
 refine callS_sum ?_
 rw [h]
 simp [firstG, exOf_enc he, hd]
theorem first_step {D : Nat} (ih : FOk 57 (firstG D)) : FOk 57 (firstG (D + 1)) := by
 refine fok [(57, firstG D)] (by simp; exact ih) ?_
 intro a r h
 unfold firstG at h
 split at h
 ·rename_i v
  split at h
  ·rename_i e he
   split at h
   ·rename_i hD
    obtain ⟨hfit, rfl⟩ := exOf_some he
    cases h
    refine ⟨by simp [AV.persL, Ex.pers], rfl, e.kids.length + 3, fun p hp => ?_⟩
    by_cases hD' : e.deep ≤ D
    ·rw [e.look, first_use (l := [(57, firstG D)]) rfl hfit hD']
     exact hp _ _ rfl
    have hno : sumG [(57, firstG D)] 57 ([e.enc].map AV.dead) = none := by
     rw [show sumG [(57, firstG D)] 57 = firstG D from rfl]
     simp [firstG, exOf_enc hfit, hD']
    rw [callS_go hno]
    have hlen := e.len
    obtain ⟨hc1, hc2, hc3⟩ := e.cell
    have hlp := e.lst_pers
    have hidx := fun j (hj : j < e.kids.length) => e.index hj
    have hmx := Ex.fit_len hfit
    rw [e.core_kids] at hp
    have hkid := fun x (hx : x ∈ e.kids) => (⟨Ex.deep_kid hx, Ex.fit_kid hfit hx⟩ : x.deep < e.deep ∧ x.fit)
    rw [e.look]
    simp only [fnA, ED_fn57, fi57, Tryz.f57]
    generalize hl : e.kids = l at *
    generalize e.op = o at *
    generalize e.num = N at *
    generalize e.mun = M at *
    generalize e.lst = A at *
    simp [vmS, hc1]
    generalize hT : S0.push (.cells [.int .i64 o, .int .i64 N, .int .i64 M, A]) = T
    have tb : T.bad = false := by subst hT; rfl
    have tw : T.wb = 0 := by subst hT; rfl
    have t0 : T.cells? 0 = some [.int .i64 o, .int .i64 N, .int .i64 M, A] := by subst hT; simp [push_at, n_push', n_S0, cellsOf?]
    generalize hR : Ex.cores l = R at hp
    generalize hc : iter _ _ _ _ = c
    obtain ⟨ex, L1, S1, rfl, hq⟩ := loop_of hc
     (fun r L S' => ∃ (j : Nat) (sc : List (Tmp × AV)), j + r = l.length ∧ Ex.cores (l.drop j) = R ∧ L = vloc [.agg [.int .i64 o, .int .i64 N, .int .i64 M, A], .ptr 0 0, .bool false, .int .i64 (j : Nat)] sc ∧ S' = T)
     (fun ex L S' => S' = T ∧ ∃ (y : AV) (sc : List (Tmp × AV)), L = vloc [.agg [.int .i64 o, .int .i64 N, .int .i64 M, A], .ptr 0 0, .bool false, y] sc ∧ ((ex = .exit 0 ∧ R = true) ∨ (ex = .ret ∧ R = false)))
     l.length (by omega)
     ⟨0, _, by simp, by simpa using hR, rfl, rfl⟩
     (by
      rintro r L S' ⟨j, sc, hjk, hs, rfl, rfl⟩ q hq1 hq2
      by_cases hj : j < l.length
      ·have hw : IntKind.i64.wrap ((j : Int) + 1) = ((j : Int) + 1) := wrap_id (by omega) (by unfold maxLen at hmx; omega)
       have hix := hidx j hj
       obtain ⟨k1, k2⟩ := hkid _ (List.getElem_mem hj)
       rw [drop_kid hj] at hs
       simp only [Ex.cores] at hs
       generalize l[j] = xk at *
       have xl := xk.look
       obtain ⟨g1, g2, g3⟩ := xk.cell
       rw [xl] at hix
       have su := fun m S => first_use (l := [(57, firstG D)]) rfl (m := m) (e := xk) (S := S) k2 (by omega)
       cases hx : xk.core with
       | true =>
        rw [hx] at hs su
        simp [vmS, vloc, tb, tw, t0, hlen, hj, hw, hix, su, unA, g1, g2, g3]
        exact hq1 (r - 1) _ _ (by omega) ⟨j + 1, _, by omega, by simpa using hs, rfl, rfl⟩
       | false =>
        rw [hx] at hs su
        simp [vmS, vloc, tb, tw, t0, hlen, hj, hw, hix, su, unA, g1, g2, g3]
        exact hq2 _ _ _ (by simp) ⟨rfl, _, _, rfl, .inr ⟨rfl, by rw [← hs]; rfl⟩⟩
      ·have hjl : j = l.length := by omega
       subst hjl
       rw [List.drop_length] at hs
       simp only [Ex.cores] at hs
       simp [vmS, vloc, tb, tw, t0, hlen]
       exact hq2 _ _ _ (by simp) ⟨rfl, _, _, rfl, .inl ⟨rfl, by rw [← hs]⟩⟩)
    obtain ⟨rfl, y, sc, rfl, ⟨rfl, ha⟩ | ⟨rfl, ha⟩⟩ := hq
    ·by_cases o4 : o = 4
     ·subst o4
      simp [vmS, vloc, tb, tw, t0]
      exact hp _ _ (by rw [ha]; rfl)
     ·by_cases o5 : o = 5
      ·subst o5
       simp [vmS, vloc, tb, tw, t0]
       exact hp _ _ (by rw [ha]; rfl)
      ·by_cases o6 : o = 6
       ·subst o6
        simp [vmS, vloc, tb, tw, t0]
        exact hp _ _ (by rw [ha]; rfl)
       ·simp [vmS, vloc, tb, tw, t0, o4, o5, o6]
        exact hp _ _ (by rw [ha]; simp [FRes.melt, AV.melt, AV.dead, opB, o4, o5, o6])
    ·simp [vmS, vloc, tb, tw]
     exact hp _ _ (by rw [ha]; rfl)
   ·cases h
  ·cases h
 ·cases h
theorem first_ok : ∀ D, FOk 57 (firstG D)
 | 0 => by
  intro a r h
  unfold firstG at h
  split at h
  ·split at h
   ·rename_i e he
    split at h
    ·rename_i hc
     have := e.deep_pos
     omega
    ·cases h
   ·cases h
  ·cases h
 | D + 1 => first_step (first_ok D)
/-! the head -/
noncomputable def headRG : List AV → Option FRes
 | [v] => match prOf v with
  | some P => some (.ret (.bool (headF P.funs P.main)))
  | none => none
 | _ => none
def LQ8 : Sm := [(60, withinG), (140, nameG)]
theorem LQ8_ok : ∀ x ∈ LQ8, FOk x.1 x.2 := by
 intro x hx
 simp only [LQ8, List.mem_cons, List.mem_nil_iff, or_false] at hx
 rcases hx with rfl | rfl
 ·exact in_ok
 ·exact name_ok
theorem val_at (P : Pr) (hne : P.funs ≠ []) : ∀ (j : Nat) (h : j < P.funs.length), indexAddrA ED 22 P.val (.int .i64 (j : Nat)) = some (.rptr P.funs[j].vals) := fun j h => by
 rw [P.val_slice hne]
 exact index_fu h
theorem take_at {α : Type} {l : List α} {j i : Nat} (h : i < j) (hj : j ≤ l.length) : (l.take j).drop i = l[i]'(by omega) :: (l.take j).drop (i + 1) := by
 have h1 : i < (l.take j).length := by rw [List.length_take]; omega
 rw [List.drop_eq_getElem_cons h1, List.getElem_take]
theorem head_ok : FOk 95 headRG := by
 refine fok LQ8 LQ8_ok ?_
 intro a r h
 unfold headRG at h
 split at h
 ·rename_i v
  split at h
  ·rename_i P hP
   obtain ⟨hfit, rfl⟩ := prOf_some hP
   cases h
   refine ⟨by simp [AV.persL, P.pers], rfl, P.funs.length + 5, fun p hp => ?_⟩
   rw [callS_go rfl]
   obtain ⟨q1, q2, q3, q4, q5⟩ := lenV_len (P.lenV hfit) (t := 22) (e := 63) rfl
   obtain ⟨hff, hfl⟩ := hfit
   have iu := fun m x a b S => in_use (l := LQ8) rfl (n := m) (x := x) (a := a) (b := b) (S := S)
   have nu := fun m s S (h : s.length ≤ 1000000) => name_use (l := LQ8) rfl (n := m) (s := s) (S := S) h
   have hlw : IntKind.i64.wrap ((P.funs.length : Int) - 1) = (P.funs.length : Int) - 1 := wrap_id (by omega) (by omega)
   have lf : ∀ m S, callS ED (sumG LQ8) m (.fn 60) [.int .i64 P.main, .int .i64 0, .int .i64 ((P.funs.length : Int) - 1)] S = some (.ret (.bool (isFunB P.funs.length P.main)), S) := fun m S => iu m P.main 0 _ S
   simp only [Pr.enc]
   simp only [fnA, ED_fn95, fi95, Tryz.f95]
   unfold headF at hp
   by_cases d1 : 1 ≤ P.funs.length ∧ P.funs.length ≤ 40
   ·have d1' : (1 : Int) ≤ (P.funs.length : Int) ∧ (P.funs.length : Int) ≤ 40 := by omega
    have hd1 : decide (1 ≤ P.funs.length ∧ P.funs.length ≤ 40) = true := decide_eq_true d1
    rw [hd1, Bool.true_and] at hp
    have lw : ∀ m S, callS ED (sumG LQ8) m (.fn 60) [.int .i64 (P.funs.length : Int), .int .i64 1, .int .i64 40] S = some (.ret (.bool true), S) := fun m S => by
     rw [iu]
     simp [d1'.1, d1'.2]
    cases d3 : isFunB P.funs.length P.main with
    | false =>
     rw [d3] at hp lf
     simp [vmS, q1, q2, q3, q4, lw, hlw, lf, unA]
     exact hp _ _ rfl
    | true =>
     rw [d3, Bool.true_and] at hp
     rw [d3] at lf
     have hix := val_at P (fun e => by rw [e] at d1; simp at d1)
     simp [vmS, q1, q2, q3, q4, lw, hlw, lf, unA]
     have d0 := @dr95_0
     simp only [drA, drawsOf, Option.getD_some, List.nil_append, List.append_nil, List.getD_cons_zero, List.getD_cons_succ, List.cons_append, Tryz.f95] at d0
     generalize hT : S0.push (.cells [P.val, .int .i64 P.main]) = T
     have tc : Cl T := by subst hT; exact Cl.push Cl.zero _
     have t0 : T.cells? 0 = some [P.val, .int .i64 P.main] := by subst hT; simp [push_at, n_push', n_S0, cellsOf?]
     generalize hG : headsB [] P.funs = G at hp
     generalize hc : iter _ _ _ _ = c
     obtain ⟨ex, L1, S1, rfl, hq⟩ := loop_of hc
      (fun r L S' => ∃ (j : Nat) (y z : AV) (sc : List (Tmp × AV)), j + r = P.funs.length ∧ headsB (P.funs.take j) (P.funs.drop j) = G ∧
       L = vloc [.agg [P.val, .int .i64 P.main], .ptr 0 0, .bool false, .int .i64 (j : Nat), y, z] sc ∧ Cl S' ∧ S'.cells? 0 = some [P.val, .int .i64 P.main])
      (fun ex L S' => Cl S' ∧ ∃ (x y z : AV) (sc : List (Tmp × AV)), L = vloc [.agg [P.val, .int .i64 P.main], .ptr 0 0, .bool false, x, y, z] sc ∧ ((ex = .exit 0 ∧ G = true) ∨ (ex = .ret ∧ G = false)))
      P.funs.length (by omega)
      ⟨0, _, _, _, by simp, by simpa using hG, rfl, tc, t0⟩
      (by
       rintro r L S' ⟨j, y, z, sc, hjk, hs, rfl, ⟨w1, w2⟩, x0⟩ q hq1 hq2
       by_cases hj : j < P.funs.length
       ·have hw : IntKind.i64.wrap ((j : Int) + 1) = ((j : Int) + 1) := wrap_id (by omega) (by omega)
        have hixj := hix j hj
        have hffj := hff P.funs[j] (List.getElem_mem hj)
        have htk : P.funs.take (j + 1) = P.funs.take j ++ [P.funs[j]] := by rw [List.take_add_one, List.getElem?_eq_getElem hj]; rfl
        rw [List.drop_eq_getElem_cons hj] at hs
        simp only [headsB] at hs
        rw [← htk] at hs
        generalize P.funs[j] = f at *
        obtain ⟨g1, g2, g3⟩ := f.body.cell
        have hlt0 := St.get_lt (cells?_inv x0)
        have c2 : Cl ((S'.push (.cells [.str [], .int .i64 0, .int .i64 0, .int .i64 0, .int .i64 0, .nils])).put S'.n (.cells f.vals)) := Cl.put (Cl.push ⟨w1, w2⟩ _) _ _
        have k1 : ((S'.push (.cells [.str [], .int .i64 0, .int .i64 0, .int .i64 0, .int .i64 0, .nils])).put S'.n (.cells f.vals)).cells? S'.n = some f.vals := cells?_put_push _ _ _
        have k0 : ((S'.push (.cells [.str [], .int .i64 0, .int .i64 0, .int .i64 0, .int .i64 0, .nils])).put S'.n (.cells f.vals)).cells? 0 = some [P.val, .int .i64 P.main] := by
         rw [cells?_put_ne _ _ _ (by omega), cells?_push_ne _ _ (by omega)]
         exact x0
        simp only [Fu.vals] at c2 k1 k0 hixj
        generalize hS2 : ((S'.push (.cells [.str [], .int .i64 0, .int .i64 0, .int .i64 0, .int .i64 0, .nils])).put S'.n (.cells [.str f.name, .int .i64 f.par, .int .i64 f.body.op, .int .i64 f.body.num, .int .i64 f.body.mun, f.body.lst])) = S2 at *
        have lv : ∀ m S, callS ED (sumG LQ8) m (.fn 60) [.int .i64 f.par, .int .i64 0, .int .i64 399] S = some (.ret (.bool (isVarB f.par)), S) := fun m S => iu m f.par 0 399 S
        have ls : lenA ED 9 (.str f.name) = some (.int .i64 f.name.length) := rfl
        by_cases a0 : f.name.length ≤ 12
        ·have a0' : ((12 : Int) < (f.name.length : Int)) = False := eq_false (by omega)
         have a0'' : (12 < f.name.length) = False := eq_false (by omega)
         have nuf := fun m S => nu m f.name S (by omega)
         cases a1 : nameB f.name with
         | false =>
          rw [a1] at nuf hs
          simp [vmS, vloc, w1, w2, x0, q1, hj, hixj, hS2, c2.1, c2.2, k0, k1, ls, a0', a0'', nuf, unA, g1, g2, g3]
          exact hq2 _ _ _ (by simp) ⟨c2, _, _, _, _, rfl, .inr ⟨rfl, by rw [← hs]; simp⟩⟩
         | true =>
          rw [a1] at nuf hs
          cases a2 : isVarB f.par with
          | false =>
           rw [a2] at lv hs
           simp [vmS, vloc, w1, w2, x0, q1, hj, hixj, hS2, c2.1, c2.2, k0, k1, ls, a0', a0'', nuf, lv, unA, g1, g2, g3]
           exact hq2 _ _ _ (by simp) ⟨c2, _, _, _, _, rfl, .inr ⟨rfl, by rw [← hs]; simp⟩⟩
          | true =>
           rw [a2] at lv hs
           simp [vmS, vloc, w1, w2, x0, q1, hj, hixj, hS2, c2.1, c2.2, k0, k1, ls, a0', a0'', nuf, lv, unA, g1, g2, g3]
           generalize hA : ((P.funs.take j).any fun g => g.name == f.name) = AA at hs
           generalize hc2 : iter _ _ _ _ = c2'
           obtain ⟨ex2, L2, S3, rfl, hq'⟩ := loop_of hc2
            (fun r L T' => ∃ (i : Nat) (sc : List (Tmp × AV)), i + r = j ∧ (((P.funs.take j).drop i).any fun g => g.name == f.name) = AA ∧
             L = vloc [.agg [P.val, .int .i64 P.main], .ptr 0 0, .bool false, .int .i64 (j : Nat), .ptr S'.n 0, .int .i64 (i : Nat)] sc ∧ T' = S2)
            (fun ex L T' => T' = S2 ∧ ∃ (z : AV) (sc : List (Tmp × AV)), ((ex = .exit 2 ∧ AA = false ∧ L = vloc [.agg [P.val, .int .i64 P.main], .ptr 0 0, .bool false, .int .i64 (j : Nat), .ptr S'.n 0, z] sc) ∨ (ex = .ret ∧ AA = true ∧ L = vloc [.agg [P.val, .int .i64 P.main], .ptr 0 0, .bool false, .int .i64 (j : Nat), .ptr S'.n 0, z] sc)))
            j (by omega)
            ⟨0, _, by simp, by simpa using hA, rfl, rfl⟩
            (by
             rintro r2 L T' ⟨i, sc2, hik, hs2, rfl, rfl⟩ q2 hq1' hq2'
             by_cases hi : i < j
             ·have hwi : IntKind.i64.wrap ((i : Int) + 1) = ((i : Int) + 1) := wrap_id (by omega) (by omega)
              have hixi := hix i (by omega)
              rw [take_at hi (by omega), List.any_cons] at hs2
              generalize P.funs[i] = g at *
              simp only [Fu.vals] at hixi
              cases hb : g.name == f.name with
              | true =>
               rw [hb] at hs2
               simp [vmS, runC_nil, runC_cons, pickC_some, wantC_tt, wantC_tf, effC_val, ifC_true, checkC, inPairs, keepC, okC, readsC_load, readV_some, AV.beq_self, wantA_n, wantA_g, wantD_some, d0, vloc, c2.1, c2.2, k0, k1, hixi, hi, hwi, bin_str, strA, hb]
               exact hq2' _ _ _ (by simp) ⟨rfl, _, _, .inr ⟨rfl, by rw [← hs2]; rfl, rfl⟩⟩
              | false =>
               rw [hb] at hs2
               simp [vmS, runC_nil, runC_cons, pickC_some, wantC_tt, wantC_tf, effC_val, ifC_true, checkC, inPairs, keepC, okC, readsC_load, readV_some, AV.beq_self, wantA_n, wantA_g, wantD_some, d0, vloc, c2.1, c2.2, k0, k1, hixi, hi, hwi, bin_str, strA, hb]
               exact hq1' (r2 - 1) _ _ (by omega) ⟨i + 1, _, by omega, by simpa using hs2, rfl, rfl⟩
             ·have hij : i = j := by omega
              subst hij
              rw [List.drop_of_length_le (by rw [List.length_take]; omega)] at hs2
              simp [vmS, vloc, c2.1, c2.2]
              exact hq2' _ _ _ (by simp) ⟨rfl, _, _, .inl ⟨rfl, by rw [← hs2]; rfl, rfl⟩⟩)
           obtain ⟨rfl, z2, sc2, ⟨rfl, ha, rfl⟩ | ⟨rfl, ha, rfl⟩⟩ := hq'
           ·rw [ha] at hs
            simp [vmS, vloc, c2.1, c2.2, hw]
            exact hq1 (r - 1) _ _ (by omega) ⟨j + 1, _, _, _, by omega, by rw [← hs]; simp [a0], rfl, c2, k0⟩
           ·rw [ha] at hs
            simp [vmS, vloc, c2.1, c2.2]
            exact hq2 _ _ _ (by simp) ⟨c2, _, _, _, _, rfl, .inr ⟨rfl, by rw [← hs]; simp⟩⟩
        ·have a0' : ((12 : Int) < (f.name.length : Int)) = True := eq_true (by omega)
         have a0'' : (12 < f.name.length) = True := eq_true (by omega)
         have a0d : decide (f.name.length ≤ 12) = false := decide_eq_false a0
         rw [a0d] at hs
         simp [vmS, vloc, w1, w2, x0, q1, hj, hixj, hS2, c2.1, c2.2, k0, k1, ls, a0', a0'', unA, g1, g2, g3]
         exact hq2 _ _ _ (by simp) ⟨c2, _, _, _, _, rfl, .inr ⟨rfl, by rw [← hs]; simp⟩⟩
       ·have hjl : j = P.funs.length := by omega
        subst hjl
        rw [List.drop_length] at hs
        simp only [headsB] at hs
        simp [vmS, vloc, w1, w2, x0, q1]
        exact hq2 _ _ _ (by simp) ⟨⟨w1, w2⟩, _, _, _, _, rfl, .inl ⟨rfl, hs.symm⟩⟩)
     obtain ⟨C1, x, y, z, sc, rfl, ⟨rfl, ha⟩ | ⟨rfl, ha⟩⟩ := hq
     ·simp [vmS, vloc, C1.1, C1.2]
      exact hp _ _ (by rw [ha]; rfl)
     ·simp [vmS, vloc, C1.1, C1.2]
      exact hp _ _ (by rw [ha]; rfl)
   ·have hd1 : decide (1 ≤ P.funs.length ∧ P.funs.length ≤ 40) = false := decide_eq_false d1
    have lw : ∀ m S, callS ED (sumG LQ8) m (.fn 60) [.int .i64 (P.funs.length : Int), .int .i64 1, .int .i64 40] S = some (.ret (.bool false), S) := fun m S => by
     rw [iu]
     have : ¬ ((1 : Int) ≤ (P.funs.length : Int) ∧ (P.funs.length : Int) ≤ 40) := by omega
     rw [decide_eq_false this]
    rw [hd1] at hp
    simp [vmS, q1, q2, q3, q4, lw, unA]
    exact hp _ _ rfl
  ·cases h
 ·cases h
theorem fok_deep {f : FuncId} {g : List AV → Option FRes} {gD : Nat → List AV → Option FRes} (h : ∀ D, FOk f (gD D)) (hg : ∀ a r, g a = some r → ∃ D, gD D a = some r) : FOk f g := fun a r hr => by
 obtain ⟨D, hD⟩ := hg a r hr
 exact h D a r hD
def formedR (fs : List Fu) (main : Int) : Bool := headF fs main && fs.all (okB fs.length)
noncomputable def formedRD (D : Nat) : List AV → Option FRes
 | [v] => match prOf v with
  | some P => if (∀ f ∈ P.funs, f.body.deep ≤ D ∧ f.body.size ≤ 100000) then some (.ret (.bool (formedR P.funs P.main))) else none
  | none => none
 | _ => none
noncomputable def LQ9 (D : Nat) : Sm := [(95, headRG), (96, shapedG D), (97, sizeG D)]
theorem LQ9_ok (D : Nat) : ∀ x ∈ LQ9 D, FOk x.1 x.2 := by
 intro x hx
 simp only [LQ9, List.mem_cons, List.mem_nil_iff, or_false] at hx
 rcases hx with rfl | rfl | rfl
 ·exact head_ok
 ·exact shaped_ok D
 ·exact size_ok D
theorem pdead2 {P : Pr} : ([AV.agg [P.val, .int .i64 P.main]] : List AV).map AV.dead = [P.enc] := by
 have : (AV.agg [P.val, .int .i64 P.main]).dead = .agg [P.val, .int .i64 P.main] := dead_of_pers _ P.pers
 rw [List.map_cons, List.map_nil, this]
 rfl
theorem headR_use {l : Sm} (h : sumG l 95 = headRG) {P : Pr} (hf : P.fit) {n : Nat} {S : St} : callS ED (sumG l) n (.fn 95) [.agg [P.val, .int .i64 P.main]] S = some (.ret (.bool (headF P.funs P.main)), S) := by
 refine callS_sum ?_
 obtain ⟨q, h1, h2, h3, h4⟩ := prOf_enc hf
 rw [pdead2, h]
 simp only [headRG, h1, h2, h3]
theorem head_len {fs : List Fu} {main : Int} (h : headF fs main = true) : 1 ≤ fs.length ∧ fs.length ≤ 40 := by
 unfold headF at h
 simp only [Bool.and_eq_true, decide_eq_true_eq] at h
 exact h.1.1
theorem formedRD_ok (D : Nat) : FOk 49 (formedRD D) := by
 refine fok (LQ9 D) (LQ9_ok D) ?_
 intro a r h
 unfold formedRD at h
 split at h
 ·rename_i v
  split at h
  ·rename_i P hP
   split at h
   ·rename_i hDs
    obtain ⟨hfit, rfl⟩ := prOf_some hP
    cases h
    refine ⟨by simp [AV.persL, P.pers], rfl, P.funs.length + 5, fun p hp => ?_⟩
    rw [callS_go rfl]
    obtain ⟨q1, q2, q3, q4, q5⟩ := lenV_len (P.lenV hfit) (t := 22) (e := 63) rfl
    have hu := fun m S => headR_use (l := LQ9 D) rfl hfit (n := m) (S := S)
    obtain ⟨hff, hfl⟩ := hfit
    simp only [Pr.enc]
    simp only [fnA, ED_fn49, fi49, Tryz.f49]
    unfold formedR at hp
    cases hH : headF P.funs P.main with
    | false =>
     rw [hH] at hp hu
     simp [vmS, q1, q2, q3, q4, hu, unA]
     exact hp _ _ rfl
    | true =>
     rw [hH] at hp hu
     rw [Bool.true_and] at hp
     obtain ⟨n1, n2⟩ := head_len hH
     have hix := val_at P (fun e => by rw [e] at n1; simp at n1)
     simp [vmS, q1, q2, q3, q4, hu, unA]
     generalize hT : S0.push (.cells [P.val, .int .i64 P.main]) = T
     have tc : Cl T := by subst hT; exact Cl.push Cl.zero _
     have t0 : T.cells? 0 = some [P.val, .int .i64 P.main] := by subst hT; simp [push_at, n_push', n_S0, cellsOf?]
     generalize hG : P.funs.all (okB P.funs.length) = G at hp
     generalize hc : iter _ _ _ _ = c
     obtain ⟨ex, L1, S1, rfl, hq⟩ := loop_of hc
      (fun r L S' => ∃ (j : Nat) (y : AV) (sc : List (Tmp × AV)), j + r = P.funs.length ∧ (P.funs.drop j).all (okB P.funs.length) = G ∧
       L = vloc [.agg [P.val, .int .i64 P.main], .ptr 0 0, .bool false, .int .i64 (j : Nat), y] sc ∧ Cl S' ∧ S'.cells? 0 = some [P.val, .int .i64 P.main])
      (fun ex L S' => Cl S' ∧ ∃ (x y : AV) (sc : List (Tmp × AV)), L = vloc [.agg [P.val, .int .i64 P.main], .ptr 0 0, .bool false, x, y] sc ∧ ((ex = .exit 0 ∧ G = true) ∨ (ex = .ret ∧ G = false)))
      P.funs.length (by omega)
      ⟨0, _, _, by simp, by simpa using hG, rfl, tc, t0⟩
      (by
       rintro r L S' ⟨j, y, sc, hjk, hs, rfl, ⟨w1, w2⟩, x0⟩ q hq1 hq2
       by_cases hj : j < P.funs.length
       ·have hw : IntKind.i64.wrap ((j : Int) + 1) = ((j : Int) + 1) := wrap_id (by omega) (by omega)
        have hixj := hix j hj
        have hffj := hff P.funs[j] (List.getElem_mem hj)
        have hdsj := hDs P.funs[j] (List.getElem_mem hj)
        rw [List.drop_eq_getElem_cons hj, List.all_cons] at hs
        generalize P.funs[j] = f at *
        obtain ⟨g1, g2, g3⟩ := f.body.cell
        have hlt0 := St.get_lt (cells?_inv x0)
        have c2 : Cl ((S'.push (.cells [.str [], .int .i64 0, .int .i64 0, .int .i64 0, .int .i64 0, .nils])).put S'.n (.cells f.vals)) := Cl.put (Cl.push ⟨w1, w2⟩ _) _ _
        have k1 : ((S'.push (.cells [.str [], .int .i64 0, .int .i64 0, .int .i64 0, .int .i64 0, .nils])).put S'.n (.cells f.vals)).cells? S'.n = some f.vals := cells?_put_push _ _ _
        have k0 : ((S'.push (.cells [.str [], .int .i64 0, .int .i64 0, .int .i64 0, .int .i64 0, .nils])).put S'.n (.cells f.vals)).cells? 0 = some [P.val, .int .i64 P.main] := by
         rw [cells?_put_ne _ _ _ (by omega), cells?_push_ne _ _ (by omega)]
         exact x0
        simp only [Fu.vals] at c2 k1 k0 hixj
        generalize hS2 : ((S'.push (.cells [.str [], .int .i64 0, .int .i64 0, .int .i64 0, .int .i64 0, .nils])).put S'.n (.cells [.str f.name, .int .i64 f.par, .int .i64 f.body.op, .int .i64 f.body.num, .int .i64 f.body.mun, f.body.lst])) = S2 at *
        have su := fun m tk S => shaped_use (l := LQ9 D) rfl (m := m) (e := f.body) (k := P.funs.length) (most := 40) (zs := [f.par]) (tk := tk) (S := S) hffj.2 hdsj.1 (by omega) (by simp) (by simp) (mv := 40) rfl
        have zu := fun m S => size_use (l := LQ9 D) rfl (m := m) (e := f.body) (S := S) hffj.2 hdsj.1 hdsj.2
        simp only [ints, List.map_cons, List.map_nil] at su
        cases a1 : f.body.shp P.funs.length [f.par] 40 with
        | false =>
         rw [a1] at su
         simp [vmS, vloc, w1, w2, x0, q1, hj, hixj, hS2, c2.1, c2.2, k0, k1, su, unA, g1, g2, g3]
         exact hq2 _ _ _ (by simp) ⟨c2, _, _, _, rfl, .inr ⟨rfl, by rw [← hs]; simp [okB, a1]⟩⟩
        | true =>
         rw [a1] at su
         by_cases a2 : f.body.size ≤ 600
         ·have a2' : ((600 : Int) < (f.body.size : Int)) = False := eq_false (by omega)
          have a2'' : (600 < f.body.size) = False := eq_false (by omega)
          simp [vmS, vloc, w1, w2, x0, q1, hj, hixj, hS2, c2.1, c2.2, k0, k1, su, zu, unA, g1, g2, g3, a2', a2'', hw]
          exact hq1 (r - 1) _ _ (by omega) ⟨j + 1, _, _, by omega, by rw [← hs]; simp [okB, a1, a2], rfl, c2, k0⟩
         ·have a2' : ((600 : Int) < (f.body.size : Int)) = True := eq_true (by omega)
          have a2'' : (600 < f.body.size) = True := eq_true (by omega)
          simp [vmS, vloc, w1, w2, x0, q1, hj, hixj, hS2, c2.1, c2.2, k0, k1, su, zu, unA, g1, g2, g3, a2', a2'']
          exact hq2 _ _ _ (by simp) ⟨c2, _, _, _, rfl, .inr ⟨rfl, by rw [← hs]; simp [okB, a1, a2]⟩⟩
       ·have hjl : j = P.funs.length := by omega
        subst hjl
        rw [List.drop_length] at hs
        simp [vmS, vloc, w1, w2, x0, q1]
        exact hq2 _ _ _ (by simp) ⟨⟨w1, w2⟩, _, _, _, rfl, .inl ⟨rfl, by rw [← hs]; rfl⟩⟩)
     obtain ⟨C1, x, y, sc, rfl, ⟨rfl, ha⟩ | ⟨rfl, ha⟩⟩ := hq
     ·simp [vmS, vloc, C1.1, C1.2]
      exact hp _ _ (by rw [ha]; rfl)
     ·simp [vmS, vloc, C1.1, C1.2]
      exact hp _ _ (by rw [ha]; rfl)
   ·cases h
  ·cases h
 ·cases h
/-- programs that the document can go through -/
def Pr.fine (P : Pr) : Prop := P.fit ∧ ∀ f ∈ P.funs, f.body.size ≤ 100000
noncomputable def formedRG : List AV → Option FRes
 | [v] => match prOf v with
  | some P => if (∀ f ∈ P.funs, f.body.size ≤ 100000) then some (.ret (.bool (formedB P.funs P.main))) else none
  | none => none
 | _ => none
def maxDeep : List Fu → Nat
 | [] => 0
 | f :: r => max f.body.deep (maxDeep r)
theorem maxDeep_le : ∀ {l : List Fu} {f : Fu}, f ∈ l → f.body.deep ≤ maxDeep l
 | a :: l, f, h => by
  simp only [maxDeep]
  rcases List.mem_cons.1 h with rfl | h
  ·omega
  ·have := maxDeep_le h; omega
theorem formedR_ok : FOk 49 formedRG := fok_deep formedRD_ok fun a r h => by
 unfold formedRG at h
 split at h
 ·rename_i v
  split at h
  ·rename_i P hP
   split at h
   ·rename_i hs
    refine ⟨maxDeep P.funs, ?_⟩
    simp only [formedRD, hP]
    rw [if_pos fun f hf => ⟨maxDeep_le hf, hs f hf⟩, ← h, formed_same]
    rfl
   ·cases h
  ·cases h
 ·cases h
theorem formedR_use {l : Sm} (h : sumG l 49 = formedRG) {P : Pr} (hf : P.fine) {n : Nat} {S : St} : callS ED (sumG l) n (.fn 49) [.agg [P.val, .int .i64 P.main]] S = some (.ret (.bool (formedB P.funs P.main)), S) := by
 refine callS_sum ?_
 obtain ⟨q, h1, h2, h3, h4⟩ := prOf_enc hf.1
 rw [pdead2, h]
 simp only [formedRG, h1, h2, h3]
 exact if_pos hf.2
/-! Check -/
noncomputable def checkRG : List AV → Option FRes
 | [v] => match prOf v with
  | some P => if (∀ f ∈ P.funs, f.body.size ≤ 100000) then some (.ret (.int .i64 (if formedB P.funs P.main = true then 0 else 1))) else none
  | none => none
 | _ => none
theorem checkR_ok : FOk 20 checkRG := by
 refine fok [(49, formedRG)] (by simp; exact formedR_ok) ?_
 intro a r h
 unfold checkRG at h
 split at h
 ·rename_i v
  split at h
  ·rename_i P hP
   split at h
   ·rename_i hs
    obtain ⟨hfit, rfl⟩ := prOf_some hP
    cases h
    refine ⟨by simp [AV.persL, P.pers], rfl, 2, fun p hp => ?_⟩
    rw [callS_go rfl]
    obtain ⟨q1, q2, q3, q4, q5⟩ := lenV_len (P.lenV hfit) (t := 22) (e := 63) rfl
    have hu := fun m S => formedR_use (l := [(49, formedRG)]) rfl ⟨hfit, hs⟩ (n := m) (S := S)
    simp only [Pr.enc]
    simp only [fnA, ED_fn20, fi20, Tryz.f20]
    cases hF : formedB P.funs P.main with
    | false =>
     rw [hF] at hu hp
     simp [vmS, q1, q2, q3, q4, hu]
     exact hp _ _ rfl
    | true =>
     rw [hF] at hu hp
     simp [vmS, q1, q2, q3, q4, hu]
     exact hp _ _ rfl
   ·cases h
  ·cases h
 ·cases h
end Go.Vm.L
