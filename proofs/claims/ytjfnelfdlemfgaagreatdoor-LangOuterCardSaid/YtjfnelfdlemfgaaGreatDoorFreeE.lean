/-
What the document's Free returns. No conditions.
-/
import Derived.Test.YtjfnelfdlemfgaaGreatDoorFreeD
import Derived.Test.YtjfnelfdlemfgaaGreatDoorFreeC
import Derived.Test.YtjfnelfdlemfgaaGreatDoorSaidD
import Derived.Test.YtjfnelfdlemfgaaGreatDoorNodeJ
set_option linter.all false
set_option maxHeartbeats 4000000
namespace Go.Vm.L
open Go Go.Proofs Go.Vm
set_option maxRecDepth 100000
attribute [local simp] inFrame startLoc startVals Loc.clear blockC Loc.putO Loc.put idx evO constV Loc.get Vm.look intA unwindA resultsA resultV actA pureA storeA loadA fillE repElems TI.zeroV fieldOf fieldAddrA fieldA elemsA retE cellsOf? setCells nowhere mapHead headNext
/-- all nodes that are within a node are like it -/
def goodE (D Z : Nat) (e : Ex) : Prop := e.fit ∧ e.deep ≤ D ∧ e.size ≤ Z
mutual
theorem pre_good (D Z : Nat) (f : Int) : ∀ (e : Ex) (num : Int) (x : Nd), goodE D Z e → ∀ y ∈ e.pre f num x, goodE D Z y.2
 | .leaf o n m z, num, x, h, y, hy => by
  simp only [Ex.pre, List.mem_singleton] at hy
  subst hy
  exact h
 | .node o n m a l, num, x, h, y, hy => by
  obtain ⟨h1, h2, h3⟩ := h
  have kid : ∀ b ∈ (Ex.node o n m a l).kids, goodE D Z b := fun b hb => by
   have e1 := Ex.deep_kid hb
   have e2 := sizes_mem hb
   have e3 := (Ex.node o n m a l).size_kids
   exact ⟨Ex.fit_kid h1 hb, by omega, by omega⟩
  simp only [Ex.pre, List.mem_cons, List.mem_append] at hy
  rcases hy with rfl | hy | hy
  ·exact ⟨h1, h2, h3⟩
  ·exact pre_good D Z f a _ _ (kid a (by simp [Ex.kids])) y hy
  ·exact pres_good D Z f l _ _ _ (fun b hb => kid b (by simp [Ex.kids, hb])) y hy
theorem pres_good (D Z : Nat) (f : Int) : ∀ (l : List Ex) (num own i : Int), (∀ b ∈ l, goodE D Z b) → ∀ y ∈ Ex.pres f l num own i, goodE D Z y.2
 | [], _, _, _, _, y, hy => by simp [Ex.pres] at hy
 | a :: r, num, own, i, h, y, hy => by
  simp only [Ex.pres, List.mem_append] at hy
  rcases hy with hy | hy
  ·exact pre_good D Z f a _ _ (h a (by simp)) y hy
  ·exact pres_good D Z f r _ _ _ (fun b hb => h b (by simp [hb])) y hy
end
theorem allPre_good (D Z : Nat) : ∀ (fs : List Fu) (num i : Int), (∀ f ∈ fs, goodE D Z f.body) → ∀ y ∈ allPre fs num i, goodE D Z y.2
 | [], _, _, _, y, hy => by simp [allPre] at hy
 | f :: r, num, i, h, y, hy => by
  simp only [allPre, List.mem_append] at hy
  rcases hy with hy | hy
  ·exact pre_good D Z _ f.body _ _ (h f (by simp)) y hy
  ·exact allPre_good D Z r _ _ (fun g hg => h g (by simp [hg])) y hy
noncomputable def freeRG : List AV → Option FRes
 | [v, .int .i64 z] => match prOf v with
  | some P => if (∀ f ∈ P.funs, f.body.size ≤ 100000) then some (.ret (freeR P.funs P.main z)) else none
  | none => none
 | _ => none
noncomputable def LF25 : Sm := [(49, formedRG), (38, allRG), (60, withinG), (61, freesG 40)]
theorem LF25_ok : ∀ x ∈ LF25, FOk x.1 x.2 := by
 intro x hx
 simp only [LF25, List.mem_cons, List.mem_nil_iff, or_false] at hx
 rcases hx with rfl | rfl | rfl | rfl
 ·exact formedR_ok
 ·exact allR_ok
 ·exact in_ok
 ·exact frees_ok 40
theorem freeR_ok : FOk 25 freeRG := by
 refine fok LF25 LF25_ok ?_
 intro a r h
 unfold freeRG at h
 split at h
 ·rename_i v z
  split at h
  ·rename_i P hP
   split at h
   ·rename_i hs
    obtain ⟨hfit, rfl⟩ := prOf_some hP
    cases h
    refine ⟨by simp [AV.persL, AV.pers, P.pers], freeR_pers _ _ _, 3, fun p hp => ?_⟩
    rw [callS_go rfl]
    obtain ⟨q1, q2, q3, q4, q5⟩ := lenV_len (P.lenV hfit) (t := 22) (e := 63) rfl
    have hu := fun m S => formedR_use (l := LF25) rfl ⟨hfit, hs⟩ (n := m) (S := S)
    simp only [Pr.enc]
    simp only [fnA, ED_fn25, fi25, Tryz.f25]
    cases hF : formedB P.funs P.main with
    | false =>
     rw [hF] at hu
     simp only [freeR, hF] at hp
     simp [vmS, q1, q2, q3, q4, hu, unA]
     exact hp _ _ rfl
    | true =>
     rw [hF] at hu
     simp only [freeR, hF, if_true] at hp
     have hsz := (formedB_size hF).1
     have hne : P.funs ≠ [] := fun e => by rw [e] at hF; simp [formedB] at hF
     have hpl := allPre_length P.funs 0 0
     have au := fun m S => allR_use (l := LF25) rfl hfit hne (by omega) (n := m) (S := S)
     have iu := fun m x a b S => in_use (l := LF25) rfl (n := m) (x := x) (a := a) (b := b) (S := S)
     have hix := fun j (h : j < (allPre P.funs 0 0).length) => index_nx (tk := .dead) h
     have hgd := allPre_good 40 600 P.funs 0 0 (fun f hf => by
      obtain ⟨_, h2, h3⟩ := formed_fv hF f hf
      exact ⟨(hfit.1 f hf).2, h2, h3⟩)
     have hNVc : (AV.slice ((allPre P.funs 0 0).map nxv) .dead).isCell = true ∧ (AV.slice ((allPre P.funs 0 0).map nxv) .dead).known = true ∧ (AV.slice ((allPre P.funs 0 0).map nxv) .dead).cells = [AV.slice ((allPre P.funs 0 0).map nxv) .dead] := ⟨rfl, rfl, rfl⟩
     have hlN : lenA ED 66 (.slice ((allPre P.funs 0 0).map nxv) .dead) = some (.int .i64 ((allPre P.funs 0 0).length : Nat)) := by
      have : ∀ es : List AV, lenA ED 66 (.slice es .dead) = some (.int .i64 (es.length : Nat)) := fun es => rfl
      rw [this, List.length_map]
     generalize AV.slice ((allPre P.funs 0 0).map nxv) .dead = NV at *
     obtain ⟨m1, m2, m3⟩ := hNVc
     generalize allPre P.funs 0 0 = R at *
     have hw : IntKind.i64.wrap ((R.length : Int) - 1) = (R.length : Int) - 1 := wrap_id (by omega) (by omega)
     by_cases hz : 0 ≤ z ∧ z < (R.length : Int)
     ·obtain ⟨j, rfl⟩ : ∃ j : Nat, z = j := ⟨z.toNat, by omega⟩
      have hj : j < R.length := by omega
      have hd : decide ((0 : Int) ≤ (j : Int) ∧ (j : Int) ≤ (R.length : Int) - 1) = true := decide_eq_true (by omega)
      have iu := fun m S => iu m (j : Nat) 0 ((R.length : Int) - 1) S
      rw [hd] at iu
      have hixj := hix j hj
      have hnt : nthZ R (j : Int) = some R[j] := by
       unfold nthZ
       rw [if_pos hz.1, Int.toNat_natCast, List.getElem?_eq_getElem hj]
      rw [hnt] at hp
      obtain ⟨g1, g2, g3⟩ := hgd _ (List.getElem_mem hj)
      generalize R[j] = y at *
      have su := fun m S => frees_use (l := LF25) (D := 40) rfl (m := m) (e := y.2) (zs := []) (L := []) (S := S) g1 g2 (by simp; omega) (by simp; omega) List.Pairwise.nil
      obtain ⟨i1, i2, i3⟩ := ivV_facts (insFs [] (y.2.occ []))
      have imE := fun S => ivV_meltE S (insFs [] (y.2.occ []))
      simp only at hp
      generalize ivV (insFs [] (y.2.occ [])) = iv at *
      obtain ⟨x1, x2, x3⟩ := y.2.cell
      simp only [nxl] at hixj
      have hnn : ivV [] = .nils := rfl
      rw [hnn] at su
      simp [vmS, q1, q2, q3, q4, hu, au, iu, hw, hlN, unA, m1, m2, m3, hixj, su, i1, i2, i3, x1, x2, x3]
      refine hp _ _ ?_
      have mi : ∀ S x, AV.meltE S (.int .i64 x) = .int .i64 x := fun _ _ => rfl
      simp [FRes.melt, AV.melt, imE, mi]
     ·have hd : decide ((0 : Int) ≤ z ∧ z ≤ (R.length : Int) - 1) = false := decide_eq_false (by omega)
      have iu := fun m S => iu m z 0 ((R.length : Int) - 1) S
      rw [hd] at iu
      have hnt : nthZ R z = none := by
       unfold nthZ
       split
       ·exact List.getElem?_eq_none (by omega)
       ·rfl
      rw [hnt] at hp
      simp [vmS, q1, q2, q3, q4, hu, au, iu, hw, hlN, unA, m1, m2, m3]
      exact hp _ _ rfl
   ·cases h
  ·cases h
 ·cases h
theorem freeR_use {l : Sm} {P : Pr} {z : Int} (h : sumG l 25 = freeRG) (hf : P.fine) {n : Nat} {S : St} : callS ED (sumG l) n (.fn 25) [.agg [P.val, .int .i64 P.main], .int .i64 z] S = some (.ret (freeR P.funs P.main z), S) := by
 have hd : (AV.agg [P.val, .int .i64 P.main]).dead = .agg [P.val, .int .i64 P.main] := dead_of_pers _ P.pers
 obtain ⟨Q, h1, h2, h3, _⟩ := prOf_enc hf.1
 refine callS_sum ?_
 rw [List.map_cons, List.map_cons, List.map_nil, hd, h]
 simp only [Pr.enc] at h1
 simp only [AV.dead, freeRG, h1, h2, h3]
 exact if_pos hf.2
mutual
theorem Ex.gr_size : ∀ (e : Ex) (n d m : Nat), e.gr n d = (false, m) → m = n + e.size
 | .leaf _ _ _ _, n, d, m, h => by
  simp only [Ex.gr] at h
  split at h
  ·cases h
  ·cases h
   simp only [Ex.size]
 | .node _ _ _ x l, n, d, m, h => by
  simp only [Ex.gr] at h
  split at h
  ·cases h
  ·split at h
   ·cases h
   ·rename_i m' hm
    have h1 := Ex.gr_size x _ _ _ hm
    have h2 := Ex.grs_size l _ _ _ h
    simp only [Ex.size]
    omega
theorem Ex.grs_size : ∀ (l : List Ex) (n d m : Nat), Ex.grs l n d = (false, m) → m = n + Ex.sizes l
 | [], n, d, m, h => by
  simp only [Ex.grs] at h
  cases h
  simp only [Ex.sizes]
  omega
 | x :: l, n, d, m, h => by
  simp only [Ex.grs] at h
  split at h
  ·cases h
  ·rename_i m' hm
   have h1 := Ex.gr_size x _ _ _ hm
   have h2 := Ex.grs_size l _ _ _ h
   simp only [Ex.sizes]
   omega
end
theorem greatF_size : ∀ (fs : List Fu) (n : Nat), n ≤ 3000 → greatF fs n = false → ∀ f ∈ fs, f.body.size ≤ 3000
 | f :: r, n, hn, h, g, hg => by
  simp only [greatF] at h
  split at h
  ·cases h
  ·rename_i m hm
   have h1 := Ex.gr_size f.body n 0 m hm
   have h2 := (Ex.gr_le f.body n 0 hn).2 (by rw [hm])
   rw [hm] at h2
   have h2' : m ≤ 3000 := h2
   rw [Bool.or_eq_false_iff] at h
   rcases List.mem_cons.1 hg with rfl | hg
   ·omega
   ·exact greatF_size r m h2' h.2 g hg
 | [], _, _, _, g, hg => by cases hg
theorem great_size {fs : List Fu} (h : greatB fs = false) : ∀ f ∈ fs, f.body.size ≤ 100000 := fun f hf => by
 unfold greatB at h
 rw [Bool.or_eq_false_iff] at h
 have := greatF_size fs 0 (by omega) h.1 f hf
 omega
theorem nth_mem {α : Type} {l : List α} {z : Int} {y : α} (h : nthZ l z = some y) : y ∈ l := by
 unfold nthZ at h
 split at h
 ·exact List.mem_of_getElem? h
 ·cases h
theorem freeR_form {P : Pr} (hfit : P.fit) (z : Int) : ∃ (L : List Int) (e : Int), freeR P.funs P.main z = .tup [ivV L, .int .i64 e] ∧ L.length ≤ 1000 := by
 unfold freeR
 split
 ·rename_i hF
  split
  ·rename_i y hy
   have hgd := allPre_good 40 600 P.funs 0 0 (fun f hf => by
    obtain ⟨_, h2, h3⟩ := formed_fv hF f hf
    exact ⟨(hfit.1 f hf).2, h2, h3⟩) y (nth_mem hy)
   refine ⟨_, _, rfl, ?_⟩
   have h1 := insFs_len (y.2.occ []) []
   have h2 := y.2.occ_len []
   have h3 := hgd.2.2
   simp at h1
   omega
  ·exact ⟨[], 2, rfl, by simp⟩
 ·exact ⟨[], 1, rfl, by simp⟩
noncomputable def LF4 : Sm := [(13, greatG), (14, aliveG), (24, freeG), (25, freeRG), (26, sameG)]
theorem LF4_ok : ∀ x ∈ LF4, FOk x.1 x.2 := by
 intro x hx
 simp only [LF4, List.mem_cons, List.mem_nil_iff, or_false] at hx
 rcases hx with rfl | rfl | rfl | rfl | rfl
 ·exact great_ok
 ·exact alive_ok
 ·exact free_ok
 ·exact freeR_ok
 ·exact same_ok
noncomputable def lfreesG : List AV → Option FRes
 | [v, .int .i64 _] => match prOf2 v with
  | some _ => some (.ret (.bool true))
  | none => none
 | _ => none
theorem lfrees_ok : FOk 4 lfreesG := by
 refine fok LF4 LF4_ok ?_
 intro a r h
 unfold lfreesG at h
 split at h
 ·rename_i v z
  split at h
  ·rename_i P hP
   obtain ⟨hfit2, rfl⟩ := prOf2_some hP
   cases h
   obtain ⟨q1, q2, q3, q4⟩ := P.val_len
   have au := fun m S => alive_use (l := LF4) rfl (n := m) (S := S)
   have gu := fun m S => great_use (l := LF4) rfl hfit2 (n := m) (S := S)
   refine ⟨by simp [AV.persL, AV.pers, P.pers], rfl, 3, fun p hp => ?_⟩
   rw [callS_go rfl]
   simp only [Pr.enc]
   simp only [fnA, ED_fn4, fi4, Tryz.f4]
   cases hG : greatB P.funs with
   | true =>
    simp only [hG] at gu
    simp [vmS, q1, q2, q3, q4, gu, au]
    exact hp _ _ rfl
   | false =>
    simp only [hG] at gu
    have h60 := greatF_len hG
    have hfit : P.fit := ⟨hfit2.1, by omega⟩
    have hs := great_size hG
    obtain ⟨L, e, hL, hlen⟩ := freeR_form hfit z
    have f24 := fun m S => free_use (l := LF4) (z := z) rfl hfit (n := m) (S := S)
    have f25 := fun m S => freeR_use (l := LF4) (z := z) rfl ⟨hfit, hs⟩ (n := m) (S := S)
    rw [hL] at f24 f25
    have f26 := fun m S => same_use (l := LF4) rfl (n := m) (zs := L) (S := S) (by omega)
    obtain ⟨m1, m2, m3⟩ := ivV_facts L
    clear hP hfit hfit2 hs
    generalize ivV L = V at *
    simp [vmS, q1, q2, q3, q4, gu, au, f24, f25, f26, m1, m2, m3]
    exact hp _ _ rfl
  ·cases h
 ·cases h
end Go.Vm.L
