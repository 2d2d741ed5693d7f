/-
What LangOuter returns. No conditions.
-/
import Derived.Test.YtjfnelfdlemfgaaGreatDoorOuterA
import Derived.Test.YtjfnelfdlemfgaaGreatDoorFreeE
set_option linter.all false
set_option maxHeartbeats 4000000
namespace Go.Vm.L
open Go Go.Proofs Go.Vm
set_option maxRecDepth 100000
attribute [local simp] inFrame startLoc startVals Loc.clear blockC Loc.putO Loc.put idx evO constV Loc.get Vm.look intA unwindA resultsA resultV actA pureA storeA loadA fillE repElems TI.zeroV fieldOf fieldAddrA fieldA elemsA retE cellsOf? setCells nowhere mapHead headNext
noncomputable def LO4 : Sm := [(13, greatG), (14, aliveG), (15, nodesG), (19, checkG), (24, freeG), (38, allRG), (39, binderG)]
theorem LO4_ok : ∀ x ∈ LO4, FOk x.1 x.2 := by
 intro x hx
 simp only [LO4, List.mem_cons, List.mem_nil_iff, or_false] at hx
 rcases hx with rfl | rfl | rfl | rfl | rfl | rfl | rfl
 ·exact great_ok
 ·exact alive_ok
 ·exact nodes_ok
 ·exact check_ok
 ·exact free_ok
 ·exact allR_ok
 ·exact binder_ok
theorem ti68w : ED.ti 68 = some { desc := (.array 400 4), size := 400, bytes := 400, zero := wl fun _ => false, agg := true, cmp := true } := rfl
theorem nodesG_use {l : Sm} {P : Pr} (h : sumG l 15 = nodesG) (hf : P.fit) (hF : formedB P.funs P.main = true) {n : Nat} {S : St} :
  callS ED (sumG l) n (.fn 15) [.agg [P.val, .int .i64 P.main]] S = some (.ret (.tup [.slice (((allPre P.funs 0 0).map (·.1)).map ndv) .dead, .int .i64 0]), S) := by
 obtain ⟨q, h1, h2, h3, h4⟩ := prOf_enc hf
 refine callS_sum ?_
 rw [pdead2, h]
 simp only [nodesG, h1, h2, h3, hF, if_true]
theorem wl_index {W : Nat → Bool} {j : Nat} (h : j < 400) : indexA ED 68 (.agg (wl W)) (.int .i64 (j : Nat)) = some (.bool (W j)) := by
 have h1 : (0 : Int) ≤ (j : Int) ∧ (j : Int) < ((400 : Nat) : Int) := by omega
 simp only [indexA, ED_desc68]
 rw [if_pos h1]
 simp only [ED_size4, partA, ED_ti4, Int.toNat_natCast, Nat.mul_one]
 exact wl_get h
theorem wl_at {W : Nat → Bool} {j : Nat} (h : j < 400) : (wl W)[j]'(by rw [wl_len]; exact h) = .bool (W j) := by
 have := wl_get (W := W) h
 rw [List.getElem?_eq_getElem (by rw [wl_len]; exact h)] at this
 exact Option.some.inj this
theorem wl_addr {j : Nat} (h : j < 400) : indexAddrA ED 68 (.ptr 2 0) (.int .i64 (j : Nat)) = some (.ptr 2 j) := by
 have h1 : (0 : Int) ≤ (j : Int) ∧ (j : Int) < 400 := by omega
 simp [indexAddrA, h1, h]
mutual
theorem pre_ok (f : Int) : ∀ (e : Ex) (num : Int) (x : Nd), e.fvOk → ∀ y ∈ e.pre f num x, y.2.fvOk
 | .leaf o n m z, num, x, h, y, hy => by
  simp only [Ex.pre, List.mem_singleton] at hy
  subst hy
  exact h
 | .node o n m a l, num, x, h, y, hy => by
  simp only [Ex.pre, List.mem_cons, List.mem_append] at hy
  rcases hy with rfl | hy | hy
  ·exact h
  ·exact pre_ok f a _ _ h.2.1 y hy
  ·exact pres_ok f l _ _ _ h.2.2 y hy
theorem pres_ok (f : Int) : ∀ (l : List Ex) (num own i : Int), Ex.fvOks l → ∀ y ∈ Ex.pres f l num own i, y.2.fvOk
 | [], _, _, _, _, y, hy => by simp [Ex.pres] at hy
 | a :: r, num, own, i, h, y, hy => by
  simp only [Ex.pres, List.mem_append] at hy
  rcases hy with hy | hy
  ·exact pre_ok f a _ _ h.1 y hy
  ·exact pres_ok f r _ _ _ h.2 y hy
end
theorem allPre_ok : ∀ (fs : List Fu) (num i : Int), (∀ f ∈ fs, f.body.fvOk) → ∀ y ∈ allPre fs num i, y.2.fvOk
 | [], _, _, _, y, hy => by simp [allPre] at hy
 | f :: r, num, i, h, y, hy => by
  simp only [allPre, List.mem_append] at hy
  rcases hy with hy | hy
  ·exact pre_ok _ f.body _ _ (h f (by simp)) y hy
  ·exact allPre_ok r _ _ (fun g hg => h g (by simp [hg])) y hy
noncomputable def louterG : List AV → Option FRes
 | [v, .int .u16 w] => match prOf2 v with
  | some _ => if 0 ≤ w ∧ w < 65536 then some (.ret (.bool true)) else none
  | none => none
 | _ => none
theorem louter_ok : FOk 10 louterG := by
 refine fok LO4 LO4_ok ?_
 intro a r h
 unfold louterG at h
 split at h
 ·rename_i v w
  split at h
  ·rename_i P hP
   split at h
   ·rename_i hw0
    obtain ⟨hfit2, rfl⟩ := prOf2_some hP
    cases h
    obtain ⟨q1, q2, q3, q4⟩ := P.val_len
    have au := fun m S => alive_use (l := LO4) rfl (n := m) (S := S)
    have gu := fun m S => great_use (l := LO4) rfl hfit2 (n := m) (S := S)
    refine ⟨by simp [AV.persL, AV.pers, P.pers], rfl, (allPre P.funs 0 0).length + 1005, fun p hp => ?_⟩
    rw [callS_go rfl]
    simp only [Pr.enc]
    simp only [fnA, ED_fn10, fi10, Tryz.f10]
    cases hG : greatB P.funs with
    | true =>
     simp only [hG] at gu
     simp [vmS, q1, q2, q3, q4, gu, au]
     exact hp _ _ rfl
    | false =>
     simp only [hG] at gu
     have h60 := greatF_len hG
     have hfit : P.fit := ⟨hfit2.1, by omega⟩
     have cu := fun m S => check_use (l := LO4) rfl hfit (n := m) (S := S)
     cases hF : formedB P.funs P.main with
     | false =>
      simp only [hF] at cu
      simp [vmS, q1, q2, q3, q4, gu, au, cu]
      exact hp _ _ rfl
     | true =>
      simp only [hF, if_true] at cu
      have nu := fun m S => nodesG_use (l := LO4) rfl hfit hF (n := m) (S := S)
      have hsz := (formedB_size hF).1
      have hne : P.funs ≠ [] := fun e => by rw [e] at hF; simp [formedB] at hF
      have hpl := allPre_length P.funs 0 0
      have lu := fun m S => allR_use (l := LO4) rfl hfit hne (by omega) (n := m) (S := S)
      have hfvs := formed_fv hF
      have hRne := pre_ne hne
      have hfree : ∀ (z : Nat) (y : Nd × Ex), (allPre P.funs 0 0)[z]? = some y → ∀ m S, callS ED (sumG LO4) m (.fn 24) [.agg [P.val, .int .i64 P.main], .int .i64 (z : Nat)] S = some (.ret (.tup [ivV (insFs [] (y.2.occ [])), .int .i64 0]), S) := fun z y hy m S => by
       rw [free_use (l := LO4) (z := (z : Nat)) rfl hfit]
       have hnt : nthZ (allPre P.funs 0 0) (z : Int) = some y := by
        unfold nthZ
        rw [if_pos (by omega), Int.toNat_natCast]
        exact hy
       simp only [freeR, hF, if_true, hnt]
      have hind : ∀ j (h : j < (allPre P.funs 0 0).length), indexAddrA ED 27 (.slice (((allPre P.funs 0 0).map (·.1)).map ndv) .dead) (.int .i64 (j : Nat)) = some (.rptr (allPre P.funs 0 0)[j].1.vals) := fun j h => by
       rw [index_nd (by simpa using h)]
       simp
      have hinx := fun j (h : j < (allPre P.funs 0 0).length) => index_nx (tk := .dead) h
      have hlN : lenA ED 27 (.slice (((allPre P.funs 0 0).map (·.1)).map ndv) .dead) = some (.int .i64 ((allPre P.funs 0 0).length : Nat)) := by
       have : ∀ es : List AV, lenA ED 27 (.slice es .dead) = some (.int .i64 (es.length : Nat)) := fun es => rfl
       rw [this, List.length_map, List.length_map]
      have hNVc : (AV.slice (((allPre P.funs 0 0).map (·.1)).map ndv) .dead).isCell = true ∧ (AV.slice (((allPre P.funs 0 0).map (·.1)).map ndv) .dead).known = true ∧ (AV.slice (((allPre P.funs 0 0).map (·.1)).map ndv) .dead).cells = [AV.slice (((allPre P.funs 0 0).map (·.1)).map ndv) .dead] := ⟨rfl, rfl, rfl⟩
      have hXVc : (AV.slice ((allPre P.funs 0 0).map nxv) .dead).isCell = true ∧ (AV.slice ((allPre P.funs 0 0).map nxv) .dead).known = true ∧ (AV.slice ((allPre P.funs 0 0).map nxv) .dead).cells = [AV.slice ((allPre P.funs 0 0).map nxv) .dead] := ⟨rfl, rfl, rfl⟩
      generalize AV.slice (((allPre P.funs 0 0).map (·.1)).map ndv) .dead = NV at *
      generalize AV.slice ((allPre P.funs 0 0).map nxv) .dead = XV at *
      obtain ⟨m1, m2, m3⟩ := hNVc
      obtain ⟨x1, x2, x3⟩ := hXVc
      have hfvR : ∀ y ∈ allPre P.funs 0 0, y.2.fvOk := allPre_ok P.funs 0 0 fun f hf => (hfvs f hf).1
      have hgd := allPre_good 40 600 P.funs 0 0 (fun f hf => by
       obtain ⟨_, h2, h3⟩ := hfvs f hf
       exact ⟨(hfit.1 f hf).2, h2, h3⟩)
      have hR0 : 0 < (allPre P.funs 0 0).length := List.length_pos_iff.2 hRne
      obtain ⟨n, hn, hnl⟩ : ∃ n : Nat, w.tmod ((allPre P.funs 0 0).length : Int) = (n : Int) ∧ n < (allPre P.funs 0 0).length := by
       have h1 := Int.tmod_nonneg ((allPre P.funs 0 0).length : Int) hw0.1
       have h2 := Int.tmod_lt_of_pos w (b := ((allPre P.funs 0 0).length : Int)) (by omega)
       exact ⟨(w.tmod ((allPre P.funs 0 0).length : Int)).toNat, by omega, by omega⟩
      have hwrap : IntKind.i64.wrap w = w := wrap_id (by omega) (by omega)
      have hz1 : ¬ ((allPre P.funs 0 0).length : Int) = 0 := by omega
      have hz2 : ¬ (allPre P.funs 0 0).length = 0 := by omega
      have hx : (allPre P.funs 0 0)[n]? = some (allPre P.funs 0 0)[n] := List.getElem?_eq_getElem hnl
      have hdx := hind n hnl
      have hxx := hinx n hnl
      have hfx := hfree n _ hx
      have hmarks := marks hF hx
      have hroot := nodes_root hx
      generalize (allPre P.funs 0 0)[n] = x at *
      generalize allPre P.funs 0 0 = R at *
      have hok : ∀ y ∈ R, y.2.fvOk := fun y hy => (hfvR y hy)
      have hmarks := hmarks hok
      have hxok := hok x (List.mem_of_getElem? hx)
      have hown := own_eq hxok hmarks
      have hpar : x.1.up < 0 → ∃ (k : Nat) (f : Fu), P.funs[k]? = some f ∧ x.1.fn = (k : Nat) ∧ (ofW (R.foldl (addY x.2 (n : Nat)) (w0 x.2.op x.2.num)) 400 = [] ∨ ofW (R.foldl (addY x.2 (n : Nat)) (w0 x.2.op x.2.num)) 400 = [f.par]) := fun hu => by
       obtain ⟨k, f, h1, h2, h3⟩ := hroot hu
       refine ⟨k, f, h1, h2, ?_⟩
       rw [← hown]
       refine up_one (insFs_up _ List.Pairwise.nil) fun v hv => ?_
       rw [h3] at hv
       rcases (insFs_mem _ _ _).1 hv with q | q
       ·simp at q
       ·exact body_par hF f (List.mem_of_getElem? h1) v q
      have hnum : x.2.op = 0 → 0 ≤ x.2.num ∧ x.2.num < 400 := fun ho => by
       have := ((Ex.fvOk_kids x.2).1 hxok).1.2.1 ho
       unfold isVarB at this
       simp only [decide_eq_true_eq] at this
       omega
      have hvar : ∀ (i : Nat) (y : Nd × Ex), R[i]? = some y → ∀ v ∈ insFs [] (y.2.occ []), 0 ≤ v ∧ v < 400 := fun i y hy v hv => by
       rcases (insFs_mem _ _ _).1 hv with q | q
       ·simp at q
       ·have := occ_var y.2 [] v (hok y (List.mem_of_getElem? hy)) q
        unfold isVarB at this
        simp only [decide_eq_true_eq] at this
        omega
      have hplen : ∀ (i : Nat) (y : Nd × Ex), R[i]? = some y → (insFs [] (y.2.occ [])).length ≤ 1000 := fun i y hy => by
       have h1 := insFs_len (y.2.occ []) []
       have h2 := y.2.occ_len []
       have h3 := (hgd y (List.mem_of_getElem? hy)).2.2
       simp at h1
       omega
      have hol : (ofW (R.foldl (addY x.2 (n : Nat)) (w0 x.2.op x.2.num)) 400).length ≤ 1000 := by rw [← hown]; exact hplen n x hx
      rw [hown] at hfx
      generalize hWF : R.foldl (addY x.2 (n : Nat)) (w0 x.2.op x.2.num) = WF at *
      have olen := ivV_len (ofW WF 400)
      have oidx := fun j (h : j < (ofW WF 400).length) => ivV_index h
      obtain ⟨o1, o2, o3⟩ := ivV_facts (ofW WF 400)
      generalize ivV (ofW WF 400) = OV at *
      obtain ⟨g1, g2, g3⟩ := x.2.cell
      simp only [nxl] at hxx
      simp only [Nd.vals] at hdx
      simp [vmS, -ED_ti68, ti68w, q1, q2, q3, q4, gu, cu, nu, lu, hlN, m1, m2, m3, x1, x2, x3, hz1, hz2, hn, hwrap, eff_convert, convA, hfx, o1, o2, o3, hxx, g1, g2, g3, wl_len, wl_flat, wl_cells]
      generalize hT1 : St.push _ (AO.cells (wl fun _ => false)) = T1
      have tc : Cl T1 := by
       subst hT1
       exact Cl.push (Cl.put (Cl.push (Cl.push Cl.zero _) _) 1 _) _
      have t0 : T1.cells? 0 = some [P.val, .int .i64 P.main] := by
       subst hT1
       simp [push_at, put_at, n_push', n_put', n_S0, cellsOf?]
      have t1 : T1.cells? 1 = some [.int .i64 x.2.op, .int .i64 x.2.num, .int .i64 x.2.mun, x.2.lst] := by
       subst hT1
       simp [push_at, put_at, n_push', n_put', n_S0, cellsOf?]
      have t2 : T1.cells? 2 = some (wl fun _ => false) := by
       subst hT1
       simp [push_at, put_at, n_push', n_put', n_S0, cellsOf?]
      clear hT1
      have hlt2 := St.get_lt (cells?_inv t2)
      have H : ∃ T, Cl T ∧ T.cells? 0 = some [P.val, .int .i64 P.main] ∧ T.cells? 1 = some [.int .i64 x.2.op, .int .i64 x.2.num, .int .i64 x.2.mun, x.2.lst] ∧ T.cells? 2 = some (wl (w0 x.2.op x.2.num)) ∧
        (((x.2.op = 0) = False ∧ (x.2.op = 0) = False ∧ (x.2.op = 0) = False ∧ (x.2.op = 0) = False ∧ T = T1) ∨
         ((x.2.op = 0) = True ∧ indexAddrA ED 68 (.ptr 2 0) (.int .i64 x.2.num) = some (.ptr 2 x.2.num.toNat) ∧ (x.2.num.toNat + 1 ≤ 400 ∧ x.2.num.toNat < 400) ∧ T1.put 2 (.cells ((wl fun _ => false).set x.2.num.toNat (.bool true))) = T ∧ T1 = T1)) := by
       by_cases ho : x.2.op = 0
       ·obtain ⟨h1, h2⟩ := hnum ho
        obtain ⟨N, hN⟩ : ∃ N : Nat, x.2.num = N := ⟨x.2.num.toNat, by omega⟩
        have hN4 : N < 400 := by omega
        have hs := wl_set (W := fun _ => false) hN4 true
        refine ⟨T1.put 2 (.cells ((wl fun _ => false).set x.2.num.toNat (.bool true))), Cl.put tc _ _, ?_, ?_, ?_, .inr ⟨eq_true ho, ?_, ?_, rfl, rfl⟩⟩
        ·rw [cells?_put_ne _ _ _ (by decide)]; exact t0
        ·rw [cells?_put_ne _ _ _ (by decide)]; exact t1
        ·rw [cells?_put_self _ _ _ hlt2, hN, Int.toNat_natCast, ← setCells1 _ _ _ (by rw [wl_len]; exact hN4), hs]
         congr 2
         funext v
         unfold w0
         rw [if_pos ho, Int.toNat_natCast]
         by_cases hv : v = N <;> simp [hv]
        ·rw [hN, Int.toNat_natCast]; exact wl_addr hN4
        ·rw [hN, Int.toNat_natCast]; omega
       ·exact ⟨T1, tc, t0, t1, by rw [t2]; unfold w0; rw [if_neg ho], .inl ⟨eq_false ho, eq_false ho, eq_false ho, eq_false ho, rfl⟩⟩
      obtain ⟨T, Tc, T0, Tx, Tw, H⟩ := H
      have bu := fun m p S => binder_use (l := LO4) rfl (k := m) (o := x.2.op) (n := x.2.num) (m := x.2.mun) (p := p) (S := S) ⟨x.2.lst_pers, g1⟩
      rcases H with ⟨f1, f2, f3, f4, rfl⟩ | ⟨f1, f2, f3, f4, _⟩ <;>
      ·simp [vmS, -ED_ti68, ti68w, tc.1, tc.2, t0, t1, t2, Tc.1, Tc.2, f1, f2, f3, f4, wl_len, hlN, m1, m2, m3]
       generalize hc : iter _ _ _ _ = c
       obtain ⟨ex, L1, S1, rfl, hq⟩ := loop_of hc
        (fun r L' S' => ∃ (i : Nat) (y12 y13 y14 y15 y17 y85 y86 y87 : AV) (sc : List (Tmp × AV)), i + r = R.length ∧
         L' = vloc [.agg [P.val, .int .i64 P.main], .int .u16 w, .ptr 0 0, .bool false, NV, .int .i64 0, .int .i64 (n : Nat), OV, .int .i64 0, .ptr 1 0, .ptr 2 0, y12, y13, y14, y15, y17, .undef, .undef, .undef, NV, .int .i64 (R.length : Nat), .int .i64 (i : Nat), y85, y86, y87, .undef, .undef] sc ∧
         Cl S' ∧ S'.cells? 0 = some [P.val, .int .i64 P.main] ∧ S'.cells? 1 = some [.int .i64 x.2.op, .int .i64 x.2.num, .int .i64 x.2.mun, x.2.lst] ∧ S'.cells? 2 = some (wl ((R.take i).foldl (addY x.2 (n : Nat)) (w0 x.2.op x.2.num))))
        (fun ex L' S' => ex = .exit 0 ∧ ∃ (y12 y13 y14 y15 y17 y68 y85 y86 y87 : AV) (sc : List (Tmp × AV)),
         L' = vloc [.agg [P.val, .int .i64 P.main], .int .u16 w, .ptr 0 0, .bool false, NV, .int .i64 0, .int .i64 (n : Nat), OV, .int .i64 0, .ptr 1 0, .ptr 2 0, y12, y13, y14, y15, y17, .undef, .undef, .undef, NV, .int .i64 (R.length : Nat), y68, y85, y86, y87, .undef, .undef] sc ∧
         Cl S' ∧ S'.cells? 0 = some [P.val, .int .i64 P.main] ∧ S'.cells? 2 = some (wl WF))
        R.length (by omega)
        ⟨0, _, _, _, _, _, _, _, _, _, by simp, rfl, Tc, T0, Tx, by simpa using Tw⟩
        (by
         rintro r L' S' ⟨i, y12, y13, y14, y15, y17, y85, y86, y87, sc, hir, rfl, hcl', s0, s1, s2⟩ q hq1 hq2
         by_cases hi : i < R.length
         ·have hwi : IntKind.i64.wrap ((i : Int) + 1) = ((i : Int) + 1) := wrap_id (by omega) (by omega)
          have hiy : R[i]? = some R[i] := List.getElem?_eq_getElem hi
          have hdi := hind i hi
          have hfi := hfree i _ hiy
          have hvi := hvar i _ hiy
          have hpi := hplen i _ hiy
          have htk : R.take (i + 1) = R.take i ++ [R[i]] := by rw [List.take_add_one, List.getElem?_eq_getElem hi]; rfl
          have hfold : (R.take (i + 1)).foldl (addY x.2 (n : Nat)) (w0 x.2.op x.2.num) = addY x.2 (n : Nat) ((R.take i).foldl (addY x.2 (n : Nat)) (w0 x.2.op x.2.num)) R[i] := by rw [htk, List.foldl_append]; rfl
          generalize R[i] = y at *
          simp only [Nd.vals] at hdi
          generalize (R.take i).foldl (addY x.2 (n : Nat)) (w0 x.2.op x.2.num) = Wi at *
          have z0 : ((S'.push (.cells [.int .i64 0, .int .i64 0, .int .i64 0, .int .i64 0])).put S'.n (.cells [.int .i64 y.1.fn, .int .i64 y.1.up, .int .i64 y.1.place, .int .i64 y.1.op])).cells? 0 = some [P.val, .int .i64 P.main] := by
           have := St.get_lt (cells?_inv s0)
           rw [cells?_put_ne _ _ _ (by omega), cells?_push_ne _ _ (by omega)]; exact s0
          have z1 : ((S'.push (.cells [.int .i64 0, .int .i64 0, .int .i64 0, .int .i64 0])).put S'.n (.cells [.int .i64 y.1.fn, .int .i64 y.1.up, .int .i64 y.1.place, .int .i64 y.1.op])).cells? 1 = some [.int .i64 x.2.op, .int .i64 x.2.num, .int .i64 x.2.mun, x.2.lst] := by
           have := St.get_lt (cells?_inv s1)
           rw [cells?_put_ne _ _ _ (by omega), cells?_push_ne _ _ (by omega)]; exact s1
          have z2 : ((S'.push (.cells [.int .i64 0, .int .i64 0, .int .i64 0, .int .i64 0])).put S'.n (.cells [.int .i64 y.1.fn, .int .i64 y.1.up, .int .i64 y.1.place, .int .i64 y.1.op])).cells? 2 = some (wl Wi) := by
           have := St.get_lt (cells?_inv s2)
           rw [cells?_put_ne _ _ _ (by omega), cells?_push_ne _ _ (by omega)]; exact s2
          have zn : ((S'.push (.cells [.int .i64 0, .int .i64 0, .int .i64 0, .int .i64 0])).put S'.n (.cells [.int .i64 y.1.fn, .int .i64 y.1.up, .int .i64 y.1.place, .int .i64 y.1.op])).cells? S'.n = some [.int .i64 y.1.fn, .int .i64 y.1.up, .int .i64 y.1.place, .int .i64 y.1.op] := cells?_put_push _ _ _
          have zc : Cl ((S'.push (.cells [.int .i64 0, .int .i64 0, .int .i64 0, .int .i64 0])).put S'.n (.cells [.int .i64 y.1.fn, .int .i64 y.1.up, .int .i64 y.1.place, .int .i64 y.1.op])) := Cl.put (Cl.push hcl' _) _ _
          have hn2 : S'.n ≠ 2 := by have := St.get_lt (cells?_inv s2); omega
          generalize hS2 : (S'.push (.cells [.int .i64 0, .int .i64 0, .int .i64 0, .int .i64 0])).put S'.n (.cells [.int .i64 y.1.fn, .int .i64 y.1.up, .int .i64 y.1.place, .int .i64 y.1.op]) = S2 at *
          by_cases hu : y.1.up = (n : Int)
          ·have hlp := ivV_len (insFs [] (y.2.occ []))
           have hip := fun j (h : j < (insFs [] (y.2.occ [])).length) => ivV_index h
           obtain ⟨p1, p2, p3⟩ := ivV_facts (insFs [] (y.2.occ []))
           have hadd : addY x.2 (n : Nat) Wi y = (insFs [] (y.2.occ [])).foldl (addV (binderI x.2.op x.2.num x.2.mun y.1.place)) Wi := if_pos hu
           rw [hadd] at hfold
           generalize ivV (insFs [] (y.2.occ [])) = PV at *
           generalize insFs [] (y.2.occ []) = part at *
           have bu := fun m S => bu m y.1.place S
           have hS2' := hS2
           rw [hu] at hS2'
           generalize binderI x.2.op x.2.num x.2.mun y.1.place = B at *
           simp [vmS, vloc, hi, hcl'.1, hcl'.2, hdi, hS2', zc.1, zc.2, z0, zn, hu, hfi, p1, p2, p3, hlp]
           generalize hcp : iter _ _ _ _ = cp
           generalize hWp : part.foldl (addV B) Wi = Wp at *
           obtain ⟨ex2, L3, S3, rfl, hq3⟩ := loop_of hcp
            (fun r L' S'' => ∃ (j : Nat) (Wj : Nat → Bool) (y17 : AV) (sc : List (Tmp × AV)), j + r = part.length ∧ (part.drop j).foldl (addV B) Wj = Wp ∧
             L' = vloc [.agg [P.val, .int .i64 P.main], .int .u16 w, .ptr 0 0, .bool false, NV, .int .i64 0, .int .i64 (n : Nat), OV, .int .i64 0, .ptr 1 0, .ptr 2 0, .int .i64 (i : Nat), .ptr S'.n 0, PV, .int .i64 0, y17, .undef, .undef, .undef, NV, .int .i64 (R.length : Nat), .int .i64 (i : Nat), PV, .int .i64 (part.length : Nat), .int .i64 (j : Nat), .undef, .undef] sc ∧
             Cl S'' ∧ S''.cells? 0 = some [P.val, .int .i64 P.main] ∧ S''.cells? 1 = some [.int .i64 x.2.op, .int .i64 x.2.num, .int .i64 x.2.mun, x.2.lst] ∧ S''.cells? 2 = some (wl Wj) ∧ S''.cells? S'.n = some [.int .i64 y.1.fn, .int .i64 y.1.up, .int .i64 y.1.place, .int .i64 y.1.op])
            (fun ex L' S'' => ex = .exit 2 ∧ ∃ (y17 y87 : AV) (sc : List (Tmp × AV)),
             L' = vloc [.agg [P.val, .int .i64 P.main], .int .u16 w, .ptr 0 0, .bool false, NV, .int .i64 0, .int .i64 (n : Nat), OV, .int .i64 0, .ptr 1 0, .ptr 2 0, .int .i64 (i : Nat), .ptr S'.n 0, PV, .int .i64 0, y17, .undef, .undef, .undef, NV, .int .i64 (R.length : Nat), .int .i64 (i : Nat), PV, .int .i64 (part.length : Nat), y87, .undef, .undef] sc ∧
             Cl S'' ∧ S''.cells? 0 = some [P.val, .int .i64 P.main] ∧ S''.cells? 1 = some [.int .i64 x.2.op, .int .i64 x.2.num, .int .i64 x.2.mun, x.2.lst] ∧ S''.cells? 2 = some (wl Wp))
            part.length (by omega)
            ⟨0, Wi, _, _, by simp, by simpa using hWp, rfl, zc, z0, z1, z2, zn⟩
            (by
             rintro r L' S'' ⟨j, Wj, y17, sc, hjr, hs, rfl, hc2, u0, u1, u2, un⟩ q' hq1' hq2'
             by_cases hj : j < part.length
             ·have hwj : IntKind.i64.wrap ((j : Int) + 1) = ((j : Int) + 1) := wrap_id (by omega) (by omega)
              have hij := hip j hj
              obtain ⟨c0, c4⟩ := hvi _ (List.getElem_mem hj)
              rw [List.drop_eq_getElem_cons hj, List.foldl_cons] at hs
              generalize part[j] = v at *
              obtain ⟨k, rfl⟩ : ∃ k : Nat, v = k := ⟨v.toNat, by omega⟩
              have hk4 : k < 400 := by omega
              have hk9 : k ≤ 399 := by omega
              have e1 : ((k : Int) < 0) = False := eq_false (by omega)
              have e2 : ((400 : Int) ≤ (k : Int)) = False := eq_false (by omega)
              have e3 : (400 ≤ k) = False := eq_false (by omega)
              have ia := wl_addr hk4
              have ig := wl_get (W := Wj) hk4
              have ig' : (wl Wj)[k]'(by rw [wl_len]; exact hk4) = .bool (Wj k) := wl_at hk4
              have l2 := St.get_lt (cells?_inv u2)
              have hset : ∀ β, β = (Wj k || decide ((k : Int) ≠ B)) → (wl Wj).set k (.bool β) = wl (addV B Wj (k : Int)) := fun β hβ => by
               rw [← setCells1 _ _ _ (by rw [wl_len]; exact hk4), wl_set hk4]
               congr 1
               funext u
               unfold addV
               rw [Int.toNat_natCast]
               by_cases huk : u = k
               ·subst huk
                rw [if_pos rfl, if_pos rfl, hβ]
               ·rw [if_neg huk, if_neg huk]
              have hafter : Cl (S''.put 2 (.cells (wl (addV B Wj (k : Int))))) ∧ (S''.put 2 (.cells (wl (addV B Wj (k : Int))))).cells? 0 = some [P.val, .int .i64 P.main] ∧ (S''.put 2 (.cells (wl (addV B Wj (k : Int))))).cells? 1 = some [.int .i64 x.2.op, .int .i64 x.2.num, .int .i64 x.2.mun, x.2.lst] ∧ (S''.put 2 (.cells (wl (addV B Wj (k : Int))))).cells? 2 = some (wl (addV B Wj (k : Int))) ∧ (S''.put 2 (.cells (wl (addV B Wj (k : Int))))).cells? S'.n = some [.int .i64 y.1.fn, .int .i64 y.1.up, .int .i64 y.1.place, .int .i64 y.1.op] :=
               ⟨Cl.put hc2 _ _, by rw [cells?_put_ne _ _ _ (by decide)]; exact u0, by rw [cells?_put_ne _ _ _ (by decide)]; exact u1, cells?_put_self _ _ _ l2, by rw [cells?_put_ne _ _ _ hn2]; exact un⟩
              obtain ⟨b1, b2, b3, b4, b5⟩ := hafter
              cases hWk : Wj k with
              | true =>
               have hs1 := hset true (by rw [hWk]; rfl)
               rw [hWk] at ig ig'
               simp [vmS, -ED_ti68, ti68w, vloc, hj, hc2.1, hc2.2, hij, e1, e2, e3, ia, ig, ig', u0, u1, u2, un, wl_len, hk4, hk9, hs1, hwj, p1, p2, p3, b1.1, b1.2]
               exact hq1' (r - 1) _ _ (by omega) ⟨j + 1, _, _, _, by omega, hs, rfl, b1, b2, b3, b4, b5⟩
              | false =>
               rw [hWk] at ig ig'
               by_cases hB : (k : Int) = B
               ·have hs1 := hset false (by rw [hWk, decide_eq_false (fun q => q hB)]; rfl)
                subst hB
                simp [vmS, -ED_ti68, ti68w, vloc, hj, hc2.1, hc2.2, hij, e1, e2, e3, ia, ig, ig', u0, u1, u2, un, wl_len, hk4, hk9, hs1, hwj, p1, p2, p3, g1, g2, g3, bu, b1.1, b1.2]
                exact hq1' (r - 1) _ _ (by omega) ⟨j + 1, _, _, _, by omega, hs, rfl, b1, b2, b3, b4, b5⟩
               ·have hs1 := hset true (by rw [hWk, decide_eq_true hB]; rfl)
                simp [vmS, -ED_ti68, ti68w, vloc, hj, hc2.1, hc2.2, hij, e1, e2, e3, ia, ig, ig', u0, u1, u2, un, wl_len, hk4, hk9, hs1, hwj, p1, p2, p3, g1, g2, g3, bu, hB, b1.1, b1.2]
                exact hq1' (r - 1) _ _ (by omega) ⟨j + 1, _, _, _, by omega, hs, rfl, b1, b2, b3, b4, b5⟩
             ·have hjl : j = part.length := by omega
              subst hjl
              rw [List.drop_length] at hs
              have hs' : Wj = Wp := hs
              subst hs'
              simp [vmS, vloc, hc2.1, hc2.2]
              exact hq2' _ _ _ (by simp) ⟨rfl, _, _, _, rfl, hc2, u0, u1, u2⟩)
           obtain ⟨rfl, y17', y87', sc', rfl, hc3, v0, v1, v2⟩ := hq3
           simp [vmS, vloc, hc3.1, hc3.2, hwi]
           exact hq1 (r - 1) _ _ (by omega) ⟨i + 1, _, _, _, _, _, _, _, _, _, by omega, rfl, hc3, v0, v1, by rw [hfold]; exact v2⟩
          ·have hadd : addY x.2 (n : Nat) Wi y = Wi := if_neg hu
           rw [hadd] at hfold
           simp [vmS, vloc, hi, hcl'.1, hcl'.2, hdi, hS2, zc.1, zc.2, zn, hu, hwi]
           exact hq1 (r - 1) _ _ (by omega) ⟨i + 1, _, _, _, _, _, _, _, _, _, by omega, rfl, zc, z0, z1, by rw [hfold]; exact z2⟩
         ·have hil : i = R.length := by omega
          subst hil
          rw [List.take_length, hWF] at s2
          simp [vmS, vloc, hcl'.1, hcl'.2]
          exact hq2 _ _ _ (by simp) ⟨rfl, _, _, _, _, _, _, _, _, _, _, rfl, hcl', s0, s2⟩)
       obtain ⟨rfl, y12, y13, y14, y15, y17, y68, y85, y86, y87, sc, rfl, hcl', s0, s2⟩ := hq
       have htake : (wl WF).take 400 = wl WF := List.take_of_length_le (by rw [wl_len]; omega)
       simp [vmS, -ED_ti68, ti68w, vloc, hcl'.1, hcl'.2, s0, s2, wl_len, htake]
       generalize hc : iter _ _ _ _ = c
       obtain ⟨ex, L4, S4, rfl, hq⟩ := loop_of hc
        (fun r L' S' => ∃ (j : Nat) (y19 y20 : AV) (sc : List (Tmp × AV)), j + r = 400 ∧
         L' = vloc [.agg [P.val, .int .i64 P.main], .int .u16 w, .ptr 0 0, .bool false, NV, .int .i64 0, .int .i64 (n : Nat), OV, .int .i64 0, .ptr 1 0, .ptr 2 0, y12, y13, y14, y15, y17, .int .i64 ((ofW WF j).length : Nat), y19, y20, NV, .int .i64 (R.length : Nat), y68, y85, y86, y87, .agg (wl WF), .int .i64 (j : Nat)] sc ∧ S' = S1)
        (fun ex L' S' => S' = S1 ∧ ex = .exit 4 ∧ ∃ (y19 y20 y113 : AV) (sc : List (Tmp × AV)),
         L' = vloc [.agg [P.val, .int .i64 P.main], .int .u16 w, .ptr 0 0, .bool false, NV, .int .i64 0, .int .i64 (n : Nat), OV, .int .i64 0, .ptr 1 0, .ptr 2 0, y12, y13, y14, y15, y17, .int .i64 ((ofW WF 400).length : Nat), y19, y20, NV, .int .i64 (R.length : Nat), y68, y85, y86, y87, .agg (wl WF), y113] sc)
        400 (by omega)
        ⟨0, _, _, _, by simp, rfl, rfl⟩
        (by
         rintro r L' S' ⟨j, y19, y20, sc, hjr, rfl, rfl⟩ q hq1 hq2
         by_cases hj : j < 400
         ·have hwj : IntKind.i64.wrap ((j : Int) + 1) = ((j : Int) + 1) := wrap_id (by omega) (by omega)
          have hjI : (j : Int) < 400 := by omega
          have wi := wl_index (W := WF) hj
          have hsu := ofW_succ WF j
          cases hWj : WF j with
          | false =>
           rw [hWj] at hsu wi
           rw [if_neg (by simp), List.append_nil] at hsu
           simp [vmS, vloc, hj, hjI, hwj, hcl'.1, hcl'.2, wi, eff_index]
           exact hq1 (r - 1) _ _ (by omega) ⟨j + 1, _, _, _, by omega, by rw [hsu]; rfl, rfl⟩
          | true =>
           have hat := ofW_at hj hWj
           rw [hWj] at hsu wi
           rw [if_pos rfl] at hsu
           have hlt : (ofW WF j).length < (ofW WF 400).length := by
            rcases Nat.lt_or_ge (ofW WF j).length (ofW WF 400).length with h | h
            ·exact h
            ·rw [List.getElem?_eq_none h] at hat
             cases hat
           have hoi := oidx _ hlt
           have hge : (ofW WF 400)[(ofW WF j).length] = (j : Int) := by
            rw [List.getElem?_eq_getElem hlt] at hat
            exact Option.some.inj hat
           rw [hge] at hoi
           have hsl : ((ofW WF (j + 1)).length : Nat) = (ofW WF j).length + 1 := by rw [hsu, List.length_append]; rfl
           generalize (ofW WF j).length = A at *
           have e1 : (((ofW WF 400).length : Int) ≤ (A : Int)) = False := eq_false (by omega)
           have e2 : ((ofW WF 400).length ≤ A) = False := eq_false (by omega)
           have hwA : IntKind.i64.wrap ((A : Int) + 1) = (A : Int) + 1 := wrap_id (by omega) (by omega)
           simp [vmS, vloc, hj, hjI, hwj, hcl'.1, hcl'.2, wi, eff_index, olen, o1, o2, o3, e1, e2, hoi, hwA]
           exact hq1 (r - 1) _ _ (by omega) ⟨j + 1, _, _, _, by omega, by rw [hsl]; rfl, rfl⟩
         ·have hjl : j = 400 := by omega
          subst hjl
          simp [vmS, vloc, hcl'.1, hcl'.2]
          exact hq2 _ _ _ (by simp) ⟨rfl, rfl, _, _, _, _, rfl⟩)
       obtain ⟨rfl, rfl, y19, y20, y113, sc4, rfl⟩ := hq
       have d0 := @dr10_0
       simp only [drA, drawsOf, Option.getD_some, List.nil_append, List.append_nil, List.getD_cons_zero, List.getD_cons_succ, List.cons_append, Tryz.f10] at d0
       by_cases hup : 0 ≤ x.1.up
       ·simp [vmS, runC_nil, runC_cons, pickC_some, wantC_tt, wantC_tf, effC_val, ifC_true, checkC, inPairs, keepC, okC, readsC_load, readV_some, AV.beq_self, wantA_n, wantA_g, wantD_some, d0, vloc, hcl'.1, hcl'.2, au, olen, o1, o2, o3, m1, m2, m3, hdx, hup]
        exact hp _ _ rfl
       ·obtain ⟨k, f, h1, h2, h3⟩ := hpar (by omega)
        have hkl : k < P.funs.length := by
         rcases Nat.lt_or_ge k P.funs.length with h | h
         ·exact h
         ·rw [List.getElem?_eq_none h] at h1
          cases h1
        have hva := val_at P hne k hkl
        have hfk : P.funs[k] = f := by
         rw [List.getElem?_eq_getElem hkl] at h1
         exact Option.some.inj h1
        rw [hfk] at hva
        simp only [Fu.vals] at hva
        rcases h3 with h3 | h3
        ·have hl0 : (ofW WF 400).length = 0 := by rw [h3]; rfl
         rw [hl0] at olen
         simp [vmS, runC_nil, runC_cons, pickC_some, wantC_tt, wantC_tf, effC_val, ifC_true, checkC, inPairs, keepC, okC, readsC_load, readV_some, AV.beq_self, wantA_n, wantA_g, wantD_some, d0, vloc, hcl'.1, hcl'.2, au, olen, o1, o2, o3, m1, m2, m3, hdx, hup, hl0]
         exact hp _ _ rfl
        ·have hl1 : (ofW WF 400).length = 1 := by rw [h3]; rfl
         have hoi := oidx 0 (by omega)
         have hge : (ofW WF 400)[0] = f.par := by simp [h3]
         rw [hge] at hoi
         rw [hl1] at olen
         rw [show (((0 : Nat) : Int)) = 0 from rfl] at hoi
         simp [vmS, runC_nil, runC_cons, pickC_some, wantC_tt, wantC_tf, effC_val, ifC_true, checkC, inPairs, keepC, okC, readsC_load, readV_some, AV.beq_self, wantA_n, wantA_g, wantD_some, d0, vloc, hcl'.1, hcl'.2, au, olen, o1, o2, o3, m1, m2, m3, q1, q2, q3, q4, hdx, h2, hup, hl1, hoi, s0, hva]
         exact hp _ _ rfl
   ·cases h
  ·cases h
 ·cases h
theorem louter_use {P : Pr} (h : P.fit2) {w : Int} (hw : 0 ≤ w ∧ w < 65536) : Sound Tryz.prog ED 10 [P.enc, .int .u16 w] (.ret (.bool true)) := by
 obtain ⟨Q, hQ, _⟩ := prOf2_enc h
 exact (louter_ok _ _ (by simp only [louterG, hQ]; exact if_pos hw)).2.2
end Go.Vm.L
