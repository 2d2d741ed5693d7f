/-
What Write returns, the program's and the document's. No conditions.
-/
import Derived.Test.YtjfnelfdlemfgaaGreatDoorTextD
set_option linter.all false
set_option maxHeartbeats 4000000
namespace Go.Vm.L
open Go Go.Proofs Go.Vm
set_option maxRecDepth 100000
attribute [local simp] inFrame startLoc startVals Loc.clear blockC Loc.putO Loc.put idx evO constV Loc.get Vm.look intA unwindA resultsA resultV actA pureA storeA loadA fillE repElems TI.zeroV fieldOf fieldAddrA fieldA elemsA retE cellsOf? setCells nowhere mapHead headNext
theorem str291 {D : Nat} {P : Pr} {e : Ex} (H : TH D P e) (hb : infB e.op e.num = false) : Str291 D P e := by
 rcases op27 H.ask.1 with h | h | h | h | h | h | h | h | h | h | h | h | h | h | h | h | h | h | h | h | h | h | h | h | h | h | h
 ·exact str291_0 H h
 ·exact str291_1 H h
 ·exact str291_2 H h
 ·exact str291_3 H h
 ·exact str291_4 H h
 ·exact str291_5 H h
 ·exact str291_6 H h
 ·exact str291_7 H h
 ·exact str291_8 H h
 ·exact str291_calls H (by omega)
 ·exact str291_calls H (by omega)
 ·exact str291_calls H (by omega)
 ·exact str291_calls H (by omega)
 ·exact str291_13 H h
 ·exact str291_14 H h
 ·refine str291_15 H h ?_
  unfold infB at hb
  rw [h] at hb
  simpa using hb
 ·exact str291_16 H h
 ·exact str291_17 H h
 ·exact str291_18 H h
 ·exact str291_calls H (by omega)
 ·exact str291_calls H (by omega)
 ·exact str291_21 H h
 ·exact str291_22 H h
 ·exact str291_23 H h
 ·exact str291_calls H (by omega)
 ·exact str291_calls H (by omega)
 ·exact str291_calls H (by omega)
theorem str_step {D : Nat} (hat : FOk 293 (atG D)) : FOk 291 (strG (D + 1) false) := by
 refine fok (LT10 D) (LT10_ok hat) ?_
 intro a r h
 unfold strG at h
 split at h
 ·rename_i pv main o n m A
  split at h
  ·rename_i P e hP he
   split at h
   ·rename_i hc
    obtain ⟨hs, hd, ⟨ho, hz⟩, hb⟩ := hc
    obtain ⟨hfit, hPe⟩ := prOf_some hP
    obtain ⟨hef, hee⟩ := exOf_some he
    simp only [Pr.enc, AV.agg.injEq, List.cons.injEq, AV.int.injEq, true_and, and_true] at hPe
    rw [e.look] at hee
    simp only [AV.agg.injEq, List.cons.injEq, AV.int.injEq, true_and, and_true] at hee
    obtain ⟨rfl, rfl⟩ := hPe
    obtain ⟨rfl, rfl, rfl, rfl⟩ := hee
    cases h
    have hk := (Ex.okN_kids _ e).1 ho
    refine ⟨by simp [AV.persL, AV.pers, P.val_pers, e.lst_pers], rfl, 4, fun p hp => ?_⟩
    exact str291 (D := D) ⟨hfit, hs, hef, fun x hx => by have := Ex.deep_kid hx; omega, hk.1, hk.2, hz⟩ hb p hp
   ·cases h
  ·cases h
 ·cases h
noncomputable def LT11 (D : Nat) : Sm := [(293, atG D), (296, ilevG)]
theorem LT11_ok {D : Nat} (h : FOk 293 (atG D)) : ∀ x ∈ LT11 D, FOk x.1 x.2 := by
 intro x hx
 simp only [LT11, List.mem_cons, List.mem_nil_iff, or_false] at hx
 rcases hx with rfl | rfl
 ·exact h
 ·exact ilev_ok
theorem inf_step {D : Nat} (hat : FOk 293 (atG D)) : FOk 297 (strG (D + 1) true) := by
 refine fok (LT11 D) (LT11_ok hat) ?_
 intro a r h
 unfold strG at h
 split at h
 ·rename_i pv main o n m A
  split at h
  ·rename_i P e hP he
   split at h
   ·rename_i hc
    obtain ⟨hs, hd, ⟨ho, hz⟩, hb⟩ := hc
    obtain ⟨hfit, hPe⟩ := prOf_some hP
    obtain ⟨hef, hee⟩ := exOf_some he
    simp only [Pr.enc, AV.agg.injEq, List.cons.injEq, AV.int.injEq, true_and, and_true] at hPe
    rw [e.look] at hee
    simp only [AV.agg.injEq, List.cons.injEq, AV.int.injEq, true_and, and_true] at hee
    obtain ⟨rfl, rfl⟩ := hPe
    obtain ⟨rfl, rfl, rfl, rfl⟩ := hee
    cases h
    have hkk := (Ex.okN_kids _ e).1 ho
    have h15 : e.op = 15 ∧ opLev e.num ≠ 0 := by
     unfold infB at hb
     simpa using hb
    have hop := op15 hkk.1 h15.1
    have hlen2 : e.kids.length = 2 := by
     obtain ⟨_, x, hx, hl, hlen, hm⟩ := hkk.1
     rw [h15.1] at hx
     cases hx
     omega
    obtain ⟨a, b, hk⟩ := two_of hlen2
    have kid : ∀ x ∈ e.kids, x.deep ≤ D ∧ x.okN P.funs.length ∧ x.size ≤ 100000 := fun x hx =>
     ⟨by have := Ex.deep_kid hx; omega, Ex.okNs_mem hkk.2 hx, by have := sizes_mem hx; have := e.size_kids; omega⟩
    obtain ⟨a1, a2, a3⟩ := kid a (by rw [hk]; simp)
    obtain ⟨b1, b2, b3⟩ := kid b (by rw [hk]; simp)
    have l7 : lev7 e.num = opLev e.num := by unfold lev7; rw [if_neg h15.2]
    have lr := opLev_pos e.num
    obtain ⟨q1, q2, q3, q4, q5⟩ := lenV_len (P.lenV hfit) (t := 22) (e := 63) rfl
    obtain ⟨hc1, hc2, hc3⟩ := e.cell
    have lu := fun m S => ilev_use (l := LT11 D) (P := P) (e := e) rfl hop (m := m) (S := S)
    rw [l7] at lu
    have au := fun m S => at_use (l := LT11 D) rfl hfit hs hef (j := 0) (x := a) (by rw [hk]; rfl) a1 a2 a3 (level := opLev e.num) (by omega) (m := m) (S := S)
    have bu := fun m S => at_use (l := LT11 D) rfl hfit hs hef (j := 1) (x := b) (by rw [hk]; rfl) b1 b2 b3 (level := opLev e.num + 1) (by omega) (m := m) (S := S)
    simp only [Int.natCast_zero, Int.natCast_one] at au bu
    have hw : IntKind.i64.wrap (opLev e.num + 1) = opLev e.num + 1 := wrap_id (by omega) (by omega)
    obtain ⟨GW, gg, gw⟩ := glob_words
    obtain ⟨gr, gs⟩ := gw e.num hop
    have ls := sign_length e.num
    have la := txt_le hs a2 a3
    have lb := txt_le hs b2 b3
    have la2 := at_length (kidOf P.nms a) (opLev e.num)
    have lb2 := at_length (kidOf P.nms b) (opLev e.num + 1)
    have lae : (kidOf P.nms a).t.length ≤ 10000000 := la
    have lbe : (kidOf P.nms b).t.length ≤ 10000000 := lb
    have K := cats_ok [[32], signT e.num, [32], (kidOf P.nms b).at (opLev e.num + 1)] ((kidOf P.nms a).at (opLev e.num)) (by simp only [lensL, List.length_cons, List.length_nil]; omega)
    simp only [CatsOk] at K
    refine ⟨by simp [AV.persL, AV.pers, P.val_pers, e.lst_pers], rfl, 3, fun p hp => ?_⟩
    have hp : ∀ r' S', FRes.melt S' r' = .ret (.str (e.txt P.nms)) → p r' S' := hp
    have htxt : e.txt P.nms = catS ((kidOf P.nms a).at (opLev e.num)) [[32], signT e.num, [32], (kidOf P.nms b).at (opLev e.num + 1)] := by
     rw [e.txt_kids, h15.1, hk]
     unfold nodeT
     rw [if_neg (by unfold callT; rw [if_pos rfl, if_neg h15.2]; simp)]
     rfl
    rw [htxt] at hp
    simp only [catS] at hp
    rw [callS_go rfl]
    have d0 := @dr297_0
    simp only [drA, drawsOf, Option.getD_some, List.nil_append, List.append_nil, List.getD_cons_zero, List.getD_cons_succ, List.cons_append, Tryz.f297] at d0
    simp only [fnA, ED_fn297, fi297, Tryz.f297]
    generalize (kidOf P.nms a).at (opLev e.num) = X at *
    generalize (kidOf P.nms b).at (opLev e.num + 1) = Y at *
    simp [vmS, runC_nil, runC_cons, pickC_some, wantC_tt, wantC_tf, effC_val, ifC_true, checkC, inPairs, keepC, okC, readsC_load, readV_some, AV.beq_self, wantA_n, wantA_g, wantD_some, d0, q1, q2, q3, q4, hc1, hc2, hc3, lu, au, bu, hw, gg, gs, bin_str, K]
    exact hp _ _ rfl
   ·cases h
  ·cases h
 ·cases h
theorem str_zero (f : FuncId) (b : Bool) : FOk f (strG 0 b) := by
 intro a r h
 unfold strG at h
 split at h
 ·split at h
  ·rename_i P e hP he
   split at h
   ·rename_i hc
    have := e.deep_pos
    omega
   ·cases h
  ·cases h
 ·cases h
theorem strs_ok : ∀ D, FOk 291 (strG D false) ∧ FOk 297 (strG D true)
 | 0 => ⟨str_zero _ _, str_zero _ _⟩
 | D + 1 => by
  obtain ⟨h1, h2⟩ := strs_ok D
  have hat := at_ok h1 h2
  exact ⟨str_step hat, inf_step hat⟩
theorem cat_assoc (a b c : List UInt8) : cat a (cat b c) = cat (cat a b) c := by simp [cat]
theorem cat_catS : ∀ (l : List (List UInt8)) (a out : List UInt8), cat out (catS a l) = catS (cat out a) l
 | [], _, _ => rfl
 | b :: l, a, out => by
  simp only [catS]
  rw [cat_catS l, cat_assoc]
theorem catS_cat (a : List UInt8) (l : List (List UInt8)) (out : List UInt8) : catS out (a :: l) = cat out (catS a l) := by
 rw [cat_catS]
 rfl
def caught2G : List AV → Option FRes
 | [.iface 128 (.agg [.int .i64 1, .int .i64 0])] => some (.ret (.tup [.int .i64 0, .int .i64 1]))
 | [.iface 128 (.agg [.int .i64 3, .int .i64 0])] => some (.ret (.tup [.int .i64 0, .int .i64 3]))
 | _ => none
theorem caught2_ok : FOk 63 caught2G := by
 intro a r h
 unfold caught2G at h
 split at h
 ·cases h
  exact ⟨rfl, rfl, fok_of_run (l := []) (by simp) (n := 40) (by kernel_rfl) rfl⟩
 ·cases h
  exact ⟨rfl, rfl, fok_of_run (l := []) (by simp) (n := 40) (by kernel_rfl) rfl⟩
 ·cases h
theorem caught2_use {l : Sm} (h : sumG l 63 = caught2G) {z : Int} (hz : z = 1 ∨ z = 3) {n : Nat} {S : St} : callS ED (sumG l) n (.fn 63) [wrongV z 0] S = some (.ret (.tup [.int .i64 0, .int .i64 z]), S) := by
 rcases hz with rfl | rfl <;> exact callS_sum (by rw [h]; rfl)
theorem eq_wrong2 (z : Int) : binA ED .neq 20 (.tmp 4) (.const .nilIface) (wrongV z 0) .nili = some (.bool true) := rfl
theorem stopped_pan2 {l : Sm} (hl : sumG l 46 = fun _ => none) (hl' : sumG l 63 = caught2G) {n q : Nat} {S : St} {z y : Int} (hz : z = 1 ∨ z = 3) (hcl : Cl S) (hq : S.cells? q = some [.int .i64 y]) : callS ED (sumG l) (n + 1) (.fn 46) [wrongV z 0, .ptr q 0] S = some (.ret (.tup []), S.put q (.cells [.int .i64 z])) := by
 rw [callS_go (by rw [hl])]
 have cu := fun m S => caught2_use (l := l) hl' hz (n := m) (S := S)
 have hlt := St.get_lt (cells?_inv hq)
 have hcl' := Cl.put hcl q (.cells [.int .i64 z])
 have eqw := eq_wrong2 z
 generalize wrongV z 0 = W at *
 simp only [fnA, ED_fn46, fi46, Tryz.f46]
 simp [vmS, lenA, indexAddrA, hcl.1, hcl.2, eqw, cu, hq, hcl'.1, hcl'.2]
theorem df_no50 {l : Sm} (hl : sumG l 46 = fun _ => none) {n q : Nat} {S : St} (hcl : Cl S) (it : (Vm.Loc → St → CRes) → Vm.Loc → St → CRes) : dfA ED (callS ED (sumG l) (n + 1)) it 50 [.ptr q 0] .no S = some (.no, S) := by
 have hs := fun q => stopped_no (l := l) hl (n := n) (q := q) hcl
 simp only [dfA, ED_fn50, fi50, Tryz.f50]
 simp [vmS, lenA, indexAddrA, eff_recover, stepE_rcv_no, hs, hcl.1, hcl.2]
theorem df_pan50 {l : Sm} (hl : sumG l 46 = fun _ => none) (hl' : sumG l 63 = caught2G) {n q : Nat} {S : St} {z y : Int} (hz : z = 1 ∨ z = 3) (hcl : Cl S) (hq : S.cells? q = some [.int .i64 y]) (it : (Vm.Loc → St → CRes) → Vm.Loc → St → CRes) :
  dfA ED (callS ED (sumG l) (n + 1)) it 50 [.ptr q 0] (.pan (wrongV z 0)) S = some (.done, S.put q (.cells [.int .i64 z])) := by
 have hs := stopped_pan2 (l := l) hl hl' (n := n) hz hcl hq
 have hcl' := Cl.put hcl q (.cells [.int .i64 z])
 generalize wrongV z 0 = W at *
 simp only [dfA, ED_fn50, fi50, Tryz.f50]
 simp [vmS, lenA, indexAddrA, eff_recover, stepE_rcv_pan, hs, hcl.1, hcl.2, hcl'.1, hcl'.2]
/-- what Write says -/
def Pr.write (P : Pr) : AV := if formedB P.funs P.main = true then (if P.txt.length ≤ 12000 then .tup [.str P.txt, .int .i64 0] else .tup [.str [], .int .i64 3]) else .tup [.str [], .int .i64 1]
theorem write_pers (P : Pr) : (FRes.ret P.write).pers = true := by
 unfold Pr.write
 split
 ·split <;> rfl
 ·rfl
open Classical in
noncomputable def writeD (D : Nat) : List AV → Option FRes
 | [v] => match prOf v with
  | some P => if (∀ f ∈ P.funs, f.body.deep ≤ D) then some (.ret P.write) else none
  | none => none
 | _ => none
noncomputable def LT12 (D : Nat) : Sm := [(47, formedG), (63, caught2G), (53, mustG), (51, ofG), (291, strG D false), (297, strG D true), (52, varTG)]
theorem LT12_ok (D : Nat) : ∀ x ∈ LT12 D, FOk x.1 x.2 := by
 intro x hx
 simp only [LT12, List.mem_cons, List.mem_nil_iff, or_false] at hx
 rcases hx with rfl | rfl | rfl | rfl | rfl | rfl | rfl
 ·exact formed_ok
 ·exact caught2_ok
 ·exact must_ok
 ·exact of_ok
 ·exact (strs_ok D).1
 ·exact (strs_ok D).2
 ·exact name52_ok
def dloc (d : List ADef) (vals : List AV) (sc : List (Tmp × AV)) : Vm.Loc := { vals := vals, sc := sc, defers := d, recs := .no, rnd := none }
theorem prOf_eq {P Q : Pr} (h1 : Q.funs = P.funs) (h2 : Q.main = P.main) : Q.write = P.write ∧ Q.txt = P.txt := by
 have h3 : Q.nms = P.nms := by unfold Pr.nms; rw [h1]
 have h4 : Q.txt = P.txt := by unfold Pr.txt; rw [h1, h2, h3]
 exact ⟨by unfold Pr.write; rw [h1, h2, h4], h4⟩
theorem write_ok (D : Nat) : FOk 17 (writeD D) := by
 refine fok (LT12 D) (LT12_ok D) ?_
 intro a r h
 unfold writeD at h
 split at h
 ·rename_i v
  split at h
  ·rename_i P hP
   split at h
   ·rename_i hD
    obtain ⟨hfit, rfl⟩ := prOf_some hP
    cases h
    obtain ⟨q1, q2, q3, q4, q5⟩ := lenV_len (P.lenV hfit) (t := 22) (e := 63) rfl
    have fu := fun m S => formed_use (l := LT12 D) rfl hfit (n := m) (S := S)
    refine ⟨by simp [AV.persL, P.pers], write_pers P, P.funs.length + 8, fun p hp => ?_⟩
    rw [callS_go rfl]
    simp only [Pr.enc]
    simp only [fnA, ED_fn17, fi17, Tryz.f17]
    cases hF : formedB P.funs P.main with
    | false =>
     have hw : P.write = .tup [.str [], .int .i64 1] := by unfold Pr.write; rw [hF]; rfl
     rw [hw] at hp
     simp only [hF] at fu
     have dp := fun a it => df_pan50 (l := LT12 D) rfl rfl (n := P.funs.length + 6) (q := 1) (y := 0) (z := 1) (.inl rfl) (Cl.push (Cl.push Cl.zero a) (.cells [.int .i64 0])) (cells?_push_eq _ _ rfl) it
     simp [vmS, eff_defer, stepE_dfr, fu, q2, q3, q4, stepE_pan, dp]
     exact hp _ _ rfl
    | true =>
     simp only [hF, if_true] at fu
     obtain ⟨hs, hfs, hmain, n1, n2⟩ := formed_facts hF
     obtain ⟨g, hg1, hg2, hg3⟩ := fun_at hfit hs hmain
     have hix := val_at P (fun e => by rw [e] at n1; simp at n1)
     have d0 := @dr17_0
     simp only [drA, drawsOf, Option.getD_some, List.nil_append, List.append_nil, List.getD_cons_zero, List.getD_cons_succ, List.cons_append, Tryz.f17] at d0
     simp [vmS, eff_defer, stepE_dfr, fu, q1, q2, q3, q4]
     generalize hT : St.put _ 2 (AO.cells [P.val, AV.int IntKind.i64 P.main]) = T
     have tc : Cl T := by subst hT; exact Cl.put (Cl.push (Cl.push (Cl.push Cl.zero _) _) _) _ _
     have t0 : T.cells? 0 = some [P.val, .int .i64 P.main] := by subst hT; simp [push_at, put_at, n_push', n_put', n_S0, cellsOf?]
     have t1 : T.cells? 1 = some [.int .i64 0] := by subst hT; simp [push_at, put_at, n_push', n_put', n_S0, cellsOf?]
     have t2 : T.cells? 2 = some [P.val, .int .i64 P.main] := by subst hT; simp [push_at, put_at, n_push', n_put', n_S0, cellsOf?]
     clear hT
     obtain ⟨R, hR⟩ : ∃ R, R = funsT P.nms P.funs [] := ⟨_, rfl⟩
     have htxt : P.txt = cat R (catS [109, 97, 105, 110, 32] [g.name, [10]]) := by
      unfold Pr.txt
      rw [hg1, ← hR, catS_cat]
     have m2 : ED.mth 124 "sheafworks/lang.string" = some 291 := rfl
     have m4 : ED.mth 126 "sheafworks/lang.string" = some 297 := rfl
     generalize hc : iter _ _ _ _ = c
     obtain ⟨ex, L1, S1, rfl, hq⟩ := loop_of hc
      (fun r L S' => ∃ (j : Nat) (out : List UInt8) (y z : AV) (sc : List (Tmp × AV)), j + r = P.funs.length ∧ funsT P.nms (P.funs.drop j) out = R ∧ out.length ≤ 70000 * j ∧
       L = dloc [.call 50 [.ptr 1 0]] [.agg [P.val, .int .i64 P.main], .ptr 0 0, .str [], .ptr 1 0, .ptr 2 0, .str out, y, z, P.val, .int .i64 P.funs.length, .int .i64 (j : Nat)] sc ∧ Cl S' ∧
       S'.cells? 0 = some [P.val, .int .i64 P.main] ∧ S'.cells? 1 = some [.int .i64 0] ∧ S'.cells? 2 = some [P.val, .int .i64 P.main])
      (fun ex L S' => ex = .exit 0 ∧ R.length ≤ 70000 * 40 ∧ Cl S' ∧ S'.cells? 0 = some [P.val, .int .i64 P.main] ∧ S'.cells? 1 = some [.int .i64 0] ∧
       ∃ (x y z : AV) (sc : List (Tmp × AV)), L = dloc [.call 50 [.ptr 1 0]] [.agg [P.val, .int .i64 P.main], .ptr 0 0, .str [], .ptr 1 0, .ptr 2 0, .str R, y, z, P.val, .int .i64 P.funs.length, x] sc)
      P.funs.length (by omega)
      ⟨0, [], _, _, _, by simp, by rw [hR]; rfl, by simp, rfl, tc, t0, t1, t2⟩
      (by
       rintro r L S' ⟨j, out, y, z, sc, hjk, hs1, hol, rfl, hcl', x0, x1, x2⟩ q hq1 hq2
       by_cases hj : j < P.funs.length
       ·have hwj : IntKind.i64.wrap ((j : Int) + 1) = ((j : Int) + 1) := wrap_id (by omega) (by omega)
        have hixj := hix j hj
        have hffj := hfit.1 P.funs[j] (List.getElem_mem hj)
        have hsj := hs P.funs[j] (List.getElem_mem hj)
        obtain ⟨k1, k2, k3⟩ := hfs P.funs[j] (List.getElem_mem hj)
        have hdj := hD P.funs[j] (List.getElem_mem hj)
        rw [List.drop_eq_getElem_cons hj] at hs1
        simp only [funsT] at hs1
        generalize P.funs[j] = f at *
        obtain ⟨g1, g2, g3⟩ := f.body.cell
        have hfl := funT_len hs hsj k1 k2 k3 out
        have htl := Ex.txt_length (Pr.nms_short hs) f.body k1
        have hvl := var_length k3
        have vu := fun m S => var_use2 (l := LT12 D) (f := 52) rfl (n := m) (S := S) (inI_var k3)
        have ou := fun m S => of_use (l := LT12 D) (P := P) (e := f.body) rfl (ask_op15 k1) (m := m) (S := S)
        have K := cats_ok [f.name, [32], varT f.par, [32, 61, 32], f.body.txt P.nms, [10]] [102, 117, 110, 32] (by simp only [lensL, List.length_cons, List.length_nil]; omega)
        have K2 := cat_ok (a := out) (b := catS [102, 117, 110, 32] [f.name, [32], varT f.par, [32, 61, 32], f.body.txt P.nms, [10]]) (by rw [catS_length]; simp only [lensL, List.length_cons, List.length_nil]; omega)
        unfold funT at hs1 hfl
        rw [catS_cat] at hs1 hfl
        simp only [CatsOk] at K
        simp only [catS] at K2 hs1 hfl
        have hlt0 := St.get_lt (cells?_inv x0)
        have hlt1 := St.get_lt (cells?_inv x1)
        have hlt2 := St.get_lt (cells?_inv x2)
        have c2 : Cl ((S'.push (.cells [.str [], .int .i64 0, .int .i64 0, .int .i64 0, .int .i64 0, .nils])).put S'.n (.cells f.vals)) := Cl.put (Cl.push hcl' _) _ _
        have kf : ((S'.push (.cells [.str [], .int .i64 0, .int .i64 0, .int .i64 0, .int .i64 0, .nils])).put S'.n (.cells f.vals)).cells? S'.n = some f.vals := cells?_put_push _ _ _
        have kk : ∀ i cs, i < S'.n → S'.cells? i = some cs → ((S'.push (.cells [.str [], .int .i64 0, .int .i64 0, .int .i64 0, .int .i64 0, .nils])).put S'.n (.cells f.vals)).cells? i = some cs := fun i cs hi h => by
         rw [cells?_put_ne _ _ _ (by omega), cells?_push_ne _ _ (by omega)]
         exact h
        have y0 := kk 0 _ hlt0 x0
        have y1 := kk 1 _ hlt1 x1
        have y2 := kk 2 _ hlt2 x2
        clear kk
        simp only [Fu.vals] at c2 kf y0 y1 y2 hixj
        generalize hS2 : ((S'.push (.cells [.str [], .int .i64 0, .int .i64 0, .int .i64 0, .int .i64 0, .nils])).put S'.n (.cells [.str f.name, .int .i64 f.par, .int .i64 f.body.op, .int .i64 f.body.num, .int .i64 f.body.mun, f.body.lst])) = S2 at *
        cases hb : infB f.body.op f.body.num with
        | true =>
         have su := fun m S => str_use (l := LT12 D) (f := 297) (b := true) rfl hfit hs hffj.2 hdj k1 (by omega) hb (m := m) (S := S)
         rw [hb] at ou
         simp only [if_true] at ou
         generalize f.body.txt P.nms = X at *
         simp [vmS, runC_nil, runC_cons, pickC_some, wantC_tt, wantC_tf, effC_val, ifC_true, checkC, inPairs, keepC, okC, readsC_load, readV_some, AV.beq_self, wantA_n, wantA_g, wantD_some, d0, dloc, hcl'.1, hcl'.2, q2, q3, q4, hj, hwj, hixj, hS2, c2.1, c2.2, kf, y0, y1, y2, ou, su, vu, m2, m4, bin_str, K, K2, g1, g2, g3]
         exact hq1 (r - 1) _ _ (by omega) ⟨j + 1, _, _, _, _, by omega, hs1, by omega, rfl, c2, y0, y1, y2⟩
        | false =>
         have su := fun m S => str_use (l := LT12 D) (f := 291) (b := false) rfl hfit hs hffj.2 hdj k1 (by omega) hb (m := m) (S := S)
         rw [hb] at ou
         simp only [if_false, Bool.false_eq_true] at ou
         generalize f.body.txt P.nms = X at *
         simp [vmS, runC_nil, runC_cons, pickC_some, wantC_tt, wantC_tf, effC_val, ifC_true, checkC, inPairs, keepC, okC, readsC_load, readV_some, AV.beq_self, wantA_n, wantA_g, wantD_some, d0, dloc, hcl'.1, hcl'.2, q2, q3, q4, hj, hwj, hixj, hS2, c2.1, c2.2, kf, y0, y1, y2, ou, su, vu, m2, m4, bin_str, K, K2, g1, g2, g3]
         exact hq1 (r - 1) _ _ (by omega) ⟨j + 1, _, _, _, _, by omega, hs1, by omega, rfl, c2, y0, y1, y2⟩
       ·have hjl : j = P.funs.length := by omega
        subst hjl
        rw [List.drop_length] at hs1
        simp only [funsT] at hs1
        subst hs1
        simp [vmS, dloc, hcl'.1, hcl'.2]
        exact hq2 _ _ _ (by simp) ⟨rfl, by omega, hcl', x0, x1, _, _, _, _, rfl⟩)
     obtain ⟨rfl, hRl, hcl', x0, x1, x, y, z, sc, rfl⟩ := hq
     have K := cats_ok [g.name, [10]] [109, 97, 105, 110, 32] (by simp only [lensL, List.length_cons, List.length_nil]; omega)
     simp only [CatsOk] at K
     have K2 := cat_ok (a := R) (b := catS [109, 97, 105, 110, 32] [g.name, [10]]) (by rw [catS_length]; simp only [lensL, List.length_cons, List.length_nil]; omega)
     rw [← htxt] at K2
     simp only [catS] at K2
     have ls : lenA ED 9 (.str P.txt) = some (.int .i64 P.txt.length) := rfl
     have mu := fun m b S => must_use (l := LT12 D) rfl (n := m) (b := b) (e := 3) (S := S)
     simp only [Fu.vals] at hg2
     have hlt1 := St.get_lt (cells?_inv x1)
     have hw : P.write = if P.txt.length ≤ 12000 then .tup [.str P.txt, .int .i64 0] else .tup [.str [], .int .i64 3] := by
      unfold Pr.write
      rw [if_pos hF]
     rw [hw] at hp
     generalize P.txt = X at *
     by_cases hL : X.length ≤ 12000
     ·have hL' : ((X.length : Int) ≤ 12000) = True := eq_true (by omega)
      rw [if_pos hL] at hp
      have c3 := Cl.put hcl' 1 (.cells [.int .i64 0])
      have dn := fun it => df_no50 (l := LT12 D) rfl (n := P.funs.length + 6) (q := 1) c3 it
      have x1' : (S1.put 1 (.cells [.int .i64 0])).cells? 1 = some [.int .i64 0] := cells?_put_self _ _ _ hlt1
      simp [vmS, dloc, hcl'.1, hcl'.2, x0, x1, q2, q3, q4, hg2, bin_str, K, K2, ls, mu, hL', hL, dn, x1', c3.1, c3.2]
      exact hp _ _ rfl
     ·have hL' : ((X.length : Int) ≤ 12000) = False := eq_false (by omega)
      rw [if_neg hL] at hp
      have dp := fun it => df_pan50 (l := LT12 D) rfl rfl (n := P.funs.length + 6) (q := 1) (z := 3) (y := 0) (.inr rfl) hcl' x1 it
      have c3 := Cl.put hcl' 1 (.cells [.int .i64 3])
      have x1' : (S1.put 1 (.cells [.int .i64 3])).cells? 1 = some [.int .i64 3] := cells?_put_self _ _ _ hlt1
      simp [vmS, dloc, hcl'.1, hcl'.2, x0, x1, q2, q3, q4, hg2, bin_str, K, K2, ls, mu, hL', hL, stepE_pan, dp, x1', c3.1, c3.2]
      exact hp _ _ rfl
   ·cases h
  ·cases h
 ·cases h
noncomputable def writeG : List AV → Option FRes
 | [v] => match prOf v with
  | some P => some (.ret P.write)
  | none => none
 | _ => none
theorem writeG_ok : FOk 17 writeG := fok_deep write_ok fun a r h => by
 unfold writeG at h
 split at h
 ·rename_i v
  split at h
  ·rename_i P hP
   refine ⟨maxDeep P.funs, ?_⟩
   simp only [writeD, hP]
   rw [if_pos fun f hf => maxDeep_le hf, ← h]
  ·cases h
 ·cases h
/-! the document's Write -/
noncomputable def TextRG : List AV → Option FRes
 | [v] => match prOf v with
  | some P => if formedB P.funs P.main = true then some (.ret (.str P.txt)) else none
  | none => none
 | _ => none
theorem textR_ok : FOk 54 TextRG := fok_deep textRD_ok fun a r h => by
 unfold TextRG at h
 split at h
 ·rename_i v
  split at h
  ·rename_i P hP
   split at h
   ·rename_i hF
    refine ⟨maxDeep P.funs, ?_⟩
    simp only [TextRD, hP]
    rw [if_pos hF, if_pos fun f hf => maxDeep_le hf, ← h]
   ·cases h
  ·cases h
 ·cases h
theorem textR_use {l : Sm} (h : sumG l 54 = TextRG) {P : Pr} (hf : P.fit) (hF : formedB P.funs P.main = true) {n : Nat} {S : St} : callS ED (sumG l) n (.fn 54) [.agg [P.val, .int .i64 P.main]] S = some (.ret (.str P.txt), S) := by
 refine callS_sum ?_
 obtain ⟨q, h1, h2, h3, h4⟩ := prOf_enc hf
 rw [pdead2, h]
 simp only [TextRG, h1, h2, h3]
 rw [if_pos hF, (prOf_eq h2 h3).2]
noncomputable def writeRG : List AV → Option FRes
 | [v] => match prOf v with
  | some P => if (∀ f ∈ P.funs, f.body.size ≤ 100000) then some (.ret P.write) else none
  | none => none
 | _ => none
noncomputable def LT13 : Sm := [(49, formedRG), (54, TextRG)]
theorem LT13_ok : ∀ x ∈ LT13, FOk x.1 x.2 := by
 intro x hx
 simp only [LT13, List.mem_cons, List.mem_nil_iff, or_false] at hx
 rcases hx with rfl | rfl
 ·exact formedR_ok
 ·exact textR_ok
theorem writeR_ok : FOk 18 writeRG := by
 refine fok LT13 LT13_ok ?_
 intro a r h
 unfold writeRG at h
 split at h
 ·rename_i v
  split at h
  ·rename_i P hP
   split at h
   ·rename_i hs
    obtain ⟨hfit, rfl⟩ := prOf_some hP
    cases h
    refine ⟨by simp [AV.persL, P.pers], write_pers P, 3, fun p hp => ?_⟩
    rw [callS_go rfl]
    obtain ⟨q1, q2, q3, q4, q5⟩ := lenV_len (P.lenV hfit) (t := 22) (e := 63) rfl
    have hu := fun m S => formedR_use (l := LT13) rfl ⟨hfit, hs⟩ (n := m) (S := S)
    simp only [Pr.enc]
    simp only [fnA, ED_fn18, fi18, Tryz.f18]
    cases hF : formedB P.funs P.main with
    | false =>
     have hw : P.write = .tup [.str [], .int .i64 1] := by unfold Pr.write; rw [hF]; rfl
     rw [hw] at hp
     rw [hF] at hu
     simp [vmS, q1, q2, q3, q4, hu, unA]
     exact hp _ _ rfl
    | true =>
     have hw : P.write = if P.txt.length ≤ 12000 then .tup [.str P.txt, .int .i64 0] else .tup [.str [], .int .i64 3] := by
      unfold Pr.write
      rw [if_pos hF]
     rw [hw] at hp
     rw [hF] at hu
     have tu := fun m S => textR_use (l := LT13) rfl hfit hF (n := m) (S := S)
     have ls : lenA ED 9 (.str P.txt) = some (.int .i64 P.txt.length) := rfl
     generalize P.txt = X at *
     by_cases hL : X.length ≤ 12000
     ·have hL' : ((12000 : Int) < (X.length : Int)) = False := eq_false (by omega)
      have hL2 : (12000 < X.length) = False := eq_false (by omega)
      rw [if_pos hL] at hp
      simp [vmS, q1, q2, q3, q4, hu, tu, unA, ls, hL', hL2]
      exact hp _ _ rfl
     ·have hL' : ((12000 : Int) < (X.length : Int)) = True := eq_true (by omega)
      have hL2 : (12000 < X.length) = True := eq_true (by omega)
      rw [if_neg hL] at hp
      simp [vmS, q1, q2, q3, q4, hu, tu, unA, ls, hL', hL2]
      exact hp _ _ rfl
   ·cases h
  ·cases h
 ·cases h
end Go.Vm.L
