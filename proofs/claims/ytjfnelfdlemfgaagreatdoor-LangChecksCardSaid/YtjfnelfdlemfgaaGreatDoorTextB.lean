/-
What the document's Text returns. No conditions.
-/
import Derived.Test.YtjfnelfdlemfgaaGreatDoorTextA
import Derived.Test.YtjfnelfdlemfgaaGreatDoorSaidC
set_option linter.all false
set_option maxHeartbeats 4000000
namespace Go.Vm.L
open Go Go.Proofs Go.Vm
set_option maxRecDepth 100000
attribute [local simp] inFrame startLoc startVals Loc.clear blockC Loc.putO Loc.put idx evO constV Loc.get Vm.look intA unwindA resultsA resultV actA pureA storeA loadA fillE repElems TI.zeroV fieldOf fieldAddrA fieldA elemsA retE cellsOf? setCells nowhere mapHead headNext
def kidOf (nm : List (List UInt8)) (x : Ex) : Kid := ⟨x.txt nm, levI x.op x.num, x.op⟩
theorem Ex.txts_map (nm : List (List UInt8)) : ∀ l : List Ex, Ex.txts nm l = l.map (kidOf nm)
 | [] => rfl
 | x :: l => by simp [Ex.txts, kidOf, Ex.txts_map nm l]
theorem Ex.index' (v : Ex) {j : Nat} {x : Ex} (h : v.kids[j]? = some x) : indexAddrA ED 57 v.lst (.int .i64 (j : Nat)) = some (.rptr [.int .i64 x.op, .int .i64 x.num, .int .i64 x.mun, x.lst]) := by
 obtain ⟨hj, hx⟩ := List.getElem?_eq_some_iff.1 h
 rw [v.index hj, hx, x.look]
 rfl
def Pr.short (P : Pr) : Prop := ∀ f ∈ P.funs, f.name.length ≤ 12
def Pr.nms (P : Pr) : List (List UInt8) := P.funs.map Fu.name
theorem Pr.nms_short {P : Pr} (h : P.short) : ∀ s ∈ P.nms, s.length ≤ 12 := fun s hs => by
 obtain ⟨f, hf, rfl⟩ := List.mem_map.1 hs
 exact h f hf
open Classical in
noncomputable def textG (D : Nat) : List AV → Option FRes
 | [pv, v] => match prOf pv, exOf v with
  | some P, some e => if (∀ f ∈ P.funs, f.name.length ≤ 12) ∧ e.deep ≤ D ∧ (e.okN P.funs.length ∧ e.size ≤ 100000) then some (.ret (.str (e.txt (P.funs.map Fu.name)))) else none
  | _, _ => none
 | _ => none
open Classical in
noncomputable def withinTG (D : Nat) : List AV → Option FRes
 | [pv, v, .int .i64 least] => match prOf pv, exOf v with
  | some P, some e => if (∀ f ∈ P.funs, f.name.length ≤ 12) ∧ e.deep ≤ D ∧ (e.okN P.funs.length ∧ e.size ≤ 100000) then some (.ret (.str ((kidOf (P.funs.map Fu.name) e).at least))) else none
  | _, _ => none
 | _ => none
section
variable {l : Sm} {D : Nat} {P : Pr} {e : Ex}
theorem pdead3 : (AV.agg [P.val, .int .i64 P.main]).dead = P.enc := by
 have : (AV.agg [P.val, .int .i64 P.main]).dead = .agg [P.val, .int .i64 P.main] := dead_of_pers _ P.pers
 rw [this]
 rfl
theorem text_use {f : FuncId} (h : sumG l f = textG D) (hP : P.fit) (hs : P.short) (he : e.fit) (hd : e.deep ≤ D) (ho : e.okN P.funs.length) (hz : e.size ≤ 100000) {m : Nat} {S : St} :
  callS ED (sumG l) m (.fn f) [.agg [P.val, .int .i64 P.main], .agg [.int .i64 e.op, .int .i64 e.num, .int .i64 e.mun, e.lst]] S = some (.ret (.str (e.txt P.nms)), S) := by
 rw [← e.look]
 refine callS_sum ?_
 obtain ⟨q, h1, h2, h3, h4⟩ := prOf_enc hP
 rw [List.map_cons, List.map_cons, List.map_nil, pdead3, e.enc_dead, h]
 simp only [textG, h1, h2, exOf_enc he]
 rw [if_pos ⟨by rw [h2]; exact hs, hd, by rw [h2]; exact ho, hz⟩]
 rfl
theorem withinT_use (h : sumG l 147 = withinTG D) (hP : P.fit) (hs : P.short) (he : e.fit) (hd : e.deep ≤ D) (ho : e.okN P.funs.length) (hz : e.size ≤ 100000) {m : Nat} {least : Int} {S : St} :
  callS ED (sumG l) m (.fn 147) [.agg [P.val, .int .i64 P.main], .agg [.int .i64 e.op, .int .i64 e.num, .int .i64 e.mun, e.lst], .int .i64 least] S = some (.ret (.str ((kidOf P.nms e).at least)), S) := by
 rw [← e.look]
 refine callS_sum ?_
 obtain ⟨q, h1, h2, h3, h4⟩ := prOf_enc hP
 rw [List.map_cons, List.map_cons, List.map_cons, List.map_nil, pdead3, e.enc_dead, h]
 simp only [withinTG, AV.dead, h1, h2, exOf_enc he]
 rw [if_pos ⟨by rw [h2]; exact hs, hd, by rw [h2]; exact ho, hz⟩]
 rfl
end
noncomputable def LT4 (D : Nat) : Sm := [(100, textG D), (191, levG)]
theorem LT4_ok {D : Nat} (h : FOk 100 (textG D)) : ∀ x ∈ LT4 D, FOk x.1 x.2 := by
 intro x hx
 simp only [LT4, List.mem_cons, List.mem_nil_iff, or_false] at hx
 rcases hx with rfl | rfl
 ·exact h
 ·exact lev_ok
theorem txt_le {P : Pr} (hs : P.short) {e : Ex} (ho : e.okN P.funs.length) (hz : e.size ≤ 100000) : (e.txt P.nms).length ≤ 10000000 := by
 have := Ex.txt_length (Pr.nms_short hs) e ho
 omega
theorem withinT_ok {D : Nat} (ih : FOk 100 (textG D)) : FOk 147 (withinTG D) := by
 refine fok (LT4 D) (LT4_ok ih) ?_
 intro a r h
 unfold withinTG at h
 split at h
 ·rename_i pv v least
  split at h
  ·rename_i P e hP he
   split at h
   ·rename_i hc
    obtain ⟨hs, hd, ho, hz⟩ := hc
    obtain ⟨hfit, rfl⟩ := prOf_some hP
    obtain ⟨hef, rfl⟩ := exOf_some he
    cases h
    obtain ⟨q1, q2, q3, q4, q5⟩ := lenV_len (P.lenV hfit) (t := 22) (e := 63) rfl
    obtain ⟨hc1, hc2, hc3⟩ := e.cell
    refine ⟨by simp [AV.persL, P.pers, Ex.pers, AV.pers], rfl, 3, fun p hp => ?_⟩
    rw [callS_go rfl]
    have tu := fun m S => text_use (l := LT4 D) (f := 100) rfl hfit hs hef hd ho hz (m := m) (S := S)
    have lu := fun m S => lev_use (l := LT4 D) rfl (k := m) (e := e) (S := S)
    have hlen := txt_le hs ho hz
    have K := cats_ok [e.txt P.nms, [41]] [40] (by simp only [lensL, List.length_cons, List.length_nil]; omega)
    simp only [CatsOk] at K
    have hk : (kidOf (P.funs.map Fu.name) e).at least = if levI e.op e.num < least then catS [40] [e.txt P.nms, [41]] else e.txt P.nms := rfl
    rw [hk] at hp
    simp only [catS] at hp
    rw [e.look]
    simp only [Pr.enc]
    simp only [fnA, ED_fn147, fi147, Tryz.f147]
    generalize e.txt P.nms = X at *
    by_cases hl : levI e.op e.num < least
    ·rw [if_pos hl] at hp
     simp [vmS, q1, q2, q3, q4, hc1, hc2, hc3, tu, lu, hl, bin_str, K]
     exact hp _ _ rfl
    ·rw [if_neg hl] at hp
     simp [vmS, q1, q2, q3, q4, hc1, hc2, hc3, tu, lu, hl]
     exact hp _ _ rfl
   ·cases h
  ·cases h
 ·cases h
/-! with commas -/
open Classical in
/-- the expressions of a list, if it is one of an expression that is fit -/
noncomputable def lsOf (v : AV) : Option (List Ex) := if h : ∃ e : Ex, e.fit ∧ e.lst = v then some h.choose.kids else none
theorem lst_inj {e e' : Ex} (h : e.lst = e'.lst) : e.kids = e'.kids := by
 cases e with
 | leaf o n m z =>
  cases e' with
  | leaf o' n' m' z' => rfl
  | node o' n' m' x' l' => cases z <;> simp [Ex.lst] at h
 | node o n m x l =>
  cases e' with
  | leaf o' n' m' z' => cases z' <;> simp [Ex.lst] at h
  | node o' n' m' x' l' =>
   simp only [Ex.lst, AV.slice.injEq, and_true] at h
   exact Ex.injs (l := x :: l) (m := x' :: l') (by simpa [Ex.encs] using h)
theorem lsOf_lst {e : Ex} (h : e.fit) : lsOf e.lst = some e.kids := by
 have hx : ∃ e' : Ex, e'.fit ∧ e'.lst = e.lst := ⟨e, h, rfl⟩
 unfold lsOf
 rw [dif_pos hx]
 exact congrArg some (lst_inj hx.choose_spec.2)
theorem lsOf_some {v : AV} {l : List Ex} (h : lsOf v = some l) : ∃ e : Ex, e.fit ∧ v = e.lst ∧ l = e.kids := by
 unfold lsOf at h
 split at h
 ·rename_i hx
  cases h
  exact ⟨hx.choose, hx.choose_spec.1, hx.choose_spec.2.symm, rfl⟩
 ·cases h
open Classical in
noncomputable def joinedG (D : Nat) : List AV → Option FRes
 | [pv, v] => match prOf pv, lsOf v with
  | some P, some l => if (∀ f ∈ P.funs, f.name.length ≤ 12) ∧ (∀ x ∈ l, x.deep ≤ D) ∧ (Ex.okNs P.funs.length l ∧ Ex.sizes l ≤ 100000) then some (.ret (.str (commaT (l.map (kidOf (P.funs.map Fu.name)))))) else none
  | _, _ => none
 | _ => none
theorem joined_use {l : Sm} {D : Nat} {P : Pr} {e : Ex} (h : sumG l 145 = joinedG D) (hP : P.fit) (hs : P.short) (he : e.fit) (hd : ∀ x ∈ e.kids, x.deep ≤ D) (ho : Ex.okNs P.funs.length e.kids) (hz : Ex.sizes e.kids ≤ 100000) {m : Nat} {S : St} :
  callS ED (sumG l) m (.fn 145) [.agg [P.val, .int .i64 P.main], e.lst] S = some (.ret (.str (commaT (e.kids.map (kidOf P.nms)))), S) := by
 refine callS_sum ?_
 obtain ⟨q, h1, h2, h3, h4⟩ := prOf_enc hP
 rw [List.map_cons, List.map_cons, List.map_nil, pdead3, dead_of_pers _ e.lst_pers, h]
 simp only [joinedG, h1, h2, lsOf_lst he]
 rw [if_pos ⟨by rw [h2]; exact hs, hd, by rw [h2]; exact ho, hz⟩]
 rfl
theorem join_take (ts : List (List UInt8)) (sep : List UInt8) {j : Nat} (h : j < ts.length) (h0 : j ≠ 0) : Lib.join (ts.take (j + 1)) sep = (Lib.join (ts.take j) sep ++ sep) ++ ts[j] := by
 match ts, j, h, h0 with
 | x :: r, k + 1, h, _ =>
  have hk : k < r.length := by simpa using h
  rw [List.take_succ_cons, List.take_succ_cons, Lib.join_cons, Lib.join_cons, Lib.joinTail_take_succ sep r k r[k] (List.getElem?_eq_getElem hk)]
  simp
theorem join_take0 (ts : List (List UInt8)) (sep : List UInt8) (h : 0 < ts.length) : Lib.join (ts.take (0 + 1)) sep = ts[0] := by
 match ts, h with
 | x :: r, _ => simp [Lib.join_one]
theorem join_take_le (ts : List (List UInt8)) (sep : List UInt8) (j : Nat) : (Lib.join (ts.take j) sep).length ≤ (Lib.join ts sep).length := by
 match ts, j with
 | [], j => simp
 | x :: r, 0 => simp [Lib.join_nil]
 | x :: r, j + 1 =>
  rw [List.take_succ_cons, Lib.join_cons, Lib.join_cons]
  have := Lib.joinTail_take_le sep r j
  simp only [List.length_append]
  omega
theorem joined_ok {D : Nat} (ih : FOk 100 (textG D)) : FOk 145 (joinedG D) := by
 refine fok (LT4 D) (LT4_ok ih) ?_
 intro a r h
 unfold joinedG at h
 split at h
 ·rename_i pv v
  split at h
  ·rename_i P l hP hl
   split at h
   ·rename_i hc
    obtain ⟨hs, hd, ho, hz⟩ := hc
    obtain ⟨hfit, rfl⟩ := prOf_some hP
    obtain ⟨e, hef, rfl, rfl⟩ := lsOf_some hl
    cases h
    obtain ⟨q1, q2, q3, q4, q5⟩ := lenV_len (P.lenV hfit) (t := 22) (e := 63) rfl
    obtain ⟨hc1, hc2, hc3⟩ := e.cell
    have hlen := e.len
    have hsl := sizes_len e.kids
    have hidx := fun j (x : Ex) (h : e.kids[j]? = some x) => e.index' h
    have hkid := fun x (hx : x ∈ e.kids) => (⟨Ex.fit_kid hef hx, hd x hx, Ex.okNs_mem ho hx, by have := sizes_mem hx; omega⟩ : x.fit ∧ x.deep ≤ D ∧ x.okN P.funs.length ∧ x.size ≤ 100000)
    have hkl : kidsL (e.kids.map (kidOf P.nms)) ≤ 100 * Ex.sizes e.kids := by
     rw [← Ex.txts_map]
     exact Ex.txts_len (Pr.nms_short hs) _ ho
    have hcl := comma_length (e.kids.map (kidOf P.nms))
    refine ⟨by simp [AV.persL, P.pers, e.lst_pers], rfl, e.kids.length + 4, fun p hp => ?_⟩
    have hp : ∀ r' S', FRes.melt S' r' = .ret (.str (commaT (e.kids.map (kidOf P.nms)))) → p r' S' := hp
    rw [callS_go rfl]
    simp only [Pr.enc]
    have d0 := @dr145_0
    simp only [drA, drawsOf, Option.getD_some, List.nil_append, List.append_nil, List.getD_cons_zero, List.getD_cons_succ, List.cons_append, Tryz.f145] at d0
    simp only [fnA, ED_fn145, fi145, Tryz.f145]
    simp [vmS, q1, q2, q3, q4, hc1, hc2, hc3]
    generalize hT : S0.push (.cells [P.val, .int .i64 P.main]) = T
    have tc : Cl T := by subst hT; exact Cl.push Cl.zero _
    have t0 : T.cells? 0 = some [P.val, .int .i64 P.main] := by subst hT; simp [push_at, n_push', n_S0, cellsOf?]
    obtain ⟨ts, hts⟩ : ∃ ts, ts = (e.kids.map (kidOf P.nms)).map Kid.t := ⟨_, rfl⟩
    have htl : ts.length = e.kids.length := by rw [hts]; simp
    have hjl : (Lib.join ts [44, 32]).length ≤ 20000000 := by
     rw [hts]
     unfold commaT at hcl
     rw [List.length_map] at hcl
     omega
    have hC : commaT (e.kids.map (kidOf P.nms)) = Lib.join ts [44, 32] := by rw [hts]; rfl
    rw [hC] at hp
    have hat : ∀ (j : Nat) (x : Ex), e.kids[j]? = some x → ts[j]? = some (x.txt P.nms) := fun j x hx => by
     rw [hts, List.getElem?_map, List.getElem?_map, hx]
     rfl
    generalize hc : iter _ _ _ _ = c
    obtain ⟨ex, L1, S1, rfl, hq⟩ := loop_of hc
     (fun r L S' => ∃ (j : Nat) (sc : List (Tmp × AV)), j + r = e.kids.length ∧ L = vloc [.agg [P.val, .int .i64 P.main], e.lst, .ptr 0 0, .str [], .str (Lib.join (ts.take j) [44, 32]), .int .i64 (j : Nat)] sc ∧ S' = T)
     (fun ex L S' => S' = T ∧ ex = .exit 0 ∧ ∃ (x : AV) (sc : List (Tmp × AV)), L = vloc [.agg [P.val, .int .i64 P.main], e.lst, .ptr 0 0, .str [], .str (Lib.join ts [44, 32]), x] sc)
     e.kids.length (by omega)
     ⟨0, _, by simp, rfl, rfl⟩
     (by
      rintro r L S' ⟨j, sc, hjk, rfl, rfl⟩ q hq1 hq2
      by_cases hj : j < e.kids.length
      ·have hwj : IntKind.i64.wrap ((j : Int) + 1) = ((j : Int) + 1) := wrap_id (by omega) (by omega)
       have hx := List.getElem?_eq_getElem hj
       have hix := hidx j _ hx
       have htx := hat j _ hx
       obtain ⟨k1, k2, k3, k4⟩ := hkid _ (List.getElem_mem hj)
       have hjt : j < ts.length := by omega
       have htj : ts[j] = e.kids[j].txt P.nms := by
        rw [List.getElem?_eq_getElem hjt] at htx
        exact Option.some.inj htx
       have hl1 := join_take_le ts [44, 32] j
       have hl2 := txt_le hs k3 k4
       generalize e.kids[j] = xk at *
       obtain ⟨g1, g2, g3⟩ := xk.cell
       have tu := fun m S => text_use (l := LT4 D) (f := 100) rfl hfit hs k1 k2 k3 k4 (m := m) (S := S)
       by_cases j0 : j = 0
       ·subst j0
        have e1 := join_take0 ts [44, 32] hjt
        rw [htj] at e1
        have c1 : strA .add [] (xk.txt P.nms) = some (.str (Lib.join (ts.take (0 + 1)) [44, 32])) := by
         rw [e1, cat_ok (by simp only [List.length_nil]; omega)]
         rfl
        simp only [Int.natCast_zero] at hix hwj
        have e0 : Lib.join (ts.take 0) [44, 32] = [] := rfl
        generalize hX1 : Lib.join (ts.take (0 + 1)) [44, 32] = X1 at *
        have hw1 : IntKind.i64.wrap 1 = 1 := rfl
        rw [e0]
        simp [vmS, runC_nil, runC_cons, pickC_some, wantC_tt, wantC_tf, effC_val, ifC_true, checkC, inPairs, keepC, okC, readsC_load, readV_some, AV.beq_self, wantA_n, wantA_g, wantD_some, d0, vloc, tc.1, tc.2, t0, hlen, hc1, hc2, hc3, q2, q3, q4, hj, hwj, hw1, hix, tu, bin_str, c1, g1, g2, g3]
        subst hX1
        exact hq1 (r - 1) _ _ (by omega) ⟨1, _, by omega, rfl, rfl⟩
       ·have j0' : ((0 : Int) < (j : Int)) = True := eq_true (by omega)
        have j0'' : (0 < j) = True := eq_true (by omega)
        have e1 := join_take ts [44, 32] hjt j0
        rw [htj] at e1
        have c1 : strA .add (Lib.join (ts.take j) [44, 32]) [44, 32] = some (.str (Lib.join (ts.take j) [44, 32] ++ [44, 32])) := cat_ok (by simp only [List.length_cons, List.length_nil]; omega)
        have c2 : strA .add (Lib.join (ts.take j) [44, 32] ++ [44, 32]) (xk.txt P.nms) = some (.str (Lib.join (ts.take (j + 1)) [44, 32])) := by
         rw [e1]
         exact cat_ok (by simp only [List.length_append, List.length_cons, List.length_nil]; omega)
        generalize hX1 : Lib.join (ts.take (j + 1)) [44, 32] = X1 at *
        generalize Lib.join (ts.take j) [44, 32] = X0 at *
        generalize X0 ++ [44, 32] = X2 at *
        simp [vmS, runC_nil, runC_cons, pickC_some, wantC_tt, wantC_tf, effC_val, ifC_true, checkC, inPairs, keepC, okC, readsC_load, readV_some, AV.beq_self, wantA_n, wantA_g, wantD_some, d0, vloc, tc.1, tc.2, t0, hlen, hc1, hc2, hc3, q2, q3, q4, hj, hwj, hix, tu, bin_str, c1, c2, g1, g2, g3, j0', j0'']
        subst hX1
        exact hq1 (r - 1) _ _ (by omega) ⟨j + 1, _, by omega, rfl, rfl⟩
      ·have hjl' : j = e.kids.length := by omega
       subst hjl'
       rw [List.take_of_length_le (by omega)]
       simp [vmS, vloc, tc.1, tc.2, hlen, hc1, hc2, hc3]
       exact hq2 _ _ _ (by simp) ⟨rfl, rfl, _, _, rfl⟩)
    obtain ⟨rfl, rfl, x, sc, rfl⟩ := hq
    simp [vmS, vloc, tc.1, tc.2]
    exact hp _ _ rfl
   ·cases h
  ·cases h
 ·cases h
noncomputable def LT5 (D : Nat) : Sm := [(100, textG D), (147, withinTG D), (145, joinedG D), (144, namedTG), (148, signsG), (40, levelG), (99, varTG), (146, intTG)]
theorem LT5_ok {D : Nat} (h : FOk 100 (textG D)) : ∀ x ∈ LT5 D, FOk x.1 x.2 := by
 intro x hx
 simp only [LT5, List.mem_cons, List.mem_nil_iff, or_false] at hx
 rcases hx with rfl | rfl | rfl | rfl | rfl | rfl | rfl | rfl
 ·exact h
 ·exact withinT_ok h
 ·exact joined_ok h
 ·exact namedT_ok
 ·exact signs_ok
 ·exact level_ok
 ·exact varT_ok 99 rfl
 ·exact intT_ok
/-- what is known of a node that is written -/
structure TH (D : Nat) (P : Pr) (e : Ex) : Prop where
 fit : P.fit
 short : P.short
 ef : e.fit
 dk : ∀ x ∈ e.kids, x.deep ≤ D
 ask : askN P.funs.length e.op e.num e.mun e.kids.length
 oks : Ex.okNs P.funs.length e.kids
 sz : e.size ≤ 100000
/-- it is written so -/
def Txt100 (D : Nat) (P : Pr) (e : Ex) : Prop :=
 sumG (LT5 D) 100 ([P.enc, e.enc].map AV.dead) = none → ∀ p : FRes → St → Prop, (∀ r' S', r'.melt S' = .ret (.str (e.txt P.nms)) → p r' S') → GotF (callS ED (sumG (LT5 D)) 4 (.fn 100) [P.enc, e.enc] S0) p
theorem one_of {l : List Ex} (h : l.length = 1) : ∃ a, l = [a] := by
 match l, h with
 | [a], _ => exact ⟨a, rfl⟩
theorem two_of {l : List Ex} (h : l.length = 2) : ∃ a b, l = [a, b] := by
 match l, h with
 | [a, b], _ => exact ⟨a, b, rfl⟩
theorem three_of {l : List Ex} (h : l.length = 3) : ∃ a b c, l = [a, b, c] := by
 match l, h with
 | [a, b, c], _ => exact ⟨a, b, c, rfl⟩
theorem inI_var {n : Int} (h : isVarB n = true) : inI n := by
 unfold isVarB at h
 simp only [decide_eq_true_eq] at h
 unfold inI
 omega
theorem inI_word {n : Int} (h : isWordB n = true) : inI n := by
 unfold isWordB at h
 simp only [decide_eq_true_eq] at h
 unfold inI
 omega
/-- what is known of a part -/
structure KH (D : Nat) (P : Pr) (e x : Ex) : Prop where
 cell : x.lst.isCell = true ∧ x.lst.known = true ∧ x.lst.cells = [x.lst]
 tu : ∀ m S, callS ED (sumG (LT5 D)) m (.fn 100) [.agg [P.val, .int .i64 P.main], .agg [.int .i64 x.op, .int .i64 x.num, .int .i64 x.mun, x.lst]] S = some (.ret (.str (x.txt P.nms)), S)
 wu : ∀ m least S, callS ED (sumG (LT5 D)) m (.fn 147) [.agg [P.val, .int .i64 P.main], .agg [.int .i64 x.op, .int .i64 x.num, .int .i64 x.mun, x.lst], .int .i64 least] S = some (.ret (.str ((kidOf P.nms x).at least)), S)
 len : (x.txt P.nms).length ≤ 10000000
theorem TH.kid {D : Nat} {P : Pr} {e x : Ex} (H : TH D P e) (hx : x ∈ e.kids) : KH D P e x := by
 have h1 := Ex.fit_kid H.ef hx
 have h2 := Ex.okNs_mem H.oks hx
 have h3 : x.size ≤ 100000 := by have := sizes_mem hx; have := e.size_kids; have := H.sz; omega
 exact ⟨x.cell, fun m S => text_use (l := LT5 D) (f := 100) rfl H.fit H.short h1 (H.dk x hx) h2 h3 (m := m) (S := S), fun m least S => withinT_use (l := LT5 D) rfl H.fit H.short h1 (H.dk x hx) h2 h3 (m := m) (least := least) (S := S), txt_le H.short h2 h3⟩
theorem op_of_join {n : Int} (h : joinB n = true) : isOpB n = true := by
 unfold joinB at h
 have := List.contains_iff_mem.1 h
 simp only [List.mem_cons, List.mem_nil_iff, or_false] at this
 unfold isOpB
 rcases this with rfl | rfl | rfl | rfl | rfl | rfl | rfl <;> rfl
theorem fun_at {P : Pr} (hfit : P.fit) (hs : P.short) {n : Int} (h : isFunB P.funs.length n = true) :
  ∃ f : Fu, (P.nms[n.toNat]?).getD [] = f.name ∧ indexAddrA ED 22 P.val (.int .i64 n) = some (.rptr f.vals) ∧ f.name.length ≤ 12 := by
 unfold isFunB at h
 simp only [decide_eq_true_eq] at h
 obtain ⟨j, rfl⟩ : ∃ j : Nat, n = j := ⟨n.toNat, by omega⟩
 have hj : j < P.funs.length := by omega
 refine ⟨P.funs[j], ?_, val_at P (fun e => by rw [e] at hj; simp at hj) j hj, hs _ (List.getElem_mem hj)⟩
 rw [Int.toNat_natCast]
 unfold Pr.nms
 rw [List.getElem?_map, List.getElem?_eq_getElem hj]
 rfl
theorem op15 {k : Nat} {o n m : Int} {len : Nat} (h : askN k o n m len) (ho : o = 15) : isOpB n = true := by
 subst ho
 obtain ⟨_, x, hx, hl, _⟩ := h
 cases hx
 simpa [lookB] using hl
theorem TH.comma {D : Nat} {P : Pr} {e : Ex} (H : TH D P e) : (commaT (e.kids.map (kidOf P.nms))).length ≤ 30000000 ∧ ∀ m S, callS ED (sumG (LT5 D)) m (.fn 145) [.agg [P.val, .int .i64 P.main], e.lst] S = some (.ret (.str (commaT (e.kids.map (kidOf P.nms)))), S) := by
 have hz := H.sz
 have hk := e.size_kids
 have hsl := sizes_len e.kids
 have hkl : kidsL (e.kids.map (kidOf P.nms)) ≤ 100 * Ex.sizes e.kids := by
  rw [← Ex.txts_map]
  exact Ex.txts_len (Pr.nms_short H.short) _ H.oks
 have hcl := comma_length (e.kids.map (kidOf P.nms))
 rw [List.length_map] at hcl
 exact ⟨by omega, fun m S => joined_use (l := LT5 D) rfl H.fit H.short H.ef H.dk H.oks (by omega) (m := m) (S := S)⟩
theorem txt100_call {D : Nat} {P : Pr} {e : Ex} (H : TH D P e) (hcall : callT e.op e.num ≠ []) : Txt100 D P e := by
 intro hno p hp
 obtain ⟨q1, q2, q3, q4, q5⟩ := lenV_len (P.lenV H.fit) (t := 22) (e := 63) rfl
 obtain ⟨hc1, hc2, hc3⟩ := e.cell
 have nu := fun m S => namedT_use (l := LT5 D) rfl (k := m) (e := e) (S := S) H.ask.1 (fun h => op15 H.ask h)
 have hne : strA .neq (callT e.op e.num) [] = some (.bool true) := by
  have : (callT e.op e.num == []) = false := by simpa using hcall
  simp [strA, this]
 obtain ⟨lc, ju⟩ := H.comma
 have l5 := call_length e.op e.num
 have d0 := @dr100_0
 simp only [drA, drawsOf, Option.getD_some, List.nil_append, List.append_nil, List.getD_cons_zero, List.getD_cons_succ, List.cons_append, Tryz.f100] at d0
 have K := cats_ok [[40], commaT (e.kids.map (kidOf P.nms)), [41]] (callT e.op e.num) (by simp only [lensL, List.length_cons, List.length_nil]; omega)
 simp only [CatsOk] at K
 have htxt : e.txt P.nms = catS (callT e.op e.num) [[40], commaT (e.kids.map (kidOf P.nms)), [41]] := by
  rw [e.txt_kids, ← Ex.txts_map]
  unfold nodeT
  rw [if_pos hcall]
 rw [htxt] at hp
 simp only [catS] at hp
 rw [callS_go hno, e.look]
 simp only [Pr.enc]
 simp only [fnA, ED_fn100, fi100, Tryz.f100]
 clear hno H
 generalize callT e.op e.num = CT at *
 generalize commaT (e.kids.map (kidOf P.nms)) = CM at *
 simp [vmS, q1, q2, q3, q4, hc1, hc2, hc3, nu, hne, bin_str, runC_nil, runC_cons, pickC_some, wantC_tt, wantC_tf, effC_val, ifC_true, checkC, inPairs, keepC, okC, readsC_load, readV_some, AV.beq_self, wantA_n, wantA_g, wantD_some, d0, K, ju]
 exact hp _ _ rfl
theorem txt100_0 {D : Nat} {P : Pr} {e : Ex} (H : TH D P e) (ho : e.op = 0) : Txt100 D P e := by
 intro hno p hp
 obtain ⟨q1, q2, q3, q4, q5⟩ := lenV_len (P.lenV H.fit) (t := 22) (e := 63) rfl
 obtain ⟨hc1, hc2, hc3⟩ := e.cell
 have hidx := fun j (x : Ex) (h : e.kids[j]? = some x) => e.index' h
 obtain ⟨_, x, hx, hl, hlen, hm⟩ := H.ask
 rw [ho] at hx
 cases hx
 have nu := fun m S => namedT_use (l := LT5 D) rfl (k := m) (e := e) (S := S) H.ask.1 (fun h => by rw [ho] at h; cases h)
 have hcT : callT e.op e.num = [] := by rw [ho]; rfl
 rw [hcT, ho] at nu
 have hne : strA .neq [] [] = some (.bool false) := rfl
 have hk : e.kids = [] := List.length_eq_zero_iff.1 (by omega)
 have hv : isVarB e.num = true := by simpa [lookB] using hl
 have vu := fun m S => var_use2 (l := LT5 D) (f := 99) rfl (n := m) (S := S) (inI_var hv)
 have lv := var_length hv
 have htxt : e.txt P.nms = varT e.num := by rw [e.txt_kids, ho, hk]; rfl
 rw [htxt] at hp
 rw [callS_go hno, e.look, ho]
 simp only [Pr.enc]
 simp only [fnA, ED_fn100, fi100, Tryz.f100]
 clear hno H hidx hlen
 simp [vmS, q1, q2, q3, q4, hc1, hc2, hc3, nu, hne, bin_str, vu]
 exact hp _ _ rfl
theorem txt100_1 {D : Nat} {P : Pr} {e : Ex} (H : TH D P e) (ho : e.op = 1) : Txt100 D P e := by
 intro hno p hp
 obtain ⟨q1, q2, q3, q4, q5⟩ := lenV_len (P.lenV H.fit) (t := 22) (e := 63) rfl
 obtain ⟨hc1, hc2, hc3⟩ := e.cell
 have hidx := fun j (x : Ex) (h : e.kids[j]? = some x) => e.index' h
 obtain ⟨_, x, hx, hl, hlen, hm⟩ := H.ask
 rw [ho] at hx
 cases hx
 have nu := fun m S => namedT_use (l := LT5 D) rfl (k := m) (e := e) (S := S) H.ask.1 (fun h => by rw [ho] at h; cases h)
 have hcT : callT e.op e.num = [] := by rw [ho]; rfl
 rw [hcT, ho] at nu
 have hne : strA .neq [] [] = some (.bool false) := rfl
 have hk : e.kids = [] := List.length_eq_zero_iff.1 (by omega)
 have hv : isWordB e.num = true := by simpa [lookB] using hl
 have vu := fun m S => int_use2 (l := LT5 D) (f := 146) rfl (n := m) (S := S) (inI_word hv)
 have htxt : e.txt P.nms = intT e.num := by rw [e.txt_kids, ho, hk]; rfl
 rw [htxt] at hp
 rw [callS_go hno, e.look, ho]
 simp only [Pr.enc]
 simp only [fnA, ED_fn100, fi100, Tryz.f100]
 clear hno H hidx hlen
 simp [vmS, q1, q2, q3, q4, hc1, hc2, hc3, nu, hne, bin_str, vu]
 exact hp _ _ rfl
theorem txt100_2 {D : Nat} {P : Pr} {e : Ex} (H : TH D P e) (ho : e.op = 2) : Txt100 D P e := by
 intro hno p hp
 obtain ⟨q1, q2, q3, q4, q5⟩ := lenV_len (P.lenV H.fit) (t := 22) (e := 63) rfl
 obtain ⟨hc1, hc2, hc3⟩ := e.cell
 have hidx := fun j (x : Ex) (h : e.kids[j]? = some x) => e.index' h
 obtain ⟨_, x, hx, hl, hlen, hm⟩ := H.ask
 rw [ho] at hx
 cases hx
 have nu := fun m S => namedT_use (l := LT5 D) rfl (k := m) (e := e) (S := S) H.ask.1 (fun h => by rw [ho] at h; cases h)
 have hcT : callT e.op e.num = [] := by rw [ho]; rfl
 rw [hcT, ho] at nu
 have hne : strA .neq [] [] = some (.bool false) := rfl
 have hk : e.kids = [] := List.length_eq_zero_iff.1 (by omega)
 have htxt : e.txt P.nms = [40, 41] := by rw [e.txt_kids, ho, hk]; rfl
 rw [htxt] at hp
 rw [callS_go hno, e.look, ho]
 simp only [Pr.enc]
 simp only [fnA, ED_fn100, fi100, Tryz.f100]
 clear hno H hidx hlen
 simp [vmS, q1, q2, q3, q4, hc1, hc2, hc3, nu, hne, bin_str]
 exact hp _ _ rfl
theorem txt100_3 {D : Nat} {P : Pr} {e : Ex} (H : TH D P e) (ho : e.op = 3) : Txt100 D P e := by
 intro hno p hp
 obtain ⟨q1, q2, q3, q4, q5⟩ := lenV_len (P.lenV H.fit) (t := 22) (e := 63) rfl
 obtain ⟨hc1, hc2, hc3⟩ := e.cell
 have hidx := fun j (x : Ex) (h : e.kids[j]? = some x) => e.index' h
 obtain ⟨_, x, hx, hl, hlen, hm⟩ := H.ask
 rw [ho] at hx
 cases hx
 have nu := fun m S => namedT_use (l := LT5 D) rfl (k := m) (e := e) (S := S) H.ask.1 (fun h => by rw [ho] at h; cases h)
 have hcT : callT e.op e.num = [] := by rw [ho]; rfl
 rw [hcT, ho] at nu
 have hne : strA .neq [] [] = some (.bool false) := rfl
 obtain ⟨a, b, hk⟩ := two_of (l := e.kids) (by omega)
 have i0 : indexAddrA ED 57 e.lst (.int .i64 0) = _ := hidx 0 a (by rw [hk]; rfl)
 obtain ⟨⟨a1, a2, a3⟩, ta, wa, la⟩ := H.kid (x := a) (by rw [hk]; simp)
 have i1 : indexAddrA ED 57 e.lst (.int .i64 1) = _ := hidx 1 b (by rw [hk]; rfl)
 obtain ⟨⟨b1, b2, b3⟩, tb, wb, lb⟩ := H.kid (x := b) (by rw [hk]; simp)
 have hv : isVarB e.num = true := by simpa [lookB] using hl
 have vu := fun m S => var_use2 (l := LT5 D) (f := 99) rfl (n := m) (S := S) (inI_var hv)
 have lv := var_length hv
 have d0 := @dr100_1
 simp only [drA, drawsOf, Option.getD_some, List.nil_append, List.append_nil, List.getD_cons_zero, List.getD_cons_succ, List.cons_append, Tryz.f100] at d0
 have K := cats_ok [varT e.num, [32, 61, 32], a.txt P.nms, [32, 105, 110, 32], b.txt P.nms] [108, 101, 116, 32] (by simp only [lensL, List.length_cons, List.length_nil]; omega)
 simp only [CatsOk] at K
 have htxt : e.txt P.nms = catS [108, 101, 116, 32] [varT e.num, [32, 61, 32], a.txt P.nms, [32, 105, 110, 32], b.txt P.nms] := by rw [e.txt_kids, ho, hk]; rfl
 rw [htxt] at hp
 simp only [catS] at hp
 rw [callS_go hno, e.look, ho]
 simp only [Pr.enc]
 simp only [fnA, ED_fn100, fi100, Tryz.f100]
 clear hno H hidx hlen
 simp [vmS, q1, q2, q3, q4, hc1, hc2, hc3, nu, hne, bin_str, runC_nil, runC_cons, pickC_some, wantC_tt, wantC_tf, effC_val, ifC_true, checkC, inPairs, keepC, okC, readsC_load, readV_some, AV.beq_self, wantA_n, wantA_g, wantD_some, d0, K, i0, a1, a2, a3, ta, wa, i1, b1, b2, b3, tb, wb, vu]
 exact hp _ _ rfl
theorem txt100_4 {D : Nat} {P : Pr} {e : Ex} (H : TH D P e) (ho : e.op = 4) : Txt100 D P e := by
 intro hno p hp
 obtain ⟨q1, q2, q3, q4, q5⟩ := lenV_len (P.lenV H.fit) (t := 22) (e := 63) rfl
 obtain ⟨hc1, hc2, hc3⟩ := e.cell
 have hidx := fun j (x : Ex) (h : e.kids[j]? = some x) => e.index' h
 obtain ⟨_, x, hx, hl, hlen, hm⟩ := H.ask
 rw [ho] at hx
 cases hx
 have nu := fun m S => namedT_use (l := LT5 D) rfl (k := m) (e := e) (S := S) H.ask.1 (fun h => by rw [ho] at h; cases h)
 have hcT : callT e.op e.num = [] := by rw [ho]; rfl
 rw [hcT, ho] at nu
 have hne : strA .neq [] [] = some (.bool false) := rfl
 obtain ⟨a, hk⟩ := one_of (l := e.kids) (by omega)
 have i0 : indexAddrA ED 57 e.lst (.int .i64 0) = _ := hidx 0 a (by rw [hk]; rfl)
 obtain ⟨⟨a1, a2, a3⟩, ta, wa, la⟩ := H.kid (x := a) (by rw [hk]; simp)
 have hv : isVarB e.num = true := by simpa [lookB] using hl
 have vu := fun m S => var_use2 (l := LT5 D) (f := 99) rfl (n := m) (S := S) (inI_var hv)
 have lv := var_length hv
 have d0 := @dr100_2
 simp only [drA, drawsOf, Option.getD_some, List.nil_append, List.append_nil, List.getD_cons_zero, List.getD_cons_succ, List.cons_append, Tryz.f100] at d0
 have K := cats_ok [varT e.num, [32, 61, 62, 32], a.txt P.nms] [102, 110, 32] (by simp only [lensL, List.length_cons, List.length_nil]; omega)
 simp only [CatsOk] at K
 have htxt : e.txt P.nms = catS [102, 110, 32] [varT e.num, [32, 61, 62, 32], a.txt P.nms] := by rw [e.txt_kids, ho, hk]; rfl
 rw [htxt] at hp
 simp only [catS] at hp
 rw [callS_go hno, e.look, ho]
 simp only [Pr.enc]
 simp only [fnA, ED_fn100, fi100, Tryz.f100]
 clear hno H hidx hlen
 simp [vmS, q1, q2, q3, q4, hc1, hc2, hc3, nu, hne, bin_str, runC_nil, runC_cons, pickC_some, wantC_tt, wantC_tf, effC_val, ifC_true, checkC, inPairs, keepC, okC, readsC_load, readV_some, AV.beq_self, wantA_n, wantA_g, wantD_some, d0, K, i0, a1, a2, a3, ta, wa, vu]
 exact hp _ _ rfl
theorem txt100_7 {D : Nat} {P : Pr} {e : Ex} (H : TH D P e) (ho : e.op = 7) : Txt100 D P e := by
 intro hno p hp
 obtain ⟨q1, q2, q3, q4, q5⟩ := lenV_len (P.lenV H.fit) (t := 22) (e := 63) rfl
 obtain ⟨hc1, hc2, hc3⟩ := e.cell
 have hidx := fun j (x : Ex) (h : e.kids[j]? = some x) => e.index' h
 obtain ⟨_, x, hx, hl, hlen, hm⟩ := H.ask
 rw [ho] at hx
 cases hx
 have nu := fun m S => namedT_use (l := LT5 D) rfl (k := m) (e := e) (S := S) H.ask.1 (fun h => by rw [ho] at h; cases h)
 have hcT : callT e.op e.num = [] := by rw [ho]; rfl
 rw [hcT, ho] at nu
 have hne : strA .neq [] [] = some (.bool false) := rfl
 obtain ⟨a, hk⟩ := one_of (l := e.kids) (by omega)
 have i0 : indexAddrA ED 57 e.lst (.int .i64 0) = _ := hidx 0 a (by rw [hk]; rfl)
 obtain ⟨⟨a1, a2, a3⟩, ta, wa, la⟩ := H.kid (x := a) (by rw [hk]; simp)
 have hj : isFunB P.funs.length e.num = true := by simpa [lookB] using hl
 obtain ⟨f, hf, fa, fl⟩ := fun_at H.fit H.short hj
 have d0 := @dr100_5
 simp only [drA, drawsOf, Option.getD_some, List.nil_append, List.append_nil, List.getD_cons_zero, List.getD_cons_succ, List.cons_append, Tryz.f100] at d0
 have K := cats_ok [[40], a.txt P.nms, [41]] f.name (by simp only [lensL, List.length_cons, List.length_nil]; omega)
 simp only [CatsOk] at K
 have htxt : e.txt P.nms = catS f.name [[40], a.txt P.nms, [41]] := by rw [e.txt_kids, ho, hk]; show catS ((P.nms[e.num.toNat]?).getD []) _ = _; rw [hf]; rfl
 rw [htxt] at hp
 simp only [catS] at hp
 rw [callS_go hno, e.look, ho]
 simp only [Pr.enc]
 simp only [fnA, ED_fn100, fi100, Tryz.f100]
 clear hno H hidx hlen
 simp [vmS, q1, q2, q3, q4, hc1, hc2, hc3, nu, hne, bin_str, runC_nil, runC_cons, pickC_some, wantC_tt, wantC_tf, effC_val, ifC_true, checkC, inPairs, keepC, okC, readsC_load, readV_some, AV.beq_self, wantA_n, wantA_g, wantD_some, d0, K, i0, a1, a2, a3, ta, wa, fa, Fu.vals]
 exact hp _ _ rfl
theorem txt100_13 {D : Nat} {P : Pr} {e : Ex} (H : TH D P e) (ho : e.op = 13) : Txt100 D P e := by
 intro hno p hp
 obtain ⟨q1, q2, q3, q4, q5⟩ := lenV_len (P.lenV H.fit) (t := 22) (e := 63) rfl
 obtain ⟨hc1, hc2, hc3⟩ := e.cell
 have hidx := fun j (x : Ex) (h : e.kids[j]? = some x) => e.index' h
 obtain ⟨_, x, hx, hl, hlen, hm⟩ := H.ask
 rw [ho] at hx
 cases hx
 have nu := fun m S => namedT_use (l := LT5 D) rfl (k := m) (e := e) (S := S) H.ask.1 (fun h => by rw [ho] at h; cases h)
 have hcT : callT e.op e.num = [] := by rw [ho]; rfl
 rw [hcT, ho] at nu
 have hne : strA .neq [] [] = some (.bool false) := rfl
 obtain ⟨a, b, c, hk⟩ := three_of (l := e.kids) (by omega)
 have i0 : indexAddrA ED 57 e.lst (.int .i64 0) = _ := hidx 0 a (by rw [hk]; rfl)
 obtain ⟨⟨a1, a2, a3⟩, ta, wa, la⟩ := H.kid (x := a) (by rw [hk]; simp)
 have i1 : indexAddrA ED 57 e.lst (.int .i64 1) = _ := hidx 1 b (by rw [hk]; rfl)
 obtain ⟨⟨b1, b2, b3⟩, tb, wb, lb⟩ := H.kid (x := b) (by rw [hk]; simp)
 have i2 : indexAddrA ED 57 e.lst (.int .i64 2) = _ := hidx 2 c (by rw [hk]; rfl)
 obtain ⟨⟨c1, c2, c3⟩, tc, wc, lc⟩ := H.kid (x := c) (by rw [hk]; simp)
 have hv : isVarB e.num = true := by simpa [lookB] using hl
 have vu := fun m S => var_use2 (l := LT5 D) (f := 99) rfl (n := m) (S := S) (inI_var hv)
 have lv := var_length hv
 have hv2 : isVarB e.mun = true := by simpa using hm
 have vu2 := fun m S => var_use2 (l := LT5 D) (f := 99) rfl (n := m) (S := S) (inI_var hv2)
 have lv2 := var_length hv2
 have d0 := @dr100_6
 simp only [drA, drawsOf, Option.getD_some, List.nil_append, List.append_nil, List.getD_cons_zero, List.getD_cons_succ, List.cons_append, Tryz.f100] at d0
 have K := cats_ok [a.txt P.nms, [32, 111, 102, 32, 108, 101, 102, 116, 32], varT e.num, [32, 61, 62, 32], b.txt P.nms, [32, 111, 114, 32, 114, 105, 103, 104, 116, 32], varT e.mun, [32, 61, 62, 32], c.txt P.nms] [99, 97, 115, 101, 32] (by simp only [lensL, List.length_cons, List.length_nil]; omega)
 simp only [CatsOk] at K
 have htxt : e.txt P.nms = catS [99, 97, 115, 101, 32] [a.txt P.nms, [32, 111, 102, 32, 108, 101, 102, 116, 32], varT e.num, [32, 61, 62, 32], b.txt P.nms, [32, 111, 114, 32, 114, 105, 103, 104, 116, 32], varT e.mun, [32, 61, 62, 32], c.txt P.nms] := by rw [e.txt_kids, ho, hk]; rfl
 rw [htxt] at hp
 simp only [catS] at hp
 rw [callS_go hno, e.look, ho]
 simp only [Pr.enc]
 simp only [fnA, ED_fn100, fi100, Tryz.f100]
 clear hno H hidx hlen
 simp [vmS, q1, q2, q3, q4, hc1, hc2, hc3, nu, hne, bin_str, runC_nil, runC_cons, pickC_some, wantC_tt, wantC_tf, effC_val, ifC_true, checkC, inPairs, keepC, okC, readsC_load, readV_some, AV.beq_self, wantA_n, wantA_g, wantD_some, d0, K, i0, a1, a2, a3, ta, wa, i1, b1, b2, b3, tb, wb, i2, c1, c2, c3, tc, wc, vu, vu2]
 exact hp _ _ rfl
theorem txt100_14 {D : Nat} {P : Pr} {e : Ex} (H : TH D P e) (ho : e.op = 14) : Txt100 D P e := by
 intro hno p hp
 obtain ⟨q1, q2, q3, q4, q5⟩ := lenV_len (P.lenV H.fit) (t := 22) (e := 63) rfl
 obtain ⟨hc1, hc2, hc3⟩ := e.cell
 have hidx := fun j (x : Ex) (h : e.kids[j]? = some x) => e.index' h
 obtain ⟨_, x, hx, hl, hlen, hm⟩ := H.ask
 rw [ho] at hx
 cases hx
 have nu := fun m S => namedT_use (l := LT5 D) rfl (k := m) (e := e) (S := S) H.ask.1 (fun h => by rw [ho] at h; cases h)
 have hcT : callT e.op e.num = [] := by rw [ho]; rfl
 rw [hcT, ho] at nu
 have hne : strA .neq [] [] = some (.bool false) := rfl
 obtain ⟨a, b, c, hk⟩ := three_of (l := e.kids) (by omega)
 have i0 : indexAddrA ED 57 e.lst (.int .i64 0) = _ := hidx 0 a (by rw [hk]; rfl)
 obtain ⟨⟨a1, a2, a3⟩, ta, wa, la⟩ := H.kid (x := a) (by rw [hk]; simp)
 have i1 : indexAddrA ED 57 e.lst (.int .i64 1) = _ := hidx 1 b (by rw [hk]; rfl)
 obtain ⟨⟨b1, b2, b3⟩, tb, wb, lb⟩ := H.kid (x := b) (by rw [hk]; simp)
 have i2 : indexAddrA ED 57 e.lst (.int .i64 2) = _ := hidx 2 c (by rw [hk]; rfl)
 obtain ⟨⟨c1, c2, c3⟩, tc, wc, lc⟩ := H.kid (x := c) (by rw [hk]; simp)
 have d0 := @dr100_7
 simp only [drA, drawsOf, Option.getD_some, List.nil_append, List.append_nil, List.getD_cons_zero, List.getD_cons_succ, List.cons_append, Tryz.f100] at d0
 have K := cats_ok [a.txt P.nms, [32, 116, 104, 101, 110, 32], b.txt P.nms, [32, 101, 108, 115, 101, 32], c.txt P.nms] [105, 102, 32] (by simp only [lensL, List.length_cons, List.length_nil]; omega)
 simp only [CatsOk] at K
 have htxt : e.txt P.nms = catS [105, 102, 32] [a.txt P.nms, [32, 116, 104, 101, 110, 32], b.txt P.nms, [32, 101, 108, 115, 101, 32], c.txt P.nms] := by rw [e.txt_kids, ho, hk]; rfl
 rw [htxt] at hp
 simp only [catS] at hp
 rw [callS_go hno, e.look, ho]
 simp only [Pr.enc]
 simp only [fnA, ED_fn100, fi100, Tryz.f100]
 clear hno H hidx hlen
 simp [vmS, q1, q2, q3, q4, hc1, hc2, hc3, nu, hne, bin_str, runC_nil, runC_cons, pickC_some, wantC_tt, wantC_tf, effC_val, ifC_true, checkC, inPairs, keepC, okC, readsC_load, readV_some, AV.beq_self, wantA_n, wantA_g, wantD_some, d0, K, i0, a1, a2, a3, ta, wa, i1, b1, b2, b3, tb, wb, i2, c1, c2, c3, tc, wc]
 exact hp _ _ rfl
theorem txt100_17 {D : Nat} {P : Pr} {e : Ex} (H : TH D P e) (ho : e.op = 17) : Txt100 D P e := by
 intro hno p hp
 obtain ⟨q1, q2, q3, q4, q5⟩ := lenV_len (P.lenV H.fit) (t := 22) (e := 63) rfl
 obtain ⟨hc1, hc2, hc3⟩ := e.cell
 have hidx := fun j (x : Ex) (h : e.kids[j]? = some x) => e.index' h
 obtain ⟨_, x, hx, hl, hlen, hm⟩ := H.ask
 rw [ho] at hx
 cases hx
 have nu := fun m S => namedT_use (l := LT5 D) rfl (k := m) (e := e) (S := S) H.ask.1 (fun h => by rw [ho] at h; cases h)
 have hcT : callT e.op e.num = [] := by rw [ho]; rfl
 rw [hcT, ho] at nu
 have hne : strA .neq [] [] = some (.bool false) := rfl
 obtain ⟨a, b, hk⟩ := two_of (l := e.kids) (by omega)
 have i0 : indexAddrA ED 57 e.lst (.int .i64 0) = _ := hidx 0 a (by rw [hk]; rfl)
 obtain ⟨⟨a1, a2, a3⟩, ta, wa, la⟩ := H.kid (x := a) (by rw [hk]; simp)
 have i1 : indexAddrA ED 57 e.lst (.int .i64 1) = _ := hidx 1 b (by rw [hk]; rfl)
 obtain ⟨⟨b1, b2, b3⟩, tb, wb, lb⟩ := H.kid (x := b) (by rw [hk]; simp)
 have hv : isVarB e.num = true := by simpa [lookB] using hl
 have vu := fun m S => var_use2 (l := LT5 D) (f := 99) rfl (n := m) (S := S) (inI_var hv)
 have lv := var_length hv
 have d0 := @dr100_9
 simp only [drA, drawsOf, Option.getD_some, List.nil_append, List.append_nil, List.getD_cons_zero, List.getD_cons_succ, List.cons_append, Tryz.f100] at d0
 have K := cats_ok [b.txt P.nms, [32, 102, 111, 114, 32], varT e.num, [32, 105, 110, 32], a.txt P.nms, [93]] [91] (by simp only [lensL, List.length_cons, List.length_nil]; omega)
 simp only [CatsOk] at K
 have htxt : e.txt P.nms = catS [91] [b.txt P.nms, [32, 102, 111, 114, 32], varT e.num, [32, 105, 110, 32], a.txt P.nms, [93]] := by rw [e.txt_kids, ho, hk]; rfl
 rw [htxt] at hp
 simp only [catS] at hp
 rw [callS_go hno, e.look, ho]
 simp only [Pr.enc]
 simp only [fnA, ED_fn100, fi100, Tryz.f100]
 clear hno H hidx hlen
 simp [vmS, q1, q2, q3, q4, hc1, hc2, hc3, nu, hne, bin_str, runC_nil, runC_cons, pickC_some, wantC_tt, wantC_tf, effC_val, ifC_true, checkC, inPairs, keepC, okC, readsC_load, readV_some, AV.beq_self, wantA_n, wantA_g, wantD_some, d0, K, i0, a1, a2, a3, ta, wa, i1, b1, b2, b3, tb, wb, vu]
 exact hp _ _ rfl
theorem txt100_18 {D : Nat} {P : Pr} {e : Ex} (H : TH D P e) (ho : e.op = 18) : Txt100 D P e := by
 intro hno p hp
 obtain ⟨q1, q2, q3, q4, q5⟩ := lenV_len (P.lenV H.fit) (t := 22) (e := 63) rfl
 obtain ⟨hc1, hc2, hc3⟩ := e.cell
 have hidx := fun j (x : Ex) (h : e.kids[j]? = some x) => e.index' h
 obtain ⟨_, x, hx, hl, hlen, hm⟩ := H.ask
 rw [ho] at hx
 cases hx
 have nu := fun m S => namedT_use (l := LT5 D) rfl (k := m) (e := e) (S := S) H.ask.1 (fun h => by rw [ho] at h; cases h)
 have hcT : callT e.op e.num = [] := by rw [ho]; rfl
 rw [hcT, ho] at nu
 have hne : strA .neq [] [] = some (.bool false) := rfl
 obtain ⟨a, b, hk⟩ := two_of (l := e.kids) (by omega)
 have i0 : indexAddrA ED 57 e.lst (.int .i64 0) = _ := hidx 0 a (by rw [hk]; rfl)
 obtain ⟨⟨a1, a2, a3⟩, ta, wa, la⟩ := H.kid (x := a) (by rw [hk]; simp)
 have i1 : indexAddrA ED 57 e.lst (.int .i64 1) = _ := hidx 1 b (by rw [hk]; rfl)
 obtain ⟨⟨b1, b2, b3⟩, tb, wb, lb⟩ := H.kid (x := b) (by rw [hk]; simp)
 have hv : isVarB e.num = true := by simpa [lookB] using hl
 have vu := fun m S => var_use2 (l := LT5 D) (f := 99) rfl (n := m) (S := S) (inI_var hv)
 have lv := var_length hv
 have d0 := @dr100_10
 simp only [drA, drawsOf, Option.getD_some, List.nil_append, List.append_nil, List.getD_cons_zero, List.getD_cons_succ, List.cons_append, Tryz.f100] at d0
 have K := cats_ok [varT e.num, [32, 105, 110, 32], a.txt P.nms, [32, 105, 102, 32], b.txt P.nms, [93]] [91] (by simp only [lensL, List.length_cons, List.length_nil]; omega)
 simp only [CatsOk] at K
 have htxt : e.txt P.nms = catS [91] [varT e.num, [32, 105, 110, 32], a.txt P.nms, [32, 105, 102, 32], b.txt P.nms, [93]] := by rw [e.txt_kids, ho, hk]; rfl
 rw [htxt] at hp
 simp only [catS] at hp
 rw [callS_go hno, e.look, ho]
 simp only [Pr.enc]
 simp only [fnA, ED_fn100, fi100, Tryz.f100]
 clear hno H hidx hlen
 simp [vmS, q1, q2, q3, q4, hc1, hc2, hc3, nu, hne, bin_str, runC_nil, runC_cons, pickC_some, wantC_tt, wantC_tf, effC_val, ifC_true, checkC, inPairs, keepC, okC, readsC_load, readV_some, AV.beq_self, wantA_n, wantA_g, wantD_some, d0, K, i0, a1, a2, a3, ta, wa, i1, b1, b2, b3, tb, wb, vu]
 exact hp _ _ rfl
theorem txt100_22 {D : Nat} {P : Pr} {e : Ex} (H : TH D P e) (ho : e.op = 22) : Txt100 D P e := by
 intro hno p hp
 obtain ⟨q1, q2, q3, q4, q5⟩ := lenV_len (P.lenV H.fit) (t := 22) (e := 63) rfl
 obtain ⟨hc1, hc2, hc3⟩ := e.cell
 have hidx := fun j (x : Ex) (h : e.kids[j]? = some x) => e.index' h
 obtain ⟨_, x, hx, hl, hlen, hm⟩ := H.ask
 rw [ho] at hx
 cases hx
 have nu := fun m S => namedT_use (l := LT5 D) rfl (k := m) (e := e) (S := S) H.ask.1 (fun h => by rw [ho] at h; cases h)
 have hcT : callT e.op e.num = [] := by rw [ho]; rfl
 rw [hcT, ho] at nu
 have hne : strA .neq [] [] = some (.bool false) := rfl
 obtain ⟨a, hk⟩ := one_of (l := e.kids) (by omega)
 have i0 : indexAddrA ED 57 e.lst (.int .i64 0) = _ := hidx 0 a (by rw [hk]; rfl)
 obtain ⟨⟨a1, a2, a3⟩, ta, wa, la⟩ := H.kid (x := a) (by rw [hk]; simp)
 have hj : joinB e.num = true := by simpa [lookB] using hl
 have su := fun m S => signs_use (l := LT5 D) rfl (n := m) (S := S)
 have sa := sign_at (op_of_join hj)
 have ls := sign_length e.num
 generalize AV.slice (signL.map .str) .dead = WV at *
 have d0 := @dr100_12
 simp only [drA, drawsOf, Option.getD_some, List.nil_append, List.append_nil, List.getD_cons_zero, List.getD_cons_succ, List.cons_append, Tryz.f100] at d0
 have K := cats_ok [[40], signT e.num, [44, 32], a.txt P.nms, [41]] [102, 111, 108, 100] (by simp only [lensL, List.length_cons, List.length_nil]; omega)
 simp only [CatsOk] at K
 have htxt : e.txt P.nms = catS [102, 111, 108, 100] [[40], signT e.num, [44, 32], a.txt P.nms, [41]] := by rw [e.txt_kids, ho, hk]; rfl
 rw [htxt] at hp
 simp only [catS] at hp
 rw [callS_go hno, e.look, ho]
 simp only [Pr.enc]
 simp only [fnA, ED_fn100, fi100, Tryz.f100]
 clear hno H hidx hlen
 simp [vmS, q1, q2, q3, q4, hc1, hc2, hc3, nu, hne, bin_str, runC_nil, runC_cons, pickC_some, wantC_tt, wantC_tf, effC_val, ifC_true, checkC, inPairs, keepC, okC, readsC_load, readV_some, AV.beq_self, wantA_n, wantA_g, wantD_some, d0, K, i0, a1, a2, a3, ta, wa, su, sa]
 exact hp _ _ rfl
theorem txt100_23 {D : Nat} {P : Pr} {e : Ex} (H : TH D P e) (ho : e.op = 23) : Txt100 D P e := by
 intro hno p hp
 obtain ⟨q1, q2, q3, q4, q5⟩ := lenV_len (P.lenV H.fit) (t := 22) (e := 63) rfl
 obtain ⟨hc1, hc2, hc3⟩ := e.cell
 have hidx := fun j (x : Ex) (h : e.kids[j]? = some x) => e.index' h
 obtain ⟨_, x, hx, hl, hlen, hm⟩ := H.ask
 rw [ho] at hx
 cases hx
 have nu := fun m S => namedT_use (l := LT5 D) rfl (k := m) (e := e) (S := S) H.ask.1 (fun h => by rw [ho] at h; cases h)
 have hcT : callT e.op e.num = [] := by rw [ho]; rfl
 rw [hcT, ho] at nu
 have hne : strA .neq [] [] = some (.bool false) := rfl
 obtain ⟨a, hk⟩ := one_of (l := e.kids) (by omega)
 have i0 : indexAddrA ED 57 e.lst (.int .i64 0) = _ := hidx 0 a (by rw [hk]; rfl)
 obtain ⟨⟨a1, a2, a3⟩, ta, wa, la⟩ := H.kid (x := a) (by rw [hk]; simp)
 have hj : joinB e.num = true := by simpa [lookB] using hl
 have su := fun m S => signs_use (l := LT5 D) rfl (n := m) (S := S)
 have sa := sign_at (op_of_join hj)
 have ls := sign_length e.num
 generalize AV.slice (signL.map .str) .dead = WV at *
 have d0 := @dr100_12
 simp only [drA, drawsOf, Option.getD_some, List.nil_append, List.append_nil, List.getD_cons_zero, List.getD_cons_succ, List.cons_append, Tryz.f100] at d0
 have K := cats_ok [[40], signT e.num, [44, 32], a.txt P.nms, [41]] [115, 99, 97, 110] (by simp only [lensL, List.length_cons, List.length_nil]; omega)
 simp only [CatsOk] at K
 have htxt : e.txt P.nms = catS [115, 99, 97, 110] [[40], signT e.num, [44, 32], a.txt P.nms, [41]] := by rw [e.txt_kids, ho, hk]; rfl
 rw [htxt] at hp
 simp only [catS] at hp
 rw [callS_go hno, e.look, ho]
 simp only [Pr.enc]
 simp only [fnA, ED_fn100, fi100, Tryz.f100]
 clear hno H hidx hlen
 simp [vmS, q1, q2, q3, q4, hc1, hc2, hc3, nu, hne, bin_str, runC_nil, runC_cons, pickC_some, wantC_tt, wantC_tf, effC_val, ifC_true, checkC, inPairs, keepC, okC, readsC_load, readV_some, AV.beq_self, wantA_n, wantA_g, wantD_some, d0, K, i0, a1, a2, a3, ta, wa, su, sa]
 exact hp _ _ rfl
theorem txt100_8 {D : Nat} {P : Pr} {e : Ex} (H : TH D P e) (ho : e.op = 8) : Txt100 D P e := by
 intro hno p hp
 obtain ⟨q1, q2, q3, q4, q5⟩ := lenV_len (P.lenV H.fit) (t := 22) (e := 63) rfl
 obtain ⟨hc1, hc2, hc3⟩ := e.cell
 have hidx := fun j (x : Ex) (h : e.kids[j]? = some x) => e.index' h
 obtain ⟨_, x, hx, hl, hlen, hm⟩ := H.ask
 rw [ho] at hx
 cases hx
 have nu := fun m S => namedT_use (l := LT5 D) rfl (k := m) (e := e) (S := S) H.ask.1 (fun h => by rw [ho] at h; cases h)
 have hcT : callT e.op e.num = [] := by rw [ho]; rfl
 rw [hcT, ho] at nu
 have hne : strA .neq [] [] = some (.bool false) := rfl
 obtain ⟨lc, ju⟩ := H.comma
 have K := cats_ok [commaT (e.kids.map (kidOf P.nms)), [41]] [40] (by simp only [lensL, List.length_cons, List.length_nil]; omega)
 simp only [CatsOk] at K
 have htxt : e.txt P.nms = catS [40] [commaT (e.kids.map (kidOf P.nms)), [41]] := by rw [e.txt_kids, ho, ← Ex.txts_map]; rfl
 rw [htxt] at hp
 simp only [catS] at hp
 rw [callS_go hno, e.look, ho]
 simp only [Pr.enc]
 simp only [fnA, ED_fn100, fi100, Tryz.f100]
 clear hno H hidx hlen
 generalize commaT (e.kids.map (kidOf P.nms)) = CM at *
 simp [vmS, q1, q2, q3, q4, hc1, hc2, hc3, nu, hne, bin_str, K, ju]
 exact hp _ _ rfl
theorem txt100_16 {D : Nat} {P : Pr} {e : Ex} (H : TH D P e) (ho : e.op = 16) : Txt100 D P e := by
 intro hno p hp
 obtain ⟨q1, q2, q3, q4, q5⟩ := lenV_len (P.lenV H.fit) (t := 22) (e := 63) rfl
 obtain ⟨hc1, hc2, hc3⟩ := e.cell
 have hidx := fun j (x : Ex) (h : e.kids[j]? = some x) => e.index' h
 obtain ⟨_, x, hx, hl, hlen, hm⟩ := H.ask
 rw [ho] at hx
 cases hx
 have nu := fun m S => namedT_use (l := LT5 D) rfl (k := m) (e := e) (S := S) H.ask.1 (fun h => by rw [ho] at h; cases h)
 have hcT : callT e.op e.num = [] := by rw [ho]; rfl
 rw [hcT, ho] at nu
 have hne : strA .neq [] [] = some (.bool false) := rfl
 obtain ⟨lc, ju⟩ := H.comma
 have K := cats_ok [commaT (e.kids.map (kidOf P.nms)), [93]] [91] (by simp only [lensL, List.length_cons, List.length_nil]; omega)
 simp only [CatsOk] at K
 have htxt : e.txt P.nms = catS [91] [commaT (e.kids.map (kidOf P.nms)), [93]] := by rw [e.txt_kids, ho, ← Ex.txts_map]; rfl
 rw [htxt] at hp
 simp only [catS] at hp
 rw [callS_go hno, e.look, ho]
 simp only [Pr.enc]
 simp only [fnA, ED_fn100, fi100, Tryz.f100]
 clear hno H hidx hlen
 generalize commaT (e.kids.map (kidOf P.nms)) = CM at *
 simp [vmS, q1, q2, q3, q4, hc1, hc2, hc3, nu, hne, bin_str, K, ju]
 exact hp _ _ rfl
theorem txt100_6 {D : Nat} {P : Pr} {e : Ex} (H : TH D P e) (ho : e.op = 6) : Txt100 D P e := by
 intro hno p hp
 obtain ⟨q1, q2, q3, q4, q5⟩ := lenV_len (P.lenV H.fit) (t := 22) (e := 63) rfl
 obtain ⟨hc1, hc2, hc3⟩ := e.cell
 have hidx := fun j (x : Ex) (h : e.kids[j]? = some x) => e.index' h
 obtain ⟨_, x, hx, hl, hlen, hm⟩ := H.ask
 rw [ho] at hx
 cases hx
 have nu := fun m S => namedT_use (l := LT5 D) rfl (k := m) (e := e) (S := S) H.ask.1 (fun h => by rw [ho] at h; cases h)
 have hcT : callT e.op e.num = [] := by rw [ho]; rfl
 rw [hcT, ho] at nu
 have hne : strA .neq [] [] = some (.bool false) := rfl
 have hk : e.kids = [] := List.length_eq_zero_iff.1 (by omega)
 have hj : isFunB P.funs.length e.num = true := by simpa [lookB] using hl
 obtain ⟨f, hf, fa, fl⟩ := fun_at H.fit H.short hj
 have htxt : e.txt P.nms = f.name := by rw [e.txt_kids, ho, hk]; show (P.nms[e.num.toNat]?).getD [] = _; exact hf
 rw [htxt] at hp
 rw [callS_go hno, e.look, ho]
 simp only [Pr.enc]
 simp only [fnA, ED_fn100, fi100, Tryz.f100]
 clear hno H hidx hlen
 simp [vmS, q1, q2, q3, q4, hc1, hc2, hc3, nu, hne, bin_str, fa, Fu.vals]
 exact hp _ _ rfl
theorem txt100_21 {D : Nat} {P : Pr} {e : Ex} (H : TH D P e) (ho : e.op = 21) : Txt100 D P e := by
 intro hno p hp
 obtain ⟨q1, q2, q3, q4, q5⟩ := lenV_len (P.lenV H.fit) (t := 22) (e := 63) rfl
 obtain ⟨hc1, hc2, hc3⟩ := e.cell
 have hidx := fun j (x : Ex) (h : e.kids[j]? = some x) => e.index' h
 obtain ⟨_, x, hx, hl, hlen, hm⟩ := H.ask
 rw [ho] at hx
 cases hx
 have nu := fun m S => namedT_use (l := LT5 D) rfl (k := m) (e := e) (S := S) H.ask.1 (fun h => by rw [ho] at h; cases h)
 have hcT : callT e.op e.num = [] := by rw [ho]; rfl
 rw [hcT, ho] at nu
 have hne : strA .neq [] [] = some (.bool false) := rfl
 obtain ⟨a, b, hk⟩ := two_of (l := e.kids) (by omega)
 have i0 : indexAddrA ED 57 e.lst (.int .i64 0) = _ := hidx 0 a (by rw [hk]; rfl)
 obtain ⟨⟨a1, a2, a3⟩, ta, wa, la⟩ := H.kid (x := a) (by rw [hk]; simp)
 have i1 : indexAddrA ED 57 e.lst (.int .i64 1) = _ := hidx 1 b (by rw [hk]; rfl)
 obtain ⟨⟨b1, b2, b3⟩, tb, wb, lb⟩ := H.kid (x := b) (by rw [hk]; simp)
 have d0 := @dr100_11
 simp only [drA, drawsOf, Option.getD_some, List.nil_append, List.append_nil, List.getD_cons_zero, List.getD_cons_succ, List.cons_append, Tryz.f100] at d0
 have la2 := at_length (kidOf P.nms a) 6
 have lae : (kidOf P.nms a).t.length ≤ 10000000 := la
 have K := cats_ok [[91], b.txt P.nms, [93]] ((kidOf P.nms a).at 6) (by simp only [lensL, List.length_cons, List.length_nil]; omega)
 simp only [CatsOk] at K
 have htxt : e.txt P.nms = catS ((kidOf P.nms a).at 6) [[91], b.txt P.nms, [93]] := by rw [e.txt_kids, ho, hk]; rfl
 rw [htxt] at hp
 simp only [catS] at hp
 rw [callS_go hno, e.look, ho]
 simp only [Pr.enc]
 simp only [fnA, ED_fn100, fi100, Tryz.f100]
 clear hno H hidx hlen la2 lae
 generalize hX : (kidOf P.nms a).at 6 = X at *
 have wa6 := fun m S => wa m 6 S
 simp only [hX] at wa6
 simp [vmS, q1, q2, q3, q4, hc1, hc2, hc3, nu, hne, bin_str, runC_nil, runC_cons, pickC_some, wantC_tt, wantC_tf, effC_val, ifC_true, checkC, inPairs, keepC, okC, readsC_load, readV_some, AV.beq_self, wantA_n, wantA_g, wantD_some, d0, K, i0, a1, a2, a3, ta, i1, b1, b2, b3, tb, wa6]
 exact hp _ _ rfl
theorem txt100_15 {D : Nat} {P : Pr} {e : Ex} (H : TH D P e) (ho : e.op = 15) (hlv : opLev e.num ≠ 0) : Txt100 D P e := by
 intro hno p hp
 obtain ⟨q1, q2, q3, q4, q5⟩ := lenV_len (P.lenV H.fit) (t := 22) (e := 63) rfl
 obtain ⟨hc1, hc2, hc3⟩ := e.cell
 have hidx := fun j (x : Ex) (h : e.kids[j]? = some x) => e.index' h
 obtain ⟨_, x, hx, hl, hlen, hm⟩ := H.ask
 rw [ho] at hx
 cases hx
 have nu := fun m S => namedT_use (l := LT5 D) rfl (k := m) (e := e) (S := S) H.ask.1 (fun h => op15 H.ask h)
 have hcT : callT e.op e.num = [] := by rw [ho]; unfold callT; rw [if_pos rfl, if_neg hlv]
 rw [hcT, ho] at nu
 have hne : strA .neq [] [] = some (.bool false) := rfl
 obtain ⟨a, b, hk⟩ := two_of (l := e.kids) (by omega)
 have i0 : indexAddrA ED 57 e.lst (.int .i64 0) = _ := hidx 0 a (by rw [hk]; rfl)
 obtain ⟨⟨a1, a2, a3⟩, ta, wa, la⟩ := H.kid (x := a) (by rw [hk]; simp)
 have i1 : indexAddrA ED 57 e.lst (.int .i64 1) = _ := hidx 1 b (by rw [hk]; rfl)
 obtain ⟨⟨b1, b2, b3⟩, tb, wb, lb⟩ := H.kid (x := b) (by rw [hk]; simp)
 have d0 := @dr100_8
 simp only [drA, drawsOf, Option.getD_some, List.nil_append, List.append_nil, List.getD_cons_zero, List.getD_cons_succ, List.cons_append, Tryz.f100] at d0
 have hop := op15 H.ask ho
 have su := fun m S => signs_use (l := LT5 D) rfl (n := m) (S := S)
 have sa := sign_at hop
 have ls := sign_length e.num
 have lu := fun m S => level_use (l := LT5 D) rfl (n := m) (x := e.num) (S := S)
 obtain ⟨p1, p2⟩ := opLev_pos e.num
 have hw : IntKind.i64.wrap (opLev e.num + 1) = opLev e.num + 1 := wrap_id (by omega) (by omega)
 generalize AV.slice (signL.map .str) .dead = WV at *
 have la2 := at_length (kidOf P.nms a) (opLev e.num)
 have lb2 := at_length (kidOf P.nms b) (opLev e.num + 1)
 have lae : (kidOf P.nms a).t.length ≤ 10000000 := la
 have lbe : (kidOf P.nms b).t.length ≤ 10000000 := lb
 have K := cats_ok [[32], signT e.num, [32], (kidOf P.nms b).at (opLev e.num + 1)] ((kidOf P.nms a).at (opLev e.num)) (by simp only [lensL, List.length_cons, List.length_nil]; omega)
 simp only [CatsOk] at K
 have htxt : e.txt P.nms = catS ((kidOf P.nms a).at (opLev e.num)) [[32], signT e.num, [32], (kidOf P.nms b).at (opLev e.num + 1)] := by
  rw [e.txt_kids, ho, hk]
  unfold nodeT
  rw [if_neg (by unfold callT; rw [if_pos rfl, if_neg hlv]; simp)]
  rfl
 rw [htxt] at hp
 simp only [catS] at hp
 rw [callS_go hno, e.look, ho]
 simp only [Pr.enc]
 simp only [fnA, ED_fn100, fi100, Tryz.f100]
 clear hno H hidx hlen la2 lae lb2 lbe
 have wa6 := fun m S => wa m (opLev e.num) S
 have wb6 := fun m S => wb m (opLev e.num + 1) S
 generalize (kidOf P.nms a).at (opLev e.num) = X at *
 generalize (kidOf P.nms b).at (opLev e.num + 1) = Y at *
 simp [vmS, q1, q2, q3, q4, hc1, hc2, hc3, nu, hne, bin_str, runC_nil, runC_cons, pickC_some, wantC_tt, wantC_tf, effC_val, ifC_true, checkC, inPairs, keepC, okC, readsC_load, readV_some, AV.beq_self, wantA_n, wantA_g, wantD_some, d0, K, i0, a1, a2, a3, ta, i1, b1, b2, b3, tb, wa6, wb6, su, sa, lu, hw]
 exact hp _ _ rfl
theorem txt100_5 {D : Nat} {P : Pr} {e : Ex} (H : TH D P e) (ho : e.op = 5) : Txt100 D P e := by
 intro hno p hp
 obtain ⟨q1, q2, q3, q4, q5⟩ := lenV_len (P.lenV H.fit) (t := 22) (e := 63) rfl
 obtain ⟨hc1, hc2, hc3⟩ := e.cell
 have hidx := fun j (x : Ex) (h : e.kids[j]? = some x) => e.index' h
 obtain ⟨_, x, hx, hl, hlen, hm⟩ := H.ask
 rw [ho] at hx
 cases hx
 have nu := fun m S => namedT_use (l := LT5 D) rfl (k := m) (e := e) (S := S) H.ask.1 (fun h => by rw [ho] at h; cases h)
 have hcT : callT e.op e.num = [] := by rw [ho]; rfl
 rw [hcT, ho] at nu
 have hne : strA .neq [] [] = some (.bool false) := rfl
 obtain ⟨a, b, hk⟩ := two_of (l := e.kids) (by omega)
 have i0 : indexAddrA ED 57 e.lst (.int .i64 0) = _ := hidx 0 a (by rw [hk]; rfl)
 obtain ⟨⟨a1, a2, a3⟩, ta, wa, la⟩ := H.kid (x := a) (by rw [hk]; simp)
 have i1 : indexAddrA ED 57 e.lst (.int .i64 1) = _ := hidx 1 b (by rw [hk]; rfl)
 obtain ⟨⟨b1, b2, b3⟩, tb, wb, lb⟩ := H.kid (x := b) (by rw [hk]; simp)
 have d0 := @dr100_3
 have d1 := @dr100_4
 simp only [drA, drawsOf, Option.getD_some, List.nil_append, List.append_nil, List.getD_cons_zero, List.getD_cons_succ, List.cons_append, Tryz.f100] at d0 d1
 have la2 := at_length (kidOf P.nms a) 6
 have lae : (kidOf P.nms a).t.length ≤ 10000000 := la
 have htxt : e.txt P.nms = catS (if a.op = 6 then catS [40] [(kidOf P.nms a).at 6, [41]] else (kidOf P.nms a).at 6) [[40], b.txt P.nms, [41]] := by rw [e.txt_kids, ho, hk]; rfl
 rw [htxt] at hp
 have K1 := cats_ok [(kidOf P.nms a).at 6, [41]] [40] (by simp only [lensL, List.length_cons, List.length_nil]; omega)
 have K2 := cats_ok [[40], b.txt P.nms, [41]] (catS [40] [(kidOf P.nms a).at 6, [41]]) (by rw [catS_length]; simp only [lensL, List.length_cons, List.length_nil]; omega)
 have K3 := cats_ok [[40], b.txt P.nms, [41]] ((kidOf P.nms a).at 6) (by simp only [lensL, List.length_cons, List.length_nil]; omega)
 simp only [catS] at hp K2
 simp only [CatsOk] at K1 K2 K3
 have wa6 := fun m S => wa m 6 S
 rw [callS_go hno, e.look, ho]
 simp only [Pr.enc]
 simp only [fnA, ED_fn100, fi100, Tryz.f100]
 clear hno H hidx hlen la2 lae wa wb
 generalize (kidOf P.nms a).at 6 = X at *
 by_cases h6 : a.op = 6
 ·rw [if_pos h6] at hp
  have h6t : (a.op = 6) = True := eq_true h6
  simp [vmS, q1, q2, q3, q4, hc1, hc2, hc3, nu, hne, bin_str, runC_nil, runC_cons, pickC_some, wantC_tt, wantC_tf, effC_val, ifC_true, checkC, inPairs, keepC, okC, readsC_load, readV_some, AV.beq_self, wantA_n, wantA_g, wantD_some, d0, i0, a1, a2, a3, ta, i1, b1, b2, b3, tb, d1, wa6, h6t, K1, K2]
  exact hp _ _ rfl
 ·rw [if_neg h6] at hp
  simp [vmS, q1, q2, q3, q4, hc1, hc2, hc3, nu, hne, bin_str, runC_nil, runC_cons, pickC_some, wantC_tt, wantC_tf, effC_val, ifC_true, checkC, inPairs, keepC, okC, readsC_load, readV_some, AV.beq_self, wantA_n, wantA_g, wantD_some, d0, i0, a1, a2, a3, ta, i1, b1, b2, b3, tb, d1, wa6, h6, K3]
  exact hp _ _ rfl
theorem callT_none {o : Int} (h : 0 ≤ o ∧ o ≤ 26) (n : Int) (hc : callT o n = []) : o ≠ 9 ∧ o ≠ 10 ∧ o ≠ 11 ∧ o ≠ 12 ∧ o ≠ 19 ∧ o ≠ 20 ∧ o ≠ 24 ∧ o ≠ 25 ∧ o ≠ 26 := by
 refine ⟨?_, ?_, ?_, ?_, ?_, ?_, ?_, ?_, ?_⟩ <;> (rintro rfl; simp [callT, callL] at hc)
theorem txt100 {D : Nat} {P : Pr} {e : Ex} (H : TH D P e) : Txt100 D P e := by
 by_cases hc : callT e.op e.num = []
 ·obtain ⟨n1, n2, n3, n4, n5, n6, n7, n8, n9⟩ := callT_none H.ask.1 _ hc
  rcases op27 H.ask.1 with h | h | h | h | h | h | h | h | h | h | h | h | h | h | h | h | h | h | h | h | h | h | h | h | h | h | h
  ·exact txt100_0 H h
  ·exact txt100_1 H h
  ·exact txt100_2 H h
  ·exact txt100_3 H h
  ·exact txt100_4 H h
  ·exact txt100_5 H h
  ·exact txt100_6 H h
  ·exact txt100_7 H h
  ·exact txt100_8 H h
  ·exact absurd h n1
  ·exact absurd h n2
  ·exact absurd h n3
  ·exact absurd h n4
  ·exact txt100_13 H h
  ·exact txt100_14 H h
  ·refine txt100_15 H h fun hl => ?_
   have h15 := op15 H.ask h
   rw [h] at hc
   unfold callT at hc
   rw [if_pos rfl, if_pos hl] at hc
   unfold isOpB at h15
   simp only [decide_eq_true_eq] at h15
   have : ∀ j : Nat, j < 12 → (signL[j]?).getD [] ≠ [] := by decide
   exact this e.num.toNat (by omega) hc
  ·exact txt100_16 H h
  ·exact txt100_17 H h
  ·exact txt100_18 H h
  ·exact absurd h n5
  ·exact absurd h n6
  ·exact txt100_21 H h
  ·exact txt100_22 H h
  ·exact txt100_23 H h
  ·exact absurd h n7
  ·exact absurd h n8
  ·exact absurd h n9
 ·exact txt100_call H hc
theorem text_step {D : Nat} (ih : FOk 100 (textG D)) : FOk 100 (textG (D + 1)) := by
 refine fok (LT5 D) (LT5_ok ih) ?_
 intro a r h
 unfold textG at h
 split at h
 ·rename_i pv v
  split at h
  ·rename_i P e hP he
   split at h
   ·rename_i hc
    obtain ⟨hs, hd, ho, hz⟩ := hc
    obtain ⟨hfit, rfl⟩ := prOf_some hP
    obtain ⟨hef, rfl⟩ := exOf_some he
    cases h
    refine ⟨by simp [AV.persL, P.pers, Ex.pers], rfl, 4, fun p hp => ?_⟩
    by_cases hD : e.deep ≤ D
    ·rw [Pr.enc, e.look, text_use (l := LT5 D) (f := 100) rfl hfit hs hef hD ho hz]
     exact hp _ _ rfl
    ·have hk := (Ex.okN_kids _ e).1 ho
     refine txt100 (D := D) ⟨hfit, hs, hef, fun x hx => by have := Ex.deep_kid hx; omega, hk.1, hk.2, hz⟩ ?_ p hp
     obtain ⟨q, h1, h2, h3, h4⟩ := prOf_enc hfit
     rw [show sumG (LT5 D) 100 = textG D from rfl, List.map_cons, List.map_cons, List.map_nil, dead_of_pers _ P.pers, e.enc_dead]
     simp only [textG, h1, exOf_enc hef]
     rw [if_neg fun q => hD q.2.1]
   ·cases h
  ·cases h
 ·cases h
theorem text_ok : ∀ D, FOk 100 (textG D)
 | 0 => by
  intro a r h
  unfold textG at h
  split at h
  ·split at h
   ·rename_i P e hP he
    split at h
    ·rename_i hc
     have := e.deep_pos
     omega
    ·cases h
   ·cases h
  ·cases h
 | D + 1 => text_step (text_ok D)
/-! all functions -/
/-- a function, as it is written behind some text -/
def funT (nm : List (List UInt8)) (f : Fu) (out : List UInt8) : List UInt8 := catS out [[102, 117, 110, 32], f.name, [32], varT f.par, [32, 61, 32], f.body.txt nm, [10]]
def funsT (nm : List (List UInt8)) : List Fu → List UInt8 → List UInt8
 | [], out => out
 | f :: l, out => funsT nm l (funT nm f out)
/-- a program, as it is written -/
def Pr.txt (P : Pr) : List UInt8 := catS (funsT P.nms P.funs []) [[109, 97, 105, 110, 32], (P.nms[P.main.toNat]?).getD [], [10]]
theorem formed_facts {P : Pr} (h : formedB P.funs P.main = true) : P.short ∧ (∀ f ∈ P.funs, f.body.okN P.funs.length ∧ f.body.size ≤ 600 ∧ isVarB f.par = true) ∧ isFunB P.funs.length P.main = true ∧ 1 ≤ P.funs.length ∧ P.funs.length ≤ 40 := by
 unfold formedB at h
 simp only [Bool.and_eq_true, decide_eq_true_eq] at h
 obtain ⟨⟨⟨h1, h2⟩, h3⟩, h4⟩ := h
 have key : ∀ (l prev : List Fu), goodsB P.funs.length prev l = true → ∀ f ∈ l, namedB f.name = true ∧ isVarB f.par = true ∧ bodyB P.funs.length f.body [f.par] = true := by
  intro l
  induction l with
  | nil => intro _ _ f hf; cases hf
  | cons a r ih =>
   intro prev hg f hf
   simp only [goodsB, Bool.and_eq_true] at hg
   rcases List.mem_cons.1 hf with rfl | hf
   ·exact ⟨hg.1.1.1.1, hg.1.1.1.2, hg.1.2⟩
   ·exact ih _ hg.2 f hf
 refine ⟨fun f hf => ?_, fun f hf => ?_, h3, h1, h2⟩
 ·have := (key _ _ h4 f hf).1
  rw [← name_same, Bool.and_eq_true, decide_eq_true_eq] at this
  exact this.1
 ·obtain ⟨k1, k2, k3⟩ := key _ _ h4 f hf
  exact ⟨okN_body k3, bodyB_size k3, k2⟩
theorem funT_len {P : Pr} {f : Fu} (hs : P.short) (h1 : f.name.length ≤ 12) (h2 : f.body.okN P.funs.length) (h3 : f.body.size ≤ 600) (h4 : isVarB f.par = true) (out : List UInt8) : (funT P.nms f out).length ≤ out.length + 70000 := by
 have := Ex.txt_length (Pr.nms_short hs) f.body h2
 have := var_length h4
 unfold funT
 rw [catS_length]
 simp only [lensL, List.length_cons, List.length_nil]
 omega
noncomputable def TextRD (D : Nat) : List AV → Option FRes
 | [v] => match prOf v with
  | some P => if formedB P.funs P.main = true then if (∀ f ∈ P.funs, f.body.deep ≤ D) then some (.ret (.str P.txt)) else none else none
  | none => none
 | _ => none
noncomputable def LT6 (D : Nat) : Sm := [(100, textG D), (99, varTG)]
theorem LT6_ok (D : Nat) : ∀ x ∈ LT6 D, FOk x.1 x.2 := by
 intro x hx
 simp only [LT6, List.mem_cons, List.mem_nil_iff, or_false] at hx
 rcases hx with rfl | rfl
 ·exact text_ok D
 ·exact varT_ok 99 rfl
theorem textRD_ok (D : Nat) : FOk 54 (TextRD D) := by
 refine fok (LT6 D) (LT6_ok D) ?_
 intro a r h
 unfold TextRD at h
 split at h
 ·rename_i v
  split at h
  ·rename_i P hP
   split at h
   ·rename_i hF
    split at h
    ·rename_i hD
     obtain ⟨hfit, rfl⟩ := prOf_some hP
     cases h
     obtain ⟨hs, hfs, hmain, n1, n2⟩ := formed_facts hF
     refine ⟨by simp [AV.persL, P.pers], rfl, P.funs.length + 4, fun p hp => ?_⟩
     rw [callS_go rfl]
     obtain ⟨q1, q2, q3, q4, q5⟩ := lenV_len (P.lenV hfit) (t := 22) (e := 63) rfl
     obtain ⟨g, hg1, hg2, hg3⟩ := fun_at hfit hs hmain
     have hix := val_at P (fun e => by rw [e] at n1; simp at n1)
     have d0 := @dr54_0
     simp only [drA, drawsOf, Option.getD_some, List.nil_append, List.append_nil, List.getD_cons_zero, List.getD_cons_succ, List.cons_append, Tryz.f54] at d0
     simp only [Pr.enc]
     simp only [fnA, ED_fn54, fi54, Tryz.f54]
     simp [vmS, q1, q2, q3, q4]
     generalize hT : S0.push (.cells [P.val, .int .i64 P.main]) = T
     have tc : Cl T := by subst hT; exact Cl.push Cl.zero _
     have t0 : T.cells? 0 = some [P.val, .int .i64 P.main] := by subst hT; simp [push_at, n_push', n_S0, cellsOf?]
     unfold Pr.txt at hp
     rw [hg1] at hp
     generalize hR : funsT P.nms P.funs [] = R at hp
     generalize hc : iter _ _ _ _ = c
     obtain ⟨ex, L1, S1, rfl, hq⟩ := loop_of hc
      (fun r L S' => ∃ (j : Nat) (out : List UInt8) (sc : List (Tmp × AV)), j + r = P.funs.length ∧ funsT P.nms (P.funs.drop j) out = R ∧ out.length ≤ 70000 * j ∧ L = vloc [.agg [P.val, .int .i64 P.main], .ptr 0 0, .str [], .str out, .int .i64 (j : Nat)] sc ∧ S' = T)
      (fun ex L S' => S' = T ∧ ex = .exit 0 ∧ R.length ≤ 70000 * 40 ∧ ∃ (x : AV) (sc : List (Tmp × AV)), L = vloc [.agg [P.val, .int .i64 P.main], .ptr 0 0, .str [], .str R, x] sc)
      P.funs.length (by omega)
      ⟨0, [], _, by simp, by simpa using hR, by simp, rfl, rfl⟩
      (by
       rintro r L S' ⟨j, out, sc, hjk, hs1, hol, rfl, rfl⟩ q hq1 hq2
       by_cases hj : j < P.funs.length
       ·have hwj : IntKind.i64.wrap ((j : Int) + 1) = ((j : Int) + 1) := wrap_id (by omega) (by omega)
        have hixj := hix j hj
        have hffj := hfit.1 P.funs[j] (List.getElem_mem hj)
        have hsj := hs P.funs[j] (List.getElem_mem hj)
        obtain ⟨k1, k2, k3⟩ := hfs P.funs[j] (List.getElem_mem hj)
        have hdj := hD P.funs[j] (List.getElem_mem hj)
        rw [List.drop_eq_getElem_cons hj] at hs1
        simp only [funsT] at hs1
        generalize P.funs[j] = f at *
        obtain ⟨g1, g2, g3⟩ := f.body.cell
        have hfl := funT_len hs hsj k1 k2 k3 out
        have htl := Ex.txt_length (Pr.nms_short hs) f.body k1
        have hvl := var_length k3
        have tu := fun m S => text_use (l := LT6 D) (f := 100) rfl hfit hs hffj.2 hdj k1 (by omega) (m := m) (S := S)
        have vu := fun m S => var_use2 (l := LT6 D) (f := 99) rfl (n := m) (S := S) (inI_var k3)
        have K := cats_ok [[102, 117, 110, 32], f.name, [32], varT f.par, [32, 61, 32], f.body.txt P.nms, [10]] out (by simp only [lensL, List.length_cons, List.length_nil]; omega)
        simp only [CatsOk] at K
        simp only [Fu.vals] at hixj
        simp only [funT, catS] at hs1 hfl
        simp [vmS, runC_nil, runC_cons, pickC_some, wantC_tt, wantC_tf, effC_val, ifC_true, checkC, inPairs, keepC, okC, readsC_load, readV_some, AV.beq_self, wantA_n, wantA_g, wantD_some, d0, vloc, tc.1, tc.2, t0, q1, q2, q3, q4, hj, hwj, hixj, tu, vu, bin_str, K, g1, g2, g3]
        exact hq1 (r - 1) _ _ (by omega) ⟨j + 1, _, _, by omega, hs1, by omega, rfl, rfl⟩
       ·have hjl : j = P.funs.length := by omega
        subst hjl
        rw [List.drop_length] at hs1
        simp only [funsT] at hs1
        subst hs1
        simp [vmS, vloc, tc.1, tc.2, t0, q1]
        exact hq2 _ _ _ (by simp) ⟨rfl, rfl, by omega, _, _, rfl⟩)
     obtain ⟨rfl, rfl, hRl, x, sc, rfl⟩ := hq
     have K := cats_ok [[109, 97, 105, 110, 32], g.name, [10]] R (by simp only [lensL, List.length_cons, List.length_nil]; omega)
     simp only [CatsOk] at K
     simp only [catS] at hp
     simp only [Fu.vals] at hg2
     simp [vmS, vloc, tc.1, tc.2, t0, q2, q3, q4, hg2, bin_str, K]
     exact hp _ _ rfl
    ·cases h
   ·cases h
  ·cases h
 ·cases h
end Go.Vm.L
