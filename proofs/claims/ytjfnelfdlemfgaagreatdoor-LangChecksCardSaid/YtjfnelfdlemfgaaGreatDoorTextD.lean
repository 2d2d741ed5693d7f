/-
The program's text of a node, operation by operation. No conditions.
-/
import Derived.Test.YtjfnelfdlemfgaaGreatDoorTextC
set_option linter.all false
set_option maxHeartbeats 4000000
namespace Go.Vm.L
open Go Go.Proofs Go.Vm
set_option maxRecDepth 100000
attribute [local simp] inFrame startLoc startVals Loc.clear blockC Loc.putO Loc.put idx evO constV Loc.get Vm.look intA unwindA resultsA resultV actA pureA storeA loadA fillE repElems TI.zeroV fieldOf fieldAddrA fieldA elemsA retE cellsOf? setCells nowhere mapHead headNext
noncomputable def LT10 (D : Nat) : Sm := [(292, wholeG D), (293, atG D), (294, calledG), (52, varTG)]
theorem LT10_ok {D : Nat} (h : FOk 293 (atG D)) : ∀ x ∈ LT10 D, FOk x.1 x.2 := by
 intro x hx
 simp only [LT10, List.mem_cons, List.mem_nil_iff, or_false] at hx
 rcases hx with rfl | rfl | rfl | rfl
 ·exact whole_ok h
 ·exact h
 ·exact called_ok
 ·exact name52_ok
/-- it is written so -/
def Str291 (D : Nat) (P : Pr) (e : Ex) : Prop :=
 ∀ p : FRes → St → Prop, (∀ r' S', r'.melt S' = .ret (.str (e.txt P.nms)) → p r' S') → GotF (callS ED (sumG (LT10 D)) 4 (.fn 291) [.agg [P.val, .int .i64 P.main, .int .i64 e.op, .int .i64 e.num, .int .i64 e.mun, e.lst]] S0) p
theorem TH.whole {D : Nat} {P : Pr} {e : Ex} (H : TH D P e) : ∀ m S, callS ED (sumG (LT10 D)) m (.fn 292) [.agg [P.val, .int .i64 P.main, .int .i64 e.op, .int .i64 e.num, .int .i64 e.mun, e.lst]] S = some (.ret (wholeV (e.kids.map fun x => x.txt P.nms)), S) :=
 fun m S => whole_use (l := LT10 D) rfl H.fit H.short H.ef H.dk H.oks H.sz (m := m) (S := S)
structure KS (D : Nat) (P : Pr) (e : Ex) (j : Nat) (x : Ex) : Prop where
 cell : x.lst.isCell = true ∧ x.lst.known = true ∧ x.lst.cells = [x.lst]
 au : ∀ m S, callS ED (sumG (LT10 D)) m (.fn 293) [.agg [P.val, .int .i64 P.main, .int .i64 e.op, .int .i64 e.num, .int .i64 e.mun, e.lst], .int .i64 (j : Nat), .int .i64 6] S = some (.ret (.str ((kidOf P.nms x).at 6)), S)
 len : (x.txt P.nms).length ≤ 10000000
theorem TH.kid2 {D : Nat} {P : Pr} {e x : Ex} (H : TH D P e) {j : Nat} (hj : e.kids[j]? = some x) : KS D P e j x := by
 have hx := List.mem_of_getElem? hj
 have h1 := Ex.fit_kid H.ef hx
 have h2 := Ex.okNs_mem H.oks hx
 have h3 : x.size ≤ 100000 := by have := sizes_mem hx; have := e.size_kids; have := H.sz; omega
 exact ⟨x.cell, fun m S => at_use (l := LT10 D) rfl H.fit H.short H.ef hj (H.dk x hx) h2 h3 (level := 6) (by decide) (m := m) (S := S), txt_le H.short h2 h3⟩
theorem count_fuel (sub : List UInt8) : ∀ (n : Nat) (s : List UInt8), Lib.countFrom sub n s ≤ n
 | 0, _ => by simp [Lib.countFrom]
 | n + 1, s => by
  rw [Lib.countFrom]
  split
  ·omega
  ·have := count_fuel sub n (s.drop ((Lib.index s sub).toNat + sub.length))
   omega
theorem replace_use {l : Sm} (h : sumG l 84 = fun _ => none) {n : Nat} {s : List UInt8} {S : St} (hs : s.length ≤ 1000) : callS ED (sumG l) (n + 1) (.fn 84) [.str s, .str [45], .str [126], .int .i64 1] S = some (.ret (.str (Lib.replace s [45] [126] 1)), S) := by
 rw [callS_go (by rw [h])]
 simp only [fnA, ED_fn84, fi84, Tryz.f84, ED_lib84, libReplace]
 have hc : Lib.count s [45] ≤ s.length + 1 := count_fuel _ _ _
 rw [if_pos ⟨by omega, by decide, by simp only [List.length_cons, List.length_nil]; omega⟩]
theorem comma_txts (nm : List (List UInt8)) (l : List Ex) : Lib.join (l.map fun x => x.txt nm) [44, 32] = commaT (l.map (kidOf nm)) := by
 unfold commaT
 rw [List.map_map]
 rfl
theorem TH.comma2 {D : Nat} {P : Pr} {e : Ex} (H : TH D P e) : (Lib.join (e.kids.map fun x => x.txt P.nms) [44, 32]).length ≤ 30000000 := by
 rw [comma_txts]
 exact H.comma.1
theorem ask_len {k : Nat} {o n m : Int} {len : Nat} (h : askN k o n m len) : len ≤ 8 := by
 obtain ⟨_, x, hx, hl, hlen, hm⟩ := h
 have : x.1 ≤ 3 := by
  have hmem := List.mem_of_getElem? hx
  have : ∀ x ∈ formT, x.1 ≤ 3 := by decide
  exact this x hmem
 omega
theorem lit_dead (ts : List (List UInt8)) (tk : Tk) : strsV (AV.slice (ts.map .str) tk).dead = some ts := by
 have : (AV.slice (ts.map .str) tk).dead = .slice (ts.map .str) .dead := by
  simp only [AV.dead, strs_dead]
 rw [this]
 exact strsOf_map ts
theorem sign_ne {n : Int} (h : isOpB n = true) : signT n ≠ [] := by
 unfold isOpB at h
 simp only [decide_eq_true_eq] at h
 have : ∀ j : Nat, j < 12 → (signL[j]?).getD [] ≠ [] := by decide
 exact this n.toNat (by omega)
theorem str291_0 {D : Nat} {P : Pr} {e : Ex} (H : TH D P e) (ho : e.op = 0) : Str291 D P e := by
 intro p hp
 obtain ⟨q1, q2, q3, q4, q5⟩ := lenV_len (P.lenV H.fit) (t := 22) (e := 63) rfl
 obtain ⟨hc1, hc2, hc3⟩ := e.cell
 have hidx := fun j (x : Ex) (h : e.kids[j]? = some x) => e.index' h
 obtain ⟨_, x, hx, hl, hlen, hm⟩ := H.ask
 rw [ho] at hx
 cases hx
 have wu := H.whole
 rw [ho] at wu
 have hvs := wholeV_strs (e.kids.map fun x => x.txt P.nms)
 have h8 := ask_len H.ask
 have lc := H.comma2
 generalize wholeV (e.kids.map fun x => x.txt P.nms) = WV at *
 obtain ⟨k1, k2, k3, k4, k5⟩ := strsV_cell hvs
 have hv : isVarB e.num = true := by simpa [lookB] using hl
 have vu := fun m S => var_use2 (l := LT10 D) (f := 52) rfl (n := m) (S := S) (inI_var hv)
 have lv := var_length hv
 have hk : e.kids = [] := List.length_eq_zero_iff.1 (by omega)
 have htxt : e.txt P.nms = varT e.num := by rw [e.txt_kids, ho, hk]; rfl
 rw [htxt] at hp
 rw [callS_go rfl, ho]
 simp only [fnA, ED_fn291, fi291, Tryz.f291]
 clear H hidx hlen
 simp [vmS, q1, q2, q3, q4, hc1, hc2, hc3, wu, k2, k3, k4, bin_str, vu]
 exact hp _ _ rfl
theorem str291_1 {D : Nat} {P : Pr} {e : Ex} (H : TH D P e) (ho : e.op = 1) : Str291 D P e := by
 intro p hp
 obtain ⟨q1, q2, q3, q4, q5⟩ := lenV_len (P.lenV H.fit) (t := 22) (e := 63) rfl
 obtain ⟨hc1, hc2, hc3⟩ := e.cell
 have hidx := fun j (x : Ex) (h : e.kids[j]? = some x) => e.index' h
 obtain ⟨_, x, hx, hl, hlen, hm⟩ := H.ask
 rw [ho] at hx
 cases hx
 have wu := H.whole
 rw [ho] at wu
 have hvs := wholeV_strs (e.kids.map fun x => x.txt P.nms)
 have h8 := ask_len H.ask
 have lc := H.comma2
 generalize wholeV (e.kids.map fun x => x.txt P.nms) = WV at *
 obtain ⟨k1, k2, k3, k4, k5⟩ := strsV_cell hvs
 have hk : e.kids = [] := List.length_eq_zero_iff.1 (by omega)
 have htxt : e.txt P.nms = intT e.num := by rw [e.txt_kids, ho, hk]; rfl
 rw [htxt] at hp
 have hv : isWordB e.num = true := by simpa [lookB] using hl
 have hI := inI_word hv
 unfold inI at hI
 have iu := fun S => itoa_use (l := LT10 D) rfl (n := 2) (x := e.num) (S := S) (by omega)
 have ru := fun S => replace_use (l := LT10 D) rfl (n := 2) (s := Lib.itoa e.num) (S := S) (by have := itoa_length (n := e.num) (by omega); omega)
 rw [int_replace] at ru
 rw [callS_go rfl, ho]
 simp only [fnA, ED_fn291, fi291, Tryz.f291]
 clear H hidx hlen
 simp [vmS, q1, q2, q3, q4, hc1, hc2, hc3, wu, k2, k3, k4, bin_str, iu, ru]
 exact hp _ _ rfl
theorem str291_2 {D : Nat} {P : Pr} {e : Ex} (H : TH D P e) (ho : e.op = 2) : Str291 D P e := by
 intro p hp
 obtain ⟨q1, q2, q3, q4, q5⟩ := lenV_len (P.lenV H.fit) (t := 22) (e := 63) rfl
 obtain ⟨hc1, hc2, hc3⟩ := e.cell
 have hidx := fun j (x : Ex) (h : e.kids[j]? = some x) => e.index' h
 obtain ⟨_, x, hx, hl, hlen, hm⟩ := H.ask
 rw [ho] at hx
 cases hx
 have wu := H.whole
 rw [ho] at wu
 have hvs := wholeV_strs (e.kids.map fun x => x.txt P.nms)
 have h8 := ask_len H.ask
 have lc := H.comma2
 generalize wholeV (e.kids.map fun x => x.txt P.nms) = WV at *
 obtain ⟨k1, k2, k3, k4, k5⟩ := strsV_cell hvs
 have hk : e.kids = [] := List.length_eq_zero_iff.1 (by omega)
 have htxt : e.txt P.nms = [40, 41] := by rw [e.txt_kids, ho, hk]; rfl
 rw [htxt] at hp
 rw [callS_go rfl, ho]
 simp only [fnA, ED_fn291, fi291, Tryz.f291]
 clear H hidx hlen
 simp [vmS, q1, q2, q3, q4, hc1, hc2, hc3, wu, k2, k3, k4, bin_str]
 exact hp _ _ rfl
theorem str291_3 {D : Nat} {P : Pr} {e : Ex} (H : TH D P e) (ho : e.op = 3) : Str291 D P e := by
 intro p hp
 obtain ⟨q1, q2, q3, q4, q5⟩ := lenV_len (P.lenV H.fit) (t := 22) (e := 63) rfl
 obtain ⟨hc1, hc2, hc3⟩ := e.cell
 have hidx := fun j (x : Ex) (h : e.kids[j]? = some x) => e.index' h
 obtain ⟨_, x, hx, hl, hlen, hm⟩ := H.ask
 rw [ho] at hx
 cases hx
 have wu := H.whole
 rw [ho] at wu
 obtain ⟨a, b, hk⟩ := two_of (l := e.kids) (by omega)
 rw [hk] at wu
 simp only [List.map_cons, List.map_nil] at wu
 have hvs := wholeV_strs [a.txt P.nms, b.txt P.nms]
 have i0 : indexAddrA ED 57 e.lst (.int .i64 0) = _ := hidx 0 a (by rw [hk]; rfl)
 obtain ⟨⟨a1, a2, a3⟩, ta, la⟩ := H.kid2 (j := 0) (x := a) (by rw [hk]; rfl)
 have w0 : indexAddrA ED 47 (wholeV [a.txt P.nms, b.txt P.nms]) (.int .i64 0) = some (.rptr [.str (a.txt P.nms)]) := index_strs (l := [a.txt P.nms, b.txt P.nms]) (tk := .dead) (j := 0) (by simp)
 have i1 : indexAddrA ED 57 e.lst (.int .i64 1) = _ := hidx 1 b (by rw [hk]; rfl)
 obtain ⟨⟨b1, b2, b3⟩, tb, lb⟩ := H.kid2 (j := 1) (x := b) (by rw [hk]; rfl)
 have w1 : indexAddrA ED 47 (wholeV [a.txt P.nms, b.txt P.nms]) (.int .i64 1) = some (.rptr [.str (b.txt P.nms)]) := index_strs (l := [a.txt P.nms, b.txt P.nms]) (tk := .dead) (j := 1) (by simp)
 generalize wholeV [a.txt P.nms, b.txt P.nms] = WV at *
 obtain ⟨k1, k2, k3, k4, k5⟩ := strsV_cell hvs
 have hv : isVarB e.num = true := by simpa [lookB] using hl
 have vu := fun m S => var_use2 (l := LT10 D) (f := 52) rfl (n := m) (S := S) (inI_var hv)
 have lv := var_length hv
 have d0 := @dr291_0
 simp only [drA, drawsOf, Option.getD_some, List.nil_append, List.append_nil, List.getD_cons_zero, List.getD_cons_succ, List.cons_append, Tryz.f291] at d0
 have K := cats_ok [varT e.num, [32, 61, 32], a.txt P.nms, [32, 105, 110, 32], b.txt P.nms] [108, 101, 116, 32] (by simp only [lensL, List.length_cons, List.length_nil]; omega)
 simp only [CatsOk] at K
 have htxt : e.txt P.nms = catS [108, 101, 116, 32] [varT e.num, [32, 61, 32], a.txt P.nms, [32, 105, 110, 32], b.txt P.nms] := by rw [e.txt_kids, ho, hk]; rfl
 rw [htxt] at hp
 simp only [catS] at hp
 rw [callS_go rfl, ho]
 simp only [fnA, ED_fn291, fi291, Tryz.f291]
 clear H hidx hlen
 simp [vmS, q1, q2, q3, q4, hc1, hc2, hc3, wu, k2, k3, k4, bin_str, runC_nil, runC_cons, pickC_some, wantC_tt, wantC_tf, effC_val, ifC_true, checkC, inPairs, keepC, okC, readsC_load, readV_some, AV.beq_self, wantA_n, wantA_g, wantD_some, d0, i0, a1, a2, a3, w0, i1, b1, b2, b3, w1, vu, K]
 exact hp _ _ rfl
theorem str291_4 {D : Nat} {P : Pr} {e : Ex} (H : TH D P e) (ho : e.op = 4) : Str291 D P e := by
 intro p hp
 obtain ⟨q1, q2, q3, q4, q5⟩ := lenV_len (P.lenV H.fit) (t := 22) (e := 63) rfl
 obtain ⟨hc1, hc2, hc3⟩ := e.cell
 have hidx := fun j (x : Ex) (h : e.kids[j]? = some x) => e.index' h
 obtain ⟨_, x, hx, hl, hlen, hm⟩ := H.ask
 rw [ho] at hx
 cases hx
 have wu := H.whole
 rw [ho] at wu
 obtain ⟨a, hk⟩ := one_of (l := e.kids) (by omega)
 rw [hk] at wu
 simp only [List.map_cons, List.map_nil] at wu
 have hvs := wholeV_strs [a.txt P.nms]
 have i0 : indexAddrA ED 57 e.lst (.int .i64 0) = _ := hidx 0 a (by rw [hk]; rfl)
 obtain ⟨⟨a1, a2, a3⟩, ta, la⟩ := H.kid2 (j := 0) (x := a) (by rw [hk]; rfl)
 have w0 : indexAddrA ED 47 (wholeV [a.txt P.nms]) (.int .i64 0) = some (.rptr [.str (a.txt P.nms)]) := index_strs (l := [a.txt P.nms]) (tk := .dead) (j := 0) (by simp)
 generalize wholeV [a.txt P.nms] = WV at *
 obtain ⟨k1, k2, k3, k4, k5⟩ := strsV_cell hvs
 have hv : isVarB e.num = true := by simpa [lookB] using hl
 have vu := fun m S => var_use2 (l := LT10 D) (f := 52) rfl (n := m) (S := S) (inI_var hv)
 have lv := var_length hv
 have d0 := @dr291_1
 simp only [drA, drawsOf, Option.getD_some, List.nil_append, List.append_nil, List.getD_cons_zero, List.getD_cons_succ, List.cons_append, Tryz.f291] at d0
 have K := cats_ok [varT e.num, [32, 61, 62, 32], a.txt P.nms] [102, 110, 32] (by simp only [lensL, List.length_cons, List.length_nil]; omega)
 simp only [CatsOk] at K
 have htxt : e.txt P.nms = catS [102, 110, 32] [varT e.num, [32, 61, 62, 32], a.txt P.nms] := by rw [e.txt_kids, ho, hk]; rfl
 rw [htxt] at hp
 simp only [catS] at hp
 rw [callS_go rfl, ho]
 simp only [fnA, ED_fn291, fi291, Tryz.f291]
 clear H hidx hlen
 simp [vmS, q1, q2, q3, q4, hc1, hc2, hc3, wu, k2, k3, k4, bin_str, runC_nil, runC_cons, pickC_some, wantC_tt, wantC_tf, effC_val, ifC_true, checkC, inPairs, keepC, okC, readsC_load, readV_some, AV.beq_self, wantA_n, wantA_g, wantD_some, d0, i0, a1, a2, a3, w0, vu, K]
 exact hp _ _ rfl
theorem str291_13 {D : Nat} {P : Pr} {e : Ex} (H : TH D P e) (ho : e.op = 13) : Str291 D P e := by
 intro p hp
 obtain ⟨q1, q2, q3, q4, q5⟩ := lenV_len (P.lenV H.fit) (t := 22) (e := 63) rfl
 obtain ⟨hc1, hc2, hc3⟩ := e.cell
 have hidx := fun j (x : Ex) (h : e.kids[j]? = some x) => e.index' h
 obtain ⟨_, x, hx, hl, hlen, hm⟩ := H.ask
 rw [ho] at hx
 cases hx
 have wu := H.whole
 rw [ho] at wu
 obtain ⟨a, b, c, hk⟩ := three_of (l := e.kids) (by omega)
 rw [hk] at wu
 simp only [List.map_cons, List.map_nil] at wu
 have hvs := wholeV_strs [a.txt P.nms, b.txt P.nms, c.txt P.nms]
 have i0 : indexAddrA ED 57 e.lst (.int .i64 0) = _ := hidx 0 a (by rw [hk]; rfl)
 obtain ⟨⟨a1, a2, a3⟩, ta, la⟩ := H.kid2 (j := 0) (x := a) (by rw [hk]; rfl)
 have w0 : indexAddrA ED 47 (wholeV [a.txt P.nms, b.txt P.nms, c.txt P.nms]) (.int .i64 0) = some (.rptr [.str (a.txt P.nms)]) := index_strs (l := [a.txt P.nms, b.txt P.nms, c.txt P.nms]) (tk := .dead) (j := 0) (by simp)
 have i1 : indexAddrA ED 57 e.lst (.int .i64 1) = _ := hidx 1 b (by rw [hk]; rfl)
 obtain ⟨⟨b1, b2, b3⟩, tb, lb⟩ := H.kid2 (j := 1) (x := b) (by rw [hk]; rfl)
 have w1 : indexAddrA ED 47 (wholeV [a.txt P.nms, b.txt P.nms, c.txt P.nms]) (.int .i64 1) = some (.rptr [.str (b.txt P.nms)]) := index_strs (l := [a.txt P.nms, b.txt P.nms, c.txt P.nms]) (tk := .dead) (j := 1) (by simp)
 have i2 : indexAddrA ED 57 e.lst (.int .i64 2) = _ := hidx 2 c (by rw [hk]; rfl)
 obtain ⟨⟨c1, c2, c3⟩, tc, lc⟩ := H.kid2 (j := 2) (x := c) (by rw [hk]; rfl)
 have w2 : indexAddrA ED 47 (wholeV [a.txt P.nms, b.txt P.nms, c.txt P.nms]) (.int .i64 2) = some (.rptr [.str (c.txt P.nms)]) := index_strs (l := [a.txt P.nms, b.txt P.nms, c.txt P.nms]) (tk := .dead) (j := 2) (by simp)
 generalize wholeV [a.txt P.nms, b.txt P.nms, c.txt P.nms] = WV at *
 obtain ⟨k1, k2, k3, k4, k5⟩ := strsV_cell hvs
 have hv : isVarB e.num = true := by simpa [lookB] using hl
 have vu := fun m S => var_use2 (l := LT10 D) (f := 52) rfl (n := m) (S := S) (inI_var hv)
 have lv := var_length hv
 have hv2 : isVarB e.mun = true := by simpa using hm
 have vu2 := fun m S => var_use2 (l := LT10 D) (f := 52) rfl (n := m) (S := S) (inI_var hv2)
 have lv2 := var_length hv2
 have d0 := @dr291_3
 simp only [drA, drawsOf, Option.getD_some, List.nil_append, List.append_nil, List.getD_cons_zero, List.getD_cons_succ, List.cons_append, Tryz.f291] at d0
 have K := cats_ok [a.txt P.nms, [32, 111, 102, 32, 108, 101, 102, 116, 32], varT e.num, [32, 61, 62, 32], b.txt P.nms, [32, 111, 114, 32, 114, 105, 103, 104, 116, 32], varT e.mun, [32, 61, 62, 32], c.txt P.nms] [99, 97, 115, 101, 32] (by simp only [lensL, List.length_cons, List.length_nil]; omega)
 simp only [CatsOk] at K
 have htxt : e.txt P.nms = catS [99, 97, 115, 101, 32] [a.txt P.nms, [32, 111, 102, 32, 108, 101, 102, 116, 32], varT e.num, [32, 61, 62, 32], b.txt P.nms, [32, 111, 114, 32, 114, 105, 103, 104, 116, 32], varT e.mun, [32, 61, 62, 32], c.txt P.nms] := by rw [e.txt_kids, ho, hk]; rfl
 rw [htxt] at hp
 simp only [catS] at hp
 rw [callS_go rfl, ho]
 simp only [fnA, ED_fn291, fi291, Tryz.f291]
 clear H hidx hlen
 simp [vmS, q1, q2, q3, q4, hc1, hc2, hc3, wu, k2, k3, k4, bin_str, runC_nil, runC_cons, pickC_some, wantC_tt, wantC_tf, effC_val, ifC_true, checkC, inPairs, keepC, okC, readsC_load, readV_some, AV.beq_self, wantA_n, wantA_g, wantD_some, d0, i0, a1, a2, a3, w0, i1, b1, b2, b3, w1, i2, c1, c2, c3, w2, vu, vu2, K]
 exact hp _ _ rfl
theorem str291_14 {D : Nat} {P : Pr} {e : Ex} (H : TH D P e) (ho : e.op = 14) : Str291 D P e := by
 intro p hp
 obtain ⟨q1, q2, q3, q4, q5⟩ := lenV_len (P.lenV H.fit) (t := 22) (e := 63) rfl
 obtain ⟨hc1, hc2, hc3⟩ := e.cell
 have hidx := fun j (x : Ex) (h : e.kids[j]? = some x) => e.index' h
 obtain ⟨_, x, hx, hl, hlen, hm⟩ := H.ask
 rw [ho] at hx
 cases hx
 have wu := H.whole
 rw [ho] at wu
 obtain ⟨a, b, c, hk⟩ := three_of (l := e.kids) (by omega)
 rw [hk] at wu
 simp only [List.map_cons, List.map_nil] at wu
 have hvs := wholeV_strs [a.txt P.nms, b.txt P.nms, c.txt P.nms]
 have i0 : indexAddrA ED 57 e.lst (.int .i64 0) = _ := hidx 0 a (by rw [hk]; rfl)
 obtain ⟨⟨a1, a2, a3⟩, ta, la⟩ := H.kid2 (j := 0) (x := a) (by rw [hk]; rfl)
 have w0 : indexAddrA ED 47 (wholeV [a.txt P.nms, b.txt P.nms, c.txt P.nms]) (.int .i64 0) = some (.rptr [.str (a.txt P.nms)]) := index_strs (l := [a.txt P.nms, b.txt P.nms, c.txt P.nms]) (tk := .dead) (j := 0) (by simp)
 have i1 : indexAddrA ED 57 e.lst (.int .i64 1) = _ := hidx 1 b (by rw [hk]; rfl)
 obtain ⟨⟨b1, b2, b3⟩, tb, lb⟩ := H.kid2 (j := 1) (x := b) (by rw [hk]; rfl)
 have w1 : indexAddrA ED 47 (wholeV [a.txt P.nms, b.txt P.nms, c.txt P.nms]) (.int .i64 1) = some (.rptr [.str (b.txt P.nms)]) := index_strs (l := [a.txt P.nms, b.txt P.nms, c.txt P.nms]) (tk := .dead) (j := 1) (by simp)
 have i2 : indexAddrA ED 57 e.lst (.int .i64 2) = _ := hidx 2 c (by rw [hk]; rfl)
 obtain ⟨⟨c1, c2, c3⟩, tc, lc⟩ := H.kid2 (j := 2) (x := c) (by rw [hk]; rfl)
 have w2 : indexAddrA ED 47 (wholeV [a.txt P.nms, b.txt P.nms, c.txt P.nms]) (.int .i64 2) = some (.rptr [.str (c.txt P.nms)]) := index_strs (l := [a.txt P.nms, b.txt P.nms, c.txt P.nms]) (tk := .dead) (j := 2) (by simp)
 generalize wholeV [a.txt P.nms, b.txt P.nms, c.txt P.nms] = WV at *
 obtain ⟨k1, k2, k3, k4, k5⟩ := strsV_cell hvs
 have d0 := @dr291_4
 simp only [drA, drawsOf, Option.getD_some, List.nil_append, List.append_nil, List.getD_cons_zero, List.getD_cons_succ, List.cons_append, Tryz.f291] at d0
 have K := cats_ok [a.txt P.nms, [32, 116, 104, 101, 110, 32], b.txt P.nms, [32, 101, 108, 115, 101, 32], c.txt P.nms] [105, 102, 32] (by simp only [lensL, List.length_cons, List.length_nil]; omega)
 simp only [CatsOk] at K
 have htxt : e.txt P.nms = catS [105, 102, 32] [a.txt P.nms, [32, 116, 104, 101, 110, 32], b.txt P.nms, [32, 101, 108, 115, 101, 32], c.txt P.nms] := by rw [e.txt_kids, ho, hk]; rfl
 rw [htxt] at hp
 simp only [catS] at hp
 rw [callS_go rfl, ho]
 simp only [fnA, ED_fn291, fi291, Tryz.f291]
 clear H hidx hlen
 simp [vmS, q1, q2, q3, q4, hc1, hc2, hc3, wu, k2, k3, k4, bin_str, runC_nil, runC_cons, pickC_some, wantC_tt, wantC_tf, effC_val, ifC_true, checkC, inPairs, keepC, okC, readsC_load, readV_some, AV.beq_self, wantA_n, wantA_g, wantD_some, d0, i0, a1, a2, a3, w0, i1, b1, b2, b3, w1, i2, c1, c2, c3, w2, K]
 exact hp _ _ rfl
theorem str291_17 {D : Nat} {P : Pr} {e : Ex} (H : TH D P e) (ho : e.op = 17) : Str291 D P e := by
 intro p hp
 obtain ⟨q1, q2, q3, q4, q5⟩ := lenV_len (P.lenV H.fit) (t := 22) (e := 63) rfl
 obtain ⟨hc1, hc2, hc3⟩ := e.cell
 have hidx := fun j (x : Ex) (h : e.kids[j]? = some x) => e.index' h
 obtain ⟨_, x, hx, hl, hlen, hm⟩ := H.ask
 rw [ho] at hx
 cases hx
 have wu := H.whole
 rw [ho] at wu
 obtain ⟨a, b, hk⟩ := two_of (l := e.kids) (by omega)
 rw [hk] at wu
 simp only [List.map_cons, List.map_nil] at wu
 have hvs := wholeV_strs [a.txt P.nms, b.txt P.nms]
 have i0 : indexAddrA ED 57 e.lst (.int .i64 0) = _ := hidx 0 a (by rw [hk]; rfl)
 obtain ⟨⟨a1, a2, a3⟩, ta, la⟩ := H.kid2 (j := 0) (x := a) (by rw [hk]; rfl)
 have w0 : indexAddrA ED 47 (wholeV [a.txt P.nms, b.txt P.nms]) (.int .i64 0) = some (.rptr [.str (a.txt P.nms)]) := index_strs (l := [a.txt P.nms, b.txt P.nms]) (tk := .dead) (j := 0) (by simp)
 have i1 : indexAddrA ED 57 e.lst (.int .i64 1) = _ := hidx 1 b (by rw [hk]; rfl)
 obtain ⟨⟨b1, b2, b3⟩, tb, lb⟩ := H.kid2 (j := 1) (x := b) (by rw [hk]; rfl)
 have w1 : indexAddrA ED 47 (wholeV [a.txt P.nms, b.txt P.nms]) (.int .i64 1) = some (.rptr [.str (b.txt P.nms)]) := index_strs (l := [a.txt P.nms, b.txt P.nms]) (tk := .dead) (j := 1) (by simp)
 generalize wholeV [a.txt P.nms, b.txt P.nms] = WV at *
 obtain ⟨k1, k2, k3, k4, k5⟩ := strsV_cell hvs
 have hv : isVarB e.num = true := by simpa [lookB] using hl
 have vu := fun m S => var_use2 (l := LT10 D) (f := 52) rfl (n := m) (S := S) (inI_var hv)
 have lv := var_length hv
 have d0 := @dr291_5
 simp only [drA, drawsOf, Option.getD_some, List.nil_append, List.append_nil, List.getD_cons_zero, List.getD_cons_succ, List.cons_append, Tryz.f291] at d0
 have K := cats_ok [b.txt P.nms, [32, 102, 111, 114, 32], varT e.num, [32, 105, 110, 32], a.txt P.nms, [93]] [91] (by simp only [lensL, List.length_cons, List.length_nil]; omega)
 simp only [CatsOk] at K
 have htxt : e.txt P.nms = catS [91] [b.txt P.nms, [32, 102, 111, 114, 32], varT e.num, [32, 105, 110, 32], a.txt P.nms, [93]] := by rw [e.txt_kids, ho, hk]; rfl
 rw [htxt] at hp
 simp only [catS] at hp
 rw [callS_go rfl, ho]
 simp only [fnA, ED_fn291, fi291, Tryz.f291]
 clear H hidx hlen
 simp [vmS, q1, q2, q3, q4, hc1, hc2, hc3, wu, k2, k3, k4, bin_str, runC_nil, runC_cons, pickC_some, wantC_tt, wantC_tf, effC_val, ifC_true, checkC, inPairs, keepC, okC, readsC_load, readV_some, AV.beq_self, wantA_n, wantA_g, wantD_some, d0, i0, a1, a2, a3, w0, i1, b1, b2, b3, w1, vu, K]
 exact hp _ _ rfl
theorem str291_18 {D : Nat} {P : Pr} {e : Ex} (H : TH D P e) (ho : e.op = 18) : Str291 D P e := by
 intro p hp
 obtain ⟨q1, q2, q3, q4, q5⟩ := lenV_len (P.lenV H.fit) (t := 22) (e := 63) rfl
 obtain ⟨hc1, hc2, hc3⟩ := e.cell
 have hidx := fun j (x : Ex) (h : e.kids[j]? = some x) => e.index' h
 obtain ⟨_, x, hx, hl, hlen, hm⟩ := H.ask
 rw [ho] at hx
 cases hx
 have wu := H.whole
 rw [ho] at wu
 obtain ⟨a, b, hk⟩ := two_of (l := e.kids) (by omega)
 rw [hk] at wu
 simp only [List.map_cons, List.map_nil] at wu
 have hvs := wholeV_strs [a.txt P.nms, b.txt P.nms]
 have i0 : indexAddrA ED 57 e.lst (.int .i64 0) = _ := hidx 0 a (by rw [hk]; rfl)
 obtain ⟨⟨a1, a2, a3⟩, ta, la⟩ := H.kid2 (j := 0) (x := a) (by rw [hk]; rfl)
 have w0 : indexAddrA ED 47 (wholeV [a.txt P.nms, b.txt P.nms]) (.int .i64 0) = some (.rptr [.str (a.txt P.nms)]) := index_strs (l := [a.txt P.nms, b.txt P.nms]) (tk := .dead) (j := 0) (by simp)
 have i1 : indexAddrA ED 57 e.lst (.int .i64 1) = _ := hidx 1 b (by rw [hk]; rfl)
 obtain ⟨⟨b1, b2, b3⟩, tb, lb⟩ := H.kid2 (j := 1) (x := b) (by rw [hk]; rfl)
 have w1 : indexAddrA ED 47 (wholeV [a.txt P.nms, b.txt P.nms]) (.int .i64 1) = some (.rptr [.str (b.txt P.nms)]) := index_strs (l := [a.txt P.nms, b.txt P.nms]) (tk := .dead) (j := 1) (by simp)
 generalize wholeV [a.txt P.nms, b.txt P.nms] = WV at *
 obtain ⟨k1, k2, k3, k4, k5⟩ := strsV_cell hvs
 have hv : isVarB e.num = true := by simpa [lookB] using hl
 have vu := fun m S => var_use2 (l := LT10 D) (f := 52) rfl (n := m) (S := S) (inI_var hv)
 have lv := var_length hv
 have d0 := @dr291_6
 simp only [drA, drawsOf, Option.getD_some, List.nil_append, List.append_nil, List.getD_cons_zero, List.getD_cons_succ, List.cons_append, Tryz.f291] at d0
 have K := cats_ok [varT e.num, [32, 105, 110, 32], a.txt P.nms, [32, 105, 102, 32], b.txt P.nms, [93]] [91] (by simp only [lensL, List.length_cons, List.length_nil]; omega)
 simp only [CatsOk] at K
 have htxt : e.txt P.nms = catS [91] [varT e.num, [32, 105, 110, 32], a.txt P.nms, [32, 105, 102, 32], b.txt P.nms, [93]] := by rw [e.txt_kids, ho, hk]; rfl
 rw [htxt] at hp
 simp only [catS] at hp
 rw [callS_go rfl, ho]
 simp only [fnA, ED_fn291, fi291, Tryz.f291]
 clear H hidx hlen
 simp [vmS, q1, q2, q3, q4, hc1, hc2, hc3, wu, k2, k3, k4, bin_str, runC_nil, runC_cons, pickC_some, wantC_tt, wantC_tf, effC_val, ifC_true, checkC, inPairs, keepC, okC, readsC_load, readV_some, AV.beq_self, wantA_n, wantA_g, wantD_some, d0, i0, a1, a2, a3, w0, i1, b1, b2, b3, w1, vu, K]
 exact hp _ _ rfl
theorem str291_6 {D : Nat} {P : Pr} {e : Ex} (H : TH D P e) (ho : e.op = 6) : Str291 D P e := by
 intro p hp
 obtain ⟨q1, q2, q3, q4, q5⟩ := lenV_len (P.lenV H.fit) (t := 22) (e := 63) rfl
 obtain ⟨hc1, hc2, hc3⟩ := e.cell
 have hidx := fun j (x : Ex) (h : e.kids[j]? = some x) => e.index' h
 obtain ⟨_, x, hx, hl, hlen, hm⟩ := H.ask
 rw [ho] at hx
 cases hx
 have wu := H.whole
 rw [ho] at wu
 have hvs := wholeV_strs (e.kids.map fun x => x.txt P.nms)
 have h8 := ask_len H.ask
 have lc := H.comma2
 generalize wholeV (e.kids.map fun x => x.txt P.nms) = WV at *
 obtain ⟨k1, k2, k3, k4, k5⟩ := strsV_cell hvs
 have hj : isFunB P.funs.length e.num = true := by simpa [lookB] using hl
 obtain ⟨f, hf, fa, fl⟩ := fun_at H.fit H.short hj
 have hk : e.kids = [] := List.length_eq_zero_iff.1 (by omega)
 have htxt : e.txt P.nms = f.name := by rw [e.txt_kids, ho, hk]; show (P.nms[e.num.toNat]?).getD [] = _; exact hf
 rw [htxt] at hp
 rw [callS_go rfl, ho]
 simp only [fnA, ED_fn291, fi291, Tryz.f291]
 clear H hidx hlen
 simp [vmS, q1, q2, q3, q4, hc1, hc2, hc3, wu, k2, k3, k4, bin_str, fa, Fu.vals]
 exact hp _ _ rfl
theorem str291_7 {D : Nat} {P : Pr} {e : Ex} (H : TH D P e) (ho : e.op = 7) : Str291 D P e := by
 intro p hp
 obtain ⟨q1, q2, q3, q4, q5⟩ := lenV_len (P.lenV H.fit) (t := 22) (e := 63) rfl
 obtain ⟨hc1, hc2, hc3⟩ := e.cell
 have hidx := fun j (x : Ex) (h : e.kids[j]? = some x) => e.index' h
 obtain ⟨_, x, hx, hl, hlen, hm⟩ := H.ask
 rw [ho] at hx
 cases hx
 have wu := H.whole
 rw [ho] at wu
 obtain ⟨a, hk⟩ := one_of (l := e.kids) (by omega)
 rw [hk] at wu
 simp only [List.map_cons, List.map_nil] at wu
 have hvs := wholeV_strs [a.txt P.nms]
 have i0 : indexAddrA ED 57 e.lst (.int .i64 0) = _ := hidx 0 a (by rw [hk]; rfl)
 obtain ⟨⟨a1, a2, a3⟩, ta, la⟩ := H.kid2 (j := 0) (x := a) (by rw [hk]; rfl)
 have w0 : indexAddrA ED 47 (wholeV [a.txt P.nms]) (.int .i64 0) = some (.rptr [.str (a.txt P.nms)]) := index_strs (l := [a.txt P.nms]) (tk := .dead) (j := 0) (by simp)
 generalize wholeV [a.txt P.nms] = WV at *
 obtain ⟨k1, k2, k3, k4, k5⟩ := strsV_cell hvs
 have hj : isFunB P.funs.length e.num = true := by simpa [lookB] using hl
 obtain ⟨f, hf, fa, fl⟩ := fun_at H.fit H.short hj
 have d0 := @dr291_2
 simp only [drA, drawsOf, Option.getD_some, List.nil_append, List.append_nil, List.getD_cons_zero, List.getD_cons_succ, List.cons_append, Tryz.f291] at d0
 have cu := fun tk m S => called_use (l := LT10 D) rfl (n := m) (nm := f.name) (v := .slice ([a.txt P.nms].map .str) tk) (S := S) (lit_dead [a.txt P.nms] tk) (by omega) (by simp) (by rw [Lib.join_one]; omega)
 simp only [List.map_cons, List.map_nil] at cu
 have htxt : e.txt P.nms = callT2 f.name [a.txt P.nms] := by rw [e.txt_kids, ho, hk]; show catS ((P.nms[e.num.toNat]?).getD []) _ = _; rw [hf]; unfold callT2; rw [Lib.join_one]; rfl
 rw [htxt] at hp
 rw [callS_go rfl, ho]
 simp only [fnA, ED_fn291, fi291, Tryz.f291]
 clear H hidx hlen
 simp [vmS, q1, q2, q3, q4, hc1, hc2, hc3, wu, k2, k3, k4, bin_str, runC_nil, runC_cons, pickC_some, wantC_tt, wantC_tf, effC_val, ifC_true, checkC, inPairs, keepC, okC, readsC_load, readV_some, AV.beq_self, wantA_n, wantA_g, wantD_some, d0, i0, a1, a2, a3, w0, fa, Fu.vals, cu]
 exact hp _ _ rfl
theorem str291_8 {D : Nat} {P : Pr} {e : Ex} (H : TH D P e) (ho : e.op = 8) : Str291 D P e := by
 intro p hp
 obtain ⟨q1, q2, q3, q4, q5⟩ := lenV_len (P.lenV H.fit) (t := 22) (e := 63) rfl
 obtain ⟨hc1, hc2, hc3⟩ := e.cell
 have hidx := fun j (x : Ex) (h : e.kids[j]? = some x) => e.index' h
 obtain ⟨_, x, hx, hl, hlen, hm⟩ := H.ask
 rw [ho] at hx
 cases hx
 have wu := H.whole
 rw [ho] at wu
 have hvs := wholeV_strs (e.kids.map fun x => x.txt P.nms)
 have h8 := ask_len H.ask
 have lc := H.comma2
 generalize wholeV (e.kids.map fun x => x.txt P.nms) = WV at *
 obtain ⟨k1, k2, k3, k4, k5⟩ := strsV_cell hvs
 have cu := fun m S => called_use (l := LT10 D) rfl (n := m) (nm := []) (v := WV) (S := S) (by rw [k5]; exact hvs) (by simp) (by rw [List.length_map]; omega) (by omega)
 have htxt : e.txt P.nms = callT2 [] (e.kids.map fun x => x.txt P.nms) := by rw [e.txt_kids, ho, Ex.txts_map]; show catS [40] [commaT (e.kids.map (kidOf P.nms)), [41]] = _; unfold callT2; rw [comma_txts]; rfl
 rw [htxt] at hp
 rw [callS_go rfl, ho]
 simp only [fnA, ED_fn291, fi291, Tryz.f291]
 clear H hidx hlen
 simp [vmS, q1, q2, q3, q4, hc1, hc2, hc3, wu, k2, k3, k4, bin_str, cu]
 exact hp _ _ rfl
theorem str291_15 {D : Nat} {P : Pr} {e : Ex} (H : TH D P e) (ho : e.op = 15) (hl0 : opLev e.num = 0) : Str291 D P e := by
 intro p hp
 obtain ⟨q1, q2, q3, q4, q5⟩ := lenV_len (P.lenV H.fit) (t := 22) (e := 63) rfl
 obtain ⟨hc1, hc2, hc3⟩ := e.cell
 have hidx := fun j (x : Ex) (h : e.kids[j]? = some x) => e.index' h
 obtain ⟨_, x, hx, hl, hlen, hm⟩ := H.ask
 rw [ho] at hx
 cases hx
 have wu := H.whole
 rw [ho] at wu
 have hvs := wholeV_strs (e.kids.map fun x => x.txt P.nms)
 have h8 := ask_len H.ask
 have lc := H.comma2
 generalize wholeV (e.kids.map fun x => x.txt P.nms) = WV at *
 obtain ⟨k1, k2, k3, k4, k5⟩ := strsV_cell hvs
 obtain ⟨GW, gg, gw⟩ := glob_words
 obtain ⟨gr, gs⟩ := gw e.num (op15 H.ask ho)
 have ls := sign_length e.num
 have cu := fun m S => called_use (l := LT10 D) rfl (n := m) (nm := signT e.num) (v := WV) (S := S) (by rw [k5]; exact hvs) (by omega) (by rw [List.length_map]; omega) (by omega)
 have hcT : callT e.op e.num = signT e.num := by rw [ho]; unfold callT; rw [if_pos rfl, if_pos hl0]
 have hne : callT e.op e.num ≠ [] := by rw [hcT]; exact sign_ne (op15 H.ask ho)
 have htxt : e.txt P.nms = callT2 (signT e.num) (e.kids.map fun x => x.txt P.nms) := by rw [e.txt_kids, Ex.txts_map]; unfold nodeT; rw [if_pos hne, hcT]; unfold callT2; rw [comma_txts]
 rw [htxt] at hp
 rw [callS_go rfl, ho]
 simp only [fnA, ED_fn291, fi291, Tryz.f291]
 clear H hidx hlen
 simp [vmS, q1, q2, q3, q4, hc1, hc2, hc3, wu, k2, k3, k4, bin_str, cu, gg, gs]
 exact hp _ _ rfl
theorem str291_16 {D : Nat} {P : Pr} {e : Ex} (H : TH D P e) (ho : e.op = 16) : Str291 D P e := by
 intro p hp
 obtain ⟨q1, q2, q3, q4, q5⟩ := lenV_len (P.lenV H.fit) (t := 22) (e := 63) rfl
 obtain ⟨hc1, hc2, hc3⟩ := e.cell
 have hidx := fun j (x : Ex) (h : e.kids[j]? = some x) => e.index' h
 obtain ⟨_, x, hx, hl, hlen, hm⟩ := H.ask
 rw [ho] at hx
 cases hx
 have wu := H.whole
 rw [ho] at wu
 have hvs := wholeV_strs (e.kids.map fun x => x.txt P.nms)
 have h8 := ask_len H.ask
 have lc := H.comma2
 generalize wholeV (e.kids.map fun x => x.txt P.nms) = WV at *
 obtain ⟨k1, k2, k3, k4, k5⟩ := strsV_cell hvs
 have ju := fun S => join_use (l := LT10 D) rfl (n := 2) (S := S) hvs (by rw [List.length_map]; omega) (by omega)
 have htxt : e.txt P.nms = catS [91] [Lib.join (e.kids.map fun x => x.txt P.nms) [44, 32], [93]] := by rw [e.txt_kids, ho, Ex.txts_map, comma_txts]; rfl
 rw [htxt] at hp
 have K := cats_ok [Lib.join (e.kids.map fun x => x.txt P.nms) [44, 32], [93]] [91] (by simp only [lensL, List.length_cons, List.length_nil]; omega)
 simp only [CatsOk] at K
 simp only [catS] at hp
 generalize Lib.join (e.kids.map fun x => x.txt P.nms) [44, 32] = J at *
 rw [callS_go rfl, ho]
 simp only [fnA, ED_fn291, fi291, Tryz.f291]
 clear H hidx hlen
 simp [vmS, q1, q2, q3, q4, hc1, hc2, hc3, wu, k2, k3, k4, bin_str, ju, K]
 exact hp _ _ rfl
theorem str291_22 {D : Nat} {P : Pr} {e : Ex} (H : TH D P e) (ho : e.op = 22) : Str291 D P e := by
 intro p hp
 obtain ⟨q1, q2, q3, q4, q5⟩ := lenV_len (P.lenV H.fit) (t := 22) (e := 63) rfl
 obtain ⟨hc1, hc2, hc3⟩ := e.cell
 have hidx := fun j (x : Ex) (h : e.kids[j]? = some x) => e.index' h
 obtain ⟨_, x, hx, hl, hlen, hm⟩ := H.ask
 rw [ho] at hx
 cases hx
 have wu := H.whole
 rw [ho] at wu
 obtain ⟨a, hk⟩ := one_of (l := e.kids) (by omega)
 rw [hk] at wu
 simp only [List.map_cons, List.map_nil] at wu
 have hvs := wholeV_strs [a.txt P.nms]
 have i0 : indexAddrA ED 57 e.lst (.int .i64 0) = _ := hidx 0 a (by rw [hk]; rfl)
 obtain ⟨⟨a1, a2, a3⟩, ta, la⟩ := H.kid2 (j := 0) (x := a) (by rw [hk]; rfl)
 have w0 : indexAddrA ED 47 (wholeV [a.txt P.nms]) (.int .i64 0) = some (.rptr [.str (a.txt P.nms)]) := index_strs (l := [a.txt P.nms]) (tk := .dead) (j := 0) (by simp)
 generalize wholeV [a.txt P.nms] = WV at *
 obtain ⟨k1, k2, k3, k4, k5⟩ := strsV_cell hvs
 have hj : joinB e.num = true := by simpa [lookB] using hl
 obtain ⟨GW, gg, gw⟩ := glob_words
 obtain ⟨gr, gs⟩ := gw e.num (op_of_join hj)
 have ls := sign_length e.num
 have d0 := @dr291_8
 simp only [drA, drawsOf, Option.getD_some, List.nil_append, List.append_nil, List.getD_cons_zero, List.getD_cons_succ, List.cons_append, Tryz.f291] at d0
 have cu := fun tk m S => called_use (l := LT10 D) rfl (n := m) (nm := [102, 111, 108, 100]) (v := .slice ([signT e.num, a.txt P.nms].map .str) tk) (S := S) (lit_dead [signT e.num, a.txt P.nms] tk) (by simp) (by simp) (by rw [Lib.join_cons]; simp [Lib.joinTail]; omega)
 simp only [List.map_cons, List.map_nil] at cu
 have htxt : e.txt P.nms = callT2 [102, 111, 108, 100] [signT e.num, a.txt P.nms] := by rw [e.txt_kids, ho, hk]; show catS [102, 111, 108, 100] [[40], signT e.num, [44, 32], a.txt P.nms, [41]] = _; unfold callT2; rw [Lib.join_cons]; simp [Lib.joinTail, catS, cat]
 rw [htxt] at hp
 rw [callS_go rfl, ho]
 simp only [fnA, ED_fn291, fi291, Tryz.f291]
 clear H hidx hlen
 simp [vmS, q1, q2, q3, q4, hc1, hc2, hc3, wu, k2, k3, k4, bin_str, runC_nil, runC_cons, pickC_some, wantC_tt, wantC_tf, effC_val, ifC_true, checkC, inPairs, keepC, okC, readsC_load, readV_some, AV.beq_self, wantA_n, wantA_g, wantD_some, d0, i0, a1, a2, a3, w0, gg, gs, cu]
 exact hp _ _ rfl
theorem str291_23 {D : Nat} {P : Pr} {e : Ex} (H : TH D P e) (ho : e.op = 23) : Str291 D P e := by
 intro p hp
 obtain ⟨q1, q2, q3, q4, q5⟩ := lenV_len (P.lenV H.fit) (t := 22) (e := 63) rfl
 obtain ⟨hc1, hc2, hc3⟩ := e.cell
 have hidx := fun j (x : Ex) (h : e.kids[j]? = some x) => e.index' h
 obtain ⟨_, x, hx, hl, hlen, hm⟩ := H.ask
 rw [ho] at hx
 cases hx
 have wu := H.whole
 rw [ho] at wu
 obtain ⟨a, hk⟩ := one_of (l := e.kids) (by omega)
 rw [hk] at wu
 simp only [List.map_cons, List.map_nil] at wu
 have hvs := wholeV_strs [a.txt P.nms]
 have i0 : indexAddrA ED 57 e.lst (.int .i64 0) = _ := hidx 0 a (by rw [hk]; rfl)
 obtain ⟨⟨a1, a2, a3⟩, ta, la⟩ := H.kid2 (j := 0) (x := a) (by rw [hk]; rfl)
 have w0 : indexAddrA ED 47 (wholeV [a.txt P.nms]) (.int .i64 0) = some (.rptr [.str (a.txt P.nms)]) := index_strs (l := [a.txt P.nms]) (tk := .dead) (j := 0) (by simp)
 generalize wholeV [a.txt P.nms] = WV at *
 obtain ⟨k1, k2, k3, k4, k5⟩ := strsV_cell hvs
 have hj : joinB e.num = true := by simpa [lookB] using hl
 obtain ⟨GW, gg, gw⟩ := glob_words
 obtain ⟨gr, gs⟩ := gw e.num (op_of_join hj)
 have ls := sign_length e.num
 have d0 := @dr291_9
 simp only [drA, drawsOf, Option.getD_some, List.nil_append, List.append_nil, List.getD_cons_zero, List.getD_cons_succ, List.cons_append, Tryz.f291] at d0
 have cu := fun tk m S => called_use (l := LT10 D) rfl (n := m) (nm := [115, 99, 97, 110]) (v := .slice ([signT e.num, a.txt P.nms].map .str) tk) (S := S) (lit_dead [signT e.num, a.txt P.nms] tk) (by simp) (by simp) (by rw [Lib.join_cons]; simp [Lib.joinTail]; omega)
 simp only [List.map_cons, List.map_nil] at cu
 have htxt : e.txt P.nms = callT2 [115, 99, 97, 110] [signT e.num, a.txt P.nms] := by rw [e.txt_kids, ho, hk]; show catS [115, 99, 97, 110] [[40], signT e.num, [44, 32], a.txt P.nms, [41]] = _; unfold callT2; rw [Lib.join_cons]; simp [Lib.joinTail, catS, cat]
 rw [htxt] at hp
 rw [callS_go rfl, ho]
 simp only [fnA, ED_fn291, fi291, Tryz.f291]
 clear H hidx hlen
 simp [vmS, q1, q2, q3, q4, hc1, hc2, hc3, wu, k2, k3, k4, bin_str, runC_nil, runC_cons, pickC_some, wantC_tt, wantC_tf, effC_val, ifC_true, checkC, inPairs, keepC, okC, readsC_load, readV_some, AV.beq_self, wantA_n, wantA_g, wantD_some, d0, i0, a1, a2, a3, w0, gg, gs, cu]
 exact hp _ _ rfl
theorem str291_21 {D : Nat} {P : Pr} {e : Ex} (H : TH D P e) (ho : e.op = 21) : Str291 D P e := by
 intro p hp
 obtain ⟨q1, q2, q3, q4, q5⟩ := lenV_len (P.lenV H.fit) (t := 22) (e := 63) rfl
 obtain ⟨hc1, hc2, hc3⟩ := e.cell
 have hidx := fun j (x : Ex) (h : e.kids[j]? = some x) => e.index' h
 obtain ⟨_, x, hx, hl, hlen, hm⟩ := H.ask
 rw [ho] at hx
 cases hx
 have wu := H.whole
 rw [ho] at wu
 obtain ⟨a, b, hk⟩ := two_of (l := e.kids) (by omega)
 rw [hk] at wu
 simp only [List.map_cons, List.map_nil] at wu
 have hvs := wholeV_strs [a.txt P.nms, b.txt P.nms]
 have i0 : indexAddrA ED 57 e.lst (.int .i64 0) = _ := hidx 0 a (by rw [hk]; rfl)
 obtain ⟨⟨a1, a2, a3⟩, ta, la⟩ := H.kid2 (j := 0) (x := a) (by rw [hk]; rfl)
 have w0 : indexAddrA ED 47 (wholeV [a.txt P.nms, b.txt P.nms]) (.int .i64 0) = some (.rptr [.str (a.txt P.nms)]) := index_strs (l := [a.txt P.nms, b.txt P.nms]) (tk := .dead) (j := 0) (by simp)
 have i1 : indexAddrA ED 57 e.lst (.int .i64 1) = _ := hidx 1 b (by rw [hk]; rfl)
 obtain ⟨⟨b1, b2, b3⟩, tb, lb⟩ := H.kid2 (j := 1) (x := b) (by rw [hk]; rfl)
 have w1 : indexAddrA ED 47 (wholeV [a.txt P.nms, b.txt P.nms]) (.int .i64 1) = some (.rptr [.str (b.txt P.nms)]) := index_strs (l := [a.txt P.nms, b.txt P.nms]) (tk := .dead) (j := 1) (by simp)
 generalize wholeV [a.txt P.nms, b.txt P.nms] = WV at *
 obtain ⟨k1, k2, k3, k4, k5⟩ := strsV_cell hvs
 have d0 := @dr291_7
 simp only [drA, drawsOf, Option.getD_some, List.nil_append, List.append_nil, List.getD_cons_zero, List.getD_cons_succ, List.cons_append, Tryz.f291] at d0
 have la2 := at_length (kidOf P.nms a) 6
 have lae : (kidOf P.nms a).t.length ≤ 10000000 := la
 have K := cats_ok [[91], b.txt P.nms, [93]] ((kidOf P.nms a).at 6) (by simp only [lensL, List.length_cons, List.length_nil]; omega)
 simp only [CatsOk] at K
 have htxt : e.txt P.nms = catS ((kidOf P.nms a).at 6) [[91], b.txt P.nms, [93]] := by rw [e.txt_kids, ho, hk]; rfl
 rw [htxt] at hp
 simp only [catS] at hp
 rw [ho] at ta
 simp only [Int.natCast_zero] at ta
 generalize (kidOf P.nms a).at 6 = X at *
 rw [callS_go rfl, ho]
 simp only [fnA, ED_fn291, fi291, Tryz.f291]
 clear H hidx hlen la2 lae
 simp [vmS, q1, q2, q3, q4, hc1, hc2, hc3, wu, k2, k3, k4, bin_str, runC_nil, runC_cons, pickC_some, wantC_tt, wantC_tf, effC_val, ifC_true, checkC, inPairs, keepC, okC, readsC_load, readV_some, AV.beq_self, wantA_n, wantA_g, wantD_some, d0, i0, a1, a2, a3, w0, i1, b1, b2, b3, w1, ta, K]
 exact hp _ _ rfl
theorem str291_5 {D : Nat} {P : Pr} {e : Ex} (H : TH D P e) (ho : e.op = 5) : Str291 D P e := by
 intro p hp
 obtain ⟨q1, q2, q3, q4, q5⟩ := lenV_len (P.lenV H.fit) (t := 22) (e := 63) rfl
 obtain ⟨hc1, hc2, hc3⟩ := e.cell
 have hidx := fun j (x : Ex) (h : e.kids[j]? = some x) => e.index' h
 obtain ⟨_, x, hx, hl, hlen, hm⟩ := H.ask
 rw [ho] at hx
 cases hx
 have wu := H.whole
 rw [ho] at wu
 obtain ⟨a, b, hk⟩ := two_of (l := e.kids) (by omega)
 rw [hk] at wu
 simp only [List.map_cons, List.map_nil] at wu
 have hvs := wholeV_strs [a.txt P.nms, b.txt P.nms]
 have i0 : indexAddrA ED 57 e.lst (.int .i64 0) = _ := hidx 0 a (by rw [hk]; rfl)
 obtain ⟨⟨a1, a2, a3⟩, ta, la⟩ := H.kid2 (j := 0) (x := a) (by rw [hk]; rfl)
 have w0 : indexAddrA ED 47 (wholeV [a.txt P.nms, b.txt P.nms]) (.int .i64 0) = some (.rptr [.str (a.txt P.nms)]) := index_strs (l := [a.txt P.nms, b.txt P.nms]) (tk := .dead) (j := 0) (by simp)
 have i1 : indexAddrA ED 57 e.lst (.int .i64 1) = _ := hidx 1 b (by rw [hk]; rfl)
 obtain ⟨⟨b1, b2, b3⟩, tb, lb⟩ := H.kid2 (j := 1) (x := b) (by rw [hk]; rfl)
 have w1 : indexAddrA ED 47 (wholeV [a.txt P.nms, b.txt P.nms]) (.int .i64 1) = some (.rptr [.str (b.txt P.nms)]) := index_strs (l := [a.txt P.nms, b.txt P.nms]) (tk := .dead) (j := 1) (by simp)
 generalize wholeV [a.txt P.nms, b.txt P.nms] = WV at *
 obtain ⟨k1, k2, k3, k4, k5⟩ := strsV_cell hvs
 have la2 := at_length (kidOf P.nms a) 6
 have lae : (kidOf P.nms a).t.length ≤ 10000000 := la
 have htxt : e.txt P.nms = catS (if a.op = 6 then catS [40] [(kidOf P.nms a).at 6, [41]] else (kidOf P.nms a).at 6) [[40], b.txt P.nms, [41]] := by rw [e.txt_kids, ho, hk]; rfl
 rw [htxt] at hp
 have K1 := cats_ok [(kidOf P.nms a).at 6, [41]] [40] (by simp only [lensL, List.length_cons, List.length_nil]; omega)
 have cu := fun nm (hn : List.length nm ≤ 100000000) tk m S => called_use (l := LT10 D) rfl (n := m) (nm := nm) (v := .slice ([b.txt P.nms].map .str) tk) (S := S) (lit_dead [b.txt P.nms] tk) hn (by simp) (by rw [Lib.join_one]; omega)
 have cu1 := cu (catS [40] [(kidOf P.nms a).at 6, [41]]) (by rw [catS_length]; simp only [lensL, List.length_cons, List.length_nil]; omega)
 have cu2 := cu ((kidOf P.nms a).at 6) (by omega)
 simp only [List.map_cons, List.map_nil, callT2, Lib.join_one, catS] at cu1 cu2
 simp only [catS] at hp
 simp only [CatsOk] at K1
 rw [ho] at ta
 simp only [Int.natCast_zero] at ta
 generalize (kidOf P.nms a).at 6 = X at *
 rw [callS_go rfl, ho]
 simp only [fnA, ED_fn291, fi291, Tryz.f291]
 clear H hidx hlen la2 lae cu
 by_cases h6 : a.op = 6
 ·rw [if_pos h6] at hp
  have h6t : (a.op = 6) = True := eq_true h6
  simp [vmS, q1, q2, q3, q4, hc1, hc2, hc3, wu, k2, k3, k4, bin_str, i0, a1, a2, a3, w0, i1, b1, b2, b3, w1, ta, h6t, K1, cu1]
  exact hp _ _ rfl
 ·rw [if_neg h6] at hp
  simp [vmS, q1, q2, q3, q4, hc1, hc2, hc3, wu, k2, k3, k4, bin_str, i0, a1, a2, a3, w0, i1, b1, b2, b3, w1, ta, h6, cu2]
  exact hp _ _ rfl
theorem str291_calls {D : Nat} {P : Pr} {e : Ex} (H : TH D P e) (ho : e.op = 9 ∨ e.op = 10 ∨ e.op = 11 ∨ e.op = 12 ∨ e.op = 19 ∨ e.op = 20 ∨ e.op = 24 ∨ e.op = 25 ∨ e.op = 26) : Str291 D P e := by
 intro p hp
 obtain ⟨q1, q2, q3, q4, q5⟩ := lenV_len (P.lenV H.fit) (t := 22) (e := 63) rfl
 obtain ⟨hc1, hc2, hc3⟩ := e.cell
 have wu := H.whole
 have hvs := wholeV_strs (e.kids.map fun x => x.txt P.nms)
 have h8 := ask_len H.ask
 have lc := H.comma2
 generalize wholeV (e.kids.map fun x => x.txt P.nms) = WV at *
 obtain ⟨k1, k2, k3, k4, k5⟩ := strsV_cell hvs
 have hcT : callT e.op e.num ≠ [] := by rcases ho with h | h | h | h | h | h | h | h | h <;> (rw [h]; simp [callT, callL])
 have lu : ∀ S, lookupA ED S 314 (.rmap (ints gKeys) (gVals.map .str)) (.int .i64 e.op) false = some (.str (callT e.op e.num)) := fun S => by rcases ho with h | h | h | h | h | h | h | h | h <;> (rw [h]; rfl)
 have g10 : ED.glob 10 = some [.rmap (ints gKeys) (gVals.map .str)] := rfl
 have mc : (AV.rmap (ints gKeys) (gVals.map .str)).isCell = true ∧ (AV.rmap (ints gKeys) (gVals.map .str)).known = true ∧ (AV.rmap (ints gKeys) (gVals.map .str)).cells = [AV.rmap (ints gKeys) (gVals.map .str)] := ⟨rfl, rfl, rfl⟩
 have hc5 := call_length e.op e.num
 have cu := fun m S => called_use (l := LT10 D) rfl (n := m) (nm := callT e.op e.num) (v := WV) (S := S) (by rw [k5]; exact hvs) (by omega) (by rw [List.length_map]; omega) (by omega)
 have htxt : e.txt P.nms = callT2 (callT e.op e.num) (e.kids.map fun x => x.txt P.nms) := by rw [e.txt_kids, Ex.txts_map]; unfold nodeT; rw [if_pos hcT]; unfold callT2; rw [comma_txts]
 rw [htxt] at hp
 generalize AV.rmap (ints gKeys) (gVals.map .str) = MV at *
 generalize callT e.op e.num = CT at *
 obtain ⟨mc1, mc2, mc3⟩ := mc
 have nx : ∀ k : Int, (k ≤ 8 ∨ (13 ≤ k ∧ k ≤ 18) ∨ (21 ≤ k ∧ k ≤ 23)) → (e.op = k) = False := fun k hk => eq_false (by omega)
 have n0 := nx 0 (by omega)
 have n1 := nx 1 (by omega)
 have n2 := nx 2 (by omega)
 have n3 := nx 3 (by omega)
 have n4 := nx 4 (by omega)
 have n5 := nx 5 (by omega)
 have n6 := nx 6 (by omega)
 have n7 := nx 7 (by omega)
 have n8 := nx 8 (by omega)
 have n13 := nx 13 (by omega)
 have n14 := nx 14 (by omega)
 have n15 := nx 15 (by omega)
 have n16 := nx 16 (by omega)
 have n17 := nx 17 (by omega)
 have n18 := nx 18 (by omega)
 have n21 := nx 21 (by omega)
 have n22 := nx 22 (by omega)
 have n23 := nx 23 (by omega)
 rw [callS_go rfl]
 simp only [fnA, ED_fn291, fi291, Tryz.f291]
 clear H hcT htxt hc5 nx ho
 simp [vmS, q1, q2, q3, q4, hc1, hc2, hc3, wu, k2, k3, k4, bin_str, cu, g10, lu, mc1, mc2, mc3, eff_lookup, n0, n1, n2, n3, n4, n5, n6, n7, n8, n13, n14, n15, n16, n17, n18, n21, n22, n23]
 exact hp _ _ rfl
end Go.Vm.L
