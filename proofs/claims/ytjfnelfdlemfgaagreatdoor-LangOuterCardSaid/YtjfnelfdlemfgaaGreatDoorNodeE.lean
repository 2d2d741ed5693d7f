/-
How an expression is gone through. No conditions.
-/
import Derived.Test.YtjfnelfdlemfgaaGreatDoorNodeD
set_option linter.all false
set_option maxHeartbeats 4000000
namespace Go.Vm.L
open Go Go.Proofs Go.Vm
set_option maxRecDepth 100000
attribute [local simp] inFrame startLoc startVals Loc.clear blockC Loc.putO Loc.put idx evO constV Loc.get Vm.look intA unwindA resultsA resultV actA pureA storeA loadA fillE repElems TI.zeroV fieldOf fieldAddrA fieldA elemsA retE cellsOf? setCells nowhere mapHead headNext
def L6 : Sm := [(86, withinG), (53, mustG), (103, containsG), (104, boundG), (101, formsG), (89, lookG 89), (87, lookG 87), (149, lookG 149), (150, lookG 150), (151, lookG 151), (152, lookG 152)]
theorem L6_ok : ∀ x ∈ L6, FOk x.1 x.2 := by
 intro x hx
 simp only [L6, List.mem_cons, List.mem_nil_iff, or_false] at hx
 rcases hx with rfl | rfl | rfl | rfl | rfl | rfl | rfl | rfl | rfl | rfl | rfl
 ·exact within_ok
 ·exact must_ok
 ·exact contains_ok
 ·exact bound_ok
 ·exact forms_ok
 ·exact look_ok 89 (by simp)
 ·exact look_ok 87 (by simp)
 ·exact look_ok 149 (by simp)
 ·exact look_ok 150 (by simp)
 ·exact look_ok 151 (by simp)
 ·exact look_ok 152 (by simp)
theorem look_use6 {f : FuncId} (hf : f ∈ [89, 87, 149, 150, 151, 152]) {fs : AV} {k : Nat} (hk : lenV fs = some k) (hp : fs.pers = true) {m : Nat} {main n : Int} {S : St} :
  callS ED (sumG L6) m (.fn f) [.agg [fs, .int .i64 main], .int .i64 n] S = some (.ret (.bool (lookB k f n)), S) := by
 have hd : (AV.agg [fs, .int .i64 main]).dead = .agg [fs, .int .i64 main] := dead_of_pers _ (by simp [AV.pers, AV.persL, hp])
 refine callS_sum ?_
 rw [List.map_cons, List.map_cons, List.map_nil, hd, show (AV.int .i64 n).dead = .int .i64 n from rfl]
 have hg : lookG f [.agg [fs, .int .i64 main], .int .i64 n] = some (.ret (.bool (lookB k f n))) := by
  simp only [lookG, hk, hp, if_true]
 simp only [List.mem_cons, List.mem_nil_iff, or_false] at hf
 rcases hf with rfl | rfl | rfl | rfl | rfl | rfl <;> exact hg
theorem bound_use {l : Sm} (h : sumG l 104 = boundG) {m : Nat} {p0 b1 b2 op n mm p : Int} {f : FuncId} {zs : List Int} {tk : Tk} {x : AV} {S : St} (hl : zs.length ≤ 1000) (hp : 0 ≤ p) (hx : x.pers = true) (hc : x.isCell = true) :
  callS ED (sumG l) m (.fn 104) [.agg [.int .i64 p0, .fn f [] [], .int .i64 b1, .int .i64 b2], .slice (ints zs) tk, .agg [.int .i64 op, .int .i64 n, .int .i64 mm, x], .int .i64 p] S = some (.ret (.slice (ints (boundL b1 b2 p zs n mm)) .dead), S) := by
 have hd : x.dead = x := dead_of_pers _ hx
 exact callS_sum (by rw [h]; simp [ints_dead, AV.dead, AV.deadL, hd, boundG, intsOf_ints, hl, hp, hx, hc])
def wfn : AV := .fn 139 [] [.ptr 3 0, .ptr 2 0, .ptr 0 0, .ptr 4 0]
structure WS (fs : AV) (main : Int) (S : St) (left : Int) : Prop where
 bad : S.bad = false
 wb : S.wb = 0
 n : 5 ≤ S.n
 c0 : S.cells? 0 = some [fs, .int .i64 main]
 c2 : S.cells? 2 = some formCells
 c3 : S.cells? 3 = some [.int .i64 left]
 c4 : S.cells? 4 = some [wfn]
/-- all but what is left is as it was -/
structure OldX (S S' : St) : Prop where
 n : S.n ≤ S'.n
 get : ∀ i, i < S.n → i ≠ 3 → S'.get i = S.get i
def Runs139 (fs : AV) (k : Nat) (main : Int) (e : Ex) (n : Nat) : Prop :=
 ∀ (S : St) (left deep : Int) (vars : List Int) (tk : Tk), WS fs main S left → 0 ≤ left → left ≤ 600 → 0 ≤ deep → deep ≤ 41 → (vars.length : Int) ≤ 2 * deep →
  ∀ p : FRes → St → Prop, (∀ S', e.walk k left deep vars = none → p (.pan (wrongV 1 0)) S') → (∀ S' l', e.walk k left deep vars = some l' → WS fs main S' l' → OldX S S' → 0 ≤ l' → l' ≤ left → p (.ret (.tup [])) S') →
   GotF (callS ED (sumG L6) n (.fn 139) [e.enc, .int .i64 deep, .slice (ints vars) tk, .ptr 3 0, .ptr 2 0, .ptr 0 0, .ptr 4 0] S) p
theorem check_go {k oN len : Nat} {N M left deep parts b1 b2 : Int} {f : FuncId} {vars : List Int} {go : Int → Int → Option Int} (h : formT[oN]? = some (parts, f, b1, b2)) (ho : oN < 27) (d1 : 1 ≤ left) (d2 : deep ≤ 40)
  (hc : lookB k f N = true ∧ ((len : Int) = parts ∨ (parts < 0 ∧ (len : Int) ≤ 8)) ∧ ((oN : Int) ≠ 0 ∨ vars.contains N = true) ∧ (b2 = 0 ∨ isVarB M = true)) : Ex.check k (oN : Int) N M len left deep vars go = go b1 b2 := by
 unfold Ex.check
 rw [if_pos ⟨d1, d2, by omega, by omega⟩, Int.toNat_natCast, h]
 exact if_pos hc
theorem check_no {k oN len : Nat} {N M left deep parts b1 b2 : Int} {f : FuncId} {vars : List Int} {go : Int → Int → Option Int} (h : formT[oN]? = some (parts, f, b1, b2))
  (hc : ¬ (lookB k f N = true ∧ ((len : Int) = parts ∨ (parts < 0 ∧ (len : Int) ≤ 8)) ∧ ((oN : Int) ≠ 0 ∨ vars.contains N = true) ∧ (b2 = 0 ∨ isVarB M = true))) : Ex.check k (oN : Int) N M len left deep vars go = none := by
 unfold Ex.check
 split
 ·rw [Int.toNat_natCast, h]
  exact if_neg hc
 ·rfl
theorem effC_pan0 {X : DC} {i : Nat} {o : Oper} {k : KC} {acc : List Entry} {L : Vm.Loc} {S S' : St} {v : AV} : effC X i o k [] acc L S (some (.pan v S')) = some (.pan v (forget X.vars X.ops L) S') := by simp [effC]
theorem OldX.cells {S S' : St} (h : OldX S S') {i : Nat} {cs : List AV} (hi : i < S.n) (h3 : i ≠ 3) (hc : S.cells? i = some cs) : S'.cells? i = some cs := by
 rw [cells?_def, h.get i hi h3, ← cells?_def]
 exact hc
theorem OldX.trans {S S' S'' : St} (h : OldX S S') (k : OldX S' S'') : OldX S S'' :=
 ⟨Nat.le_trans h.n k.n, fun i hi h3 => (k.get i (Nat.lt_of_lt_of_le hi h.n) h3).trans (h.get i hi h3)⟩
theorem get_push_lt (S : St) (o : AO) {i : Nat} (h : i < S.n) : (S.push o).get i = S.get i := St.get_push_ne _ _ (by omega)
/-- a new cell, written to at once -/
theorem step6 {fs : AV} {main left : Int} {S : St} (W : WS fs main S left) (zs xs : List AV) :
  WS fs main ((S.push (.cells zs)).put S.n (.cells xs)) left ∧ OldX S ((S.push (.cells zs)).put S.n (.cells xs)) ∧ ((S.push (.cells zs)).put S.n (.cells xs)).n = S.n + 1 ∧ ((S.push (.cells zs)).put S.n (.cells xs)).cells? S.n = some xs := by
 obtain ⟨h1, h2, h3, h4, h5, h6, h7⟩ := W
 have hold : OldX S ((S.push (.cells zs)).put S.n (.cells xs)) := by
  refine ⟨by rw [n_put', n_push']; omega, fun i hi _ => ?_⟩
  rw [St.get_put_ne _ _ _ (by omega), get_push_lt _ _ hi]
 have c : ∀ i cs, i < S.n → S.cells? i = some cs → ((S.push (.cells zs)).put S.n (.cells xs)).cells? i = some cs := fun i cs hi hc => by
  rw [cells?_put_ne _ _ _ (by omega), cells?_push_ne _ _ (by omega)]
  exact hc
 refine ⟨⟨by rw [bad_put _ _ _ (by rw [wb_push]; exact h2), bad_push]; exact h1, by rw [wb_put, wb_push]; exact h2, by rw [n_put', n_push']; omega, c _ _ (by omega) h4, c _ _ (by omega) h5, c _ _ (by omega) h6, c _ _ (by omega) h7⟩, hold, by rw [n_put', n_push'], cells?_put_push _ _ _⟩
theorem start6 {fs : AV} {main left : Int} {S : St} (W : WS fs main S left) (us zs fm : List AV) :
  WS fs main ((((S.push (.cells us)).put 3 (.cells [.int .i64 (left - 1)])).push (.cells zs)).put (S.n + 1) (.cells fm)) (left - 1) ∧ OldX S ((((S.push (.cells us)).put 3 (.cells [.int .i64 (left - 1)])).push (.cells zs)).put (S.n + 1) (.cells fm)) ∧
   ((((S.push (.cells us)).put 3 (.cells [.int .i64 (left - 1)])).push (.cells zs)).put (S.n + 1) (.cells fm)).n = S.n + 2 ∧ ((((S.push (.cells us)).put 3 (.cells [.int .i64 (left - 1)])).push (.cells zs)).put (S.n + 1) (.cells fm)).cells? S.n = some us ∧
   ((((S.push (.cells us)).put 3 (.cells [.int .i64 (left - 1)])).push (.cells zs)).put (S.n + 1) (.cells fm)).cells? (S.n + 1) = some fm := by
 obtain ⟨h1, h2, h3, h4, h5, h6, h7⟩ := W
 have W1 : WS fs main ((S.push (.cells us)).put 3 (.cells [.int .i64 (left - 1)])) (left - 1) := by
  have c : ∀ i cs, i < S.n → i ≠ 3 → S.cells? i = some cs → ((S.push (.cells us)).put 3 (.cells [.int .i64 (left - 1)])).cells? i = some cs := fun i cs hi h3 hc => by
   rw [cells?_put_ne _ _ _ h3, cells?_push_ne _ _ (by omega)]
   exact hc
  exact ⟨by rw [bad_put _ _ _ (by rw [wb_push]; exact h2), bad_push]; exact h1, by rw [wb_put, wb_push]; exact h2, by rw [n_put', n_push']; omega, c _ _ (by omega) (by omega) h4, c _ _ (by omega) (by omega) h5, cells?_put_self _ _ _ (by rw [n_push']; omega), c _ _ (by omega) (by omega) h7⟩
 have O1 : OldX S ((S.push (.cells us)).put 3 (.cells [.int .i64 (left - 1)])) := by
  refine ⟨by rw [n_put', n_push']; omega, fun i hi h3 => ?_⟩
  rw [St.get_put_ne _ _ _ h3, get_push_lt _ _ hi]
 have n1 : ((S.push (.cells us)).put 3 (.cells [.int .i64 (left - 1)])).n = S.n + 1 := by rw [n_put', n_push']
 have a1 : ((S.push (.cells us)).put 3 (.cells [.int .i64 (left - 1)])).cells? S.n = some us := by
  rw [cells?_put_ne _ _ _ (by omega), cells?_push_self]
 obtain ⟨k1, k2, k3, k4⟩ := step6 W1 zs fm
 rw [n1] at k1 k2 k3 k4
 exact ⟨k1, O1.trans k2, k3, k2.cells (by omega) (by omega) a1, k4⟩
theorem walk_step {fs : AV} {k : Nat} {main : Int} (hk : lenV fs = some k) (hfp : fs.pers = true) {e : Ex} (he : e.fit) {n : Nat} (hn : e.kids.length + 2 ≤ n) (hkids : ∀ x ∈ e.kids, Runs139 fs k main x n) : Runs139 fs k main e (n + 1) := by
 intro S left deep vars tk W h0 h600 hd0 hd41 hvl p hp1 hp2
 rw [callS_go rfl]
 have W0 := W
 obtain ⟨hbad, hwb, hSn, c0, c2, c3, c4⟩ := W
 have hlen := e.len
 have hidx := fun j (hj : j < e.kids.length) => e.index hj
 obtain ⟨hc1, hc2, hc3⟩ := e.cell
 have hlp := e.lst_pers
 have hmx := Ex.fit_len he
 have hwk := e.walk_kids k left deep vars
 have el := e.look
 have w := fun m x a b S => within_use (l := L6) rfl (n := m) (x := x) (a := a) (b := b) (S := S)
 have mu := fun m b x S => must_use (l := L6) rfl (n := m) (b := b) (e := x) (S := S)
 simp only [el]
 generalize hl : e.kids = l at *
 generalize e.lst = A at *
 generalize e.op = o at *
 generalize e.num = N at *
 generalize e.mun = M at *
 have hw1 : IntKind.i64.wrap (left - 1) = left - 1 := wrap_id (by omega) (by omega)
 have n0 : (0 = S.n) = False := by simp; omega
 have n2 : (2 = S.n) = False := by simp; omega
 have n3 : (3 = S.n) = False := by simp; omega
 have n4 : (4 = S.n) = False := by simp; omega
 have m0 : ∀ j, (0 = S.n + j) = False := fun j => by simp; omega
 have m2 : ∀ j, (2 = S.n + j) = False := fun j => by simp; omega
 have m3 : ∀ j, (3 = S.n + j) = False := fun j => by simp; omega
 have m4 : ∀ j, (4 = S.n + j) = False := fun j => by simp; omega
 have q3 : (S.n = 3) = False := by simp; omega
 have r3 : ∀ j, (S.n + j = 3) = False := fun j => by simp; omega
 have l3 : 3 < S.n := by omega
 have l3' : ∀ j, 3 < S.n + j := fun j => by omega
 rw [hwk] at hp1 hp2
 simp only [fnA, ED_fn139, fi139, Tryz.f139]
 by_cases d1 : 1 ≤ left
 ·by_cases d2 : deep ≤ 40
  ·by_cases d3 : 0 ≤ o
   ·by_cases d4 : o ≤ 26
    ·obtain ⟨oN, rfl⟩ : ∃ oN : Nat, o = oN := ⟨o.toNat, by omega⟩
     have ho : oN < 27 := by omega
     obtain ⟨parts, f, b1, b2, hform, hcells, hf, hext, hpa, hpb⟩ := formT_at ho
     have ia : indexAddrA ED 133 (.ptr 2 0) (.int .i64 (oN : Nat)) = some (.ptr 2 (oN * 4)) := by
      have : (0 : Int) ≤ (oN : Int) ∧ (oN : Int) < 27 := by omega
      simp [indexAddrA, this, ho]
     have hfl : oN * 4 + 4 ≤ formCells.length := by rw [forms_length]; omega
     have lu := fun m n S => look_use6 hf hk hfp (m := m) (main := main) (n := n) (S := S)
     have cu := fun m S => contains_use (l := L6) rfl (n := m) (zs := vars) (tk := tk) (z := N) (S := S) (by omega)
     have lv : ∀ m S, callS ED (sumG L6) m (.fn 89) [.agg [fs, .int .i64 main], .int .i64 M] S = some (.ret (.bool (isVarB M)), S) := fun m S => look_use6 (f := 89) (by simp) hk hfp
     cases hL : lookB k f N with
     | false =>
      simp [vmS, hbad, hwb, c0, c2, c3, c4, hw1, n0, n2, n3, n4, m0, m2, m3, m4, q3, r3, l3, l3', d1, d2, d3, d4, w, mu, hc1, hc2, hc3, ia, hfl, hcells, hext, lu, hL, stepE_pan, hlen, cu, lv]
      exact hp1 _ (check_no hform (by simp [hL]))
     | true =>
      by_cases cA : (l.length : Int) = parts ∨ (parts < 0 ∧ (l.length : Int) ≤ 8)
      ·have hA : (((l.length : Int) = parts) = True ∧ ((l.length : Int) = parts) = True ∧ ((l.length : Int) = parts) = True) ∨ (((l.length : Int) = parts) = False ∧ (parts < 0) = True ∧ ((l.length : Int) ≤ 8) = True) := by
        by_cases e1 : (l.length : Int) = parts
        ·exact .inl ⟨eq_true e1, eq_true e1, eq_true e1⟩
        ·obtain ⟨e2, e3⟩ := cA.resolve_left e1
         exact .inr ⟨eq_false e1, eq_true e2, eq_true e3⟩
       by_cases cO : (oN : Int) ≠ 0 ∨ vars.contains N = true
       ·have hO : ((oN = 0) = True ∧ ((oN : Int) = 0) = True ∧ N ∈ vars ∧ vars.contains N = true) ∨ ((oN = 0) = False ∧ ((oN : Int) = 0) = False ∧ (oN = 0) = False ∧ (oN = 0) = False) := by
         by_cases e4 : oN = 0
         ·have e6 := cO.resolve_left (fun h => h (by omega))
          exact .inl ⟨eq_true e4, eq_true (by omega), by simpa using e6, e6⟩
         ·exact .inr ⟨eq_false e4, eq_false (by omega), eq_false e4, eq_false e4⟩
        by_cases cM : b2 = 0 ∨ isVarB M = true
        ·have hM : ((b2 = 0) = True ∧ (b2 = 0) = True) ∨ ((b2 = 0) = False ∧ isVarB M = true) := by
          by_cases e7 : b2 = 0
          ·exact .inl ⟨eq_true e7, eq_true e7⟩
          ·exact .inr ⟨eq_false e7, cM.resolve_left e7⟩
         have hW : Ex.check k (oN : Int) N M l.length left deep vars (fun b1 b2 => Ex.walks k l (left - 1) (deep + 1) vars b1 b2 N M 0) = Ex.walks k l (left - 1) (deep + 1) vars b1 b2 N M 0 := check_go hform ho d1 d2 ⟨hL, cA, cO, cM⟩
         rcases hA with ⟨f1, f2, f3⟩ | ⟨f1, f2, f3⟩ <;> rcases hO with ⟨g1, g2, g3, g4⟩ | ⟨g1, g2, g3, g4⟩ <;> rcases hM with ⟨h1, h2⟩ | ⟨h1, h2⟩ <;>
         ·simp [vmS, hbad, hwb, c0, c2, c3, c4, hw1, n0, n2, n3, n4, m0, m2, m3, m4, q3, r3, l3, l3', d1, d2, d3, d4, w, mu, hc1, hc2, hc3, ia, hfl, hcells, hext, lu, hL, stepE_pan, hlen, cu, lv, f1, f2, f3, g1, g2, g3, g4, h1, h2]
          have d0 := @dr139_0
          simp only [drA, drawsOf, Option.getD_some, List.nil_append, List.append_nil, List.getD_cons_zero, List.getD_cons_succ, List.cons_append, Tryz.f139] at d0
          have hwd : IntKind.i64.wrap (deep + 1) = deep + 1 := wrap_id (by omega) (by omega)
          obtain ⟨k1, k2, k3, k4, k5⟩ := start6 W0 [.int .i64 (oN : Int), .int .i64 N, .int .i64 M, A] [.int .i64 0, .nilf, .int .i64 0, .int .i64 0] [.int .i64 parts, .fn f [] [], .int .i64 b1, .int .i64 b2]
          generalize ((((S.push (.cells [.int .i64 (oN : Int), .int .i64 N, .int .i64 M, A])).put 3 (.cells [.int .i64 (left - 1)])).push (.cells [.int .i64 0, .nilf, .int .i64 0, .int .i64 0])).put (S.n + 1) (.cells [.int .i64 parts, .fn f [] [], .int .i64 b1, .int .i64 b2])) = T at *
          generalize hc : iter _ _ _ _ = c
          rw [hW] at hp1 hp2
          generalize hR : Ex.walks k l (left - 1) (deep + 1) vars b1 b2 N M 0 = R at hp1 hp2
          obtain ⟨ex, L1, S1, rfl, hq⟩ := loop_of hc
           (fun r L S' => ∃ (j : Nat) (lj : Int) (x y : AV) (sc : List (Tmp × AV)), j + r = l.length ∧ Ex.walks k (l.drop j) lj (deep + 1) vars b1 b2 N M j = R ∧ 0 ≤ lj ∧ lj ≤ left - 1 ∧
            L = vloc [.agg [.int .i64 (oN : Int), .int .i64 N, .int .i64 M, A], .int .i64 deep, .slice (ints vars) tk, .ptr 3 0, .ptr 2 0, .ptr 0 0, .ptr 4 0, .ptr S.n 0, .ptr (S.n + 1) 0, x, y, A, .int .i64 l.length, .int .i64 (j : Nat)] sc ∧
            WS fs main S' lj ∧ OldX T S')
           (fun e L S' => (e = .exit 0 ∧ ∃ (lj : Int) (x y z : AV) (sc : List (Tmp × AV)), R = some lj ∧ 0 ≤ lj ∧ lj ≤ left - 1 ∧
            L = vloc [.agg [.int .i64 (oN : Int), .int .i64 N, .int .i64 M, A], .int .i64 deep, .slice (ints vars) tk, .ptr 3 0, .ptr 2 0, .ptr 0 0, .ptr 4 0, .ptr S.n 0, .ptr (S.n + 1) 0, x, y, A, .int .i64 l.length, z] sc ∧
            WS fs main S' lj ∧ OldX T S') ∨ (e = .pan (wrongV 1 0) ∧ R = none ∧ ∃ vs sc, L = vloc vs sc))
           l.length (by omega)
           ⟨0, left - 1, _, _, _, by simp, by rw [← hR]; rfl, by omega, by omega, rfl, k1, ⟨Nat.le_refl _, fun _ _ _ => rfl⟩⟩
           (by
            rintro r L S' ⟨j, lj, x, y, sc, hjk, hs, hl0, hl1, rfl, W', O'⟩ q hq1 hq2
            have W1 := W'
            obtain ⟨wb1, wb2, wn, w0, w2, w3, w4⟩ := W1
            have hTn := O'.n
            have t1 := O'.cells (i := S.n) (by omega) (by omega) k4
            have t2 := O'.cells (i := S.n + 1) (by omega) (by omega) k5
            by_cases hj : j < l.length
            ·have hwj : IntKind.i64.wrap ((j : Int) + 1) = ((j : Int) + 1) := wrap_id (by omega) (by unfold maxLen at hmx; omega)
             have hix := hidx j hj
             have hmem : l[j] ∈ l := List.getElem_mem hj
             rw [drop_kid hj] at hs
             simp only [Ex.walks] at hs
             have hrun := hkids l[j] hmem
             generalize l[j] = xk at *
             have xl := xk.look
             obtain ⟨g1, g2, g3⟩ := xk.cell
             rw [xl] at hix
             obtain ⟨s1, s2, s3, s4⟩ := step6 W' [.int .i64 0, .int .i64 0, .int .i64 0, .nils] [.int .i64 xk.op, .int .i64 xk.num, .int .i64 xk.mun, xk.lst]
             have bu := fun m S => bound_use (l := L6) rfl (m := m) (p0 := parts) (b1 := b1) (b2 := b2) (op := (oN : Int)) (n := N) (mm := M) (p := (j : Nat)) (f := f) (zs := vars) (tk := tk) (x := A) (S := S) (by omega) (by omega) hlp hc1
             have bl : (((boundL b1 b2 (j : Nat) vars N M).length : Nat) : Int) ≤ 2 * (deep + 1) := by
              unfold boundL
              simp only [List.length_append]
              split <;> split <;> simp <;> omega
             generalize hS2 : (S'.push (.cells [.int .i64 0, .int .i64 0, .int .i64 0, .nils])).put S'.n (.cells [.int .i64 xk.op, .int .i64 xk.num, .int .i64 xk.mun, xk.lst]) = S2 at *
             obtain ⟨r3, S3, hcall, hP⟩ := gotF_iff.1 (hrun S2 lj (deep + 1) (boundL b1 b2 (j : Nat) vars N M) .dead s1 hl0 (by omega) (by omega) (by omega) bl
              (fun r S3 => (r = .pan (wrongV 1 0) ∧ xk.walk k lj (deep + 1) (boundL b1 b2 (j : Nat) vars N M) = none) ∨ (r = .ret (.tup []) ∧ ∃ l', xk.walk k lj (deep + 1) (boundL b1 b2 (j : Nat) vars N M) = some l' ∧ WS fs main S3 l' ∧ OldX S2 S3 ∧ 0 ≤ l' ∧ l' ≤ lj))
              (fun S3 h => .inl ⟨rfl, h⟩) (fun S3 l' h1 h2 h3 h4 h5 => .inr ⟨rfl, l', h1, h2, h3, h4, h5⟩))
             rw [xl] at hcall
             obtain ⟨u1, u2, un, u0, uu2, u3, u4⟩ := s1
             have v1 := s2.cells (i := S.n) (by omega) (by omega) t1
             have v2 := s2.cells (i := S.n + 1) (by omega) (by omega) t2
             have v3 := s4
             rcases hP with ⟨rfl, hx⟩ | ⟨rfl, l', hx, W3, O3, hl3, hl4⟩
             ·rw [hx] at hs
              simp [vmS, runC_nil, runC_cons, pickC_some, wantC_tt, wantC_tf, effC_val, ifC_true, checkC, inPairs, keepC, okC, readsC_load, readV_some, AV.beq_self, wantA_n, wantA_g, wantD_some, d0, vloc, hj, wb1, wb2, hix, hwj, hwd, bu, hcall, u1, u2, u4, v1, v2, v3, hS2, g1, g2, g3, wfn, stepE_pan, effC_pan0, forget]
              exact hq2 _ _ _ (by simp) (.inr ⟨rfl, hs.symm, _, _, rfl⟩)
             ·rw [hx] at hs
              simp [vmS, runC_nil, runC_cons, pickC_some, wantC_tt, wantC_tf, effC_val, ifC_true, checkC, inPairs, keepC, okC, readsC_load, readV_some, AV.beq_self, wantA_n, wantA_g, wantD_some, d0, vloc, hj, wb1, wb2, hix, hwj, hwd, bu, hcall, u1, u2, u4, v1, v2, v3, hS2, g1, g2, g3, wfn, stepE_pan, W3.bad, W3.wb]
              exact hq1 (r - 1) _ _ (by omega) ⟨j + 1, l', _, _, _, by omega, hs, hl3, by omega, rfl, W3, (O'.trans s2).trans O3⟩
            ·have hjl : j = l.length := by omega
             subst hjl
             rw [List.drop_length] at hs
             simp only [Ex.walks] at hs
             simp [vmS, vloc, hj, wb1, wb2]
             exact hq2 _ _ _ (by simp) (.inl ⟨rfl, lj, _, _, _, _, hs.symm, hl0, hl1, rfl, W', O'⟩))
          rcases hq with ⟨rfl, lj, x, y, z, sc, hRl, hl0, hl1, rfl, W', O'⟩ | ⟨rfl, hRn, vs, sc, rfl⟩
          ·simp [vmS, vloc]
           exact hp2 _ lj hRl W' (k2.trans O') hl0 (by omega)
          ·simp [vmS, vloc]
           exact hp1 _ hRn
        ·have e7 : (b2 = 0) = False := eq_false fun h => cM (.inl h)
         have e8 : isVarB M = false := by cases h : isVarB M with
          | true => exact absurd (.inr h) cM
          | false => rfl
         rcases hA with ⟨f1, f2, f3⟩ | ⟨f1, f2, f3⟩ <;> rcases hO with ⟨g1, g2, g3, g4⟩ | ⟨g1, g2, g3, g4⟩ <;>
         ·simp [vmS, hbad, hwb, c0, c2, c3, c4, hw1, n0, n2, n3, n4, m0, m2, m3, m4, q3, r3, l3, l3', d1, d2, d3, d4, w, mu, hc1, hc2, hc3, ia, hfl, hcells, hext, lu, hL, stepE_pan, hlen, cu, lv, f1, f2, f3, g1, g2, g3, g4, e7, e8]
          exact hp1 _ (check_no hform fun q => cM q.2.2.2)
       ·have g1 : (oN = 0) = True := eq_true (by
         apply Classical.byContradiction
         intro h
         exact cO (.inl (by omega)))
        have g2 : ((oN : Int) = 0) = True := eq_true (by
         apply Classical.byContradiction
         intro h
         exact cO (.inl h))
        have g4 : vars.contains N = false := by cases h : vars.contains N with
         | true => exact absurd (.inr h) cO
         | false => rfl
        have g3 : ¬ N ∈ vars := fun h => by
         have : vars.contains N = true := by simpa using h
         rw [this] at g4
         cases g4
        rcases hA with ⟨f1, f2, f3⟩ | ⟨f1, f2, f3⟩ <;>
        ·simp [vmS, hbad, hwb, c0, c2, c3, c4, hw1, n0, n2, n3, n4, m0, m2, m3, m4, q3, r3, l3, l3', d1, d2, d3, d4, w, mu, hc1, hc2, hc3, ia, hfl, hcells, hext, lu, hL, stepE_pan, hlen, cu, lv, f1, f2, f3, g1, g2, g3, g4]
         exact hp1 _ (check_no hform fun q => cO q.2.2.1)
      ·have f1 : ((l.length : Int) = parts) = False := eq_false fun h => cA (.inl h)
       by_cases e2 : parts < 0
       ·have e3 : ¬ (l.length : Int) ≤ 8 := fun h => cA (.inr ⟨e2, h⟩)
        simp [vmS, hbad, hwb, c0, c2, c3, c4, hw1, n0, n2, n3, n4, m0, m2, m3, m4, q3, r3, l3, l3', d1, d2, d3, d4, w, mu, hc1, hc2, hc3, ia, hfl, hcells, hext, lu, hL, stepE_pan, hlen, cu, lv, f1, e2, e3]
        exact hp1 _ (check_no hform fun q => cA q.2.1)
       ·simp [vmS, hbad, hwb, c0, c2, c3, c4, hw1, n0, n2, n3, n4, m0, m2, m3, m4, q3, r3, l3, l3', d1, d2, d3, d4, w, mu, hc1, hc2, hc3, ia, hfl, hcells, hext, lu, hL, stepE_pan, hlen, cu, lv, f1, e2]
        exact hp1 _ (check_no hform fun q => cA q.2.1)
    ·simp [vmS, hbad, hwb, c0, c2, c3, c4, hw1, n0, n2, n3, n4, m0, m2, m3, m4, q3, r3, l3, l3', w, mu, hc1, stepE_pan, d1, d2, d3, d4]
     exact hp1 _ (by simp [Ex.check, d4])
   ·simp [vmS, hbad, hwb, c0, c2, c3, c4, hw1, n0, n2, n3, n4, m0, m2, m3, m4, q3, r3, l3, l3', w, mu, hc1, stepE_pan, d1, d2, d3]
    exact hp1 _ (by simp [Ex.check, d3])
  ·simp [vmS, hbad, hwb, c0, c2, c3, c4, hw1, n0, n2, n3, n4, m0, m2, m3, m4, q3, r3, l3, l3', w, mu, hc1, stepE_pan, d1, d2]
   exact hp1 _ (by simp [Ex.check, d2])
 ·simp [vmS, hbad, hwb, c0, c2, c3, c4, hw1, n0, n2, n3, n4, m0, m2, m3, m4, q3, r3, l3, l3', w, mu, hc1, stepE_pan, d1]
  exact hp1 _ (by simp [Ex.check, d1])
theorem max_fuel {α : Type} {P : α → Nat → Prop} : ∀ l : List α, (∀ x ∈ l, ∃ N, ∀ n, N ≤ n → P x n) → ∃ N, ∀ n, N ≤ n → ∀ x ∈ l, P x n
 | [], _ => ⟨0, fun _ _ x hx => by cases hx⟩
 | a :: l, h => by
  obtain ⟨N1, h1⟩ := h a (by simp)
  obtain ⟨N2, h2⟩ := max_fuel l (fun x hx => h x (by simp [hx]))
  refine ⟨max N1 N2, fun n hn x hx => ?_⟩
  rcases List.mem_cons.1 hx with rfl | hx
  ·exact h1 n (by omega)
  ·exact h2 n (by omega) x hx
theorem walk_run {fs : AV} {k : Nat} {main : Int} (hk : lenV fs = some k) (hfp : fs.pers = true) : ∀ (d : Nat) (e : Ex), e.deep ≤ d → e.fit → ∃ N, ∀ n, N ≤ n → Runs139 fs k main e n := by
 intro d
 induction d with
 | zero => intro e hd _; have := e.deep_pos; omega
 | succ d ih =>
  intro e hd he
  obtain ⟨N, hN⟩ := max_fuel (P := fun x n => Runs139 fs k main x n) e.kids (fun x hx => ih x (by have := Ex.deep_kid hx; omega) (Ex.fit_kid he hx))
  refine ⟨max N (e.kids.length + 2) + 1, fun n hn => ?_⟩
  obtain ⟨m, rfl⟩ : ∃ m, n = m + 1 := ⟨n - 1, by omega⟩
  exact walk_step hk hfp he (by omega) (hN m (by omega))
end Go.Vm.L
