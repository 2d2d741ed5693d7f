/-
The nodes of a program, as the document has them. No conditions.
-/
import Derived.Test.YtjfnelfdlemfgaaGreatDoorSaidC
import Derived.Test.YtjfnelfdlemfgaaGreatDoorNodeJ
set_option linter.all false
set_option maxHeartbeats 4000000
namespace Go.Vm.L
open Go Go.Proofs Go.Vm
set_option maxRecDepth 100000
attribute [local simp] inFrame startLoc startVals Loc.clear blockC Loc.putO Loc.put idx evO constV Loc.get Vm.look intA unwindA resultsA resultV actA pureA storeA loadA fillE repElems TI.zeroV fieldOf fieldAddrA fieldA elemsA retE cellsOf? setCells nowhere mapHead headNext
mutual
theorem pre_core (f : Int) : ∀ (e : Ex) (num : Int) (x : Nd), x.op = e.op → opsB (e.pre f num x) = e.core
 | .leaf o n m z, num, x, h => by
  simp only [Ex.op] at h
  simp only [Ex.pre, opsB, List.all_cons, List.all_nil, Ex.core, h, Bool.and_true]
 | .node o n m y l, num, x, h => by
  simp only [Ex.op] at h
  simp only [Ex.pre, opsB_cons, opsB_app, Ex.core, h]
  rw [pre_core f y _ _ rfl, pres_core f l _ _ _, Bool.and_comm]
theorem pres_core (f : Int) : ∀ (l : List Ex) (num own i : Int), opsB (Ex.pres f l num own i) = Ex.cores l
 | [], _, _, _ => rfl
 | a :: r, num, own, i => by
  simp only [Ex.pres, opsB_app, Ex.cores]
  rw [pre_core f a _ _ rfl, pres_core f r _ _ _]
end
theorem all_core : ∀ (fs : List Fu) (num i : Int), opsB (allPre fs num i) = fs.all fun f => f.body.core
 | [], _, _ => rfl
 | f :: r, num, i => by
  simp only [allPre, opsB_app, List.all_cons]
  rw [pre_core _ f.body _ _ rfl, all_core r]
noncomputable def coreRD (D : Nat) : List AV → Option FRes
 | [v] => match prOf v with
  | some P => if (∀ f ∈ P.funs, f.body.deep ≤ D ∧ f.body.size ≤ 100000) then some (.ret (.int .i64 (if (formedB P.funs P.main && P.funs.all fun f => f.body.core) = true then 0 else 1))) else none
  | none => none
 | _ => none
noncomputable def LQ10 (D : Nat) : Sm := [(49, formedRG), (57, firstG D)]
theorem LQ10_ok (D : Nat) : ∀ x ∈ LQ10 D, FOk x.1 x.2 := by
 intro x hx
 simp only [LQ10, List.mem_cons, List.mem_nil_iff, or_false] at hx
 rcases hx with rfl | rfl
 ·exact formedR_ok
 ·exact first_ok D
theorem coreRD_ok (D : Nat) : FOk 22 (coreRD D) := by
 refine fok (LQ10 D) (LQ10_ok D) ?_
 intro a r h
 unfold coreRD at h
 split at h
 ·rename_i v
  split at h
  ·rename_i P hP
   split at h
   ·rename_i hDs
    obtain ⟨hfit, rfl⟩ := prOf_some hP
    cases h
    refine ⟨by simp [AV.persL, P.pers], rfl, P.funs.length + 5, fun p hp => ?_⟩
    rw [callS_go rfl]
    obtain ⟨q1, q2, q3, q4, q5⟩ := lenV_len (P.lenV hfit) (t := 22) (e := 63) rfl
    have hu := fun m S => formedR_use (l := LQ10 D) rfl ⟨hfit, fun f hf => (hDs f hf).2⟩ (n := m) (S := S)
    obtain ⟨hff, hfl⟩ := hfit
    simp only [Pr.enc]
    simp only [fnA, ED_fn22, fi22, Tryz.f22]
    cases hH : formedB P.funs P.main with
    | false =>
     rw [hH] at hp hu
     simp [vmS, q1, q2, q3, q4, hu, unA]
     exact hp _ _ rfl
    | true =>
     rw [hH] at hp hu
     rw [Bool.true_and] at hp
     have n1 := (formedB_size hH).2
     have hne : P.funs ≠ [] := fun e => by rw [e] at hH; simp [formedB] at hH
     have hix := val_at P hne
     simp [vmS, q1, q2, q3, q4, hu, unA]
     generalize hT : S0.push (.cells [P.val, .int .i64 P.main]) = T
     have tc : Cl T := by subst hT; exact Cl.push Cl.zero _
     have t0 : T.cells? 0 = some [P.val, .int .i64 P.main] := by subst hT; simp [push_at, n_push', n_S0, cellsOf?]
     generalize hG : (P.funs.all fun f => f.body.core) = G at hp
     generalize hc : iter _ _ _ _ = c
     obtain ⟨ex, L1, S1, rfl, hq⟩ := loop_of hc
      (fun r L S' => ∃ (j : Nat) (sc : List (Tmp × AV)), j + r = P.funs.length ∧ ((P.funs.drop j).all fun f => f.body.core) = G ∧
       L = vloc [.agg [P.val, .int .i64 P.main], .ptr 0 0, .int .i64 0, .int .i64 (j : Nat)] sc ∧ S' = T)
      (fun ex L S' => S' = T ∧ ∃ (x : AV) (sc : List (Tmp × AV)), ((ex = .exit 0 ∧ G = true ∧ L = vloc [.agg [P.val, .int .i64 P.main], .ptr 0 0, .int .i64 0, x] sc) ∨ (ex = .ret ∧ G = false ∧ L = vloc [.agg [P.val, .int .i64 P.main], .ptr 0 0, .int .i64 1, x] sc)))
      P.funs.length (by omega)
      ⟨0, _, by simp, by simpa using hG, rfl, rfl⟩
      (by
       rintro r L S' ⟨j, sc, hjk, hs, rfl, rfl⟩ q hq1 hq2
       by_cases hj : j < P.funs.length
       ·have hw : IntKind.i64.wrap ((j : Int) + 1) = ((j : Int) + 1) := wrap_id (by omega) (by omega)
        have hixj := hix j hj
        have hffj := hff P.funs[j] (List.getElem_mem hj)
        have hdsj := hDs P.funs[j] (List.getElem_mem hj)
        rw [List.drop_eq_getElem_cons hj, List.all_cons] at hs
        generalize P.funs[j] = f at *
        obtain ⟨g1, g2, g3⟩ := f.body.cell
        simp only [Fu.vals] at hixj
        have su := fun m S => first_use (l := LQ10 D) rfl (m := m) (e := f.body) (S := S) hffj.2 hdsj.1
        cases a1 : f.body.core with
        | false =>
         rw [a1] at su hs
         simp [vmS, vloc, tc.1, tc.2, t0, q1, hj, hixj, su, unA, g1, g2, g3]
         exact hq2 _ _ _ (by simp) ⟨rfl, _, _, .inr ⟨rfl, by rw [← hs]; rfl, rfl⟩⟩
        | true =>
         rw [a1] at su hs
         simp [vmS, vloc, tc.1, tc.2, t0, q1, hj, hixj, su, unA, g1, g2, g3, hw]
         exact hq1 (r - 1) _ _ (by omega) ⟨j + 1, _, by omega, by simpa using hs, rfl, rfl⟩
       ·have hjl : j = P.funs.length := by omega
        subst hjl
        rw [List.drop_length] at hs
        simp [vmS, vloc, tc.1, tc.2, t0, q1]
        exact hq2 _ _ _ (by simp) ⟨rfl, _, _, .inl ⟨rfl, by rw [← hs]; rfl, rfl⟩⟩)
     obtain ⟨rfl, x, sc, ⟨rfl, ha, rfl⟩ | ⟨rfl, ha, rfl⟩⟩ := hq
     ·simp [vmS, vloc, tc.1, tc.2]
      exact hp _ _ (by rw [ha]; rfl)
     ·simp [vmS, vloc, tc.1, tc.2]
      exact hp _ _ (by rw [ha]; rfl)
   ·cases h
  ·cases h
 ·cases h
noncomputable def coreRG : List AV → Option FRes
 | [v] => match prOf v with
  | some P => if (∀ f ∈ P.funs, f.body.size ≤ 100000) then coreG [v] else none
  | none => none
 | _ => none
theorem coreR_ok : FOk 22 coreRG := fok_deep coreRD_ok fun a r h => by
 unfold coreRG at h
 split at h
 ·rename_i v
  split at h
  ·rename_i P hP
   split at h
   ·rename_i hs
    refine ⟨maxDeep P.funs, ?_⟩
    simp only [coreRD, hP]
    rw [if_pos fun f hf => ⟨maxDeep_le hf, hs f hf⟩, ← h]
    simp only [coreG, hP]
    have := all_core P.funs 0 0
    unfold opsB opB at this
    rw [this]
    simp only [Bool.and_eq_true]
   ·cases h
  ·cases h
 ·cases h
def nxl (y : Nd × Ex) : List AV := [.int .i64 y.1.fn, .int .i64 y.1.up, .int .i64 y.1.place, .int .i64 y.1.op, .int .i64 y.2.op, .int .i64 y.2.num, .int .i64 y.2.mun, y.2.lst]
def nxv (y : Nd × Ex) : AV := .agg (nxl y)
theorem head8 (xs : List (Nd × Ex)) : headSz 8 (xs.map nxv) = true := by cases xs <;> rfl
theorem nxl_cell (y : Nd × Ex) : (nxl y).all (·.isCell) = true := by
 obtain ⟨h, _, _⟩ := y.2.cell
 simp [nxl, h, isCell_int]
theorem app65 {S : St} {v : AV} {xs : List (Nd × Ex)} {y : Nd × Ex} {T : Option Nat} (hl : LiveT S 8 v (xs.map nxv) T) (hlen : xs.length < 1000000) (hcl : Cl S) :
  ∃ v' S', appendA ED S 65 v [nxv y] = some (v', S') ∧ LiveT S' 8 v' ((xs ++ [y]).map nxv) (some S.n) ∧ S'.n = S.n + 1 ∧ (∀ k, k < S.n → T ≠ some k → S'.get k = S.get k) ∧ Cl S' := by
 have hr : ∀ k, k ≤ 1000000 → ∀ i : TI, i.bytes = 80 → roomOk i k = true := fun k hk i hi => by
  simp only [roomOk, roomMost, decide_eq_true_eq, hi]
  omega
 have hc : ([nxv y].flatMap AV.cells).all (·.isCell) = true ∧ [nxv y].all (fun v => v.cells.length = 8) = true ∧ (8 : Nat) ≠ 0 := ⟨by simpa [nxv, AV.cells] using nxl_cell y, rfl, by decide⟩
 unfold appendA
 simp only [ED_ti65]
 rw [if_pos hc]
 cases T with
 | none =>
  rcases hl with ⟨rfl, he⟩ | rfl
  ·have hn : xs = [] := by simpa using he
   subst hn
   refine ⟨.slice [nxv y] (.tok S.n 8), S.push (.tok false), ?_, ⟨rfl, St.get_push_self _ _⟩, n_push' _ _, fun k hk _ => get_push_lt _ _ hk, Cl.push hcl _⟩
   simp only []
   rw [if_neg (fun h => absurd h.2 (by decide)), if_pos (hr _ (by simp) _ rfl)]
  ·refine ⟨.slice (xs.map nxv ++ [nxv y]) (.tok S.n 8), S.push (.tok false), ?_, ⟨by simp, St.get_push_self _ _⟩, n_push' _ _, fun k hk _ => get_push_lt _ _ hk, Cl.push hcl _⟩
   simp only []
   rw [if_neg (by simp), if_pos ⟨head8 xs, hr _ (by simp; omega) _ rfl⟩]
   rfl
 | some j =>
  obtain ⟨rfl, hj⟩ := hl
  have hlt := St.get_lt hj
  refine ⟨.slice (xs.map nxv ++ [nxv y]) (.tok S.n 8), (S.put j (.tok true)).push (.tok false), ?_, ⟨by simp, ?_⟩, by rw [n_push', n_put'], fun k hk hne => ?_, Cl.push (Cl.put hcl _ _) _⟩
  ·simp only []
   rw [if_neg (by simp), if_pos ⟨head8 xs, hr _ (by simp; omega) _ rfl⟩]
   simp [spend, hj]
  ·exact St.get_push_self (S.put j (.tok true)) (.tok false)
  ·rw [get_push_lt _ _ (by rw [n_put']; exact hk), get_put_ne (fun e => hne (by rw [e]))]
theorem live8_cell {S : St} {v : AV} {xs : List (Nd × Ex)} {T : Option Nat} (h : LiveT S 8 v (xs.map nxv) T) : v.isCell = true ∧ v.known = true ∧ v.cells = [v] ∧ lenA ED 66 v = some (.int .i64 (xs.length : Nat)) := by
 rcases h.cases with ⟨rfl, he⟩ | ⟨tk, rfl⟩
 ·have hn : xs = [] := by simpa using he
  subst hn
  exact ⟨rfl, rfl, rfl, rfl⟩
 ·refine ⟨rfl, rfl, rfl, ?_⟩
  have : ∀ es : List AV, lenA ED 66 (.slice es tk) = some (.int .i64 (es.length : Nat)) := fun es => rfl
  rw [this, List.length_map]
theorem Keep.refl (S : St) : Keep [] S S := ⟨Nat.le_refl _, fun _ _ _ _ => rfl⟩
theorem Keep.trans {S S' S'' : St} (h : Keep [] S S') (k : Keep [] S' S'') : Keep [] S S'' :=
 ⟨Nat.le_trans h.1 k.1, fun j hj _ ht => by
  have e := h.2 j hj (by simp) ht
  exact (k.2 j (Nat.lt_of_lt_of_le hj h.1) (by simp) (fun b => by rw [e]; exact ht b)).trans e⟩
theorem Keep.push (S : St) (o : AO) : Keep [] S (S.push o) := ⟨by rw [n_push']; omega, fun k hk _ _ => get_push_lt _ _ hk⟩
def Runs76 (e : Ex) (fuel : Nat) : Prop :=
 ∀ (S : St) (v : AV) (T : Option Nat) (xs : List (Nd × Ex)) (fn up place : Int), LiveT S 8 v (xs.map nxv) T → Cl S → xs.length + e.size ≤ 1000000 → ∀ p : FRes → St → Prop,
  (∀ S' v' T', LiveT S' 8 v' ((xs ++ e.pre fn xs.length ⟨fn, up, place, e.op⟩).map nxv) T' → Cl S' → Keep [] S S' → p (.ret v') S') →
   GotF (callS ED (sumG []) fuel (.fn 76) [e.enc, .int .i64 fn, .int .i64 up, .int .i64 place, v] S) p
theorem all_step {e : Ex} (he : e.fit) {fuel : Nat} (hn : e.kids.length + 2 ≤ fuel) (hkids : ∀ x ∈ e.kids, Runs76 x fuel) : Runs76 e (fuel + 1) := by
 intro S v T xs fn up place hlive hcl hsz p hp
 rw [callS_go rfl]
 have hlen := e.len
 have hidx := fun j (hj : j < e.kids.length) => e.index hj
 obtain ⟨hc1, hc2, hc3⟩ := e.cell
 have hmx := Ex.fit_len he
 have hesz := e.size_kids
 have hsl := sizes_len e.kids
 obtain ⟨v1, v2, v3, v4⟩ := live8_cell hlive
 rw [e.pre_kids] at hp
 rw [e.look]
 -- the new cell
 have hclB : Cl (S.push (.cells [.int .i64 e.op, .int .i64 e.num, .int .i64 e.mun, e.lst])) := Cl.push hcl _
 have hnB : (S.push (.cells [.int .i64 e.op, .int .i64 e.num, .int .i64 e.mun, e.lst])).n = S.n + 1 := n_push' _ _
 have hcB : (S.push (.cells [.int .i64 e.op, .int .i64 e.num, .int .i64 e.mun, e.lst])).cells? S.n = some [.int .i64 e.op, .int .i64 e.num, .int .i64 e.mun, e.lst] := cells?_push_self _ _
 have hkB := Keep.push S (.cells [.int .i64 e.op, .int .i64 e.num, .int .i64 e.mun, e.lst])
 have hlB : LiveT (S.push (.cells [.int .i64 e.op, .int .i64 e.num, .int .i64 e.mun, e.lst])) 8 v (xs.map nxv) T := liveT_get hlive (fun j hj => get_push_lt _ _ (St.get_lt hj))
 obtain ⟨w1, S1, happ, hlive1, hn1, hk1, hc1'⟩ := app65 (y := (⟨fn, up, place, e.op⟩, e)) hlB (by omega) hclB
 have hcS1 : S1.cells? S.n = some [.int .i64 e.op, .int .i64 e.num, .int .i64 e.mun, e.lst] := by
  rw [cells?_def, hk1 S.n (by omega) (fun h => by subst h; exact not_tok hcB _ hlB.2), ← cells?_def]
  exact hcB
 have hkeep1 : Keep [] S S1 := by
  refine hkB.trans ⟨by omega, fun k hk _ ht => hk1 k hk (fun h => by subst h; exact ht _ hlB.2)⟩
 simp only [nxv, nxl] at happ
 have hb61 : buildA ED 61 [(0, .int .i64 fn), (1, .int .i64 up), (2, .int .i64 place), (3, .int .i64 e.op)] = some (.agg [.int .i64 fn, .int .i64 up, .int .i64 place, .int .i64 e.op]) := rfl
 have hb65 : buildA ED 65 [(0, .agg [.int .i64 fn, .int .i64 up, .int .i64 place, .int .i64 e.op]), (1, .agg [.int .i64 e.op, .int .i64 e.num, .int .i64 e.mun, e.lst])] = some (.agg [.int .i64 fn, .int .i64 up, .int .i64 place, .int .i64 e.op, .int .i64 e.op, .int .i64 e.num, .int .i64 e.mun, e.lst]) := rfl
 simp only [fnA, ED_fn76, fi76, Tryz.f76]
 simp [vmS, hcl.1, hcl.2, hc1, hc2, hc3, v1, v2, v3, v4, hnB, hcB, hclB.1, hclB.2, happ, hc1'.1, hc1'.2, hb61, hb65]
 generalize hR : xs ++ (⟨fn, up, place, e.op⟩, e) :: Ex.pres fn e.kids ((xs.length : Int) + 1) xs.length 0 = R at hp
 have hRl : R.length = xs.length + e.size := by
  rw [← hR, List.length_append, List.length_cons, Ex.pres_length, hesz]
 generalize hc : iter _ _ _ _ = c
 obtain ⟨ex, L1, S2, rfl, hq⟩ := loop_of hc
  (fun r L S' => ∃ (j : Nat) (w : AV) (U : Option Nat) (ys : List (Nd × Ex)) (sc : List (Tmp × AV)), j + r = e.kids.length ∧ ys ++ Ex.pres fn (e.kids.drop j) ys.length xs.length j = R ∧ LiveT S' 8 w (ys.map nxv) U ∧
   L = vloc [.agg [.int .i64 e.op, .int .i64 e.num, .int .i64 e.mun, e.lst], .int .i64 fn, .int .i64 up, .int .i64 place, w, .ptr S.n 0, .nils, .int .i64 (xs.length : Nat), .int .i64 (j : Nat)] sc ∧ Cl S' ∧ Keep [] S S' ∧ S'.cells? S.n = some [.int .i64 e.op, .int .i64 e.num, .int .i64 e.mun, e.lst])
  (fun ex L S' => ex = .exit 0 ∧ ∃ (w x : AV) (U : Option Nat) (sc : List (Tmp × AV)), LiveT S' 8 w (R.map nxv) U ∧
   L = vloc [.agg [.int .i64 e.op, .int .i64 e.num, .int .i64 e.mun, e.lst], .int .i64 fn, .int .i64 up, .int .i64 place, w, .ptr S.n 0, .nils, .int .i64 (xs.length : Nat), x] sc ∧ Cl S' ∧ Keep [] S S')
  e.kids.length (by omega)
  ⟨0, w1, some (S.n + 1), xs ++ [(⟨fn, up, place, e.op⟩, e)], _, by simp, by rw [← hR]; simp, by rw [← hnB]; exact hlive1, rfl, hc1', hkeep1, hcS1⟩
  (by
   rintro r L S' ⟨j, w, U, ys, sc, hjk, hs, hlw, rfl, hcl', hkp, hcS'⟩ q hq1 hq2
   obtain ⟨z1, z2, z3, z4⟩ := live8_cell hlw
   by_cases hj : j < e.kids.length
   ·have hwj : IntKind.i64.wrap ((j : Int) + 1) = ((j : Int) + 1) := wrap_id (by omega) (by unfold maxLen at hmx; omega)
    have hix := hidx j hj
    have hrun := hkids _ (List.getElem_mem hj)
    rw [drop_kid hj] at hs
    simp only [Ex.pres] at hs
    generalize e.kids[j] = xk at *
    have xl := xk.look
    obtain ⟨g1, g2, g3⟩ := xk.cell
    rw [xl] at hix
    have hyl : ys.length + xk.size ≤ 1000000 := by
     have := congrArg List.length hs
     rw [List.length_append, List.length_append, Ex.pre_length, hRl] at this
     omega
    obtain ⟨r3, S3, hcall3, w3, U3, rfl, hl3, hc3', hk3⟩ := gotF_iff.1 (hrun S' w U ys fn xs.length (j : Nat) hlw hcl' hyl
     (fun r S3 => ∃ w3 U3, r = .ret w3 ∧ LiveT S3 8 w3 ((ys ++ xk.pre fn ys.length ⟨fn, xs.length, (j : Nat), xk.op⟩).map nxv) U3 ∧ Cl S3 ∧ Keep [] S' S3) (fun S3 w3 U3 h1 h2 h3 => ⟨w3, U3, rfl, h1, h2, h3⟩))
    rw [xl] at hcall3
    obtain ⟨y1, y2, y3, y4⟩ := live8_cell hl3
    simp [vmS, vloc, hj, hcl'.1, hcl'.2, hcS', hlen, hix, hwj, g1, g2, g3, z1, z2, z3, z4, hcall3, hc3'.1, hc3'.2]
    refine hq1 (r - 1) _ _ (by omega) ⟨j + 1, w3, U3, _, _, by omega, ?_, hl3, rfl, hc3', hkp.trans hk3, hk3.cells (by simp) hcS'⟩
    rw [← hs, List.length_append, Ex.pre_length]
    simp
   ·have hjl : j = e.kids.length := by omega
    subst hjl
    rw [List.drop_length] at hs
    simp only [Ex.pres, List.append_nil] at hs
    subst hs
    simp [vmS, vloc, hcl'.1, hcl'.2, hcS', hlen, z1, z2, z3, z4]
    exact hq2 _ _ _ (by simp) ⟨rfl, w, _, U, _, hlw, rfl, hcl', hkp⟩)
 obtain ⟨rfl, w, x, U, sc, hlw, rfl, hcl', hkp⟩ := hq
 obtain ⟨z1, z2, z3, z4⟩ := live8_cell hlw
 simp [vmS, vloc, hcl'.1, hcl'.2, z1, z2, z3]
 exact hp _ w U hlw hcl' hkp
theorem all_run : ∀ (d : Nat) (e : Ex), e.deep ≤ d → e.fit → ∃ N, ∀ n, N ≤ n → Runs76 e n := by
 intro d
 induction d with
 | zero => intro e hd _; have := e.deep_pos; omega
 | succ d ih =>
  intro e hd he
  obtain ⟨N, hN⟩ := max_fuel (P := fun x n => Runs76 x n) e.kids (fun x hx => ih x (by have := Ex.deep_kid hx; omega) (Ex.fit_kid he hx))
  refine ⟨max N (e.kids.length + 2) + 1, fun n hn => ?_⟩
  obtain ⟨m, rfl⟩ : ∃ m, n = m + 1 := ⟨n - 1, by omega⟩
  exact all_step he (by omega) (hN m (by omega))
theorem nxv_pers : ∀ xs : List (Nd × Ex), AV.persL (xs.map nxv) = true
 | [] => rfl
 | y :: xs => by
  have := nxv_pers xs
  simp [AV.persL, AV.pers, nxv, nxl, y.2.lst_pers] at this ⊢
  exact this
noncomputable def allRG : List AV → Option FRes
 | [v] => match prOf v with
  | some P => if P.funs ≠ [] ∧ allSize P.funs ≤ 100000 then some (.ret (.slice ((allPre P.funs 0 0).map nxv) .dead)) else none
  | none => none
 | _ => none
theorem allR_ok : FOk 38 allRG := by
 refine fok [] (by simp) ?_
 intro a r h
 unfold allRG at h
 split at h
 ·rename_i v
  split at h
  ·rename_i P hP
   split at h
   ·rename_i hc
    obtain ⟨hne, hsz⟩ := hc
    obtain ⟨hfit, rfl⟩ := prOf_some hP
    cases h
    obtain ⟨N, hN⟩ := max_fuel (P := fun (f : Fu) n => Runs76 f.body n) P.funs (fun f hf => all_run f.body.deep f.body (Nat.le_refl _) (hfit.1 f hf).2)
    refine ⟨by simp [AV.persL, P.pers], by simp [FRes.pers, AV.pers, nxv_pers], max N (P.funs.length + 3) + 1, fun p hp => ?_⟩
    have hn := hN (max N (P.funs.length + 3)) (by omega)
    generalize hn0 : max N (P.funs.length + 3) = n0 at *
    rw [callS_go rfl]
    obtain ⟨q1, q2, q3, q4, q5⟩ := lenV_len (P.lenV hfit) (t := 22) (e := 63) rfl
    obtain ⟨hff, hfl⟩ := hfit
    have hix := val_at P hne
    simp only [Pr.enc]
    simp only [fnA, ED_fn38, fi38, Tryz.f38]
    simp [vmS, q1, q2, q3, q4]
    generalize hT : S0.push (.cells [P.val, .int .i64 P.main]) = T
    have tc : Cl T := by subst hT; exact Cl.push Cl.zero _
    have t0 : T.cells? 0 = some [P.val, .int .i64 P.main] := by subst hT; simp [push_at, n_push', n_S0, cellsOf?]
    generalize hR : allPre P.funs 0 0 = R at hp
    have hRl : R.length = allSize P.funs := by rw [← hR, allPre_length]
    generalize hc : iter _ _ _ _ = c
    obtain ⟨ex, L1, S2, rfl, hq⟩ := loop_of hc
     (fun r L S' => ∃ (j : Nat) (w : AV) (U : Option Nat) (ys : List (Nd × Ex)) (sc : List (Tmp × AV)), j + r = P.funs.length ∧ ys ++ allPre (P.funs.drop j) ys.length j = R ∧ LiveT S' 8 w (ys.map nxv) U ∧
      L = vloc [.agg [P.val, .int .i64 P.main], .ptr 0 0, .nils, w, .int .i64 (j : Nat)] sc ∧ Cl S' ∧ S'.cells? 0 = some [P.val, .int .i64 P.main])
     (fun ex L S' => ex = .exit 0 ∧ ∃ (w x : AV) (U : Option Nat) (sc : List (Tmp × AV)), LiveT S' 8 w (R.map nxv) U ∧ L = vloc [.agg [P.val, .int .i64 P.main], .ptr 0 0, .nils, w, x] sc ∧ Cl S')
     P.funs.length (by omega)
     ⟨0, .nils, none, [], _, by simp, by simpa using hR, .inl ⟨rfl, rfl⟩, rfl, tc, t0⟩
     (by
      rintro r L S' ⟨j, w, U, ys, sc, hjk, hs, hlw, rfl, hcl', x0⟩ q hq1 hq2
      obtain ⟨z1, z2, z3, z4⟩ := live8_cell hlw
      by_cases hj : j < P.funs.length
      ·have hwj : IntKind.i64.wrap ((j : Int) + 1) = ((j : Int) + 1) := wrap_id (by omega) (by omega)
       have hixj := hix j hj
       have hrun := hn _ (List.getElem_mem hj)
       rw [List.drop_eq_getElem_cons hj] at hs
       simp only [allPre] at hs
       generalize P.funs[j] = f at *
       have xl := f.body.look
       obtain ⟨g1, g2, g3⟩ := f.body.cell
       simp only [Fu.vals] at hixj
       have hyl : ys.length + f.body.size ≤ 1000000 := by
        have := congrArg List.length hs
        rw [List.length_append, List.length_append, Ex.pre_length, hRl] at this
        omega
       obtain ⟨r3, S3, hcall3, w3, U3, rfl, hl3, hc3', hk3⟩ := gotF_iff.1 (hrun S' w U ys (j : Nat) (-1) 0 hlw hcl' hyl
        (fun r S3 => ∃ w3 U3, r = .ret w3 ∧ LiveT S3 8 w3 ((ys ++ f.body.pre (j : Nat) ys.length ⟨(j : Nat), -1, 0, f.body.op⟩).map nxv) U3 ∧ Cl S3 ∧ Keep [] S' S3) (fun S3 w3 U3 h1 h2 h3 => ⟨w3, U3, rfl, h1, h2, h3⟩))
       rw [xl] at hcall3
       obtain ⟨y1, y2, y3, y4⟩ := live8_cell hl3
       simp [vmS, vloc, hj, hcl'.1, hcl'.2, x0, q1, hixj, hwj, g1, g2, g3, z1, z2, z3, z4, hcall3, hc3'.1, hc3'.2]
       refine hq1 (r - 1) _ _ (by omega) ⟨j + 1, w3, U3, _, _, by omega, ?_, hl3, rfl, hc3', hk3.cells (by simp) x0⟩
       rw [← hs, List.length_append, Ex.pre_length]
       simp
      ·have hjl : j = P.funs.length := by omega
       subst hjl
       rw [List.drop_length] at hs
       simp only [allPre, List.append_nil] at hs
       subst hs
       simp [vmS, vloc, hcl'.1, hcl'.2, x0, q1, z1, z2, z3, z4]
       exact hq2 _ _ _ (by simp) ⟨rfl, w, _, U, _, hlw, rfl, hcl'⟩)
    obtain ⟨rfl, w, x, U, sc, hlw, rfl, hcl'⟩ := hq
    obtain ⟨z1, z2, z3, z4⟩ := live8_cell hlw
    simp [vmS, vloc, hcl'.1, hcl'.2, z1, z2, z3]
    refine hp _ _ ?_
    have hvs : ∃ tk, w = .slice (R.map nxv) tk := by
     rcases hlw.cases with ⟨_, he⟩ | h
     ·have := pre_ne hne
      rw [hR] at this
      simp at he
      exact absurd he this
     ·exact h
    obtain ⟨tk, rfl⟩ := hvs
    have hdl : AV.deadL (R.map nxv) = R.map nxv := deadL_pers _ (nxv_pers _)
    simp [FRes.melt, AV.melt, AV.dead, hdl]
   ·cases h
  ·cases h
 ·cases h
theorem allR_use {l : Sm} (h : sumG l 38 = allRG) {P : Pr} (hf : P.fit) (hne : P.funs ≠ []) (hs : allSize P.funs ≤ 100000) {n : Nat} {S : St} :
  callS ED (sumG l) n (.fn 38) [.agg [P.val, .int .i64 P.main]] S = some (.ret (.slice ((allPre P.funs 0 0).map nxv) .dead), S) := by
 refine callS_sum ?_
 obtain ⟨q, h1, h2, h3, h4⟩ := prOf_enc hf
 rw [pdead2, h]
 simp only [allRG, h1, h2]
 exact if_pos ⟨hne, hs⟩
theorem index_nx {l : List (Nd × Ex)} {tk : Tk} {j : Nat} (h : j < l.length) : indexAddrA ED 66 (.slice (l.map nxv) tk) (.int .i64 (j : Nat)) = some (.rptr (nxl l[j])) := by
 have := index_slice (E := ED) (t := 66) (e := 65) (n := (j : Int)) (k := .i64) (es := l.map nxv) (tk := tk) (v := nxv l[j]) (s := 8) rfl rfl (by omega) (by simp; omega) (by simp) rfl
 exact this
noncomputable def nodesRG : List AV → Option FRes
 | [v] => match prOf v with
  | some P => if (∀ f ∈ P.funs, f.body.size ≤ 100000) then nodesG [v] else none
  | none => none
 | _ => none
noncomputable def LQ12 : Sm := [(49, formedRG), (38, allRG)]
theorem LQ12_ok : ∀ x ∈ LQ12, FOk x.1 x.2 := by
 intro x hx
 simp only [LQ12, List.mem_cons, List.mem_nil_iff, or_false] at hx
 rcases hx with rfl | rfl
 ·exact formedR_ok
 ·exact allR_ok
theorem nodesR_ok : FOk 16 nodesRG := by
 refine fok LQ12 LQ12_ok ?_
 intro a r h
 unfold nodesRG at h
 split at h
 ·rename_i v
  split at h
  ·rename_i P hP
   split at h
   ·rename_i hs
    obtain ⟨hfit, rfl⟩ := prOf_some hP
    simp only [nodesG, hP] at h
    cases h
    obtain ⟨q1, q2, q3, q4, q5⟩ := lenV_len (P.lenV hfit) (t := 22) (e := 63) rfl
    have hu := fun m S => formedR_use (l := LQ12) rfl ⟨hfit, hs⟩ (n := m) (S := S)
    cases hF : formedB P.funs P.main with
    | false =>
     refine ⟨by simp [AV.persL, P.pers], rfl, 3, fun p hp => ?_⟩
     rw [callS_go rfl]
     simp only [Pr.enc]
     simp only [fnA, ED_fn16, fi16, Tryz.f16]
     rw [hF] at hu
     simp [vmS, q1, q2, q3, q4, hu, unA]
     exact hp _ _ rfl
    | true =>
     have hsz := (formedB_size hF).1
     have hne : P.funs ≠ [] := fun e => by rw [e] at hF; simp [formedB] at hF
     have hpl := allPre_length P.funs 0 0
     have au := fun m S => allR_use (l := LQ12) rfl hfit hne (by omega) (n := m) (S := S)
     refine ⟨by simp [AV.persL, P.pers], by rw [if_pos rfl]; simp only [FRes.pers, AV.pers, AV.persL, ndv_pers]; rfl, (allPre P.funs 0 0).length + 5, fun p hp => ?_⟩
     rw [callS_go rfl]
     simp only [Pr.enc]
     simp only [fnA, ED_fn16, fi16, Tryz.f16]
     rw [if_pos rfl] at hp
     rw [hF] at hu
     have hix := fun j (h : j < (allPre P.funs 0 0).length) => index_nx (tk := .dead) h
     have hNVc : (AV.slice ((allPre P.funs 0 0).map nxv) .dead).isCell = true ∧ (AV.slice ((allPre P.funs 0 0).map nxv) .dead).known = true ∧ (AV.slice ((allPre P.funs 0 0).map nxv) .dead).cells = [AV.slice ((allPre P.funs 0 0).map nxv) .dead] := ⟨rfl, rfl, rfl⟩
     have hlN : lenA ED 66 (.slice ((allPre P.funs 0 0).map nxv) .dead) = some (.int .i64 ((allPre P.funs 0 0).length : Nat)) := by
      have : ∀ es : List AV, lenA ED 66 (.slice es .dead) = some (.int .i64 (es.length : Nat)) := fun es => rfl
      rw [this, List.length_map]
     generalize AV.slice ((allPre P.funs 0 0).map nxv) .dead = NV at *
     obtain ⟨m1, m2, m3⟩ := hNVc
     simp [vmS, q1, q2, q3, q4, hu, au, unA]
     generalize hT : S0.push (.cells [P.val, .int .i64 P.main]) = T
     have tc : Cl T := by subst hT; exact Cl.push Cl.zero _
     generalize hR : allPre P.funs 0 0 = R at *
     generalize hc : iter _ _ _ _ = c
     obtain ⟨ex, L1, S2, rfl, hq⟩ := loop_of hc
      (fun r L S' => ∃ (j : Nat) (w : AV) (U : Option Nat) (sc : List (Tmp × AV)), j + r = R.length ∧ LiveT S' 4 w (((R.take j).map (·.1)).map ndv) U ∧
       L = vloc [.agg [P.val, .int .i64 P.main], .ptr 0 0, .nils, .int .i64 0, w, NV, .int .i64 (j : Nat)] sc ∧ Cl S')
      (fun ex L S' => ex = .exit 0 ∧ ∃ (w x : AV) (U : Option Nat) (sc : List (Tmp × AV)), LiveT S' 4 w ((R.map (·.1)).map ndv) U ∧ L = vloc [.agg [P.val, .int .i64 P.main], .ptr 0 0, .nils, .int .i64 0, w, NV, x] sc ∧ Cl S')
      R.length (by omega)
      ⟨0, .nils, none, _, by simp, .inl ⟨rfl, rfl⟩, rfl, tc⟩
      (by
       rintro r L S' ⟨j, w, U, sc, hjk, hlw, rfl, hcl'⟩ q hq1 hq2
       obtain ⟨z1, z2, z3⟩ := liveT_cell hlw
       by_cases hj : j < R.length
       ·have hwj : IntKind.i64.wrap ((j : Int) + 1) = ((j : Int) + 1) := wrap_id (by omega) (by omega)
        have hixj := hix j hj
        have htk : R.take (j + 1) = R.take j ++ [R[j]] := by rw [List.take_add_one, List.getElem?_eq_getElem hj]; rfl
        obtain ⟨w3, S3, happ, hl3, hn3, hk3, hc3'⟩ := app61 (x := R[j].1) hlw (by rw [List.length_map, List.length_take]; omega) hcl'
        have hl3' : LiveT S3 4 w3 (((R.take (j + 1)).map (·.1)).map ndv) (some S'.n) := by
         rw [htk, List.map_append]
         exact hl3
        generalize R[j] = y at *
        simp only [ndv, Nd.vals] at happ
        simp only [nxl] at hixj
        obtain ⟨y1, y2, y3⟩ := liveT_cell hl3'
        simp [vmS, vloc, hj, hcl'.1, hcl'.2, hlN, hixj, hwj, z1, z2, z3, m1, m2, m3, happ, hc3'.1, hc3'.2]
        exact hq1 (r - 1) _ _ (by omega) ⟨j + 1, w3, _, _, by omega, hl3', rfl, hc3'⟩
       ·have hjl : j = R.length := by omega
        subst hjl
        rw [List.take_length] at hlw
        simp [vmS, vloc, hcl'.1, hcl'.2, hlN, m1, m2, m3]
        exact hq2 _ _ _ (by simp) ⟨rfl, w, _, U, _, hlw, rfl, hcl'⟩)
     obtain ⟨rfl, w, x, U, sc, hlw, rfl, hcl'⟩ := hq
     obtain ⟨z1, z2, z3⟩ := liveT_cell hlw
     simp [vmS, vloc, hcl'.1, hcl'.2, z1, z2, z3]
     refine hp _ _ ?_
     have hvs : ∃ tk, w = .slice ((R.map (·.1)).map ndv) tk := by
      rcases hlw.cases with ⟨_, he⟩ | h
      ·have := pre_ne hne
       rw [hR] at this
       simp at he
       exact absurd he this
      ·exact h
     obtain ⟨tk, rfl⟩ := hvs
     have hdl : AV.deadL ((R.map (·.1)).map ndv) = (R.map (·.1)).map ndv := deadL_pers _ (ndv_pers _)
     generalize (R.map (·.1)).map ndv = nv at *
     simp [FRes.melt, AV.melt, AV.meltE, AV.dead, hdl]
   ·cases h
  ·cases h
 ·cases h
/-! two lists of nodes -/
theorem neq61 (x : Nd) : binA ED .neq 61 (.tmp 20) (.tmp 24) (.agg x.vals) (.agg x.vals) = some (.bool false) := by
 have hi : ∀ a : Int, eqA ED 9999 3 (.int .i64 a) (.int .i64 a) = some true := fun a => by
  have : eqA ED (9998 + 1) 3 (.int .i64 a) (.int .i64 a) = some (a == a) := rfl
  simpa using this
 have he : eqA ED 10000 61 (.agg x.vals) (.agg x.vals) = some true := by
  show eqA ED (9999 + 1) 61 (.agg x.vals) (.agg x.vals) = some true
  have p0 : partA ED 3 x.vals 0 = some (.int .i64 x.fn) := rfl
  have p1 : partA ED 3 x.vals 1 = some (.int .i64 x.up) := rfl
  have p2 : partA ED 3 x.vals 2 = some (.int .i64 x.place) := rfl
  have p3 : partA ED 3 x.vals 3 = some (.int .i64 x.op) := rfl
  unfold eqA
  simp [eqF, p0, p1, p2, p3, hi]
 show (if eqGuardA ED 61 (.tmp 20) (.tmp 24) (.agg x.vals) (.agg x.vals) then (eqA ED 10000 61 (.agg x.vals) (.agg x.vals)).map (fun b => AV.bool !b) else none) = _
 rw [he]
 rfl
open Classical in
noncomputable def nodalG : List AV → Option FRes
 | [.nils, .nils] => some (.ret (.bool true))
 | [.slice es .dead, .slice es' .dead] => if es = es' ∧ ∃ nds : List Nd, es = nds.map ndv ∧ nds.length ≤ 100000 then some (.ret (.bool true)) else none
 | _ => none
theorem nodal_ok : FOk 23 nodalG := by
 refine fok [] (by simp) ?_
 intro a r h
 unfold nodalG at h
 split at h
 ·cases h
  refine ⟨rfl, rfl, 3, fun p hp => ?_⟩
  rw [callS_go rfl]
  have ln : lenA ED 27 .nils = some (.int .i64 0) := rfl
  simp only [fnA, ED_fn23, fi23, Tryz.f23]
  simp [vmS, ln]
  generalize hc : iter _ _ _ _ = c
  obtain ⟨ex, L1, S1, rfl, hq⟩ := loop_of hc
   (fun r L S' => ∃ (sc : List (Tmp × AV)), L = vloc [.nils, .nils, .bool false, .int .i64 0] sc ∧ S' = S0)
   (fun ex L S' => S' = S0 ∧ ex = .exit 0 ∧ ∃ (sc : List (Tmp × AV)), L = vloc [.nils, .nils, .bool false, .int .i64 0] sc)
   0 (by omega)
   ⟨_, rfl, rfl⟩
   (by
    rintro r L S' ⟨sc, rfl, rfl⟩ q hq1 hq2
    simp [vmS, vloc, ln]
    exact hq2 _ _ _ (by simp) ⟨rfl, rfl, _, rfl⟩)
  obtain ⟨rfl, rfl, sc, rfl⟩ := hq
  simp [vmS, vloc]
  exact hp _ _ rfl
 ·rename_i es es'
  split at h
  ·rename_i hc
   obtain ⟨rfl, nds, rfl, hl⟩ := hc
   cases h
   refine ⟨by simp [AV.persL, AV.pers, ndv_pers], rfl, nds.length + 3, fun p hp => ?_⟩
   rw [callS_go rfl]
   have hix := fun j (h : j < nds.length) => index_nd (tk := .dead) h
   have ln : lenA ED 27 (.slice (nds.map ndv) .dead) = some (.int .i64 (nds.length : Nat)) := by
    have : ∀ es : List AV, lenA ED 27 (.slice es .dead) = some (.int .i64 (es.length : Nat)) := fun es => rfl
    rw [this, List.length_map]
   have hNVc : (AV.slice (nds.map ndv) .dead).isCell = true ∧ (AV.slice (nds.map ndv) .dead).known = true ∧ (AV.slice (nds.map ndv) .dead).cells = [AV.slice (nds.map ndv) .dead] := ⟨rfl, rfl, rfl⟩
   generalize AV.slice (nds.map ndv) .dead = NV at *
   obtain ⟨m1, m2, m3⟩ := hNVc
   have d0 := @dr23_0
   simp only [drA, drawsOf, Option.getD_some, List.nil_append, List.append_nil, List.getD_cons_zero, List.getD_cons_succ, List.cons_append, Tryz.f23] at d0
   simp only [fnA, ED_fn23, fi23, Tryz.f23]
   simp [vmS, ln, m1, m2, m3]
   generalize hc : iter _ _ _ _ = c
   obtain ⟨ex, L1, S1, rfl, hq⟩ := loop_of hc
    (fun r L S' => ∃ (j : Nat) (sc : List (Tmp × AV)), j + r = nds.length ∧ L = vloc [NV, NV, .bool false, .int .i64 (j : Nat)] sc ∧ S' = S0)
    (fun ex L S' => S' = S0 ∧ ex = .exit 0 ∧ ∃ (x : AV) (sc : List (Tmp × AV)), L = vloc [NV, NV, .bool false, x] sc)
    nds.length (by omega)
    ⟨0, _, by simp, rfl, rfl⟩
    (by
     rintro r L S' ⟨j, sc, hjk, rfl, rfl⟩ q hq1 hq2
     by_cases hj : j < nds.length
     ·have hwj : IntKind.i64.wrap ((j : Int) + 1) = ((j : Int) + 1) := wrap_id (by omega) (by omega)
      have hixj := hix j hj
      have hne := neq61 nds[j]
      generalize nds[j] = y at *
      simp only [Nd.vals] at hixj hne
      simp [vmS, runC_nil, runC_cons, pickC_some, wantC_tt, wantC_tf, effC_val, ifC_true, checkC, inPairs, keepC, okC, readsC_load, readV_some, AV.beq_self, wantA_n, wantA_g, wantD_some, d0, vloc, hj, ln, m1, m2, m3, hixj, hwj, hne]
      exact hq1 (r - 1) _ _ (by omega) ⟨j + 1, _, by omega, rfl, rfl⟩
     ·have hjl : j = nds.length := by omega
      subst hjl
      simp [vmS, vloc, ln, m1, m2, m3]
      exact hq2 _ _ _ (by simp) ⟨rfl, rfl, _, _, rfl⟩)
   obtain ⟨rfl, rfl, x, sc, rfl⟩ := hq
   simp [vmS, vloc]
   exact hp _ _ rfl
  ·cases h
 ·cases h
end Go.Vm.L
