/-
Define of the reference, and the law. No conditions.
-/
import Derived.Test.YtpjcmiaanjcanaaGreatDoorValM
import Derived.Test.YtpjcmiaanjcanaaGreatDoorExamples
set_option linter.all false

namespace Go.Proofs.YtpjcmiaanjcanaaGreatDoor
open Go Go.Vm Go.Vm.T
set_option maxRecDepth 100000
set_option linter.unusedSimpArgs false
set_option linter.unusedVariables false
attribute [local simp] inFrame startLoc startVals Loc.clear blockC Loc.putO Loc.put idx evO constV Loc.get Vm.look intA unwindA resultsA resultV actA pureA storeA loadA fillE repElems TI.zeroV fieldOf fieldAddrA fieldA elemsA retE cellsOf? setCells nowhere

set_option maxHeartbeats 4000000

/-! the reference's Define -/
def shB (b : Bool) : List Int → AV := if b then slcI else lstI
theorem shB_pers (b : Bool) (zs : List Int) : (shB b zs).pers = true := by
  cases b
  · exact lstI_pers zs
  · exact slcI_pers zs
theorem shB_D (b : Bool) (zs : List Int) : IntsD (shB b zs) zs := by
  cases b
  · exact lstI_D zs
  · exact .inr rfl
theorem shB_cell (b : Bool) (zs : List Int) : (shB b zs).isCell = true ∧ (shB b zs).known = true ∧ (shB b zs).cells = [shB b zs] := by
  cases b
  · cases zs <;> exact ⟨rfl, rfl, rfl⟩
  · exact ⟨rfl, rfl, rfl⟩
theorem shB_inj {b c : Bool} {x y : List Int} (h : shB b x = shB c y) : x = y := by
  have h1 : shB b x = (shB b x) := rfl
  have key : ∀ (b : Bool) (x : List Int), shB b x = .nils ∧ x = [] ∨ shB b x = .slice (ints x) .dead := by
    intro b x
    cases b
    · cases x with
      | nil => exact .inl ⟨rfl, rfl⟩
      | cons a r => exact .inr rfl
    · exact .inr rfl
  rcases key b x with ⟨h1, h2⟩ | h1 <;> rcases key c y with ⟨h3, h4⟩ | h3
  · rw [h2, h4]
  · rw [h1, h3] at h; cases h
  · rw [h1, h3] at h; cases h
  · rw [h1, h3] at h
    simp only [AV.slice.injEq, and_true] at h
    exact ints_inj h

def wordsQC : Con where
  f := 36
  X := Bool × List Int
  dom x := x.2.length ≤ 4096
  enc x := [shB x.1 x.2]
  res x := .ret (nums x.2).enc
theorem wordsQ_use {cs : List Con} (h : sumOf cs 36 = wordsQC.look) {n : Nat} {b : Bool} {zs : List Int} {S : St} (hl : zs.length ≤ 4096) :
    callS ED (sumOf cs) n (.fn 36) [shB b zs] S = some (.ret (nums zs).enc, S) :=
  Con.use (c := wordsQC) (fun (x y : Bool × List Int) hx hy h => by
    have h' : [shB x.1 x.2] = [shB y.1 y.2] := h
    simp only [List.cons.injEq, and_true] at h'
    show FRes.ret (nums x.2).enc = .ret (nums y.2).enc
    rw [shB_inj h']) h ((b, zs) : Bool × List Int) hl (by show [(shB b zs).dead] = [shB b zs]; rw [dead_of_pers _ (shB_pers b zs)])

theorem wordsQ_ok : wordsQC.Ok Tryz.prog ED := by
  refine Con.ok_at ED_ok ED_pers [] (by simp) (fun (x : Bool × List Int) _ => ⟨by show AV.persL [shB x.1 x.2] = true; simp [AV.persL, shB_pers], GV.pers _⟩) ?_
  rintro ⟨b, zs⟩ hlen
  replace hlen : zs.length ≤ 4096 := hlen
  show ∃ n, ∀ p : FRes → St → Prop, (∀ r S', r.melt S' = .ret (nums zs).enc → p r S') → GotF (callS ED (sumOf []) n (.fn 36) [shB b zs] S0) p
  refine ⟨zs.length + 2, fun p hp => ?_⟩
  have d0 := @dr36_0
  simp only [drA, drawsOf, Option.getD_some, List.nil_append, List.append_nil, List.getD_cons_zero, List.getD_cons_succ, List.cons_append, Tryz.f36] at d0
  rw [callS_fn rfl]
  have hD := shB_D b zs
  have hll := hD.len
  have hb0 : buildA ED 24 [(0, AV.int IntKind.i64 4)] = some (.agg [.int .i64 4, .int .i64 0, .nils]) := rfl
  generalize shB b zs = V at *
  simp only [fnA, ED_fn36, fi36, Tryz.f36]
  simp [vmS, hb0]
  generalize hc : iter _ _ _ _ = c
  obtain ⟨e, L', S', rfl, hq⟩ := loop_of hc
    (fun k L S => ∃ j sc v T z, j + k = zs.length ∧ L = vloc [V, .ptr 0 0, .ptr 1 0, .int .i64 (j : Nat)] sc ∧
      S.cells? 0 = some [.int .i64 0, .int .i64 0, z] ∧ S.cells? 1 = some [.int .i64 4, .int .i64 0, v] ∧ Lv S v ((zs.take j).map .num) T)
    (fun e L S => e = .exit 0 ∧ ∃ sc v T z i, L = vloc [V, .ptr 0 0, .ptr 1 0, i] sc ∧
      S.cells? 0 = some [.int .i64 0, .int .i64 0, z] ∧ S.cells? 1 = some [.int .i64 4, .int .i64 0, v] ∧ Lv S v (zs.map .num) T)
    zs.length (by omega)
    (by
      refine ⟨0, _, .nils, none, .nils, by simp, rfl, ?_, ?_, .inl ⟨rfl, by simp [GV.encs]⟩, by simp⟩
      · simp [push_at, put_at, cellsOf?, n_push']
      · simp [push_at, put_at, cellsOf?, n_push'])
    (by
      rintro k L S ⟨j, sc, v, T, z, hjk, rfl, h0, h1, hl⟩ q hq1 hq2
      by_cases hj : j < zs.length
      · obtain ⟨v', S', ha, hl', hn', hk⟩ := hl.append (.num zs[j]) (by simp; omega)
        have hkn := hl'.known
        have h0' := hk.cells _ _ h0
        have h1' := hk.cells _ _ h1
        have hw : IntKind.i64.wrap ((j : Int) + 1) = ((j : Int) + 1) := wrap_id (by omega) (by omega)
        have hix := hD.index hj
        have hb1 : buildA ED 24 [(0, AV.int IntKind.i64 1), (1, AV.int IntKind.i64 zs[j])] = some (.agg [.int .i64 1, .int .i64 zs[j], .nils]) := rfl
        simp only [GV.enc, wv] at ha
        simp [vmS, runC_nil, runC_cons, pickC_some, wantC_tt, wantC_tf, effC_val, ifC_true, checkC, inPairs, keepC, okC, readsC_load, readV_some, AV.beq_self, wantA_n, wantA_g, wantD_some, d0, vloc, hll, hj, h0, h1, hix, hb1, ha, hkn, h0', h1', hw]
        refine hq1 (k - 1) _ _ (by omega) ⟨j + 1, _, v', some S.n, z, by omega, rfl, cells_put h1' h0' (by decide), cells_put_self h1', ?_⟩
        rw [take_num hj]
        exact hl'.put h1'
      · have hjl : j = zs.length := by omega
        subst hjl
        simp [vmS, vloc, hll]
        refine hq2 _ _ _ (by simp) ⟨rfl, _, v, T, z, _, rfl, h0, h1, by simpa using hl⟩)
  obtain ⟨rfl, sc, v, T, z, i, rfl, h0, h1, hl⟩ := hq
  have hkn := hl.known
  have h00 := cells_put_self (ds := [.int .i64 4, .int .i64 0, v]) h0
  simp [vmS, vloc, h0, h1, h00, hkn]
  refine hp _ _ ?_
  simp [FRes.melt, AV.melt, AV.dead, AV.deadL, hl.dead, nums, GV.enc, sv]

end Go.Proofs.YtpjcmiaanjcanaaGreatDoor

namespace Go.Proofs.YtpjcmiaanjcanaaGreatDoor
open Go Go.Vm Go.Vm.T
set_option maxRecDepth 100000
set_option linter.unusedSimpArgs false
set_option linter.unusedVariables false
attribute [local simp] inFrame startLoc startVals Loc.clear blockC Loc.putO Loc.put idx evO constV Loc.get Vm.look intA unwindA resultsA resultV actA pureA storeA loadA fillE repElems TI.zeroV fieldOf fieldAddrA fieldA elemsA retE cellsOf? setCells nowhere

set_option maxHeartbeats 4000000

/-! what is defined -/
theorem two_at {v : RV} (h : v.kids.length = 2) :
    indexAddrA ED 22 v.lst (.int .i64 0) = some (.rptr [.int .i64 (v.kids.getD 0 dflt).kind, .int .i64 (v.kids.getD 0 dflt).num, (v.kids.getD 0 dflt).lst]) ∧
    indexAddrA ED 22 v.lst (.int .i64 1) = some (.rptr [.int .i64 (v.kids.getD 1 dflt).kind, .int .i64 (v.kids.getD 1 dflt).num, (v.kids.getD 1 dflt).lst]) := by
  have h0 := v.index (j := 0) (by omega)
  have h1 := v.index (j := 1) (by omega)
  match hk : v.kids, h with
  | [a, b], _ =>
    simp only [hk] at h0 h1
    have q0 : (a : RV).enc.cells = [.int .i64 a.kind, .int .i64 a.num, a.lst] := by rw [a.look]; rfl
    have q1 : (b : RV).enc.cells = [.int .i64 b.kind, .int .i64 b.num, b.lst] := by rw [b.look]; rfl
    simp only [List.getElem_cons_zero, List.getElem_cons_succ, q0, q1] at h0 h1
    exact ⟨h0, h1⟩

def Nm.shT : Nm → List Int → AV
  | .hull => lstI
  | _ => slcI
def Nm.shB : Nm → Bool
  | .hull => false
  | _ => true
theorem Nm.shB_eq (k : Nm) (zs : List Int) : k.shT zs = _root_.Go.Proofs.YtpjcmiaanjcanaaGreatDoor.shB k.shB zs := by cases k <;> rfl
theorem Nm.optT_pers (k : Nm) (o : Option (List Int)) : (optT k.shT o).pers = true := by
  cases o with
  | none => rfl
  | some zs => simp [optT, FRes.pers, AV.pers, AV.persL, Nm.shB_eq, shB_pers]
theorem Nm.str_inj {a b : Nm} (h : a.str = b.str) : a = b := by
  cases a <;> cases b <;> first
    | rfl
    | exact absurd h (by decide)

noncomputable def csF : List Con := [liesC, wordsRC, couplesC, compsRC, levelRC, distRC, spmvRC, walkRC, hullRC]
theorem csF_ok : ∀ d ∈ csF, d.Ok Tryz.prog ED := by simpa [csF] using ⟨lies_ok, wordsR_ok, couples_ok, compsR_ok, levelR_ok, distR_ok, spmvR_ok, walkR_ok, hullR_ok⟩
noncomputable def definedC : Con where
  f := 35
  X := Nm × RV
  dom x := OkR x.1.ty x.2
  enc x := [.str x.1.str, x.2.enc]
  res x := optT x.1.shT (x.1.out x.2)

theorem Duos2.cpl {v : RV} (h : Duos2 v) : v.kids.length ≤ 4096 ∧ ∀ k ∈ v.kids, k.kids.length ≤ 4096 := ⟨h.len, fun k hk => by rw [h.two k hk]; decide⟩
theorem couples_duo {cs : List Con} (h : sumOf cs 62 = couplesC.look) {v : RV} (hv : Duos2 v) (n : Nat) (S : St) : callS ED (sumOf cs) n (.fn 62) [.agg [.int .i64 v.kind, .int .i64 v.num, v.lst]] S = some (.ret (edgesA v.duos), S) := by
  rw [← v.look, couples_use h hv.cpl, cpl_duos hv.two]
theorem wordsR_at {cs : List Con} (h : sumOf cs 59 = wordsRC.look) {v : RV} (hv : v.kids.length ≤ 4096) (n : Nat) (S : St) : callS ED (sumOf cs) n (.fn 59) [.agg [.int .i64 v.kind, .int .i64 v.num, v.lst]] S = some (.ret (slcI v.wds), S) := by
  rw [← v.look, wordsR_use h hv]
theorem duos_len {v : RV} (h : Duos2 v) : v.duos.length ≤ 4096 := by
  unfold RV.duos
  rw [List.length_map]
  exact h.len

theorem optT_cases (f : List Int → AV) (hf : ∀ zs, (f zs).isCell = true ∧ (f zs).known = true) (o : Option (List Int)) : ∃ a b, optT f o = .ret (.tup [a, .bool b]) ∧ a.isCell = true ∧ a.known = true := by
  cases o with
  | none => exact ⟨_, _, rfl, rfl, rfl⟩
  | some zs => exact ⟨_, _, rfl, (hf zs).1, (hf zs).2⟩
theorem pers_melt {r : FRes} {S : St} (h : r.pers = true) : r.melt S = r := by
  cases r with
  | ret v => exact congrArg FRes.ret (melt_pers h _)
  | pan v => exact congrArg FRes.pan (melt_pers h _)

theorem defined_comps {v : RV} (h : OkR tComps v) : ∃ n, ∀ p : FRes → St → Prop, (∀ r S', r.melt S' = optT slcI (clampO (gN v) (compsOut (gN v).toNat (gE v))) → p r S') → GotF (callS ED (sumOf csF) n (.fn 35) [.str nComps, v.enc] S0) p := by
  have hv := compsV h
  refine ⟨10, fun p hp => ?_⟩
  rw [callS_fn rfl]
  obtain ⟨i0, i1⟩ := two_at hv.two
  have d0 := @dr35_2
  simp only [drA, drawsOf, Option.getD_some, List.nil_append, List.append_nil, List.getD_cons_zero, List.getD_cons_succ, List.cons_append, Tryz.f35] at d0
  have uL := fun (n : Nat) (S : St) (a : Int) => lies_use (cs := csF) (by funext a; rfl) (n := n) (S := S) (a := a) (b := 0) (c := 4096)
  have uC := couples_duo (cs := csF) (by funext a; rfl) hv.d
  have hdl := duos_len hv.d
  have e := v.look
  obtain ⟨c1, c2, c3⟩ := v.cell
  obtain ⟨y1, y2, y3⟩ := (v.kids.getD 1 dflt).cell
  unfold gN gE at hp
  rw [e]
  generalize v.lst = A at *
  generalize v.kind = vk at *
  generalize v.num = vn at *
  generalize v.kids.getD 0 dflt = x at *
  generalize v.kids.getD 1 dflt = y at *
  simp only [fnA, ED_fn35, fi35, Tryz.f35, nComps]
  by_cases hN : 0 ≤ x.num ∧ x.num ≤ 4096
  · have hNt : ((x.num.toNat : Nat) : Int) = x.num := by omega
    have uX := fun (n : Nat) (S : St) => compsR_use (cs := csF) (by funext a; rfl) (n := n) (S := S) (N := x.num.toNat) (es := y.duos) (by omega) hdl
    rw [hNt] at uX
    have hcl : clampO x.num (compsOut x.num.toNat y.duos) = compsOut x.num.toNat y.duos := by unfold clampO; rw [if_pos hN]
    rw [hcl] at hp
    obtain ⟨a, b, hab, q1, q2⟩ := optT_cases slcI (fun zs => ⟨rfl, rfl⟩) (compsOut x.num.toNat y.duos)
    have hpers := optT_slc (compsOut x.num.toNat y.duos)
    rw [hab] at uX hp hpers
    simp [vmS, runC_nil, runC_cons, pickC_some, wantC_tt, wantC_tf, effC_val, ifC_true, checkC, inPairs, keepC, okC, readsC_load, readV_some, AV.beq_self, wantA_n, wantA_g, wantD_some, eq_str, c1, c2, c3, i0, i1, uL, hN, unA, d0, y1, y2, y3, uC, uX, q1, q2]
    exact hp _ _ (pers_melt hpers)
  · have hcl : clampO x.num (compsOut x.num.toNat y.duos) = none := by unfold clampO; rw [if_neg hN]
    rw [hcl] at hp
    have hN' : (decide (0 ≤ x.num) && decide (x.num ≤ 4096)) = false := by simpa using hN
    simp [vmS, runC_nil, runC_cons, pickC_some, wantC_tt, wantC_tf, effC_val, ifC_true, checkC, inPairs, keepC, okC, readsC_load, readV_some, AV.beq_self, wantA_n, wantA_g, wantD_some, eq_str, c1, c2, c3, i0, i1, uL, hN', unA]
    exact hp _ _ rfl

theorem defined_level {v : RV} (h : OkR tComps v) : ∃ n, ∀ p : FRes → St → Prop, (∀ r S', r.melt S' = optT slcI (clampO (gN v) (levelOut (gN v).toNat (gE v))) → p r S') → GotF (callS ED (sumOf csF) n (.fn 35) [.str nLevel, v.enc] S0) p := by
  have hv := compsV h
  refine ⟨10, fun p hp => ?_⟩
  rw [callS_fn rfl]
  obtain ⟨i0, i1⟩ := two_at hv.two
  have d0 := @dr35_3
  simp only [drA, drawsOf, Option.getD_some, List.nil_append, List.append_nil, List.getD_cons_zero, List.getD_cons_succ, List.cons_append, Tryz.f35] at d0
  have uL := fun (n : Nat) (S : St) (a : Int) => lies_use (cs := csF) (by funext a; rfl) (n := n) (S := S) (a := a) (b := 0) (c := 4096)
  have uC := couples_duo (cs := csF) (by funext a; rfl) hv.d
  have hdl := duos_len hv.d
  have e := v.look
  obtain ⟨c1, c2, c3⟩ := v.cell
  obtain ⟨y1, y2, y3⟩ := (v.kids.getD 1 dflt).cell
  unfold gN gE at hp
  rw [e]
  generalize v.lst = A at *
  generalize v.kind = vk at *
  generalize v.num = vn at *
  generalize v.kids.getD 0 dflt = x at *
  generalize v.kids.getD 1 dflt = y at *
  simp only [fnA, ED_fn35, fi35, Tryz.f35, nLevel]
  by_cases hN : 0 ≤ x.num ∧ x.num ≤ 4096
  · have hNt : ((x.num.toNat : Nat) : Int) = x.num := by omega
    have uX := fun (n : Nat) (S : St) => levelR_use (cs := csF) (by funext a; rfl) (n := n) (S := S) (N := x.num.toNat) (es := y.duos) (by omega) hdl
    rw [hNt] at uX
    have hcl : clampO x.num (levelOut x.num.toNat y.duos) = levelOut x.num.toNat y.duos := by unfold clampO; rw [if_pos hN]
    rw [hcl] at hp
    obtain ⟨a, b, hab, q1, q2⟩ := optT_cases slcI (fun zs => ⟨rfl, rfl⟩) (levelOut x.num.toNat y.duos)
    have hpers := optT_slc (levelOut x.num.toNat y.duos)
    rw [hab] at uX hp hpers
    simp [vmS, runC_nil, runC_cons, pickC_some, wantC_tt, wantC_tf, effC_val, ifC_true, checkC, inPairs, keepC, okC, readsC_load, readV_some, AV.beq_self, wantA_n, wantA_g, wantD_some, eq_str, c1, c2, c3, i0, i1, uL, hN, unA, d0, y1, y2, y3, uC, uX, q1, q2]
    exact hp _ _ (pers_melt hpers)
  · have hcl : clampO x.num (levelOut x.num.toNat y.duos) = none := by unfold clampO; rw [if_neg hN]
    rw [hcl] at hp
    have hN' : (decide (0 ≤ x.num) && decide (x.num ≤ 4096)) = false := by simpa using hN
    simp [vmS, runC_nil, runC_cons, pickC_some, wantC_tt, wantC_tf, effC_val, ifC_true, checkC, inPairs, keepC, okC, readsC_load, readV_some, AV.beq_self, wantA_n, wantA_g, wantD_some, eq_str, c1, c2, c3, i0, i1, uL, hN', unA]
    exact hp _ _ rfl

theorem defined_dist {v : RV} (h : OkR tDist v) : ∃ n, ∀ p : FRes → St → Prop, (∀ r S', r.melt S' = optT slcI (clampO (gN v) (distOut (gN v).toNat (dStart v) (dE v))) → p r S') → GotF (callS ED (sumOf csF) n (.fn 35) [.str nDist, v.enc] S0) p := by
  have hv := distV h
  refine ⟨10, fun p hp => ?_⟩
  rw [callS_fn rfl]
  obtain ⟨i0, i1⟩ := two_at hv.two
  obtain ⟨i2, i3⟩ := two_at hv.two'
  have d0 := @dr35_4
  simp only [drA, drawsOf, Option.getD_some, List.nil_append, List.append_nil, List.getD_cons_zero, List.getD_cons_succ, List.cons_append, Tryz.f35] at d0
  have uL := fun (n : Nat) (S : St) (a : Int) => lies_use (cs := csF) (by funext a; rfl) (n := n) (S := S) (a := a) (b := 0) (c := 4096)
  have uC := couples_duo (cs := csF) (by funext a; rfl) hv.d
  have hdl := duos_len hv.d
  have e := v.look
  obtain ⟨c1, c2, c3⟩ := v.cell
  obtain ⟨y1, y2, y3⟩ := (v.kids.getD 1 dflt).cell
  obtain ⟨z1, z2, z3⟩ := ((v.kids.getD 1 dflt).kids.getD 1 dflt).cell
  unfold gN dE dStart at hp
  rw [e]
  generalize v.lst = A at *
  generalize v.kind = vk at *
  generalize v.num = vn at *
  generalize v.kids.getD 0 dflt = x at *
  generalize v.kids.getD 1 dflt = y at *
  generalize y.kids.getD 0 dflt = s at *
  generalize y.kids.getD 1 dflt = z at *
  generalize y.lst = B at *
  simp only [fnA, ED_fn35, fi35, Tryz.f35, nDist]
  by_cases hN : 0 ≤ x.num ∧ x.num ≤ 4096
  · have hNt : ((x.num.toNat : Nat) : Int) = x.num := by omega
    have uX := fun (n : Nat) (S : St) => distR_use (cs := csF) (by funext a; rfl) (n := n) (S := S) (N := x.num.toNat) (sz := s.num) (es := z.duos) (by omega) hdl
    rw [hNt] at uX
    have hcl : clampO x.num (distOut x.num.toNat s.num z.duos) = distOut x.num.toNat s.num z.duos := by unfold clampO; rw [if_pos hN]
    rw [hcl] at hp
    obtain ⟨a, b, hab, q1, q2⟩ := optT_cases slcI (fun zs => ⟨rfl, rfl⟩) (distOut x.num.toNat s.num z.duos)
    have hpers := optT_slc (distOut x.num.toNat s.num z.duos)
    rw [hab] at uX hp hpers
    simp [vmS, runC_nil, runC_cons, pickC_some, wantC_tt, wantC_tf, effC_val, ifC_true, checkC, inPairs, keepC, okC, readsC_load, readV_some, AV.beq_self, wantA_n, wantA_g, wantD_some, eq_str, c1, c2, c3, i0, i1, i2, i3, uL, hN, unA, d0, y1, y2, y3, z1, z2, z3, uC, uX, q1, q2]
    exact hp _ _ (pers_melt hpers)
  · have hcl : clampO x.num (distOut x.num.toNat s.num z.duos) = none := by unfold clampO; rw [if_neg hN]
    rw [hcl] at hp
    have hN' : (decide (0 ≤ x.num) && decide (x.num ≤ 4096)) = false := by simpa using hN
    simp [vmS, runC_nil, runC_cons, pickC_some, wantC_tt, wantC_tf, effC_val, ifC_true, checkC, inPairs, keepC, okC, readsC_load, readV_some, AV.beq_self, wantA_n, wantA_g, wantD_some, eq_str, c1, c2, c3, i0, i1, uL, hN', unA]
    exact hp _ _ rfl

theorem wds_len {v : RV} (h : v.kids.length ≤ 4096) : v.wds.length ≤ 4096 := by
  unfold RV.wds
  rw [List.length_map]
  exact h
theorem defined_spmv {v : RV} (h : OkR tSpmv v) : ∃ n, ∀ p : FRes → St → Prop, (∀ r S', r.melt S' = optT slcI (timesL (sRows v) (sWds v)) → p r S') → GotF (callS ED (sumOf csF) n (.fn 35) [.str nSpmv, v.enc] S0) p := by
  have hv := spmvV h.is h.short
  refine ⟨10, fun p hp => ?_⟩
  rw [callS_fn rfl]
  obtain ⟨i0, i1⟩ := two_at hv.two
  have d0 := @dr35_0
  simp only [drA, drawsOf, Option.getD_some, List.nil_append, List.append_nil, List.getD_cons_zero, List.getD_cons_succ, List.cons_append, Tryz.f35] at d0
  have uW := wordsR_at (cs := csF) (by funext a; rfl) hv.w
  have uX := fun (n : Nat) (S : St) => spmvR_use (cs := csF) (by funext a; rfl) (n := n) (S := S) hv.r (wds_len hv.w)
  have e := v.look
  obtain ⟨c1, c2, c3⟩ := v.cell
  obtain ⟨x1, x2, x3⟩ := (v.kids.getD 0 dflt).cell
  obtain ⟨y1, y2, y3⟩ := (v.kids.getD 1 dflt).cell
  unfold sRows sWds at hp
  rw [e]
  generalize v.lst = A at *
  generalize v.kind = vk at *
  generalize v.num = vn at *
  generalize v.kids.getD 0 dflt = x at *
  generalize v.kids.getD 1 dflt = y at *
  obtain ⟨a, b, hab, q1, q2⟩ := optT_cases slcI (fun zs => ⟨rfl, rfl⟩) (timesL x.rows y.wds)
  have hpers := optT_slc (timesL x.rows y.wds)
  rw [hab] at uX hp hpers
  simp only [fnA, ED_fn35, fi35, Tryz.f35, nSpmv]
  simp [vmS, runC_nil, runC_cons, pickC_some, wantC_tt, wantC_tf, effC_val, ifC_true, checkC, inPairs, keepC, okC, readsC_load, readV_some, AV.beq_self, wantA_n, wantA_g, wantD_some, eq_str, c1, c2, c3, i0, i1, unA, d0, x1, x2, x3, y1, y2, y3, uW, uX, q1, q2]
  exact hp _ _ (pers_melt hpers)

theorem defined_walk {v : RV} (h : OkR tWalk v) : ∃ n, ∀ p : FRes → St → Prop, (∀ r S', r.melt S' = optT slcI (walkOut (gN v) (wRows v) (wWds v)) → p r S') → GotF (callS ED (sumOf csF) n (.fn 35) [.str nWalk, v.enc] S0) p := by
  have hv := walkV h
  refine ⟨10, fun p hp => ?_⟩
  rw [callS_fn rfl]
  obtain ⟨i0, i1⟩ := two_at hv.two
  obtain ⟨i2, i3⟩ := two_at hv.s.two
  have d0 := @dr35_1
  simp only [drA, drawsOf, Option.getD_some, List.nil_append, List.append_nil, List.getD_cons_zero, List.getD_cons_succ, List.cons_append, Tryz.f35] at d0
  have uW := wordsR_at (cs := csF) (by funext a; rfl) hv.s.w
  have uX := fun (n : Nat) (S : St) => walkR_use (cs := csF) (by funext a; rfl) (n := n) (S := S) (m := gN v) hv.s.r (wds_len hv.s.w)
  have e := v.look
  obtain ⟨c1, c2, c3⟩ := v.cell
  obtain ⟨y1, y2, y3⟩ := (v.kids.getD 1 dflt).cell
  obtain ⟨z1, z2, z3⟩ := ((v.kids.getD 1 dflt).kids.getD 1 dflt).cell
  obtain ⟨x1, x2, x3⟩ := ((v.kids.getD 1 dflt).kids.getD 0 dflt).cell
  unfold gN at uX
  unfold gN wRows wWds at hp
  rw [e]
  generalize v.lst = A at *
  generalize v.kind = vk at *
  generalize v.num = vn at *
  generalize v.kids.getD 0 dflt = x at *
  generalize v.kids.getD 1 dflt = y at *
  generalize y.kids.getD 0 dflt = s at *
  generalize y.kids.getD 1 dflt = z at *
  generalize y.lst = B at *
  obtain ⟨a, b, hab, q1, q2⟩ := optT_cases slcI (fun zs => ⟨rfl, rfl⟩) (walkOut x.num s.rows z.wds)
  have hpers := optT_slc (walkOut x.num s.rows z.wds)
  rw [hab] at uX hp hpers
  simp only [fnA, ED_fn35, fi35, Tryz.f35, nWalk]
  simp [vmS, runC_nil, runC_cons, pickC_some, wantC_tt, wantC_tf, effC_val, ifC_true, checkC, inPairs, keepC, okC, readsC_load, readV_some, AV.beq_self, wantA_n, wantA_g, wantD_some, eq_str, c1, c2, c3, i0, i1, i2, i3, unA, d0, x1, x2, x3, y1, y2, y3, z1, z2, z3, uW, uX, q1, q2]
  exact hp _ _ (pers_melt hpers)

theorem lstI_cell (zs : List Int) : (lstI zs).isCell = true ∧ (lstI zs).known = true := by cases zs <;> exact ⟨rfl, rfl⟩
theorem defined_hull {v : RV} (h : OkR tDuos v) : ∃ n, ∀ p : FRes → St → Prop, (∀ r S', r.melt S' = optT lstI (hullOut v.duos) → p r S') → GotF (callS ED (sumOf csF) n (.fn 35) [.str nHull, v.enc] S0) p := by
  have hv := duos_2 h.is h.short
  refine ⟨10, fun p hp => ?_⟩
  rw [callS_fn rfl]
  have uC := couples_duo (cs := csF) (by funext a; rfl) hv
  have uX := fun (n : Nat) (S : St) => hullR_use (cs := csF) (by funext a; rfl) (n := n) (S := S) (duos_len hv)
  have e := v.look
  obtain ⟨c1, c2, c3⟩ := v.cell
  obtain ⟨f1, f2, f3⟩ := edgesA_cell v.duos
  rw [e]
  generalize v.lst = A at *
  generalize v.kind = vk at *
  generalize v.num = vn at *
  obtain ⟨a, b, hab, q1, q2⟩ := optT_cases lstI lstI_cell (hullOut v.duos)
  have hpers := optT_lst (hullOut v.duos)
  rw [hab] at uX hp hpers
  simp only [fnA, ED_fn35, fi35, Tryz.f35, nHull]
  simp [vmS, runC_nil, runC_cons, pickC_some, wantC_tt, wantC_tf, effC_val, ifC_true, checkC, inPairs, keepC, okC, readsC_load, readV_some, AV.beq_self, wantA_n, wantA_g, wantD_some, eq_str, c1, c2, c3, unA, f1, f2, f3, uC, uX, q1, q2]
  exact hp _ _ (pers_melt hpers)

theorem defined_ok : definedC.Ok Tryz.prog ED := by
  refine ⟨fun (x : Nm × RV) _ => ⟨by show AV.persL [.str x.1.str, x.2.enc] = true; simp [AV.persL, AV.pers, RV.pers], Nm.optT_pers _ _⟩, ?_⟩
  rintro ⟨k, v⟩ hv
  replace hv : OkR k.ty v := hv
  show Sound Tryz.prog ED 35 [.str k.str, v.enc] (optT k.shT (k.out v))
  refine got_more csF_ok ?_ (Nm.optT_pers _ _)
  cases k with
  | comps => exact defined_comps hv
  | dist => exact defined_dist hv
  | level => exact defined_level hv
  | spmv => exact defined_spmv hv
  | walk => exact defined_walk hv
  | hull => exact defined_hull hv
theorem defined_use {cs : List Con} (h : sumOf cs 35 = definedC.look) {n : Nat} {k : Nm} {v : RV} {S : St} (hv : OkR k.ty v) : callS ED (sumOf cs) n (.fn 35) [.str k.str, v.enc] S = some (optT k.shT (k.out v), S) :=
  Con.use (c := definedC) (fun (x y : Nm × RV) _ _ h => by
    have h' : [AV.str x.1.str, x.2.enc] = [AV.str y.1.str, y.2.enc] := h
    simp only [List.cons.injEq, AV.str.injEq, and_true] at h'
    show optT x.1.shT (x.1.out x.2) = optT y.1.shT (y.1.out y.2)
    rw [Nm.str_inj h'.1, RV.inj h'.2]) h ((k, v) : Nm × RV) hv (by show [(AV.str k.str).dead, v.enc.dead] = [.str k.str, v.enc]; simp [AV.dead])

end Go.Proofs.YtpjcmiaanjcanaaGreatDoor

namespace Go.Proofs.YtpjcmiaanjcanaaGreatDoor
open Go Go.Vm Go.Vm.T
set_option maxRecDepth 100000
set_option linter.unusedSimpArgs false
set_option linter.unusedVariables false
attribute [local simp] inFrame startLoc startVals Loc.clear blockC Loc.putO Loc.put idx evO constV Loc.get Vm.look intA unwindA resultsA resultV actA pureA storeA loadA fillE repElems TI.zeroV fieldOf fieldAddrA fieldA elemsA retE cellsOf? setCells nowhere

set_option maxHeartbeats 4000000

/-! the reference's Define -/
noncomputable def csG : List Con := [typesRC, rcheckC, definedC, wordsQC]
theorem csG_ok : ∀ d ∈ csG, d.Ok Tryz.prog ED := by simpa [csG] using ⟨typesR_ok, rcheck_ok, defined_ok, wordsQ_ok⟩
noncomputable def defRC : Con where
  f := 11
  X := List UInt8 × RV
  dom x := x.2.fit
  enc x := [.str x.1, x.2.enc]
  res x := defRes x.1 x.2

theorem defR_ok : defRC.Ok Tryz.prog ED := by
  refine Con.ok_at ED_ok ED_pers csG csG_ok (fun (x : List UInt8 × RV) _ => ⟨by show AV.persL [.str x.1, x.2.enc] = true; simp [AV.persL, AV.pers, RV.pers], defRes_pers _ _⟩) ?_
  rintro ⟨s, v⟩ hv
  replace hv : v.fit := hv
  show ∃ n, ∀ p : FRes → St → Prop, (∀ r S', r.melt S' = defRes s v → p r S') → GotF (callS ED (sumOf csG) n (.fn 11) [.str s, v.enc] S0) p
  refine ⟨10, fun p hp => ?_⟩
  rw [callS_fn rfl]
  have uT := fun (n : Nat) (S : St) => str_use (cs := csG) (f := 9) (res := typesRes) (by funext a; rfl) (n := n) (s := s) (S := S)
  have hb0 : buildA ED 24 [] = some (.agg [.int .i64 0, .int .i64 0, .nils]) := rfl
  have e := v.look
  obtain ⟨c1, c2, c3⟩ := v.cell
  cases hw : whichOf s with
  | none =>
    have hr : defRes s v = .ret (.tup [errV, .int .i64 4]) := by unfold defRes; rw [hw]
    have ht : typesRes s = .ret (.tup [errV, errV, .int .i64 4]) := by unfold typesRes; rw [hw]
    rw [hr] at hp
    rw [ht] at uT
    unfold errV at uT
    rw [e]
    generalize v.lst = A at *
    generalize v.kind = vk at *
    generalize v.num = vn at *
    simp only [fnA, ED_fn11, fi11, Tryz.f11]
    simp [vmS, lenA, indexAddrA, uT, c1, c2, c3, hb0]
    exact hp _ _ rfl
  | some j =>
    have hs := whichOf_some hw
    subst hs
    have ht : typesRes j.str = .ret (.tup [j.ty.enc, (Ty.seq .num).enc, .int .i64 0]) := by unfold typesRes; rw [hw]
    have hr : defRes j.str v = if checkR j.ty v = 0 then (match j.out v with | some zs => .ret (.tup [(nums zs).enc, .int .i64 0]) | none => .ret (.tup [errV, .int .i64 14])) else .ret (.tup [errV, .int .i64 1]) := by unfold defRes; rw [hw]; rfl
    rw [hr] at hp
    rw [ht] at uT
    have uC := fun (n : Nat) (S : St) => rcheck_use (cs := csG) (by funext a; rfl) (n := n) (S := S) j.five hv
    have hcc : rcheckR j.ty v = 0 ↔ checkR j.ty v = 0 := (rcheck_iff (five_bnd j.five)).trans check_iff.symm
    have uD := fun (h : checkR j.ty v = 0) (n : Nat) (S : St) => defined_use (cs := csG) (by funext a; rfl) (n := n) (S := S) (check_iff.1 h)
    have uQ := fun (n : Nat) (S : St) (zs : List Int) (hl : zs.length ≤ 4096) => wordsQ_use (cs := csG) (by funext a; rfl) (n := n) (S := S) (b := j.shB) hl
    have hlen : checkR j.ty v = 0 → ∀ zs, j.out v = some zs → zs.length ≤ 4096 := fun h zs hz => Nm.len (check_iff.1 h) hz
    have hcell := fun zs => shB_cell j.shB zs
    obtain ⟨tk, tL, te, tc, tc2⟩ := j.ty.look
    obtain ⟨tk', tL', te', td, td2⟩ := (Ty.seq .num).look
    rw [te, te'] at uT
    rw [te] at uC
    simp only [optT, Nm.shB_eq] at uD
    generalize checkR j.ty v = cr at *
    generalize rcheckR j.ty v = cr' at *
    generalize j.out v = out at *
    rw [e] at uC uD ⊢
    generalize v.lst = A at *
    generalize v.kind = vk at *
    generalize v.num = vn at *
    generalize j.str = nm at *
    simp only [fnA, ED_fn11, fi11, Tryz.f11]
    by_cases hcr : cr = 0
    · have hcr' : cr' = 0 := hcc.2 hcr
      rw [if_pos hcr] at hp
      subst hcr'
      replace uD := uD hcr
      replace hlen := hlen hcr
      cases hout : out with
      | none =>
        simp only [hout, optT] at uD hp
        simp [vmS, lenA, indexAddrA, uT, uC, uD, c1, c2, c3, hb0, tc, tc2, td, td2, unA]
        exact hp _ _ rfl
      | some zs =>
        simp only [hout, optT, Nm.shB_eq] at uD hp
        have hll := hlen zs hout
        have uQ' := fun n S => uQ n S zs hll
        obtain ⟨g1, g2, g3⟩ := hcell zs
        obtain ⟨k, z, x, e1, e2⟩ := (nums zs).shape
        have hpers := GV.pers (nums zs)
        rw [e1] at uQ' hp hpers
        generalize shB j.shB zs = V at *
        simp [vmS, lenA, indexAddrA, uT, uC, uD, uQ', c1, c2, c3, hb0, tc, tc2, td, td2, unA, g1, g2, g3, e2]
        exact hp _ _ (pers_melt (by simpa [FRes.pers, AV.pers, AV.persL] using hpers))
    · have hcr' : ¬ cr' = 0 := fun h => hcr (hcc.1 h)
      rw [if_neg hcr] at hp
      simp [vmS, lenA, indexAddrA, uT, uC, hcr', c1, c2, c3, hb0, tc, tc2, td, td2]
      exact hp _ _ rfl
theorem defR_use {cs : List Con} (h : sumOf cs 11 = defRC.look) {n : Nat} {s : List UInt8} {v : RV} {S : St} (hv : v.fit) : callS ED (sumOf cs) n (.fn 11) [.str s, v.enc] S = some (defRes s v, S) :=
  Con.use (c := defRC) (fun (x y : List UInt8 × RV) _ _ h => by
    have h' : [AV.str x.1, x.2.enc] = [AV.str y.1, y.2.enc] := h
    simp only [List.cons.injEq, AV.str.injEq, and_true] at h'
    show defRes x.1 x.2 = defRes y.1 y.2
    rw [h'.1, RV.inj h'.2]) h ((s, v) : List UInt8 × RV) hv (by show [(AV.str s).dead, v.enc.dead] = [.str s, v.enc]; simp [AV.dead])

end Go.Proofs.YtpjcmiaanjcanaaGreatDoor

namespace Go.Proofs.YtpjcmiaanjcanaaGreatDoor
open Go Go.Vm Go.Vm.T
set_option maxRecDepth 100000
set_option linter.unusedSimpArgs false
set_option linter.unusedVariables false
attribute [local simp] inFrame startLoc startVals Loc.clear blockC Loc.putO Loc.put idx evO constV Loc.get Vm.look intA unwindA resultsA resultV actA pureA storeA loadA fillE repElems TI.zeroV fieldOf fieldAddrA fieldA elemsA retE cellsOf? setCells nowhere

set_option maxHeartbeats 4000000

/-! the law -/
noncomputable def csLaw : List Con := [greatC, graphedC, textC, textRC, typesC, typesRC, defC, defRC, names1C, names2C, eqTextsC, stC, svC]
theorem csLaw_ok : ∀ d ∈ csLaw, d.Ok Tryz.prog ED := by simpa [csLaw] using ⟨great_ok, graphed_ok, text_ok, textR_ok, types_ok, typesR_ok, def_ok, defR_ok, names1_ok, names2_ok, eqTexts_ok, st_ok, sv_ok⟩

theorem tyOf_look (o : Option Ty) : ∃ k z x, tyOf o = .agg [.int .i64 k, .int .i64 z, x] ∧ x.isCell = true ∧ x.known = true := by
  cases o with
  | none => exact ⟨_, _, _, rfl, rfl, rfl⟩
  | some t =>
    obtain ⟨k, x, e, h1, h2⟩ := t.look
    exact ⟨_, _, x, e, h1, h2⟩
theorem valOf_look (o : Option (List Int)) : ∃ k z x, valOf o = .agg [.int .i64 k, .int .i64 z, x] ∧ x.isCell = true ∧ x.known = true := by
  cases o with
  | none => exact ⟨_, _, _, rfl, rfl, rfl⟩
  | some zs => exact ⟨_, _, _, rfl, gv_lst.1, gv_lst.2⟩
theorem text_look (s : List UInt8) : ∃ t e, textRes s = .ret (.tup [.str t, .int .i64 e]) := by
  unfold textRes
  split
  · exact ⟨_, _, rfl⟩
  · exact ⟨_, _, rfl⟩
theorem types_look (s : List UInt8) : ∃ o1 o2 e, typesRes s = .ret (.tup [tyOf o1, tyOf o2, .int .i64 e]) ∧ stOk o1 ∧ stOk o2 := by
  unfold typesRes
  split
  · rename_i k _
    exact ⟨some k.ty, some (.seq .num), 0, rfl, .inr (.inr ⟨_, k.five, rfl⟩), .inr (.inl rfl)⟩
  · exact ⟨none, none, 4, rfl, .inl rfl, .inl rfl⟩
theorem def_look (s : List UInt8) (v : RV) : ∃ o e, defRes s v = .ret (.tup [valOf o, .int .i64 e]) ∧ ∀ zs, o = some zs → zs.length ≤ 4096 := by
  unfold defRes
  split
  · exact ⟨none, 4, rfl, fun _ h => by cases h⟩
  · rename_i j _
    split
    · rename_i hc
      split
      · rename_i zs hz
        exact ⟨some zs, 0, rfl, fun ys h => by
          cases h
          exact Nm.len (check_iff.1 hc) hz⟩
      · exact ⟨none, 14, rfl, fun _ h => by cases h⟩
    · exact ⟨none, 1, rfl, fun _ h => by cases h⟩

theorem law_run (s : List UInt8) {v : RV} (hv : v.fit) : ∃ n, ∀ p : FRes → St → Prop, (∀ r S', r.melt S' = .ret (.bool true) → p r S') → GotF (callS ED (sumOf csLaw) n (.fn 3) [.str s, v.enc] S0) p := by
  refine ⟨10, fun p hp => ?_⟩
  rw [callS_fn rfl]
  have u4 := fun (n : Nat) (S : St) => great_use (cs := csLaw) (by funext a; rfl) (n := n) (S := S) (m := 200) hv
  have u5 := fun (n : Nat) (S : St) => graphed_use (cs := csLaw) (by funext a; rfl) (n := n) (S := S)
  have u6 := fun (n : Nat) (S : St) => text_use (cs := csLaw) (by funext a; rfl) (n := n) (S := S) (s := s)
  have u7 := fun (n : Nat) (S : St) => textR_use (cs := csLaw) (by funext a; rfl) (n := n) (S := S) (s := s)
  have u8 := fun (n : Nat) (S : St) => str_use (cs := csLaw) (f := 8) (res := typesRes) (by funext a; rfl) (n := n) (s := s) (S := S)
  have u9 := fun (n : Nat) (S : St) => str_use (cs := csLaw) (f := 9) (res := typesRes) (by funext a; rfl) (n := n) (s := s) (S := S)
  have u10 := fun (n : Nat) (S : St) => def_use (cs := csLaw) (by funext a; rfl) (n := n) (S := S) (s := s) hv
  have u11 := fun (n : Nat) (S : St) => defR_use (cs := csLaw) (by funext a; rfl) (n := n) (S := S) (s := s) hv
  have u13 := fun (n : Nat) (S : St) => closed_use (cs := csLaw) (f := 13) (args := []) (r := .ret namesV) (by rfl) rfl (n := n) (S := S)
  have u14 := fun (n : Nat) (S : St) => closed_use (cs := csLaw) (f := 14) (args := []) (r := .ret namesV) (by rfl) rfl (n := n) (S := S)
  have u12 := fun (n : Nat) (S : St) => closed_use (cs := csLaw) (f := 12) (args := [namesV, namesV]) (r := .ret (.bool true)) (by rfl) (by kernel_rfl) (n := n) (S := S)
  have hn1 : namesV.isCell = true := rfl
  have hn2 : namesV.known = true := rfl
  obtain ⟨t, te, ht⟩ := text_look s
  rw [ht] at u6 u7
  obtain ⟨o1, o2, ye, hy, ho1, ho2⟩ := types_look s
  rw [hy] at u8 u9
  obtain ⟨o, de, hd, hol⟩ := def_look s v
  rw [hd] at u10 u11
  have u15a := fun (n : Nat) (S : St) => st_use (cs := csLaw) (by funext a; rfl) (n := n) (S := S) ho1
  have u15b := fun (n : Nat) (S : St) => st_use (cs := csLaw) (by funext a; rfl) (n := n) (S := S) ho2
  have u16 := fun (n : Nat) (S : St) => sv_use (cs := csLaw) (by funext a; rfl) (n := n) (S := S) hol
  obtain ⟨ak, az, ax, ea, a1, a2⟩ := tyOf_look o1
  obtain ⟨bk, bz, bx, eb, b1, b2⟩ := tyOf_look o2
  obtain ⟨dk, dz, dx, ed, d1, d2⟩ := valOf_look o
  rw [ea, eb] at u8 u9
  rw [ea] at u15a
  rw [eb] at u15b
  rw [ed] at u10 u11 u16
  have e := v.look
  obtain ⟨c1, c2, c3⟩ := v.cell
  generalize namesV = V at *
  generalize v.sizeZ 200 = sz at *
  rw [e] at u4 u10 u11 ⊢
  generalize v.lst = A at *
  generalize v.kind = vk at *
  generalize v.num = vn at *
  simp only [fnA, ED_fn3, fi3, Tryz.f3]
  by_cases hg : 200 < sz
  · simp [vmS, lenA, indexAddrA, u4, u5, c1, c2, c3, hg]
    exact hp _ _ rfl
  · simp [vmS, lenA, indexAddrA, eq_str, u4, u5, u6, u7, u8, u9, u10, u11, u12, u13, u14, u15a, u15b, u16, hn1, hn2, a1, a2, b1, b2, c1, c2, c3, d1, d2, hg]
    exact hp _ _ rfl

theorem law3 (s : List UInt8) {v : RV} (hv : v.fit) : Sound Tryz.prog ED 3 [.str s, v.enc] (.ret (.bool true)) := got_more csLaw_ok (law_run s hv) rfl

end Go.Proofs.YtpjcmiaanjcanaaGreatDoor
