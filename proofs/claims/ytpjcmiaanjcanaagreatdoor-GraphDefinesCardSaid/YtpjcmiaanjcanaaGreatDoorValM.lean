/-
Values and types that are the same; Define of the program. No conditions.
-/
import Derived.Test.YtpjcmiaanjcanaaGreatDoorValL
set_option linter.all false

namespace Go.Proofs.YtpjcmiaanjcanaaGreatDoor
open Go Go.Vm Go.Vm.T
set_option maxRecDepth 100000
set_option linter.unusedSimpArgs false
set_option linter.unusedVariables false
attribute [local simp] inFrame startLoc startVals Loc.clear blockC Loc.putO Loc.put idx evO constV Loc.get Vm.look intA unwindA resultsA resultV actA pureA storeA loadA fillE repElems TI.zeroV fieldOf fieldAddrA fieldA elemsA retE cellsOf? setCells nowhere

set_option maxHeartbeats 4000000

theorem lst_injG {a b : List AV} (h : lst a = lst b) : a = b := lst_inj h
mutual
theorem GV.enc_inj : ∀ {a b : GV}, a.enc = b.enc → a = b
  | .num x, .num y, h => by simp [GV.enc, wv] at h; rw [h]
  | .pair a b, .pair c d, h => by
    simp only [GV.enc, pv, AV.agg.injEq, List.cons.injEq, AV.slice.injEq, true_and, and_true] at h
    rw [GV.enc_inj h.1, GV.enc_inj h.2]
  | .seq a, .seq b, h => by
    simp only [GV.enc, sv, AV.agg.injEq, List.cons.injEq, true_and, and_true] at h
    rw [GV.encs_inj (lst_inj h)]
  | .num _, .pair _ _, h | .num _, .seq _, h | .pair _ _, .num _, h | .pair _ _, .seq _, h | .seq _, .num _, h | .seq _, .pair _ _, h => by simp [GV.enc, wv, pv, sv] at h
theorem GV.encs_inj : ∀ {a b : List GV}, GV.encs a = GV.encs b → a = b
  | [], [], _ => rfl
  | x :: a, y :: b, h => by
    simp only [GV.encs, List.cons.injEq] at h
    rw [GV.enc_inj h.1, GV.encs_inj h.2]
  | [], _ :: _, h | _ :: _, [], h => by simp [GV.encs] at h
end


theorem gv_lst {l : List GV} : (lst (GV.encs l)).isCell = true ∧ (lst (GV.encs l)).known = true := by
  cases l with
  | nil => exact ⟨rfl, rfl⟩
  | cons a r => exact ⟨rfl, rfl⟩
def sameWC : Con where
  f := 16
  X := Int × Int
  dom _ := True
  enc x := [(GV.num x.1).enc, (GV.num x.2).enc]
  res x := .ret (.bool (decide (x.1 = x.2)))

theorem sameW_ok : sameWC.Ok Tryz.prog ED := by
  refine Con.ok_at ED_ok ED_pers [] (by simp) (fun (x : Int × Int) _ => ⟨rfl, rfl⟩) ?_
  rintro ⟨a, b⟩ _
  show ∃ n, ∀ p : FRes → St → Prop, (∀ r S', r.melt S' = .ret (.bool (decide (a = b))) → p r S') → GotF (callS ED (sumOf []) n (.fn 16) [(GV.num a).enc, (GV.num b).enc] S0) p
  refine ⟨2, fun p hp => ?_⟩
  rw [callS_fn rfl]
  simp only [fnA, ED_fn16, fi16, Tryz.f16, GV.enc, wv]
  by_cases h : a = b
  · simp [vmS, lenA, indexAddrA, h]
    generalize hc : iter _ _ _ _ = c
    rw [iter_succ] at hc
    simp [vmS, lenA, indexAddrA] at hc
    subst hc
    simp [vmS, lenA, indexAddrA]
    exact hp _ _ (by simp [FRes.melt, AV.melt, AV.dead, h])
  · simp [vmS, lenA, indexAddrA, h]
    generalize hc : iter _ _ _ _ = c
    rw [iter_succ] at hc
    simp [vmS, lenA, indexAddrA] at hc
    subst hc
    simp [vmS, lenA, indexAddrA]
    exact hp _ _ (by simp [FRes.melt, AV.melt, AV.dead, h])

theorem sameW_use {cs : List Con} (h : sumOf cs 16 = sameWC.look) {n : Nat} {a b : Int} {S : St} : callS ED (sumOf cs) n (.fn 16) [(GV.num a).enc, (GV.num b).enc] S = some (.ret (.bool (decide (a = b))), S) :=
  Con.use (c := sameWC) (fun (x y : Int × Int) _ _ h => by
    obtain ⟨a, b⟩ := x
    obtain ⟨c, d⟩ := y
    have h' : [(GV.num a).enc, (GV.num b).enc] = [(GV.num c).enc, (GV.num d).enc] := h
    simp only [List.cons.injEq, and_true] at h'
    have h1 := GV.enc_inj h'.1
    have h2 := GV.enc_inj h'.2
    simp only [GV.num.injEq] at h1 h2
    rw [h1, h2]) h (a, b) trivial rfl

def sameC : Con where
  f := 16
  X := List Int × List Int
  dom x := x.1.length ≤ 4096 ∧ x.2.length ≤ 4096
  enc x := [(nums x.1).enc, (nums x.2).enc]
  res x := .ret (.bool (decide (x.1 = x.2)))

theorem same_ok : sameC.Ok Tryz.prog ED := by
  refine Con.ok_at ED_ok ED_pers [sameWC] (by simpa using sameW_ok) (fun (x : List Int × List Int) _ => ⟨by show AV.persL [(nums x.1).enc, (nums x.2).enc] = true; simp [AV.persL, GV.pers], rfl⟩) ?_
  rintro ⟨a, b⟩ ⟨ha, hb⟩
  replace ha : a.length ≤ 4096 := ha
  replace hb : b.length ≤ 4096 := hb
  show ∃ n, ∀ p : FRes → St → Prop, (∀ r S', r.melt S' = .ret (.bool (decide (a = b))) → p r S') → GotF (callS ED (sumOf [sameWC]) n (.fn 16) [(nums a).enc, (nums b).enc] S0) p
  refine ⟨5003, fun p hp => ?_⟩
  have hno : sumOf [sameWC] 16 ([(nums a).enc, (nums b).enc].map AV.dead) = none := by
    refine Con.look_none (c := sameWC) fun (x : Int × Int) _ e => ?_
    have e' : [(GV.num x.1).enc, (GV.num x.2).enc] = [(nums a).enc, (nums b).enc] := Eq.trans e (by simp)
    simp only [List.cons.injEq, and_true] at e'
    have := GV.enc_inj e'.1
    simp [nums] at this
  rw [callS_fn' hno]
  have d0 := @dr16_0
  simp only [drA, drawsOf, Option.getD_some, List.nil_append, List.append_nil, List.getD_cons_zero, List.getD_cons_succ, List.cons_append, Tryz.f16] at d0
  have hw := fun (n : Nat) (a b : Int) (S : St) => sameW_use (cs := [sameWC]) rfl (n := n) (a := a) (b := b) (S := S)
  have hk1 := gv_lst (l := a.map .num)
  have hk2 := gv_lst (l := b.map .num)
  have hixa : ∀ j (h : j < a.length), indexAddrA ED 22 (lst (GV.encs (a.map .num))) (.int .i64 j) = some (.rptr (GV.num a[j]).enc.cells) := fun j h => by
    have := lst_index (l := a.map .num) (j := j) (by simpa using h)
    simpa using this
  have hixb : ∀ j (h : j < b.length), indexAddrA ED 22 (lst (GV.encs (b.map .num))) (.int .i64 j) = some (.rptr (GV.num b[j]).enc.cells) := fun j h => by
    have := lst_index (l := b.map .num) (j := j) (by simpa using h)
    simpa using this
  have hla : lenA ED 22 (lst (GV.encs (a.map .num))) = some (.int .i64 a.length) := by rw [lst_len]; simp
  have hlb : lenA ED 22 (lst (GV.encs (b.map .num))) = some (.int .i64 b.length) := by rw [lst_len]; simp
  simp only [GV.enc, wv, AV.cells] at hixa hixb hw
  simp only [fnA, ED_fn16, fi16, Tryz.f16, nums, GV.enc, sv]
  generalize lst (GV.encs (a.map .num)) = xa at *
  generalize lst (GV.encs (b.map .num)) = xb at *
  simp [vmS, hk1, hk2, hla, hlb]
  generalize hc : iter _ _ _ _ = c
  obtain ⟨e1, L1, S1, rfl, hq⟩ := loop_of hc
    (fun r L S => ∃ j sc s, j + r = a.length + 1 ∧ L = vloc [.agg [.int .i64 4, .int .i64 0, xa], .agg [.int .i64 4, .int .i64 0, xb], .ptr 0 0, .ptr 1 0, .bool false, .bool s, .int .i64 (j : Nat)] sc ∧
      S.cells? 0 = some [.int .i64 4, .int .i64 0, xa] ∧ S.cells? 1 = some [.int .i64 4, .int .i64 0, xb] ∧ (s = true ↔ a.length = b.length ∧ a.take j = b.take j) ∧ (s = true → j ≤ a.length))
    (fun e L S => e = .exit 0 ∧ ∃ sc i, L = vloc [.agg [.int .i64 4, .int .i64 0, xa], .agg [.int .i64 4, .int .i64 0, xb], .ptr 0 0, .ptr 1 0, .bool false, .bool (decide (a = b)), i] sc)
    (a.length + 1) (by omega)
    (by
      refine ⟨0, [], decide ((a.length : Int) = (b.length : Int)), by simp, rfl, ?_, ?_, by simp; omega, by simp⟩
      · simp [push_at, cellsOf?, n_push']
      · simp [push_at, cellsOf?, n_push'])
    (by
      rintro r L S ⟨j, sc, s, hjk, rfl, g1, g2, hs, hsj⟩ q hq1 hq2
      cases s with
      | false =>
        have hab : ¬ a = b := by
          intro e
          subst e
          simp at hs
        simp [vmS, runC_nil, runC_cons, pickC_some, wantC_tt, wantC_tf, effC_val, ifC_true, checkC, inPairs, keepC, okC, readsC_load, readV_some, AV.beq_self, wantA_n, wantA_g, wantD_some, vloc]
        exact hq2 _ _ _ (by simp) ⟨rfl, _, .int .i64 (j : Nat), by rw [decide_eq_false hab]; rfl⟩
      | true =>
        obtain ⟨hl, ht⟩ := hs.1 rfl
        by_cases hj : j < a.length
        · have hwr : IntKind.i64.wrap ((j : Int) + 1) = ((j : Int) + 1) := wrap_id (by omega) (by omega)
          have h1 := hixa j hj
          have h2 := hixb j (by omega)
          simp [vmS, runC_nil, runC_cons, pickC_some, wantC_tt, wantC_tf, effC_val, ifC_true, checkC, inPairs, keepC, okC, readsC_load, readV_some, AV.beq_self, wantA_n, wantA_g, wantD_some, d0, vloc, g1, g2, hla, hj, h1, h2, hw, hwr]
          refine hq1 (r - 1) _ _ (by omega) ⟨j + 1, _, decide (a[j] = b[j]'(by omega)), by omega, rfl, g1, g2, ?_, fun _ => by omega⟩
          have q1 : a.take (j + 1) = a.take j ++ [a[j]] := by rw [List.take_add_one, List.getElem?_eq_getElem hj]; rfl
          have q2 : b.take (j + 1) = b.take j ++ [b[j]'(by omega)] := by rw [List.take_add_one, List.getElem?_eq_getElem (show j < b.length by omega)]; rfl
          rw [q1, q2, ht]
          simp only [decide_eq_true_eq, List.append_cancel_left_eq, List.cons.injEq, and_true, hl, true_and]
        · have hjl : j = a.length := by have := hsj rfl; omega
          have hab : a = b := by
            rw [hjl, List.take_length] at ht
            rw [ht, hl, List.take_length]
          simp [vmS, vloc, g1, hla, hj]
          exact hq2 _ _ _ (by simp) ⟨rfl, _, .int .i64 (j : Nat), by rw [decide_eq_true hab]; rfl⟩)
  obtain ⟨rfl, sc, i, rfl⟩ := hq
  simp [vmS, vloc]
  exact hp _ _ rfl

theorem same_use {cs : List Con} (h : sumOf cs 16 = sameC.look) {n : Nat} {a b : List Int} {S : St} (ha : a.length ≤ 4096) (hb : b.length ≤ 4096) : callS ED (sumOf cs) n (.fn 16) [(nums a).enc, (nums b).enc] S = some (.ret (.bool (decide (a = b))), S) :=
  Con.use (c := sameC) (fun (x y : List Int × List Int) _ _ h => by
    obtain ⟨a, b⟩ := x
    obtain ⟨c, d⟩ := y
    have h' : [(nums a).enc, (nums b).enc] = [(nums c).enc, (nums d).enc] := h
    simp only [List.cons.injEq, and_true] at h'
    rw [nums_enc_inj h'.1, nums_enc_inj h'.2]) h (a, b) ⟨ha, hb⟩ (by show [(nums a).enc.dead, (nums b).enc.dead] = [(nums a).enc, (nums b).enc]; simp)

def valOf : Option (List Int) → AV
  | none => errV
  | some zs => (nums zs).enc
theorem valOf_pers (o : Option (List Int)) : (valOf o).pers = true := by
  cases o with
  | none => rfl
  | some zs => exact GV.pers _
def svC : Con where
  f := 16
  X := Option (List Int)
  dom o := ∀ zs, o = some zs → zs.length ≤ 4096
  enc o := [valOf o, valOf o]
  res _ := .ret (.bool true)
theorem sv_err : (callS ED (sumOf []) 10 (.fn 16) [errV, errV] S0).map (fun q => q.1.melt q.2) = some (.ret (.bool true)) := by kernel_rfl
theorem sv_ok : svC.Ok Tryz.prog ED := by
  refine ⟨fun (o : Option (List Int)) _ => ⟨by show AV.persL [valOf o, valOf o] = true; simp [AV.persL, valOf_pers], rfl⟩, fun (o : Option (List Int)) hd => ?_⟩
  cases o with
  | none => exact sound_at sv_err rfl
  | some zs =>
    have hl : zs.length ≤ 4096 := hd zs rfl
    have := same_ok.sound ((zs, zs) : List Int × List Int) ⟨hl, hl⟩
    have h2 : Sound Tryz.prog ED 16 [(nums zs).enc, (nums zs).enc] (.ret (.bool (decide (zs = zs)))) := this
    rw [show decide (zs = zs) = true from by simp] at h2
    exact h2
theorem sv_use {cs : List Con} (h : sumOf cs 16 = svC.look) {n : Nat} {o : Option (List Int)} {S : St} (hd : ∀ zs, o = some zs → zs.length ≤ 4096) : callS ED (sumOf cs) n (.fn 16) [valOf o, valOf o] S = some (.ret (.bool true), S) :=
  Con.use (c := svC) (fun (x y : Option (List Int)) _ _ h => rfl) h (o : Option (List Int)) hd (by show [(valOf o).dead, (valOf o).dead] = [valOf o, valOf o]; rw [dead_of_pers _ (valOf_pers o)])

/-! types that are the same -/
def tyOf : Option Ty → AV
  | none => errV
  | some t => t.enc
theorem tyOf_pers (o : Option Ty) : (tyOf o).pers = true := by
  cases o with
  | none => rfl
  | some t => exact Ty.enc_pers t
def stOk (o : Option Ty) : Prop := o = none ∨ o = some (.seq .num) ∨ ∃ t, t ∈ five ∧ o = some t
def stC : Con where
  f := 15
  X := Option Ty
  dom := stOk
  enc o := [tyOf o, tyOf o]
  res _ := .ret (.bool true)
theorem st_0 : (callS ED (sumOf []) 30 (.fn 15) [errV, errV] S0).map (fun q => q.1.melt q.2) = some (.ret (.bool true)) := by kernel_rfl
theorem st_1 : (callS ED (sumOf []) 30 (.fn 15) [(Ty.seq .num).enc, (Ty.seq .num).enc] S0).map (fun q => q.1.melt q.2) = some (.ret (.bool true)) := by kernel_rfl
theorem st_2 : (callS ED (sumOf []) 30 (.fn 15) [tComps.enc, tComps.enc] S0).map (fun q => q.1.melt q.2) = some (.ret (.bool true)) := by kernel_rfl
theorem st_3 : (callS ED (sumOf []) 30 (.fn 15) [tDist.enc, tDist.enc] S0).map (fun q => q.1.melt q.2) = some (.ret (.bool true)) := by kernel_rfl
theorem st_4 : (callS ED (sumOf []) 30 (.fn 15) [tSpmv.enc, tSpmv.enc] S0).map (fun q => q.1.melt q.2) = some (.ret (.bool true)) := by kernel_rfl
theorem st_5 : (callS ED (sumOf []) 30 (.fn 15) [tWalk.enc, tWalk.enc] S0).map (fun q => q.1.melt q.2) = some (.ret (.bool true)) := by kernel_rfl
theorem st_6 : (callS ED (sumOf []) 30 (.fn 15) [tDuos.enc, tDuos.enc] S0).map (fun q => q.1.melt q.2) = some (.ret (.bool true)) := by kernel_rfl
theorem st_ok : stC.Ok Tryz.prog ED := by
  refine ⟨fun (o : Option Ty) _ => ⟨by show AV.persL [tyOf o, tyOf o] = true; simp [AV.persL, tyOf_pers], rfl⟩, fun (o : Option Ty) hd => ?_⟩
  rcases (hd : stOk o) with rfl | rfl | ⟨t, ht, rfl⟩
  · exact sound_at st_0 rfl
  · exact sound_at st_1 rfl
  · rcases five_iff ht with rfl | rfl | rfl | rfl | rfl
    · exact sound_at st_2 rfl
    · exact sound_at st_3 rfl
    · exact sound_at st_4 rfl
    · exact sound_at st_5 rfl
    · exact sound_at st_6 rfl
theorem st_use {cs : List Con} (h : sumOf cs 15 = stC.look) {n : Nat} {o : Option Ty} {S : St} (hd : stOk o) : callS ED (sumOf cs) n (.fn 15) [tyOf o, tyOf o] S = some (.ret (.bool true), S) :=
  Con.use (c := stC) (fun (x y : Option Ty) _ _ h => rfl) h (o : Option Ty) hd (by show [(tyOf o).dead, (tyOf o).dead] = [tyOf o, tyOf o]; rw [dead_of_pers _ (tyOf_pers o)])

end Go.Proofs.YtpjcmiaanjcanaaGreatDoor

namespace Go.Proofs.YtpjcmiaanjcanaaGreatDoor
open Go Go.Vm Go.Vm.T
set_option maxRecDepth 100000
set_option linter.unusedSimpArgs false
set_option linter.unusedVariables false
attribute [local simp] inFrame startLoc startVals Loc.clear blockC Loc.putO Loc.put idx evO constV Loc.get Vm.look intA unwindA resultsA resultV actA pureA storeA loadA fillE repElems TI.zeroV fieldOf fieldAddrA fieldA elemsA retE cellsOf? setCells nowhere

set_option maxHeartbeats 4000000

theorem eq_trap : binA ED .eql 20 (.tmp 5) (.const .nilIface) (.iface 61 (.agg [])) .nili = some (.bool false) := rfl
theorem df33_no {call : CallF} {it : (Vm.Loc → St → CRes) → Vm.Loc → St → CRes} {a b : AV} {S : St} : dfA ED call it 33 [a, b] .no S = some (.no, S) := by
  simp only [dfA, ED_fn33, fi33, Tryz.f33]
  simp [vmS, lenA, indexAddrA, eff_recover, stepE_rcv_no, eq_nili]
theorem df33_pan {call : CallF} {it : (Vm.Loc → St → CRes) → Vm.Loc → St → CRes} {S : St} {a : AV} (h1 : S.cells? 1 = some [.int .i64 0, .int .i64 0, .nils]) (h2 : S.cells? 2 = some [a]) :
    ∃ S', dfA ED call it 33 [.ptr 1 0, .ptr 2 0] (.pan trapV) S = some (.done, S') ∧ S'.cells? 1 = some [.int .i64 0, .int .i64 0, .nils] ∧ S'.cells? 2 = some [.int .i64 14] := by
  have hlt := St.get_lt (cells?_inv h2)
  have has1 : assertA ED (.iface 61 (.agg [])) 61 true = some (.tup [.agg [], .bool true]) := rfl
  have hb : buildA ED 24 [] = some (.agg [.int .i64 0, .int .i64 0, .nils]) := rfl
  have q1 := cells_put_self (ds := [.int .i64 0, .int .i64 0, .nils]) (cells_box (o := .cells []) (o' := .cells []) h1)
  have q2 := cells_put (o := .cells [.int .i64 0, .int .i64 0, .nils]) (cells_box (o := .cells []) (o' := .cells []) h1) (cells_box (o := .cells []) (o' := .cells []) h2) (by decide)
  have b1 := cells_box (o := .cells []) (o' := .cells []) h1
  have b2 := cells_box (o := .cells []) (o' := .cells []) h2
  have b0 : (S.push (.cells [])).cells? S.n = some [] := cells?_push_self _ _
  simp only [dfA, ED_fn33, fi33, Tryz.f33]
  simp [vmS, eff_recover, stepE_rcv_pan, eq_nili, eq_trap, trapV, eff_typeAssert, has1, hb, b0, b1, b2, q1, q2]
  exact ⟨cells_put q2 q1 (by decide), cells_put_self q2⟩

/-! types as they are built -/
def Ty.parts : Ty → List AV
  | .num => [.int .i64 1, .int .i64 0, .nils]
  | .pair a b => [.int .i64 2, .int .i64 0, .slice [.agg a.parts, .agg b.parts] .full]
  | .seq a => [.int .i64 4, .int .i64 0, .slice [.agg a.parts] .full]
theorem Ty.parts_dead : ∀ t : Ty, (AV.agg t.parts).dead = t.enc
  | .num => rfl
  | .pair a b => by
    have h1 := Ty.parts_dead a
    have h2 := Ty.parts_dead b
    simp only [AV.dead] at h1 h2
    simp [Ty.parts, Ty.enc, AV.dead, AV.deadL, h1, h2]
  | .seq a => by
    have h1 := Ty.parts_dead a
    simp only [AV.dead] at h1
    simp [Ty.parts, Ty.enc, AV.dead, AV.deadL, h1]
theorem Ty.parts_shape (t : Ty) : ∃ k x, t.parts = [.int .i64 k, .int .i64 0, x] ∧ x.isCell = true := by
  cases t <;> exact ⟨_, _, rfl, rfl⟩

def S3 (k z : Int) (x : AV) : St := ((S0.push (.cells [.int .i64 k, .int .i64 z, x])).push (.cells [.int .i64 0, .int .i64 0, .nils])).push (.cells [.int .i64 0])
def rest (t : Ty) (f : FuncId) : List AV := t.parts ++ (Ty.seq .num).parts ++ [.fn f [] []]
def viewP : AV → List AV × Bool
  | .tup [.agg (t :: cs), .bool b] => (cs, b && t.isCell)
  | _ => ([], false)
def Head (j : Nm) : Prop :=
  ∀ (k z : Int) (x : AV),
    (callS ED (sumOf csP) 5002 (.fn 25) [] (S3 k z x)).map (fun q => (q.1, q.2.n, q.2.cells? 0, q.2.cells? 1, q.2.cells? 2, (lookupA ED q.2 53 (.map 3) (.str j.str) true).map viewP)) =
      some (.ret (.map 3), 114, some [.int .i64 k, .int .i64 z, x], some [.int .i64 0, .int .i64 0, .nils], some [.int .i64 0], some (rest j.ty j.fn, true))
theorem head1 : Head .comps := fun k z x => by kernel_rfl
theorem head2 : Head .dist := fun k z x => by kernel_rfl
theorem head3 : Head .level := fun k z x => by kernel_rfl
theorem head4 : Head .spmv := fun k z x => by kernel_rfl
theorem head5 : Head .walk := fun k z x => by kernel_rfl
theorem head6 : Head .hull := fun k z x => by kernel_rfl
theorem heads (j : Nm) : Head j := by
  cases j
  · exact head1
  · exact head2
  · exact head3
  · exact head4
  · exact head5
  · exact head6
theorem head_use (j : Nm) (k z : Int) (x : AV) :
    ∃ S4 tx, callS ED (sumOf csP) 5002 (.fn 25) [] (S3 k z x) = some (.ret (.map 3), S4) ∧ S4.n = 114 ∧ S4.cells? 0 = some [.int .i64 k, .int .i64 z, x] ∧ S4.cells? 1 = some [.int .i64 0, .int .i64 0, .nils] ∧
      S4.cells? 2 = some [.int .i64 0] ∧ lookupA ED S4 53 (.map 3) (.str j.str) true = some (.tup [.agg (tx :: rest j.ty j.fn), .bool true]) ∧ tx.isCell = true := by
  have h' := heads j k z x
  cases hq : callS ED (sumOf csP) 5002 (.fn 25) [] (S3 k z x) with
  | none => rw [hq] at h'; cases h'
  | some q =>
    obtain ⟨r, S4⟩ := q
    rw [hq] at h'
    simp only [Option.map_some, Option.some.injEq, Prod.mk.injEq] at h'
    obtain ⟨rfl, h1, h2, h3, h4, h5⟩ := h'
    cases hl : lookupA ED S4 53 (.map 3) (.str j.str) true with
    | none => rw [hl] at h5; cases h5
    | some v =>
      rw [hl] at h5
      simp only [Option.map_some, Option.some.injEq] at h5
      unfold viewP at h5
      split at h5
      · simp only [Prod.mk.injEq] at h5
        obtain ⟨rfl, hb⟩ := h5
        simp only [Bool.and_eq_true] at hb
        obtain ⟨rfl, hb⟩ := hb
        exact ⟨S4, _, rfl, h1, h2, h3, h4, hl, hb⟩
      · simp at h5
theorem head0 (k z : Int) (x : AV) : (callS ED (sumOf csP) 5002 (.fn 25) [] (S3 k z x)).map (fun q => (q.1, q.2.n, q.2.cells? 0, q.2.cells? 1, q.2.cells? 2, keysOf (q.2.get 3))) =
      some (.ret (.map 3), 114, some [.int .i64 k, .int .i64 z, x], some [.int .i64 0, .int .i64 0, .nils], some [.int .i64 0], nms.map .str) := by kernel_rfl

noncomputable def defRes (s : List UInt8) (v : RV) : FRes := match whichOf s with
  | none => .ret (.tup [errV, .int .i64 4])
  | some j => if checkR j.ty v = 0 then (match j.out v with | some zs => .ret (.tup [(nums zs).enc, .int .i64 0]) | none => .ret (.tup [errV, .int .i64 14])) else .ret (.tup [errV, .int .i64 1])
theorem defRes_pers (s : List UInt8) (v : RV) : (defRes s v).pers = true := by
  unfold defRes
  split
  · rfl
  · split
    · split
      · simp [FRes.pers, AV.pers, AV.persL, GV.pers]
      · rfl
    · rfl
noncomputable def defC : Con where
  f := 10
  X := List UInt8 × RV
  dom x := x.2.fit
  enc x := [.str x.1, x.2.enc]
  res x := defRes x.1 x.2
def dloc (vals : List AV) (sc : List (Tmp × AV)) : Vm.Loc := { vals := vals, sc := sc, defers := [.call 33 [.ptr 1 0, .ptr 2 0]], recs := .no, rnd := none }

theorem def_ok : defC.Ok Tryz.prog ED := by
  refine Con.ok_at ED_ok ED_pers csP csP_ok (fun (x : List UInt8 × RV) _ => ⟨by show AV.persL [.str x.1, x.2.enc] = true; simp [AV.persL, AV.pers, RV.pers], defRes_pers _ _⟩) ?_
  rintro ⟨s, v⟩ hv
  replace hv : v.fit := hv
  show ∃ n, ∀ p : FRes → St → Prop, (∀ r S', r.melt S' = defRes s v → p r S') → GotF (callS ED (sumOf csP) n (.fn 10) [.str s, v.enc] S0) p
  refine ⟨5003, fun p hp => ?_⟩
  rw [callS_fn rfl]
  have hb0 : buildA ED 24 [] = some (.agg [.int .i64 0, .int .i64 0, .nils]) := rfl
  have hb8 : buildA ED 24 [(0, AV.int IntKind.i64 4)] = some (.agg [.int .i64 4, .int .i64 0, .nils]) := rfl
  have e := v.look
  obtain ⟨c1, c2, c3⟩ := v.cell
  cases hw : whichOf s with
  | none =>
    have hr : defRes s v = .ret (.tup [errV, .int .i64 4]) := by unfold defRes; rw [hw]
    rw [hr] at hp
    rw [e]
    generalize v.lst = A at *
    generalize v.kind = vk at *
    generalize v.num = vn at *
    have hh := head0 vk vn A
    cases hq : callS ED (sumOf csP) 5002 (.fn 25) [] (S3 vk vn A) with
    | none => rw [hq] at hh; cases hh
    | some q =>
      obtain ⟨r, S4⟩ := q
      rw [hq] at hh
      simp only [Option.map_some, Option.some.injEq, Prod.mk.injEq] at hh
      obtain ⟨rfl, hn4, k0, k1, k2, hk⟩ := hh
      have hl := lookup_none hw hk
      simp only [S3] at hq
      have b1 := cells_box (o := .cells [.str [], .int .i64 0, .int .i64 0, .nils, .int .i64 0, .int .i64 0, .nils, .nilf]) (o' := .cells [.str [], .int .i64 0, .int .i64 0, .nils, .int .i64 0, .int .i64 0, .nils, .nilf]) k1
      have b2 := cells_box (o := .cells [.str [], .int .i64 0, .int .i64 0, .nils, .int .i64 0, .int .i64 0, .nils, .nilf]) (o' := .cells [.str [], .int .i64 0, .int .i64 0, .nils, .int .i64 0, .int .i64 0, .nils, .nilf]) k2
      have b3 := cells_put_self (ds := [.int .i64 0, .int .i64 0, .nils]) b1
      have b4 := cells_put (o := .cells [.int .i64 0, .int .i64 0, .nils]) b1 b2 (by decide)
      have b5 := cells_put (o := .cells [.int .i64 4]) b4 b3 (by decide)
      have b6 := cells_put_self (ds := [.int .i64 4]) b4
      simp only [fnA, ED_fn10, fi10, Tryz.f10]
      simp [vmS, c1, c2, hq, eff_lookup, hl, zero51, unA, hb0, b1, b4, b5, b6]
      exact hp _ _ rfl
  | some j =>
    have hs := whichOf_some hw
    subst hs
    have hval : checkR j.ty v = 0 → ∀ n S, callS ED (sumOf csP) n (.fn j.fn) [v.enc] S = some (optR j.sh (j.out v), S) := fun h n S => Nm.value (check_iff.1 h) n S
    have hlen : checkR j.ty v = 0 → ∀ zs, j.out v = some zs → zs.length ≤ 4096 := fun h zs hz => Nm.len (check_iff.1 h) hz
    have hchk : ∀ (n : Nat) (S : St), callS ED (sumOf csP) n (.fn 32) [v.enc, .agg j.ty.parts] S = some (.ret (.int .i64 (checkR j.ty v)), S) := fun n S =>
      Con.use (c := checkC') (cs := csP) (fun (x y : Ty × RV) _ _ h => by
        have h' : [x.2.enc, x.1.enc] = [y.2.enc, y.1.enc] := h
        simp only [List.cons.injEq, and_true] at h'
        show FRes.ret (.int .i64 (checkR x.1 x.2)) = .ret (.int .i64 (checkR y.1 y.2))
        rw [RV.inj h'.1, Ty.enc_inj h'.2]) rfl ((j.ty, v) : Ty × RV) ⟨j.five, hv⟩ (by show [v.enc.dead, (AV.agg j.ty.parts).dead] = [v.enc, j.ty.enc]; simp [Ty.parts_dead])
    obtain ⟨tk, tx', te, tc⟩ := j.ty.parts_shape
    have hr : defRes j.str v = if checkR j.ty v = 0 then (match j.out v with | some zs => .ret (.tup [(nums zs).enc, .int .i64 0]) | none => .ret (.tup [errV, .int .i64 14])) else .ret (.tup [errV, .int .i64 1]) := by unfold defRes; rw [hw]
    rw [hr] at hp
    have hsh := fun zs => j.sh_D zs
    generalize checkR j.ty v = cr at *
    generalize j.out v = out at *
    rw [e] at hval hchk ⊢
    obtain ⟨S4, tx, hc4, hn4, hx0, hx1, hx2, hlook, htx⟩ := head_use j v.kind v.num v.lst
    generalize v.lst = x at *
    generalize v.kind = k at *
    generalize v.num = z at *
    simp only [rest, te, Ty.parts, List.cons_append, List.nil_append] at hlook
    rw [te] at hchk
    simp only [S3] at hc4
    generalize j.fn = f at *
    generalize j.str = nm at *
    simp only [fnA, ED_fn10, fi10, Tryz.f10]
    by_cases hcr : cr = 0
    rotate_left
    · rw [if_neg hcr] at hp
      simp [vmS, lenA, indexAddrA, c1, c2, hc4, eff_lookup, hlook, hn4, hx0, hx1, hx2, unA, hchk, hcr, htx, tc, Ty.parts, hb0]
      exact hp _ _ rfl
    rw [if_pos hcr] at hp
    subst hcr
    replace hval := hval rfl
    replace hlen := hlen rfl
    cases hout : out with
    | none =>
      simp only [hout, optR] at hval hp
      simp [vmS, lenA, indexAddrA, c1, c2, hc4, eff_lookup, hlook, hn4, hx0, hx1, hx2, unA, hchk, eff_defer, stepE_dfr, htx, tc, Ty.parts, hb8, hval, stepE_pan]
      obtain ⟨S', hdf, hy1, hy2⟩ := df33_pan (call := callS ED (sumOf csP) 5002) (it := iter 5002)
        (S := (((S4.push (.cells [.str [], .int .i64 0, .int .i64 0, .nils, .int .i64 0, .int .i64 0, .nils, .nilf])).put 114 (.cells [tx, .int .i64 tk, .int .i64 0, tx', .int .i64 4, .int .i64 0, .slice [.agg [.int .i64 1, .int .i64 0, .nils]] .full, .fn f [] []])).push (.cells [.int .i64 0, .int .i64 0, .nils])).put 115 (.cells [.int .i64 4, .int .i64 0, .nils]))
        (by simp [push_at, put_at, n_push', n_put', cellsOf?, hn4, hx1]) (by simp [push_at, put_at, n_push', n_put', cellsOf?, hn4, hx2]; rfl)
      simp [hdf, hy1, hy2]
      exact hp _ _ rfl
    | some zs =>
      simp only [hout, optR] at hval hp
      have hlen := hlen zs hout
      have hD := hsh zs
      have hll := hD.len
      generalize j.sh zs = V at *
      simp [vmS, c1, c2, hc4, eff_lookup, hlook, hn4, hx0, hx1, hx2, unA, hchk, eff_defer, stepE_dfr, htx, tc, Ty.parts, hb8, hval, hll]
      generalize hc : iter _ _ _ _ = c
      obtain ⟨e, L', S', rfl, hq⟩ := loop_of hc
        (fun r L S => ∃ j sc a10 v T, j + r = zs.length ∧ L = dloc [.str nm, .agg [.int .i64 k, .int .i64 z, x], .ptr 0 0, .ptr 1 0, .ptr 2 0, .ptr 114 0, .bool true, .ptr 115 0, a10, V, .int .i64 zs.length, .int .i64 (j : Nat)] sc ∧
          S.cells? 1 = some [.int .i64 0, .int .i64 0, .nils] ∧ S.cells? 2 = some [.int .i64 0] ∧ S.cells? 115 = some [.int .i64 4, .int .i64 0, v] ∧ Lv S v ((zs.take j).map .num) T)
        (fun e L S => e = .exit 0 ∧ ∃ sc a10 v T i, L = dloc [.str nm, .agg [.int .i64 k, .int .i64 z, x], .ptr 0 0, .ptr 1 0, .ptr 2 0, .ptr 114 0, .bool true, .ptr 115 0, a10, V, .int .i64 zs.length, i] sc ∧
          S.cells? 1 = some [.int .i64 0, .int .i64 0, .nils] ∧ S.cells? 2 = some [.int .i64 0] ∧ S.cells? 115 = some [.int .i64 4, .int .i64 0, v] ∧ Lv S v (zs.map .num) T)
        zs.length (by omega)
        (by
          refine ⟨0, _, _, .nils, none, by simp, rfl, ?_, ?_, ?_, .inl ⟨rfl, by simp [GV.encs]⟩, by simp⟩
          · simp [push_at, put_at, n_push', n_put', cellsOf?, hn4, hx1]
          · simp [push_at, put_at, n_push', n_put', cellsOf?, hn4, hx2]
          · simp [push_at, put_at, n_push', n_put', cellsOf?, hn4])
        (by
          rintro r L S ⟨j, sc, a10, v, T, hjk, rfl, g1, g2, g3, hl⟩ q hq1 hq2
          by_cases hj : j < zs.length
          · obtain ⟨v', S', ha, hl', hn', hk⟩ := hl.append (.num zs[j]) (by simp; omega)
            have hkn := hl'.known
            have g1' := hk.cells _ _ g1
            have g2' := hk.cells _ _ g2
            have g3' := hk.cells _ _ g3
            have hw : IntKind.i64.wrap ((j : Int) + 1) = ((j : Int) + 1) := wrap_id (by omega) (by omega)
            have hix := hD.index hj
            have hb1 : buildA ED 24 [(0, AV.int IntKind.i64 1), (1, AV.int IntKind.i64 zs[j])] = some (.agg [.int .i64 1, .int .i64 zs[j], .nils]) := rfl
            simp only [GV.enc, wv] at ha
            simp [vmS, dloc, hj, g3, hix, hb1, ha, hkn, g3', hw]
            refine hq1 (r - 1) _ _ (by omega) ⟨j + 1, _, _, v', some S.n, by omega, rfl, cells_put g3' g1' (by decide), cells_put g3' g2' (by decide), cells_put_self g3', ?_⟩
            rw [take_num hj]
            exact hl'.put g3'
          · have hjl : j = zs.length := by omega
            subst hjl
            simp [vmS, dloc]
            refine hq2 _ _ _ (by simp) ⟨rfl, _, a10, v, T, _, rfl, g1, g2, g3, by simpa using hl⟩)
      obtain ⟨rfl, sc, a10, v, T, i, rfl, g1, g2, g3, hl⟩ := hq
      have hkn := hl.known
      have u1 := cells_put_self (ds := [.int .i64 4, .int .i64 0, v]) g1
      have u2 := cells_put (o := .cells [.int .i64 4, .int .i64 0, v]) g1 g2 (by decide)
      have w1 := cells_put (o := .cells [.int .i64 0]) u2 u1 (by decide)
      have w2 := cells_put_self (ds := [.int .i64 0]) u2
      simp [vmS, dloc, g3, hkn, g1, u2, df33_no, w1, w2]
      refine hp _ _ ?_
      simp [FRes.melt, AV.melt, AV.meltE, AV.dead, AV.deadL, hl.dead, nums, GV.enc, sv]
theorem def_use {cs : List Con} (h : sumOf cs 10 = defC.look) {n : Nat} {s : List UInt8} {v : RV} {S : St} (hv : v.fit) : callS ED (sumOf cs) n (.fn 10) [.str s, v.enc] S = some (defRes s v, S) :=
  Con.use (c := defC) (fun (x y : List UInt8 × RV) _ _ h => by
    have h' : [AV.str x.1, x.2.enc] = [AV.str y.1, y.2.enc] := h
    simp only [List.cons.injEq, AV.str.injEq, and_true] at h'
    show defRes x.1 x.2 = defRes y.1 y.2
    rw [h'.1, RV.inj h'.2]) h ((s, v) : List UInt8 × RV) hv (by show [(AV.str s).dead, v.enc.dead] = [.str s, v.enc]; simp [AV.dead])

end Go.Proofs.YtpjcmiaanjcanaaGreatDoor
