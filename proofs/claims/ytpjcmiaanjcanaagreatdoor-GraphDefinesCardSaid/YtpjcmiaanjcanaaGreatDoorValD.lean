/-
Both checks of a value against a type; parts of values. No conditions.
-/
import Derived.Test.YtpjcmiaanjcanaaGreatDoorValC
set_option linter.all false

namespace Go.Proofs.YtpjcmiaanjcanaaGreatDoor
open Go Go.Vm Go.Vm.T
set_option maxRecDepth 100000
set_option linter.unusedSimpArgs false
set_option linter.unusedVariables false
attribute [local simp] inFrame startLoc startVals Loc.clear blockC Loc.putO Loc.put idx evO constV Loc.get Vm.look intA unwindA resultsA resultV actA pureA storeA loadA fillE repElems TI.zeroV fieldOf fieldAddrA fieldA elemsA retE cellsOf? setCells nowhere

set_option maxHeartbeats 4000000

theorem eff_recover {E : Env} {call : CallF} {ρ : Operand → AV} {S : St} {ts : Array TypeId} : effA E call ρ (.call { callee := .builtin .recover, args := #[], argTypes := ts }) S = some .rcv := rfl
theorem stepE_rcv_no {vars : List Tmp} {dst : Option Tmp} {v : List AV} {sc : List (Tmp × AV)} {d : List ADef} {S : St} : stepE vars dst { vals := v, sc := sc, defers := d, recs := .no, rnd := none } S (some .rcv) = some (.ok (Vm.Loc.putO vars { vals := v, sc := sc, defers := d, recs := .no, rnd := none } dst .nili) S) := rfl
theorem stepE_rcv_pan {vars : List Tmp} {dst : Option Tmp} {v : List AV} {sc : List (Tmp × AV)} {d : List ADef} {x : AV} {S : St} : stepE vars dst { vals := v, sc := sc, defers := d, recs := .pan x, rnd := none } S (some .rcv) = some (.ok (Vm.Loc.putO vars { vals := v, sc := sc, defers := d, recs := .done, rnd := none } dst x) S) := rfl
theorem stepE_dfr {vars : List Tmp} {dst : Option Tmp} {v : List AV} {sc : List (Tmp × AV)} {d : List ADef} {r : RecS} {x : ADef} {S : St} : stepE vars dst { vals := v, sc := sc, defers := d, recs := r, rnd := none } S (some (.dfr x)) = some (.ok (Vm.Loc.putO vars { vals := v, sc := sc, defers := x :: d, recs := r, rnd := none } dst nowhere) S) := rfl
theorem stepE_pan {vars : List Tmp} {dst : Option Tmp} {L : Vm.Loc} {S S' : St} {v : AV} : stepE vars dst L S (some (.pan v S')) = some (.pan v L S') := rfl
theorem eff_typeAssert {E : Env} {call : CallF} {ρ : Operand → AV} {S : St} {x : Operand} {t a : TypeId} {ok : Bool} : effA E call ρ (.typeAssert x t a ok) S = valO S (assertA E (ρ x) a ok) := eff_pure rfl
theorem eff_lookup {E : Env} {call : CallF} {ρ : Operand → AV} {S : St} {t : TypeId} {x k : Operand} {ok : Bool} : effA E call ρ (.lookup t x k ok) S = valO S (lookupA E S t (ρ x) (ρ k) ok) := by
  simp only [effA, opK, readA]
  cases lookupA E S t (ρ x) (ρ k) ok <;> rfl

theorem eq_nili : binA ED .eql 20 (.tmp 5) (.const .nilIface) .nili .nili = some (.bool true) := rfl

def wrongV (e : Int) : AV := .iface 110 (.agg [.int .i64 e])
theorem eq_wrong (e : Int) : binA ED .eql 20 (.tmp 5) (.const .nilIface) (.iface 110 (.agg [.int .i64 e])) .nili = some (.bool false) := rfl

theorem df48_no {call : CallF} {it : (Vm.Loc → St → CRes) → Vm.Loc → St → CRes} {a : AV} {S : St} : dfA ED call it 48 [a] .no S = some (.no, S) := by
  simp only [dfA, ED_fn48, fi48, Tryz.f48]
  simp [vmS, lenA, indexAddrA, eff_recover, stepE_rcv_no, eq_nili]

theorem df48_pan {call : CallF} {it : (Vm.Loc → St → CRes) → Vm.Loc → St → CRes} {S : St} {i : Nat} {e z : Int} (h : S.cells? i = some [.int .i64 z]) :
    ∃ S', dfA ED call it 48 [.ptr i 0] (.pan (wrongV e)) S = some (.done, S') ∧ S'.cells? i = some [.int .i64 e] := by
  have hlt := St.get_lt (cells?_inv h)
  have has1 : assertA ED (.iface 110 (.agg [.int .i64 e])) 110 true = some (.tup [.agg [.int .i64 e], .bool true]) := rfl
  have b1 := cells_box (o := .cells [.int .i64 0]) (o' := .cells [.int .i64 e]) h
  have b0 := cells?_put_push S (.cells [.int .i64 0]) [.int .i64 e]
  simp only [dfA, ED_fn48, fi48, Tryz.f48]
  simp [vmS, eff_recover, stepE_rcv_pan, eq_nili, eq_wrong, wrongV, eff_typeAssert, has1, b0, b1]
  exact cells_put_self b1

def nmustC : Con where
  f := 51
  X := Bool × Int
  dom _ := True
  enc x := [.bool x.1, .int .i64 x.2]
  res x := if x.1 then .ret (.tup []) else .pan (wrongV x.2)
theorem nmust_ok : nmustC.Ok Tryz.prog ED := by
  refine Con.ok_at ED_ok ED_pers [] (by simp) (fun (x : Bool × Int) _ => ⟨rfl, by obtain ⟨b, e⟩ := x; cases b <;> rfl⟩) ?_
  rintro ⟨b, e⟩ _
  show ∃ n, ∀ p : FRes → St → Prop, (∀ r S', r.melt S' = (if b then .ret (.tup []) else .pan (wrongV e)) → p r S') → GotF (callS ED (sumOf []) n (.fn 51) [.bool b, .int .i64 e] S0) p
  refine ⟨1, fun p hp => ?_⟩
  rw [callS_fn rfl]
  have hb : buildA ED 110 [(0, .int .i64 e)] = some (.agg [.int .i64 e]) := rfl
  simp only [fnA, ED_fn51, fi51, Tryz.f51]
  cases b with
  | true =>
    simp [vmS, lenA, indexAddrA, unA]
    exact hp _ _ rfl
  | false =>
    simp [vmS, lenA, indexAddrA, unA, hb, stepE_pan]
    exact hp _ _ rfl
theorem nmust_use {cs : List Con} (h : sumOf cs 51 = nmustC.look) {n : Nat} {b : Bool} {e : Int} {S : St} : callS ED (sumOf cs) n (.fn 51) [.bool b, .int .i64 e] S = some (if b then .ret (.tup []) else .pan (wrongV e), S) :=
  Con.use (c := nmustC) (fun (x y : Bool × Int) _ _ h => by
    have h' : [AV.bool x.1, AV.int .i64 x.2] = [AV.bool y.1, AV.int .i64 y.2] := h
    simp only [List.cons.injEq, AV.bool.injEq, AV.int.injEq, true_and, and_true] at h'
    show (if x.1 then FRes.ret (.tup []) else .pan (wrongV x.2)) = (if y.1 then FRes.ret (.tup []) else .pan (wrongV y.2))
    rw [h'.1, h'.2]) h ((b, e) : Bool × Int) trivial rfl

/-! the check -/
def five : List Ty := [tComps, tDist, tSpmv, tWalk, tDuos]
theorem five_iff {t : Ty} (h : t ∈ five) : t = tComps ∨ t = tDist ∨ t = tSpmv ∨ t = tWalk ∨ t = tDuos := by simpa [five] using h
def checkR (t : Ty) (v : RV) : Int := if (v.walkN 0).2 then (if isR t v then 0 else 1) else 3

abbrev ckEnc (x : Ty × RV) : List AV := [x.2.enc, x.1.enc]
def checkC' : Con where
  f := 32
  X := Ty × RV
  dom x := x.1 ∈ five ∧ x.2.fit
  enc x := ckEnc x
  res x := .ret (.int .i64 (checkR x.1 x.2))

theorem check_ok : checkC'.Ok Tryz.prog ED := by
  refine Con.ok_at ED_ok ED_pers [askedC, nsizeC, nmustC, hasC five] (by simpa using ⟨asked_ok, nsize_ok, nmust_ok, has_all _⟩) (fun (x : Ty × RV) _ => ⟨by show AV.persL [x.2.enc, x.1.enc] = true; simp [AV.persL, RV.pers, Ty.enc_pers], rfl⟩) ?_
  rintro ⟨t, v⟩ ⟨ht, hv⟩
  replace ht : t ∈ five := ht
  replace hv : v.fit := hv
  show ∃ n, ∀ p : FRes → St → Prop, (∀ r S', r.melt S' = .ret (.int .i64 (checkR t v)) → p r S') → GotF (callS ED (sumOf [askedC, nsizeC, nmustC, hasC five]) n (.fn 32) [v.enc, t.enc] S0) p
  refine ⟨2, fun p hp => ?_⟩
  rw [callS_fn rfl]
  have ha := fun (n : Nat) (S : St) => asked_use (cs := [askedC, nsizeC, nmustC, hasC five]) rfl (n := n) (S := S) (five_iff ht)
  have hs := fun (n : Nat) (S : St) => nsize_use (cs := [askedC, nsizeC, nmustC, hasC five]) rfl (n := n) (S := S) hv
  have hm := fun (n : Nat) (b : Bool) (e : Int) (S : St) => nmust_use (cs := [askedC, nsizeC, nmustC, hasC five]) rfl (n := n) (S := S) (b := b) (e := e)
  have hh := fun (n : Nat) (S : St) => has_use (cs := [askedC, nsizeC, nmustC, hasC five]) rfl (n := n) (S := S) (ts := five) ht hv
  obtain ⟨tk, tL, te, tc, _⟩ := t.look
  have e := v.look
  obtain ⟨c1, c2, c3⟩ := v.cell
  unfold checkR at hp
  rw [te] at ha ⊢
  rw [e] at hs hh ⊢
  generalize v.walkN 0 = w at *
  obtain ⟨w1, w2⟩ := w
  simp only at hs hp
  generalize v.lst = x at *
  simp only [fnA, ED_fn32, fi32, Tryz.f32]
  cases w2 with
  | true =>
    simp only [if_true] at hp
    cases hb : isR t v with
    | true =>
      rw [hb] at hh hp
      have hm1 := fun (n : Nat) (e : Int) (S : St) => hm n true e S
      simp only [if_true] at hm1 hp
      simp [vmS, lenA, indexAddrA, c1, c2, tc, ha, hs, hm1, hh, eff_defer, stepE_dfr, df48_no]
      exact hp _ _ rfl
    | false =>
      rw [hb] at hh hp
      have hm1 := fun (n : Nat) (e : Int) (S : St) => hm n true e S
      have hm2 := fun (n : Nat) (e : Int) (S : St) => hm n false e S
      simp only [if_true, Bool.false_eq_true, if_false] at hm1 hm2 hp
      simp [vmS, lenA, indexAddrA, c1, c2, tc, ha, hs, hm1, hm2, hh, eff_defer, stepE_dfr, stepE_pan]
      obtain ⟨S', hdf, hS⟩ := df48_pan (call := callS ED (sumOf [askedC, nsizeC, nmustC, hasC five]) 1) (it := iter 1) (i := 2) (e := 1) (z := 0) (S := ((S0.push (.cells [.int .i64 v.kind, .int .i64 v.num, x])).push (.cells [.int .i64 tk, .int .i64 0, tL])).push (.cells [.int .i64 0])) (by simp [push_at, put_at, n_push', n_put', cellsOf?])
      simp [hdf, hS]
      exact hp _ _ rfl
  | false =>
    have hm2 := fun (n : Nat) (e : Int) (S : St) => hm n false e S
    simp only [Bool.false_eq_true, if_false] at hm2 hp
    simp [vmS, lenA, indexAddrA, c1, c2, tc, ha, hs, hm2, hh, eff_defer, stepE_dfr, stepE_pan]
    obtain ⟨S', hdf, hS⟩ := df48_pan (call := callS ED (sumOf [askedC, nsizeC, nmustC, hasC five]) 1) (it := iter 1) (i := 2) (e := 3) (z := 0) (S := ((S0.push (.cells [.int .i64 v.kind, .int .i64 v.num, x])).push (.cells [.int .i64 tk, .int .i64 0, tL])).push (.cells [.int .i64 0])) (by simp [push_at, put_at, n_push', n_put', cellsOf?])
    simp [hdf, hS]
    exact hp _ _ rfl

theorem check_use {cs : List Con} (h : sumOf cs 32 = checkC'.look) {n : Nat} {t : Ty} {v : RV} {S : St} (ht : t ∈ five) (hv : v.fit) : callS ED (sumOf cs) n (.fn 32) [v.enc, t.enc] S = some (.ret (.int .i64 (checkR t v)), S) :=
  Con.use (c := checkC') (fun (x y : Ty × RV) _ _ h => by
    have h' : [x.2.enc, x.1.enc] = [y.2.enc, y.1.enc] := h
    simp only [List.cons.injEq, and_true] at h'
    show FRes.ret (.int .i64 (checkR x.1 x.2)) = .ret (.int .i64 (checkR y.1 y.2))
    rw [RV.inj h'.1, Ty.enc_inj h'.2]) h ((t, v) : Ty × RV) ⟨ht, hv⟩ (by show [v.enc.dead, t.enc.dead] = [v.enc, t.enc]; simp [dead_of_pers _ (Ty.enc_pers t)])

/-! the reference's check -/
def isTypeC : Con where
  f := 53
  X := Ty
  dom t := t ∈ five
  enc t := [t.enc]
  res _ := .ret (.int .i64 0)
theorem isType_at (t : Ty) (h : (callS ED (sumOf []) 60 (.fn 53) [t.enc] S0).map (fun q => q.1.melt q.2) = some (.ret (.int .i64 0))) : ∃ n r S', callS ED (sumOf []) n (.fn 53) [t.enc] S0 = some (r, S') ∧ r.melt S' = .ret (.int .i64 0) := by
  cases hq : callS ED (sumOf []) 60 (.fn 53) [t.enc] S0 with
  | none => rw [hq] at h; cases h
  | some q =>
    rw [hq] at h
    exact ⟨60, q.1, q.2, hq, Option.some.inj h⟩
theorem isType1 : (callS ED (sumOf []) 60 (.fn 53) [tComps.enc] S0).map (fun q => q.1.melt q.2) = some (.ret (.int .i64 0)) := by kernel_rfl
theorem isType2 : (callS ED (sumOf []) 60 (.fn 53) [tDist.enc] S0).map (fun q => q.1.melt q.2) = some (.ret (.int .i64 0)) := by kernel_rfl
theorem isType3 : (callS ED (sumOf []) 60 (.fn 53) [tSpmv.enc] S0).map (fun q => q.1.melt q.2) = some (.ret (.int .i64 0)) := by kernel_rfl
theorem isType4 : (callS ED (sumOf []) 60 (.fn 53) [tWalk.enc] S0).map (fun q => q.1.melt q.2) = some (.ret (.int .i64 0)) := by kernel_rfl
theorem isType5 : (callS ED (sumOf []) 60 (.fn 53) [tDuos.enc] S0).map (fun q => q.1.melt q.2) = some (.ret (.int .i64 0)) := by kernel_rfl
theorem isType_ok : isTypeC.Ok Tryz.prog ED := by
  refine Con.ok_of (cs := []) ED_ok ED_pers (by simp) (fun (t : Ty) ht => ⟨by show AV.persL [t.enc] = true; simp [AV.persL, Ty.enc_pers], rfl, ?_⟩)
  show ∃ n r S', callS ED (sumOf []) n (.fn 53) [t.enc] S0 = some (r, S') ∧ r.melt S' = .ret (.int .i64 0)
  rcases five_iff ht with h | h | h | h | h
  · subst h; exact isType_at _ isType1
  · subst h; exact isType_at _ isType2
  · subst h; exact isType_at _ isType3
  · subst h; exact isType_at _ isType4
  · subst h; exact isType_at _ isType5
theorem isType_use {cs : List Con} (h : sumOf cs 53 = isTypeC.look) {n : Nat} {t : Ty} {S : St} (ht : t ∈ five) : callS ED (sumOf cs) n (.fn 53) [t.enc] S = some (.ret (.int .i64 0), S) :=
  Con.use (c := isTypeC) (fun (x y : Ty) _ _ _ => rfl) h t ht (by show [t.enc.dead] = [t.enc]; rw [dead_of_pers _ (Ty.enc_pers t)])

def rcheckR (t : Ty) (v : RV) : Int := if 20000 < v.sizeW then 3 else if v.long then 3 else if isR t v then 0 else 1
def rcheckC : Con where
  f := 34
  X := Ty × RV
  dom x := x.1 ∈ five ∧ x.2.fit
  enc x := ckEnc x
  res x := .ret (.int .i64 (rcheckR x.1 x.2))
theorem rcheck_ok : rcheckC.Ok Tryz.prog ED := by
  refine Con.ok_at ED_ok ED_pers [isTypeC, sizeWC, longC, isC five] (by simpa using ⟨isType_ok, sizeW_ok, long_ok, is_all _⟩) (fun (x : Ty × RV) _ => ⟨by show AV.persL [x.2.enc, x.1.enc] = true; simp [AV.persL, RV.pers, Ty.enc_pers], rfl⟩) ?_
  rintro ⟨t, v⟩ ⟨ht, hv⟩
  replace ht : t ∈ five := ht
  replace hv : v.fit := hv
  show ∃ n, ∀ p : FRes → St → Prop, (∀ r S', r.melt S' = .ret (.int .i64 (rcheckR t v)) → p r S') → GotF (callS ED (sumOf [isTypeC, sizeWC, longC, isC five]) n (.fn 34) [v.enc, t.enc] S0) p
  refine ⟨2, fun p hp => ?_⟩
  rw [callS_fn rfl]
  have ha := fun (n : Nat) (S : St) => isType_use (cs := [isTypeC, sizeWC, longC, isC five]) rfl (n := n) (S := S) ht
  have hs := fun (n : Nat) (S : St) => sizeW_use (cs := [isTypeC, sizeWC, longC, isC five]) rfl (n := n) (S := S) hv
  have hm := fun (n : Nat) (S : St) => long_use (cs := [isTypeC, sizeWC, longC, isC five]) rfl (n := n) (S := S) hv
  have hh := fun (n : Nat) (S : St) => is_use (cs := [isTypeC, sizeWC, longC, isC five]) rfl (n := n) (S := S) (ts := five) ht hv
  obtain ⟨tk, tL, te, tc, _⟩ := t.look
  have e := v.look
  obtain ⟨c1, c2, c3⟩ := v.cell
  unfold rcheckR at hp
  rw [te] at ha
  rw [e] at hs hh hm ⊢
  rw [te] at hh ⊢
  generalize v.lst = x at *
  generalize v.sizeW = z at *
  simp only [fnA, ED_fn34, fi34, Tryz.f34]
  by_cases hz : 20000 < z
  · rw [if_pos hz] at hp
    simp [vmS, lenA, indexAddrA, c1, c2, tc, ha, hs, hz]
    exact hp _ _ rfl
  · rw [if_neg hz] at hp
    cases hl : v.long with
    | true =>
      rw [hl] at hm hp
      simp [vmS, lenA, indexAddrA, c1, c2, tc, ha, hs, hz, hm]
      exact hp _ _ rfl
    | false =>
      rw [hl] at hm hp
      cases hb : isR t v with
      | true =>
        rw [hb] at hh hp
        simp [vmS, lenA, indexAddrA, c1, c2, tc, ha, hs, hz, hm, hh, unA]
        exact hp _ _ rfl
      | false =>
        rw [hb] at hh hp
        simp [vmS, lenA, indexAddrA, c1, c2, tc, ha, hs, hz, hm, hh, unA]
        exact hp _ _ rfl
theorem rcheck_use {cs : List Con} (h : sumOf cs 34 = rcheckC.look) {n : Nat} {t : Ty} {v : RV} {S : St} (ht : t ∈ five) (hv : v.fit) : callS ED (sumOf cs) n (.fn 34) [v.enc, t.enc] S = some (.ret (.int .i64 (rcheckR t v)), S) :=
  Con.use (c := rcheckC) (fun (x y : Ty × RV) _ _ h => by
    have h' : [x.2.enc, x.1.enc] = [y.2.enc, y.1.enc] := h
    simp only [List.cons.injEq, and_true] at h'
    show FRes.ret (.int .i64 (rcheckR x.1 x.2)) = .ret (.int .i64 (rcheckR y.1 y.2))
    rw [RV.inj h'.1, Ty.enc_inj h'.2]) h ((t, v) : Ty × RV) ⟨ht, hv⟩ (by show [v.enc.dead, t.enc.dead] = [v.enc, t.enc]; simp [dead_of_pers _ (Ty.enc_pers t)])

end Go.Proofs.YtpjcmiaanjcanaaGreatDoor

namespace Go.Proofs.YtpjcmiaanjcanaaGreatDoor
open Go Go.Vm Go.Vm.T
set_option maxRecDepth 100000
set_option linter.unusedSimpArgs false
set_option linter.unusedVariables false
attribute [local simp] inFrame startLoc startVals Loc.clear blockC Loc.putO Loc.put idx evO constV Loc.get Vm.look intA unwindA resultsA resultV actA pureA storeA loadA fillE repElems TI.zeroV fieldOf fieldAddrA fieldA elemsA retE cellsOf? setCells nowhere

/-! both checks say the same -/
mutual
def RV.nodes : RV → Nat
  | .leaf _ _ _ => 1
  | .node _ _ x l => 1 + (x.nodes + RV.nodess l)
def RV.nodess : List RV → Nat
  | [] => 0
  | a :: r => a.nodes + RV.nodess r
end
theorem RV.nodes_kids (v : RV) : v.nodes = 1 + RV.nodess v.kids := by cases v <;> simp only [RV.nodes, RV.kids, RV.nodess]

mutual
theorem RV.walk_iff : ∀ (v : RV) (m : Nat), ((v.walkN m).2 = true ↔ m + v.nodes ≤ 20000 ∧ v.long = false) ∧ ((v.walkN m).2 = true → (v.walkN m).1 = m + v.nodes)
  | .leaf k n e, m => by
    simp only [RV.walkN, RV.nodes, RV.long]
    by_cases h : 20000 < m + 1
    · rw [if_pos h]
      simp
      omega
    · rw [if_neg h]
      simp
      omega
  | .node k n x l, m => by
    have ix := RV.walk_iff x (m + 1)
    have il := fun m' h => RV.walks_iff l m' h
    rw [RV.walkN, RV.long, RV.nodes]
    by_cases h : 20000 < m + 1 ∨ (k = 4 ∧ 4096 < l.length + 1)
    · rw [if_pos h]
      rcases h with h | h
      · simp
        omega
      · simp [h]
    · rw [if_neg h]
      obtain ⟨h1, h2⟩ := not_or.1 h
      have hd : decide (k = 4 ∧ 4096 < l.length + 1) = false := decide_eq_false h2
      simp only [hd, Bool.false_or, Bool.or_eq_false_iff]
      rcases hw : x.walkN (m + 1) with ⟨m', b⟩
      rw [hw] at ix
      cases b with
      | false =>
        simp only at ix ⊢
        have := ix.1
        simp only [Bool.false_eq_true, false_iff] at this ⊢
        refine ⟨fun k => this ⟨by omega, k.2.1⟩, fun k => ?_⟩
        cases k
      | true =>
        obtain ⟨i1, i2⟩ := ix
        simp only at i1 i2
        have i1' := i1.1 trivial
        have i2' := i2 trivial
        obtain ⟨j1, j2⟩ := il m' (by omega)
        simp only
        rw [j1]
        refine ⟨⟨fun k => ⟨by omega, i1'.2, k.2⟩, fun k => ⟨by omega, k.2.2⟩⟩, fun k => ?_⟩
        have := j2 (j1.2 k)
        omega
theorem RV.walks_iff : ∀ (l : List RV) (m : Nat), m ≤ 20000 → ((RV.walksN m l).2 = true ↔ m + RV.nodess l ≤ 20000 ∧ RV.longs l = false) ∧ ((RV.walksN m l).2 = true → (RV.walksN m l).1 = m + RV.nodess l)
  | [], m, h => by simp [RV.walksN, RV.nodess, RV.longs, h]
  | a :: r, m, h => by
    have ia := RV.walk_iff a m
    have ir := fun m' h => RV.walks_iff r m' h
    rw [RV.walksN, RV.longs, RV.nodess]
    rcases hw : a.walkN m with ⟨m', b⟩
    rw [hw] at ia
    simp only [Bool.or_eq_false_iff]
    cases b with
    | false =>
      have := ia.1
      simp only [Bool.false_eq_true, false_iff] at this ⊢
      refine ⟨fun k => this ⟨by omega, k.2.1⟩, fun k => ?_⟩
      cases k
    | true =>
      obtain ⟨i1, i2⟩ := ia
      simp only at i1 i2
      have i1' := i1.1 trivial
      have i2' := i2 trivial
      obtain ⟨j1, j2⟩ := ir m' (by omega)
      simp only
      rw [j1]
      refine ⟨⟨fun k => ⟨by omega, i1'.2, k.2⟩, fun k => ⟨by omega, k.2.2⟩⟩, fun k => ?_⟩
      have := j2 (j1.2 k)
      omega
end

mutual
theorem RV.sizeW_nodes : ∀ (v : RV), v.nodes < 4611686018427387904 → v.sizeW = v.nodes
  | .leaf _ _ _, _ => by simp only [RV.sizeW, RV.nodes]; rfl
  | .node _ _ x l, h => by
    simp only [RV.nodes] at h
    have ix := RV.sizeW_nodes x (by omega)
    rw [RV.sizeW, RV.nodes, ix, wrap_id (by omega) (by omega), RV.sumW_nodes l _ (by omega) (by omega)]
    omega
theorem RV.sumW_nodes : ∀ (l : List RV) (n : Int), 0 ≤ n → n + RV.nodess l < 4611686018427387904 → RV.sumW n l = n + RV.nodess l
  | [], n, _, _ => by simp [RV.sumW, RV.nodess]
  | a :: r, n, h0, h => by
    simp only [RV.nodess] at h
    have ia := RV.sizeW_nodes a (by omega)
    rw [RV.sumW, RV.nodess, ia, wrap_id (by omega) (by omega), RV.sumW_nodes r _ (by omega) (by omega)]
    omega
end

def Ty.bnd : Ty → Nat
  | .num => 1
  | .pair a b => 1 + (a.bnd + b.bnd)
  | .seq a => 1 + 4096 * a.bnd

theorem RV.longs_mem : ∀ {l : List RV} {x : RV}, RV.longs l = false → x ∈ l → x.long = false
  | a :: l, x, h, hx => by
    simp only [RV.longs, Bool.or_eq_false_iff] at h
    rcases List.mem_cons.1 hx with rfl | hx
    · exact h.1
    · exact RV.longs_mem h.2 hx
theorem RV.long_kid {v x : RV} (h : v.long = false) (hx : x ∈ v.kids) : x.long = false := by
  rw [RV.long_kids, Bool.or_eq_false_iff] at h
  exact RV.longs_mem h.2 hx
theorem nodess_le {l : List RV} {b : Nat} (h : ∀ x ∈ l, x.nodes ≤ b) : RV.nodess l ≤ l.length * b := by
  induction l with
  | nil => simp [RV.nodess]
  | cons a r ih =>
    have := ih (fun x hx => h x (by simp [hx]))
    have := h a (by simp)
    simp only [RV.nodess, List.length_cons, Nat.add_mul]
    omega

theorem isR_pair {a b : Ty} {v : RV} (h : isR (.pair a b) v = true) : v.kind = 2 ∧ v.num = 0 ∧ ∃ x y, v.kids = [x, y] ∧ isR a x = true ∧ isR b y = true := by
  simp only [isR, Bool.and_eq_true, decide_eq_true_eq] at h
  obtain ⟨h1, h2, h3⟩ := h
  refine ⟨h1, h2, ?_⟩
  split at h3
  · rename_i x y e
    simp only [Bool.and_eq_true] at h3
    exact ⟨x, y, e, h3.1, h3.2⟩
  · cases h3
theorem isR_seq {a : Ty} {v : RV} (h : isR (.seq a) v = true) : v.kind = 4 ∧ v.num = 0 ∧ ∀ x ∈ v.kids, isR a x = true := by
  simp only [isR, Bool.and_eq_true, decide_eq_true_eq, List.all_eq_true] at h
  exact ⟨h.1, h.2.1, h.2.2⟩
theorem isR_num {v : RV} (h : isR .num v = true) : v.kind = 1 ∧ v.kids = [] ∧ wordB v.num = true := by
  simp only [isR, Bool.and_eq_true, decide_eq_true_eq] at h
  exact ⟨h.1, List.length_eq_zero_iff.1 h.2.1, h.2.2⟩

theorem isR_bnd : ∀ (t : Ty) (v : RV), isR t v = true → v.long = false → v.nodes ≤ t.bnd
  | .num, v, h, _ => by
    obtain ⟨_, h2, _⟩ := isR_num h
    rw [RV.nodes_kids, h2]
    simp [RV.nodess, Ty.bnd]
  | .pair a b, v, h, hl => by
    obtain ⟨_, _, x, y, e, hx, hy⟩ := isR_pair h
    have i1 := isR_bnd a x hx (RV.long_kid hl (by simp [e]))
    have i2 := isR_bnd b y hy (RV.long_kid hl (by simp [e]))
    rw [RV.nodes_kids, e]
    simp only [RV.nodess, Ty.bnd]
    omega
  | .seq a, v, h, hl => by
    obtain ⟨h1, _, h3⟩ := isR_seq h
    have i1 := nodess_le (l := v.kids) (b := a.bnd) (fun x hx => isR_bnd a x (h3 x hx) (RV.long_kid hl hx))
    have h4 : v.kids.length ≤ 4096 := by
      rw [RV.long_kids, Bool.or_eq_false_iff, decide_eq_false_iff_not, h1] at hl
      omega
    have := Nat.mul_le_mul_right a.bnd h4
    rw [RV.nodes_kids]
    simp only [Ty.bnd]
    omega

/-- a value of a type that is not too long -/
structure OkR (t : Ty) (v : RV) : Prop where
  is : isR t v = true
  nodes : v.nodes ≤ 20000
  short : v.long = false
theorem check_iff {t : Ty} {v : RV} : checkR t v = 0 ↔ OkR t v := by
  have hw := (RV.walk_iff v 0).1
  unfold checkR
  by_cases h : (v.walkN 0).2 = true
  · rw [if_pos h]
    have := hw.1 h
    by_cases h2 : isR t v = true
    · rw [if_pos h2]
      exact ⟨fun _ => ⟨h2, by omega, this.2⟩, fun _ => rfl⟩
    · rw [if_neg h2]
      exact ⟨fun k => by omega, fun k => absurd k.is h2⟩
  · rw [if_neg h]
    exact ⟨fun k => by omega, fun k => absurd (hw.2 ⟨by have := k.nodes; omega, k.short⟩) h⟩
theorem rcheck_iff {t : Ty} {v : RV} (hb : t.bnd < 4611686018427387904) : rcheckR t v = 0 ↔ OkR t v := by
  unfold rcheckR
  constructor
  · intro h
    by_cases h1 : 20000 < v.sizeW
    · rw [if_pos h1] at h; omega
    · rw [if_neg h1] at h
      by_cases h2 : v.long = true
      · rw [if_pos h2] at h; omega
      · rw [if_neg h2] at h
        by_cases h3 : isR t v = true
        · have h2' : v.long = false := by simpa using h2
          have := isR_bnd t v h3 h2'
          have hs := RV.sizeW_nodes v (by omega)
          exact ⟨h3, by omega, h2'⟩
        · rw [if_neg h3] at h; omega
  · intro h
    have := h.nodes
    have hs := RV.sizeW_nodes v (by omega)
    rw [if_neg (by omega), h.short, h.is]
    rfl
theorem five_bnd {t : Ty} (h : t ∈ five) : t.bnd < 4611686018427387904 := by
  rcases five_iff h with h | h | h | h | h <;> subst h <;> decide

end Go.Proofs.YtpjcmiaanjcanaaGreatDoor

namespace Go.Proofs.YtpjcmiaanjcanaaGreatDoor
open Go Go.Vm Go.Vm.T
set_option maxRecDepth 100000
set_option linter.unusedSimpArgs false
set_option linter.unusedVariables false
attribute [local simp] inFrame startLoc startVals Loc.clear blockC Loc.putO Loc.put idx evO constV Loc.get Vm.look intA unwindA resultsA resultV actA pureA storeA loadA fillE repElems TI.zeroV fieldOf fieldAddrA fieldA elemsA retE cellsOf? setCells nowhere

set_option maxHeartbeats 4000000

def duoA (e : Int × Int) : AV := .agg [.int .i64 e.1, .int .i64 e.2]

theorem duoAs_pers (es : List (Int × Int)) : AV.persL (es.map duoA) = true := by
  rw [AV.persL_iff]
  intro x hx
  obtain ⟨e, _, rfl⟩ := List.mem_map.1 hx
  rfl

theorem lst_pers' {l : List AV} (h : AV.persL l = true) : (lst l).pers = true := by
  cases l with
  | nil => rfl
  | cons a r => simpa [lst, AV.pers, AV.persL] using h

theorem dead_lst {S : St} {sz : Nat} {v : AV} {l : List AV} {T : Option Nat} (h : LiveT S sz v l T) (hn : l = [] → v = .nils) (hp : AV.persL l = true) : v.dead = lst l := by
  cases l with
  | nil => rw [hn rfl]; rfl
  | cons a r =>
    rcases h.cases with ⟨_, h2⟩ | ⟨tk, rfl⟩
    · cases h2
    · have : AV.deadL (a :: r) = a :: r := by rw [AV.deadL_map]; exact map_dead (fun x hx => dead_of_pers x (AV.persL_iff.1 hp x hx))
      simp only [AV.dead, this, lst]

theorem append_duo {S : St} {v : AV} {es : List (Int × Int)} (e : Int × Int) {T : Option Nat} (hl : LiveT S 2 v (es.map duoA) T) (hlen : es.length ≤ 10000) :
    ∃ v' S', appendA ED S 97 v [duoA e] = some (v', S') ∧ LiveT S' 2 v' ((es ++ [e]).map duoA) (some S.n) ∧ S'.n = S.n + 1 ∧ Kept T S S' := by
  rw [List.map_append]
  refine append_1 (i := ti97) ED_ti97 (by decide) hl (fun y hy => ?_) (by simp [duoA, AV.cells, AV.isCell]) rfl (by simp [roomOk, roomMost, ti97]; omega)
  obtain ⟨z, _, rfl⟩ := List.mem_map.1 hy
  rfl

theorem duoAs_inj {a b : List (Int × Int)} (h : a.map duoA = b.map duoA) : a = b := by
  induction a generalizing b with
  | nil => cases b with
    | nil => rfl
    | cons y b => simp at h
  | cons x a ih => cases b with
    | nil => simp at h
    | cons y b =>
      obtain ⟨p, q⟩ := x
      obtain ⟨r, s⟩ := y
      simp only [List.map_cons, List.cons.injEq, duoA, AV.agg.injEq, AV.int.injEq, true_and, and_true] at h
      rw [h.1.1, h.1.2, ih h.2]

theorem duoAs_get {es : List (Int × Int)} {j : Nat} (h : j < es.length) : indexAddrA ED 88 (lst (es.map duoA)) (.int .i64 j) = some (.rptr [.int .i64 es[j].1, .int .i64 es[j].2]) := by
  cases es with
  | nil => simp at h
  | cons a r =>
    have e : (duoA a :: r.map duoA)[j]? = some (duoA (a :: r)[j]) := by
      rw [show duoA a :: r.map duoA = (a :: r).map duoA from rfl, List.getElem?_map, List.getElem?_eq_getElem h]
      rfl
    simp only [List.map_cons, lst, indexAddrA, ED_desc88, ED_size97, Int.toNat_natCast]
    have h1 : (0 : Int) ≤ (j : Int) ∧ (j : Int) < ((duoA a :: r.map duoA).length : Nat) := by
      simp only [List.length_cons, List.length_map] at h ⊢
      omega
    rw [if_pos h1, e]
    simp [duoA, AV.cells]

theorem len73 {es : List AV} : lenA ED 88 (lst es) = some (.int .i64 es.length) := by cases es <;> rfl
theorem len22 {i o l c : Nat} : lenA ED 62 (.rsl i o l c) = some (.int .i64 l) := rfl
theorem index22 {i l c n : Nat} (h : n < l) : indexAddrA ED 62 (.rsl i 0 l c) (.int .i64 n) = some (.ptr i n) := by
  simp [indexAddrA, h]

theorem duoAs_cell (es : List (Int × Int)) : (lst (es.map duoA)).isCell = true ∧ (lst (es.map duoA)).known = true := by cases es <;> exact ⟨rfl, rfl⟩

theorem fold_max (a b : Nat) : foldA (maxA .max) (.int .i64 a) [.int .i64 b] = some (.int .i64 ((max a b : Nat) : Int)) := by
  simp only [foldA, maxA, Option.some.injEq, AV.int.injEq, true_and]
  split <;> omega
theorem fold_min (a b : Nat) : foldA (maxA .min) (.int .i64 a) [.int .i64 b] = some (.int .i64 ((min a b : Nat) : Int)) := by
  simp only [foldA, maxA, Option.some.injEq, AV.int.injEq, true_and]
  split <;> omega
theorem eq_bool {x y : Operand} : binA ED .eql 4 x y (.bool true) (.bool true) = some (.bool true) := by
  cases x <;> cases y <;> rfl

theorem flat_rep (n : Nat) : repeatL n [AV.int .i64 0] = List.replicate n (.int .i64 0) := by
  unfold repeatL
  induction n with
  | zero => rfl
  | succ n ih => rw [List.replicate_succ, List.flatten_cons, ih]; rfl

def lstI (zs : List Int) : AV := lst (ints zs)

theorem lstI_dead (zs : List Int) : (lstI zs).dead = lstI zs := by
  have := ints_dead zs
  unfold lstI
  cases h : ints zs with
  | nil => rfl
  | cons a r => rw [h] at this; simp only [lst, AV.dead]; rw [this]
theorem lstI_pers (zs : List Int) : (lstI zs).pers = true := by
  have := ints_pers zs
  unfold lstI
  cases h : ints zs with
  | nil => rfl
  | cons a r => rw [h] at this; simp only [lst, AV.pers, this]; rfl
theorem lstI_D (zs : List Int) : IntsD (lstI zs) zs := by
  unfold lstI
  cases zs with
  | nil => exact .inl ⟨rfl, rfl⟩
  | cons a r => exact .inr rfl

theorem IntsD.len {v : AV} {zs : List Int} (h : IntsD v zs) : lenA ED 62 v = some (.int .i64 zs.length) := by
  rcases h with ⟨rfl, rfl⟩ | rfl
  · rfl
  · simp [lenA]
theorem IntsD.index {v : AV} {zs : List Int} (h : IntsD v zs) {j : Nat} (hj : j < zs.length) : indexAddrA ED 62 v (.int .i64 j) = some (.rptr [.int .i64 zs[j]]) := by
  rcases h with ⟨rfl, rfl⟩ | rfl
  · simp at hj
  · simp [indexAddrA, hj, cells_int]

def trapV : AV := .iface 61 (.agg [])


/-! parts of values -/
abbrev dflt : RV := .leaf 0 0 false
def RV.duo (v : RV) : Int × Int := ((v.kids.getD 0 dflt).num, (v.kids.getD 1 dflt).num)
def RV.duos (v : RV) : List (Int × Int) := v.kids.map RV.duo
def RV.wds (v : RV) : List Int := v.kids.map RV.num
def RV.rows (v : RV) : List (List (Int × Int)) := v.kids.map RV.duos
def RV.has2 (v : RV) : Prop := 2 ≤ v.kids.length

def partC : Con where
  f := 92
  X := RV × Nat
  dom x := x.2 < x.1.kids.length
  enc x := [x.1.enc, .int .i64 x.2]
  res x := .ret (x.1.kids.getD x.2 dflt).enc
theorem part_ok : partC.Ok Tryz.prog ED := by
  refine Con.ok_at ED_ok ED_pers [] (by simp) (fun (x : RV × Nat) _ => ⟨by show AV.persL [x.1.enc, .int .i64 x.2] = true; simp [AV.persL, AV.pers, RV.pers], RV.pers _⟩) ?_
  rintro ⟨v, i⟩ hi
  replace hi : i < v.kids.length := hi
  show ∃ n, ∀ p : FRes → St → Prop, (∀ r S', r.melt S' = .ret (v.kids.getD i dflt).enc → p r S') → GotF (callS ED (sumOf []) n (.fn 92) [v.enc, .int .i64 i] S0) p
  refine ⟨1, fun p hp => ?_⟩
  rw [callS_fn rfl]
  have e := v.look
  obtain ⟨c1, c2, c3⟩ := v.cell
  have hix := v.index hi
  have hg : v.kids.getD i dflt = v.kids[i] := by simp [List.getD_eq_getElem?_getD, hi]
  rw [hg] at hp
  have hd := RV.enc_dead v.kids[i]
  obtain ⟨y1, y2, y3⟩ := v.kids[i].cell
  rw [v.kids[i].look] at hp hix hd
  rw [e]
  generalize v.lst = A at *
  simp only [fnA, ED_fn92, fi92, Tryz.f92]
  simp [vmS, c1, hix, y1, y2]
  exact hp _ _ (congrArg FRes.ret hd)
theorem part_use {cs : List Con} (h : sumOf cs 92 = partC.look) {n : Nat} {v : RV} {i : Nat} {S : St} (hi : i < v.kids.length) : callS ED (sumOf cs) n (.fn 92) [v.enc, .int .i64 i] S = some (.ret v.kids[i].enc, S) := by
  have := Con.use (E := ED) (c := partC) (fun (x y : RV × Nat) hx hy h => by
    have h' : [x.1.enc, AV.int .i64 x.2] = [y.1.enc, AV.int .i64 y.2] := h
    simp only [List.cons.injEq, AV.int.injEq, true_and, and_true] at h'
    have h1 := RV.inj h'.1
    have h2 : x.2 = y.2 := by have := h'.2; omega
    show FRes.ret (x.1.kids.getD x.2 dflt).enc = .ret (y.1.kids.getD y.2 dflt).enc
    rw [h1, h2]) h (n := n) (args := [v.enc, .int .i64 i]) (S := S) ((v, i) : RV × Nat) hi (by show [v.enc.dead, .int .i64 i] = [v.enc, .int .i64 i]; simp)
  have hg : v.kids.getD i dflt = v.kids[i] := by simp [List.getD_eq_getElem?_getD, hi]
  rw [show partC.res ((v, i) : RV × Nat) = .ret v.kids[i].enc from by show FRes.ret (v.kids.getD i dflt).enc = _; rw [hg]] at this
  exact this

def sideC (f : FuncId) (i : Nat) : Con where
  f := f
  X := RV
  dom v := v.has2
  enc v := [v.enc]
  res v := .ret (v.kids.getD i dflt).enc
theorem side_use {cs : List Con} {f : FuncId} {i : Nat} (h : sumOf cs f = (sideC f i).look) {n : Nat} {v : RV} {S : St} (hv : v.has2) : callS ED (sumOf cs) n (.fn f) [v.enc] S = some (.ret (v.kids.getD i dflt).enc, S) :=
  Con.use (c := sideC f i) (fun (x y : RV) hx hy h => by
    have h' : [x.enc] = [y.enc] := h
    simp only [List.cons.injEq, and_true] at h'
    rw [RV.inj h']) h (v : RV) hv (by show [v.enc.dead] = [v.enc]; simp)

theorem first_ok : (sideC 67 0).Ok Tryz.prog ED := by
  refine Con.ok_at ED_ok ED_pers [partC] (by simpa using part_ok) (fun (v : RV) _ => ⟨by show AV.persL [v.enc] = true; simp [AV.persL, RV.pers], RV.pers _⟩) ?_
  intro (v : RV) hv
  replace hv : 2 ≤ v.kids.length := hv
  show ∃ n, ∀ p : FRes → St → Prop, (∀ r S', r.melt S' = .ret (v.kids.getD 0 dflt).enc → p r S') → GotF (callS ED (sumOf [partC]) n (.fn 67) [v.enc] S0) p
  refine ⟨1, fun p hp => ?_⟩
  rw [callS_fn rfl]
  have hg : v.kids.getD 0 dflt = v.kids[0] := by simp [List.getD_eq_getElem?_getD, show 0 < v.kids.length by omega]
  rw [hg] at hp
  have hpt : ∀ (n : Nat) (S : St), callS ED (sumOf [partC]) n (.fn 92) [v.enc, .int .i64 0] S = some (.ret v.kids[0].enc, S) := fun n S => part_use (cs := [partC]) rfl (n := n) (S := S) (v := v) (i := 0) (by omega)
  have e := v.look
  obtain ⟨c1, c2, c3⟩ := v.cell
  have hd := RV.enc_dead v.kids[0]
  obtain ⟨y1, y2, y3⟩ := v.kids[0].cell
  rw [v.kids[0].look] at hp hpt hd
  rw [e] at hpt ⊢
  generalize v.lst = A at *
  simp only [fnA, ED_fn67, fi67, Tryz.f67]
  simp [vmS, c1, hpt, y1, y2]
  exact hp _ _ (congrArg FRes.ret hd)

theorem second_ok : (sideC 68 1).Ok Tryz.prog ED := by
  refine Con.ok_at ED_ok ED_pers [partC] (by simpa using part_ok) (fun (v : RV) _ => ⟨by show AV.persL [v.enc] = true; simp [AV.persL, RV.pers], RV.pers _⟩) ?_
  intro (v : RV) hv
  replace hv : 2 ≤ v.kids.length := hv
  show ∃ n, ∀ p : FRes → St → Prop, (∀ r S', r.melt S' = .ret (v.kids.getD 1 dflt).enc → p r S') → GotF (callS ED (sumOf [partC]) n (.fn 68) [v.enc] S0) p
  refine ⟨1, fun p hp => ?_⟩
  rw [callS_fn rfl]
  have hg : v.kids.getD 1 dflt = v.kids[1] := by simp [List.getD_eq_getElem?_getD, show 1 < v.kids.length by omega]
  rw [hg] at hp
  have hpt : ∀ (n : Nat) (S : St), callS ED (sumOf [partC]) n (.fn 92) [v.enc, .int .i64 1] S = some (.ret v.kids[1].enc, S) := fun n S => part_use (cs := [partC]) rfl (n := n) (S := S) (v := v) (i := 1) (by omega)
  have e := v.look
  obtain ⟨c1, c2, c3⟩ := v.cell
  have hd := RV.enc_dead v.kids[1]
  obtain ⟨y1, y2, y3⟩ := v.kids[1].cell
  rw [v.kids[1].look] at hp hpt hd
  rw [e] at hpt ⊢
  generalize v.lst = A at *
  simp only [fnA, ED_fn68, fi68, Tryz.f68]
  simp [vmS, c1, hpt, y1, y2]
  exact hp _ _ (congrArg FRes.ret hd)

def needC : Con where
  f := 70
  X := Bool
  dom _ := True
  enc b := [.bool b]
  res b := if b then .ret (.tup []) else .pan trapV

end Go.Proofs.YtpjcmiaanjcanaaGreatDoor

namespace Go.Proofs.YtpjcmiaanjcanaaGreatDoor
open Go Go.Vm Go.Vm.T
set_option maxRecDepth 100000
set_option linter.unusedSimpArgs false
set_option linter.unusedVariables false
attribute [local simp] inFrame startLoc startVals Loc.clear blockC Loc.putO Loc.put idx evO constV Loc.get Vm.look intA unwindA resultsA resultV actA pureA storeA loadA fillE repElems TI.zeroV fieldOf fieldAddrA fieldA elemsA retE cellsOf? setCells nowhere

set_option maxHeartbeats 4000000

theorem need_ok : needC.Ok Tryz.prog ED := by
  refine Con.ok_at ED_ok ED_pers [] (by simp) (fun (x : Bool) _ => ⟨rfl, by cases x <;> rfl⟩) ?_
  intro (b : Bool) _
  show ∃ n, ∀ p : FRes → St → Prop, (∀ r S', r.melt S' = (if b then .ret (.tup []) else .pan trapV) → p r S') → GotF (callS ED (sumOf []) n (.fn 70) [.bool b] S0) p
  refine ⟨1, fun p hp => ?_⟩
  rw [callS_fn rfl]
  have hb : buildA ED 61 [] = some (.agg []) := rfl
  simp only [fnA, ED_fn70, fi70, Tryz.f70]
  cases b with
  | true =>
    simp [vmS, lenA, indexAddrA, unA]
    exact hp _ _ rfl
  | false =>
    simp [vmS, lenA, indexAddrA, unA, hb, stepE_pan]
    exact hp _ _ rfl

theorem need_use {cs : List Con} (h : sumOf cs 70 = needC.look) {n : Nat} {b : Bool} {S : St} : callS ED (sumOf cs) n (.fn 70) [.bool b] S = some (if b then .ret (.tup []) else .pan trapV, S) :=
  Con.use (c := needC) (fun (x y : Bool) _ _ h => by
    have h' : [AV.bool x] = [AV.bool y] := h
    cases h'; rfl) h (b : Bool) trivial rfl


/-! what lists are made of -/
def duoC : Con where
  f := 76
  X := RV
  dom v := v.has2
  enc v := [v.enc]
  res v := .ret (duoA v.duo)
theorem duo_ok : duoC.Ok Tryz.prog ED := by
  refine Con.ok_at ED_ok ED_pers [sideC 67 0, sideC 68 1] (by simpa using ⟨first_ok, second_ok⟩) (fun (v : RV) _ => ⟨by show AV.persL [v.enc] = true; simp [AV.persL, RV.pers], rfl⟩) ?_
  intro (v : RV) hv
  replace hv : v.has2 := hv
  show ∃ n, ∀ p : FRes → St → Prop, (∀ r S', r.melt S' = .ret (duoA v.duo) → p r S') → GotF (callS ED (sumOf [sideC 67 0, sideC 68 1]) n (.fn 76) [v.enc] S0) p
  refine ⟨1, fun p hp => ?_⟩
  rw [callS_fn rfl]
  have d0 := @dr76_0
  simp only [drA, drawsOf, Option.getD_some, List.nil_append, List.append_nil, List.getD_cons_zero, List.getD_cons_succ, List.cons_append, Tryz.f76] at d0
  have hf := fun (n : Nat) (S : St) => side_use (cs := [sideC 67 0, sideC 68 1]) (f := 67) (i := 0) rfl (n := n) (S := S) hv
  have hs := fun (n : Nat) (S : St) => side_use (cs := [sideC 67 0, sideC 68 1]) (f := 68) (i := 1) (by funext a; rfl) (n := n) (S := S) hv
  simp only [RV.duo] at hp
  have e := v.look
  obtain ⟨c1, c2, c3⟩ := v.cell
  rw [(v.kids.getD 0 dflt).look] at hf
  rw [(v.kids.getD 1 dflt).look] at hs
  rw [e] at hf hs ⊢
  generalize v.lst = A at *
  generalize (v.kids.getD 0 dflt).lst = A0 at *
  generalize (v.kids.getD 1 dflt).lst = A1 at *
  generalize (v.kids.getD 0 dflt).kind = k0 at *
  generalize (v.kids.getD 1 dflt).kind = k1 at *
  generalize (v.kids.getD 0 dflt).num = a at *
  generalize (v.kids.getD 1 dflt).num = b at *
  have hb : buildA ED 97 [(0, AV.int IntKind.i64 a), (1, AV.int IntKind.i64 b)] = some (.agg [.int .i64 a, .int .i64 b]) := rfl
  have hp1 : ∀ k z A, partA ED 3 [.int .i64 k, .int .i64 z, A] 1 = some (.int .i64 z) := fun _ _ _ => rfl
  simp only [fnA, ED_fn76, fi76, Tryz.f76]
  simp [vmS, lenA, indexAddrA, runC_nil, runC_cons, pickC_some, wantC_tt, wantC_tf, effC_val, ifC_true, checkC, inPairs, keepC, okC, readsC_load, readV_some, AV.beq_self, wantA_n, wantA_g, wantD_some, d0, c1, c2, hf, hs, hb, hp1]
  exact hp _ _ rfl
theorem duo_use {cs : List Con} (h : sumOf cs 76 = duoC.look) {n : Nat} {v : RV} {S : St} (hv : v.has2) : callS ED (sumOf cs) n (.fn 76) [v.enc] S = some (.ret (duoA v.duo), S) :=
  Con.use (c := duoC) (fun (x y : RV) hx hy h => by
    have h' : [x.enc] = [y.enc] := h
    simp only [List.cons.injEq, and_true] at h'
    rw [RV.inj h']) h (v : RV) hv (by show [v.enc.dead] = [v.enc]; simp)

def wordC2 : Con where
  f := 98
  X := RV
  dom _ := True
  enc v := [v.enc]
  res v := .ret (.int .i64 v.num)
theorem word2_ok : wordC2.Ok Tryz.prog ED := by
  refine Con.ok_at ED_ok ED_pers [] (by simp) (fun (v : RV) _ => ⟨by show AV.persL [v.enc] = true; simp [AV.persL, RV.pers], rfl⟩) ?_
  intro (v : RV) _
  show ∃ n, ∀ p : FRes → St → Prop, (∀ r S', r.melt S' = .ret (.int .i64 v.num) → p r S') → GotF (callS ED (sumOf []) n (.fn 98) [v.enc] S0) p
  refine ⟨1, fun p hp => ?_⟩
  rw [callS_fn rfl]
  have e := v.look
  obtain ⟨c1, c2, c3⟩ := v.cell
  rw [e]
  generalize v.lst = A at *
  simp only [fnA, ED_fn98, fi98, Tryz.f98]
  simp [vmS, lenA, indexAddrA, c1, c2]
  exact hp _ _ rfl
theorem word2_use {cs : List Con} (h : sumOf cs 98 = wordC2.look) {n : Nat} {v : RV} {S : St} : callS ED (sumOf cs) n (.fn 98) [v.enc] S = some (.ret (.int .i64 v.num), S) :=
  Con.use (c := wordC2) (fun (x y : RV) hx hy h => by
    have h' : [x.enc] = [y.enc] := h
    simp only [List.cons.injEq, and_true] at h'
    rw [RV.inj h']) h (v : RV) trivial (by show [v.enc.dead] = [v.enc]; simp)

/-- numbers, rows as values -/
def intA1 (z : Int) : AV := .int .i64 z
theorem intAs_pers (zs : List Int) : AV.persL (zs.map intA1) = true := ints_pers zs
theorem append_int1 {S : St} {v : AV} {zs : List Int} (z : Int) {T : Option Nat} (hl : LiveT S 1 v (zs.map intA1) T) (hlen : zs.length ≤ 10000) :
    ∃ v' S', appendA ED S 3 v [intA1 z] = some (v', S') ∧ LiveT S' 1 v' ((zs ++ [z]).map intA1) (some S.n) ∧ S'.n = S.n + 1 ∧ Kept T S S' := append_int z hl hlen
def rowA (es : List (Int × Int)) : AV := lst (es.map duoA)

theorem rowA_pers (es : List (Int × Int)) : (rowA es).pers = true := lst_pers' (duoAs_pers es)
theorem rowA_cell (es : List (Int × Int)) : (rowA es).isCell = true ∧ (rowA es).known = true ∧ (rowA es).cells = [rowA es] := by cases es <;> exact ⟨rfl, rfl, rfl⟩

theorem rowAs_pers (rs : List (List (Int × Int))) : AV.persL (rs.map rowA) = true := by
  rw [AV.persL_iff]
  intro x hx
  obtain ⟨e, _, rfl⟩ := List.mem_map.1 hx
  exact rowA_pers e

theorem append_row {S : St} {v : AV} {rs : List (List (Int × Int))} (r : List (Int × Int)) {T : Option Nat} (hl : LiveT S 1 v (rs.map rowA) T) (hlen : rs.length ≤ 10000) :
    ∃ v' S', appendA ED S 88 v [rowA r] = some (v', S') ∧ LiveT S' 1 v' ((rs ++ [r]).map rowA) (some S.n) ∧ S'.n = S.n + 1 ∧ Kept T S S' := by
  rw [List.map_append]
  refine append_1 (i := ti88) ED_ti88 (by decide) hl (fun y hy => ?_) (by rw [(rowA_cell r).2.2]; simp [(rowA_cell r).1]) (by rw [(rowA_cell r).2.2]; rfl) (by simp [roomOk, roomMost, ti88]; omega)
  obtain ⟨z, _, rfl⟩ := List.mem_map.1 hy
  rw [(rowA_cell z).2.2]; rfl


def listDuoC : Con where
  f := 75
  X := RV
  dom v := v.kids.length ≤ 4096 ∧ ∀ k ∈ v.kids, k.has2
  enc v := [v.enc, .fn 76 [] []]
  res v := .ret (lst ((v.kids.map RV.duo).map duoA))
theorem listDuo_ok : listDuoC.Ok Tryz.prog ED := by
  refine Con.ok_at ED_ok ED_pers [partC, duoC] (by simpa using ⟨part_ok, duo_ok⟩) (fun (v : RV) _ => ⟨by show AV.persL [v.enc, .fn 76 [] []] = true; simp [AV.persL, RV.pers, AV.pers], lst_pers' (duoAs_pers (v.kids.map RV.duo))⟩) ?_
  intro (v : RV) hok
  obtain ⟨hlen, hrow⟩ := hok
  show ∃ n, ∀ p : FRes → St → Prop, (∀ r S', r.melt S' = .ret (lst ((v.kids.map RV.duo).map duoA)) → p r S') → GotF (callS ED (sumOf [partC, duoC]) n (.fn 75) [v.enc, .fn 76 [] []] S0) p
  refine ⟨v.kids.length + 2, fun p hp => ?_⟩
  rw [callS_fn rfl]
  have hpt := fun (n : Nat) (S : St) (i : Nat) (hi : i < v.kids.length) => part_use (cs := [partC, duoC]) rfl (n := n) (S := S) (v := v) (i := i) hi
  have hdu := fun (n : Nat) (S : St) (x : RV) (hx : x ∈ v.kids) => duo_use (cs := [partC, duoC]) rfl (n := n) (S := S) (v := x) (hrow x hx)
  have e := v.look
  obtain ⟨c1, c2, c3⟩ := v.cell
  have hvl := v.len
  rw [e] at hpt ⊢
  generalize v.lst = A at *
  generalize v.kind = vk at *
  generalize v.num = vn at *
  generalize v.kids = es at *
  simp only [fnA, ED_fn75, fi75, Tryz.f75]
  simp [vmS, c1, hvl]
  generalize hc : iter _ _ _ _ = c
  obtain ⟨e, L', S', rfl, hq⟩ := loop_of hc
    (fun r L S => ∃ j sc a6 w T, j + r = es.length ∧ L = vloc [.agg [.int .i64 vk, .int .i64 vn, A], .fn 76 [] [], .ptr 0 0, .nils, w, a6, .int .i64 es.length, .int .i64 (j : Nat)] sc ∧
      S.cells? 0 = some [.int .i64 vk, .int .i64 vn, A] ∧ LiveT S 2 w (((es.take j).map RV.duo).map duoA) T ∧ (((es.take j).map RV.duo).map duoA = [] → w = .nils))
    (fun e L S => e = .exit 0 ∧ ∃ sc a6 w T i, L = vloc [.agg [.int .i64 vk, .int .i64 vn, A], .fn 76 [] [], .ptr 0 0, .nils, w, a6, .int .i64 es.length, i] sc ∧
      LiveT S 2 w ((es.map RV.duo).map duoA) T ∧ ((es.map RV.duo).map duoA = [] → w = .nils))
    es.length (by omega)
    (by
      refine ⟨0, _, _, .nils, none, by simp, rfl, ?_, .inl ⟨rfl, by simp⟩, by simp⟩
      simp [push_at, cellsOf?])
    (by
      rintro r L S ⟨j, sc, a6, w, T, hjk, rfl, g1, hl, hn⟩ q hq1 hq2
      by_cases hj : j < es.length
      · obtain ⟨v', S', ha, hl', hn', hk⟩ := append_duo (RV.duo es[j]) hl (by simp; omega)
        have hw : IntKind.i64.wrap ((j : Int) + 1) = ((j : Int) + 1) := wrap_id (by omega) (by omega)
        have hp1 := fun n S => hpt n S j hj
        have hd1 := fun n S => hdu n S es[j] (List.getElem_mem hj)
        have e1 : ((es.take (j + 1)).map RV.duo).map duoA = ((es.take j).map RV.duo ++ [RV.duo es[j]]).map duoA := by
          rw [List.take_add_one, List.getElem?_eq_getElem hj, List.map_append]; rfl
        rw [← e1] at hl'
        have hne : ((es.take (j + 1)).map RV.duo).map duoA ≠ [] := by
          intro h
          have := congrArg List.length h
          rw [List.length_map, List.length_map, List.length_take, List.length_nil] at this
          omega
        obtain ⟨y1, y2, y3⟩ := es[j].cell
        rw [es[j].look] at hp1 hd1
        simp only [duoA] at ha hd1
        simp [vmS, vloc, hj, g1, hp1, hd1, ha, hw, y1, y2, y3]
        exact hq1 (r - 1) _ _ (by omega) ⟨j + 1, _, _, v', some S.n, by omega, rfl, hk.cells _ _ g1, hl', fun h => absurd h hne⟩
      · have hjl : j = es.length := by omega
        subst hjl
        simp [vmS, vloc]
        refine hq2 _ _ _ (by simp) ⟨rfl, _, a6, w, T, _, rfl, by simpa using hl, by simpa using hn⟩)
  obtain ⟨rfl, sc, a6, w, T, i, rfl, hl, hn⟩ := hq
  simp [vmS, vloc]
  refine hp _ _ ?_
  have hd := dead_lst hl hn (duoAs_pers _)
  rcases hl.cases with ⟨rfl, h2⟩ | ⟨tk, rfl⟩
  · simp only [FRes.melt, AV.melt, hd]
  · simp only [FRes.melt, AV.melt, hd]
theorem listDuo_use {cs : List Con} (h : sumOf cs 75 = listDuoC.look) {n : Nat} {v : RV} {S : St} (hl : v.kids.length ≤ 4096) (hk : ∀ k ∈ v.kids, k.has2) : callS ED (sumOf cs) n (.fn 75) [v.enc, .fn 76 [] []] S = some (.ret (lst ((v.kids.map RV.duo).map duoA)), S) :=
  Con.use (c := listDuoC) (fun (x y : RV) hx hy h => by
    have h' : [x.enc, AV.fn 76 [] []] = [y.enc, .fn 76 [] []] := h
    simp only [List.cons.injEq, and_true] at h'
    rw [RV.inj h']) h (v : RV) ⟨hl, hk⟩ (by show [v.enc.dead, (AV.fn 76 [] []).dead] = [v.enc, .fn 76 [] []]; simp [AV.dead, AV.deadL])

def listIntC : Con where
  f := 97
  X := RV
  dom v := v.kids.length ≤ 4096 ∧ ∀ k ∈ v.kids, True
  enc v := [v.enc, .fn 98 [] []]
  res v := .ret (lst ((v.kids.map RV.num).map intA1))
theorem listInt_ok : listIntC.Ok Tryz.prog ED := by
  refine Con.ok_at ED_ok ED_pers [partC, wordC2] (by simpa using ⟨part_ok, word2_ok⟩) (fun (v : RV) _ => ⟨by show AV.persL [v.enc, .fn 98 [] []] = true; simp [AV.persL, RV.pers, AV.pers], lst_pers' (intAs_pers (v.kids.map RV.num))⟩) ?_
  intro (v : RV) hok
  obtain ⟨hlen, hrow⟩ := hok
  show ∃ n, ∀ p : FRes → St → Prop, (∀ r S', r.melt S' = .ret (lst ((v.kids.map RV.num).map intA1)) → p r S') → GotF (callS ED (sumOf [partC, wordC2]) n (.fn 97) [v.enc, .fn 98 [] []] S0) p
  refine ⟨v.kids.length + 2, fun p hp => ?_⟩
  rw [callS_fn rfl]
  have hpt := fun (n : Nat) (S : St) (i : Nat) (hi : i < v.kids.length) => part_use (cs := [partC, wordC2]) rfl (n := n) (S := S) (v := v) (i := i) hi
  have hdu := fun (n : Nat) (S : St) (x : RV) (hx : x ∈ v.kids) => word2_use (cs := [partC, wordC2]) rfl (n := n) (S := S) (v := x)
  have e := v.look
  obtain ⟨c1, c2, c3⟩ := v.cell
  have hvl := v.len
  rw [e] at hpt ⊢
  generalize v.lst = A at *
  generalize v.kind = vk at *
  generalize v.num = vn at *
  generalize v.kids = es at *
  simp only [fnA, ED_fn97, fi97, Tryz.f97]
  simp [vmS, c1, hvl]
  generalize hc : iter _ _ _ _ = c
  obtain ⟨e, L', S', rfl, hq⟩ := loop_of hc
    (fun r L S => ∃ j sc a6 w T, j + r = es.length ∧ L = vloc [.agg [.int .i64 vk, .int .i64 vn, A], .fn 98 [] [], .ptr 0 0, .nils, w, a6, .int .i64 es.length, .int .i64 (j : Nat)] sc ∧
      S.cells? 0 = some [.int .i64 vk, .int .i64 vn, A] ∧ LiveT S 1 w (((es.take j).map RV.num).map intA1) T ∧ (((es.take j).map RV.num).map intA1 = [] → w = .nils))
    (fun e L S => e = .exit 0 ∧ ∃ sc a6 w T i, L = vloc [.agg [.int .i64 vk, .int .i64 vn, A], .fn 98 [] [], .ptr 0 0, .nils, w, a6, .int .i64 es.length, i] sc ∧
      LiveT S 1 w ((es.map RV.num).map intA1) T ∧ ((es.map RV.num).map intA1 = [] → w = .nils))
    es.length (by omega)
    (by
      refine ⟨0, _, _, .nils, none, by simp, rfl, ?_, .inl ⟨rfl, by simp⟩, by simp⟩
      simp [push_at, cellsOf?])
    (by
      rintro r L S ⟨j, sc, a6, w, T, hjk, rfl, g1, hl, hn⟩ q hq1 hq2
      by_cases hj : j < es.length
      · obtain ⟨v', S', ha, hl', hn', hk⟩ := append_int1 (RV.num es[j]) hl (by simp; omega)
        have hw : IntKind.i64.wrap ((j : Int) + 1) = ((j : Int) + 1) := wrap_id (by omega) (by omega)
        have hp1 := fun n S => hpt n S j hj
        have hd1 := fun n S => hdu n S es[j] (List.getElem_mem hj)
        have e1 : ((es.take (j + 1)).map RV.num).map intA1 = ((es.take j).map RV.num ++ [RV.num es[j]]).map intA1 := by
          rw [List.take_add_one, List.getElem?_eq_getElem hj, List.map_append]; rfl
        rw [← e1] at hl'
        have hne : ((es.take (j + 1)).map RV.num).map intA1 ≠ [] := by
          intro h
          have := congrArg List.length h
          rw [List.length_map, List.length_map, List.length_take, List.length_nil] at this
          omega
        obtain ⟨y1, y2, y3⟩ := es[j].cell
        rw [es[j].look] at hp1 hd1
        simp only [intA1] at ha
        simp [vmS, vloc, hj, g1, hp1, hd1, ha, hw, y1, y2, y3]
        exact hq1 (r - 1) _ _ (by omega) ⟨j + 1, _, _, v', some S.n, by omega, rfl, hk.cells _ _ g1, hl', fun h => absurd h hne⟩
      · have hjl : j = es.length := by omega
        subst hjl
        simp [vmS, vloc]
        refine hq2 _ _ _ (by simp) ⟨rfl, _, a6, w, T, _, rfl, by simpa using hl, by simpa using hn⟩)
  obtain ⟨rfl, sc, a6, w, T, i, rfl, hl, hn⟩ := hq
  simp [vmS, vloc]
  refine hp _ _ ?_
  have hd := dead_lst hl hn (intAs_pers _)
  rcases hl.cases with ⟨rfl, h2⟩ | ⟨tk, rfl⟩
  · simp only [FRes.melt, AV.melt, hd]
  · simp only [FRes.melt, AV.melt, hd]
theorem listInt_use {cs : List Con} (h : sumOf cs 97 = listIntC.look) {n : Nat} {v : RV} {S : St} (hl : v.kids.length ≤ 4096) (hk : ∀ k ∈ v.kids, True) : callS ED (sumOf cs) n (.fn 97) [v.enc, .fn 98 [] []] S = some (.ret (lst ((v.kids.map RV.num).map intA1)), S) :=
  Con.use (c := listIntC) (fun (x y : RV) hx hy h => by
    have h' : [x.enc, AV.fn 98 [] []] = [y.enc, .fn 98 [] []] := h
    simp only [List.cons.injEq, and_true] at h'
    rw [RV.inj h']) h (v : RV) ⟨hl, hk⟩ (by show [v.enc.dead, (AV.fn 98 [] []).dead] = [v.enc, .fn 98 [] []]; simp [AV.dead, AV.deadL])

def rowC : Con where
  f := 96
  X := RV
  dom v := v.kids.length ≤ 4096 ∧ ∀ k ∈ v.kids, k.has2
  enc v := [v.enc]
  res v := .ret (rowA v.duos)
theorem row_ok : rowC.Ok Tryz.prog ED := by
  refine Con.ok_at ED_ok ED_pers [listDuoC] (by simpa using listDuo_ok) (fun (v : RV) _ => ⟨by show AV.persL [v.enc] = true; simp [AV.persL, RV.pers], rowA_pers _⟩) ?_
  intro (v : RV) hok
  obtain ⟨h1, h2⟩ := hok
  show ∃ n, ∀ p : FRes → St → Prop, (∀ r S', r.melt S' = .ret (rowA v.duos) → p r S') → GotF (callS ED (sumOf [listDuoC]) n (.fn 96) [v.enc] S0) p
  refine ⟨1, fun p hp => ?_⟩
  rw [callS_fn rfl]
  have hli := fun (n : Nat) (S : St) => listDuo_use (cs := [listDuoC]) rfl (n := n) (S := S) h1 h2
  have e := v.look
  obtain ⟨c1, c2, c3⟩ := v.cell
  rw [e] at hli ⊢
  have hd : (rowA v.duos).dead = rowA v.duos := dead_of_pers _ (rowA_pers _)
  have hm : ∀ S, (rowA v.duos).melt S = rowA v.duos := by
    intro S
    unfold rowA at hd ⊢
    generalize v.duos = l at *
    cases l with
    | nil => rfl
    | cons a r => exact hd
  simp only [fnA, ED_fn96, fi96, Tryz.f96]
  change ∀ n S, _ = some (FRes.ret (rowA v.duos), S) at hli
  generalize v.lst = A at *
  simp [vmS, c1, hli]
  exact hp _ _ (congrArg FRes.ret (hm _))
theorem row_use {cs : List Con} (h : sumOf cs 96 = rowC.look) {n : Nat} {v : RV} {S : St} (hv : v.kids.length ≤ 4096 ∧ ∀ k ∈ v.kids, k.has2) : callS ED (sumOf cs) n (.fn 96) [v.enc] S = some (.ret (rowA v.duos), S) :=
  Con.use (c := rowC) (fun (x y : RV) hx hy h => by
    have h' : [x.enc] = [y.enc] := h
    simp only [List.cons.injEq, and_true] at h'
    rw [RV.inj h']) h (v : RV) hv (by show [v.enc.dead] = [v.enc]; simp)

def listRowC : Con where
  f := 95
  X := RV
  dom v := v.kids.length ≤ 4096 ∧ ∀ k ∈ v.kids, (k.kids.length ≤ 4096 ∧ ∀ m ∈ k.kids, m.has2)
  enc v := [v.enc, .fn 96 [] []]
  res v := .ret (lst ((v.kids.map RV.duos).map rowA))
theorem listRow_ok : listRowC.Ok Tryz.prog ED := by
  refine Con.ok_at ED_ok ED_pers [partC, rowC] (by simpa using ⟨part_ok, row_ok⟩) (fun (v : RV) _ => ⟨by show AV.persL [v.enc, .fn 96 [] []] = true; simp [AV.persL, RV.pers, AV.pers], lst_pers' (rowAs_pers (v.kids.map RV.duos))⟩) ?_
  intro (v : RV) hok
  obtain ⟨hlen, hrow⟩ := hok
  show ∃ n, ∀ p : FRes → St → Prop, (∀ r S', r.melt S' = .ret (lst ((v.kids.map RV.duos).map rowA)) → p r S') → GotF (callS ED (sumOf [partC, rowC]) n (.fn 95) [v.enc, .fn 96 [] []] S0) p
  refine ⟨v.kids.length + 2, fun p hp => ?_⟩
  rw [callS_fn rfl]
  have hpt := fun (n : Nat) (S : St) (i : Nat) (hi : i < v.kids.length) => part_use (cs := [partC, rowC]) rfl (n := n) (S := S) (v := v) (i := i) hi
  have hdu := fun (n : Nat) (S : St) (x : RV) (hx : x ∈ v.kids) => row_use (cs := [partC, rowC]) rfl (n := n) (S := S) (v := x) (hrow x hx)
  have e := v.look
  obtain ⟨c1, c2, c3⟩ := v.cell
  have hvl := v.len
  rw [e] at hpt ⊢
  generalize v.lst = A at *
  generalize v.kind = vk at *
  generalize v.num = vn at *
  generalize v.kids = es at *
  simp only [fnA, ED_fn95, fi95, Tryz.f95]
  simp [vmS, c1, hvl]
  generalize hc : iter _ _ _ _ = c
  obtain ⟨e, L', S', rfl, hq⟩ := loop_of hc
    (fun r L S => ∃ j sc a6 w T, j + r = es.length ∧ L = vloc [.agg [.int .i64 vk, .int .i64 vn, A], .fn 96 [] [], .ptr 0 0, .nils, w, a6, .int .i64 es.length, .int .i64 (j : Nat)] sc ∧
      S.cells? 0 = some [.int .i64 vk, .int .i64 vn, A] ∧ LiveT S 1 w (((es.take j).map RV.duos).map rowA) T ∧ (((es.take j).map RV.duos).map rowA = [] → w = .nils))
    (fun e L S => e = .exit 0 ∧ ∃ sc a6 w T i, L = vloc [.agg [.int .i64 vk, .int .i64 vn, A], .fn 96 [] [], .ptr 0 0, .nils, w, a6, .int .i64 es.length, i] sc ∧
      LiveT S 1 w ((es.map RV.duos).map rowA) T ∧ ((es.map RV.duos).map rowA = [] → w = .nils))
    es.length (by omega)
    (by
      refine ⟨0, _, _, .nils, none, by simp, rfl, ?_, .inl ⟨rfl, by simp⟩, by simp⟩
      simp [push_at, cellsOf?])
    (by
      rintro r L S ⟨j, sc, a6, w, T, hjk, rfl, g1, hl, hn⟩ q hq1 hq2
      by_cases hj : j < es.length
      · obtain ⟨v', S', ha, hl', hn', hk⟩ := append_row (RV.duos es[j]) hl (by simp; omega)
        have hw : IntKind.i64.wrap ((j : Int) + 1) = ((j : Int) + 1) := wrap_id (by omega) (by omega)
        have hp1 := fun n S => hpt n S j hj
        have hd1 := fun n S => hdu n S es[j] (List.getElem_mem hj)
        have e1 : ((es.take (j + 1)).map RV.duos).map rowA = ((es.take j).map RV.duos ++ [RV.duos es[j]]).map rowA := by
          rw [List.take_add_one, List.getElem?_eq_getElem hj, List.map_append]; rfl
        rw [← e1] at hl'
        have hne : ((es.take (j + 1)).map RV.duos).map rowA ≠ [] := by
          intro h
          have := congrArg List.length h
          rw [List.length_map, List.length_map, List.length_take, List.length_nil] at this
          omega
        obtain ⟨y1, y2, y3⟩ := es[j].cell
        rw [es[j].look] at hp1 hd1
        obtain ⟨k1, k2, k3⟩ := rowA_cell es[j].duos
        have k4 : (rowA es[j].duos).cells.length = 1 := by rw [k3]; rfl
        simp [vmS, vloc, hj, g1, hp1, hd1, ha, hw, y1, y2, y3, k2, k4]
        exact hq1 (r - 1) _ _ (by omega) ⟨j + 1, _, _, v', some S.n, by omega, rfl, hk.cells _ _ g1, hl', fun h => absurd h hne⟩
      · have hjl : j = es.length := by omega
        subst hjl
        simp [vmS, vloc]
        refine hq2 _ _ _ (by simp) ⟨rfl, _, a6, w, T, _, rfl, by simpa using hl, by simpa using hn⟩)
  obtain ⟨rfl, sc, a6, w, T, i, rfl, hl, hn⟩ := hq
  simp [vmS, vloc]
  refine hp _ _ ?_
  have hd := dead_lst hl hn (rowAs_pers _)
  rcases hl.cases with ⟨rfl, h2⟩ | ⟨tk, rfl⟩
  · simp only [FRes.melt, AV.melt, hd]
  · simp only [FRes.melt, AV.melt, hd]
theorem listRow_use {cs : List Con} (h : sumOf cs 95 = listRowC.look) {n : Nat} {v : RV} {S : St} (hl : v.kids.length ≤ 4096) (hk : ∀ k ∈ v.kids, (k.kids.length ≤ 4096 ∧ ∀ m ∈ k.kids, m.has2)) : callS ED (sumOf cs) n (.fn 95) [v.enc, .fn 96 [] []] S = some (.ret (lst ((v.kids.map RV.duos).map rowA)), S) :=
  Con.use (c := listRowC) (fun (x y : RV) hx hy h => by
    have h' : [x.enc, AV.fn 96 [] []] = [y.enc, .fn 96 [] []] := h
    simp only [List.cons.injEq, and_true] at h'
    rw [RV.inj h']) h (v : RV) ⟨hl, hk⟩ (by show [v.enc.dead, (AV.fn 96 [] []).dead] = [v.enc, .fn 96 [] []]; simp [AV.dead, AV.deadL])

end Go.Proofs.YtpjcmiaanjcanaaGreatDoor
