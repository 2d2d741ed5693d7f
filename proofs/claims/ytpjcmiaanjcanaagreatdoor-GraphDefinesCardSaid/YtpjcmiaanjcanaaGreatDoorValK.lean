/-
The hull of the reference. No conditions.
-/
import Derived.Test.YtpjcmiaanjcanaaGreatDoorValJ
set_option linter.all false

namespace Go.Proofs.YtpjcmiaanjcanaaGreatDoor
open Go Go.Vm Go.Vm.T
set_option maxRecDepth 100000
set_option linter.unusedSimpArgs false
set_option linter.unusedVariables false
attribute [local simp] inFrame startLoc startVals Loc.clear blockC Loc.putO Loc.put idx evO constV Loc.get Vm.look intA unwindA resultsA resultV actA pureA storeA loadA fillE repElems TI.zeroV fieldOf fieldAddrA fieldA elemsA retE cellsOf? setCells nowhere

set_option maxHeartbeats 4000000

/-! the reference's points -/
def ptL (p : Int × Int) : AV := slcI [p.1, p.2]
theorem ptL_inj {p q : Int × Int} (h : ptL p = ptL q) : p = q := by
  have := slcI_inj h
  simp only [List.cons.injEq, and_true] at this
  exact Prod.ext this.1 this.2
theorem ptL_pers (p : Int × Int) : (ptL p).pers = true := slcI_pers _

def equalC : Con where
  f := 101
  X := (Int × Int) × (Int × Int)
  dom _ := True
  enc x := [ptL x.1, ptL x.2]
  res x := .ret (.bool (decide (x.1 = x.2)))
theorem equal_ok : equalC.Ok Tryz.prog ED := by
  refine Con.ok_at ED_ok ED_pers [] (by simp) (fun (x : (Int × Int) × (Int × Int)) _ => ⟨by show AV.persL [ptL x.1, ptL x.2] = true; simp [AV.persL, ptL_pers], rfl⟩) ?_
  rintro ⟨⟨a, b⟩, ⟨c, d⟩⟩ _
  show ∃ n, ∀ p : FRes → St → Prop, (∀ r S', r.melt S' = .ret (.bool (decide ((a, b) = (c, d)))) → p r S') → GotF (callS ED (sumOf []) n (.fn 101) [slcI [a, b], slcI [c, d]] S0) p
  refine ⟨10, fun p hp => ?_⟩
  rw [callS_fn rfl]
  have d0 := @dr101_0
  simp only [drA, drawsOf, Option.getD_some, List.nil_append, List.append_nil, List.getD_cons_zero, List.getD_cons_succ, List.cons_append, Tryz.f101] at d0
  have l1 := slcI_len [a, b]
  have l2 := slcI_len [c, d]
  simp only [List.length_cons, List.length_nil] at l1 l2
  have a0 := duo_at0 a b
  have a1 := duo_at1 a b
  have c0 := duo_at0 c d
  have c1 := duo_at1 c d
  obtain ⟨p1, p2, p3⟩ := slcI_cell [a, b]
  obtain ⟨q1, q2, q3⟩ := slcI_cell [c, d]
  generalize slcI [a, b] = P at *
  generalize slcI [c, d] = Q at *
  simp only [fnA, ED_fn101, fi101, Tryz.f101]
  simp [vmS, l1, l2]
  generalize hc : iter _ _ _ _ = cc
  obtain ⟨e1, L1, S1, rfl, hq⟩ := loop_of hc
    (fun r L S => ∃ s sc j, L = vloc [P, Q, .bool false, .bool s, .int .i64 (j : Int)] sc ∧ ((j = 0 ∧ s = true ∧ r = 2) ∨ (j = 1 ∧ s = decide (a = c) ∧ r = 1) ∨ (j = 2 ∧ s = decide ((a, b) = (c, d)) ∧ a = c ∧ r = 0)))
    (fun e L S => e = .exit 0 ∧ ∃ sc j, L = vloc [P, Q, .bool false, .bool (decide ((a, b) = (c, d))), j] sc)
    2 (by omega)
    ⟨true, _, 0, rfl, .inl ⟨rfl, rfl, rfl⟩⟩
    (by
      rintro r L S ⟨s, sc, j, rfl, h⟩ q hq1 hq2
      have w1 : IntKind.i64.wrap ((1 : Int) + 1) = 2 := wrap_id (by omega) (by omega)
      have w0 : IntKind.i64.wrap (1 : Int) = 1 := wrap_id (by omega) (by omega)
      rcases h with ⟨rfl, rfl, rfl⟩ | ⟨rfl, rfl, rfl⟩ | ⟨rfl, rfl, rfl, rfl⟩
      · by_cases h : a = c
        · simp [vmS, runC_nil, runC_cons, pickC_some, wantC_tt, wantC_tf, effC_val, ifC_true, checkC, inPairs, keepC, okC, readsC_load, readV_some, AV.beq_self, wantA_n, wantA_g, wantD_some, d0, vloc, l1, a0, c0, h, w0]
          exact hq1 1 _ _ (by omega) ⟨true, _, 1, rfl, .inr (.inl ⟨rfl, by simp [h], rfl⟩)⟩
        · simp [vmS, runC_nil, runC_cons, pickC_some, wantC_tt, wantC_tf, effC_val, ifC_true, checkC, inPairs, keepC, okC, readsC_load, readV_some, AV.beq_self, wantA_n, wantA_g, wantD_some, d0, vloc, l1, a0, c0, h, w0]
          exact hq1 1 _ _ (by omega) ⟨false, _, 1, rfl, .inr (.inl ⟨rfl, by simp [h], rfl⟩)⟩
      · by_cases h : a = c
        · by_cases h' : b = d
          · simp [vmS, runC_nil, runC_cons, pickC_some, wantC_tt, wantC_tf, effC_val, ifC_true, checkC, inPairs, keepC, okC, readsC_load, readV_some, AV.beq_self, wantA_n, wantA_g, wantD_some, d0, vloc, l1, a1, c1, h, h', w1]
            exact hq1 0 _ _ (by omega) ⟨true, _, 2, rfl, .inr (.inr ⟨rfl, by simp [h, h'], h, rfl⟩)⟩
          · simp [vmS, runC_nil, runC_cons, pickC_some, wantC_tt, wantC_tf, effC_val, ifC_true, checkC, inPairs, keepC, okC, readsC_load, readV_some, AV.beq_self, wantA_n, wantA_g, wantD_some, d0, vloc, l1, a1, c1, h, h', w1]
            exact hq1 0 _ _ (by omega) ⟨false, _, 2, rfl, .inr (.inr ⟨rfl, by simp [h, h'], h, rfl⟩)⟩
        · simp [vmS, vloc, l1, h]
          exact hq2 _ _ _ (by simp) ⟨rfl, _, _, by rw [show decide ((a, b) = (c, d)) = false from by simp [h]]; rfl⟩
      · by_cases h' : b = d
        · simp [vmS, vloc, l1, h']
          exact hq2 _ _ _ (by simp) ⟨rfl, _, _, by rw [show decide ((a, b) = (a, d)) = true from by simp [h']]; rfl⟩
        · simp [vmS, vloc, l1, h']
          exact hq2 _ _ _ (by simp) ⟨rfl, _, _, by rw [show decide ((a, b) = (a, d)) = false from by simp [h']]; rfl⟩)
  obtain ⟨rfl, sc, j, rfl⟩ := hq
  simp [vmS, vloc]
  exact hp _ _ (by simp [FRes.melt, AV.melt, AV.dead])
theorem equal_use {cs : List Con} (h : sumOf cs 101 = equalC.look) {n : Nat} {p q : Int × Int} {S : St} : callS ED (sumOf cs) n (.fn 101) [ptL p, ptL q] S = some (.ret (.bool (decide (p = q))), S) :=
  Con.use (c := equalC) (fun (x y : (Int × Int) × (Int × Int)) hx hy h => by
    have h' : [ptL x.1, ptL x.2] = [ptL y.1, ptL y.2] := h
    simp only [List.cons.injEq, and_true] at h'
    rw [Prod.ext (ptL_inj h'.1) (ptL_inj h'.2)]) h ((p, q) : (Int × Int) × (Int × Int)) trivial (by
      show [(ptL p).dead, (ptL q).dead] = [ptL p, ptL q]
      rw [dead_of_pers _ (ptL_pers p), dead_of_pers _ (ptL_pers q)])

def turnRC : Con where
  f := 102
  X := Pt3
  dom x := Near0 x.p ∧ Near0 x.q ∧ Near0 x.r
  enc x := [ptL x.p, ptL x.q, ptL x.r]
  res x := .ret (.int .i64 (rgt x.p x.q x.r))
theorem turnR_ok : turnRC.Ok Tryz.prog ED := by
  refine Con.ok_at ED_ok ED_pers [] (by simp) (fun (x : Pt3) _ => ⟨by show AV.persL [ptL x.p, ptL x.q, ptL x.r] = true; simp [AV.persL, ptL_pers], rfl⟩) ?_
  rintro ⟨⟨p1, p2⟩, ⟨q1, q2⟩, ⟨r1, r2⟩⟩ ⟨⟨⟨a1, a2⟩, a3, a4⟩, ⟨⟨b1, b2⟩, b3, b4⟩, ⟨c1, c2⟩, c3, c4⟩
  simp only at a1 a2 a3 a4 b1 b2 b3 b4 c1 c2 c3 c4
  show ∃ n, ∀ p : FRes → St → Prop, (∀ r S', r.melt S' = .ret (.int .i64 ((q1 - p1) * (r2 - p2) - (q2 - p2) * (r1 - p1))) → p r S') → GotF (callS ED (sumOf []) n (.fn 102) [slcI [p1, p2], slcI [q1, q2], slcI [r1, r2]] S0) p
  refine ⟨10, fun p hp => ?_⟩
  rw [callS_fn rfl]
  have d0 := @dr102_0
  simp only [drA, drawsOf, Option.getD_some, List.nil_append, List.append_nil, List.getD_cons_zero, List.getD_cons_succ, List.cons_append, Tryz.f102] at d0
  have w1 : IntKind.i64.wrap (q1 - p1) = q1 - p1 := wrap_id (by omega) (by omega)
  have w2 : IntKind.i64.wrap (r2 - p2) = r2 - p2 := wrap_id (by omega) (by omega)
  have w3 : IntKind.i64.wrap (q2 - p2) = q2 - p2 := wrap_id (by omega) (by omega)
  have w4 : IntKind.i64.wrap (r1 - p1) = r1 - p1 := wrap_id (by omega) (by omega)
  have m1 := mul_bnd (a := q1 - p1) (b := r2 - p2) (by omega) (by omega)
  have m2 := mul_bnd (a := q2 - p2) (b := r1 - p1) (by omega) (by omega)
  have w5 : IntKind.i64.wrap ((q1 - p1) * (r2 - p2)) = (q1 - p1) * (r2 - p2) := wrap_id (by omega) (by omega)
  have w6 : IntKind.i64.wrap ((q2 - p2) * (r1 - p1)) = (q2 - p2) * (r1 - p1) := wrap_id (by omega) (by omega)
  have w7 : IntKind.i64.wrap ((q1 - p1) * (r2 - p2) - (q2 - p2) * (r1 - p1)) = (q1 - p1) * (r2 - p2) - (q2 - p2) * (r1 - p1) := wrap_id (by omega) (by omega)
  have A0 := duo_at0 p1 p2
  have A1 := duo_at1 p1 p2
  have B0 := duo_at0 q1 q2
  have B1 := duo_at1 q1 q2
  have C0 := duo_at0 r1 r2
  have C1 := duo_at1 r1 r2
  obtain ⟨g1, g2, g3⟩ := slcI_cell [p1, p2]
  obtain ⟨g4, g5, g6⟩ := slcI_cell [q1, q2]
  obtain ⟨g7, g8, g9⟩ := slcI_cell [r1, r2]
  generalize slcI [p1, p2] = P at *
  generalize slcI [q1, q2] = Q at *
  generalize slcI [r1, r2] = R at *
  simp only [fnA, ED_fn102, fi102, Tryz.f102]
  simp [vmS, runC_nil, runC_cons, pickC_some, wantC_tt, wantC_tf, effC_val, ifC_true, checkC, inPairs, keepC, okC, readsC_load, readV_some, AV.beq_self, wantA_n, wantA_g, wantD_some, d0, A0, A1, B0, B1, C0, C1, w1, w2, w3, w4, w5, w6, w7]
  exact hp _ _ rfl
theorem turnR_use {cs : List Con} (h : sumOf cs 102 = turnRC.look) {n : Nat} {p q r : Int × Int} {S : St} (hp : Near0 p) (hq : Near0 q) (hr : Near0 r) : callS ED (sumOf cs) n (.fn 102) [ptL p, ptL q, ptL r] S = some (.ret (.int .i64 (rgt p q r)), S) :=
  Con.use (c := turnRC) (fun (x y : Pt3) hx hy h => by
    have h' : [ptL x.p, ptL x.q, ptL x.r] = [ptL y.p, ptL y.q, ptL y.r] := h
    simp only [List.cons.injEq, and_true] at h'
    obtain ⟨h1, h2, h3⟩ := h'
    show FRes.ret (.int .i64 (rgt x.p x.q x.r)) = .ret (.int .i64 (rgt y.p y.q y.r))
    rw [ptL_inj h1, ptL_inj h2, ptL_inj h3]) h (⟨p, q, r⟩ : Pt3) ⟨hp, hq, hr⟩ (by
      show [(ptL p).dead, (ptL q).dead, (ptL r).dead] = [ptL p, ptL q, ptL r]
      rw [dead_of_pers _ (ptL_pers p), dead_of_pers _ (ptL_pers q), dead_of_pers _ (ptL_pers r)])

def farRC : Con where
  f := 103
  X := (Int × Int) × (Int × Int)
  dom x := Near0 x.1 ∧ Near0 x.2
  enc x := [ptL x.1, ptL x.2]
  res x := .ret (.int .i64 (far x.1 x.2))
theorem farR_ok : farRC.Ok Tryz.prog ED := by
  refine Con.ok_at ED_ok ED_pers [] (by simp) (fun (x : (Int × Int) × (Int × Int)) _ => ⟨by show AV.persL [ptL x.1, ptL x.2] = true; simp [AV.persL, ptL_pers], rfl⟩) ?_
  rintro ⟨⟨p1, p2⟩, ⟨q1, q2⟩⟩ ⟨⟨⟨a1, a2⟩, a3, a4⟩, ⟨b1, b2⟩, b3, b4⟩
  simp only at a1 a2 a3 a4 b1 b2 b3 b4
  show ∃ n, ∀ p : FRes → St → Prop, (∀ r S', r.melt S' = .ret (.int .i64 ((q1 - p1) * (q1 - p1) + (q2 - p2) * (q2 - p2))) → p r S') → GotF (callS ED (sumOf []) n (.fn 103) [slcI [p1, p2], slcI [q1, q2]] S0) p
  refine ⟨10, fun p hp => ?_⟩
  rw [callS_fn rfl]
  have d0 := @dr103_0
  simp only [drA, drawsOf, Option.getD_some, List.nil_append, List.append_nil, List.getD_cons_zero, List.getD_cons_succ, List.cons_append, Tryz.f103] at d0
  have w1 : IntKind.i64.wrap (q1 - p1) = q1 - p1 := wrap_id (by omega) (by omega)
  have w3 : IntKind.i64.wrap (q2 - p2) = q2 - p2 := wrap_id (by omega) (by omega)
  have m1 := mul_bnd (a := q1 - p1) (b := q1 - p1) (by omega) (by omega)
  have m2 := mul_bnd (a := q2 - p2) (b := q2 - p2) (by omega) (by omega)
  have w5 : IntKind.i64.wrap ((q1 - p1) * (q1 - p1)) = (q1 - p1) * (q1 - p1) := wrap_id (by omega) (by omega)
  have w6 : IntKind.i64.wrap ((q2 - p2) * (q2 - p2)) = (q2 - p2) * (q2 - p2) := wrap_id (by omega) (by omega)
  have w7 : IntKind.i64.wrap ((q1 - p1) * (q1 - p1) + (q2 - p2) * (q2 - p2)) = (q1 - p1) * (q1 - p1) + (q2 - p2) * (q2 - p2) := wrap_id (by omega) (by omega)
  have A0 := duo_at0 p1 p2
  have A1 := duo_at1 p1 p2
  have B0 := duo_at0 q1 q2
  have B1 := duo_at1 q1 q2
  generalize slcI [p1, p2] = P at *
  generalize slcI [q1, q2] = Q at *
  simp only [fnA, ED_fn103, fi103, Tryz.f103]
  simp [vmS, runC_nil, runC_cons, pickC_some, wantC_tt, wantC_tf, effC_val, ifC_true, checkC, inPairs, keepC, okC, readsC_load, readV_some, AV.beq_self, wantA_n, wantA_g, wantD_some, d0, A0, A1, B0, B1, w1, w3, w5, w6, w7]
  exact hp _ _ rfl
theorem farR_use {cs : List Con} (h : sumOf cs 103 = farRC.look) {n : Nat} {p q : Int × Int} {S : St} (hp : Near0 p) (hq : Near0 q) : callS ED (sumOf cs) n (.fn 103) [ptL p, ptL q] S = some (.ret (.int .i64 (far p q)), S) :=
  Con.use (c := farRC) (fun (x y : (Int × Int) × (Int × Int)) hx hy h => by
    have h' : [ptL x.1, ptL x.2] = [ptL y.1, ptL y.2] := h
    simp only [List.cons.injEq, and_true] at h'
    obtain ⟨h1, h2⟩ := h'
    show FRes.ret (.int .i64 (far x.1 x.2)) = .ret (.int .i64 (far y.1 y.2))
    rw [ptL_inj h1, ptL_inj h2]) h ((p, q) : (Int × Int) × (Int × Int)) ⟨hp, hq⟩ (by
      show [(ptL p).dead, (ptL q).dead] = [ptL p, ptL q]
      rw [dead_of_pers _ (ptL_pers p), dead_of_pers _ (ptL_pers q)])

end Go.Proofs.YtpjcmiaanjcanaaGreatDoor

namespace Go.Proofs.YtpjcmiaanjcanaaGreatDoor
open Go Go.Vm Go.Vm.T
set_option maxRecDepth 100000
set_option linter.unusedSimpArgs false
set_option linter.unusedVariables false
attribute [local simp] inFrame startLoc startVals Loc.clear blockC Loc.putO Loc.put idx evO constV Loc.get Vm.look intA unwindA resultsA resultV actA pureA storeA loadA fillE repElems TI.zeroV fieldOf fieldAddrA fieldA elemsA retE cellsOf? setCells nowhere

set_option maxHeartbeats 4000000

theorem idxP_at {l : List (Int × Int)} {j : Nat} (h : j < l.length) (hn : l[j] ∉ l.take j) : idxP l l[j] = j := by
  have hm : l[j] ∈ l := List.getElem_mem h
  have h1 := idxP_lt hm
  have h2 := idxP_get hm
  rcases Nat.lt_trichotomy (idxP l l[j]) j with k | k | k
  · exfalso
    apply hn
    have : l[j] = (l.take j)[idxP l l[j]]'(by simp; omega) := by rw [List.getElem_take]; exact h2.symm
    rw [this]
    exact List.getElem_mem _
  · exact k
  · exact absurd rfl (idxP_first h k)
theorem ed_get {l : List (Int × Int)} {j : Nat} (h : j < l.length) : indexAddrA ED 84 (edgesA l) (.int .i64 (j : Nat)) = some (.rptr [ptL l[j]]) := edges_get h

def leastC : Con where
  f := 89
  X := List (Int × Int)
  dom l := l ≠ [] ∧ Bnd l ∧ l.length ≤ 4096
  enc l := [edgesA l]
  res l := .ret (.int .i64 (idxP l (startH l) : Nat))
theorem least_ok : leastC.Ok Tryz.prog ED := by
  refine Con.ok_at ED_ok ED_pers [] (by simp) (fun (l : List (Int × Int)) _ => ⟨by show AV.persL [edgesA l] = true; simp [AV.persL, edgesA_pers], rfl⟩) ?_
  intro (l : List (Int × Int)) hd
  obtain ⟨hne, hb, hlen⟩ := (hd : l ≠ [] ∧ Bnd l ∧ l.length ≤ 4096)
  show ∃ n, ∀ p : FRes → St → Prop, (∀ r S', r.melt S' = .ret (.int .i64 (idxP l (startH l) : Nat)) → p r S') → GotF (callS ED (sumOf []) n (.fn 89) [edgesA l] S0) p
  refine ⟨5000, fun p hp => ?_⟩
  rw [callS_fn rfl]
  have d0 := @dr89_0
  simp only [drA, drawsOf, Option.getD_some, List.nil_append, List.append_nil, List.getD_cons_zero, List.getD_cons_succ, List.cons_append, Tryz.f89] at d0
  have hEl := edges_len l
  have hEx := fun (j : Nat) (hj : j < l.length) => ed_get hj
  obtain ⟨hE1, hE2, hE3⟩ := edgesA_cell l
  have hl0 : 0 < l.length := List.length_pos_iff.2 hne
  have hbt : ∀ j, Bnd (l.take j) := fun j r hr => hb r (List.mem_of_mem_take hr)
  generalize edgesA l = E at *
  have hst1 : startH (l.take 1) = l[0] := by
    have : l.take 1 = [l[0]] := by
      cases l with
      | nil => exact absurd rfl hne
      | cons a r => rfl
    rw [this]
    have h0 := hb l[0] (List.getElem_mem hl0)
    show leastS nob l[0] = l[0]
    unfold leastS
    rw [if_pos (.inl (by show l[0].1 < 1099511627776; omega))]
  simp only [fnA, ED_fn89, fi89, Tryz.f89]
  simp [vmS]
  generalize hc : iter _ _ _ _ = c
  obtain ⟨e1, L1, S1, rfl, hq⟩ := loop_of hc
    (fun r L S => ∃ j b sc, j + r = l.length ∧ 1 ≤ j ∧ L = vloc [E, .int .i64 0, .int .i64 (b : Nat), .int .i64 (j : Nat)] sc ∧ b < j ∧ (∃ h : b < l.length, l[b] = startH (l.take j)) ∧ idxP l (startH (l.take j)) = b)
    (fun e L S => e = .exit 0 ∧ ∃ sc j, L = vloc [E, .int .i64 0, .int .i64 (idxP l (startH l) : Nat), j] sc)
    (l.length - 1) (by omega)
    ⟨1, 0, _, by omega, by omega, rfl, by omega, ⟨hl0, hst1.symm⟩, by rw [hst1]; exact idxP_at hl0 (by simp)⟩
    (by
      rintro r L S ⟨j, b, sc, hjk, hj1, rfl, hbj, ⟨hbl, hbs⟩, hbi⟩ q hq1 hq2
      by_cases hj : j < l.length
      · have hw : IntKind.i64.wrap ((j : Int) + 1) = ((j : Int) + 1) := wrap_id (by omega) (by omega)
        have hx1 := hEx j hj
        have hx2 := hEx b hbl
        have hst : startH (l.take (j + 1)) = leastS (startH (l.take j)) l[j] := by rw [take_snoc hj, start_snoc]
        have hlst : ∀ r ∈ l.take j, ¬ lxl r (startH (l.take j)) := by
          rcases start_ok j (l := l.take j) (by simp; omega) (hbt j) with h | h
          · have := congrArg List.length h
            rw [List.length_take, List.length_nil] at this
            omega
          · exact h.2
        have hni : lxl l[j] (startH (l.take j)) → idxP l l[j] = j := fun h => idxP_at hj (fun hm => hlst _ hm h)
        rw [hbs] at hx2
        have hA0 := duo_at0 l[j].1 l[j].2
        have hA1 := duo_at1 l[j].1 l[j].2
        obtain ⟨p1, p2, p3⟩ := slcI_cell [l[j].1, l[j].2]
        have hB0 := duo_at0 (startH (l.take j)).1 (startH (l.take j)).2
        have hB1 := duo_at1 (startH (l.take j)).1 (startH (l.take j)).2
        obtain ⟨q1, q2, q3⟩ := slcI_cell [(startH (l.take j)).1, (startH (l.take j)).2]
        unfold ptL at hx1 hx2
        unfold lxl at hni
        unfold leastS at hst
        have hlj : ∀ v, v = l[j] → ∃ h : j < l.length, l[j] = v := fun v h => ⟨hj, h.symm⟩
        generalize slcI [l[j].1, l[j].2] = P at *
        generalize slcI [(startH (l.take j)).1, (startH (l.take j)).2] = Q at *
        have key1 : startH (l.take (j + 1)) = l[j] → (l[j].1 < (startH (l.take j)).1 ∨ (l[j].1 = (startH (l.take j)).1 ∧ l[j].2 < (startH (l.take j)).2)) → (∃ h : j < l.length, l[j] = startH (l.take (j + 1))) ∧ idxP l (startH (l.take (j + 1))) = j := fun h1 h2 => ⟨⟨hj, h1.symm⟩, by rw [h1]; exact hni h2⟩
        have key2 : startH (l.take (j + 1)) = startH (l.take j) → (∃ h : b < l.length, l[b] = startH (l.take (j + 1))) ∧ idxP l (startH (l.take (j + 1))) = b := fun h1 => ⟨⟨hbl, by rw [h1]; exact hbs⟩, by rw [h1]; exact hbi⟩
        by_cases c1 : l[j].1 < (startH (l.take j)).1
        · rw [if_pos (.inl c1)] at hst
          obtain ⟨k1, k2⟩ := key1 hst (.inl c1)
          clear key1 key2 hni hlst hst hbs hbi hlj
          generalize l[j].1 = x1 at *
          generalize l[j].2 = x2 at *
          generalize (startH (l.take j)).1 = s1 at *
          generalize (startH (l.take j)).2 = s2 at *
          simp [vmS, runC_nil, runC_cons, pickC_some, wantC_tt, wantC_tf, effC_val, ifC_true, checkC, inPairs, keepC, okC, readsC_load, readV_some, AV.beq_self, wantA_n, wantA_g, wantD_some, d0, vloc, hEl, hj, hx1, hx2, p1, p2, p3, q1, q2, q3, hA0, hA1, hB0, hB1, c1, hw]
          exact hq1 (r - 1) _ _ (by omega) ⟨j + 1, j, _, by omega, by omega, rfl, by omega, k1, k2⟩
        · by_cases c2 : l[j].1 = (startH (l.take j)).1
          · by_cases c3 : l[j].2 < (startH (l.take j)).2
            · rw [if_pos (.inr ⟨c2, c3⟩)] at hst
              obtain ⟨k1, k2⟩ := key1 hst (.inr ⟨c2, c3⟩)
              clear key1 key2 hni hlst hst hbs hbi hlj
              generalize l[j].1 = x1 at *
              generalize l[j].2 = x2 at *
              generalize (startH (l.take j)).1 = s1 at *
              generalize (startH (l.take j)).2 = s2 at *
              subst c2
              simp [vmS, runC_nil, runC_cons, pickC_some, wantC_tt, wantC_tf, effC_val, ifC_true, checkC, inPairs, keepC, okC, readsC_load, readV_some, AV.beq_self, wantA_n, wantA_g, wantD_some, d0, vloc, hEl, hj, hx1, hx2, p1, p2, p3, q1, q2, q3, hA0, hA1, hB0, hB1, c3, hw]
              exact hq1 (r - 1) _ _ (by omega) ⟨j + 1, j, _, by omega, by omega, rfl, by omega, k1, k2⟩
            · rw [if_neg (by omega)] at hst
              obtain ⟨k1, k2⟩ := key2 hst
              clear key1 key2 hni hlst hst hbs hbi hlj
              generalize l[j].1 = x1 at *
              generalize l[j].2 = x2 at *
              generalize (startH (l.take j)).1 = s1 at *
              generalize (startH (l.take j)).2 = s2 at *
              subst c2
              simp [vmS, runC_nil, runC_cons, pickC_some, wantC_tt, wantC_tf, effC_val, ifC_true, checkC, inPairs, keepC, okC, readsC_load, readV_some, AV.beq_self, wantA_n, wantA_g, wantD_some, d0, vloc, hEl, hj, hx1, hx2, p1, p2, p3, q1, q2, q3, hA0, hA1, hB0, hB1, c3, hw]
              exact hq1 (r - 1) _ _ (by omega) ⟨j + 1, b, _, by omega, by omega, rfl, by omega, k1, k2⟩
          · rw [if_neg (by omega)] at hst
            obtain ⟨k1, k2⟩ := key2 hst
            clear key1 key2 hni hlst hst hbs hbi hlj
            generalize l[j].1 = x1 at *
            generalize l[j].2 = x2 at *
            generalize (startH (l.take j)).1 = s1 at *
            generalize (startH (l.take j)).2 = s2 at *
            simp [vmS, runC_nil, runC_cons, pickC_some, wantC_tt, wantC_tf, effC_val, ifC_true, checkC, inPairs, keepC, okC, readsC_load, readV_some, AV.beq_self, wantA_n, wantA_g, wantD_some, d0, vloc, hEl, hj, hx1, hx2, p1, p2, p3, q1, q2, q3, hA0, hA1, hB0, hB1, c1, c2, hw]
            exact hq1 (r - 1) _ _ (by omega) ⟨j + 1, b, _, by omega, by omega, rfl, by omega, k1, k2⟩
      · have hjl : j = l.length := by omega
        subst hjl
        rw [List.take_length] at hbi
        simp [vmS, vloc, hEl]
        exact hq2 _ _ _ (by simp) ⟨rfl, _, _, by rw [hbi]; rfl⟩)
  obtain ⟨rfl, sc, j, rfl⟩ := hq
  simp [vmS, vloc]
  exact hp _ _ rfl
theorem least_use {cs : List Con} (h : sumOf cs 89 = leastC.look) {n : Nat} {l : List (Int × Int)} {S : St} (h1 : l ≠ []) (h2 : Bnd l) (h3 : l.length ≤ 4096) : callS ED (sumOf cs) n (.fn 89) [edgesA l] S = some (.ret (.int .i64 (idxP l (startH l) : Nat)), S) :=
  Con.use (c := leastC) (fun (x y : List (Int × Int)) _ _ h => by
    have h' : [edgesA x] = [edgesA y] := h
    simp only [List.cons.injEq, and_true] at h'
    rw [edgesA_inj h']) h (l : List (Int × Int)) ⟨h1, h2, h3⟩ (by show [(edgesA l).dead] = [edgesA l]; rw [dead_of_pers _ (edgesA_pers l)])

/-! the place of the next one -/
noncomputable def nextI (l : List (Int × Int)) (v : Int × Int) : Int := if nextH l v = nob then -1 else (idxP l (nextH l v) : Nat)
structure NxX where
  l : List (Int × Int)
  p : Nat
noncomputable def nextC : Con where
  f := 90
  X := NxX
  dom x := Bnd x.l ∧ x.l.length ≤ 4096 ∧ x.p < x.l.length ∧ Around x.l (x.l.getD x.p (0, 0))
  enc x := [edgesA x.l, .int .i64 x.p]
  res x := .ret (.int .i64 (nextI x.l (x.l.getD x.p (0, 0))))
def csN : List Con := [equalC, turnRC, farRC]
theorem csN_ok : ∀ d ∈ csN, d.Ok Tryz.prog ED := by simpa [csN] using ⟨equal_ok, turnR_ok, farR_ok⟩
theorem around_sub {l m : List (Int × Int)} {p : Int × Int} (h : Around l p) (hs : ∀ r ∈ m, r ∈ l) : Around m p := by
  obtain ⟨u, hu⟩ := h
  exact ⟨u, fun r hr hne => hu r (hs r hr) hne⟩
theorem next_ok : nextC.Ok Tryz.prog ED := by
  refine Con.ok_at ED_ok ED_pers csN csN_ok (fun (x : NxX) _ => ⟨by show AV.persL [edgesA x.l, .int .i64 x.p] = true; simp [AV.persL, AV.pers, edgesA_pers], rfl⟩) ?_
  rintro ⟨l, k⟩ ⟨hb, hlen, hk, har⟩
  replace hb : Bnd l := hb
  replace hlen : l.length ≤ 4096 := hlen
  replace hk : k < l.length := hk
  have hkv : l.getD k (0, 0) = l[k] := by simp [List.getD_eq_getElem?_getD, hk]
  replace har : Around l (l.getD k (0, 0)) := har
  show ∃ n, ∀ p : FRes → St → Prop, (∀ r S', r.melt S' = .ret (.int .i64 (nextI l (l.getD k (0, 0)))) → p r S') → GotF (callS ED (sumOf csN) n (.fn 90) [edgesA l, .int .i64 k] S0) p
  rw [hkv] at har ⊢
  refine ⟨5000, fun p hp => ?_⟩
  rw [callS_fn rfl]
  have d0 := @dr90_0
  have d1 := @dr90_1
  have d2 := @dr90_2
  simp only [drA, drawsOf, Option.getD_some, List.nil_append, List.append_nil, List.getD_cons_zero, List.getD_cons_succ, List.cons_append, Tryz.f90] at d0 d1 d2
  have uE := fun (n : Nat) (S : St) (p q : Int × Int) => equal_use (cs := csN) rfl (n := n) (S := S) (p := p) (q := q)
  have uT := fun (n : Nat) (S : St) (p q r : Int × Int) (h1 : Near0 p) (h2 : Near0 q) (h3 : Near0 r) => turnR_use (cs := csN) (by funext a; rfl) (n := n) (S := S) h1 h2 h3
  have uF := fun (n : Nat) (S : St) (p q : Int × Int) (h1 : Near0 p) (h2 : Near0 q) => farR_use (cs := csN) (by funext a; rfl) (n := n) (S := S) h1 h2
  have hEl := edges_len l
  have hEx := fun (j : Nat) (hj : j < l.length) => ed_get hj
  obtain ⟨hE1, hE2, hE3⟩ := edgesA_cell l
  have hEk := hEx k hk
  have hvm : l[k] ∈ l := List.getElem_mem hk
  have hcell : ∀ v, (ptL v).isCell = true ∧ (ptL v).known = true ∧ (ptL v).cells = [ptL v] := fun v => slcI_cell _
  generalize edgesA l = E at *
  generalize l[k] = v at *
  simp only [fnA, ED_fn90, fi90, Tryz.f90]
  simp [vmS]
  generalize hc : iter _ _ _ _ = c
  obtain ⟨e1, L1, S1, rfl, hq⟩ := loop_of hc
    (fun r L S => ∃ j t7 sc, j + r = l.length ∧ L = vloc [E, .int .i64 k, .int .i64 0, .int .i64 (if nextH (l.take j) v = nob then -1 else (idxP l (nextH (l.take j) v) : Nat)), .int .i64 (j : Nat), t7] sc)
    (fun e L S => e = .exit 0 ∧ ∃ t6 t7 sc, L = vloc [E, .int .i64 k, .int .i64 0, .int .i64 (nextI l v), t6, t7] sc)
    l.length (by omega)
    ⟨0, _, _, by simp, by rw [show nextH (l.take 0) v = nob from rfl, if_pos rfl]; rfl⟩
    (by
      rintro r L S ⟨j, t7, sc, hjk, rfl⟩ q hq1 hq2
      by_cases hj : j < l.length
      · have hw : IntKind.i64.wrap ((j : Int) + 1) = ((j : Int) + 1) := wrap_id (by omega) (by omega)
        have hx1 := hEx j hj
        have hnx : nextH (l.take (j + 1)) v = stepH v (nextH (l.take j) v) l[j] := by rw [take_snoc hj, next_snoc]
        have hnb := next_best j (l := l.take j) (p := v) (by simp; omega) (around_sub har (fun r hr => List.mem_of_mem_take hr)) (fun h => hb.nob (List.mem_of_mem_take h))
        have hat : l[j] ∉ l.take j → idxP l l[j] = j := idxP_at hj
        have hxm : l[j] ∈ l := List.getElem_mem hj
        have hxn : Near0 l[j] := hb _ hxm
        have hvn : Near0 v := hb _ hvm
        have hxnob : l[j] ≠ nob := fun h => hb.nob (by rw [← h]; exact hxm)
        have hqin := next_in v j (l := l.take j) (by simp; omega)
        obtain ⟨x1, x2, x3⟩ := hcell l[j]
        obtain ⟨v1, v2, v3⟩ := hcell v
        have uE1 := fun n S => uE n S l[j] v
        generalize l[j] = x at *
        generalize hqq : nextH (l.take j) v = qq at *
        unfold stepH at hnx
        by_cases e1 : x = v
        · rw [if_pos e1] at hnx
          subst e1
          simp only [decide_true] at uE1
          generalize ptL x = P at *
          simp [vmS, runC_nil, runC_cons, pickC_some, wantC_tt, wantC_tf, effC_val, ifC_true, checkC, inPairs, keepC, okC, readsC_load, readV_some, AV.beq_self, wantA_n, wantA_g, wantD_some, d0, vloc, hEl, hj, hx1, hEk, x1, x2, x3, uE1, hw]
          exact hq1 (r - 1) _ _ (by omega) ⟨j + 1, _, _, by omega, by rw [hnx]; rfl⟩
        · rw [if_neg e1] at hnx
          have uE1' : ∀ n S, callS ED (sumOf csN) n (.fn 101) [ptL x, ptL v] S = some (.ret (.bool false), S) := fun n S => by rw [uE1]; simp [e1]
          by_cases e2 : qq = nob
          · rw [if_pos e2] at hnx
            have hnot : x ∉ l.take j := fun hm => by
              rcases hnb with h | h
              · exact e1 (h.2 x hm)
              · exact h.1 e2
            have hidx := hat hnot
            have hfin : (if nextH (l.take (j + 1)) v = nob then (-1 : Int) else (idxP l (nextH (l.take (j + 1)) v) : Nat)) = (j : Nat) := by rw [hnx, if_neg hxnob, hidx]
            rw [if_pos e2]
            generalize ptL x = P at *
            generalize ptL v = Q at *
            simp [vmS, runC_nil, runC_cons, pickC_some, wantC_tt, wantC_tf, effC_val, ifC_true, checkC, inPairs, keepC, okC, readsC_load, readV_some, AV.beq_self, wantA_n, wantA_g, wantD_some, d0, vloc, hEl, hj, hx1, hEk, x1, x2, x3, v1, v2, v3, uE1', hw]
            exact hq1 (r - 1) _ _ (by omega) ⟨j + 1, _, _, by omega, by rw [hfin]; rfl⟩
          · rw [if_neg e2] at hnx
            have hqt : qq ∈ l.take j := by
              rcases hqin with h | h
              · exact absurd h e2
              · exact h
            have hqm : qq ∈ l := List.mem_of_mem_take hqt
            have hqn : Near0 qq := hb _ hqm
            have hbst : Best (l.take j) v qq := by
              rcases hnb with h | h
              · exact absurd h.1 e2
              · exact h.2
            rw [if_neg e2]
            have hbl := idxP_lt hqm
            have hx3 := hEx (idxP l qq) hbl
            rw [idxP_get hqm] at hx3
            obtain ⟨q1, q2, q3⟩ := hcell qq
            have uT1 := fun n S => uT n S v qq x hvn hqn hxn
            have uF1 := fun n S => uF n S v x hvn hxn
            have uF2 := fun n S => uF n S v qq hvn hqn
            have hnot : (rgt v qq x < 0 ∨ (rgt v qq x = 0 ∧ far v qq < far v x)) → x ∉ l.take j := fun h hm => by
              have := hbst.2.2 x hm e1
              omega
            have hup : nextH (l.take (j + 1)) v = x → (rgt v qq x < 0 ∨ (rgt v qq x = 0 ∧ far v qq < far v x)) → (if nextH (l.take (j + 1)) v = nob then (-1 : Int) else (idxP l (nextH (l.take (j + 1)) v) : Nat)) = (j : Nat) := fun h1 h2 => by rw [h1, if_neg hxnob, hat (hnot h2)]
            have hsame : nextH (l.take (j + 1)) v = qq → (if nextH (l.take (j + 1)) v = nob then (-1 : Int) else (idxP l (nextH (l.take (j + 1)) v) : Nat)) = (idxP l qq : Nat) := fun h1 => by rw [h1, if_neg e2]
            have hbneg : ¬ ((idxP l qq : Nat) : Int) < 0 := by omega
            generalize idxP l qq = bi at *
            generalize ptL x = P at *
            generalize ptL v = Q at *
            generalize ptL qq = R at *
            generalize rgt v qq x = g at *
            generalize far v qq = f1 at *
            generalize far v x = f2 at *
            by_cases g1 : g < 0
            · rw [if_pos (.inl g1)] at hnx
              have hfin := hup hnx (.inl g1)
              simp [vmS, runC_nil, runC_cons, pickC_some, wantC_tt, wantC_tf, effC_val, ifC_true, checkC, inPairs, keepC, okC, readsC_load, readV_some, AV.beq_self, wantA_n, wantA_g, wantD_some, d0, d1, d2, vloc, hEl, hj, hx1, hx3, hEk, x1, x2, x3, v1, v2, v3, q1, q2, q3, uE1', uT1, hbneg, g1, hw]
              exact hq1 (r - 1) _ _ (by omega) ⟨j + 1, _, _, by omega, by rw [hfin]; rfl⟩
            · by_cases g2 : g = 0
              · subst g2
                by_cases g3 : f1 < f2
                · rw [if_pos (.inr ⟨rfl, g3⟩)] at hnx
                  have hfin := hup hnx (.inr ⟨rfl, g3⟩)
                  simp [vmS, runC_nil, runC_cons, pickC_some, wantC_tt, wantC_tf, effC_val, ifC_true, checkC, inPairs, keepC, okC, readsC_load, readV_some, AV.beq_self, wantA_n, wantA_g, wantD_some, d0, d1, d2, vloc, hEl, hj, hx1, hx3, hEk, x1, x2, x3, v1, v2, v3, q1, q2, q3, uE1', uT1, uF1, uF2, hbneg, g3, hw]
                  exact hq1 (r - 1) _ _ (by omega) ⟨j + 1, _, _, by omega, by rw [hfin]; rfl⟩
                · rw [if_neg (by omega)] at hnx
                  have hfin := hsame hnx
                  simp [vmS, runC_nil, runC_cons, pickC_some, wantC_tt, wantC_tf, effC_val, ifC_true, checkC, inPairs, keepC, okC, readsC_load, readV_some, AV.beq_self, wantA_n, wantA_g, wantD_some, d0, d1, d2, vloc, hEl, hj, hx1, hx3, hEk, x1, x2, x3, v1, v2, v3, q1, q2, q3, uE1', uT1, uF1, uF2, hbneg, g3, hw]
                  exact hq1 (r - 1) _ _ (by omega) ⟨j + 1, _, _, by omega, by rw [hfin]; rfl⟩
              · rw [if_neg (by omega)] at hnx
                have hfin := hsame hnx
                simp [vmS, runC_nil, runC_cons, pickC_some, wantC_tt, wantC_tf, effC_val, ifC_true, checkC, inPairs, keepC, okC, readsC_load, readV_some, AV.beq_self, wantA_n, wantA_g, wantD_some, d0, d1, d2, vloc, hEl, hj, hx1, hx3, hEk, x1, x2, x3, v1, v2, v3, q1, q2, q3, uE1', uT1, hbneg, g1, g2, hw]
                exact hq1 (r - 1) _ _ (by omega) ⟨j + 1, _, _, by omega, by rw [hfin]; rfl⟩
      · have hjl : j = l.length := by omega
        subst hjl
        rw [List.take_length]
        simp [vmS, vloc, hEl]
        exact hq2 _ _ _ (by simp) ⟨rfl, _, _, _, rfl⟩)
  obtain ⟨rfl, t6, t7, sc, rfl⟩ := hq
  simp [vmS, vloc]
  exact hp _ _ rfl
theorem next_use {cs : List Con} (h : sumOf cs 90 = nextC.look) {n : Nat} {l : List (Int × Int)} {k : Nat} {S : St} (h1 : Bnd l) (h2 : l.length ≤ 4096) (hk : k < l.length) (h4 : Around l l[k]) :
    callS ED (sumOf cs) n (.fn 90) [edgesA l, .int .i64 (k : Nat)] S = some (.ret (.int .i64 (nextI l l[k])), S) := by
  have hkv : l.getD k (0, 0) = l[k] := by simp [List.getD_eq_getElem?_getD, hk]
  have := Con.use (E := ED) (c := nextC) (fun (x y : NxX) _ _ h => by
    obtain ⟨a, b⟩ := x
    obtain ⟨c, d⟩ := y
    have h' : [edgesA a, AV.int .i64 (b : Int)] = [edgesA c, AV.int .i64 (d : Int)] := h
    simp only [List.cons.injEq, AV.int.injEq, true_and, and_true] at h'
    have e1 := edgesA_inj h'.1
    have e2 : b = d := by have := h'.2; omega
    rw [e1, e2]) h (n := n) (args := [edgesA l, .int .i64 (k : Nat)]) (S := S) (⟨l, k⟩ : NxX) ⟨h1, h2, hk, by show Around l (l.getD k (0, 0)); rw [hkv]; exact h4⟩ (by show [(edgesA l).dead, AV.int .i64 (k : Int)] = [edgesA l, AV.int .i64 (k : Int)]; rw [dead_of_pers _ (edgesA_pers l)])
  refine Eq.trans this ?_
  show some (FRes.ret (.int .i64 (nextI l (l.getD k (0, 0)))), S) = _
  rw [hkv]

end Go.Proofs.YtpjcmiaanjcanaaGreatDoor

namespace Go.Proofs.YtpjcmiaanjcanaaGreatDoor
open Go Go.Vm Go.Vm.T
set_option maxRecDepth 100000
set_option linter.unusedSimpArgs false
set_option linter.unusedVariables false
attribute [local simp] inFrame startLoc startVals Loc.clear blockC Loc.putO Loc.put idx evO constV Loc.get Vm.look intA unwindA resultsA resultV actA pureA storeA loadA fillE repElems TI.zeroV fieldOf fieldAddrA fieldA elemsA retE cellsOf? setCells nowhere

set_option maxHeartbeats 4000000

theorem optT_lst (o : Option (List Int)) : (optT lstI o).pers = true := by
  cases o with
  | none => rfl
  | some zs => simp [optT, FRes.pers, AV.pers, AV.persL, lstI_pers]
noncomputable def hullRC : Con where
  f := 61
  X := List (Int × Int)
  dom l := l.length ≤ 4096
  enc l := [edgesA l]
  res l := optT lstI (hullOut l)
theorem hullR_use {cs : List Con} (h : sumOf cs 61 = hullRC.look) {n : Nat} {l : List (Int × Int)} {S : St} (hl : l.length ≤ 4096) : callS ED (sumOf cs) n (.fn 61) [edgesA l] S = some (optT lstI (hullOut l), S) :=
  Con.use (c := hullRC) (fun (x y : List (Int × Int)) _ _ h => by
    have h' : [edgesA x] = [edgesA y] := h
    simp only [List.cons.injEq, and_true] at h'
    rw [edgesA_inj h']) h (l : List (Int × Int)) hl (by show [(edgesA l).dead] = [edgesA l]; rw [dead_of_pers _ (edgesA_pers l)])
noncomputable def csU : List Con := [liesC, leastC, nextC]
theorem csU_ok : ∀ d ∈ csU, d.Ok Tryz.prog ED := by simpa [csU] using ⟨lies_ok, least_ok, next_ok⟩
theorem nats_tup {S : St} {v : AV} {u : List Nat} {T : Option Nat} (h : LiveT S 1 v (nats u) T) (hu : u ≠ []) : (FRes.ret (.tup [v, .bool true])).melt S = optT lstI (some (ofN u)) := by
  have h1 := ints_ofN u
  have h2 := ints_dead (ofN u)
  rw [h1] at h2
  have h3 : lst (nats u) = .slice (nats u) .dead := by
    cases u with
    | nil => exact absurd rfl hu
    | cons a r => rfl
  rcases h.cases with ⟨_, h4⟩ | ⟨tk, rfl⟩
  · cases u with
    | nil => exact absurd rfl hu
    | cons a r => cases h4
  · simp [FRes.melt, AV.melt, AV.meltE, AV.dead, optT, lstI, h1, h2, h3]

theorem hullR_ok : hullRC.Ok Tryz.prog ED := by
  refine Con.ok_at ED_ok ED_pers csU csU_ok (fun (l : List (Int × Int)) _ => ⟨by show AV.persL [edgesA l] = true; simp [AV.persL, edgesA_pers], optT_lst _⟩) ?_
  intro (l : List (Int × Int)) hlen
  replace hlen : l.length ≤ 4096 := hlen
  show ∃ n, ∀ p : FRes → St → Prop, (∀ r S', r.melt S' = optT lstI (hullOut l) → p r S') → GotF (callS ED (sumOf csU) n (.fn 61) [edgesA l] S0) p
  refine ⟨5000, fun p hp => ?_⟩
  rw [callS_fn rfl]
  have uL := fun (n : Nat) (S : St) (a : Int) => lies_use (cs := csU) rfl (n := n) (S := S) (a := a) (b := -8191) (c := 8191)
  have uM := fun (n : Nat) (S : St) (h1 : l ≠ []) (h2 : Bnd l) => least_use (cs := csU) (by funext a; rfl) (n := n) (S := S) h1 h2 hlen
  have uX := fun (n : Nat) (S : St) (h1 : Bnd l) (k : Nat) (hk : k < l.length) (h4 : Around l l[k]) => next_use (cs := csU) (by funext a; rfl) (n := n) (S := S) h1 hlen hk h4
  have hEl := edges_len l
  have hEx := fun (j : Nat) (hj : j < l.length) => ed_get hj
  obtain ⟨hE1, hE2, hE3⟩ := edgesA_cell l
  generalize edgesA l = E at *
  simp only [fnA, ED_fn61, fi61, Tryz.f61]
  simp [vmS]
  generalize hc : iter _ _ _ _ = c
  obtain ⟨e1, L1, S1, rfl, hq⟩ := loop_of hc
    (fun r L S => ∃ j sc, j + r = l.length ∧ L = vloc [E, .nils, .bool false, .int .i64 (j : Nat), .undef, .undef] sc ∧ Bnd (l.take j))
    (fun e L S => (e = .ret ∧ hullOut l = none ∧ ∃ t4 sc, L = vloc [E, .nils, .bool false, t4, .undef, .undef] sc) ∨ e = .exit 0 ∧ ∃ t4 sc, L = vloc [E, .nils, .bool false, t4, .undef, .undef] sc ∧ Bnd l)
    l.length (by omega)
    ⟨0, _, by simp, rfl, fun r hr => by simp at hr⟩
    (by
      rintro r L S ⟨j, sc, hjk, rfl, hbj⟩ q hq1 hq2
      by_cases hj : j < l.length
      · have hw : IntKind.i64.wrap ((j : Int) + 1) = ((j : Int) + 1) := wrap_id (by omega) (by omega)
        have hx1 := hEx j hj
        have hbn : inB l[j] = true → Bnd (l.take (j + 1)) := fun h r hr => by
          rw [take_snoc hj] at hr
          rcases List.mem_append.1 hr with hr | hr
          · exact hbj r hr
          · have := List.mem_singleton.1 hr
            subst this
            exact inB_t.1 h
        have hno : ¬ inB l[j] = true → hullOut l = none := hullOut_bad hj
        have hA0 := duo_at0 l[j].1 l[j].2
        have hA1 := duo_at1 l[j].1 l[j].2
        obtain ⟨p1, p2, p3⟩ := slcI_cell [l[j].1, l[j].2]
        unfold ptL at hx1
        rw [inB_t] at hbn hno
        have u1 := fun n S => uL n S l[j].1
        have u2 := fun n S => uL n S l[j].2
        generalize slcI [l[j].1, l[j].2] = P at *
        generalize l[j].1 = x at *
        generalize l[j].2 = y at *
        by_cases h1 : -8191 ≤ x ∧ x ≤ 8191
        · have e1 : (decide (-8191 ≤ x) && decide (x ≤ 8191)) = true := by simp [h1]
          rw [e1] at u1
          by_cases h2 : -8191 ≤ y ∧ y ≤ 8191
          · have e2 : (decide (-8191 ≤ y) && decide (y ≤ 8191)) = true := by simp [h2]
            rw [e2] at u2
            simp [vmS, vloc, hEl, hj, hx1, p1, p2, p3, hA0, hA1, u1, u2, unA, hw]
            exact hq1 (r - 1) _ _ (by omega) ⟨j + 1, _, by omega, rfl, hbn ⟨h1, h2⟩⟩
          · have e2 : (decide (-8191 ≤ y) && decide (y ≤ 8191)) = false := by
              rw [← Bool.not_eq_true, Bool.and_eq_true, decide_eq_true_eq, decide_eq_true_eq]; exact h2
            rw [e2] at u2
            simp [vmS, vloc, hEl, hj, hx1, p1, p2, p3, hA0, hA1, u1, u2, unA]
            exact hq2 _ _ _ (by simp) (.inl ⟨rfl, hno (fun h => h2 h.2), _, _, rfl⟩)
        · have e1 : (decide (-8191 ≤ x) && decide (x ≤ 8191)) = false := by
            rw [← Bool.not_eq_true, Bool.and_eq_true, decide_eq_true_eq, decide_eq_true_eq]; exact h1
          rw [e1] at u1
          simp [vmS, vloc, hEl, hj, hx1, p1, p2, p3, hA0, u1, unA]
          exact hq2 _ _ _ (by simp) (.inl ⟨rfl, hno (fun h => h1 h.1), _, _, rfl⟩)
      · have hjl : j = l.length := by omega
        subst hjl
        rw [List.take_length] at hbj
        simp [vmS, vloc, hEl]
        exact hq2 _ _ _ (by simp) (.inr ⟨rfl, _, _, rfl, hbj⟩))
  rcases hq with ⟨rfl, hno, t4, sc, rfl⟩ | ⟨rfl, t4, sc, rfl, hb⟩
  · rw [hno] at hp
    simp [vmS, vloc]
    exact hp _ _ rfl
  rw [hullOut_ok hb] at hp
  by_cases hne : l = []
  · subst hne
    rw [hullN_nil] at hp
    simp only [List.length_nil] at hEl
    simp [vmS, vloc, hEl]
    exact hp _ _ rfl
  obtain ⟨vs, hH⟩ := hull_ok hb hne
  have hvs := hullVs_eq hH
  have hW := hH.walk
  have hmem := hH.mem
  have hsm := hH.start
  have haro : ∀ v ∈ vs, Around l v := fun v hv => by
    rcases hH.all with ⟨_, k⟩ | ⟨_, k⟩
    · rw [k] at hv
      have := List.mem_singleton.1 hv
      subst this
      exact start_around hH.least
    · exact (k v hv).2
  have hvl : vs.length ≤ 4096 := by
    have : vs.length ≤ l.length := subP_len hH.nodup hH.mem
    omega
  have hv0 : vs ≠ [] := fun e => by have := hH.pos; rw [e] at this; simp at this
  unfold hullN at hp
  rw [hvs] at hp
  clear hvs
  have uM' := fun n S => uM n S hne hb
  have uXv : ∀ n S v, v ∈ vs → callS ED (sumOf csU) n (.fn 90) [E, .int .i64 (idxP l v : Nat)] S = some (.ret (.int .i64 (nextI l v)), S) := fun n S v hv => by
    have hm := hmem v hv
    have := uX n S hb (idxP l v) (idxP_lt hm) (by rw [idxP_get hm]; exact haro v hv)
    rw [idxP_get hm] at this
    exact this
  have hidx : ∀ u v, u ∈ l → v ∈ l → idxP l u = idxP l v → u = v := fun u v hu hv h => by
    have h1 := idxP_get hu
    have h2 := idxP_get hv
    rw [← h1, ← h2]
    congr 1
  have hl0 : ¬ ((l.length : Nat) : Int) = 0 := by have := List.length_pos_iff.2 hne; omega
  obtain ⟨t, ht⟩ := hW.head
  have hs1 := fun n S => uXv n S (startH l) (by rw [ht]; simp)
  clear hH uM uX uL
  generalize startH l = s at *
  simp [vmS, vloc, hEl, hl0, hne, uM', hs1, indexAddrA, cells_int]
  have hlive : ∀ S, LiveT S 1 (.slice [AV.int IntKind.i64 ((idxP l s : Nat) : Int)] .full) (nats ([s].map (idxP l))) none := fun S => .inr rfl
  generalize hc : iter _ _ _ _ = c
  obtain ⟨e1, L1, S2, rfl, hq⟩ := loop_of hc
    (fun r L S => ∃ done p rest v T sc, rest.length = r ∧ vs = done ++ p :: rest ∧ (done ++ [p]).head? = some s ∧ Walk l s p (p :: rest) ∧ L = vloc [E, .nils, .bool false, t4, v, .int .i64 (nextI l p)] sc ∧ LiveT S 1 v (nats ((done ++ [p]).map (idxP l))) T)
    (fun e L S => e = .exit 2 ∧ ∃ v T t6 sc, L = vloc [E, .nils, .bool false, t4, v, t6] sc ∧ LiveT S 1 v (nats (vs.map (idxP l))) T)
    t.length (by have : vs.length = t.length + 1 := by rw [ht]; simp
                 omega)
    ⟨[], s, t, _, none, _, rfl, by rw [ht]; rfl, rfl, by rw [← ht]; exact hW, rfl, hlive _⟩
    (by
      clear hW hlive hs1 hp
      rintro r L S ⟨done, p, rest, v, T, sc, hr, hvs, hhd, hw, rfl, hL⟩ q hq1 hq2
      have hpl : 0 < ((done ++ [p]).map (idxP l)).length := by simp
      have hix0 := nat_index hL (k := 0) hpl
      have hg0 : ((done ++ [p]).map (idxP l))[0]'hpl = idxP l s := by
        cases done with
        | nil => simp at hhd ⊢; rw [hhd]
        | cons d ds => simp at hhd ⊢; rw [hhd]
      rw [hg0] at hix0
      simp only [Int.natCast_zero] at hix0
      have hix0' : indexAddrA ED 62 v (.int .i64 0) = some (.rptr [.int .i64 (idxP l s : Nat)]) := hix0
      cases hw with
      | stop h =>
        have hfin : LiveT S 1 v (nats (vs.map (idxP l))) T := by rw [hvs]; exact hL
        unfold nextI
        rcases h with h | h
        · rw [if_pos h]
          simp [vmS, vloc]
          exact hq2 _ _ _ (by simp) ⟨rfl, v, T, _, _, rfl, hfin⟩
        · by_cases hnb : nextH l p = nob
          · rw [if_pos hnb]
            simp [vmS, vloc]
            exact hq2 _ _ _ (by simp) ⟨rfl, v, T, _, _, rfl, hfin⟩
          · rw [if_neg hnb, h]
            generalize idxP l s = is at *
            simp [vmS, vloc, hix0']
            exact hq2 _ _ _ (by simp) ⟨rfl, v, T, _, _, rfl, hfin⟩
      | step n1 n2 hw' =>
        obtain ⟨t', ht'⟩ := hw'.head
        have hqv : nextH l p ∈ vs := by rw [hvs, ht']; simp
        have hni : nextI l p = (idxP l (nextH l p) : Nat) := by unfold nextI; rw [if_neg n1]
        have hne2 : ¬ ((idxP l (nextH l p) : Nat) : Int) = ((idxP l s : Nat) : Int) := fun h => n2 (hidx _ _ (hmem _ hqv) hsm (by omega))
        have hdl : ((done ++ [p]).map (idxP l)).length ≤ 10000 := by
          have := congrArg List.length hvs
          simp at this ⊢
          omega
        obtain ⟨v', S', a1, a2, a3, a4⟩ := append_nat (idxP l (nextH l p)) hL hdl
        have hs2 := fun n S => uXv n S (nextH l p) hqv
        have e2 : (done ++ [p]).map (idxP l) ++ [idxP l (nextH l p)] = ((done ++ [p]) ++ [nextH l p]).map (idxP l) := by simp
        rw [e2] at a2
        rw [hni]
        have hvs2 : vs = (done ++ [p]) ++ nextH l p :: t' := by rw [hvs, ht']; simp
        have hhd2 : ((done ++ [p]) ++ [nextH l p]).head? = some s := by
          cases done with
          | nil => simpa using hhd
          | cons d ds => simpa using hhd
        have hw2 : Walk l s (nextH l p) (nextH l p :: t') := by rw [← ht']; exact hw'
        have hrl : t'.length < r := by rw [← hr, ht']; simp
        generalize nextH l p = nx at *
        generalize idxP l nx = inx at *
        generalize idxP l s = is at *
        simp [vmS, vloc, hix0', hne2, a1, hs2]
        exact hq1 t'.length _ _ hrl ⟨done ++ [p], nx, t', v', _, _, rfl, hvs2, hhd2, hw2, rfl, a2⟩)
  obtain ⟨rfl, v, T, t6, sc, rfl, hL⟩ := hq
  simp [vmS, vloc]
  exact hp _ _ (nats_tup hL (by simpa using hv0))

end Go.Proofs.YtpjcmiaanjcanaaGreatDoor
