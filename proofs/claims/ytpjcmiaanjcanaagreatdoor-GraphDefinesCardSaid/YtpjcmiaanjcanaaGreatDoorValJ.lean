/-
Distances and rows of the reference. No conditions.
-/
import Derived.Test.YtpjcmiaanjcanaaGreatDoorValI
set_option linter.all false

namespace Go.Proofs.YtpjcmiaanjcanaaGreatDoor
open Go Go.Vm Go.Vm.T
set_option maxRecDepth 100000
set_option linter.unusedSimpArgs false
set_option linter.unusedVariables false
attribute [local simp] inFrame startLoc startVals Loc.clear blockC Loc.putO Loc.put idx evO constV Loc.get Vm.look intA unwindA resultsA resultV actA pureA storeA loadA fillE repElems TI.zeroV fieldOf fieldAddrA fieldA elemsA retE cellsOf? setCells nowhere

set_option maxHeartbeats 4000000

/-! the reference's distances -/
structure DI (N st : Nat) (es : List (Int × Int)) (d : List Int) : Prop where
  len : d.length = N
  low : ∀ i, i < N → -1 ≤ d.getD i 0
  zero : ∀ i, i < N → (d.getD i 0 = 0 ↔ i = st)
  near : ∀ i, i < N → 0 < d.getD i 0 → ∃ e ∈ es, e.2.toNat = i ∧ 0 ≤ d.getD e.1.toNat 0 ∧ d.getD e.1.toNat 0 + 1 ≤ d.getD i 0
  bnd : ∀ i, i < N → 0 ≤ d.getD i 0 → d.getD i 0 + fresh d + 1 ≤ N

theorem DI.step {N st : Nat} {es : List (Int × Int)} {d : List Int} {e : Int × Int} {x y : Nat} (h : DI N st es d) (he : e ∈ es) (hx : e.1.toNat = x) (hy : e.2.toNat = y) (hxN : x < N) (hyN : y < N)
    (h1 : 0 ≤ d.getD x 0) (h2 : d.getD y 0 < 0 ∨ d.getD x 0 + 1 < d.getD y 0) : DI N st es (d.set y (d.getD x 0 + 1)) ∧ sumD N (d.set y (d.getD x 0 + 1)) < sumD N d := by
  have hyl : y < d.length := by rw [h.len]; exact hyN
  have hxy : x ≠ y := fun k => by subst k; omega
  have hgd := fun k => getD_set (d := d) (k := k) (z := d.getD x 0 + 1) hyl
  have sm := sumD_set (N := N) (z := d.getD x 0 + 1) hyl
  rw [if_neg (show ¬ d.getD x 0 + 1 < 0 by omega)] at sm
  have hbx := h.bnd x hxN h1
  have hlow : ∀ i, i < N → -1 ≤ (d.set y (d.getD x 0 + 1)).getD i 0 := fun i hi => by
    rw [hgd]; split
    · omega
    · exact h.low i hi
  have hzero : ∀ i, i < N → ((d.set y (d.getD x 0 + 1)).getD i 0 = 0 ↔ i = st) := fun i hi => by
    rw [hgd]; split
    · rename_i k; subst k
      have := h.zero i hi
      omega
    · exact h.zero i hi
  have hnear : ∀ i, i < N → 0 < (d.set y (d.getD x 0 + 1)).getD i 0 → ∃ e ∈ es, e.2.toNat = i ∧ 0 ≤ (d.set y (d.getD x 0 + 1)).getD e.1.toNat 0 ∧ (d.set y (d.getD x 0 + 1)).getD e.1.toNat 0 + 1 ≤ (d.set y (d.getD x 0 + 1)).getD i 0 := fun i hi hp => by
    by_cases hiy : i = y
    · refine ⟨e, he, by rw [hy, hiy], ?_, ?_⟩
      · rw [hx, hgd, if_neg hxy]; exact h1
      · rw [hx, hgd, if_neg hxy, hgd, if_pos hiy]; omega
    · rw [hgd, if_neg hiy] at hp
      obtain ⟨f, k1, k2, k3, k4⟩ := h.near i hi hp
      refine ⟨f, k1, k2, ?_, ?_⟩
      · rw [hgd]; split <;> omega
      · rw [hgd, hgd, if_neg hiy]
        split
        · rename_i k; rw [k] at k3 k4; omega
        · exact k4
  by_cases hn : d.getD y 0 < 0
  · have hf := fresh_set (z := d.getD x 0 + 1) hyl hn (by omega)
    refine ⟨⟨by simp [h.len], hlow, hzero, hnear, fun i hi hp => ?_⟩, ?_⟩
    · rw [hgd] at hp ⊢
      split at hp
      · rename_i k; rw [if_pos k]; omega
      · rename_i k; rw [if_neg k]; have := h.bnd i hi hp; omega
    · rw [if_pos hn] at sm; omega
  · have hf := fresh_same (z := d.getD x 0 + 1) hyl (by omega) (by omega)
    refine ⟨⟨by simp [h.len], hlow, hzero, hnear, fun i hi hp => ?_⟩, ?_⟩
    · rw [hgd] at hp ⊢
      rw [hf]
      split at hp
      · rename_i k; rw [if_pos k]; have := h.bnd y hyN (by omega); omega
      · rename_i k; rw [if_neg k]; exact h.bnd i hi hp
    · rw [if_neg hn] at sm; omega
theorem DI.done {N st : Nat} {es : List (Int × Int)} {d : List Int} (h : DI N st es d) (hc : ∀ e ∈ es, 0 ≤ d.getD e.1.toNat 0 → 0 ≤ d.getD e.2.toNat 0 ∧ d.getD e.2.toNat 0 ≤ d.getD e.1.toNat 0 + 1) : Dist N st es d := by
  refine ⟨h.len, h.low, h.zero, hc, fun i hi hp => ?_, fun i hi => ?_⟩
  · obtain ⟨e, k1, k2, k3, k4⟩ := h.near i hi hp
    have := hc e k1 k3
    rw [k2] at this
    exact ⟨e, k1, k2, k3, by omega⟩
  · by_cases k : 0 ≤ d.getD i 0
    · have := h.bnd i hi k; omega
    · omega

def dInit (sz : Int) (j : Nat) : List Int := (List.range j).map fun i : Nat => if (i : Int) = sz then 0 else -1
theorem dInit_len (sz : Int) (j : Nat) : (dInit sz j).length = j := by simp [dInit]
theorem dInit_succ {sz : Int} {j : Nat} (h : ¬ (j : Int) = sz) : dInit sz j ++ [-1] = dInit sz (j + 1) := by
  simp [dInit, List.range_succ, h]
theorem dInit_set {sz : Int} {j : Nat} (h : (j : Int) = sz) : (dInit sz j ++ [-1]).set j 0 = dInit sz (j + 1) := by
  rw [List.set_append_right _ _ (by rw [dInit_len]; exact Nat.le_refl _), dInit_len]
  simp [dInit, List.range_succ, h]
theorem dInit_get {N i : Nat} {sz : Int} (h : i < N) : (dInit sz N).getD i 0 = if (i : Int) = sz then 0 else -1 := by
  simp [dInit, List.getD_eq_getElem?_getD, h]
theorem start_iff {N i : Nat} {sz : Int} (h : i < N) : (i : Int) = sz ↔ i = startN N sz := by
  unfold startN
  by_cases k : inN N sz = true
  · obtain ⟨k1, k2⟩ := inN_t.1 k
    rw [if_pos k]; omega
  · rw [if_neg k]
    constructor
    · intro e
      exact absurd (inN_t.2 ⟨by omega, by omega⟩) k
    · intro e; omega
theorem fresh_le_lt {d : List Int} {i : Nat} (h : i < d.length) (hp : 0 ≤ d.getD i 0) : fresh d < d.length := by
  unfold fresh
  rcases Nat.lt_or_eq_of_le (List.length_filter_le (fun z : Int => decide (z < 0)) d) with k | k
  · exact k
  · exfalso
    have := List.length_filter_eq_length_iff.1 k d[i] (List.getElem_mem h)
    have e : d.getD i 0 = d[i] := by simp [List.getD_eq_getElem?_getD, h]
    rw [e] at hp
    simp at this
    omega
theorem DI.start (N : Nat) (sz : Int) (es : List (Int × Int)) : DI N (startN N sz) es (dInit sz N) := by
  refine ⟨dInit_len _ _, fun i hi => ?_, fun i hi => ?_, fun i hi hp => ?_, fun i hi hp => ?_⟩
  · rw [dInit_get hi]; split <;> omega
  · rw [dInit_get hi, ← start_iff hi]
    split
    · rename_i k; simp [k]
    · rename_i k; simp [k]
  · rw [dInit_get hi] at hp; split at hp <;> omega
  · have := fresh_le_lt (d := dInit sz N) (i := i) (by rw [dInit_len]; exact hi) hp
    rw [dInit_len] at this
    rw [dInit_get hi] at hp ⊢
    split
    · omega
    · rename_i k; rw [if_neg k] at hp; omega
theorem sumD_le {N st : Nat} {es : List (Int × Int)} {d : List Int} (h : DI N st es d) : sumD N d ≤ N * N := by
  unfold sumD
  have := sum_le_mul (l := d.map fun z => if z < 0 then N else z.toNat) (M := N) (fun x hx => by
    obtain ⟨z, hz, rfl⟩ := List.mem_map.1 hx
    obtain ⟨i, hi, rfl⟩ := List.getElem_of_mem hz
    have hiN : i < N := by rw [← h.len]; exact hi
    have h1 := h.bnd i hiN
    have e : d.getD i 0 = d[i] := by simp [List.getD_eq_getElem?_getD, hi]
    rw [e] at h1
    split <;> omega)
  rw [List.length_map, h.len] at this
  exact this

structure DsX where
  N : Nat
  sz : Int
  es : List (Int × Int)
noncomputable def distRC : Con where
  f := 65
  X := DsX
  dom x := x.N ≤ 4096 ∧ x.es.length ≤ 4096
  enc x := [.int .i64 x.N, .int .i64 x.sz, edgesA x.es]
  res x := optT slcI (distOut x.N x.sz x.es)
theorem distR_use {cs : List Con} (h : sumOf cs 65 = distRC.look) {n N : Nat} {sz : Int} {es : List (Int × Int)} {S : St} (hN : N ≤ 4096) (hl : es.length ≤ 4096) :
    callS ED (sumOf cs) n (.fn 65) [.int .i64 N, .int .i64 sz, edgesA es] S = some (optT slcI (distOut N sz es), S) :=
  Con.use (c := distRC) (fun (x y : DsX) _ _ h => by
    obtain ⟨a, s, b⟩ := x
    obtain ⟨c, t, d⟩ := y
    have h' : [AV.int .i64 (a : Int), AV.int .i64 s, edgesA b] = [AV.int .i64 (c : Int), AV.int .i64 t, edgesA d] := h
    simp only [List.cons.injEq, AV.int.injEq, true_and, and_true] at h'
    have h1 : a = c := by have := h'.1; omega
    have h2 := edgesA_inj h'.2.2
    have h3 := h'.2.1
    rw [h1, h2, h3]) h (⟨N, sz, es⟩ : DsX) ⟨hN, hl⟩ (by show [AV.int .i64 (N : Int), AV.int .i64 sz, (edgesA es).dead] = [AV.int .i64 (N : Int), AV.int .i64 sz, edgesA es]; rw [dead_of_pers _ (edgesA_pers es)])

theorem distR_ok : distRC.Ok Tryz.prog ED := by
  refine Con.ok_at ED_ok ED_pers [nodeC] (by simpa using node_ok) (fun (x : DsX) _ => ⟨by show AV.persL [.int .i64 x.N, .int .i64 x.sz, edgesA x.es] = true; simp [AV.persL, AV.pers, edgesA_pers], optT_slc _⟩) ?_
  rintro ⟨N, sz, es⟩ ⟨hN, hes⟩
  replace hN : N ≤ 4096 := hN
  replace hes : es.length ≤ 4096 := hes
  show ∃ n, ∀ p : FRes → St → Prop, (∀ r S', r.melt S' = optT slcI (distOut N sz es) → p r S') → GotF (callS ED (sumOf [nodeC]) n (.fn 65) [.int .i64 N, .int .i64 sz, edgesA es] S0) p
  refine ⟨20000000, fun p hp => ?_⟩
  have d0 := @dr65_0
  have d1 := @dr65_1
  simp only [drA, drawsOf, Option.getD_some, List.nil_append, List.append_nil, List.getD_cons_zero, List.getD_cons_succ, List.cons_append, Tryz.f65] at d0 d1
  rw [callS_fn rfl]
  have hn := fun (n : Nat) (S : St) (a : Int) => node_use (cs := [nodeC]) rfl (n := n) (S := S) (a := a) hN
  have hEl := edges_len es
  have hEx := fun (j : Nat) (hj : j < es.length) => edges_get hj
  obtain ⟨hE1, hE2, hE3⟩ := edgesA_cell es
  generalize edgesA es = E at *
  simp only [fnA, ED_fn65, fi65, Tryz.f65]
  simp [vmS]
  generalize hc : iter _ _ _ _ = c
  obtain ⟨e1, L1, S1, rfl, hq⟩ := loop_of hc
    (fun r L S => ∃ j w sc, j + r = N ∧ L = vloc [.int .i64 N, .int .i64 sz, E, .nils, .bool false, w, .int .i64 (j : Nat), .undef, .undef, .undef, .undef, .undef] sc ∧ GrowL 0 S w (ints (dInit sz j)))
    (fun e L S => e = .exit 0 ∧ ∃ w t9 sc, L = vloc [.int .i64 N, .int .i64 sz, E, .nils, .bool false, w, t9, .undef, .undef, .undef, .undef, .undef] sc ∧ GrowL 0 S w (ints (dInit sz N)))
    N (by omega)
    ⟨0, _, _, by simp, rfl, .inl ⟨rfl, rfl⟩⟩
    (by
      rintro r L S ⟨j, w, sc, hjk, rfl, hl⟩ q hq1 hq2
      by_cases hj : j < N
      · have hw : IntKind.i64.wrap ((j : Int) + 1) = ((j : Int) + 1) := wrap_id (by omega) (by omega)
        obtain ⟨v', S', ha, hl', hold⟩ := appendG_int (-1) hl (Nat.zero_le _) (by rw [dInit_len]; omega)
        by_cases hjs : (j : Int) = sz
        · have hne : ints (dInit sz j ++ [-1]) ≠ [] := by simp [ints]
          obtain ⟨i, hi0, rfl, hcl, htk, _⟩ := hl'.index (E := ED) (t := 62) (e := 3) rfl rfl hne
          have hlen : (ints (dInit sz j ++ [-1])).length = j + 1 := by simp [dInit_len]
          have hixx := index22 (i := i) (c := 0) (show j < (ints (dInit sz j ++ [-1])).length by omega)
          have hput := GrowL.put (B := 0) (ds := ints (dInit sz (j + 1))) hi0 hcl htk (by rw [hlen, ints_length, dInit_len]) hne
          have hset : (ints (dInit sz j ++ [-1])).set j (.int .i64 0) = ints (dInit sz (j + 1)) := by rw [ints_set, dInit_set hjs]
          have hj1 : j + 1 ≤ (ints (dInit sz j ++ [-1])).length := by omega
          subst hjs
          generalize ints (dInit (j : Int) j ++ [-1]) = zl at *
          generalize hzl : zl.length = M at *
          simp [vmS, vloc, hj, ha, hixx, hcl, hzl, hj1, hset, hw]
          exact hq1 (r - 1) _ _ (by omega) ⟨j + 1, _, _, by omega, rfl, hput.1⟩
        · rw [dInit_succ hjs] at hl'
          simp [vmS, vloc, hj, ha, hjs, hw]
          exact hq1 (r - 1) _ _ (by omega) ⟨j + 1, v', _, by omega, rfl, hl'⟩
      · have hjl : j = N := by omega
        subst hjl
        simp [vmS, vloc]
        exact hq2 _ _ _ (by simp) ⟨rfl, w, _, _, rfl, hl⟩)
  obtain ⟨rfl, w, t9, sc, rfl, hl⟩ := hq
  simp [vmS, vloc]
  generalize hc : iter _ _ _ _ = c
  obtain ⟨e1, L1, S2, rfl, hq⟩ := loop_of hc
    (fun r L S => ∃ j sc, j + r = es.length ∧ L = vloc [.int .i64 N, .int .i64 sz, E, .nils, .bool false, w, t9, .int .i64 (j : Nat), .undef, .undef, .undef, .undef] sc ∧ GrowL 0 S w (ints (dInit sz N)) ∧ badD N sz (es.take j) = false)
    (fun e L S => (e = .ret ∧ badD N sz es = true ∧ ∃ t10 sc, L = vloc [.int .i64 N, .int .i64 sz, E, .nils, .bool false, w, t9, t10, .undef, .undef, .undef, .undef] sc) ∨
      e = .exit 2 ∧ ∃ t10 sc, L = vloc [.int .i64 N, .int .i64 sz, E, .nils, .bool false, w, t9, t10, .undef, .undef, .undef, .undef] sc ∧ GrowL 0 S w (ints (dInit sz N)) ∧ badD N sz es = false)
    es.length (by omega)
    ⟨0, _, by simp, rfl, hl, by simp [badD]⟩
    (by
      clear hl
      rintro r L S ⟨j, sc, hjk, rfl, hl, hev⟩ q hq1 hq2
      by_cases hj : j < es.length
      · have hw : IntKind.i64.wrap ((j : Int) + 1) = ((j : Int) + 1) := wrap_id (by omega) (by omega)
        have hix := hEx j hj
        have hvt := badD_take (N := N) (st := sz) hj
        have hbad := badD_of (N := N) (st := sz) hj
        rw [hev] at hvt
        have hnA := fun n S => hn n S es[j].1
        have hnB := fun n S => hn n S es[j].2
        have hP0 := duo_at0 es[j].1 es[j].2
        have hP1 := duo_at1 es[j].1 es[j].2
        obtain ⟨p1, p2, p3⟩ := slcI_cell [es[j].1, es[j].2]
        unfold wrongD at hvt hbad
        generalize slcI [es[j].1, es[j].2] = P at *
        generalize es[j] = ej at *
        obtain ⟨a, b⟩ := ej
        simp only at hix hvt hbad hnA hnB hP0 hP1
        by_cases hA : inN N a = true
        · rw [hA] at hnA hvt
          simp only [Bool.not_true, Bool.and_false, Bool.false_and, Bool.or_false] at hvt
          simp [vmS, vloc, hEl, hj, hix, p1, p2, p3, hP0, hnA, unA, hw]
          exact hq1 (r - 1) _ _ (by omega) ⟨j + 1, _, by omega, rfl, hl, hvt⟩
        · have hA' : inN N a = false := by simpa using hA
          rw [hA'] at hnA hvt hbad
          by_cases hB : inN N b = true
          · rw [hB] at hnB hvt hbad
            by_cases hbs : b = sz
            · subst hbs
              simp only [Bool.not_false, Bool.and_true, ne_eq, not_true, decide_false, Bool.and_false, Bool.or_false] at hvt
              simp [vmS, vloc, hEl, hj, hix, p1, p2, p3, hP0, hP1, hnA, hnB, unA, hw]
              exact hq1 (r - 1) _ _ (by omega) ⟨j + 1, _, by omega, rfl, hl, hvt⟩
            · have hbd := hbad (by simp [hbs])
              simp [vmS, vloc, hEl, hj, hix, p1, p2, p3, hP0, hP1, hnA, hnB, unA, hbs]
              exact hq2 _ _ _ (by simp) (.inl ⟨rfl, hbd, _, _, rfl⟩)
          · have hB' : inN N b = false := by simpa using hB
            rw [hB'] at hnB hvt
            simp only [Bool.false_and, Bool.or_false] at hvt
            simp [vmS, vloc, hEl, hj, hix, p1, p2, p3, hP0, hP1, hnA, hnB, unA, hw]
            exact hq1 (r - 1) _ _ (by omega) ⟨j + 1, _, by omega, rfl, hl, hvt⟩
      · have hjl : j = es.length := by omega
        subst hjl
        rw [List.take_length] at hev
        simp [vmS, vloc, hEl]
        exact hq2 _ _ _ (by simp) (.inr ⟨rfl, _, _, rfl, hl, hev⟩))
  rcases hq with ⟨rfl, hbd, t10, sc', rfl⟩ | ⟨rfl, t10, sc', rfl, hl, hgd⟩
  · rw [distOut_bad hbd] at hp
    simp [vmS, vloc]
    exact hp _ _ rfl
  simp [vmS, vloc]
  have hg := keptG_in N es
  have hR := DI.start N sz (keptG N es)
  have hsum : sumD N (dInit sz N) + 1 < 19999999 := by
    have h1 := sumD_le hR
    have h2 : N * N ≤ 4096 * 4096 := Nat.mul_le_mul hN hN
    omega
  generalize hc : iter _ _ _ _ = c
  obtain ⟨e1, L1, S2, rfl, hq⟩ := loop_of hc
    (fun r L S => ∃ m d w t12 t13 t14 sc, L = vloc [.int .i64 N, .int .i64 sz, E, .nils, .bool false, w, t9, t10, .bool m, t12, t13, t14] sc ∧ GrowL 0 S w (ints d) ∧ DI N (startN N sz) (keptG N es) d ∧ r = (if m = true then sumD N d + 1 else 0) ∧
      (m = false → ∀ e ∈ keptG N es, 0 ≤ d.getD e.1.toNat 0 → 0 ≤ d.getD e.2.toNat 0 ∧ d.getD e.2.toNat 0 ≤ d.getD e.1.toNat 0 + 1))
    (fun e L S => e = .exit 4 ∧ ∃ d w t11 t12 t13 t14 sc, L = vloc [.int .i64 N, .int .i64 sz, E, .nils, .bool false, w, t9, t10, t11, t12, t13, t14] sc ∧ GrowL 0 S w (ints d) ∧ Dist N (startN N sz) (keptG N es) d)
    (sumD N (dInit sz N) + 1) (by omega)
    ⟨true, _, w, _, _, _, _, rfl, hl, hR, by simp, fun h => by simp at h⟩
    (by
      clear hl hR hsum
      rintro r L S ⟨m, d, w, t12, t13, t14, sc, rfl, hl, hR, rfl, hdone⟩ q hq1 hq2
      cases m with
      | false =>
        simp [vmS, vloc]
        exact hq2 _ _ _ (by simp) ⟨rfl, d, w, _, _, _, _, _, rfl, hl, hR.done (hdone rfl)⟩
      | true =>
        clear hdone
        simp [vmS, vloc]
        generalize hc2 : iter _ _ _ _ = c2
        obtain ⟨e2, L2, S3, rfl, hq'⟩ := loop_of hc2
          (fun r2 L S => ∃ j m' d' w' t13 t14 sc, j + r2 = es.length ∧ L = vloc [.int .i64 N, .int .i64 sz, E, .nils, .bool false, w', t9, t10, .bool m', .int .i64 (j : Nat), t13, t14] sc ∧ GrowL 0 S w' (ints d') ∧ DI N (startN N sz) (keptG N es) d' ∧
            sumD N d' + (if m' = true then 1 else 0) ≤ sumD N d ∧ (m' = false → ∀ e ∈ keptG N (es.take j), 0 ≤ d'.getD e.1.toNat 0 → 0 ≤ d'.getD e.2.toNat 0 ∧ d'.getD e.2.toNat 0 ≤ d'.getD e.1.toNat 0 + 1))
          (fun e L S => e = .exit 6 ∧ ∃ m' d' w' t12 t13 t14 sc, L = vloc [.int .i64 N, .int .i64 sz, E, .nils, .bool false, w', t9, t10, .bool m', t12, t13, t14] sc ∧ GrowL 0 S w' (ints d') ∧ DI N (startN N sz) (keptG N es) d' ∧
            sumD N d' + (if m' = true then 1 else 0) ≤ sumD N d ∧ (m' = false → ∀ e ∈ keptG N es, 0 ≤ d'.getD e.1.toNat 0 → 0 ≤ d'.getD e.2.toNat 0 ∧ d'.getD e.2.toNat 0 ≤ d'.getD e.1.toNat 0 + 1))
          es.length (by omega)
          ⟨0, false, d, w, _, _, _, by simp, rfl, hl, hR, by simp, fun _ e he => by simp [keptG] at he⟩
          (by
            clear hl hR
            rintro r2 L S ⟨j, m', d', w', t13, t14, sc, hjk, rfl, hl, hR, hsm, hdn⟩ q' hq1' hq2'
            by_cases hj : j < es.length
            · have hw : IntKind.i64.wrap ((j : Int) + 1) = ((j : Int) + 1) := wrap_id (by omega) (by omega)
              have hix := hEx j hj
              have hkt := keptG_take (N := N) hj
              have hmem : inN N es[j].1 = true → inN N es[j].2 = true → es[j] ∈ keptG N es := fun h1 h2 => List.mem_filter.2 ⟨List.getElem_mem hj, by simp [h1, h2]⟩
              have hnA := fun n S => hn n S es[j].1
              have hnB := fun n S => hn n S es[j].2
              have hP0 := duo_at0 es[j].1 es[j].2
              have hP1 := duo_at1 es[j].1 es[j].2
              obtain ⟨p1, p2, p3⟩ := slcI_cell [es[j].1, es[j].2]
              generalize slcI [es[j].1, es[j].2] = P at *
              generalize es[j] = ej at *
              obtain ⟨a, b⟩ := ej
              simp only at hix hkt hmem hnA hnB hP0 hP1
              have hext : (∀ e ∈ (if (inN N a && inN N b) = true then [(a, b)] else []), 0 ≤ d'.getD e.1.toNat 0 → 0 ≤ d'.getD e.2.toNat 0 ∧ d'.getD e.2.toNat 0 ≤ d'.getD e.1.toNat 0 + 1) →
                  m' = false → ∀ e ∈ keptG N (es.take (j + 1)), 0 ≤ d'.getD e.1.toNat 0 → 0 ≤ d'.getD e.2.toNat 0 ∧ d'.getD e.2.toNat 0 ≤ d'.getD e.1.toNat 0 + 1 := fun h hm e he => by
                rw [hkt] at he
                rcases List.mem_append.1 he with he | he
                · exact hdn hm e he
                · exact h e he
              by_cases hA : inN N a = true
              rotate_left
              · have hA' : inN N a = false := by simpa using hA
                rw [hA'] at hnA hext
                have hx' := hext (by simp)
                simp [vmS, runC_nil, runC_cons, pickC_some, wantC_tt, wantC_tf, effC_val, ifC_true, checkC, inPairs, keepC, okC, readsC_load, readV_some, AV.beq_self, wantA_n, wantA_g, wantD_some, d0, d1, vloc, hEl, hj, hix, p1, p2, p3, hP0, hP1, hnA, hw]
                exact hq1' (r2 - 1) _ _ (by omega) ⟨j + 1, m', d', w', _, _, _, by omega, rfl, hl, hR, hsm, hx'⟩
              rw [hA] at hnA
              by_cases hB : inN N b = true
              rotate_left
              · have hB' : inN N b = false := by simpa using hB
                rw [hB'] at hnB hext
                have hx' := hext (by simp)
                simp [vmS, runC_nil, runC_cons, pickC_some, wantC_tt, wantC_tf, effC_val, ifC_true, checkC, inPairs, keepC, okC, readsC_load, readV_some, AV.beq_self, wantA_n, wantA_g, wantD_some, d0, d1, vloc, hEl, hj, hix, p1, p2, p3, hP0, hP1, hnA, hnB, hw]
                exact hq1' (r2 - 1) _ _ (by omega) ⟨j + 1, m', d', w', _, _, _, by omega, rfl, hl, hR, hsm, hx'⟩
              rw [hB] at hnB
              rw [hA, hB] at hext
              simp only [Bool.and_self, if_true, List.mem_singleton, forall_eq] at hext
              obtain ⟨ha0, ha1⟩ := inN_t.1 hA
              obtain ⟨hb0, hb1⟩ := inN_t.1 hB
              obtain ⟨x, rfl⟩ := Int.eq_ofNat_of_zero_le ha0
              obtain ⟨y, rfl⟩ := Int.eq_ofNat_of_zero_le hb0
              rw [Int.toNat_natCast, Int.toNat_natCast] at hext
              have hxN : x < N := by omega
              have hyN : y < N := by omega
              have hdl := hR.len
              have hlx := hR.low x hxN
              have hly := hR.low y hyN
              have hbx := hR.bnd x hxN
              have hby := hR.bnd y hyN
              have hst := hR.step (x := x) (y := y) (hmem hA hB) rfl rfl hxN hyN
              have hne : ints d' ≠ [] := fun e => by have := congrArg List.length e; rw [ints_length, List.length_nil] at this; omega
              obtain ⟨i, hi0, rfl, hcl, htk, _⟩ := hl.index (E := ED) (t := 62) (e := 3) rfl rfl hne
              have hgx := getD_int (d := d') (y := x) (by omega)
              have hgy := getD_int (d := d') (y := y) (by omega)
              have hx1 : x + 1 ≤ d'.length := by omega
              have hy1 : y + 1 ≤ d'.length := by omega
              have hixx := index22 (i := i) (c := 0) (show x < (ints d').length by simp; omega)
              have hixy := index22 (i := i) (c := 0) (show y < (ints d').length by simp; omega)
              by_cases hx0 : 0 ≤ d'.getD x 0
              rotate_left
              · have hx' := hext (fun h => absurd h hx0)
                generalize d'.getD x 0 = dx at *
                generalize d'.getD y 0 = dy at *
                generalize (ints d').length = M at *
                simp [vmS, runC_nil, runC_cons, pickC_some, wantC_tt, wantC_tf, effC_val, ifC_true, checkC, inPairs, keepC, okC, readsC_load, readV_some, AV.beq_self, wantA_n, wantA_g, wantD_some, d0, d1, vloc, hEl, hj, hix, p1, p2, p3, hP0, hP1, hnA, hnB, hixx, hixy, hcl, hgx, hgy, hx1, hy1, hx0, hw]
                exact hq1' (r2 - 1) _ _ (by omega) ⟨j + 1, m', d', _, _, _, _, by omega, rfl, hl, hR, hsm, hx'⟩
              have hbx' := hbx hx0
              have hwa : IntKind.i64.wrap (d'.getD x 0 + 1) = d'.getD x 0 + 1 := wrap_id (by omega) (by omega)
              by_cases hcond : d'.getD y 0 < 0 ∨ d'.getD x 0 + 1 < d'.getD y 0
              · obtain ⟨hR', hsum'⟩ := hst hx0 hcond
                have hset := ints_set d' y (d'.getD x 0 + 1)
                have hput := GrowL.put (B := 0) (ds := ints (d'.set y (d'.getD x 0 + 1))) hi0 hcl htk (by simp) hne
                have hput' := hput.1
                generalize d'.set y (d'.getD x 0 + 1) = d1' at *
                generalize d'.getD x 0 = dx at *
                generalize d'.getD y 0 = dy at *
                generalize (ints d').length = M at *
                have hfin : sumD N d1' + (if true = true then 1 else 0) ≤ sumD N d := by
                  have := Nat.le_trans (Nat.le_add_right (sumD N d') (if m' = true then 1 else 0)) hsm
                  rw [if_pos rfl]; omega
                by_cases hy0 : dy < 0
                · simp [vmS, runC_nil, runC_cons, pickC_some, wantC_tt, wantC_tf, effC_val, ifC_true, checkC, inPairs, keepC, okC, readsC_load, readV_some, AV.beq_self, wantA_n, wantA_g, wantD_some, d0, d1, vloc, hEl, hj, hix, p1, p2, p3, hP0, hP1, hnA, hnB, hixx, hixy, hcl, hgx, hgy, hx1, hy1, hx0, hy0, hwa, hset, hw]
                  exact hq1' (r2 - 1) _ _ (by omega) ⟨j + 1, true, d1', _, _, _, _, by omega, rfl, hput', hR', hfin, fun h => by simp at h⟩
                · have hgt : dx + 1 < dy := by omega
                  simp [vmS, runC_nil, runC_cons, pickC_some, wantC_tt, wantC_tf, effC_val, ifC_true, checkC, inPairs, keepC, okC, readsC_load, readV_some, AV.beq_self, wantA_n, wantA_g, wantD_some, d0, d1, vloc, hEl, hj, hix, p1, p2, p3, hP0, hP1, hnA, hnB, hixx, hixy, hcl, hgx, hgy, hx1, hy1, hx0, hy0, hgt, hwa, hset, hw]
                  exact hq1' (r2 - 1) _ _ (by omega) ⟨j + 1, true, d1', _, _, _, _, by omega, rfl, hput', hR', hfin, fun h => by simp at h⟩
              · have hx' := hext (fun _ => by omega)
                generalize d'.getD x 0 = dx at *
                generalize d'.getD y 0 = dy at *
                generalize (ints d').length = M at *
                have hy0 : ¬ dy < 0 := by omega
                have hgt : ¬ dx + 1 < dy := by omega
                simp [vmS, runC_nil, runC_cons, pickC_some, wantC_tt, wantC_tf, effC_val, ifC_true, checkC, inPairs, keepC, okC, readsC_load, readV_some, AV.beq_self, wantA_n, wantA_g, wantD_some, d0, d1, vloc, hEl, hj, hix, p1, p2, p3, hP0, hP1, hnA, hnB, hixx, hixy, hcl, hgx, hgy, hx1, hy1, hx0, hy0, hgt, hwa, hw]
                exact hq1' (r2 - 1) _ _ (by omega) ⟨j + 1, m', d', _, _, _, _, by omega, rfl, hl, hR, hsm, hx'⟩
            · have hjl : j = es.length := by omega
              subst hjl
              rw [List.take_length] at hdn
              simp [vmS, vloc, hEl]
              exact hq2' _ _ _ (by simp) ⟨rfl, m', d', w', _, _, _, _, rfl, hl, hR, hsm, hdn⟩)
        obtain ⟨rfl, m', d', w', a12, a13, a14, sc', rfl, hl', hR', hsm, hdn⟩ := hq'
        simp [vmS, vloc]
        refine hq1 (if m' = true then sumD N d' + 1 else 0) _ _ ?_ ⟨m', d', w', _, _, _, _, rfl, hl', hR', rfl, hdn⟩
        cases m' with
        | true => simp at hsm ⊢; omega
        | false => simp)
  obtain ⟨rfl, d, w', a11, a12, a13, a14, sc', rfl, hl', hD⟩ := hq
  rw [distOut_some hgd hD] at hp
  simp [vmS, vloc]
  exact hp _ _ (growL_tup hl')

end Go.Proofs.YtpjcmiaanjcanaaGreatDoor

namespace Go.Proofs.YtpjcmiaanjcanaaGreatDoor
open Go Go.Vm Go.Vm.T
set_option maxRecDepth 100000
set_option linter.unusedSimpArgs false
set_option linter.unusedVariables false
attribute [local simp] inFrame startLoc startVals Loc.clear blockC Loc.putO Loc.put idx evO constV Loc.get Vm.look intA unwindA resultsA resultV actA pureA storeA loadA fillE repElems TI.zeroV fieldOf fieldAddrA fieldA elemsA retE cellsOf? setCells nowhere

set_option maxHeartbeats 4000000

/-! the reference's rows -/
theorem RV.lst_kids {v w : RV} (h : v.lst = w.lst) : v.kids = w.kids := by
  cases v with
  | leaf k n e => cases w with
    | leaf k' n' e' => rfl
    | node k' n' x l => cases e <;> simp [RV.lst] at h
  | node k n x l => cases w with
    | leaf k' n' e' => cases e' <;> simp [RV.lst] at h
    | node k' n' x' l' =>
      simp only [RV.lst, AV.slice.injEq, List.cons.injEq, and_true] at h
      simp only [RV.kids]
      rw [RV.inj h.1, RV.injs h.2]
theorem RV.lst_pers (v : RV) : v.lst.pers = true := by
  cases v with
  | leaf k n e => cases e <;> rfl
  | node k n x l => simp [RV.lst, AV.pers, AV.persL, RV.pers x, RV.perss l]
def RV.rows2 (v : RV) : Prop := v.kids.length ≤ 4096 ∧ ∀ k ∈ v.kids, k.kids.length ≤ 4096 ∧ ∀ m ∈ k.kids, m.kids.length = 2
theorem wds_duo {v : RV} (h : v.kids.length = 2) : v.wds = duoL v.duo := by
  unfold RV.wds duoL RV.duo
  match hk : v.kids, h with
  | [a, b], _ => rfl
theorem cpl_duos {v : RV} (h : ∀ m ∈ v.kids, m.kids.length = 2) : cplA v.cpl = edgesA v.duos := by
  unfold edgesA RV.cpl RV.duos
  rw [List.map_map]
  congr 1
  exact List.map_congr_left fun m hm => wds_duo (h m hm)

structure SpX where
  v : RV
  l : List Int
def spmvRC : Con where
  f := 58
  X := SpX
  dom x := x.v.rows2 ∧ x.l.length ≤ 4096
  enc x := [x.v.lst, slcI x.l]
  res x := optT slcI (timesL x.v.rows x.l)
theorem spmvR_use {cs : List Con} (h : sumOf cs 58 = spmvRC.look) {n : Nat} {v : RV} {l : List Int} {S : St} (hv : v.rows2) (hl : l.length ≤ 4096) : callS ED (sumOf cs) n (.fn 58) [v.lst, slcI l] S = some (optT slcI (timesL v.rows l), S) :=
  Con.use (c := spmvRC) (fun (x y : SpX) _ _ h => by
    obtain ⟨a, b⟩ := x
    obtain ⟨c, d⟩ := y
    have h' : [a.lst, slcI b] = [c.lst, slcI d] := h
    simp only [List.cons.injEq, and_true] at h'
    show optT slcI (timesL a.rows b) = optT slcI (timesL c.rows d)
    unfold RV.rows
    rw [RV.lst_kids h'.1, slcI_inj h'.2]) h (⟨v, l⟩ : SpX) ⟨hv, hl⟩ (by
      show [v.lst.dead, (slcI l).dead] = [v.lst, slcI l]
      rw [dead_of_pers _ v.lst_pers, dead_of_pers _ (slcI_pers l)])
theorem slcI_len (zs : List Int) : lenA ED 62 (slcI zs) = some (.int .i64 zs.length) := by simp [slcI, lenA]
theorem slcI_get {zs : List Int} {j : Nat} (h : j < zs.length) : indexAddrA ED 62 (slcI zs) (.int .i64 (j : Nat)) = some (.rptr [.int .i64 zs[j]]) := by simp [slcI, indexAddrA, h, cells_int]

theorem lies_inN (a : Int) (n : Nat) : (decide (0 ≤ a) && decide (a ≤ (n : Int) - 1)) = inN n a := by
  unfold inN
  by_cases h1 : 0 ≤ a <;> by_cases h2 : a < (n : Int)
  · simp [h1, h2]; omega
  · simp [h1, h2]; omega
  · simp [h1]
  · simp [h1]

def csR : List Con := [liesC, wrapC 88, couplesC]
theorem csR_ok : ∀ d ∈ csR, d.Ok Tryz.prog ED := by simpa [csR] using ⟨lies_ok, Word_ok, couples_ok⟩

theorem spmvR_ok : spmvRC.Ok Tryz.prog ED := by
  refine Con.ok_at ED_ok ED_pers csR csR_ok (fun (x : SpX) _ => ⟨by show AV.persL [x.v.lst, slcI x.l] = true; simp [AV.persL, RV.lst_pers, slcI_pers], optT_slc _⟩) ?_
  rintro ⟨v, l⟩ ⟨⟨h1, h2⟩, h3⟩
  replace h1 : v.kids.length ≤ 4096 := h1
  replace h2 : ∀ k ∈ v.kids, k.kids.length ≤ 4096 ∧ ∀ m ∈ k.kids, m.kids.length = 2 := h2
  replace h3 : l.length ≤ 4096 := h3
  show ∃ n, ∀ p : FRes → St → Prop, (∀ r S', r.melt S' = optT slcI (timesL v.rows l) → p r S') → GotF (callS ED (sumOf csR) n (.fn 58) [v.lst, slcI l] S0) p
  refine ⟨5000, fun p hp => ?_⟩
  rw [callS_fn rfl]
  have d0 := @dr58_0
  simp only [drA, drawsOf, Option.getD_some, List.nil_append, List.append_nil, List.getD_cons_zero, List.getD_cons_succ, List.cons_append, Tryz.f58] at d0
  have uL := fun (n : Nat) (S : St) (a b c : Int) => lies_use (cs := csR) rfl (n := n) (S := S) (a := a) (b := b) (c := c)
  have uW := fun (n : Nat) (a : Int) (S : St) => Word_use (cs := csR) (by funext a; rfl) (n := n) (a := a) (S := S)
  have uC := fun (n : Nat) (S : St) (k : RV) (hk : k ∈ v.kids) => couples_use (cs := csR) (by funext a; rfl) (n := n) (S := S) (v := k) ⟨(h2 k hk).1, fun m hm => by rw [(h2 k hk).2 m hm]; decide⟩
  have hll := slcI_len l
  have hli := fun (j : Nat) (hj : j < l.length) => slcI_get hj
  have hwl : IntKind.i64.wrap ((l.length : Int) - 1) = (l.length : Int) - 1 := wrap_id (by omega) (by omega)
  have uL' := fun (n : Nat) (S : St) (a : Int) => uL n S a 0 ((l.length : Int) - 1)
  simp only [lies_inN] at uL'
  clear uL
  have hvl := v.len
  have hidx := fun j (hj : j < v.kids.length) => v.index hj
  obtain ⟨c1, c2, c3⟩ := v.cell
  obtain ⟨l1, l2, l3⟩ := slcI_cell l
  unfold RV.rows at hp
  generalize v.lst = A at *
  generalize v.kids = rs at *
  generalize slcI l = V at *
  simp only [fnA, ED_fn58, fi58, Tryz.f58]
  simp [vmS]
  generalize hc : iter _ _ _ _ = c
  obtain ⟨e1, L1, S1, rfl, hq⟩ := loop_of hc
    (fun r L S => ∃ j sc t8 t9 t10 w zs, j + r = rs.length ∧ L = vloc [A, V, .nils, .bool false, w, .int .i64 (j : Nat), t8, t9, t10] sc ∧ timesL ((rs.take j).map RV.duos) l = some zs ∧ GrowL 0 S w (ints zs))
    (fun e L S => (e = .ret ∧ timesL (rs.map RV.duos) l = none ∧ ∃ t6 t7 t8 t9 t10 sc, L = vloc [A, V, .nils, .bool false, t6, t7, t8, t9, t10] sc) ∨
      e = .exit 0 ∧ ∃ sc t7 t8 t9 t10 w zs, L = vloc [A, V, .nils, .bool false, w, t7, t8, t9, t10] sc ∧ timesL (rs.map RV.duos) l = some zs ∧ GrowL 0 S w (ints zs))
    rs.length (by omega)
    ⟨0, _, _, _, _, _, [], by simp, rfl, rfl, .inl ⟨rfl, rfl⟩⟩
    (by
      rintro r L S ⟨j, sc, t8, t9, t10, w, zs, hjk, rfl, hz, hl⟩ q hq1 hq2
      by_cases hj : j < rs.length
      · have hw : IntKind.i64.wrap ((j : Int) + 1) = ((j : Int) + 1) := wrap_id (by omega) (by omega)
        have hix := hidx j hj
        have hco := fun n S => uC n S rs[j] (List.getElem_mem hj)
        have h2j := h2 rs[j] (List.getElem_mem hj)
        rw [cpl_duos h2j.2] at hco
        have hzl : zs.length ≤ 10000 := by have := timesL_len hz; simp at this; omega
        have e1 : timesL ((rs.take (j + 1)).map RV.duos) l = (sumRow l rs[j].duos).map fun s => zs ++ [s] := by
          rw [List.take_add_one, List.getElem?_eq_getElem hj, List.map_append]
          unfold timesL at hz ⊢
          rw [List.foldl_append, hz]; rfl
        have e2 : sumRow l rs[j].duos = none → timesL (rs.map RV.duos) l = none := fun h => by
          rw [h, List.map_take] at e1
          exact fold_take (fun _ => rfl) e1
        have hrl : rs[j].duos.length ≤ 4096 := by simpa [RV.duos] using h2j.1
        obtain ⟨y1, y2, y3⟩ := rs[j].cell
        rw [rs[j].look] at hix hco
        generalize rs[j].duos = row at *
        generalize rs[j].lst = RA at *
        generalize rs[j].kind = rk at *
        generalize rs[j].num = rn at *
        have hEl := edges_len row
        have hEx := fun (k : Nat) (hk : k < row.length) => edges_get hk
        obtain ⟨hE1, hE2, hE3⟩ := edgesA_cell row
        generalize edgesA row = E at *
        simp [vmS, vloc, hvl, hj, hix, hco, y1, y2, y3, hE1, hE2, hE3]
        generalize hc2 : iter _ _ _ _ = cc
        obtain ⟨e2', L2, S2, rfl, hq'⟩ := loop_of hc2
          (fun r2 L S => ∃ k sc s, k + r2 = row.length ∧ L = vloc [A, V, .nils, .bool false, w, .int .i64 (j : Nat), E, .int .i64 s, .int .i64 (k : Nat)] sc ∧ sumRow l (row.take k) = some s ∧ GrowL 0 S w (ints zs))
          (fun e L S => (e = .ret ∧ sumRow l row = none ∧ ∃ t6 t7 t8 t9 t10 sc, L = vloc [A, V, .nils, .bool false, t6, t7, t8, t9, t10] sc) ∨
            e = .exit 2 ∧ ∃ sc t10 s, L = vloc [A, V, .nils, .bool false, w, .int .i64 (j : Nat), E, .int .i64 s, t10] sc ∧ sumRow l row = some s ∧ GrowL 0 S w (ints zs))
          row.length (by omega)
          ⟨0, _, 0, by simp, rfl, rfl, hl⟩
          (by
            rintro r2 L S ⟨k, sc, s0, hkk, rfl, hs0, hl⟩ q' hq1' hq2'
            by_cases hk : k < row.length
            · have hw' : IntKind.i64.wrap ((k : Int) + 1) = ((k : Int) + 1) := wrap_id (by omega) (by omega)
              have hx := hEx k hk
              have hsum : sumRow l (row.take (k + 1)) = stepRow l (some s0) row[k] := by
                unfold sumRow at hs0 ⊢
                rw [fold_succ hk, hs0]
              have hnone : stepRow l (some s0) row[k] = none → sumRow l row = none := fun h => by
                rw [h] at hsum
                exact fold_take (fun _ => rfl) hsum
              simp only [stepRow] at hsum hnone
              have hP0 := duo_at0 row[k].1 row[k].2
              have hP1 := duo_at1 row[k].1 row[k].2
              obtain ⟨p1, p2, p3⟩ := slcI_cell [row[k].1, row[k].2]
              generalize slcI [row[k].1, row[k].2] = P at *
              generalize row[k].1 = x at *
              generalize row[k].2 = y at *
              have uLx := fun n S => uL' n S x
              by_cases hin : inN l.length x = true
              · obtain ⟨q0, q1⟩ := inN_t.1 hin
                rw [if_pos hin] at hsum
                rw [hin] at uLx
                obtain ⟨x, rfl⟩ := Int.eq_ofNat_of_zero_le q0
                have hxl : x < l.length := by omega
                have hli' := hli x hxl
                have hget : l.getD (x : Int).toNat 0 = l[x] := by simp [List.getD_eq_getElem?_getD, hxl]
                rw [hget] at hsum
                generalize l[x] = z at *
                simp [vmS, runC_nil, runC_cons, pickC_some, wantC_tt, wantC_tf, effC_val, ifC_true, checkC, inPairs, keepC, okC, readsC_load, readV_some, AV.beq_self, wantA_n, wantA_g, wantD_some, d0, vloc, hEl, hk, hx, p1, p2, p3, hP0, hP1, hll, hwl, uLx, unA, hli', uW, hw']
                exact hq1' (r2 - 1) _ _ (by omega) ⟨k + 1, _, _, by omega, rfl, hsum, hl⟩
              · have hno := hnone (by rw [if_neg hin])
                have hin' : inN l.length x = false := by simpa using hin
                rw [hin'] at uLx
                simp [vmS, vloc, hEl, hk, hx, p1, p2, p3, hP0, hP1, hll, hwl, uLx, unA]
                exact hq2' _ _ _ (by simp) (.inl ⟨rfl, hno, _, _, _, _, _, _, rfl⟩)
            · have hkl : k = row.length := by omega
              subst hkl
              simp [vmS, vloc, hEl]
              refine hq2' _ _ _ (by simp) (.inr ⟨rfl, _, _, s0, rfl, by simpa using hs0, hl⟩))
        rcases hq' with ⟨rfl, hno, a6, a7, a8, a9, a10, sc', rfl⟩ | ⟨rfl, sc', a10', s, rfl, hs, hl2⟩
        · simp [vmS, vloc]
          exact hq2 _ _ _ (by simp) (.inl ⟨rfl, e2 hno, _, _, _, _, _, _, rfl⟩)
        rw [hs] at e1
        obtain ⟨v', S', ha, hl', hold⟩ := appendG_int s hl2 (Nat.zero_le _) hzl
        simp [vmS, vloc, ha, hw]
        exact hq1 (r - 1) _ _ (by omega) ⟨j + 1, _, _, _, _, v', zs ++ [s], by omega, rfl, e1, hl'⟩
      · have hjl : j = rs.length := by omega
        subst hjl
        rw [List.take_length] at hz
        simp [vmS, vloc, hvl]
        refine hq2 _ _ _ (by simp) (.inr ⟨rfl, _, _, t8, t9, t10, w, zs, rfl, hz, hl⟩))
  rcases hq with ⟨rfl, hno, a6, a7, a8, a9, a10, sc, rfl⟩ | ⟨rfl, sc, t7, t8, t9, t10, w, zs, rfl, hz, hl⟩
  · rw [hno] at hp
    simp [vmS, vloc]
    exact hp _ _ rfl
  rw [hz] at hp
  simp [vmS, vloc]
  exact hp _ _ (growL_tup hl)

structure WkX where
  n : Int
  v : RV
  l : List Int
def walkRC : Con where
  f := 60
  X := WkX
  dom x := x.v.rows2 ∧ x.l.length ≤ 4096
  enc x := [.int .i64 x.n, x.v.lst, slcI x.l]
  res x := optT slcI (walkOut x.n x.v.rows x.l)
theorem walkR_use {cs : List Con} (h : sumOf cs 60 = walkRC.look) {n : Nat} {m : Int} {v : RV} {l : List Int} {S : St} (hv : v.rows2) (hl : l.length ≤ 4096) : callS ED (sumOf cs) n (.fn 60) [.int .i64 m, v.lst, slcI l] S = some (optT slcI (walkOut m v.rows l), S) :=
  Con.use (c := walkRC) (fun (x y : WkX) _ _ h => by
    obtain ⟨n, a, b⟩ := x
    obtain ⟨m, c, d⟩ := y
    have h' : [AV.int .i64 n, a.lst, slcI b] = [AV.int .i64 m, c.lst, slcI d] := h
    simp only [List.cons.injEq, AV.int.injEq, true_and, and_true] at h'
    show optT slcI (walkOut n a.rows b) = optT slcI (walkOut m c.rows d)
    unfold RV.rows
    rw [h'.1, RV.lst_kids h'.2.1, slcI_inj h'.2.2]) h (⟨m, v, l⟩ : WkX) ⟨hv, hl⟩ (by
      show [AV.int .i64 m, v.lst.dead, (slcI l).dead] = [AV.int .i64 m, v.lst, slcI l]
      rw [dead_of_pers _ v.lst_pers, dead_of_pers _ (slcI_pers l)])

theorem walkR_ok : walkRC.Ok Tryz.prog ED := by
  refine Con.ok_at ED_ok ED_pers [spmvRC] (by simpa using spmvR_ok) (fun (x : WkX) _ => ⟨by show AV.persL [.int .i64 x.n, x.v.lst, slcI x.l] = true; simp [AV.persL, AV.pers, RV.lst_pers, slcI_pers], optT_slc _⟩) ?_
  rintro ⟨nn, v, l⟩ ⟨h1, h3⟩
  replace h1 : v.rows2 := h1
  replace h3 : l.length ≤ 4096 := h3
  show ∃ n, ∀ p : FRes → St → Prop, (∀ r S', r.melt S' = optT slcI (walkOut nn v.rows l) → p r S') → GotF (callS ED (sumOf [spmvRC]) n (.fn 60) [.int .i64 nn, v.lst, slcI l] S0) p
  refine ⟨100, fun p hp => ?_⟩
  rw [callS_fn rfl]
  have uS := fun (n : Nat) (S : St) (l : List Int) (hl : l.length ≤ 4096) => spmvR_use (cs := [spmvRC]) rfl (n := n) (S := S) h1 hl
  have hrl : v.rows.length ≤ 4096 := by simpa [RV.rows] using h1.1
  obtain ⟨c1, c2, c3⟩ := v.cell
  generalize v.rows = rs at *
  generalize v.lst = A at *
  unfold walkOut at hp
  obtain ⟨l1, l2, l3⟩ := slcI_cell l
  have key : ∀ zs, slcI zs = .slice (ints zs) .dead := fun _ => rfl
  simp only [fnA, ED_fn60, fi60, Tryz.f60]
  by_cases hnn : nn ≤ 30
  rotate_left
  · rw [if_neg hnn] at hp
    have hn2 : 30 < nn := by omega
    simp [vmS, hn2]
    exact hp _ _ rfl
  have hn2 : ¬ 30 < nn := by omega
  rw [if_pos hnn] at hp
  generalize hNd : nn.toNat = N at *
  simp [vmS, hn2]
  generalize hc : iter _ _ _ _ = c
  obtain ⟨e1, L1, S1, rfl, hq⟩ := loop_of hc
    (fun r L S => ∃ j m sc t9 t10, j + r = N ∧ m.length ≤ 4096 ∧ walkF rs r m = walkF rs N l ∧ L = vloc [.int .i64 nn, A, slcI m, .nils, .bool false, .int .i64 (j : Nat), t9, t10] sc)
    (fun e L S => (e = .ret ∧ walkF rs N l = none ∧ ∃ t2 t8 t9 t10 sc, L = vloc [.int .i64 nn, A, t2, .nils, .bool false, t8, t9, t10] sc) ∨
      e = .exit 0 ∧ ∃ m sc t8 t9 t10, walkF rs N l = some m ∧ L = vloc [.int .i64 nn, A, slcI m, .nils, .bool false, t8, t9, t10] sc)
    N (by omega)
    ⟨0, l, _, _, _, by simp, h3, rfl, rfl⟩
    (by
      rintro r L S ⟨j, m, sc, t9, t10, hjk, hml, hz, rfl⟩ q hq1 hq2
      by_cases hj : j < N
      · have hwr : IntKind.i64.wrap ((j : Int) + 1) = ((j : Int) + 1) := wrap_id (by omega) (by omega)
        have hjn : (j : Int) < nn := by omega
        have ht' := fun n S => uS n S m hml
        obtain ⟨r, rfl⟩ : ∃ r', r = r' + 1 := ⟨r - 1, by omega⟩
        cases hto : timesL rs m with
        | none =>
          rw [hto] at ht'
          simp only [optT, key] at ht'
          rw [walkF_none hto] at hz
          simp [vmS, vloc, hjn, ht', unA, key]
          exact hq2 _ _ _ (by simp) (.inl ⟨rfl, hz.symm, _, _, _, _, _, rfl⟩)
        | some m' =>
          rw [hto] at ht'
          simp only [optT, key] at ht'
          rw [walkF_succ hto] at hz
          have hml' : m'.length ≤ 4096 := by rw [timesL_len hto]; exact hrl
          simp [vmS, vloc, hjn, ht', unA, hwr, key]
          exact hq1 r _ _ (by omega) ⟨j + 1, m', _, _, _, by omega, hml', hz, rfl⟩
      · have hjl : j = N := by omega
        subst hjl
        have hr0 : r = 0 := by omega
        subst hr0
        have hjn : ¬ (j : Int) < nn := by omega
        simp [vmS, vloc, hjn]
        exact hq2 _ _ _ (by simp) (.inr ⟨rfl, m, _, _, _, _, hz.symm, rfl⟩))
  rcases hq with ⟨rfl, hno, a2, a8, a9, a10, sc, rfl⟩ | ⟨rfl, m, sc, a8, a9, a10, hz, rfl⟩
  · rw [hno] at hp
    simp [vmS, vloc]
    exact hp _ _ rfl
  rw [hz] at hp
  simp [vmS, vloc]
  refine hp _ _ ?_
  have hd := dead_of_pers _ (slcI_pers m)
  simp [FRes.melt, AV.melt, AV.meltE, optT, slcI, AV.dead]

end Go.Proofs.YtpjcmiaanjcanaaGreatDoor
