/-
What tells a value's type. No conditions.
-/
import Derived.Test.YtpjcmiaanjcanaaGreatDoorValB
set_option linter.all false

namespace Go.Proofs.YtpjcmiaanjcanaaGreatDoor
open Go Go.Vm Go.Vm.T
set_option maxRecDepth 100000
set_option linter.unusedSimpArgs false
set_option linter.unusedVariables false
attribute [local simp] inFrame startLoc startVals Loc.clear blockC Loc.putO Loc.put idx evO constV Loc.get Vm.look intA unwindA resultsA resultV actA pureA storeA loadA fillE repElems TI.zeroV fieldOf fieldAddrA fieldA elemsA retE cellsOf? setCells nowhere

set_option maxHeartbeats 4000000

theorem Ty.pair_ne1 : ∀ a b : Ty, Ty.pair a b ≠ a
  | .num, b => by simp
  | .seq _, b => by simp
  | .pair c d, b => by
    intro h
    simp only [Ty.pair.injEq] at h
    exact Ty.pair_ne1 c d h.1
theorem Ty.pair_ne2 : ∀ a b : Ty, Ty.pair a b ≠ b
  | a, .num => by simp
  | a, .seq _ => by simp
  | a, .pair c d => by
    intro h
    simp only [Ty.pair.injEq] at h
    exact Ty.pair_ne2 c d h.2
theorem Ty.seq_ne : ∀ a : Ty, Ty.seq a ≠ a
  | .num => by simp
  | .pair _ _ => by simp
  | .seq a => by
    intro h
    simp only [Ty.seq.injEq] at h
    exact Ty.seq_ne a h

theorem is_pair_ok {a b : Ty} (hab : (isC [a, b]).Ok Tryz.prog ED) : (isC [.pair a b]).Ok Tryz.prog ED := by
  refine Con.ok_at ED_ok ED_pers [isC [a, b]] (by simpa using hab) (fun x _ => is_pers x) ?_
  rintro ⟨t, v⟩ ⟨ht, hv⟩
  have ht' : t = .pair a b := List.mem_singleton.1 ht
  subst ht'
  replace hv : v.fit := hv
  show ∃ n, ∀ p : FRes → St → Prop, (∀ r S', r.melt S' = .ret (.bool (isR (.pair a b) v)) → p r S') → GotF (callS ED (sumOf [isC [a, b]]) n (.fn 56) [v.enc, (Ty.pair a b).enc] S0) p
  refine ⟨3, fun p hp => ?_⟩
  have hne : Ty.pair a b ∉ [a, b] := by
    intro h
    rcases List.mem_cons.1 h with h | h
    · exact Ty.pair_ne1 a b h
    · exact Ty.pair_ne2 a b (List.mem_singleton.1 h)
  rw [callS_fn' (is_not hne rfl)]
  have d0 := @dr56_0
  simp only [drA, drawsOf, Option.getD_some, List.nil_append, List.append_nil, List.getD_cons_zero, List.getD_cons_succ, List.cons_append, Tryz.f56] at d0
  have e := v.look
  obtain ⟨c1, c2, c3⟩ := v.cell
  have hlen := v.len
  have hidx := fun j (hj : j < v.kids.length) => v.index hj
  have hfk : ∀ x ∈ v.kids, x.fit := fun x hx => RV.fit_kid hv hx
  simp only [isR] at hp
  rw [e]
  generalize v.lst = A at *
  simp only [Ty.enc]
  simp only [fnA, ED_fn56, fi56, Tryz.f56]
  by_cases hk : v.kind = 2
  · rw [hk] at hp ⊢
    by_cases hz : v.num = 0
    · rw [hz] at hp ⊢
      generalize v.kids = l at *
      match l, hlen, hidx, hfk, hp with
      | [x, y], hlen, hidx, hfk, hp =>
        have i0 : indexAddrA ED 22 A (.int .i64 0) = some (.rptr x.enc.cells) := hidx 0 (by simp)
        have i1 : indexAddrA ED 22 A (.int .i64 1) = some (.rptr y.enc.cells) := hidx 1 (by simp)
        have h1 := fun (n : Nat) (S : St) => is_use (cs := [isC [a, b]]) rfl (n := n) (S := S) (ts := [a, b]) (t := a) (v := x) (by simp) (hfk x (by simp))
        have h2 := fun (n : Nat) (S : St) => is_use (cs := [isC [a, b]]) rfl (n := n) (S := S) (ts := [a, b]) (t := b) (v := y) (by simp) (hfk y (by simp))
        have t0 : indexAddrA ED 30 (.slice [a.enc, b.enc] .dead) (.int .i64 0) = some (.rptr a.enc.cells) := by cases a <;> rfl
        have t1 : indexAddrA ED 30 (.slice [a.enc, b.enc] .dead) (.int .i64 1) = some (.rptr b.enc.cells) := by cases b <;> rfl
        obtain ⟨ka, La, ea, _, _⟩ := a.look
        obtain ⟨kb, Lb, eb, _, _⟩ := b.look
        rw [x.look] at i0 h1
        rw [y.look] at i1 h2
        rw [ea] at t0 h1
        rw [eb] at t1 h2
        rw [ea] at t1
        rw [eb] at t0
        rw [ea, eb]
        simp only [List.length_cons, List.length_nil] at hlen
        replace hlen : lenA ED 22 A = some (.int .i64 2) := hlen
        cases hx : isR a x with
        | true =>
          rw [hx] at h1
          simp only [hx, decide_true, Bool.true_and] at hp
          simp [vmS, runC_nil, runC_cons, pickC_some, wantC_tt, wantC_tf, effC_val, ifC_true, checkC, inPairs, keepC, okC, readsC_load, readV_some, AV.beq_self, wantA_n, wantA_g, wantD_some, d0, c1, hlen, i0, i1, t0, t1, h1, h2]
          exact hp _ _ (by simp [FRes.melt, AV.melt, AV.dead])
        | false =>
          rw [hx] at h1
          simp only [hx, decide_true, Bool.true_and, Bool.false_and] at hp
          simp [vmS, runC_nil, runC_cons, pickC_some, wantC_tt, wantC_tf, effC_val, ifC_true, checkC, inPairs, keepC, okC, readsC_load, readV_some, AV.beq_self, wantA_n, wantA_g, wantD_some, d0, c1, hlen, i0, i1, t0, t1, h1, h2]
          exact hp _ _ (by simp [FRes.melt, AV.melt, AV.dead])
      | [], hlen, hidx, hfk, hp =>
        replace hlen : lenA ED 22 A = some (.int .i64 0) := hlen
        simp [vmS, runC_nil, runC_cons, pickC_some, wantC_tt, wantC_tf, effC_val, ifC_true, checkC, inPairs, keepC, okC, readsC_load, readV_some, AV.beq_self, wantA_n, wantA_g, wantD_some, d0, c1, hlen]
        exact hp _ _ (by simp [FRes.melt, AV.melt, AV.dead])
      | [x], hlen, hidx, hfk, hp =>
        replace hlen : lenA ED 22 A = some (.int .i64 1) := hlen
        simp [vmS, runC_nil, runC_cons, pickC_some, wantC_tt, wantC_tf, effC_val, ifC_true, checkC, inPairs, keepC, okC, readsC_load, readV_some, AV.beq_self, wantA_n, wantA_g, wantD_some, d0, c1, hlen]
        exact hp _ _ (by simp [FRes.melt, AV.melt, AV.dead])
      | x :: y :: w :: r, hlen, hidx, hfk, hp =>
        have h3 : ¬ ((x :: y :: w :: r).length : Int) = 2 := by simp only [List.length_cons]; omega
        generalize ((x :: y :: w :: r).length : Int) = N at hlen h3
        simp [vmS, runC_nil, runC_cons, pickC_some, wantC_tt, wantC_tf, effC_val, ifC_true, checkC, inPairs, keepC, okC, readsC_load, readV_some, AV.beq_self, wantA_n, wantA_g, wantD_some, d0, c1, hlen, h3]
        exact hp _ _ (by simp [FRes.melt, AV.melt, AV.dead])
    · simp [vmS, c1, hz]
      exact hp _ _ (by simp [FRes.melt, AV.melt, AV.dead, hz])
  · simp [vmS, c1, hk]
    exact hp _ _ (by simp [FRes.melt, AV.melt, AV.dead, hk])

theorem is_seq_ok {a : Ty} (ha : (isC [a]).Ok Tryz.prog ED) : (isC [.seq a]).Ok Tryz.prog ED := by
  refine Con.ok_at ED_ok ED_pers [isC [a]] (by simpa using ha) (fun x _ => is_pers x) ?_
  rintro ⟨t, v⟩ ⟨ht, hv⟩
  have ht' : t = .seq a := List.mem_singleton.1 ht
  subst ht'
  replace hv : v.fit := hv
  show ∃ n, ∀ p : FRes → St → Prop, (∀ r S', r.melt S' = .ret (.bool (isR (.seq a) v)) → p r S') → GotF (callS ED (sumOf [isC [a]]) n (.fn 56) [v.enc, (Ty.seq a).enc] S0) p
  refine ⟨v.kids.length + 3, fun p hp => ?_⟩
  have hne : Ty.seq a ∉ [a] := fun h => Ty.seq_ne a (List.mem_singleton.1 h)
  rw [callS_fn' (is_not hne rfl)]
  have d2 := @dr56_2
  simp only [drA, drawsOf, Option.getD_some, List.nil_append, List.append_nil, List.getD_cons_zero, List.getD_cons_succ, List.cons_append, Tryz.f56] at d2
  have e := v.look
  obtain ⟨c1, c2, c3⟩ := v.cell
  have hlen := v.len
  have hidx := fun j (hj : j < v.kids.length) => v.index hj
  have hmx := RV.fit_len hv
  have hi := fun (n : Nat) (S : St) (j : Nat) (hj : j < v.kids.length) => is_use (cs := [isC [a]]) rfl (n := n) (S := S) (ts := [a]) (t := a) (v := v.kids[j]) (by simp) (RV.fit_kid hv (List.getElem_mem hj))
  simp only [isR] at hp
  rw [e]
  generalize v.lst = A at *
  generalize v.kids = l at *
  have hlt : (l.length : Int) < 9223372036854775808 := by unfold maxLen at hmx; omega
  have t0 : indexAddrA ED 30 (.slice [a.enc] .dead) (.int .i64 0) = some (.rptr a.enc.cells) := by cases a <;> rfl
  obtain ⟨ka, La, ea, _, _⟩ := a.look
  simp only [Ty.enc]
  rw [ea] at t0 hi ⊢
  simp only [fnA, ED_fn56, fi56, Tryz.f56]
  by_cases hk : v.kind = 4
  · rw [hk] at hp ⊢
    by_cases hz : v.num = 0
    · rw [hz] at hp ⊢
      simp only [decide_true, Bool.true_and] at hp
      simp [vmS, c1]
      generalize hc : iter _ _ _ _ = c
      obtain ⟨e1, L1, S1, rfl, hq⟩ := loop_of hc
        (fun r L S => ∃ j sc, j + r = l.length ∧ (l.drop j).all (isR a) = l.all (isR a) ∧ L = vloc [.agg [.int .i64 4, .int .i64 0, A], .agg [.int .i64 4, .int .i64 0, .slice [.agg [.int .i64 ka, .int .i64 0, La]] .dead], .ptr 0 0, .ptr 1 0, .bool false, .int .i64 (j : Nat), .int .i64 4] sc ∧
          S.cells? 0 = some [.int .i64 4, .int .i64 0, A] ∧ S.cells? 1 = some [.int .i64 4, .int .i64 0, .slice [.agg [.int .i64 ka, .int .i64 0, La]] .dead])
        (fun e L S => ∃ j sc, L = vloc [.agg [.int .i64 4, .int .i64 0, A], .agg [.int .i64 4, .int .i64 0, .slice [.agg [.int .i64 ka, .int .i64 0, La]] .dead], .ptr 0 0, .ptr 1 0, .bool false, .int .i64 j, .int .i64 4] sc ∧ ((e = .exit 1 ∧ l.all (isR a) = true) ∨ (e = .ret ∧ l.all (isR a) = false)))
        l.length (by omega)
        ⟨0, _, by simp, rfl, rfl, by simp [push_at, put_at, n_push', n_put', cellsOf?], by simp [push_at, put_at, n_push', n_put', cellsOf?]⟩
        (by
          rintro r L S ⟨j, sc, hjk, hs, rfl, h0, h1⟩ q hq1 hq2
          by_cases hj : j < l.length
          · have hw : IntKind.i64.wrap ((j : Int) + 1) = ((j : Int) + 1) := wrap_id (by omega) (by omega)
            have x1 := hidx j hj
            have x2 := fun n S => hi n S j hj
            rw [drop_kid hj, List.all_cons] at hs
            generalize l[j] = x at *
            obtain ⟨y1, y2, y3⟩ := x.cell
            rw [x.look] at x1 x2
            cases hx : isR a x with
            | true =>
              rw [hx] at x2 hs
              simp [vmS, runC_nil, runC_cons, pickC_some, wantC_tt, wantC_tf, effC_val, ifC_true, checkC, inPairs, keepC, okC, readsC_load, readV_some, AV.beq_self, wantA_n, wantA_g, wantD_some, d2, vloc, h0, h1, hlen, hj, x1, x2, t0, y1, y2, y3, unA, hw]
              exact hq1 (r - 1) _ _ (by omega) ⟨j + 1, _, by omega, by simpa using hs, rfl, h0, h1⟩
            | false =>
              rw [hx] at x2 hs
              simp [vmS, runC_nil, runC_cons, pickC_some, wantC_tt, wantC_tf, effC_val, ifC_true, checkC, inPairs, keepC, okC, readsC_load, readV_some, AV.beq_self, wantA_n, wantA_g, wantD_some, d2, vloc, h0, h1, hlen, hj, x1, x2, t0, y1, y2, y3, unA]
              exact hq2 _ _ _ (by simp) ⟨_, _, rfl, .inr ⟨rfl, by simpa using hs.symm⟩⟩
          · have hjl : j = l.length := by omega
            subst hjl
            rw [List.drop_length] at hs
            simp [vmS, vloc, h0, hlen]
            exact hq2 _ _ _ (by simp) ⟨_, _, rfl, .inl ⟨rfl, by simpa using hs.symm⟩⟩)
      obtain ⟨j, sc, rfl, ⟨rfl, h3⟩ | ⟨rfl, h3⟩⟩ := hq
      · rw [h3] at hp
        simp [vmS, vloc]
        exact hp _ _ rfl
      · rw [h3] at hp
        simp [vmS, vloc]
        exact hp _ _ rfl
    · simp [vmS, c1, hz]
      exact hp _ _ (by simp [FRes.melt, AV.melt, AV.dead, hz])
  · simp [vmS, c1, hk]
    exact hp _ _ (by simp [FRes.melt, AV.melt, AV.dead, hk])

theorem is_ok : ∀ t : Ty, (isC [t]).Ok Tryz.prog ED
  | .num => is_num_ok
  | .seq a => is_seq_ok (is_ok a)
  | .pair a b => is_pair_ok (is_cons (is_ok a) (is_ok b))
theorem is_all : ∀ ts : List Ty, (isC ts).Ok Tryz.prog ED
  | [] => ⟨fun x hx => absurd hx.1 (by simp), fun x hx => absurd hx.1 (by simp)⟩
  | t :: ts => is_cons (is_ok t) (is_all ts)

end Go.Proofs.YtpjcmiaanjcanaaGreatDoor

namespace Go.Proofs.YtpjcmiaanjcanaaGreatDoor
open Go Go.Vm Go.Vm.T
set_option maxRecDepth 100000
set_option linter.unusedSimpArgs false
set_option linter.unusedVariables false
attribute [local simp] inFrame startLoc startVals Loc.clear blockC Loc.putO Loc.put idx evO constV Loc.get Vm.look intA unwindA resultsA resultV actA pureA storeA loadA fillE repElems TI.zeroV fieldOf fieldAddrA fieldA elemsA retE cellsOf? setCells nowhere

set_option maxHeartbeats 4000000

def numberR (v : RV) : Bool :=
  if v.kind = 0 then decide (v.num = 0) && decide (v.kids.length = 0)
  else if v.kind = 1 then wordB v.num && decide (v.kids.length = 0)
  else if v.kind = 2 then decide (v.num = 0) && decide (v.kids.length = 2)
  else if v.kind = 3 then (decide (v.num = 0) || decide (v.num = 1)) && decide (v.kids.length = 1)
  else if v.kind = 4 then decide (v.num = 0)
  else false

def numberC : Con where
  f := 83
  X := RV
  dom v := v.fit
  enc v := [v.enc]
  res v := .ret (.bool (numberR v))

theorem number_ok : numberC.Ok Tryz.prog ED := by
  refine Con.ok_at ED_ok ED_pers [] (by simp) (fun (v : RV) _ => ⟨by show AV.persL [v.enc] = true; simp [AV.persL, RV.pers], rfl⟩) ?_
  intro (v : RV) hv
  show ∃ n, ∀ p : FRes → St → Prop, (∀ r S', r.melt S' = .ret (.bool (numberR v)) → p r S') → GotF (callS ED (sumOf []) n (.fn 83) [v.enc] S0) p
  refine ⟨3, fun p hp => ?_⟩
  rw [callS_fn rfl]
  have e := v.look
  obtain ⟨c1, c2, c3⟩ := v.cell
  have hlen := v.len
  unfold numberR wordB at hp
  rw [e]
  generalize v.lst = A at *
  generalize v.kids.length = N at *
  generalize v.kind = k at *
  generalize v.num = z at *
  simp only [fnA, ED_fn83, fi83, Tryz.f83]
  by_cases h0 : k = 0
  · subst h0
    by_cases hz : z = 0
    · subst hz
      simp [vmS, c1, hlen]
      exact hp _ _ (by simp [FRes.melt, AV.melt, AV.dead])
    · simp [vmS, c1, hlen, hz]
      exact hp _ _ (by simp [FRes.melt, AV.melt, AV.dead, hz])
  · by_cases h1 : k = 1
    · subst h1
      by_cases hz : -2147483648 ≤ z
      · by_cases hz2 : z ≤ 2147483647
        · simp [vmS, c1, hlen, hz, hz2]
          exact hp _ _ (by simp [FRes.melt, AV.melt, AV.dead, hz, hz2])
        · simp [vmS, c1, hlen, hz, hz2]
          exact hp _ _ (by simp [FRes.melt, AV.melt, AV.dead, hz, hz2])
      · simp [vmS, c1, hlen, hz]
        exact hp _ _ (by simp [FRes.melt, AV.melt, AV.dead, hz])
    · by_cases h2 : k = 2
      · subst h2
        by_cases hz : z = 0
        · subst hz
          by_cases hN : N = 2
          · subst hN
            simp [vmS, c1, hlen]
            exact hp _ _ (by simp [FRes.melt, AV.melt, AV.dead])
          · have hNi : ¬ (N : Int) = 2 := by omega
            simp [vmS, c1, hlen, hN, hNi]
            exact hp _ _ (by simp [FRes.melt, AV.melt, AV.dead, hN])
        · simp [vmS, c1, hlen, hz]
          exact hp _ _ (by simp [FRes.melt, AV.melt, AV.dead, hz])
      · by_cases h3 : k = 3
        · subst h3
          by_cases hN : N = 1
          · subst hN
            by_cases hz : z = 0
            · subst hz
              simp [vmS, c1, hlen]
              exact hp _ _ (by simp [FRes.melt, AV.melt, AV.dead])
            · by_cases hz1 : z = 1
              · subst hz1
                simp [vmS, c1, hlen]
                exact hp _ _ (by simp [FRes.melt, AV.melt, AV.dead])
              · simp [vmS, c1, hlen, hz, hz1]
                exact hp _ _ (by simp [FRes.melt, AV.melt, AV.dead, hz, hz1])
          · have hNi : ¬ (N : Int) = 1 := by omega
            by_cases hz : z = 0
            · subst hz
              simp [vmS, c1, hlen, hN, hNi]
              exact hp _ _ (by simp [FRes.melt, AV.melt, AV.dead, hN])
            · by_cases hz1 : z = 1
              · subst hz1
                simp [vmS, c1, hlen, hN, hNi]
                exact hp _ _ (by simp [FRes.melt, AV.melt, AV.dead, hN])
              · simp [vmS, c1, hlen, hz, hz1]
                exact hp _ _ (by simp [FRes.melt, AV.melt, AV.dead, hz, hz1])
        · by_cases h4 : k = 4
          · subst h4
            simp [vmS, c1, hlen]
            exact hp _ _ (by simp [FRes.melt, AV.melt, AV.dead])
          · simp [vmS, c1, h0, h1, h2, h3, h4]
            exact hp _ _ (by simp [FRes.melt, AV.melt, AV.dead, h0, h1, h2, h3, h4])

theorem number_use {cs : List Con} (h : sumOf cs 83 = numberC.look) {n : Nat} {v : RV} {S : St} (hv : v.fit) : callS ED (sumOf cs) n (.fn 83) [v.enc] S = some (.ret (.bool (numberR v)), S) :=
  Con.use (c := numberC) (fun (x y : RV) hx hy h => by
    have h' : [x.enc] = [y.enc] := h
    simp only [List.cons.injEq, and_true] at h'
    rw [RV.inj h']) h (v : RV) hv (by show [v.enc.dead] = [v.enc]; simp)

/-! has -/
def hasC (ts : List Ty) : Con where
  f := 52
  X := Ty × RV
  dom x := x.1 ∈ ts ∧ x.2.fit
  enc x := [x.1.lay, x.2.enc]
  res x := .ret (.bool (isR x.1 x.2))

theorem has_cons {t : Ty} {ts : List Ty} (h : (hasC [t]).Ok Tryz.prog ED) (k : (hasC ts).Ok Tryz.prog ED) : (hasC (t :: ts)).Ok Tryz.prog ED := by
  refine ⟨fun x hx => ?_, fun x hx => ?_⟩
  · rcases List.mem_cons.1 hx.1 with h1 | h1
    · exact h.pers x ⟨by simp [h1], hx.2⟩
    · exact k.pers x ⟨h1, hx.2⟩
  · rcases List.mem_cons.1 hx.1 with h1 | h1
    · exact h.sound x ⟨by simp [h1], hx.2⟩
    · exact k.sound x ⟨h1, hx.2⟩
theorem has_use {cs : List Con} {ts : List Ty} (h : sumOf cs 52 = (hasC ts).look) {n : Nat} {t : Ty} {v : RV} {S : St} (ht : t ∈ ts) (hv : v.fit) : callS ED (sumOf cs) n (.fn 52) [t.lay, v.enc] S = some (.ret (.bool (isR t v)), S) :=
  Con.use (c := hasC ts) (fun (x y : Ty × RV) _ _ h => by
    have h' : [x.1.lay, x.2.enc] = [y.1.lay, y.2.enc] := h
    simp only [List.cons.injEq, and_true] at h'
    show FRes.ret (.bool (isR x.1 x.2)) = .ret (.bool (isR y.1 y.2))
    rw [RV.inj h'.2, Ty.lay_inj h'.1]) h ((t, v) : Ty × RV) ⟨ht, hv⟩ (by show [t.lay.dead, v.enc.dead] = [t.lay, v.enc]; simp [dead_of_pers _ (Ty.lay_pers t)])
theorem has_not {ts : List Ty} {t : Ty} {v : RV} (ht : t ∉ ts) {cs : List Con} (h : sumOf cs 52 = (hasC ts).look) : sumOf cs 52 ([t.lay, v.enc].map AV.dead) = none := by
  refine (congrFun h _).trans (Con.look_none fun (x : Ty × RV) hx e => ?_)
  have e' : [x.1.lay, x.2.enc] = [t.lay, v.enc] := by
    have : [t.lay, v.enc].map AV.dead = [t.lay, v.enc] := by simp [dead_of_pers _ (Ty.lay_pers t)]
    exact Eq.trans e this
  simp only [List.cons.injEq, and_true] at e'
  have hx1 : x.1 ∈ ts := hx.1
  rw [Ty.lay_inj e'.1] at hx1
  exact ht hx1
theorem has_pers {ts : List Ty} (x : Ty × RV) : AV.persL ((hasC ts).enc x) = true ∧ ((hasC ts).res x).pers = true :=
  ⟨by show AV.persL [x.1.lay, x.2.enc] = true; simp [AV.persL, Ty.lay_pers, RV.pers], rfl⟩

theorem kd1 : indexAddrA ED 112 (.rptr [.int .i64 0, .int .i64 1, .int .i64 2, .int .i64 3, .int .i64 4]) (.int .i64 1) = some (.rptr [.int .i64 1, .int .i64 2, .int .i64 3, .int .i64 4]) := rfl
theorem kd2 : indexAddrA ED 112 (.rptr [.int .i64 0, .int .i64 1, .int .i64 2, .int .i64 3, .int .i64 4]) (.int .i64 2) = some (.rptr [.int .i64 2, .int .i64 3, .int .i64 4]) := rfl
theorem kd4 : indexAddrA ED 112 (.rptr [.int .i64 0, .int .i64 1, .int .i64 2, .int .i64 3, .int .i64 4]) (.int .i64 4) = some (.rptr [.int .i64 4]) := rfl

theorem has_num_ok : (hasC [.num]).Ok Tryz.prog ED := by
  refine Con.ok_at ED_ok ED_pers [numberC] (by simpa using number_ok) (fun x _ => has_pers x) ?_
  rintro ⟨t, v⟩ ⟨ht, hv⟩
  have ht' : t = .num := List.mem_singleton.1 ht
  subst ht'
  replace hv : v.fit := hv
  show ∃ n, ∀ p : FRes → St → Prop, (∀ r S', r.melt S' = .ret (.bool (isR .num v)) → p r S') → GotF (callS ED (sumOf [numberC]) n (.fn 52) [Ty.num.lay, v.enc] S0) p
  refine ⟨3, fun p hp => ?_⟩
  rw [callS_fn rfl]
  have d0 := @dr52_0
  simp only [drA, drawsOf, Option.getD_some, List.nil_append, List.append_nil, List.getD_cons_zero, List.getD_cons_succ, List.cons_append, Tryz.f52] at d0
  have uN := fun (n : Nat) (S : St) => number_use (cs := [numberC]) rfl (n := n) (S := S) hv
  have e := v.look
  obtain ⟨c1, c2, c3⟩ := v.cell
  have hlen := v.len
  have hki := kd1
  simp only [isR] at hp
  unfold numberR at uN
  rw [e] at uN ⊢
  generalize v.lst = A at *
  generalize v.kids.length = N at *
  simp only [Ty.lay]
  simp only [fnA, ED_fn52, fi52, Tryz.f52]
  by_cases hk : v.kind = 1
  · rw [hk] at hp uN ⊢
    simp only [show ¬ (1 : Int) = 0 by decide, if_false, if_true] at uN
    by_cases hN : N = 0
    · subst hN
      cases hb : wordB v.num with
      | true =>
        simp only [hb, decide_true, Bool.and_self] at uN hp
        simp [vmS, runC_nil, runC_cons, pickC_some, wantC_tt, wantC_tf, effC_val, ifC_true, checkC, inPairs, keepC, okC, readsC_load, readV_some, AV.beq_self, wantA_n, wantA_g, wantD_some, d0, c1, hlen, uN, unA, gl, ints, hki]
        generalize hc : iter _ _ _ _ = c
        rw [iter_succ] at hc
        simp [vmS] at hc
        subst hc
        simp [vmS]
        exact hp _ _ rfl
      | false =>
        simp only [hb, decide_true, Bool.false_and, Bool.and_false] at uN hp
        simp [vmS, runC_nil, runC_cons, pickC_some, wantC_tt, wantC_tf, effC_val, ifC_true, checkC, inPairs, keepC, okC, readsC_load, readV_some, AV.beq_self, wantA_n, wantA_g, wantD_some, d0, c1, hlen, uN, unA, gl, ints, hki]
        exact hp _ _ rfl
    · simp only [decide_eq_false hN, Bool.and_false, Bool.false_and] at uN hp
      simp [vmS, runC_nil, runC_cons, pickC_some, wantC_tt, wantC_tf, effC_val, ifC_true, checkC, inPairs, keepC, okC, readsC_load, readV_some, AV.beq_self, wantA_n, wantA_g, wantD_some, d0, c1, hlen, uN, unA, gl, ints, hki]
      exact hp _ _ rfl
  · simp only [decide_eq_false hk, Bool.false_and] at hp
    simp [vmS, runC_nil, runC_cons, pickC_some, wantC_tt, wantC_tf, effC_val, ifC_true, checkC, inPairs, keepC, okC, readsC_load, readV_some, AV.beq_self, wantA_n, wantA_g, wantD_some, d0, c1, hlen, unA, gl, ints, hki, hk]
    exact hp _ _ rfl

end Go.Proofs.YtpjcmiaanjcanaaGreatDoor

namespace Go.Proofs.YtpjcmiaanjcanaaGreatDoor
open Go Go.Vm Go.Vm.T
set_option maxRecDepth 100000
set_option linter.unusedSimpArgs false
set_option linter.unusedVariables false
attribute [local simp] inFrame startLoc startVals Loc.clear blockC Loc.putO Loc.put idx evO constV Loc.get Vm.look intA unwindA resultsA resultV actA pureA storeA loadA fillE repElems TI.zeroV fieldOf fieldAddrA fieldA elemsA retE cellsOf? setCells nowhere

set_option maxHeartbeats 4000000

theorem has_pair_ok {a b : Ty} (hab : (hasC [a, b]).Ok Tryz.prog ED) : (hasC [.pair a b]).Ok Tryz.prog ED := by
  refine Con.ok_at ED_ok ED_pers [numberC, hasC [a, b]] (by simpa using ⟨number_ok, hab⟩) (fun x _ => has_pers x) ?_
  rintro ⟨t, v⟩ ⟨ht, hv⟩
  have ht' : t = .pair a b := List.mem_singleton.1 ht
  subst ht'
  replace hv : v.fit := hv
  show ∃ n, ∀ p : FRes → St → Prop, (∀ r S', r.melt S' = .ret (.bool (isR (.pair a b) v)) → p r S') → GotF (callS ED (sumOf [numberC, hasC [a, b]]) n (.fn 52) [(Ty.pair a b).lay, v.enc] S0) p
  refine ⟨5, fun p hp => ?_⟩
  have hne : Ty.pair a b ∉ [a, b] := by
    intro h
    rcases List.mem_cons.1 h with h | h
    · exact Ty.pair_ne1 a b h
    · exact Ty.pair_ne2 a b (List.mem_singleton.1 h)
  rw [callS_fn' (has_not hne rfl)]
  have d0 := @dr52_0
  simp only [drA, drawsOf, Option.getD_some, List.nil_append, List.append_nil, List.getD_cons_zero, List.getD_cons_succ, List.cons_append, Tryz.f52] at d0
  have uN := fun (n : Nat) (S : St) => number_use (cs := [numberC, hasC [a, b]]) rfl (n := n) (S := S) hv
  have e := v.look
  obtain ⟨c1, c2, c3⟩ := v.cell
  have hlen := v.len
  have hidx := fun j (hj : j < v.kids.length) => v.index hj
  have hfk : ∀ x ∈ v.kids, x.fit := fun x hx => RV.fit_kid hv hx
  have hki := kd2
  simp only [isR] at hp
  unfold numberR at uN
  rw [e] at uN ⊢
  generalize v.lst = A at *
  have hpt0 : indexAddrA ED 115 (.slice [a.lay, b.lay] .dead) (.int .i64 0) = some (.rptr [a.lay]) := by cases a <;> rfl
  have hpt1 : indexAddrA ED 115 (.slice [a.lay, b.lay] .dead) (.int .i64 1) = some (.rptr [b.lay]) := by cases b <;> rfl
  have hw0 : IntKind.i64.wrap 1 = 1 := rfl
  have hw1 : IntKind.i64.wrap 2 = 2 := rfl
  simp only [Ty.lay]
  simp only [fnA, ED_fn52, fi52, Tryz.f52]
  by_cases hk : v.kind = 2
  · rw [hk] at hp uN ⊢
    simp only [show ¬ (2 : Int) = 0 by decide, show ¬ (2 : Int) = 1 by decide, if_false, if_true] at uN
    by_cases hz : v.num = 0
    · rw [hz] at hp uN ⊢
      generalize v.kids = l at *
      match l, hlen, hidx, hfk, hp, uN with
      | [x, y], hlen, hidx, hfk, hp, uN =>
        have i0 : indexAddrA ED 22 A (.int .i64 0) = some (.rptr x.enc.cells) := hidx 0 (by simp)
        have i1 : indexAddrA ED 22 A (.int .i64 1) = some (.rptr y.enc.cells) := hidx 1 (by simp)
        have h1 := fun (n : Nat) (S : St) => has_use (cs := [numberC, hasC [a, b]]) rfl (n := n) (S := S) (ts := [a, b]) (t := a) (v := x) (by simp) (hfk x (by simp))
        have h2 := fun (n : Nat) (S : St) => has_use (cs := [numberC, hasC [a, b]]) rfl (n := n) (S := S) (ts := [a, b]) (t := b) (v := y) (by simp) (hfk y (by simp))
        obtain ⟨y1, y2, y3⟩ := x.cell
        obtain ⟨z1, z2, z3⟩ := y.cell
        rw [x.look] at i0 h1
        rw [y.look] at i1 h2
        replace hlen : lenA ED 22 A = some (.int .i64 2) := hlen
        simp only [List.length_cons, List.length_nil, decide_true, Bool.and_self] at uN
        replace uN : ∀ (n : Nat) (S : St), callS ED (sumOf [numberC, hasC [a, b]]) n (.fn 83) [.agg [.int .i64 2, .int .i64 0, A]] S = some (.ret (.bool true), S) := uN
        simp [vmS, runC_nil, runC_cons, pickC_some, wantC_tt, wantC_tf, effC_val, ifC_true, checkC, inPairs, keepC, okC, readsC_load, readV_some, AV.beq_self, wantA_n, wantA_g, wantD_some, d0, c1, hlen, uN, unA, gl, ints, hki]
        generalize hc : iter _ _ _ _ = c
        rw [iter_succ] at hc
        cases hx : isR a x with
        | true =>
          rw [hx] at h1
          simp only [hx, decide_true, Bool.true_and] at hp
          simp [vmS, hlen, i0, hpt0, hpt1, h1, y1, y2, y3, unA, hw0] at hc
          rw [iter_succ] at hc
          cases hy : isR b y with
          | true =>
            rw [hy] at h2
            rw [hy] at hp
            simp [vmS, hlen, i1, hpt0, hpt1, h2, z1, z2, z3, unA, hw1] at hc
            rw [iter_succ] at hc
            simp [vmS] at hc
            subst hc
            simp [vmS]
            exact hp _ _ rfl
          | false =>
            rw [hy] at h2
            rw [hy] at hp
            simp [vmS, hlen, i1, hpt0, hpt1, h2, z1, z2, z3, unA, hw1] at hc
            subst hc
            simp [vmS]
            exact hp _ _ rfl
        | false =>
          rw [hx] at h1
          simp only [hx, decide_true, Bool.true_and, Bool.false_and] at hp
          simp [vmS, hlen, i0, hpt0, hpt1, h1, y1, y2, y3, unA, hw0] at hc
          subst hc
          simp [vmS]
          exact hp _ _ rfl
      | [], hlen, hidx, hfk, hp, uN =>
        simp only [List.length_nil, decide_true, Bool.true_and] at uN
        replace uN : ∀ (n : Nat) (S : St), callS ED (sumOf [numberC, hasC [a, b]]) n (.fn 83) [.agg [.int .i64 2, .int .i64 0, A]] S = some (.ret (.bool false), S) := uN
        simp [vmS, runC_nil, runC_cons, pickC_some, wantC_tt, wantC_tf, effC_val, ifC_true, checkC, inPairs, keepC, okC, readsC_load, readV_some, AV.beq_self, wantA_n, wantA_g, wantD_some, d0, c1, uN, unA, gl, ints, hki]
        exact hp _ _ (by simp [FRes.melt, AV.melt, AV.dead])
      | [x], hlen, hidx, hfk, hp, uN =>
        simp only [List.length_cons, List.length_nil, decide_true, Bool.true_and] at uN
        replace uN : ∀ (n : Nat) (S : St), callS ED (sumOf [numberC, hasC [a, b]]) n (.fn 83) [.agg [.int .i64 2, .int .i64 0, A]] S = some (.ret (.bool false), S) := uN
        simp [vmS, runC_nil, runC_cons, pickC_some, wantC_tt, wantC_tf, effC_val, ifC_true, checkC, inPairs, keepC, okC, readsC_load, readV_some, AV.beq_self, wantA_n, wantA_g, wantD_some, d0, c1, uN, unA, gl, ints, hki]
        exact hp _ _ (by simp [FRes.melt, AV.melt, AV.dead])
      | x :: y :: w :: r, hlen, hidx, hfk, hp, uN =>
        have h3 : decide ((x :: y :: w :: r).length = 2) = false := decide_eq_false (by simp)
        simp only [h3, decide_true, Bool.true_and] at uN
        simp [vmS, runC_nil, runC_cons, pickC_some, wantC_tt, wantC_tf, effC_val, ifC_true, checkC, inPairs, keepC, okC, readsC_load, readV_some, AV.beq_self, wantA_n, wantA_g, wantD_some, d0, c1, uN, unA, gl, ints, hki]
        exact hp _ _ (by simp [FRes.melt, AV.melt, AV.dead])
    · simp only [decide_eq_false hz, Bool.false_and, decide_true, Bool.and_false] at uN hp
      simp [vmS, runC_nil, runC_cons, pickC_some, wantC_tt, wantC_tf, effC_val, ifC_true, checkC, inPairs, keepC, okC, readsC_load, readV_some, AV.beq_self, wantA_n, wantA_g, wantD_some, d0, c1, uN, unA, gl, ints, hki]
      exact hp _ _ rfl
  · simp only [decide_eq_false hk, Bool.false_and] at hp
    simp [vmS, runC_nil, runC_cons, pickC_some, wantC_tt, wantC_tf, effC_val, ifC_true, checkC, inPairs, keepC, okC, readsC_load, readV_some, AV.beq_self, wantA_n, wantA_g, wantD_some, d0, c1, unA, gl, ints, hki, hk]
    exact hp _ _ rfl

theorem has_seq_ok {a : Ty} (ha : (hasC [a]).Ok Tryz.prog ED) : (hasC [.seq a]).Ok Tryz.prog ED := by
  refine Con.ok_at ED_ok ED_pers [numberC, hasC [a]] (by simpa using ⟨number_ok, ha⟩) (fun x _ => has_pers x) ?_
  rintro ⟨t, v⟩ ⟨ht, hv⟩
  have ht' : t = .seq a := List.mem_singleton.1 ht
  subst ht'
  replace hv : v.fit := hv
  show ∃ n, ∀ p : FRes → St → Prop, (∀ r S', r.melt S' = .ret (.bool (isR (.seq a) v)) → p r S') → GotF (callS ED (sumOf [numberC, hasC [a]]) n (.fn 52) [(Ty.seq a).lay, v.enc] S0) p
  refine ⟨v.kids.length + 3, fun p hp => ?_⟩
  have hne : Ty.seq a ∉ [a] := fun h => Ty.seq_ne a (List.mem_singleton.1 h)
  rw [callS_fn' (has_not hne rfl)]
  have d0 := @dr52_0
  simp only [drA, drawsOf, Option.getD_some, List.nil_append, List.append_nil, List.getD_cons_zero, List.getD_cons_succ, List.cons_append, Tryz.f52] at d0
  have uN := fun (n : Nat) (S : St) => number_use (cs := [numberC, hasC [a]]) rfl (n := n) (S := S) hv
  have e := v.look
  obtain ⟨c1, c2, c3⟩ := v.cell
  have hlen := v.len
  have hidx := fun j (hj : j < v.kids.length) => v.index hj
  have hmx := RV.fit_len hv
  have hi := fun (n : Nat) (S : St) (j : Nat) (hj : j < v.kids.length) => has_use (cs := [numberC, hasC [a]]) rfl (n := n) (S := S) (ts := [a]) (t := a) (v := v.kids[j]) (by simp) (RV.fit_kid hv (List.getElem_mem hj))
  have hki := kd4
  simp only [isR] at hp
  unfold numberR at uN
  rw [e] at uN ⊢
  generalize v.lst = A at *
  generalize v.kids = l at *
  have hlt : (l.length : Int) < 9223372036854775808 := by unfold maxLen at hmx; omega
  have hpt0 : indexAddrA ED 115 (.slice [a.lay] .dead) (.int .i64 0) = some (.rptr [a.lay]) := by cases a <;> rfl
  simp only [Ty.lay]
  simp only [fnA, ED_fn52, fi52, Tryz.f52]
  by_cases hk : v.kind = 4
  · rw [hk] at hp uN ⊢
    simp only [show ¬ (4 : Int) = 0 by decide, show ¬ (4 : Int) = 1 by decide, show ¬ (4 : Int) = 2 by decide, show ¬ (4 : Int) = 3 by decide, if_false, if_true] at uN
    by_cases hz : v.num = 0
    · rw [hz] at hp uN ⊢
      simp only [decide_true, Bool.true_and] at hp uN
      simp [vmS, runC_nil, runC_cons, pickC_some, wantC_tt, wantC_tf, effC_val, ifC_true, checkC, inPairs, keepC, okC, readsC_load, readV_some, AV.beq_self, wantA_n, wantA_g, wantD_some, d0, c1, hlen, uN, unA, gl, ints, hki]
      generalize hR : AV.rptr [.int .i64 2, .int .i64 (a.regs.1 + a.regs.2), .int .i64 4, .slice [a.lay] .dead] = R at *
      generalize hc : iter _ _ _ _ = c
      obtain ⟨e1, L1, S1, rfl, hq⟩ := loop_of hc
        (fun r L S => ∃ j a5 a6 a7 sc, j + r = l.length ∧ (l.drop j).all (isR a) = l.all (isR a) ∧ L = vloc [R, .agg [.int .i64 4, .int .i64 0, A], .ptr 0 0, .bool false, a5, a6, a7, A, .int .i64 l.length, .int .i64 (j : Nat)] sc ∧
          S.cells? 0 = some [.int .i64 4, .int .i64 0, A])
        (fun e L S => ∃ a5 a6 a7 a25 sc, L = vloc [R, .agg [.int .i64 4, .int .i64 0, A], .ptr 0 0, .bool false, a5, a6, a7, A, .int .i64 l.length, a25] sc ∧ ((e = .exit 0 ∧ l.all (isR a) = true) ∨ (e = .ret ∧ l.all (isR a) = false)))
        l.length (by omega)
        ⟨0, _, _, _, _, by simp, rfl, rfl, by simp [push_at, put_at, n_push', n_put', cellsOf?]⟩
        (by
          rintro r L S ⟨j, a5, a6, a7, sc, hjk, hs, rfl, h0⟩ q hq1 hq2
          by_cases hj : j < l.length
          · have hw : IntKind.i64.wrap ((j : Int) + 1) = ((j : Int) + 1) := wrap_id (by omega) (by omega)
            have x1 := hidx j hj
            have x2 := fun n S => hi n S j hj
            rw [drop_kid hj, List.all_cons] at hs
            generalize l[j] = x at *
            obtain ⟨y1, y2, y3⟩ := x.cell
            rw [x.look] at x1 x2
            have hbx := cells_box (o := .cells [.int .i64 0, .int .i64 0, .nils]) (o' := .cells [.int .i64 x.kind, .int .i64 x.num, x.lst]) h0
            subst hR
            cases hx : isR a x with
            | true =>
              rw [hx] at x2 hs
              simp [vmS, vloc, h0, hlen, hj, x1, x2, hpt0, y1, y2, y3, unA, hw]
              exact hq1 (r - 1) _ _ (by omega) ⟨j + 1, _, _, _, _, by omega, by simpa using hs, rfl, hbx⟩
            | false =>
              rw [hx] at x2 hs
              simp [vmS, vloc, h0, hlen, hj, x1, x2, hpt0, y1, y2, y3, unA]
              exact hq2 _ _ _ (by simp) ⟨_, _, _, _, _, rfl, .inr ⟨rfl, by simpa using hs.symm⟩⟩
          · have hjl : j = l.length := by omega
            subst hjl
            rw [List.drop_length] at hs
            simp [vmS, vloc]
            exact hq2 _ _ _ (by simp) ⟨_, _, _, _, _, rfl, .inl ⟨rfl, by simpa using hs.symm⟩⟩)
      obtain ⟨a5, a6, a7, a25, sc, rfl, ⟨rfl, h3⟩ | ⟨rfl, h3⟩⟩ := hq
      · rw [h3] at hp
        simp [vmS, vloc]
        exact hp _ _ rfl
      · rw [h3] at hp
        simp [vmS, vloc]
        exact hp _ _ rfl
    · simp only [decide_eq_false hz, Bool.false_and, decide_true, Bool.and_false] at uN hp
      simp [vmS, runC_nil, runC_cons, pickC_some, wantC_tt, wantC_tf, effC_val, ifC_true, checkC, inPairs, keepC, okC, readsC_load, readV_some, AV.beq_self, wantA_n, wantA_g, wantD_some, d0, c1, uN, unA, gl, ints, hki]
      exact hp _ _ rfl
  · simp only [decide_eq_false hk, Bool.false_and] at hp
    simp [vmS, runC_nil, runC_cons, pickC_some, wantC_tt, wantC_tf, effC_val, ifC_true, checkC, inPairs, keepC, okC, readsC_load, readV_some, AV.beq_self, wantA_n, wantA_g, wantD_some, d0, c1, unA, gl, ints, hki, hk]
    exact hp _ _ rfl

theorem has_ok : ∀ t : Ty, (hasC [t]).Ok Tryz.prog ED
  | .num => has_num_ok
  | .seq a => has_seq_ok (has_ok a)
  | .pair a b => has_pair_ok (has_cons (has_ok a) (has_ok b))
theorem has_all : ∀ ts : List Ty, (hasC ts).Ok Tryz.prog ED
  | [] => ⟨fun x hx => absurd hx.1 (by simp), fun x hx => absurd hx.1 (by simp)⟩
  | t :: ts => has_cons (has_ok t) (has_all ts)

end Go.Proofs.YtpjcmiaanjcanaaGreatDoor
