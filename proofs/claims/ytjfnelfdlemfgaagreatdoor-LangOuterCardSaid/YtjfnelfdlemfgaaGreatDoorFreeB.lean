/-
How a node is searched for them. No conditions.
-/
import Derived.Test.YtjfnelfdlemfgaaGreatDoorFreeA
set_option linter.all false
set_option maxHeartbeats 4000000
namespace Go.Vm.L
open Go Go.Proofs Go.Vm
set_option maxRecDepth 100000
attribute [local simp] inFrame startLoc startVals Loc.clear blockC Loc.putO Loc.put idx evO constV Loc.get Vm.look intA unwindA resultsA resultV actA pureA storeA loadA fillE repElems TI.zeroV fieldOf fieldAddrA fieldA elemsA retE cellsOf? setCells nowhere mapHead headNext
def bound2G (a : List AV) : Option FRes := match boundN a with
 | some r => some r
 | none => boundG a
theorem bound2_ok : FOk 104 bound2G := or_ok boundN_ok bound_ok
theorem iv_cell {v : AV} {zs : List Int} (h : ivOf v = some zs) : v.isCell = true ∧ v.known = true ∧ v.cells = [v] ∧ v.dead = v := by
 unfold ivOf at h
 split at h
 ·exact ⟨rfl, rfl, rfl, rfl⟩
 ·rename_i es
  rw [intsOf_eq h]
  exact ⟨rfl, rfl, rfl, by simp [AV.dead, ints_dead]⟩
 ·cases h
theorem bound2_use {l : Sm} (h : sumG l 104 = bound2G) {m : Nat} {p0 b1 b2 op n mm p : Int} {f : FuncId} {v : AV} {zs : List Int} {x : AV} {S : St} (hv : ivOf v = some zs) (hl : zs.length ≤ 1000) (hp : 0 ≤ p) (hx : x.pers = true) (hc : x.isCell = true) :
  callS ED (sumG l) m (.fn 104) [.agg [.int .i64 p0, .fn f [] [], .int .i64 b1, .int .i64 b2], v, .agg [.int .i64 op, .int .i64 n, .int .i64 mm, x], .int .i64 p] S = some (.ret (.slice (ints (boundL b1 b2 p zs n mm)) .dead), S) := by
 have hd : x.dead = x := dead_of_pers _ hx
 have hvd := (iv_cell hv).2.2.2
 refine callS_sum ?_
 rw [h]
 unfold ivOf at hv
 split at hv
 ·cases hv
  simp [AV.dead, AV.deadL, hd, bound2G, boundN, hp, hx, hc]
 ·rename_i es
  have he := intsOf_eq hv
  subst he
  simp [ints_dead, AV.dead, AV.deadL, hd, bound2G, boundN, boundG, intsOf_ints, hl, hp, hx, hc]
 ·cases hv
def LF : Sm := [(103, contains2G), (104, bound2G), (101, formsG)]
theorem LF_ok : ∀ x ∈ LF, FOk x.1 x.2 := by
 intro x hx
 simp only [LF, List.mem_cons, List.mem_nil_iff, or_false] at hx
 rcases hx with rfl | rfl | rfl
 ·exact contains2_ok
 ·exact bound2_ok
 ·exact forms_ok
theorem LV.keep {S S' : St} {v : AV} {L : List Int} (h : LV S v L) (hk : ∀ k, k < S.n → ((∃ zs, S.get k = some (.cells (ints zs))) ∨ ∃ b, S.get k = some (.tok b)) → S'.get k = S.get k) : LV S' v L := by
 rcases h with h | ⟨id, h1, h2, h3, h4⟩
 ·exact .inl h
 ·have g2 := cells?_inv h2
  refine .inr ⟨id, h1, ?_, (hk _ (St.get_lt h3) (.inr ⟨_, h3⟩)).trans h3, h4⟩
  rw [cells?_def, hk _ (St.get_lt g2) (.inl ⟨_, g2⟩), ← cells?_def]
  exact h2
theorem LV.contains {S : St} {v : AV} {L : List Int} (h : LV S v L) (hcl : Cl S) (hlen : L.length ≤ 1000000) {n : Nat} (hn : 1000004 ≤ n) (z : Int) :
  callS ED (sumG LF) n (.fn 103) [v, .int .i64 z] S = some (.ret (.bool (L.contains z)), S) := by
 rcases h with ⟨rfl, rfl⟩ | ⟨id, rfl, h2, h3, h4⟩
 ·exact contains2_use rfl rfl (by simp)
 ·exact contains_obj (l := LF) (fun _ _ _ => rfl) (fun _ _ _ => rfl) hcl h2 hlen (by omega)
theorem int_not {zs : List Int} {cs : List AV} {v : AV} (hv : v ∈ cs) (hn : ∀ z, v ≠ .int .i64 z) : cs ≠ ints zs := fun e => by
 subst e
 obtain ⟨z, _, h⟩ := List.mem_map.1 hv
 exact hn z h.symm
/-- all but the list that is gathered is as it was -/
def Keep2 (S S' : St) : Prop := S.n ≤ S'.n ∧ ∀ k, k < S.n → k ≠ 1 → (∀ b, S.get k ≠ some (.tok b)) → (∀ zs, S.get k ≠ some (.cells (ints zs))) → S'.get k = S.get k
theorem Keep2.refl (S : St) : Keep2 S S := ⟨Nat.le_refl _, fun _ _ _ _ _ => rfl⟩
theorem Keep2.trans {S S' S'' : St} (h : Keep2 S S') (k : Keep2 S' S'') : Keep2 S S'' :=
 ⟨Nat.le_trans h.1 k.1, fun j hj h1 h2 h3 => by
  have e := h.2 j hj h1 h2 h3
  exact (k.2 j (Nat.lt_of_lt_of_le hj h.1) h1 (fun b => by rw [e]; exact h2 b) (fun zs => by rw [e]; exact h3 zs)).trans e⟩
theorem Keep2.cells {S S' : St} (h : Keep2 S S') {k : Nat} {cs : List AV} (h1 : k ≠ 1) (hn : ∀ zs, cs ≠ ints zs) (hc : S.cells? k = some cs) : S'.cells? k = some cs := by
 have hg := cells?_inv hc
 rw [cells?_def, h.2 k (St.get_lt hg) h1 (not_tok hc) (fun zs e => by rw [hg] at e; cases e; exact hn zs rfl), ← cells?_def]
 exact hc
theorem Keep2.of {S S' : St} (hn : S.n ≤ S'.n) (h : ∀ k, k < S.n → S'.get k = S.get k) : Keep2 S S' := ⟨hn, fun k hk _ _ _ => h k hk⟩
def ffn : AV := .fn 102 [] [.ptr 1 0, .ptr 3 0, .ptr 2 0]
structure WF (S : St) (L : List Int) : Prop where
 cl : Cl S
 n4 : 4 ≤ S.n
 c1 : ∃ v, S.cells? 1 = some [v] ∧ LV S v L
 c2 : S.cells? 2 = some formCells
 c3 : S.cells? 3 = some [ffn]
theorem forms_not (zs : List Int) : formCells ≠ ints zs := by
 have h : AV.fn 89 [] [] ∈ formCells := by
  refine List.mem_flatMap.2 ⟨(0, 89, 0, 0), by decide +kernel, ?_⟩
  simp [formV]
 exact int_not h (fun z e => by cases e)
theorem ffn_not (zs : List Int) : [ffn] ≠ ints zs := int_not (v := ffn) (by simp) (fun z e => by cases e)
theorem lv_not {S : St} {v : AV} {L : List Int} (h : LV S v L) (zs : List Int) : [v] ≠ ints zs := by
 refine int_not (v := v) (by simp) fun z => ?_
 rcases h with ⟨rfl, _⟩ | ⟨id, rfl, _⟩ <;> exact fun e => by cases e
theorem lst_not {o n m : Int} (e : Ex) (zs : List Int) : [.int .i64 o, .int .i64 n, .int .i64 m, e.lst] ≠ ints zs := by
 refine int_not (v := e.lst) (by simp) fun z => ?_
 cases e with
 | leaf o n m b => cases b <;> exact fun e => by cases e
 | node o n m x l => exact fun e => by cases e
/-- memory that is more, the old as it was -/
theorem WF.more {S S' : St} {L : List Int} (W : WF S L) (hc : Cl S') (hn : S.n ≤ S'.n) (h : ∀ k, k < S.n → S'.get k = S.get k) : WF S' L := by
 obtain ⟨h1, h2, ⟨v, h3, h4⟩, h5, h6⟩ := W
 have c : ∀ i cs, i < S.n → S.cells? i = some cs → S'.cells? i = some cs := fun i cs hi hc => by
  rw [cells?_def, h i hi, ← cells?_def]
  exact hc
 exact ⟨hc, by omega, ⟨v, c _ _ (by omega) h3, h4.keep fun k hk _ => h k hk⟩, c _ _ (by omega) h5, c _ _ (by omega) h6⟩
theorem WF.cell {S : St} {L : List Int} (W : WF S L) (zs xs : List AV) :
  WF ((S.push (.cells zs)).put S.n (.cells xs)) L ∧ Keep2 S ((S.push (.cells zs)).put S.n (.cells xs)) ∧ ((S.push (.cells zs)).put S.n (.cells xs)).cells? S.n = some xs := by
 have h : ∀ k, k < S.n → ((S.push (.cells zs)).put S.n (.cells xs)).get k = S.get k := fun k hk => by
  rw [St.get_put_ne _ _ _ (by omega), get_push_lt _ _ hk]
 exact ⟨W.more (Cl.put (Cl.push W.cl _) _ _) (by rw [n_put', n_push']; omega) h, Keep2.of (by rw [n_put', n_push']; omega) h, cells?_put_push _ _ _⟩
theorem WF.box {S : St} {L : List Int} (W : WF S L) (xs : List AV) :
  WF (S.push (.cells xs)) L ∧ Keep2 S (S.push (.cells xs)) ∧ (S.push (.cells xs)).cells? S.n = some xs := by
 have h : ∀ k, k < S.n → (S.push (.cells xs)).get k = S.get k := fun k hk => get_push_lt _ _ hk
 exact ⟨W.more (Cl.push W.cl _) (by rw [n_push']; omega) h, Keep2.of (by rw [n_push']; omega) h, cells?_push_self _ _⟩
/-- one more is found -/
theorem WF.add {S : St} {L : List Int} (W : WF S L) (hlen : L.length ≤ 1000000) (z : Int) : ∃ v v' S', S.cells? 1 = some [v] ∧ LV S v L ∧ appendA ED S 3 v [.int .i64 z] = some (v', S') ∧ Cl S' ∧ S'.cells? 1 = some [v] ∧
  (v'.isCell = true ∧ v'.known = true ∧ v'.cells = [v']) ∧ WF (S'.put 1 (.cells [v'])) (L ++ [z]) ∧ Keep2 S (S'.put 1 (.cells [v'])) := by
 obtain ⟨h1, h2, ⟨v, h3, h4⟩, h5, h6⟩ := W
 obtain ⟨v', S', ha, hl, hn, hcl, hk⟩ := h4.app hlen h1 z
 have c : ∀ i cs, (∀ zs, cs ≠ ints zs) → S.cells? i = some cs → S'.cells? i = some cs := fun i cs hi hc => by
  have hg := cells?_inv hc
  rw [cells?_def, hk i (St.get_lt hg) (not_tok hc) (fun zs e => by rw [hg] at e; cases e; exact hi zs rfl), ← cells?_def]
  exact hc
 have k1 := c 1 _ (lv_not h4) h3
 have l1 := St.get_lt (cells?_inv k1)
 refine ⟨v, v', S', h3, h4, ha, hcl, k1, hl.cell, ⟨Cl.put hcl _ _, by rw [n_put']; omega, ⟨v', ?_, hl.keep fun k hk hz => ?_⟩, ?_, ?_⟩, ⟨by rw [n_put']; omega, fun k hkn hk1 ht hz => ?_⟩⟩
 ·exact cells?_put_self _ _ _ l1
 ·refine get_put_ne fun e => ?_
  subst e
  have g1 := cells?_inv k1
  rcases hz with ⟨zs, hz⟩ | ⟨b, hz⟩
  ·have e := Option.some.inj (g1.symm.trans hz)
   injection e with e
   exact lv_not h4 zs e
  ·rw [g1] at hz
   cases hz
 ·rw [cells?_put_ne _ _ _ (by decide)]
  exact c 2 _ forms_not h5
 ·rw [cells?_put_ne _ _ _ (by decide)]
  exact c 3 _ ffn_not h6
 ·rw [get_put_ne hk1]
  exact hk k hkn ht hz
def Runs102 (e : Ex) (n : Nat) : Prop :=
 ∀ (S : St) (L vars : List Int) (v : AV), WF S L → ivOf v = some vars → vars.length + 2 * e.deep ≤ 1000 → L.length + e.size ≤ 1000000 → ∀ p : FRes → St → Prop,
  (∀ S', WF S' (addsF L (e.occ vars)) → Keep2 S S' → p (.ret (.tup [])) S') →
   GotF (callS ED (sumG LF) n (.fn 102) [e.enc, v, .ptr 1 0, .ptr 3 0, .ptr 2 0] S) p
theorem addF_not {L : List Int} {z : Int} (h : L.contains z = false) : addF L z = L ++ [z] := by
 unfold addF
 rw [if_neg (by rw [h]; simp)]
theorem addF_has {L : List Int} {z : Int} (h : L.contains z = true) : addF L z = L := if_pos h
theorem free_step {e : Ex} (he : e.fit) (hok : e.fvOk) {n : Nat} (hn : e.kids.length + 2 ≤ n) (hn2 : 1000004 ≤ n) (hkids : ∀ x ∈ e.kids, Runs102 x n) : Runs102 e (n + 1) := by
 intro S L vars v W hv hvl hL p hp
 rw [callS_go rfl]
 obtain ⟨v1, v2, v3, v4⟩ := iv_cell hv
 have hlen := e.len
 have hidx := fun j (hj : j < e.kids.length) => e.index hj
 obtain ⟨hc1, hc2, hc3⟩ := e.cell
 have hlp := e.lst_pers
 have hmx := Ex.fit_len he
 have hocc := e.occ_kids vars
 have hsz := e.size_kids
 have hdk := fun x (hx : x ∈ e.kids) => Ex.deep_kid hx
 have hnot := fun (o n m : Int) (zs : List Int) => lst_not (o := o) (n := n) (m := m) e zs
 obtain ⟨⟨⟨ho1, ho2⟩, _, ⟨parts, f0, b1, b2⟩, hform0, hbnd⟩, _⟩ := (Ex.fvOk_kids e).1 hok
 simp only [e.look]
 generalize hl : e.kids = l at *
 generalize e.lst = A at *
 generalize e.op = o at *
 generalize e.num = N at *
 generalize e.mun = M at *
 obtain ⟨oN, rfl⟩ : ∃ oN : Nat, o = oN := ⟨o.toNat, by omega⟩
 have ho : oN < 27 := by omega
 rw [Int.toNat_natCast] at hform0
 obtain ⟨parts', f, b1', b2', hform, hcells, hf, hext, hpa, hpb⟩ := formT_at ho
 obtain ⟨rfl, rfl, rfl, rfl⟩ : parts = parts' ∧ f0 = f ∧ b1 = b1' ∧ b2 = b2' := by
  have := Option.some.inj (hform0.symm.trans hform)
  simpa using this
 simp only at hbnd
 have ia : indexAddrA ED 133 (.ptr 2 0) (.int .i64 (oN : Nat)) = some (.ptr 2 (oN * 4)) := by
  have : (0 : Int) ≤ (oN : Int) ∧ (oN : Int) < 27 := by omega
  simp [indexAddrA, this, ho]
 have hfl : oN * 4 + 4 ≤ formCells.length := by rw [forms_length]; omega
 obtain ⟨wa, ka, ca⟩ := W.box [.int .i64 (oN : Int), .int .i64 N, .int .i64 M, A]
 have hS1 : (1 = S.n) = False := by have := W.n4; simp; omega
 have hS1' : (S.n = 1) = False := by have := W.n4; simp; omega
 have hWcl := W.cl
 obtain ⟨x1, x2⟩ := hWcl
 have H : ∃ (Ta T T1 : St) (L1 : List Int) (w w' : AV), S.push (.cells [.int .i64 (oN : Int), .int .i64 N, .int .i64 M, A]) = Ta ∧ (Ta.bad = false ∧ Ta.wb = 0) ∧ Ta.cells? S.n = some [.int .i64 (oN : Int), .int .i64 N, .int .i64 M, A] ∧ Ta.cells? 1 = some [w] ∧ (w.isCell = true ∧ w.known = true ∧ w.cells = [w]) ∧
   WF T L1 ∧ Keep2 S T ∧ T.cells? S.n = some [.int .i64 (oN : Int), .int .i64 N, .int .i64 M, A] ∧ L1 = addsF L (if (oN : Int) = 0 ∧ vars.contains N = false then [N] else []) ∧ L1.length ≤ L.length + 1 ∧
   (((oN = 0) = False ∧ ((oN : Int) = 0) = False ∧ Ta.wb = 0 ∧ Ta.wb = 0 ∧ Ta.wb = 0 ∧ Ta.wb = 0 ∧ Ta.wb = 0 ∧ T = Ta) ∨
    ((oN = 0) = True ∧ ((oN : Int) = 0) = True ∧ (∀ m S, callS ED (sumG LF) m (.fn 103) [v, .int .i64 N] S = some (.ret (.bool true), S)) ∧ Ta.wb = 0 ∧ Ta.wb = 0 ∧ Ta.wb = 0 ∧ Ta.wb = 0 ∧ T = Ta) ∨
    ((oN = 0) = True ∧ ((oN : Int) = 0) = True ∧ (∀ m S, callS ED (sumG LF) m (.fn 103) [v, .int .i64 N] S = some (.ret (.bool false), S)) ∧ callS ED (sumG LF) n (.fn 103) [w, .int .i64 N] Ta = some (.ret (.bool true), Ta) ∧ Ta.wb = 0 ∧ Ta.wb = 0 ∧ Ta.wb = 0 ∧ T = Ta) ∨
    ((oN = 0) = True ∧ ((oN : Int) = 0) = True ∧ (∀ m S, callS ED (sumG LF) m (.fn 103) [v, .int .i64 N] S = some (.ret (.bool false), S)) ∧ callS ED (sumG LF) n (.fn 103) [w, .int .i64 N] Ta = some (.ret (.bool false), Ta) ∧
     appendA ED Ta 3 w [.int .i64 N] = some (w', T1) ∧ T1.put 1 (.cells [w']) = T ∧ (T1.bad = false ∧ T1.wb = 0 ∧ T1.cells? 1 = some [w] ∧ w'.isCell = true ∧ w'.known = true ∧ w'.cells = [w']) ∧ Ta.wb = 0)) := by
  have wa' := wa
  obtain ⟨a1, a2, ⟨w, a3, a4⟩, a5, a6⟩ := wa'
  generalize hTa : S.push (.cells [.int .i64 (oN : Int), .int .i64 N, .int .i64 M, A]) = Ta at *
  have cu := fun m S => contains2_use (l := LF) rfl (n := m) (v := v) (zs := vars) (z := N) (S := S) (by rw [v4]; exact hv) (by omega)
  have lc := a4.contains a1 (by omega) hn2 N
  have hwc := a4.cell
  by_cases h0 : oN = 0
  ·have h0' : (oN : Int) = 0 := by omega
   cases hcv : vars.contains N with
   | true =>
    rw [hcv] at cu
    exact ⟨Ta, Ta, Ta, L, w, w, rfl, a1, ca, a3, hwc, wa, ka, ca, by rw [if_neg (by simp)]; rfl, by omega, .inr (.inl ⟨eq_true h0, eq_true h0', cu, a1.2, a1.2, a1.2, a1.2, rfl⟩)⟩
   | false =>
    rw [hcv] at cu
    have hhd : (if (oN : Int) = 0 ∧ (false : Bool) = false then [N] else []) = [N] := if_pos ⟨h0', rfl⟩
    cases hcl : L.contains N with
    | true =>
     rw [hcl] at lc
     exact ⟨Ta, Ta, Ta, L, w, w, rfl, a1, ca, a3, hwc, wa, ka, ca, by rw [hhd]; exact (addF_has hcl).symm, by omega, .inr (.inr (.inl ⟨eq_true h0, eq_true h0', cu, lc, a1.2, a1.2, a1.2, rfl⟩))⟩
    | false =>
     rw [hcl] at lc
     obtain ⟨w2, w', T1, b1, b2, b3, b4, b5, b6, b7, b8⟩ := wa.add (by omega) N
     have hww : w2 = w := by
      have := b1.symm.trans a3
      simpa using this
     subst hww
     exact ⟨Ta, T1.put 1 (.cells [w']), T1, L ++ [N], w2, w', rfl, a1, ca, a3, hwc, b7, ka.trans b8, b8.cells (by have := W.n4; omega) (hnot _ _ _) ca, by rw [hhd]; exact (addF_not hcl).symm, by simp, .inr (.inr (.inr ⟨eq_true h0, eq_true h0', cu, lc, b3, rfl, ⟨b4.1, b4.2, b5, b6⟩, a1.2⟩))⟩
  ·have h0' : ¬ (oN : Int) = 0 := by omega
   exact ⟨Ta, Ta, Ta, L, w, w, rfl, a1, ca, a3, hwc, wa, ka, ca, by rw [if_neg (fun q => h0' q.1)]; rfl, by omega, .inl ⟨eq_false h0, eq_false h0', a1.2, a1.2, a1.2, a1.2, a1.2, rfl⟩⟩
 obtain ⟨Ta, T, T1, L1, w, w', hTa, hTc, hTn, hT1, hwc, k1, k2, k4, hL1, hL1l, H⟩ := H
 rw [hocc, addsF_app, ← hL1] at hp
 simp only [fnA, ED_fn102, fi102, Tryz.f102]
 rcases H with ⟨f1, f2, f3, f4, f5, f6, f7, rfl⟩ | ⟨f1, f2, f3, f4, f5, f6, f7, rfl⟩ | ⟨f1, f2, f3, f4, f5, f6, f7, rfl⟩ | ⟨f1, f2, f3, f4, f5, f6, f7, f8⟩ <;>
 ·simp [vmS, x1, x2, hTa, hTc, hTn, hT1, hwc, v1, v2, v3, hc1, hc2, hc3, hlen, unA, f1, f2, f3, f4, f5, f6, f7, k1.cl.1, k1.cl.2, k4]
  have d0 := @dr102_0
  simp only [drA, drawsOf, Option.getD_some, List.nil_append, List.append_nil, List.getD_cons_zero, List.getD_cons_succ, List.cons_append, Tryz.f102] at d0
  generalize hc : iter _ _ _ _ = c
  generalize hR : addsF L1 (Ex.occs (oN : Int) N M l 0 vars) = R at hp
  obtain ⟨ex, L2, S1, rfl, hq⟩ := loop_of hc
   (fun r L' S' => ∃ (j : Nat) (Lj : List Int) (x y : AV) (sc : List (Tmp × AV)), j + r = l.length ∧ addsF Lj (Ex.occs (oN : Int) N M (l.drop j) j vars) = R ∧ Lj.length + Ex.sizes (l.drop j) ≤ 1000000 ∧
    L' = vloc [.agg [.int .i64 (oN : Int), .int .i64 N, .int .i64 M, A], v, .ptr 1 0, .ptr 3 0, .ptr 2 0, .ptr S.n 0, x, y, A, .int .i64 l.length, .int .i64 (j : Nat)] sc ∧ WF S' Lj ∧ Keep2 T S')
   (fun e L' S' => e = .exit 0 ∧ ∃ (x y z : AV) (sc : List (Tmp × AV)), L' = vloc [.agg [.int .i64 (oN : Int), .int .i64 N, .int .i64 M, A], v, .ptr 1 0, .ptr 3 0, .ptr 2 0, .ptr S.n 0, x, y, A, .int .i64 l.length, z] sc ∧ WF S' R ∧ Keep2 T S')
   l.length (by omega)
   ⟨0, L1, _, _, _, by simp, by rw [← hR]; rfl, by rw [List.drop_zero]; omega, rfl, k1, Keep2.refl T⟩
   (by
    rintro r L' S' ⟨j, Lj, x, y, sc, hjk, hs, hLj, rfl, W', O'⟩ q hq1 hq2
    have W1 := W'
    obtain ⟨⟨wb1, wb2⟩, wn, _, w2, w3⟩ := W1
    have t1 := O'.cells (k := S.n) (by have := W.n4; omega) (hnot _ _ _) k4
    by_cases hj : j < l.length
    ·have hwj : IntKind.i64.wrap ((j : Int) + 1) = ((j : Int) + 1) := wrap_id (by omega) (by unfold maxLen at hmx; omega)
     have hix := hidx j hj
     have hmem : l[j] ∈ l := List.getElem_mem hj
     rw [drop_kid hj] at hs hLj
     simp only [Ex.occs] at hs
     simp only [Ex.sizes] at hLj
     rw [addsF_app] at hs
     have hrun := hkids l[j] hmem
     have hdj := hdk l[j] hmem
     generalize l[j] = xk at *
     have xl := xk.look
     obtain ⟨g1, g2, g3⟩ := xk.cell
     rw [xl] at hix
     obtain ⟨s1, s2, s4⟩ := W'.cell [.int .i64 0, .int .i64 0, .int .i64 0, .nils] [.int .i64 xk.op, .int .i64 xk.num, .int .i64 xk.mun, xk.lst]
     have bu := fun m S => bound2_use (l := LF) rfl (m := m) (p0 := parts) (b1 := b1) (b2 := b2) (op := (oN : Int)) (n := N) (mm := M) (p := (j : Nat)) (f := f0) (x := A) (S := S) hv (by omega) (by omega) hlp hc1
     rw [hbnd j vars hj] at bu
     have bl := withL_len vars (binderI (oN : Int) N M (j : Nat))
     generalize hS2 : (S'.push (.cells [.int .i64 0, .int .i64 0, .int .i64 0, .nils])).put S'.n (.cells [.int .i64 xk.op, .int .i64 xk.num, .int .i64 xk.mun, xk.lst]) = S2 at *
     obtain ⟨r3, S3, hcall, rfl, W3, O3⟩ := gotF_iff.1 (hrun S2 Lj (withL vars (binderI (oN : Int) N M (j : Nat))) (.slice (ints (withL vars (binderI (oN : Int) N M (j : Nat)))) .dead) s1 (intsOf_ints _) (by omega) (by omega)
      (fun r S3 => r = .ret (.tup []) ∧ WF S3 (addsF Lj (xk.occ (withL vars (binderI (oN : Int) N M (j : Nat))))) ∧ Keep2 S2 S3) (fun S3 h1 h2 => ⟨rfl, h1, h2⟩))
     rw [xl] at hcall
     have s1' := s1
     obtain ⟨⟨u1, u2⟩, un, _, uu2, u3⟩ := s1'
     have tv1 := s2.cells (k := S.n) (by have := W.n4; omega) (hnot _ _ _) t1
     have hln : (addsF Lj (xk.occ (withL vars (binderI (oN : Int) N M (j : Nat))))).length + Ex.sizes (l.drop (j + 1)) ≤ 1000000 := by
      have a1 := addsF_len (xk.occ (withL vars (binderI (oN : Int) N M (j : Nat)))) Lj
      have a2 := xk.occ_len (withL vars (binderI (oN : Int) N M (j : Nat)))
      omega
     simp [vmS, runC_nil, runC_cons, pickC_some, wantC_tt, wantC_tf, effC_val, ifC_true, checkC, inPairs, keepC, okC, readsC_load, readV_some, AV.beq_self, wantA_n, wantA_g, wantD_some, d0, vloc, hj, wb1, wb2, hix, hwj, bu, ia, hfl, hcells, hcall, u1, u2, uu2, u3, tv1, s4, hS2, g1, g2, g3, ffn, v1, v2, v3, W3.cl.1, W3.cl.2]
     exact hq1 (r - 1) _ _ (by omega) ⟨j + 1, _, _, _, _, by omega, hs, hln, rfl, W3, (O'.trans s2).trans O3⟩
    ·have hjl : j = l.length := by omega
     subst hjl
     rw [List.drop_length] at hs
     simp only [Ex.occs] at hs
     simp [vmS, vloc, hj, wb1, wb2]
     exact hq2 _ _ _ (by simp) ⟨rfl, _, _, _, _, rfl, by rw [← hs]; exact W', O'⟩)
  obtain ⟨rfl, x, y, z, sc, rfl, W', O'⟩ := hq
  simp [vmS, vloc]
  exact hp _ W' (k2.trans O')
end Go.Vm.L
