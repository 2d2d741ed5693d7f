/-
What LangNodes returns. No conditions.
-/
import Derived.Test.YtjfnelfdlemfgaaGreatDoorNodeI
import Derived.Test.YtjfnelfdlemfgaaGreatDoorKnown
set_option linter.all false

namespace Go.Vm.L
open Go Go.Proofs Go.Vm
set_option maxRecDepth 100000
set_option linter.unusedSimpArgs false
set_option linter.unusedVariables false
attribute [local simp] inFrame startLoc startVals Loc.clear blockC Loc.putO Loc.put idx evO constV Loc.get Vm.look intA unwindA resultsA resultV actA pureA storeA loadA fillE repElems TI.zeroV fieldOf fieldAddrA fieldA elemsA retE cellsOf? setCells nowhere mapHead headNext

set_option maxHeartbeats 4000000

theorem eq61 (x : Nd) : binA ED .eql 61 (.tmp 26) (.tmp 32) (.agg x.vals) (.agg x.vals) = some (.bool true) := by
  have hi : ∀ a : Int, eqA ED 9999 3 (.int .i64 a) (.int .i64 a) = some true := fun a => by
    have : eqA ED (9998 + 1) 3 (.int .i64 a) (.int .i64 a) = some (a == a) := rfl
    simpa using this
  have he : eqA ED 10000 61 (.agg x.vals) (.agg x.vals) = some true := by
    show eqA ED (9999 + 1) 61 (.agg x.vals) (.agg x.vals) = some true
    have p0 : partA ED 3 x.vals 0 = some (.int .i64 x.fn) := rfl
    have p1 : partA ED 3 x.vals 1 = some (.int .i64 x.up) := rfl
    have p2 : partA ED 3 x.vals 2 = some (.int .i64 x.place) := rfl
    have p3 : partA ED 3 x.vals 3 = some (.int .i64 x.op) := rfl
    unfold eqA
    simp [eqF, p0, p1, p2, p3, hi]
  show (if eqGuardA ED 61 (.tmp 26) (.tmp 32) (.agg x.vals) (.agg x.vals) then (eqA ED 10000 61 (.agg x.vals) (.agg x.vals)).map AV.bool else none) = _
  rw [he]
  rfl

structure WL (NV : AV) (S : St) (n : Nat) (core : Bool) : Prop where
  cl : Cl S
  h6 : 6 ≤ S.n
  c1 : S.cells? 1 = some [NV]
  c2 : S.cells? 2 = some [.int .i64 n]
  c3 : S.cells? 3 = some [.bool core]
  c4 : S.cells? 4 = some [.bool true]
  c5 : S.cells? 5 = some [.fn 37 [] [.ptr 2 0, .ptr 1 0, .ptr 4 0, .ptr 3 0, .ptr 5 0]]

structure OldL (S S' : St) : Prop where
  n : S.n ≤ S'.n
  get : ∀ i, i < S.n → i ≠ 2 → i ≠ 3 → i ≠ 4 → S'.get i = S.get i
theorem OldL.trans {S S' S'' : St} (h : OldL S S') (k : OldL S' S'') : OldL S S'' :=
  ⟨Nat.le_trans h.n k.n, fun i hi h1 h2 h3 => (k.get i (Nat.lt_of_lt_of_le hi h.n) h1 h2 h3).trans (h.get i hi h1 h2 h3)⟩
theorem OldL.cells {S S' : St} (h : OldL S S') {i : Nat} {cs : List AV} (h1 : i ≠ 2) (h2 : i ≠ 3) (h3 : i ≠ 4) (hc : S.cells? i = some cs) : S'.cells? i = some cs := by
  rw [cells?_def, h.get i (St.get_lt (cells?_inv hc)) h1 h2 h3, ← cells?_def]
  exact hc

theorem WL.cell {NV : AV} {S : St} {n : Nat} {core : Bool} (W : WL NV S n core) (zs xs : List AV) :
    WL NV ((S.push (.cells zs)).put S.n (.cells xs)) n core ∧ OldL S ((S.push (.cells zs)).put S.n (.cells xs)) ∧ ((S.push (.cells zs)).put S.n (.cells xs)).n = S.n + 1 ∧ ((S.push (.cells zs)).put S.n (.cells xs)).cells? S.n = some xs := by
  obtain ⟨h1, h6, c1, c2, c3, c4, c5⟩ := W
  have c : ∀ i cs, i < S.n → S.cells? i = some cs → ((S.push (.cells zs)).put S.n (.cells xs)).cells? i = some cs := fun i cs hi hc => by
    rw [cells?_put_ne _ _ _ (by omega), cells?_push_ne _ _ (by omega)]
    exact hc
  refine ⟨⟨Cl.put (Cl.push h1 _) _ _, by rw [n_put', n_push']; omega, c _ _ (by omega) c1, c _ _ (by omega) c2, c _ _ (by omega) c3, c _ _ (by omega) c4, c _ _ (by omega) c5⟩, ⟨by rw [n_put', n_push']; omega, fun i hi _ _ _ => ?_⟩, by rw [n_put', n_push'], cells?_put_push _ _ _⟩
  rw [St.get_put_ne _ _ _ (by omega), get_push_lt _ _ hi]

def opsB (l : List (Nd × Ex)) : Bool := l.all fun y => opB y.1.op
theorem opsB_cons (y : Nd × Ex) (l : List (Nd × Ex)) : opsB (y :: l) = (opB y.1.op && opsB l) := rfl
theorem opsB_app (l m : List (Nd × Ex)) : opsB (l ++ m) = (opsB l && opsB m) := List.all_append ..

def Runs37 (l : Sm) (nds : List Nd) (NV : AV) (e : Ex) (fuel : Nat) : Prop :=
  ∀ (S : St) (num : Nat) (core : Bool) (fn up place : Int) (rest : List Nd), WL NV S num core → nds.drop num = (e.pre fn num ⟨fn, up, place, e.op⟩).map (·.1) ++ rest → ∀ p : FRes → St → Prop,
    (∀ S', WL NV S' (num + e.size) (core && opsB (e.pre fn num ⟨fn, up, place, e.op⟩)) → OldL S S' → p (.ret (.tup [])) S') →
    GotF (callS ED (sumG l) fuel (.fn 37) [e.enc, .int .i64 fn, .int .i64 up, .int .i64 place, .ptr 2 0, .ptr 1 0, .ptr 4 0, .ptr 3 0, .ptr 5 0] S) p

theorem index_nd {l : List Nd} {tk : Tk} {j : Nat} (h : j < l.length) : indexAddrA ED 27 (.slice (l.map ndv) tk) (.int .i64 (j : Nat)) = some (.rptr l[j].vals) := by
  have := index_slice (E := ED) (t := 27) (e := 61) (n := (j : Int)) (k := .i64) (es := l.map ndv) (tk := tk) (v := ndv l[j]) (s := 4) rfl rfl (by omega) (by simp; omega) (by simp) rfl
  exact this

theorem start37 {NV : AV} {S T : St} {num : Nat} {core : Bool} (W : WL NV S num core) (xs : List AV) (cb : Bool) (hT : T = (((S.push (.cells xs)).put 4 (.cells [.bool true])).put 3 (.cells [.bool cb])).put 2 (.cells [.int .i64 ((num : Int) + 1)])) : WL NV T (num + 1) cb ∧ OldL S T ∧ T.cells? S.n = some xs := by
  subst hT
  obtain ⟨h1, h6, c1, c2, c3, c4, c5⟩ := W
  have hn1 : (S.push (.cells xs)).n = S.n + 1 := n_push' _ _
  have hn2 : ((S.push (.cells xs)).put 4 (.cells [.bool true])).n = S.n + 1 := by rw [n_put', hn1]
  have hn3 : (((S.push (.cells xs)).put 4 (.cells [.bool true])).put 3 (.cells [.bool cb])).n = S.n + 1 := by rw [n_put', hn2]
  refine ⟨⟨Cl.put (Cl.put (Cl.put (Cl.push h1 _) _ _) _ _) _ _, by rw [n_put', hn3]; omega, ?_, ?_, ?_, ?_, ?_⟩, ⟨by rw [n_put', hn3]; omega, fun i hi h2 h3 h4 => ?_⟩, ?_⟩
  · rw [cells?_put_ne _ _ _ (by decide), cells?_put_ne _ _ _ (by decide), cells?_put_ne _ _ _ (by decide), cells?_push_ne _ _ (by omega)]
    exact c1
  · have := cells?_put_self (((S.push (.cells xs)).put 4 (.cells [.bool true])).put 3 (.cells [.bool cb])) 2 [.int .i64 ((num : Int) + 1)] (by omega)
    simpa using this
  · rw [cells?_put_ne _ _ _ (by decide)]
    exact cells?_put_self _ _ _ (by omega)
  · rw [cells?_put_ne _ _ _ (by decide), cells?_put_ne _ _ _ (by decide)]
    exact cells?_put_self _ _ _ (by omega)
  · rw [cells?_put_ne _ _ _ (by decide), cells?_put_ne _ _ _ (by decide), cells?_put_ne _ _ _ (by decide), cells?_push_ne _ _ (by omega)]
    exact c5
  · rw [St.get_put_ne _ _ _ h2, St.get_put_ne _ _ _ h3, St.get_put_ne _ _ _ h4, get_push_lt _ _ hi]
  · rw [cells?_put_ne _ _ _ (by omega), cells?_put_ne _ _ _ (by omega), cells?_put_ne _ _ _ (by omega), cells?_push_self]

theorem walk37_step {l : Sm} (hl : sumG l 37 = fun _ => none) {nds : List Nd} {NV : AV} (hNV : NV = .slice (nds.map ndv) .dead) (hnl : nds.length ≤ 1000000) {e : Ex} (he : e.fit) {fuel : Nat} (hn : e.kids.length + 2 ≤ fuel) (hkids : ∀ x ∈ e.kids, Runs37 l nds NV x fuel) : Runs37 l nds NV e (fuel + 1) := by
  intro S num core fn up place rest W hdrop p hp
  rw [callS_go (by rw [hl])]
  have W0 := W
  obtain ⟨⟨hbad, hwb⟩, hS6, c1, c2, c3, c4, c5⟩ := W
  have hlen := e.len
  have hidx := fun j (hj : j < e.kids.length) => e.index hj
  obtain ⟨hc1, hc2, hc3⟩ := e.cell
  have hmx := Ex.fit_len he
  have hpk := e.pre_kids fn num ⟨fn, up, place, e.op⟩
  have hsk := e.size_kids
  have el := e.look
  rw [hpk, List.map_cons, List.cons_append] at hdrop
  have hlt : num < nds.length := by
    have := congrArg List.length hdrop
    simp only [List.length_drop, List.length_cons] at this
    omega
  have hx : nds[num] = ⟨fn, up, place, e.op⟩ := by
    have := List.drop_eq_getElem_cons hlt
    rw [hdrop] at this
    exact (List.cons.inj this).1.symm
  have hd1 : nds.drop (num + 1) = (Ex.pres fn e.kids (num + 1) num 0).map (·.1) ++ rest := by
    have := List.drop_eq_getElem_cons hlt
    rw [hdrop] at this
    exact (List.cons.inj this).2.symm
  have hix := index_nd (tk := .dead) hlt
  rw [hx, ← hNV] at hix
  simp only [Nd.vals] at hix
  have hq := eq61 ⟨fn, up, place, e.op⟩
  simp only [Nd.vals] at hq
  have hbd : buildA ED 61 [(0, .int .i64 fn), (1, .int .i64 up), (2, .int .i64 place), (3, .int .i64 e.op)] = some (.agg [.int .i64 fn, .int .i64 up, .int .i64 place, .int .i64 e.op]) := rfl
  have hlN : lenA ED 27 NV = some (.int .i64 nds.length) := by rw [hNV]; simp [lenA]
  rw [hpk, opsB_cons, ← Bool.and_assoc] at hp
  simp only at hp
  simp only [el]
  have hw1 : IntKind.i64.wrap ((num : Int) + 1) = (num : Int) + 1 := wrap_id (by omega) (by omega)
  have n0 : ∀ k, k < 6 → (k = S.n) = False := fun k hk => by simp; omega
  have n1 : ∀ k, k < 6 → (S.n = k) = False := fun k hk => by simp; omega
  have n2 := n0 2 (by omega)
  have n3 := n0 3 (by omega)
  have n4 := n0 4 (by omega)
  have n5 := n0 5 (by omega)
  have n6 := n0 1 (by omega)
  have m2 := n1 2 (by omega)
  have m3 := n1 3 (by omega)
  have m4 := n1 4 (by omega)
  have l0 : ∀ k, k < 6 → k < S.n + 1 := fun k hk => by omega
  have l2 := l0 2 (by omega)
  have l3 := l0 3 (by omega)
  have l4 := l0 4 (by omega)
  have nlt : ¬ (nds.length : Int) ≤ (num : Int) := by omega
  have nlt' : ¬ nds.length ≤ num := by omega
  have d0 := @dr37_0
  simp only [drA, drawsOf, Option.getD_some, List.nil_append, List.append_nil, List.getD_cons_zero, List.getD_cons_succ, List.cons_append, Tryz.f37] at d0
  have hsplit : (core = false ∧ True ∧ True ∧ True ∧ (core && opB e.op) = false) ∨ (core = true ∧ (e.op = 4) = True ∧ True ∧ True ∧ (core && opB e.op) = false) ∨ (core = true ∧ (e.op = 4) = False ∧ (e.op = 5) = True ∧ True ∧ (core && opB e.op) = false) ∨
      (core = true ∧ (e.op = 4) = False ∧ (e.op = 5) = False ∧ (e.op = 6) = True ∧ (core && opB e.op) = false) ∨ (core = true ∧ (e.op = 4) = False ∧ (e.op = 5) = False ∧ (e.op = 6) = False ∧ (core && opB e.op) = true) := by
    cases core with
    | false => exact .inl ⟨rfl, trivial, trivial, trivial, rfl⟩
    | true =>
      by_cases o4 : e.op = 4
      · simp [o4, opB]
      · by_cases o5 : e.op = 5
        · simp [o5, opB]
        · by_cases o6 : e.op = 6
          · simp [o6, opB]
          · simp [o4, o5, o6, opB]
  simp only [fnA, ED_fn37, fi37, Tryz.f37]
  rcases hsplit with ⟨rfl, o4, o5, o6, hcb⟩ | ⟨rfl, o4, o5, o6, hcb⟩ | ⟨rfl, o4, o5, o6, hcb⟩ | ⟨rfl, o4, o5, o6, hcb⟩ | ⟨rfl, o4, o5, o6, hcb⟩ <;> rw [hcb] at hp <;> (
  simp [vmS, runC_nil, runC_cons, pickC_some, wantC_tt, wantC_tf, effC_val, ifC_true, checkC, inPairs, keepC, okC, readsC_load, readV_some, AV.beq_self, wantA_n, wantA_g, wantD_some, d0, hbad, hwb, c1, c2, c3, c4, c5, hw1, n2, n3, n4, n5, n6, m2, m3, m4, l2, l3, l4, hlN, nlt, nlt', hix, hq, hbd, hc1, hc2, hc3, o4, o5, o6, hlen]
  have hW : ∀ (cb : Bool) (T : St), T = ((((S.push (AO.cells [AV.int IntKind.i64 e.op, AV.int IntKind.i64 e.num, AV.int IntKind.i64 e.mun, e.lst])).put 4 (AO.cells [AV.bool true])).put 3 (AO.cells [AV.bool cb])).put 2 (AO.cells [AV.int IntKind.i64 ((num : Int) + 1)])) → WL NV T (num + 1) cb ∧ OldL S T ∧ T.cells? S.n = some [.int .i64 e.op, .int .i64 e.num, .int .i64 e.mun, e.lst] := fun cb T hT => start37 W0 _ _ hT
  generalize hT : ((((S.push (AO.cells [AV.int IntKind.i64 e.op, AV.int IntKind.i64 e.num, AV.int IntKind.i64 e.mun, e.lst])).put 4 (AO.cells [AV.bool true])).put 3 (AO.cells [AV.bool _])).put 2 (AO.cells [AV.int IntKind.i64 ((num : Int) + 1)])) = T
  obtain ⟨WT, OT, hT0⟩ := hW _ T hT.symm
  clear hW hT
  generalize hc : iter _ _ _ _ = c
  generalize hR : (_ && opsB (Ex.pres fn e.kids (num + 1) num 0)) = R at hp
  obtain ⟨ex, L1, S2, rfl, hq⟩ := loop_of hc
    (fun r L S' => ∃ (j m : Nat) (cj : Bool) (y z : AV) (sc : List (Tmp × AV)), j + r = e.kids.length ∧ (cj && opsB (Ex.pres fn (e.kids.drop j) m num j)) = R ∧ nds.drop m = (Ex.pres fn (e.kids.drop j) m num j).map (·.1) ++ rest ∧ m + Ex.sizes (e.kids.drop j) = num + e.size ∧
      L = vloc [.agg [.int .i64 e.op, .int .i64 e.num, .int .i64 e.mun, e.lst], .int .i64 fn, .int .i64 up, .int .i64 place, .ptr 2 0, .ptr 1 0, .ptr 4 0, .ptr 3 0, .ptr 5 0, .ptr S.n 0, .int .i64 (num : Nat), y, z, e.lst, .int .i64 e.kids.length, .int .i64 (j : Nat)] sc ∧ WL NV S' m cj ∧ OldL T S')
    (fun ex L S' => ex = .exit 0 ∧ WL NV S' (num + e.size) R ∧ OldL T S' ∧ ∃ (y z u : AV) (sc : List (Tmp × AV)), L = vloc [.agg [.int .i64 e.op, .int .i64 e.num, .int .i64 e.mun, e.lst], .int .i64 fn, .int .i64 up, .int .i64 place, .ptr 2 0, .ptr 1 0, .ptr 4 0, .ptr 3 0, .ptr 5 0, .ptr S.n 0, .int .i64 (num : Nat), y, z, e.lst, .int .i64 e.kids.length, u] sc)
    e.kids.length (by omega)
    ⟨0, num + 1, _, _, _, _, by simp, by simpa using hR, by simpa using hd1, by rw [List.drop_zero]; omega, rfl, WT, ⟨Nat.le_refl _, fun _ _ _ _ _ => rfl⟩⟩
    (by
      rintro r L S' ⟨j, m, cj, y, z, sc, hjk, hs, hdm, hmm, rfl, W', O'⟩ q hq1 hq2
      have W'' := W'
      obtain ⟨⟨w1, w2⟩, w3, x1, x2, x3, x4, x5⟩ := W''
      by_cases hj : j < e.kids.length
      · have hwj : IntKind.i64.wrap ((j : Int) + 1) = ((j : Int) + 1) := wrap_id (by omega) (by unfold maxLen at hmx; omega)
        have hix := hidx j hj
        have hrun := hkids _ (List.getElem_mem hj)
        rw [drop_kid hj] at hs hdm hmm
        simp only [Ex.pres, Ex.sizes] at hs hdm hmm
        generalize e.kids[j] = xk at *
        have xl := xk.look
        obtain ⟨g1, g2, g3⟩ := xk.cell
        rw [xl] at hix
        rw [List.map_append, List.append_assoc] at hdm
        rw [opsB_app, ← Bool.and_assoc] at hs
        obtain ⟨s1, s2, s3, s4⟩ := W'.cell [.int .i64 0, .int .i64 0, .int .i64 0, .nils] [.int .i64 xk.op, .int .i64 xk.num, .int .i64 xk.mun, xk.lst]
        generalize hS2 : (S'.push (.cells [.int .i64 0, .int .i64 0, .int .i64 0, .nils])).put S'.n (.cells [.int .i64 xk.op, .int .i64 xk.num, .int .i64 xk.mun, xk.lst]) = S2 at *
        obtain ⟨r3, S3, hcall3, hr3, W3, O3⟩ := gotF_iff.1 (hrun S2 m cj fn num j _ s1 hdm
          (fun r S3 => r = .ret (.tup []) ∧ WL NV S3 (m + xk.size) (cj && opsB (xk.pre fn m ⟨fn, num, j, xk.op⟩)) ∧ OldL S2 S3) (fun S3 h1 h2 => ⟨rfl, h1, h2⟩))
        subst hr3
        simp only [xl] at hcall3
        obtain ⟨⟨u1, u2⟩, _, _, _, _, _, u5⟩ := s1
        have hd2 : nds.drop (m + xk.size) = (Ex.pres fn (e.kids.drop (j + 1)) (m + xk.size) num (j + 1)).map (·.1) ++ rest := by
          have h1 := congrArg (List.drop xk.size) hdm
          rw [List.drop_drop] at h1
          rw [h1, List.drop_append_of_le_length (by rw [List.length_map, Ex.pre_length]; exact Nat.le_refl _), List.drop_of_length_le (by rw [List.length_map, Ex.pre_length]; exact Nat.le_refl _), List.nil_append]
        simp [vmS, vloc, hj, w1, w2, hix, hwj, hS2, u1, u2, s4, u5, g1, g2, g3, hcall3, W3.cl.1, W3.cl.2]
        exact hq1 (r - 1) _ _ (by omega) ⟨j + 1, m + xk.size, _, _, _, _, by omega, by rw [← hs]; simp, by simpa using hd2, by omega, rfl, W3, (O'.trans s2).trans O3⟩
      · have hjl : j = e.kids.length := by omega
        subst hjl
        rw [List.drop_length] at hs hdm hmm
        simp only [Ex.pres, Ex.sizes] at hs hmm
        have hs' : cj = R := by rw [← hs]; simp [opsB]
        have hm' : m = num + e.size := by omega
        subst hs' hm'
        simp [vmS, vloc, w1, w2]
        exact hq2 _ _ _ (by simp) ⟨rfl, ⟨⟨w1, w2⟩, w3, x1, x2, x3, x4, x5⟩, O', _, _, _, _, rfl⟩)
  obtain ⟨rfl, W2, O2, y, z, u, sc, rfl⟩ := hq
  simp [vmS, vloc, W2.cl.1, W2.cl.2]
  exact hp _ W2 (OT.trans O2))

theorem walk37 {l : Sm} (hl : sumG l 37 = fun _ => none) {nds : List Nd} {NV : AV} (hNV : NV = .slice (nds.map ndv) .dead) (hnl : nds.length ≤ 1000000) : ∀ (d : Nat) (e : Ex), e.deep ≤ d → e.fit → ∃ N, ∀ n, N ≤ n → Runs37 l nds NV e n := by
  intro d
  induction d with
  | zero => intro e hd _; have := e.deep_pos; omega
  | succ d ih =>
    intro e hd he
    obtain ⟨N, hN⟩ := max_fuel (P := fun x n => Runs37 l nds NV x n) e.kids (fun x hx => ih x (by have := Ex.deep_kid hx; omega) (Ex.fit_kid he hx))
    refine ⟨max N (e.kids.length + 2) + 1, fun n hn => ?_⟩
    obtain ⟨m, rfl⟩ : ∃ m, n = m + 1 := ⟨n - 1, by omega⟩
    exact walk37_step hl hNV hnl he (by omega) (hN m (by omega))

end Go.Vm.L

namespace Go.Vm.L
open Go Go.Proofs Go.Vm
set_option maxRecDepth 100000
set_option linter.unusedSimpArgs false
set_option linter.unusedVariables false
attribute [local simp] inFrame startLoc startVals Loc.clear blockC Loc.putO Loc.put idx evO constV Loc.get Vm.look intA unwindA resultsA resultV actA pureA storeA loadA fillE repElems TI.zeroV fieldOf fieldAddrA fieldA elemsA retE cellsOf? setCells nowhere mapHead headNext

set_option maxHeartbeats 4000000

def aliveG : List AV → Option FRes
  | [] => some (.ret (.bool true))
  | _ => none
theorem alive_ok : FOk 14 aliveG := by
  intro a r h
  unfold aliveG at h
  split at h
  · cases h
    exact ⟨rfl, rfl, alive_sound⟩
  · cases h

noncomputable def L19 : Sm := [(13, greatG), (15, nodesG), (19, checkG), (21, coreG), (14, aliveG)]
theorem L19_ok : ∀ x ∈ L19, FOk x.1 x.2 := by
  intro x hx
  simp only [L19, List.mem_cons, List.mem_nil_iff, or_false] at hx
  rcases hx with rfl | rfl | rfl | rfl | rfl
  · exact great_ok
  · exact nodes_ok
  · exact check_ok
  · exact core_ok
  · exact alive_ok

theorem alive_use {l : Sm} (h : sumG l 14 = aliveG) {n : Nat} {S : St} : callS ED (sumG l) n (.fn 14) [] S = some (.ret (.bool true), S) :=
  callS_sum (by rw [h]; rfl)

section
variable {l : Sm} {P : Pr}
theorem pdead : ([AV.agg [P.val, .int .i64 P.main]] : List AV).map AV.dead = [P.enc] := by
  rw [List.map_cons, List.map_nil]
  exact congrArg (fun v => [v]) (dead_of_pers _ P.pers)
theorem great_use (h : sumG l 13 = greatG) (hf : P.fit2) {n : Nat} {S : St} : callS ED (sumG l) n (.fn 13) [.agg [P.val, .int .i64 P.main]] S = some (.ret (.bool (greatB P.funs)), S) := by
  obtain ⟨Q, h1, h2, h3⟩ := prOf2_enc hf
  refine callS_sum ?_
  rw [pdead, h]
  simp only [greatG, h1, h2]
theorem nodes_use (h : sumG l 15 = nodesG) (hf : P.fit) {n : Nat} {S : St} : callS ED (sumG l) n (.fn 15) [.agg [P.val, .int .i64 P.main]] S =
    some (.ret (if formedB P.funs P.main = true then .tup [.slice (((allPre P.funs 0 0).map (·.1)).map ndv) .dead, .int .i64 0] else .tup [.nils, .int .i64 1]), S) := by
  obtain ⟨Q, h1, h2, h3, _⟩ := prOf_enc hf
  refine callS_sum ?_
  rw [pdead, h]
  simp only [nodesG, h1, h2, h3]
theorem check_use (h : sumG l 19 = checkG) (hf : P.fit) {n : Nat} {S : St} : callS ED (sumG l) n (.fn 19) [.agg [P.val, .int .i64 P.main]] S =
    some (.ret (.int .i64 (if formedB P.funs P.main = true then 0 else 1)), S) := by
  obtain ⟨Q, h1, h2, h3, _⟩ := prOf_enc hf
  refine callS_sum ?_
  rw [pdead, h]
  simp only [checkG, h1, h2, h3]
theorem core_use (h : sumG l 21 = coreG) (hf : P.fit) {n : Nat} {S : St} : callS ED (sumG l) n (.fn 21) [.agg [P.val, .int .i64 P.main]] S =
    some (.ret (.int .i64 (if formedB P.funs P.main = true ∧ opsB (allPre P.funs 0 0) = true then 0 else 1)), S) := by
  obtain ⟨Q, h1, h2, h3, _⟩ := prOf_enc hf
  refine callS_sum ?_
  rw [pdead, h]
  simp only [coreG, h1, h2, h3]
  rfl
end

noncomputable def lnodesG : List AV → Option FRes
  | [v] => match prOf2 v with
    | some _ => some (.ret (.bool true))
    | none => none
  | _ => none

theorem greatF_len {fs : List Fu} (h : greatB fs = false) : fs.length ≤ 60 := by
  unfold greatB at h
  rw [Bool.or_eq_false_iff] at h
  have := of_decide_eq_false h.2
  omega

theorem allPre_length : ∀ (fs : List Fu) (num i : Int), (allPre fs num i).length = allSize fs
  | [], _, _ => rfl
  | f :: r, num, i => by simp only [allPre, allSize, List.length_append, Ex.pre_length, allPre_length r]

theorem lnodes_ok : FOk 9 lnodesG := by
  refine fok L19 L19_ok ?_
  intro a r h
  unfold lnodesG at h
  split at h
  · rename_i v
    split at h
    · rename_i P hP
      obtain ⟨hfit2, rfl⟩ := prOf2_some hP
      cases h
      obtain ⟨q1, q2, q3, q4⟩ := P.val_len
      have au := fun m S => alive_use (l := L19) rfl (n := m) (S := S)
      have gu := fun m S => great_use (l := L19) rfl hfit2 (n := m) (S := S)
      cases hG : greatB P.funs with
      | true =>
        simp only [hG] at gu
        refine ⟨by simp [AV.persL, P.pers], rfl, 3, fun p hp => ?_⟩
        rw [callS_go rfl]
        simp only [Pr.enc]
        simp only [fnA, ED_fn9, fi9, Tryz.f9]
        simp [vmS, q1, q2, q3, q4, gu, au]
        exact hp _ _ rfl
      | false =>
        simp only [hG] at gu
        have h60 := greatF_len hG
        have hfit : P.fit := ⟨hfit2.1, by omega⟩
        have nu := fun m S => nodes_use (l := L19) rfl hfit (n := m) (S := S)
        have cu := fun m S => check_use (l := L19) rfl hfit (n := m) (S := S)
        have ku := fun m S => core_use (l := L19) rfl hfit (n := m) (S := S)
        cases hF : formedB P.funs P.main with
        | false =>
          simp only [hF] at nu cu ku
          simp at nu cu ku
          refine ⟨by simp [AV.persL, P.pers], rfl, 3, fun p hp => ?_⟩
          rw [callS_go rfl]
          simp only [Pr.enc]
          simp only [fnA, ED_fn9, fi9, Tryz.f9]
          have ln : lenA ED 27 .nils = some (.int .i64 0) := rfl
          simp [vmS, q1, q2, q3, q4, gu, au, nu, cu, ku, ln]
          exact hp _ _ rfl
        | true =>
          simp only [hF, if_true, true_and] at nu cu ku
          have hsz := (formedB_size hF).1
          have hne : P.funs ≠ [] := fun e => by rw [e] at hF; simp [formedB] at hF
          have hpl := allPre_length P.funs 0 0
          obtain ⟨N, hN⟩ := max_fuel (P := fun (f : Fu) n => Runs37 L19 ((allPre P.funs 0 0).map (·.1)) (.slice (((allPre P.funs 0 0).map (·.1)).map ndv) .dead) f.body n) P.funs
            (fun f hf => walk37 rfl rfl (by rw [List.length_map, hpl]; omega) f.body.deep f.body (Nat.le_refl _) (hfit.1 f hf).2)
          refine ⟨by simp [AV.persL, P.pers], rfl, max N (P.funs.length + 2) + 1, fun p hp => ?_⟩
          have hn := hN (max N (P.funs.length + 2)) (by omega)
          generalize hn0 : max N (P.funs.length + 2) = n0 at *
          rw [callS_go rfl]
          simp only [Pr.enc]
          simp only [fnA, ED_fn9, fi9, Tryz.f9]
          have d0 := @dr9_0
          simp only [drA, drawsOf, Option.getD_some, List.nil_append, List.append_nil, List.getD_cons_zero, List.getD_cons_succ, List.cons_append, Tryz.f9] at d0
          have hlN : lenA ED 27 (.slice (((allPre P.funs 0 0).map (·.1)).map ndv) .dead) = some (.int .i64 (allSize P.funs : Nat)) := by
            have h1 : (((allPre P.funs 0 0).map (·.1)).map ndv).length = allSize P.funs := by rw [List.length_map, List.length_map, hpl]
            have h2 : ∀ es : List AV, lenA ED 27 (.slice es .dead) = some (.int .i64 (es.length : Nat)) := fun es => rfl
            rw [h2, h1]
          have hall : ((allPre P.funs 0 0).map (·.1)) = (allPre P.funs 0 0).map (·.1) := rfl
          have hNVc : (AV.slice (((allPre P.funs 0 0).map (·.1)).map ndv) .dead).isCell = true ∧ (AV.slice (((allPre P.funs 0 0).map (·.1)).map ndv) .dead).known = true ∧ (AV.slice (((allPre P.funs 0 0).map (·.1)).map ndv) .dead).cells = [AV.slice (((allPre P.funs 0 0).map (·.1)).map ndv) .dead] := ⟨rfl, rfl, rfl⟩
          generalize AV.slice (((allPre P.funs 0 0).map (·.1)).map ndv) .dead = NV at *
          generalize hnds : ((allPre P.funs 0 0).map (·.1)) = nds at hn
          clear hN
          obtain ⟨y1, y2, y3⟩ := hNVc
          simp [vmS, runC_nil, runC_cons, pickC_some, wantC_tt, wantC_tf, effC_val, ifC_true, checkC, inPairs, keepC, okC, readsC_load, readV_some, AV.beq_self, wantA_n, wantA_g, wantD_some, d0, q1, q2, q3, q4, gu, au, nu, cu, ku, y1, y2, y3]
          generalize hT : St.put _ 5 (AO.cells _) = T
          have W : WL NV T 0 true := by
            subst hT
            refine ⟨Cl.put (Cl.push (Cl.put (Cl.push (Cl.put (Cl.put (Cl.push (Cl.push (Cl.put (Cl.push (Cl.push Cl.zero _) _) _ _) _) _) _ _) _ _) _) _ _) _) _ _, ?_, ?_, ?_, ?_, ?_, ?_⟩
            all_goals simp [push_at, put_at, n_push', n_put', n_S0, cellsOf?]
          have t0 : T.cells? 0 = some [P.val, .int .i64 P.main] := by
            subst hT
            simp [push_at, put_at, n_push', n_put', n_S0, cellsOf?]
          clear hT
          have hix : ∀ (j : Nat) (h : j < P.funs.length), indexAddrA ED 22 P.val (.int .i64 (j : Nat)) = some (.rptr P.funs[j].vals) := fun j h => by
            rw [P.val_slice hne]
            exact index_fu h
          generalize hc : iter _ _ _ _ = c
          generalize hR : opsB (allPre P.funs 0 0) = R at *
          generalize hK : allSize P.funs = K at *
          obtain ⟨ex, L1, S2, rfl, hq⟩ := loop_of hc
            (fun r L S' => ∃ (j m : Nat) (cj : Bool) (y z : AV) (sc : List (Tmp × AV)), j + r = P.funs.length ∧ (cj && opsB (allPre (P.funs.drop j) m j)) = R ∧ nds.drop m = (allPre (P.funs.drop j) m j).map (·.1) ∧ m + allSize (P.funs.drop j) = K ∧
              L = vloc [.agg [P.val, .int .i64 P.main], .ptr 0 0, .bool false, .ptr 1 0, .int .i64 0, .ptr 2 0, .ptr 3 0, .ptr 4 0, .ptr 5 0, y, z, P.val, .int .i64 P.funs.length, .int .i64 (j : Nat)] sc ∧ WL NV S' m cj ∧ OldL T S')
            (fun ex L S' => ex = .exit 0 ∧ WL NV S' K R ∧ OldL T S' ∧ ∃ (y z u : AV) (sc : List (Tmp × AV)), L = vloc [.agg [P.val, .int .i64 P.main], .ptr 0 0, .bool false, .ptr 1 0, .int .i64 0, .ptr 2 0, .ptr 3 0, .ptr 4 0, .ptr 5 0, y, z, P.val, .int .i64 P.funs.length, u] sc)
            P.funs.length (by omega)
            ⟨0, 0, _, _, _, _, by simp, by simpa using hR, by simpa using hnds.symm, by simpa using hK, rfl, W, ⟨Nat.le_refl _, fun _ _ _ _ _ => rfl⟩⟩
            (by
              rintro r L S' ⟨j, m, cj, y, z, sc, hjk, hs, hdm, hmm, rfl, W', O'⟩ q hq1 hq2
              have W'' := W'
              obtain ⟨⟨w1, w2⟩, w3, x1, x2, x3, x4, x5⟩ := W''
              by_cases hj : j < P.funs.length
              · have hwj : IntKind.i64.wrap ((j : Int) + 1) = ((j : Int) + 1) := wrap_id (by omega) (by omega)
                have hix := hix j hj
                have hrun := hn _ (List.getElem_mem hj)
                rw [List.drop_eq_getElem_cons hj] at hs hdm hmm
                simp only [allPre, allSize] at hs hdm hmm
                generalize P.funs[j] = f at *
                have xl := f.body.look
                obtain ⟨g1, g2, g3⟩ := f.body.cell
                rw [List.map_append] at hdm
                rw [opsB_app, ← Bool.and_assoc] at hs
                obtain ⟨s1, s2, s3, s4⟩ := W'.cell [.str [], .int .i64 0, .int .i64 0, .int .i64 0, .int .i64 0, .nils] f.vals
                generalize hS2 : (S'.push (.cells [.str [], .int .i64 0, .int .i64 0, .int .i64 0, .int .i64 0, .nils])).put S'.n (.cells f.vals) = S2 at *
                obtain ⟨r3, S3, hcall3, hr3, W3, O3⟩ := gotF_iff.1 (hrun S2 m cj j (-1) 0 _ s1 hdm
                  (fun r S3 => r = .ret (.tup []) ∧ WL NV S3 (m + f.body.size) (cj && opsB (f.body.pre j m ⟨j, -1, 0, f.body.op⟩)) ∧ OldL S2 S3) (fun S3 h1 h2 => ⟨rfl, h1, h2⟩))
                subst hr3
                simp only [xl] at hcall3
                have u5 := s1.c5
                obtain ⟨u1, u2⟩ := s1.cl
                simp only [Fu.vals] at hS2 s4 hix
                have hd2 : nds.drop (m + f.body.size) = (allPre (P.funs.drop (j + 1)) (m + f.body.size) (j + 1)).map (·.1) := by
                  have h1 := congrArg (List.drop f.body.size) hdm
                  rw [List.drop_drop] at h1
                  rw [h1, List.drop_append_of_le_length (by rw [List.length_map, Ex.pre_length]; exact Nat.le_refl _), List.drop_of_length_le (by rw [List.length_map, Ex.pre_length]; exact Nat.le_refl _), List.nil_append]
                simp [vmS, vloc, hj, w1, w2, hix, hwj, hS2, u1, u2, s4, u5, g1, g2, g3, hcall3, W3.cl.1, W3.cl.2]
                exact hq1 (r - 1) _ _ (by omega) ⟨j + 1, m + f.body.size, _, _, _, _, by omega, by rw [← hs]; simp, by simpa using hd2, by omega, rfl, W3, (O'.trans s2).trans O3⟩
              · have hjl : j = P.funs.length := by omega
                subst hjl
                rw [List.drop_length] at hs hdm hmm
                simp only [allPre, allSize] at hs hmm
                have hs' : cj = R := by rw [← hs]; simp [opsB]
                have hm' : m = K := by omega
                subst hs' hm'
                simp [vmS, vloc, w1, w2]
                exact hq2 _ _ _ (by simp) ⟨rfl, ⟨⟨w1, w2⟩, w3, x1, x2, x3, x4, x5⟩, O', _, _, _, _, rfl⟩)
          obtain ⟨rfl, W2, O2, y, z, u, sc, rfl⟩ := hq
          have t0' := O2.cells (by omega) (by omega) (by omega) t0
          have ⟨w1, w2⟩ := W2.cl
          have m1 := W2.c1
          have m2 := W2.c2
          have m3 := W2.c3
          have m4 := W2.c4
          have b1 : binA ED .eql 4 (.tmp 62) (.tmp 65) (.bool false) (.bool false) = some (.bool true) := rfl
          have b2 : binA ED .eql 4 (.tmp 62) (.tmp 65) (.bool true) (.bool true) = some (.bool true) := rfl
          cases R with
          | false =>
            simp at ku
            simp [vmS, runC_nil, runC_cons, pickC_some, wantC_tt, wantC_tf, effC_val, ifC_true, checkC, inPairs, keepC, okC, readsC_load, readV_some, AV.beq_self, wantA_n, wantA_g, wantD_some, d0, vloc, w1, w2, t0', m1, m2, m3, m4, hlN, ku, au, q2, q3, q4, b1, b2]
            exact hp _ _ rfl
          | true =>
            simp at ku
            simp [vmS, runC_nil, runC_cons, pickC_some, wantC_tt, wantC_tf, effC_val, ifC_true, checkC, inPairs, keepC, okC, readsC_load, readV_some, AV.beq_self, wantA_n, wantA_g, wantD_some, d0, vloc, w1, w2, t0', m1, m2, m3, m4, hlN, ku, au, q2, q3, q4, b1, b2]
            exact hp _ _ rfl
    · cases h
  · cases h

end Go.Vm.L
