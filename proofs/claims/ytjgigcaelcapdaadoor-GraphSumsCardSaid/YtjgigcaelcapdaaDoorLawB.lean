/-
What the law's own functions return, and the law. No conditions.
-/
import Derived.Test.YtjgigcaelcapdaaDoorValE
import Derived.Test.YtjgigcaelcapdaaDoorExamples
set_option linter.all false

namespace Go.Proofs.YtjgigcaelcapdaaDoor
open Go Go.Vm Go.Vm.T
set_option maxRecDepth 100000
set_option linter.unusedSimpArgs false
set_option linter.unusedVariables false

/-! words, modulo 2 to the 32 -/
def Cg (a b : Int) : Prop := ∃ k : Int, a = b + 4294967296 * k

theorem Cg.refl (a : Int) : Cg a a := ⟨0, by omega⟩
theorem Cg.symm {a b : Int} (h : Cg a b) : Cg b a := by
  obtain ⟨k, h⟩ := h
  exact ⟨-k, by omega⟩
theorem Cg.trans {a b c : Int} (h : Cg a b) (k : Cg b c) : Cg a c := by
  obtain ⟨x, h⟩ := h
  obtain ⟨y, k⟩ := k
  exact ⟨x + y, by omega⟩
theorem Cg.add {a b c d : Int} (h : Cg a b) (k : Cg c d) : Cg (a + c) (b + d) := by
  obtain ⟨x, h⟩ := h
  obtain ⟨y, k⟩ := k
  exact ⟨x + y, by omega⟩
theorem Cg.mul {a b : Int} (y : Int) (h : Cg a b) : Cg (y * a) (y * b) := by
  obtain ⟨x, rfl⟩ := h
  refine ⟨y * x, ?_⟩
  rw [Int.mul_add, Int.mul_left_comm]

theorem wordZ_eq (z : Int) : wordZ z = (z + 2147483648) % 4294967296 - 2147483648 := by
  unfold wordZ IntKind.wrap
  simp [IntKind.bits, IntKind.signed]
  split <;> split <;> omega

theorem wordZ_cg (z : Int) : Cg (wordZ z) z := by
  rw [wordZ_eq]
  exact ⟨-((z + 2147483648) / 4294967296), by omega⟩

theorem wordZ_same {a b : Int} (h : Cg a b) : wordZ a = wordZ b := by
  obtain ⟨k, rfl⟩ := h
  rw [wordZ_eq, wordZ_eq]
  omega

theorem wordZ_id {z : Int} (h : isWord z) : wordZ z = z := by
  unfold isWord at h
  rw [wordZ_eq]
  omega

theorem sumRow_word (l : List Int) (row : List (Int × Int)) : isWord (sumRow l row) := by
  have h := times_words [row] l (sumRow l row) (by simp [timesL])
  exact h

theorem sumRow_add {a b c : List Int} (hc : ∀ i, Cg (c.getD i 0) (a.getD i 0 + b.getD i 0)) (row : List (Int × Int)) : Cg (sumRow c row) (sumRow a row + sumRow b row) := by
  have key : ∀ (row : List (Int × Int)) (sa sb sc : Int), Cg sc (sa + sb) →
      Cg (row.foldl (fun s e => wordZ (s + wordZ (e.2 * c.getD e.1.toNat 0))) sc) (row.foldl (fun s e => wordZ (s + wordZ (e.2 * a.getD e.1.toNat 0))) sa + row.foldl (fun s e => wordZ (s + wordZ (e.2 * b.getD e.1.toNat 0))) sb) := by
    intro row
    induction row with
    | nil => intro sa sb sc h; exact h
    | cons e r ih =>
      intro sa sb sc h
      simp only [List.foldl_cons]
      apply ih
      have h1 := Cg.mul e.2 (hc e.1.toNat)
      rw [Int.mul_add] at h1
      have t1 := (wordZ_cg (sc + wordZ (e.2 * c.getD e.1.toNat 0))).trans ((Cg.refl sc).add (wordZ_cg (e.2 * c.getD e.1.toNat 0)))
      have t2 := (wordZ_cg (sa + wordZ (e.2 * a.getD e.1.toNat 0))).trans ((Cg.refl sa).add (wordZ_cg (e.2 * a.getD e.1.toNat 0)))
      have t3 := (wordZ_cg (sb + wordZ (e.2 * b.getD e.1.toNat 0))).trans ((Cg.refl sb).add (wordZ_cg (e.2 * b.getD e.1.toNat 0)))
      have t4 := (t2.add t3).symm
      refine t1.trans ((h.add h1).trans ?_)
      refine Cg.trans ?_ t4
      exact ⟨0, by omega⟩
  exact key row 0 0 0 ⟨0, by omega⟩

/-- THE THEOREM OF THE ROWS, as words -/
theorem sums_law {a b c : List Int} (hc : ∀ i, Cg (c.getD i 0) (a.getD i 0 + b.getD i 0)) (row : List (Int × Int)) : sumRow c row = wordZ (wordZ (sumRow a row) + wordZ (sumRow b row)) := by
  rw [← wordZ_id (sumRow_word c row)]
  apply wordZ_same
  exact (sumRow_add hc row).trans ((wordZ_cg _).add (wordZ_cg _)).symm

/-! two laws of one function -/
def orC (c d : Con) : Con where
  f := c.f
  X := c.X ⊕ d.X
  dom := fun
    | .inl x => c.dom x
    | .inr x => d.dom x
  enc := fun
    | .inl x => c.enc x
    | .inr x => d.enc x
  res := fun
    | .inl x => c.res x
    | .inr x => d.res x

theorem orC_ok {c d : Con} (hc : c.Ok Tryd.prog ED) (hd : d.Ok Tryd.prog ED) (hf : d.f = c.f) : (orC c d).Ok Tryd.prog ED := by
  refine ⟨fun x hx => ?_, fun x hx => ?_⟩
  · cases x with
    | inl x => exact hc.pers x hx
    | inr x => exact hd.pers x hx
  · cases x with
    | inl x => exact hc.sound x hx
    | inr x =>
      have := hd.sound x hx
      rw [hf] at this
      exact this

theorem orC_cong {c d : Con} (hc : c.Cong) (hd : d.Cong) (hne : ∀ x y, c.enc x ≠ d.enc y) : (orC c d).Cong := by
  intro x y hx hy h
  cases x with
  | inl x => cases y with
    | inl y => exact hc x y hx hy h
    | inr y => exact absurd h (hne x y)
  | inr x => cases y with
    | inl y => exact absurd h.symm (hne y x)
    | inr y => exact hd x y hx hy h

theorem defineC_cong (nm : List UInt8) (t : Ty) (dom : GV → Prop) (out : GV → Option (List Int)) : (defineC nm t dom out).Cong := fun (x y : GV) _ _ h => by
  have h' : [AV.str nm, x.enc] = [AV.str nm, y.enc] := h
  simp only [List.cons.injEq, and_true, true_and] at h'
  rw [GV.enc_inj h']

def sumsD : Con := orC spmvD walkD
theorem sumsD_ok : sumsD.Ok Tryd.prog ED := orC_ok spmvD_ok walkD_ok rfl
theorem sumsD_cong : sumsD.Cong := orC_cong (defineC_cong _ _ _ _) (defineC_cong _ _ _ _) fun (x y : GV) h => by
  have h' : [AV.str nSpmv, x.enc] = [AV.str nWalk, y.enc] := h
  simp only [List.cons.injEq, AV.str.injEq] at h'
  exact absurd h'.1 (by decide)

/-! rows as values -/
theorem rows_facts : ∀ (rs : List (List (Int × Int))), (∀ r ∈ rs, r.length ≤ 1000) → GV.slims (rs.map duosV) ∧ GV.nodess (rs.map duosV) ≤ 3001 * rs.length ∧ GV.deeps (rs.map duosV) ≤ 2
  | [], _ => ⟨trivial, Nat.le_refl _, by simp [GV.deeps]⟩
  | r :: rs, h => by
    obtain ⟨h1, h2, h3⟩ := rows_facts rs (fun x hx => h x (by simp [hx]))
    obtain ⟨f1, f2, f3⟩ := duos_facts r
    have hr := h r (by simp)
    refine ⟨⟨⟨by simpa using hr, f1⟩, h1⟩, ?_, ?_⟩
    · simp only [List.map_cons, GV.nodess, duosV, GV.nodes, List.length_cons] at h2 ⊢
      rw [f2]; omega
    · simp only [List.map_cons, GV.deeps, duosV, GV.deep] at h3 ⊢
      omega

theorem rows_ty {rs : List (List (Int × Int))} {l : List Int} (h : TimesOk rs l) : HasTy (.seq tDuos) (rowsV rs) := by
  refine ⟨by simpa [rowsV] using h.1.1, hasTys_map fun r hr => duos_ty (fun e he => ?_) (h.1.2 r hr)⟩
  obtain ⟨p0, p1, p2⟩ := h.2.2.2 r hr e he
  have := h.2.1
  refine ⟨?_, p2⟩
  unfold isWord
  omega

theorem nums_ty {zs : List Int} (h : ∀ z ∈ zs, isWord z) (hl : zs.length ≤ 1000) : HasTy (.seq .num) (nums zs) :=
  ⟨by simpa using hl, hasTys_map fun z hz => h z hz⟩

theorem spmvD_use {cs : List Con} (h : sumOf cs 9 = sumsD.look) {n : Nat} {rs : List (List (Int × Int))} {l : List Int} {v : AV} {S : St} (hok : TimesOk rs l) (h5 : rs.length ≤ 5) (hv : v.dead = (GV.pair (rowsV rs) (nums l)).enc) :
    callS ED (sumOf cs) n (.fn 9) [.str nSpmv, v] S = some (.ret (.tup [(nums (timesL rs l)).enc, .int .i64 0]), S) := by
  obtain ⟨f1, f2, f3⟩ := rows_facts rs hok.1.2
  obtain ⟨g1, g2, g3⟩ := nums_facts l
  have hl := hok.2.1
  have hout : spmvOut (.pair (rowsV rs) (nums l)) = some (timesL rs l) := by simp [spmvOut, rowsOf_rows, wordsOf_nums]
  have := Con.use (E := ED) sumsD_cong h (n := n) (args := [.str nSpmv, v]) (S := S) (Sum.inl (GV.pair (rowsV rs) (nums l)))
    ⟨⟨rs, l, rfl, hok⟩, ⟨rows_ty hok, nums_ty hok.2.2.1 hl⟩, ⟨⟨by simpa using hok.1.1, f1⟩, by simpa using hl, g1⟩, by simp only [GV.nodes, rowsV, nums, g2]; omega, by simp only [GV.deep, rowsV, nums]; omega,
      fun zs hz => by rw [hout] at hz; cases hz; rw [times_len]; exact hok.1.1⟩ (by show [(AV.str nSpmv).dead, v.dead] = [.str nSpmv, (GV.pair (rowsV rs) (nums l)).enc]; rw [hv]; rfl)
  rw [show sumsD.res (Sum.inl (GV.pair (rowsV rs) (nums l))) = .ret (.tup [(nums (timesL rs l)).enc, .int .i64 0]) from by
    show (match spmvOut (.pair (rowsV rs) (nums l)) with | some zs => FRes.ret (.tup [(nums zs).enc, .int .i64 0]) | none => .ret (.tup [errV, .int .i64 14])) = _
    rw [hout]] at this
  exact this

theorem walkD_use {cs : List Con} (h : sumOf cs 9 = sumsD.look) {n N : Nat} {rs : List (List (Int × Int))} {l : List Int} {v : AV} {S : St} (hok : TimesOk rs l) (h5 : rs.length ≤ 5) (hN : N ≤ 30) (hlen : l.length = rs.length)
    (hv : v.dead = (GV.pair (.num N) (.pair (rowsV rs) (nums l))).enc) :
    callS ED (sumOf cs) n (.fn 9) [.str nWalk, v] S = some (.ret (.tup [(nums (iterL rs N l)).enc, .int .i64 0]), S) := by
  obtain ⟨f1, f2, f3⟩ := rows_facts rs hok.1.2
  obtain ⟨g1, g2, g3⟩ := nums_facts l
  have hl := hok.2.1
  have hout : walkOut (.pair (.num N) (.pair (rowsV rs) (nums l))) = some (iterL rs N l) := by simp [walkOut, rowsOf_rows, wordsOf_nums]
  have := Con.use (E := ED) sumsD_cong h (n := n) (args := [.str nWalk, v]) (S := S) (Sum.inr (GV.pair (.num N) (.pair (rowsV rs) (nums l))))
    ⟨⟨N, rs, l, rfl, hN, hok, hlen⟩, ⟨by show isWord (N : Int); unfold isWord; omega, rows_ty hok, nums_ty hok.2.2.1 hl⟩, ⟨trivial, ⟨by simpa using hok.1.1, f1⟩, by simpa using hl, g1⟩, by simp only [GV.nodes, rowsV, nums, g2]; omega, by simp only [GV.deep, rowsV, nums]; omega,
      fun zs hz => by rw [hout] at hz; cases hz; rw [(iterL_ok hok hlen N).2]; exact hok.1.1⟩ (by show [(AV.str nWalk).dead, v.dead] = [.str nWalk, (GV.pair (.num N) (.pair (rowsV rs) (nums l))).enc]; rw [hv]; rfl)
  rw [show sumsD.res (Sum.inr (GV.pair (.num N) (.pair (rowsV rs) (nums l)))) = .ret (.tup [(nums (iterL rs N l)).enc, .int .i64 0]) from by
    show (match walkOut (.pair (.num N) (.pair (rowsV rs) (nums l))) with | some zs => FRes.ret (.tup [(nums zs).enc, .int .i64 0]) | none => .ret (.tup [errV, .int .i64 14])) = _
    rw [hout]] at this
  exact this

theorem pair_use' {cs : List Con} (h : sumOf cs 10 = pairC.look) {n : Nat} {a b : GV} {v w : AV} {S : St} (hv : v.dead = a.enc) (hw : w.dead = b.enc) : callS ED (sumOf cs) n (.fn 10) [v, w] S = some (.ret (GV.pair a b).enc, S) :=
  Con.use (c := pairC) (fun x y _ _ h => by simp only [pairC, List.cons.injEq, and_true] at h; simp only [pairC, GV.enc]; rw [h.1, h.2]) h (a, b) trivial (by show [v.dead, w.dead] = [a.enc, b.enc]; rw [hv, hw])

/-- values put behind none -/
theorem append_vals {S : St} (ys : List GV) (hlen : ys.length ≤ 10000) :
    ∃ v' S' T', appendA ED S 26 (.slice [] .full) (GV.encs ys) = some (v', S') ∧ LiveT S' 3 v' (GV.encs ys) T' ∧ S.n ≤ S'.n ∧ Kept none S S' ∧ ∀ j, T' = some j → S.n ≤ j := by
  by_cases hy : ys = []
  · subst hy
    refine ⟨.slice [] .full, S, none, ?_, .inr rfl, Nat.le_refl _, ⟨Nat.le_refl _, fun _ _ _ h => h, fun _ _ h => h⟩, by simp⟩
    unfold appendA
    simp [GV.encs, ti26]
  · have h1 : ((GV.encs ys).flatMap AV.cells).all (·.isCell) = true := by
      rw [GV.encs_map]
      rw [List.all_eq_true]
      intro x hx
      obtain ⟨e, he, hxe⟩ := List.mem_flatMap.1 hx
      obtain ⟨g, _, rfl⟩ := List.mem_map.1 he
      exact List.all_eq_true.1 (GV.enc_allCell g) x hxe
    have h2 : (GV.encs ys).all (fun v => v.cells.length = 3) = true := by
      rw [List.all_eq_true]
      intro x hx
      simpa using encs_cells x hx
    obtain ⟨v', S', a1, a2, a3, a4⟩ := append_T (E := ED) (S := S) (i := ti26) (es := []) (T := none) (v := .slice [] .full) (new := GV.encs ys) ED_ti26 (by decide) (.inr rfl) rfl h1 h2
      (by cases ys <;> simp_all [GV.encs]) (by simp [roomOk, roomMost, ti26]; omega)
    exact ⟨v', S', some S.n, a1, a2, by omega, a4, fun j hj => by cases hj; exact Nat.le_refl _⟩

end Go.Proofs.YtjgigcaelcapdaaDoor

namespace Go.Proofs.YtjgigcaelcapdaaDoor
open Go Go.Vm Go.Vm.T
set_option maxRecDepth 100000
set_option linter.unusedSimpArgs false
set_option linter.unusedVariables false

set_option maxHeartbeats 4000000

def csS : List Con := [turnC, nthC, wrapC 20, wordC, pairC, seqC, pairsC, wordsC, sumsD, sameC, graphedC]
theorem csS_ok : ∀ d ∈ csS, d.Ok Tryd.prog ED := by
  simpa [csS] using ⟨turn_ok, nth_ok, Word_ok, word_ok, pair_ok, seq_ok, pairs_ok, words_ok, sumsD_ok, same_ok, graphed_ok⟩

theorem wrap_tdiv {n : Int} (h : I64 n) (k : Int) (hk : 1 ≤ k) : IntKind.i64.wrap (n.tdiv k) = n.tdiv k := by
  rw [i64_iff] at h
  have h1 : (n.tdiv k).natAbs ≤ n.natAbs := by rw [Int.natAbs_tdiv]; exact Nat.div_le_self _ _
  by_cases hm : n = -9223372036854775808 ∧ n.tdiv k = 9223372036854775808
  · obtain ⟨e1, e2⟩ := hm
    have h3 : n.tdiv k ≤ 0 := by
      rcases Int.le_total 0 (n.tdiv k) with h | h
      · rw [e1] at h ⊢
        have := Int.neg_tdiv 9223372036854775808 k
        rw [this] at h ⊢
        have := Int.tdiv_nonneg (a := 9223372036854775808) (b := k) (by omega) (by omega)
        omega
      · exact h
    omega
  · exact wrap_id (by omega) (by omega)

structure Law3X where
  v : AV
  zs : List Int
  w : AV
  ys : List Int
  n : Int
def law3C (f : FuncId) : Con where
  f := f
  X := Law3X
  dom x := IntsD x.v x.zs ∧ x.zs.length ≤ maxLen ∧ IntsD x.w x.ys ∧ x.ys.length ≤ maxLen ∧ I64 x.n
  enc x := [x.v, x.w, .int .i64 x.n]
  res _ := .ret (.bool true)

def rowN (zl : List Int) (j : Nat) : Nat := (turnZ (nthZ zl j) 4).toNat
def rowE (zl zm : List Int) (N : Nat) (j k : Nat) : Int × Int := (turnZ (nthZ zl (3 * j + k)) N, wordZ (nthZ zm (5 * j + k)))
def rowAt (zl zm : List Int) (N : Nat) (j k : Nat) : List (Int × Int) := (List.range k).map (rowE zl zm N j)
def rowsAt (zl zm : List Int) (N : Nat) (j : Nat) : List (List (Int × Int)) := (List.range j).map fun i => rowAt zl zm N i (rowN zl i)
def aE (zl : List Int) (j : Nat) : Int := wordZ (nthZ zl (j + 7))
def bE (zm : List Int) (j : Nat) : Int := wordZ (nthZ zm (j + 3))
def cE (zl zm : List Int) (j : Nat) : Int := wordZ (aE zl j + bE zm j)
def upTo (f : Nat → Int) (j : Nat) : List Int := (List.range j).map f
theorem upTo_succ (f : Nat → Int) (j : Nat) : upTo f (j + 1) = upTo f j ++ [f j] := by simp [upTo, List.range_succ]
theorem upTo_len (f : Nat → Int) (j : Nat) : (upTo f j).length = j := by simp [upTo]
theorem upTo_get (f : Nat → Int) (j i : Nat) : (upTo f j).getD i 0 = if i < j then f i else 0 := by
  rw [List.getD_eq_getElem?_getD]
  unfold upTo
  split
  · rename_i h; simp [h]
  · rename_i h; simp [List.getElem?_eq_none (show (List.range j).length ≤ i by simp; omega)]

def Dis (T U : Option Nat) : Prop := ∀ t, T = some t → U ≠ some t
theorem Dis.symm {T U : Option Nat} (h : Dis T U) : Dis U T := fun t e k => h t k e
theorem Dis.new {S : St} {v : AV} {zs : List Int} {U : Option Nat} (h : LiveS S v zs U) {n : Nat} (hn : S.n ≤ n) : Dis (some n) U := fun t e k => by
  cases e
  subst k
  have := h.1.lt
  omega
theorem LiveS.keep' {S S' : St} {v : AV} {zs : List Int} {T U : Option Nat} (h : LiveS S v zs T) (k : Kept U S S') (hne : Dis T U) : LiveS S' v zs T := h.keep k hne
theorem LiveS.put {S : St} {v : AV} {zs cs : List _} {i : Nat} {o : AO} {T : Option Nat} (h : LiveS S v zs T) (hi : S.cells? i = some cs) : LiveS (S.put i o) v zs T := ⟨h.1.put hi, h.2⟩

/-- a list of rows, of which copies are made -/
def RL (v : AV) (es : List GV) : Prop := (v = .nils ∧ es = []) ∨ ∃ tk, v = .slice (GV.encs es) tk ∧ es ≠ []
theorem RL.facts {v : AV} {es : List GV} (h : RL v es) : v.known = true ∧ v.isCell = true ∧ v.cells = [v] ∧ (∀ S, elemsA ED S 26 v = some (GV.encs es)) ∧ v.dead = lst (GV.encs es) := by
  rcases h with ⟨rfl, rfl⟩ | ⟨tk, rfl, hne⟩
  · exact ⟨rfl, rfl, rfl, fun _ => rfl, rfl⟩
  · refine ⟨rfl, rfl, rfl, fun _ => rfl, ?_⟩
    cases es with
    | nil => exact absurd rfl hne
    | cons a r =>
      have := GV.encs_dead (a :: r)
      simp only [AV.dead, this]
      rfl

theorem put_is (S : St) (j : Nat) (o : AO) (i : Nat) : (S.put j o).cells? i = if i = j then (if j < S.n then cellsOf? o else none) else S.cells? i := by
  by_cases hj : j < S.n
  · rw [put_at _ _ _ _ hj, if_pos hj]
  · rw [if_neg hj]
    split
    · rename_i h
      subst h
      rw [cells?_def]
      have : (S.put i o).get i = none := by
        show (if i < S.n then _ else none) = none
        rw [if_neg hj]
      rw [this]; rfl
    · rename_i h
      exact cells?_put_ne S j o h

theorem elems_slice {S : St} {e : TypeId} {es : List AV} {tk : Tk} : elemsA ED S e (.slice es tk) = some es := rfl

theorem law6 : (law3C 6).Ok Tryd.prog ED := by
  refine Con.ok_at ED_ok ED_pers csS csS_ok (fun (x : Law3X) hx => ⟨by have h1 := hx.1.pers; have h2 := hx.2.2.1.pers; show AV.persL [x.v, x.w, .int .i64 x.n] = true; simp [AV.persL, AV.pers, h1, h2], rfl⟩) ?_
  rintro ⟨l, zl, m, zm, n⟩ ⟨hl, hll, hm, hlm, hn⟩
  replace hl : IntsD l zl := hl
  replace hll : zl.length ≤ maxLen := hll
  replace hm : IntsD m zm := hm
  replace hlm : zm.length ≤ maxLen := hlm
  replace hn : I64 n := hn
  show ∃ f, ∀ p : FRes → St → Prop, (∀ r S', r.melt S' = .ret (.bool true) → p r S') → GotF (callS ED (sumOf csS) f (.fn 6) [l, m, .int .i64 n] S0) p
  refine ⟨100, fun p hp => ?_⟩
  rw [callS_fn rfl]
  have d0 := @dr6_0
  have d1 := @dr6_1
  have d2 := @dr6_2
  have d3 := @dr6_3
  have d4 := @dr6_4
  have d5 := @dr6_5
  have d6 := @dr6_6
  have d7 := @dr6_7
  simp only [drA, drawsOf, Option.getD_some, List.nil_append, List.append_nil, List.getD_cons_zero, List.getD_cons_succ, List.cons_append, Tryd.f6] at d0 d1 d2 d3 d4 d5 d6 d7
  have uT := fun (n : Nat) (a b : Int) (S : St) (h : I64 b) => turn_use (cs := csS) rfl (n := n) (a := a) (b := b) (S := S) h
  have uT4 := fun (m : Nat) (a : Int) (S : St) => uT m a 4 S (by rw [i64_iff]; omega)
  have uT15 := fun (m : Nat) (a : Int) (S : St) => uT m a 15 S (by rw [i64_iff]; omega)
  have uNl := fun (f : Nat) (i : Int) (S : St) => nth_use (cs := csS) rfl (n := f) (v := l) (zs := zl) (i := i) (S := S) (by rw [dead_of_pers _ hl.pers]; exact hl) hll
  have uNm := fun (f : Nat) (i : Int) (S : St) => nth_use (cs := csS) rfl (n := f) (v := m) (zs := zm) (i := i) (S := S) (by rw [dead_of_pers _ hm.pers]; exact hm) hlm
  have uW := fun (f : Nat) (a : Int) (S : St) => Word_use (cs := csS) rfl (n := f) (a := a) (S := S)
  have uw := fun (f : Nat) (a : Int) (S : St) => word_use (cs := csS) rfl (n := f) (a := a) (S := S)
  have uG := fun (f : Nat) (S : St) => graphed_use (cs := csS) rfl (n := f) (S := S)
  have uS := fun (f : Nat) (S : St) => seq_use (cs := csS) rfl (n := f) (S := S) (l := []) (v := .nils) rfl
  simp only [GV.enc, sv, GV.encs, lst] at uS
  have hmany := turnZ_le n (b := 4) (by decide)
  simp only [fnA, ED_fn6, fi6, Tryd.f6]
  have hw1 : IntKind.i64.wrap (1 + turnZ n 4) = 1 + turnZ n 4 := wrap_id (by omega) (by omega)
  simp [evalC_seq, evalC_region, runA_cons', runA_consN, runA_consG, guardR_true, guardR_false, guardV_bool, guardV_tup, runA_nil', inFrame, startLoc, startVals, Loc.clear, eff_move, eff_assign, eff_binOp, eff_build, eff_buildSlice, eff_alloc, eff_box, eff_store, eff_load, eff_fieldAddr, eff_field, eff_indexAddr, eff_slice, eff_extract, eff_pick, eff_unOp, eff_convert, eff_makeSlice, eff_makeFunc, eff_makeInterface, eff_nilCheck, eff_panic, eff_len1, eff_max2, eff_min2, eff_append2, eff_callV, stepE_val, contR_ok, contR_pan, outC_ok, outC_pan, thenC_normal, thenC_ret, thenC_exit, thenC_pan, blockC, evalC_ret, evalC_skip, evalC_exit, evalC_block, evalC_scope, evalC_loop, Loc.putO, Loc.put, idx, evO, constV, Loc.get, Vm.look, valO_some, bin_int, intA, evalC_cond, condC_true, condC_false, unwindA, resultsA, resultV, actA, pureA, storeA, loadA, fillE, repElems, TI.zeroV, fieldOf, fieldAddrA, fieldA, elemsA, retE, cells?_put_push, push_at, put_at, cellsOf?, Nat.add_assoc, n_push', n_put', isCell_undef, known_undef, cells_undef, isCell_bool, known_bool, cells_bool, isCell_int, known_int, cells_int, isCell_str, known_str, cells_str, isCell_nilp, known_nilp, cells_nilp, isCell_ptr, known_ptr, cells_ptr, isCell_rptr, known_rptr, cells_rptr, isCell_nils, known_nils, cells_nils, isCell_slice, known_slice, cells_slice, isCell_rsl, known_rsl, cells_rsl, isCell_nilm, known_nilm, cells_nilm, isCell_map, known_map, cells_map, isCell_fn, known_fn, cells_fn, isCell_yld, known_yld, cells_yld, isCell_nilf, known_nilf, cells_nilf, isCell_iface, known_iface, cells_iface, isCell_nili, known_nili, cells_nili, isCell_agg, known_agg, cells_agg, isCell_tup, known_tup, cells_tup, setCells, nowhere, GotF_some, Got_some, int_beq, int_bne, uT4, hw1, uS]
  obtain ⟨N, hN⟩ := Int.eq_ofNat_of_zero_le (show 0 ≤ 1 + turnZ n 4 by omega)
  rw [hN]
  have hN1 : 1 ≤ N := by omega
  have hN4 : N ≤ 4 := by omega
  have uM := fun (f : Nat) (a : Int) (S : St) => uT f a N S (by rw [i64_iff]; omega)
  clear uT
  generalize hc : iter _ _ _ _ = c
  obtain ⟨e1, L1, S1, rfl, hq⟩ := loop_of hc
    (fun r L S => ∃ j sc a13 a14 v va vb vc Ta Tb Tc, j + r = N ∧ L = vloc [l, m, .int .i64 n, .bool false, .int .i64 N, .ptr 0 0, va, vb, vc, .int .i64 (j : Nat), a13, a14, .undef, .undef, .undef, .undef, .undef, .undef, .undef, .undef, .undef, .undef, .undef, .undef] sc ∧
      S.cells? 0 = some [.int .i64 4, .int .i64 0, v] ∧ RL v ((rowsAt zl zm N j).map duosV) ∧ LiveS S va (upTo (aE zl) j) Ta ∧ LiveS S vb (upTo (bE zm) j) Tb ∧ LiveS S vc (upTo (cE zl zm) j) Tc ∧ Dis Ta Tb ∧ Dis Ta Tc ∧ Dis Tb Tc)
    (fun e L S => e = .exit 0 ∧ ∃ sc a12 a13 a14 v va vb vc Ta Tb Tc, L = vloc [l, m, .int .i64 n, .bool false, .int .i64 N, .ptr 0 0, va, vb, vc, a12, a13, a14, .undef, .undef, .undef, .undef, .undef, .undef, .undef, .undef, .undef, .undef, .undef, .undef] sc ∧
      S.cells? 0 = some [.int .i64 4, .int .i64 0, v] ∧ RL v ((rowsAt zl zm N N).map duosV) ∧ LiveS S va (upTo (aE zl) N) Ta ∧ LiveS S vb (upTo (bE zm) N) Tb ∧ LiveS S vc (upTo (cE zl zm) N) Tc)
    N (by omega)
    (by
      refine ⟨0, _, _, _, .nils, .slice [] .full, .slice [] .full, .slice [] .full, none, none, none, by simp, rfl, ?_, .inl ⟨rfl, rfl⟩, ⟨.inr rfl, by simp⟩, ⟨.inr rfl, by simp⟩, ⟨.inr rfl, by simp⟩, by simp [Dis], by simp [Dis], by simp [Dis]⟩
      simp [push_at, put_at, n_push', n_put', cellsOf?])
    (by
      rintro r L S ⟨j, sc, a13, a14, v, va, vb, vc, Ta, Tb, Tc, hjk, rfl, g0, gr, ga, gb, gc, dab, dac, dbc⟩ q hq1 hq2
      by_cases hj : j < N
      · have hwj : IntKind.i64.wrap ((j : Int) + 1) = ((j : Int) + 1) := wrap_id (by omega) (by omega)
        simp [evalC_seq, evalC_region, runA_cons', runA_consN, runA_consG, guardR_true, guardR_false, guardV_bool, guardV_tup, runA_nil', inFrame, startLoc, startVals, Loc.clear, eff_move, eff_assign, eff_binOp, eff_build, eff_buildSlice, eff_alloc, eff_box, eff_store, eff_load, eff_fieldAddr, eff_field, eff_indexAddr, eff_slice, eff_extract, eff_pick, eff_unOp, eff_convert, eff_makeSlice, eff_makeFunc, eff_makeInterface, eff_nilCheck, eff_panic, eff_len1, eff_max2, eff_min2, eff_append2, eff_callV, stepE_val, contR_ok, contR_pan, outC_ok, outC_pan, thenC_normal, thenC_ret, thenC_exit, thenC_pan, blockC, evalC_ret, evalC_skip, evalC_exit, evalC_block, evalC_scope, evalC_loop, Loc.putO, Loc.put, idx, evO, constV, Loc.get, Vm.look, valO_some, bin_int, intA, evalC_cond, condC_true, condC_false, unwindA, resultsA, resultV, actA, pureA, storeA, loadA, fillE, repElems, TI.zeroV, fieldOf, fieldAddrA, fieldA, elemsA, retE, cells?_put_push, push_at, put_at, cellsOf?, Nat.add_assoc, n_push', n_put', isCell_undef, known_undef, cells_undef, isCell_bool, known_bool, cells_bool, isCell_int, known_int, cells_int, isCell_str, known_str, cells_str, isCell_nilp, known_nilp, cells_nilp, isCell_ptr, known_ptr, cells_ptr, isCell_rptr, known_rptr, cells_rptr, isCell_nils, known_nils, cells_nils, isCell_slice, known_slice, cells_slice, isCell_rsl, known_rsl, cells_rsl, isCell_nilm, known_nilm, cells_nilm, isCell_map, known_map, cells_map, isCell_fn, known_fn, cells_fn, isCell_yld, known_yld, cells_yld, isCell_nilf, known_nilf, cells_nilf, isCell_iface, known_iface, cells_iface, isCell_nili, known_nili, cells_nili, isCell_agg, known_agg, cells_agg, isCell_tup, known_tup, cells_tup, setCells, nowhere, GotF_some, Got_some, int_beq, int_bne, vloc, hj]
        generalize hc2 : iter _ _ _ _ = c2
        have hK := turnZ_le (nthZ zl j) (b := 4) (by decide)
        obtain ⟨K, hKe⟩ := Int.eq_ofNat_of_zero_le hK.1
        have hKN : rowN zl j = K := by unfold rowN; omega
        obtain ⟨e2, L2, S2, rfl, hq'⟩ := loop_of hc2
          (fun r2 L S => ∃ k sc w Tw, k + r2 = K ∧ L = vloc [l, m, .int .i64 n, .bool false, .int .i64 N, .ptr 0 0, va, vb, vc, .int .i64 (j : Nat), w, .int .i64 (k : Nat), .undef, .undef, .undef, .undef, .undef, .undef, .undef, .undef, .undef, .undef, .undef, .undef] sc ∧
            S.cells? 0 = some [.int .i64 4, .int .i64 0, v] ∧ LiveS S va (upTo (aE zl) j) Ta ∧ LiveS S vb (upTo (bE zm) j) Tb ∧ LiveS S vc (upTo (cE zl zm) j) Tc ∧ LiveS S w (flat (rowAt zl zm N j k)) Tw ∧ Dis Ta Tw ∧ Dis Tb Tw ∧ Dis Tc Tw)
          (fun e L S => e = .exit 2 ∧ ∃ sc w a14 Tw, L = vloc [l, m, .int .i64 n, .bool false, .int .i64 N, .ptr 0 0, va, vb, vc, .int .i64 (j : Nat), w, a14, .undef, .undef, .undef, .undef, .undef, .undef, .undef, .undef, .undef, .undef, .undef, .undef] sc ∧
            S.cells? 0 = some [.int .i64 4, .int .i64 0, v] ∧ LiveS S va (upTo (aE zl) j) Ta ∧ LiveS S vb (upTo (bE zm) j) Tb ∧ LiveS S vc (upTo (cE zl zm) j) Tc ∧ LiveS S w (flat (rowAt zl zm N j K)) Tw)
          K (by omega)
          ⟨0, _, .slice [] .full, none, by simp, rfl, g0, ga, gb, gc, ⟨.inr rfl, by simp⟩, by simp [Dis], by simp [Dis], by simp [Dis]⟩
          (by
            rintro r2 L S ⟨k, sc, w, Tw, hkk, rfl, g0, ga, gb, gc, gw, daw, dbw, dcw⟩ q' hq1' hq2'
            by_cases hk : k < K
            · have hwk : IntKind.i64.wrap ((k : Int) + 1) = ((k : Int) + 1) := wrap_id (by omega) (by omega)
              have hw3 : IntKind.i64.wrap (3 * (j : Int)) = 3 * (j : Int) := wrap_id (by omega) (by omega)
              have hw5 : IntKind.i64.wrap (5 * (j : Int)) = 5 * (j : Int) := wrap_id (by omega) (by omega)
              have hw3k : IntKind.i64.wrap (3 * (j : Int) + k) = 3 * (j : Int) + k := wrap_id (by omega) (by omega)
              have hw5k : IntKind.i64.wrap (5 * (j : Int) + k) = 5 * (j : Int) + k := wrap_id (by omega) (by omega)
              have hkK : (k : Int) < turnZ (nthZ zl j) 4 := by omega
              obtain ⟨w', S', c1, k1, k2, k3⟩ := gw.append [(rowE zl zm N j k).1, (rowE zl zm N j k).2] (by simp) (by simp [rowAt]; omega)
              simp only [ints, List.map_cons, List.map_nil, rowE] at c1
              simp [evalC_seq, evalC_region, runA_cons', runA_consN, runA_consG, guardR_true, guardR_false, guardV_bool, guardV_tup, runA_nil', inFrame, startLoc, startVals, Loc.clear, eff_move, eff_assign, eff_binOp, eff_build, eff_buildSlice, eff_alloc, eff_box, eff_store, eff_load, eff_fieldAddr, eff_field, eff_indexAddr, eff_slice, eff_extract, eff_pick, eff_unOp, eff_convert, eff_makeSlice, eff_makeFunc, eff_makeInterface, eff_nilCheck, eff_panic, eff_len1, eff_max2, eff_min2, eff_append2, eff_callV, stepE_val, contR_ok, contR_pan, outC_ok, outC_pan, thenC_normal, thenC_ret, thenC_exit, thenC_pan, blockC, evalC_ret, evalC_skip, evalC_exit, evalC_block, evalC_scope, evalC_loop, Loc.putO, Loc.put, idx, evO, constV, Loc.get, Vm.look, valO_some, bin_int, intA, evalC_cond, condC_true, condC_false, unwindA, resultsA, resultV, actA, pureA, storeA, loadA, fillE, repElems, TI.zeroV, fieldOf, fieldAddrA, fieldA, elemsA, retE, cells?_put_push, push_at, put_at, cellsOf?, Nat.add_assoc, n_push', n_put', isCell_undef, known_undef, cells_undef, isCell_bool, known_bool, cells_bool, isCell_int, known_int, cells_int, isCell_str, known_str, cells_str, isCell_nilp, known_nilp, cells_nilp, isCell_ptr, known_ptr, cells_ptr, isCell_rptr, known_rptr, cells_rptr, isCell_nils, known_nils, cells_nils, isCell_slice, known_slice, cells_slice, isCell_rsl, known_rsl, cells_rsl, isCell_nilm, known_nilm, cells_nilm, isCell_map, known_map, cells_map, isCell_fn, known_fn, cells_fn, isCell_yld, known_yld, cells_yld, isCell_nilf, known_nilf, cells_nilf, isCell_iface, known_iface, cells_iface, isCell_nili, known_nili, cells_nili, isCell_agg, known_agg, cells_agg, isCell_tup, known_tup, cells_tup, setCells, nowhere, GotF_some, Got_some, int_beq, int_bne, vloc, uNl, uNm, uT4, uM, uW, hkK, hw3, hw5, hw3k, hw5k, hwk, c1]
              refine hq1' (r2 - 1) _ _ (by omega) ⟨k + 1, _, w', some S.n, by omega, rfl, k3.cells _ _ g0, ga.keep' k3 daw, gb.keep' k3 dbw, gc.keep' k3 dcw, ?_, (Dis.new ga (Nat.le_refl _)).symm, (Dis.new gb (Nat.le_refl _)).symm, (Dis.new gc (Nat.le_refl _)).symm⟩
              rw [show rowAt zl zm N j (k + 1) = rowAt zl zm N j k ++ [rowE zl zm N j k] from by simp [rowAt, List.range_succ], flat_append]
              exact k1
            · have hkl : k = K := by omega
              subst hkl
              have hkK : ¬ (k : Int) < turnZ (nthZ zl j) 4 := by omega
              simp [evalC_seq, evalC_region, runA_cons', runA_consN, runA_consG, guardR_true, guardR_false, guardV_bool, guardV_tup, runA_nil', inFrame, startLoc, startVals, Loc.clear, eff_move, eff_assign, eff_binOp, eff_build, eff_buildSlice, eff_alloc, eff_box, eff_store, eff_load, eff_fieldAddr, eff_field, eff_indexAddr, eff_slice, eff_extract, eff_pick, eff_unOp, eff_convert, eff_makeSlice, eff_makeFunc, eff_makeInterface, eff_nilCheck, eff_panic, eff_len1, eff_max2, eff_min2, eff_append2, eff_callV, stepE_val, contR_ok, contR_pan, outC_ok, outC_pan, thenC_normal, thenC_ret, thenC_exit, thenC_pan, blockC, evalC_ret, evalC_skip, evalC_exit, evalC_block, evalC_scope, evalC_loop, Loc.putO, Loc.put, idx, evO, constV, Loc.get, Vm.look, valO_some, bin_int, intA, evalC_cond, condC_true, condC_false, unwindA, resultsA, resultV, actA, pureA, storeA, loadA, fillE, repElems, TI.zeroV, fieldOf, fieldAddrA, fieldA, elemsA, retE, cells?_put_push, push_at, put_at, cellsOf?, Nat.add_assoc, n_push', n_put', isCell_undef, known_undef, cells_undef, isCell_bool, known_bool, cells_bool, isCell_int, known_int, cells_int, isCell_str, known_str, cells_str, isCell_nilp, known_nilp, cells_nilp, isCell_ptr, known_ptr, cells_ptr, isCell_rptr, known_rptr, cells_rptr, isCell_nils, known_nils, cells_nils, isCell_slice, known_slice, cells_slice, isCell_rsl, known_rsl, cells_rsl, isCell_nilm, known_nilm, cells_nilm, isCell_map, known_map, cells_map, isCell_fn, known_fn, cells_fn, isCell_yld, known_yld, cells_yld, isCell_nilf, known_nilf, cells_nilf, isCell_iface, known_iface, cells_iface, isCell_nili, known_nili, cells_nili, isCell_agg, known_agg, cells_agg, isCell_tup, known_tup, cells_tup, setCells, nowhere, GotF_some, Got_some, int_beq, int_bne, vloc, uNl, uT4, hkK]
              exact hq2' _ _ _ (by simp) ⟨rfl, _, w, _, Tw, rfl, g0, ga, gb, gc, gw⟩)
        obtain ⟨rfl, sc', w, a14', Tw, rfl, g0, ga, gb, gc, gw⟩ := hq'
        obtain ⟨tkw, rfl⟩ := gw.cases
        have hrow : rowsAt zl zm N (j + 1) = rowsAt zl zm N j ++ [rowAt zl zm N j K] := by simp [rowsAt, List.range_succ, hKN]
        have uP := fun (f : Nat) (S : St) => pairs_use (cs := csS) rfl (n := f) (v := .slice (ints (flat (rowAt zl zm N j K))) tkw) (es := rowAt zl zm N j K) (S := S) (by simp [AV.dead]) (by simp [rowAt]; omega)
        obtain ⟨rk1, rk2, rk3, rk4, rk5⟩ := gr.facts
        have hyl : ((rowsAt zl zm N j).map duosV).length ≤ 10000 := by simp [rowsAt]; omega
        generalize hys : (rowsAt zl zm N j).map duosV = ys at *
        generalize hrw : rowAt zl zm N j K = row at *
        obtain ⟨v1, Sa, T1, c1, h1, h2, h3, h4⟩ := append_vals (S := S2) ys hyl
        obtain ⟨v2, Sb, c2, h5, h6, h7⟩ := append_gv (g := duosV row) h1 hyl
        have z0 := h7.cells _ _ (h3.cells _ _ g0)
        have hd1 : ∀ {va' : AV} {zs : List Int} {T : Option Nat}, LiveS S2 va' zs T → Dis T T1 := fun h t e k => by
          subst e
          have := h.1.lt
          have := h4 t k
          omega
        have ga1 := ((ga.keep' h3 (fun t e k => by cases k)).keep' h7 (hd1 ga)).put (o := .cells [.int .i64 4, .int .i64 0, v2]) z0
        have gb1 := ((gb.keep' h3 (fun t e k => by cases k)).keep' h7 (hd1 gb)).put (o := .cells [.int .i64 4, .int .i64 0, v2]) z0
        have gc1 := ((gc.keep' h3 (fun t e k => by cases k)).keep' h7 (hd1 gc)).put (o := .cells [.int .i64 4, .int .i64 0, v2]) z0
        have z1 := cells_put_self (ds := [.int .i64 4, .int .i64 0, v2]) z0
        obtain ⟨va', S4, c3, k1, k2, k3⟩ := ga1.append [aE zl j] (by simp) (by simp [upTo_len]; omega)
        have gb2 := gb1.keep' k3 dab.symm
        have gc2 := gc1.keep' k3 dac.symm
        obtain ⟨vb', S5, c4, m1, m2, m3⟩ := gb2.append [bE zm j] (by simp) (by simp [upTo_len]; omega)
        have ga3 := k1.keep' m3 (Dis.new gb1 (Nat.le_refl _))
        have gc3 := gc2.keep' m3 dbc.symm
        obtain ⟨vc', S6, c5, n1, n2, n3⟩ := gc3.append [cE zl zm j] (by simp) (by simp [upTo_len]; omega)
        have ga4 := ga3.keep' n3 (Dis.new gc1 (Nat.le_refl _))
        have gb4 := m1.keep' n3 (Dis.new gc2 (Nat.le_refl _))
        have z2 := n3.cells _ _ (m3.cells _ _ (k3.cells _ _ z1))
        obtain ⟨tka, rfl⟩ := k1.cases
        obtain ⟨tkb, rfl⟩ := m1.cases
        have hal := upTo_len (aE zl) j
        have hbl := upTo_len (bE zm) j
        have xa : indexAddrA ED 22 (.slice (ints (upTo (aE zl) j ++ [aE zl j])) tka) (.int .i64 j) = some (.rptr [.int .i64 (aE zl j)]) := by
          rw [index_ints (by omega) (by simp [hal])]
          simp [hal]
        have xb : indexAddrA ED 22 (.slice (ints (upTo (bE zm) j ++ [bE zm j])) tkb) (.int .i64 j) = some (.rptr [.int .i64 (bE zm j)]) := by
          rw [index_ints (by omega) (by simp [hbl])]
          simp [hbl]
        have aw : isWord (aE zl j) := wordZ_word _
        have bw : isWord (bE zm j) := wordZ_word _
        have hwab : IntKind.i64.wrap (aE zl j + bE zm j) = aE zl j + bE zm j := by
          unfold isWord at aw bw
          exact wrap_id (by omega) (by omega)
        have hw7 : IntKind.i64.wrap ((j : Int) + 7) = (j : Int) + 7 := wrap_id (by omega) (by omega)
        have hw3 : IntKind.i64.wrap ((j : Int) + 3) = (j : Int) + 3 := wrap_id (by omega) (by omega)
        have hae : wordZ (nthZ zl ((j : Int) + 7)) = aE zl j := rfl
        have hbe : wordZ (nthZ zm ((j : Int) + 3)) = bE zm j := rfl
        have hce : wordZ (aE zl j + bE zm j) = cE zl zm j := rfl
        simp only [ints, List.map_cons, List.map_nil] at c3 c4 c5
        have hv2 : v2.known = true ∧ v2.isCell = true ∧ v2.cells = [v2] := by rw [h5.1]; exact ⟨rfl, rfl, rfl⟩
        change appendA ED _ 3 va [.int .i64 (aE zl j)] = some (.slice (ints (upTo (aE zl) j ++ [aE zl j])) tka, S4) at c3
        change appendA ED _ 3 vb [.int .i64 (bE zm j)] = some (.slice (ints (upTo (bE zm) j ++ [bE zm j])) tkb, S5) at c4
        simp [evalC_seq, evalC_region, runA_cons', runA_consN, runA_consG, guardR_true, guardR_false, guardV_bool, guardV_tup, runA_nil', inFrame, startLoc, startVals, Loc.clear, eff_move, eff_assign, eff_binOp, eff_build, eff_buildSlice, eff_alloc, eff_box, eff_store, eff_load, eff_fieldAddr, eff_field, eff_indexAddr, eff_slice, eff_extract, eff_pick, eff_unOp, eff_convert, eff_makeSlice, eff_makeFunc, eff_makeInterface, eff_nilCheck, eff_panic, eff_len1, eff_max2, eff_min2, eff_append2, eff_callV, stepE_val, contR_ok, contR_pan, outC_ok, outC_pan, thenC_normal, thenC_ret, thenC_exit, thenC_pan, blockC, evalC_ret, evalC_skip, evalC_exit, evalC_block, evalC_scope, evalC_loop, Loc.putO, Loc.put, idx, evO, constV, Loc.get, Vm.look, valO_some, bin_int, intA, evalC_cond, condC_true, condC_false, unwindA, resultsA, resultV, actA, pureA, storeA, loadA, fillE, repElems, TI.zeroV, fieldOf, fieldAddrA, fieldA, retE, cells?_put_push, push_at, put_at, cellsOf?, Nat.add_assoc, n_push', n_put', isCell_undef, known_undef, cells_undef, isCell_bool, known_bool, cells_bool, isCell_int, known_int, cells_int, isCell_str, known_str, cells_str, isCell_nilp, known_nilp, cells_nilp, isCell_ptr, known_ptr, cells_ptr, isCell_rptr, known_rptr, cells_rptr, isCell_nils, known_nils, cells_nils, isCell_slice, known_slice, cells_slice, isCell_rsl, known_rsl, cells_rsl, isCell_nilm, known_nilm, cells_nilm, isCell_map, known_map, cells_map, isCell_fn, known_fn, cells_fn, isCell_yld, known_yld, cells_yld, isCell_nilf, known_nilf, cells_nilf, isCell_iface, known_iface, cells_iface, isCell_nili, known_nili, cells_nili, isCell_agg, known_agg, cells_agg, isCell_tup, known_tup, cells_tup, setCells, nowhere, GotF_some, Got_some, int_beq, int_bne, runC_nil, runC_cons, pickC_some, wantC_tt, wantC_tf, effC_val, ifC_true, checkC, inPairs, keepC, okC, readsC_load, readV_some, AV.beq_self, wantA_n, wantA_g, wantD_some, d0, vloc, g0, rk4, elems_slice, c1, uP, c2, z0, hv2, hw7, hw3, uNl, uNm, uW, hae, hbe, c3, c4, xa, xb, hwab, hce, c5, hwj]
        refine hq1 (r - 1) _ _ (by omega) ⟨j + 1, _, _, _, v2, _, _, vc', some (Sb.put 0 (.cells [.int .i64 4, .int .i64 0, v2])).n, some S4.n, some S5.n, by omega, rfl, z2, ?_, ?_, ?_, ?_, fun t e k => ?_, fun t e k => ?_, fun t e k => ?_⟩
        · rw [hrow, List.map_append, hys]
          exact .inr ⟨_, h5.1, by simp⟩
        · rw [upTo_succ]; exact ga4
        · rw [upTo_succ]; exact gb4
        · rw [upTo_succ]; exact n1
        · simp only [Option.some.injEq] at e k; omega
        · simp only [Option.some.injEq] at e k; omega
        · simp only [Option.some.injEq] at e k; omega
      · have hjl : j = N := by omega
        subst hjl
        simp [evalC_seq, evalC_region, runA_cons', runA_consN, runA_consG, guardR_true, guardR_false, guardV_bool, guardV_tup, runA_nil', inFrame, startLoc, startVals, Loc.clear, eff_move, eff_assign, eff_binOp, eff_build, eff_buildSlice, eff_alloc, eff_box, eff_store, eff_load, eff_fieldAddr, eff_field, eff_indexAddr, eff_slice, eff_extract, eff_pick, eff_unOp, eff_convert, eff_makeSlice, eff_makeFunc, eff_makeInterface, eff_nilCheck, eff_panic, eff_len1, eff_max2, eff_min2, eff_append2, eff_callV, stepE_val, contR_ok, contR_pan, outC_ok, outC_pan, thenC_normal, thenC_ret, thenC_exit, thenC_pan, blockC, evalC_ret, evalC_skip, evalC_exit, evalC_block, evalC_scope, evalC_loop, Loc.putO, Loc.put, idx, evO, constV, Loc.get, Vm.look, valO_some, bin_int, intA, evalC_cond, condC_true, condC_false, unwindA, resultsA, resultV, actA, pureA, storeA, loadA, fillE, repElems, TI.zeroV, fieldOf, fieldAddrA, fieldA, elemsA, retE, cells?_put_push, push_at, put_at, cellsOf?, Nat.add_assoc, n_push', n_put', isCell_undef, known_undef, cells_undef, isCell_bool, known_bool, cells_bool, isCell_int, known_int, cells_int, isCell_str, known_str, cells_str, isCell_nilp, known_nilp, cells_nilp, isCell_ptr, known_ptr, cells_ptr, isCell_rptr, known_rptr, cells_rptr, isCell_nils, known_nils, cells_nils, isCell_slice, known_slice, cells_slice, isCell_rsl, known_rsl, cells_rsl, isCell_nilm, known_nilm, cells_nilm, isCell_map, known_map, cells_map, isCell_fn, known_fn, cells_fn, isCell_yld, known_yld, cells_yld, isCell_nilf, known_nilf, cells_nilf, isCell_iface, known_iface, cells_iface, isCell_nili, known_nili, cells_nili, isCell_agg, known_agg, cells_agg, isCell_tup, known_tup, cells_tup, setCells, nowhere, GotF_some, Got_some, int_beq, int_bne, vloc]
        exact hq2 _ _ _ (by simp) ⟨rfl, _, _, a13, a14, v, va, vb, vc, Ta, Tb, Tc, rfl, g0, gr, ga, gb, gc⟩)
  obtain ⟨rfl, sc, a12, a13, a14, v, va, vb, vc, Ta, Tb, Tc, rfl, g0, gr, ga, gb, gc⟩ := hq
  obtain ⟨rk1, rk2, rk3, rk4, rk5⟩ := gr.facts
  obtain ⟨tka, rfl⟩ := ga.cases
  obtain ⟨tkb, rfl⟩ := gb.cases
  obtain ⟨tkc, rfl⟩ := gc.cases
  have hrl : (rowsAt zl zm N N).length = N := by simp [rowsAt]
  have hrok : RowsOk (rowsAt zl zm N N) := by
    refine ⟨by omega, fun r hr => ?_⟩
    obtain ⟨i, _, rfl⟩ := List.mem_map.1 hr
    have := turnZ_le (nthZ zl i) (b := 4) (by decide)
    simp only [rowAt, List.length_map, List.length_range, rowN]
    omega
  have hent : ∀ r ∈ rowsAt zl zm N N, ∀ e ∈ r, 0 ≤ e.1 ∧ e.1 < (N : Int) ∧ isWord e.2 := by
    intro r hr e he
    obtain ⟨i, _, rfl⟩ := List.mem_map.1 hr
    obtain ⟨k, _, rfl⟩ := List.mem_map.1 he
    have := turnZ_le (nthZ zl (3 * i + k)) (b := (N : Int)) (by omega)
    exact ⟨this.1, this.2, wordZ_word _⟩
  have hokA : ∀ f : Nat → Int, (∀ i, isWord (f i)) → TimesOk (rowsAt zl zm N N) (upTo f N) := by
    intro f hf
    refine ⟨hrok, by rw [upTo_len]; omega, fun z hz => ?_, by rw [upTo_len]; exact hent⟩
    obtain ⟨i, _, rfl⟩ := List.mem_map.1 hz
    exact hf i
  have tmA := hokA (aE zl) (fun i => wordZ_word _)
  have tmB := hokA (bE zm) (fun i => wordZ_word _)
  have tmC := hokA (cE zl zm) (fun i => wordZ_word _)
  have lA := upTo_len (aE zl) N
  have lB := upTo_len (bE zm) N
  have lC := upTo_len (cE zl zm) N
  have hcg : ∀ i, Cg ((upTo (cE zl zm) N).getD i 0) ((upTo (aE zl) N).getD i 0 + (upTo (bE zm) N).getD i 0) := by
    intro i
    rw [upTo_get, upTo_get, upTo_get]
    split
    · exact wordZ_cg _
    · exact Cg.refl 0
  generalize rowsAt zl zm N N = rs at *
  generalize upTo (aE zl) N = A at *
  generalize upTo (bE zm) N = B at *
  generalize upTo (cE zl zm) N = C at *
  have hsums : ∀ j (hj : j < N), (timesL rs C).getD j 0 = wordZ (wordZ ((timesL rs A).getD j 0) + wordZ ((timesL rs B).getD j 0)) := by
    intro j hj
    have hjr : j < rs.length := by omega
    simp only [timesL, List.getD_eq_getElem?_getD, List.getElem?_map, List.getElem?_eq_getElem hjr, Option.map_some, Option.getD_some]
    exact sums_law hcg _
  have uWa := fun (f : Nat) (S : St) => words_use (cs := csS) rfl (n := f) (v := .slice (ints A) tka) (zs := A) (S := S) (by simp [AV.dead]) (by omega)
  have uWb := fun (f : Nat) (S : St) => words_use (cs := csS) rfl (n := f) (v := .slice (ints B) tkb) (zs := B) (S := S) (by simp [AV.dead]) (by omega)
  have uWc := fun (f : Nat) (S : St) => words_use (cs := csS) rfl (n := f) (v := .slice (ints C) tkc) (zs := C) (S := S) (by simp [AV.dead]) (by omega)
  have hvd : (AV.agg [.int .i64 4, .int .i64 0, v]).dead = (rowsV rs).enc := by
    simp only [AV.dead, AV.deadL, rk5, rowsV, GV.enc, sv]
  have uPr := fun (f : Nat) (b : GV) (S : St) => pair_use' (cs := csS) rfl (n := f) (v := .agg [.int .i64 4, .int .i64 0, v]) (a := rowsV rs) (w := b.enc) (b := b) (S := S) hvd (by simp)
  have uPp := fun (f : Nat) (a b : GV) (S : St) => pair_use (cs := csS) rfl (n := f) (a := a) (b := b) (S := S)
  have uXa := fun (f : Nat) (S : St) => spmvD_use (cs := csS) rfl (n := f) (v := (GV.pair (rowsV rs) (nums A)).enc) (S := S) tmA (by omega) (by simp)
  have uXb := fun (f : Nat) (S : St) => spmvD_use (cs := csS) rfl (n := f) (v := (GV.pair (rowsV rs) (nums B)).enc) (S := S) tmB (by omega) (by simp)
  have uXc := fun (f : Nat) (S : St) => spmvD_use (cs := csS) rfl (n := f) (v := (GV.pair (rowsV rs) (nums C)).enc) (S := S) tmC (by omega) (by simp)
  have hP := turnZ_le (n.tdiv 4) (b := 15) (by decide)
  have hQ := turnZ_le (n.tdiv 60) (b := 15) (by decide)
  obtain ⟨P, hPe⟩ := Int.eq_ofNat_of_zero_le hP.1
  obtain ⟨Q, hQe⟩ := Int.eq_ofNat_of_zero_le hQ.1
  have hwp := wrap_tdiv hn 4 (by omega)
  have hwq := wrap_tdiv hn 60 (by omega)
  have itA := fun k => iterL_ok tmA (lA.trans hrl.symm) k
  have uF := fun (f : Nat) (S : St) => walkD_use (cs := csS) rfl (n := f) (N := P) (v := (GV.pair (.num P) (.pair (rowsV rs) (nums A))).enc) (S := S) tmA (by omega) (by omega) (lA.trans hrl.symm) (by simp)
  have uG2 := fun (f : Nat) (S : St) => walkD_use (cs := csS) rfl (n := f) (N := Q) (v := (GV.pair (.num Q) (.pair (rowsV rs) (nums (iterL rs P A)))).enc) (S := S) (itA P).1 (by omega) (by omega) (itA P).2 (by simp)
  have uH := fun (f : Nat) (S : St) => walkD_use (cs := csS) rfl (n := f) (N := P + Q) (v := (GV.pair (.num (P + Q : Nat)) (.pair (rowsV rs) (nums A))).enc) (S := S) tmA (by omega) (by omega) (lA.trans hrl.symm) (by simp)
  rw [iterL_add] at uG2
  simp only [Int.natCast_add] at uH
  have uSame := fun (f : Nat) (S : St) => same_use (cs := csS) rfl (n := f) (S := S) (a := iterL rs (P + Q) A) (b := iterL rs (P + Q) A) (by rw [(itA _).2]; omega) (by rw [(itA _).2]; omega)
  have uPrF := fun (f : Nat) (S : St) => uPr f (nums (iterL rs P A)) S
  have hYl : ∀ zs : List Int, lenA ED 24 (lst (GV.encs (zs.map .num))) = some (.int .i64 zs.length) := fun zs => by rw [lst_len]; simp
  have hYi : ∀ (zs : List Int) (j : Nat), j < zs.length → indexAddrA ED 24 (lst (GV.encs (zs.map .num))) (.int .i64 j) = some (.rptr [.int .i64 1, .int .i64 (zs.getD j 0), .nils]) := fun zs j h => by
    have := lst_index (l := zs.map .num) (j := j) (by simpa using h)
    rw [this]
    simp [GV.enc, wv, AV.cells, List.getD_eq_getElem?_getD, h]
  have lXa := times_len rs A
  have lXb := times_len rs B
  have lXc := times_len rs C
  have wXa := times_words rs A
  have wXb := times_words rs B
  have yla := hYl (timesL rs A)
  have ylb := hYl (timesL rs B)
  have ylc := hYl (timesL rs C)
  have yia := hYi (timesL rs A)
  have yib := hYi (timesL rs B)
  have yic := hYi (timesL rs C)
  rw [lXa, hrl] at yla
  rw [lXb, hrl] at ylb
  rw [lXc, hrl] at ylc
  have kXa := gv_lst (l := (timesL rs A).map .num)
  have kXb := gv_lst (l := (timesL rs B).map .num)
  have kXc := gv_lst (l := (timesL rs C).map .num)
  have kF := gv_lst (l := (iterL rs P A).map .num)
  have kH := gv_lst (l := (iterL rs (P + Q) A).map .num)
  have eq3 : ∀ zs : List Int, (nums zs).enc = .agg [.int .i64 4, .int .i64 0, lst (GV.encs (zs.map .num))] := fun _ => rfl
  rw [eq3] at uXa uXb uXc uF uG2 uH uSame uPrF
  simp only [nSpmv] at uXa uXb uXc
  simp only [nWalk] at uF uG2 uH
  generalize lst (GV.encs ((timesL rs A).map .num)) = YA at *
  generalize lst (GV.encs ((timesL rs B).map .num)) = YB at *
  generalize lst (GV.encs ((timesL rs C).map .num)) = YC at *
  generalize lst (GV.encs ((iterL rs P A).map .num)) = YF at *
  generalize lst (GV.encs ((iterL rs (P + Q) A).map .num)) = YH at *
  have hS0 := St.get_lt (cells?_inv g0)
  have hne : ¬ 0 = S1.n := by omega
  simp [evalC_seq, evalC_region, runA_cons', runA_consN, runA_consG, guardR_true, guardR_false, guardV_bool, guardV_tup, runA_nil', inFrame, startLoc, startVals, Loc.clear, eff_move, eff_assign, eff_binOp, eff_build, eff_buildSlice, eff_alloc, eff_box, eff_store, eff_load, eff_fieldAddr, eff_field, eff_indexAddr, eff_slice, eff_extract, eff_pick, eff_unOp, eff_convert, eff_makeSlice, eff_makeFunc, eff_makeInterface, eff_nilCheck, eff_panic, eff_len1, eff_max2, eff_min2, eff_append2, eff_callV, stepE_val, contR_ok, contR_pan, outC_ok, outC_pan, thenC_normal, thenC_ret, thenC_exit, thenC_pan, blockC, evalC_ret, evalC_skip, evalC_exit, evalC_block, evalC_scope, evalC_loop, Loc.putO, Loc.put, idx, evO, constV, Loc.get, Vm.look, valO_some, bin_int, intA, evalC_cond, condC_true, condC_false, unwindA, resultsA, resultV, actA, pureA, storeA, loadA, fillE, repElems, TI.zeroV, fieldOf, fieldAddrA, fieldA, retE, cells?_put_push, push_at, put_at, cellsOf?, Nat.add_assoc, n_push', n_put', isCell_undef, known_undef, cells_undef, isCell_bool, known_bool, cells_bool, isCell_int, known_int, cells_int, isCell_str, known_str, cells_str, isCell_nilp, known_nilp, cells_nilp, isCell_ptr, known_ptr, cells_ptr, isCell_rptr, known_rptr, cells_rptr, isCell_nils, known_nils, cells_nils, isCell_slice, known_slice, cells_slice, isCell_rsl, known_rsl, cells_rsl, isCell_nilm, known_nilm, cells_nilm, isCell_map, known_map, cells_map, isCell_fn, known_fn, cells_fn, isCell_yld, known_yld, cells_yld, isCell_nilf, known_nilf, cells_nilf, isCell_iface, known_iface, cells_iface, isCell_nili, known_nili, cells_nili, isCell_agg, known_agg, cells_agg, isCell_tup, known_tup, cells_tup, setCells, nowhere, GotF_some, Got_some, int_beq, int_bne, runC_nil, runC_cons, pickC_some, wantC_tt, wantC_tf, effC_val, ifC_true, checkC, inPairs, keepC, okC, readsC_load, readV_some, AV.beq_self, wantA_n, wantA_g, wantD_some, d1, d2, d3, vloc, g0, uWa, uWb, uWc, uPr, uXa, uXb, uXc, kXa, kXb, kXc, hne, yla, ylb, ylc, put_is]
  generalize hc : iter _ _ _ _ = c
  have y0 : ((((((S1.push (.cells [.int .i64 0, .int .i64 0, .nils])).put S1.n (.cells [.int .i64 4, .int .i64 0, YA])).push (.cells [.int .i64 0, .int .i64 0, .nils])).put (S1.n + 1) (.cells [.int .i64 4, .int .i64 0, YB])).push (.cells [.int .i64 0, .int .i64 0, .nils])).put (S1.n + 2) (.cells [.int .i64 4, .int .i64 0, YC])).cells? 0 = some [.int .i64 4, .int .i64 0, v] :=
    cells_box (S := (((S1.push (.cells [.int .i64 0, .int .i64 0, .nils])).put S1.n (.cells [.int .i64 4, .int .i64 0, YA])).push (.cells [.int .i64 0, .int .i64 0, .nils])).put (S1.n + 1) (.cells [.int .i64 4, .int .i64 0, YB]))
      (cells_box (S := (S1.push (.cells [.int .i64 0, .int .i64 0, .nils])).put S1.n (.cells [.int .i64 4, .int .i64 0, YA])) (cells_box g0))
  have yA : ((((((S1.push (.cells [.int .i64 0, .int .i64 0, .nils])).put S1.n (.cells [.int .i64 4, .int .i64 0, YA])).push (.cells [.int .i64 0, .int .i64 0, .nils])).put (S1.n + 1) (.cells [.int .i64 4, .int .i64 0, YB])).push (.cells [.int .i64 0, .int .i64 0, .nils])).put (S1.n + 2) (.cells [.int .i64 4, .int .i64 0, YC])).cells? S1.n = some [.int .i64 4, .int .i64 0, YA] :=
    cells_box (S := ((((S1.push (.cells [.int .i64 0, .int .i64 0, .nils])).put S1.n (.cells [.int .i64 4, .int .i64 0, YA])).push (.cells [.int .i64 0, .int .i64 0, .nils])).put (S1.n + 1) (.cells [.int .i64 4, .int .i64 0, YB]))) (cells_box (S := ((S1.push (.cells [.int .i64 0, .int .i64 0, .nils])).put S1.n (.cells [.int .i64 4, .int .i64 0, YA]))) (cells?_put_push S1 _ _))
  have yB : ((((((S1.push (.cells [.int .i64 0, .int .i64 0, .nils])).put S1.n (.cells [.int .i64 4, .int .i64 0, YA])).push (.cells [.int .i64 0, .int .i64 0, .nils])).put (S1.n + 1) (.cells [.int .i64 4, .int .i64 0, YB])).push (.cells [.int .i64 0, .int .i64 0, .nils])).put (S1.n + 2) (.cells [.int .i64 4, .int .i64 0, YC])).cells? (S1.n + 1) = some [.int .i64 4, .int .i64 0, YB] :=
    cells_box (S := ((((S1.push (.cells [.int .i64 0, .int .i64 0, .nils])).put S1.n (.cells [.int .i64 4, .int .i64 0, YA])).push (.cells [.int .i64 0, .int .i64 0, .nils])).put (S1.n + 1) (.cells [.int .i64 4, .int .i64 0, YB]))) (cells?_put_push ((S1.push (.cells [.int .i64 0, .int .i64 0, .nils])).put S1.n (.cells [.int .i64 4, .int .i64 0, YA])) _ _)
  have yC : ((((((S1.push (.cells [.int .i64 0, .int .i64 0, .nils])).put S1.n (.cells [.int .i64 4, .int .i64 0, YA])).push (.cells [.int .i64 0, .int .i64 0, .nils])).put (S1.n + 1) (.cells [.int .i64 4, .int .i64 0, YB])).push (.cells [.int .i64 0, .int .i64 0, .nils])).put (S1.n + 2) (.cells [.int .i64 4, .int .i64 0, YC])).cells? (S1.n + 2) = some [.int .i64 4, .int .i64 0, YC] :=
    cells?_put_push ((((S1.push (.cells [.int .i64 0, .int .i64 0, .nils])).put S1.n (.cells [.int .i64 4, .int .i64 0, YA])).push (.cells [.int .i64 0, .int .i64 0, .nils])).put (S1.n + 1) (.cells [.int .i64 4, .int .i64 0, YB])) _ _
  generalize ((((((S1.push (.cells [.int .i64 0, .int .i64 0, .nils])).put S1.n (.cells [.int .i64 4, .int .i64 0, YA])).push (.cells [.int .i64 0, .int .i64 0, .nils])).put (S1.n + 1) (.cells [.int .i64 4, .int .i64 0, YB])).push (.cells [.int .i64 0, .int .i64 0, .nils])).put (S1.n + 2) (.cells [.int .i64 4, .int .i64 0, YC])) = Sx at *
  obtain ⟨e1, L1, S4, rfl, hq⟩ := loop_of hc
    (fun r L S => ∃ j sc, j + r = N ∧ S = Sx ∧ L = vloc [l, m, .int .i64 n, .bool false, .int .i64 N, .ptr 0 0, .slice (ints A) tka, .slice (ints B) tkb, .slice (ints C) tkc, a12, a13, a14, .ptr S1.n 0, .int .i64 0, .ptr (S1.n + 1) 0, .int .i64 0, .ptr (S1.n + 2) 0, .int .i64 0, .int .i64 (j : Nat), .undef, .undef, .undef, .undef, .undef] sc)
    (fun e L S => e = .exit 4 ∧ S = Sx ∧ ∃ sc i, L = vloc [l, m, .int .i64 n, .bool false, .int .i64 N, .ptr 0 0, .slice (ints A) tka, .slice (ints B) tkb, .slice (ints C) tkc, a12, a13, a14, .ptr S1.n 0, .int .i64 0, .ptr (S1.n + 1) 0, .int .i64 0, .ptr (S1.n + 2) 0, .int .i64 0, i, .undef, .undef, .undef, .undef, .undef] sc)
    N (by omega)
    ⟨0, _, by simp, rfl, rfl⟩
    (by
      rintro r L S ⟨j, sc, hjk, rfl, rfl⟩ q hq1 hq2
      by_cases hj : j < N
      · have hwj : IntKind.i64.wrap ((j : Int) + 1) = ((j : Int) + 1) := wrap_id (by omega) (by omega)
        have i1 := yia j (by omega)
        have i2 := yib j (by omega)
        have i3 := yic j (by omega)
        have hs := hsums j hj
        have w1 := wordZ_word ((timesL rs A).getD j 0)
        have w2 := wordZ_word ((timesL rs B).getD j 0)
        rw [hs] at i3
        generalize (timesL rs A).getD j 0 = x1 at *
        generalize (timesL rs B).getD j 0 = x2 at *
        have hws : IntKind.i64.wrap (wordZ x1 + wordZ x2) = wordZ x1 + wordZ x2 := by
          unfold isWord at w1 w2
          exact wrap_id (by omega) (by omega)
        simp [evalC_seq, evalC_region, runA_cons', runA_consN, runA_consG, guardR_true, guardR_false, guardV_bool, guardV_tup, runA_nil', inFrame, startLoc, startVals, Loc.clear, eff_move, eff_assign, eff_binOp, eff_build, eff_buildSlice, eff_alloc, eff_box, eff_store, eff_load, eff_fieldAddr, eff_field, eff_indexAddr, eff_slice, eff_extract, eff_pick, eff_unOp, eff_convert, eff_makeSlice, eff_makeFunc, eff_makeInterface, eff_nilCheck, eff_panic, eff_len1, eff_max2, eff_min2, eff_append2, eff_callV, stepE_val, contR_ok, contR_pan, outC_ok, outC_pan, thenC_normal, thenC_ret, thenC_exit, thenC_pan, blockC, evalC_ret, evalC_skip, evalC_exit, evalC_block, evalC_scope, evalC_loop, Loc.putO, Loc.put, idx, evO, constV, Loc.get, Vm.look, valO_some, bin_int, intA, evalC_cond, condC_true, condC_false, unwindA, resultsA, resultV, actA, pureA, storeA, loadA, fillE, repElems, TI.zeroV, fieldOf, fieldAddrA, fieldA, retE, cells?_put_push, push_at, put_at, cellsOf?, Nat.add_assoc, n_push', n_put', isCell_undef, known_undef, cells_undef, isCell_bool, known_bool, cells_bool, isCell_int, known_int, cells_int, isCell_str, known_str, cells_str, isCell_nilp, known_nilp, cells_nilp, isCell_ptr, known_ptr, cells_ptr, isCell_rptr, known_rptr, cells_rptr, isCell_nils, known_nils, cells_nils, isCell_slice, known_slice, cells_slice, isCell_rsl, known_rsl, cells_rsl, isCell_nilm, known_nilm, cells_nilm, isCell_map, known_map, cells_map, isCell_fn, known_fn, cells_fn, isCell_yld, known_yld, cells_yld, isCell_nilf, known_nilf, cells_nilf, isCell_iface, known_iface, cells_iface, isCell_nili, known_nili, cells_nili, isCell_agg, known_agg, cells_agg, isCell_tup, known_tup, cells_tup, setCells, nowhere, GotF_some, Got_some, int_beq, int_bne, runC_nil, runC_cons, pickC_some, wantC_tt, wantC_tf, effC_val, ifC_true, checkC, inPairs, keepC, okC, readsC_load, readV_some, AV.beq_self, wantA_n, wantA_g, wantD_some, d4, vloc, hj, yA, yB, yC, i1, i2, i3, uW, hws, hwj]
        exact hq1 (r - 1) _ _ (by omega) ⟨j + 1, _, by omega, rfl, rfl⟩
      · have hjl : j = N := by omega
        subst hjl
        simp [evalC_seq, evalC_region, runA_cons', runA_consN, runA_consG, guardR_true, guardR_false, guardV_bool, guardV_tup, runA_nil', inFrame, startLoc, startVals, Loc.clear, eff_move, eff_assign, eff_binOp, eff_build, eff_buildSlice, eff_alloc, eff_box, eff_store, eff_load, eff_fieldAddr, eff_field, eff_indexAddr, eff_slice, eff_extract, eff_pick, eff_unOp, eff_convert, eff_makeSlice, eff_makeFunc, eff_makeInterface, eff_nilCheck, eff_panic, eff_len1, eff_max2, eff_min2, eff_append2, eff_callV, stepE_val, contR_ok, contR_pan, outC_ok, outC_pan, thenC_normal, thenC_ret, thenC_exit, thenC_pan, blockC, evalC_ret, evalC_skip, evalC_exit, evalC_block, evalC_scope, evalC_loop, Loc.putO, Loc.put, idx, evO, constV, Loc.get, Vm.look, valO_some, bin_int, intA, evalC_cond, condC_true, condC_false, unwindA, resultsA, resultV, actA, pureA, storeA, loadA, fillE, repElems, TI.zeroV, fieldOf, fieldAddrA, fieldA, retE, cells?_put_push, push_at, put_at, cellsOf?, Nat.add_assoc, n_push', n_put', isCell_undef, known_undef, cells_undef, isCell_bool, known_bool, cells_bool, isCell_int, known_int, cells_int, isCell_str, known_str, cells_str, isCell_nilp, known_nilp, cells_nilp, isCell_ptr, known_ptr, cells_ptr, isCell_rptr, known_rptr, cells_rptr, isCell_nils, known_nils, cells_nils, isCell_slice, known_slice, cells_slice, isCell_rsl, known_rsl, cells_rsl, isCell_nilm, known_nilm, cells_nilm, isCell_map, known_map, cells_map, isCell_fn, known_fn, cells_fn, isCell_yld, known_yld, cells_yld, isCell_nilf, known_nilf, cells_nilf, isCell_iface, known_iface, cells_iface, isCell_nili, known_nili, cells_nili, isCell_agg, known_agg, cells_agg, isCell_tup, known_tup, cells_tup, setCells, nowhere, GotF_some, Got_some, int_beq, int_bne, vloc]
        exact hq2 _ _ _ (by simp) ⟨rfl, rfl, _, _, rfl⟩)
  obtain ⟨rfl, rfl, sc, i, rfl⟩ := hq
  have hSn := St.get_lt (cells?_inv yC)
  have hne2 : ¬ 0 = S4.n := by omega
  have hne3 : ¬ S1.n = S4.n := by omega
  have hne4 : ¬ S1.n + 1 = S4.n := by omega
  have hpq : IntKind.i64.wrap ((P : Int) + Q) = ((P + Q : Nat) : Int) := by rw [Int.natCast_add]; exact wrap_id (by omega) (by omega)
  simp [evalC_seq, evalC_region, runA_cons', runA_consN, runA_consG, guardR_true, guardR_false, guardV_bool, guardV_tup, runA_nil', inFrame, startLoc, startVals, Loc.clear, eff_move, eff_assign, eff_binOp, eff_build, eff_buildSlice, eff_alloc, eff_box, eff_store, eff_load, eff_fieldAddr, eff_field, eff_indexAddr, eff_slice, eff_extract, eff_pick, eff_unOp, eff_convert, eff_makeSlice, eff_makeFunc, eff_makeInterface, eff_nilCheck, eff_panic, eff_len1, eff_max2, eff_min2, eff_append2, eff_callV, stepE_val, contR_ok, contR_pan, outC_ok, outC_pan, thenC_normal, thenC_ret, thenC_exit, thenC_pan, blockC, evalC_ret, evalC_skip, evalC_exit, evalC_block, evalC_scope, evalC_loop, Loc.putO, Loc.put, idx, evO, constV, Loc.get, Vm.look, valO_some, bin_int, intA, evalC_cond, condC_true, condC_false, unwindA, resultsA, resultV, actA, pureA, storeA, loadA, fillE, repElems, TI.zeroV, fieldOf, fieldAddrA, fieldA, retE, cells?_put_push, push_at, put_at, cellsOf?, Nat.add_assoc, n_push', n_put', isCell_undef, known_undef, cells_undef, isCell_bool, known_bool, cells_bool, isCell_int, known_int, cells_int, isCell_str, known_str, cells_str, isCell_nilp, known_nilp, cells_nilp, isCell_ptr, known_ptr, cells_ptr, isCell_rptr, known_rptr, cells_rptr, isCell_nils, known_nils, cells_nils, isCell_slice, known_slice, cells_slice, isCell_rsl, known_rsl, cells_rsl, isCell_nilm, known_nilm, cells_nilm, isCell_map, known_map, cells_map, isCell_fn, known_fn, cells_fn, isCell_yld, known_yld, cells_yld, isCell_nilf, known_nilf, cells_nilf, isCell_iface, known_iface, cells_iface, isCell_nili, known_nili, cells_nili, isCell_agg, known_agg, cells_agg, isCell_tup, known_tup, cells_tup, setCells, nowhere, GotF_some, Got_some, int_beq, int_bne, runC_nil, runC_cons, pickC_some, wantC_tt, wantC_tf, effC_val, ifC_true, checkC, inPairs, keepC, okC, readsC_load, readV_some, AV.beq_self, wantA_n, wantA_g, wantD_some, d5, d6, d7, vloc, hwp, hwq, uT15, hPe, hQe, uw, y0, uWa, uPr, uPp, uPrF, uF, uG2, uH, hne2, kF, kH, put_is, hpq, uSame, uG]
  exact hp _ _ rfl

end Go.Proofs.YtjgigcaelcapdaaDoor
