/-
What the small functions return: numbers, values, lists. No conditions.
-/
import Derived.Test.YtpjcmiaanjcanaaGreatDoorDraws
import Derived.Test.YtpjcmiaanjcanaaGreatDoorVmI
set_option linter.all false

namespace Go.Proofs.YtpjcmiaanjcanaaGreatDoor
open Go Go.Vm Go.Vm.T
set_option maxRecDepth 100000
def vm0 := And.intro @evalC_seq (And.intro @evalC_region (And.intro @runA_cons' (And.intro @runA_consN (And.intro @runA_consG (And.intro @guardR_true (And.intro @guardR_false (And.intro @guardV_bool (And.intro @guardV_tup (And.intro @runA_nil' (And.intro @eff_move (And.intro @eff_assign (And.intro @eff_binOp (And.intro @eff_build (And.intro @eff_buildSlice @eff_alloc))))))))))))))
def vm1 := And.intro @eff_box (And.intro @eff_store (And.intro @eff_load (And.intro @eff_fieldAddr (And.intro @eff_field (And.intro @eff_indexAddr (And.intro @eff_slice (And.intro @eff_extract (And.intro @eff_pick (And.intro @eff_unOp (And.intro @eff_convert (And.intro @eff_makeSlice (And.intro @eff_makeFunc (And.intro @eff_makeInterface (And.intro @eff_nilCheck @eff_panic))))))))))))))
def vm2 := And.intro @eff_len1 (And.intro @eff_max2 (And.intro @eff_min2 (And.intro @eff_append2 (And.intro @eff_callV (And.intro @stepE_val (And.intro @contR_ok (And.intro @contR_pan (And.intro @outC_ok (And.intro @outC_pan (And.intro @thenC_normal (And.intro @thenC_ret (And.intro @thenC_exit (And.intro @thenC_pan (And.intro @evalC_ret @evalC_skip))))))))))))))
def vm3 := And.intro @evalC_exit (And.intro @evalC_block (And.intro @evalC_scope (And.intro @evalC_loop (And.intro @valO_some (And.intro @bin_int (And.intro @evalC_cond (And.intro @condC_true (And.intro @condC_false (And.intro @cells?_put_push (And.intro @push_at (And.intro @put_at (And.intro @Nat.add_assoc (And.intro @n_push' (And.intro @n_put' @isCell_undef))))))))))))))
def vm4 := And.intro @known_undef (And.intro @cells_undef (And.intro @isCell_bool (And.intro @known_bool (And.intro @cells_bool (And.intro @isCell_int (And.intro @known_int (And.intro @cells_int (And.intro @isCell_str (And.intro @known_str (And.intro @cells_str (And.intro @isCell_nilp (And.intro @known_nilp (And.intro @cells_nilp (And.intro @isCell_ptr @known_ptr))))))))))))))
def vm5 := And.intro @cells_ptr (And.intro @isCell_rptr (And.intro @known_rptr (And.intro @cells_rptr (And.intro @isCell_nils (And.intro @known_nils (And.intro @cells_nils (And.intro @isCell_slice (And.intro @known_slice (And.intro @cells_slice (And.intro @isCell_rsl (And.intro @known_rsl (And.intro @cells_rsl (And.intro @isCell_nilm (And.intro @known_nilm @cells_nilm))))))))))))))
def vm6 := And.intro @isCell_map (And.intro @known_map (And.intro @cells_map (And.intro @isCell_fn (And.intro @known_fn (And.intro @cells_fn (And.intro @isCell_yld (And.intro @known_yld (And.intro @cells_yld (And.intro @isCell_nilf (And.intro @known_nilf (And.intro @cells_nilf (And.intro @isCell_iface (And.intro @known_iface (And.intro @cells_iface @isCell_nili))))))))))))))
def vm7 := And.intro @known_nili (And.intro @cells_nili (And.intro @isCell_agg (And.intro @known_agg (And.intro @cells_agg (And.intro @isCell_tup (And.intro @known_tup (And.intro @cells_tup (And.intro @GotF_some (And.intro @Got_some (And.intro @int_beq @int_bne))))))))))
def vmS := And.intro @vm0 (And.intro @vm1 (And.intro @vm2 (And.intro @vm3 (And.intro @vm4 (And.intro @vm5 (And.intro @vm6 @vm7))))))
end Go.Proofs.YtpjcmiaanjcanaaGreatDoor

namespace Go.Proofs.YtpjcmiaanjcanaaGreatDoor
open Go Go.Vm Go.Vm.T
set_option maxRecDepth 100000
set_option linter.unusedSimpArgs false
set_option linter.unusedVariables false
attribute [local simp] inFrame startLoc startVals Loc.clear blockC Loc.putO Loc.put idx evO constV Loc.get Vm.look intA unwindA resultsA resultV actA pureA storeA loadA fillE repElems TI.zeroV fieldOf fieldAddrA fieldA elemsA retE cellsOf? setCells nowhere

theorem ED_pers : GlobPers ED := by
  intro g cs h
  simp only [ED] at h
  unfold gl at h
  split at h <;> first | (cases h; rfl) | cases h

@[simp] theorem S0_n : S0.n = 0 := rfl

/-! numbers -/
theorem wrap_id {n : Int} (h1 : -9223372036854775808 ≤ n) (h2 : n < 9223372036854775808) : IntKind.i64.wrap n = n := by
  unfold IntKind.wrap
  simp [IntKind.bits, IntKind.signed]
  omega

theorem i64_iff {n : Int} : I64 n ↔ -9223372036854775808 ≤ n ∧ n < 9223372036854775808 := by
  unfold I64 Lit.wf IntKind.min IntKind.max
  simp [IntKind.bits, IntKind.signed]
  omega


end Go.Proofs.YtpjcmiaanjcanaaGreatDoor

namespace Go.Proofs.YtpjcmiaanjcanaaGreatDoor
open Go Go.Vm Go.Vm.T
set_option maxRecDepth 100000
set_option linter.unusedSimpArgs false
set_option linter.unusedVariables false
attribute [local simp] inFrame startLoc startVals Loc.clear blockC Loc.putO Loc.put idx evO constV Loc.get Vm.look intA unwindA resultsA resultV actA pureA storeA loadA fillE repElems TI.zeroV fieldOf fieldAddrA fieldA elemsA retE cellsOf? setCells nowhere

/-! values -/
inductive GV where
  | num (z : Int)
  | pair (a b : GV)
  | seq (l : List GV)

def wv (z : Int) : AV := .agg [.int .i64 1, .int .i64 z, .nils]
def pv (v w : AV) : AV := .agg [.int .i64 2, .int .i64 0, .slice [v, w] .dead]
def lst : List AV → AV
  | [] => .nils
  | a :: r => .slice (a :: r) .dead
def sv (es : List AV) : AV := .agg [.int .i64 4, .int .i64 0, lst es]

mutual
def GV.enc : GV → AV
  | .num z => wv z
  | .pair a b => pv a.enc b.enc
  | .seq l => sv (GV.encs l)
def GV.encs : List GV → List AV
  | [] => []
  | a :: r => a.enc :: GV.encs r
end

theorem GV.encs_map : ∀ l : List GV, GV.encs l = l.map GV.enc
  | [] => rfl
  | a :: r => by simp [GV.encs, GV.encs_map r]

/-- how a value looks -/
theorem GV.shape (g : GV) : ∃ k n x, g.enc = .agg [.int .i64 k, .int .i64 n, x] ∧ x.isCell = true := by
  cases g with
  | num z => exact ⟨_, _, _, rfl, rfl⟩
  | pair a b => exact ⟨_, _, _, rfl, rfl⟩
  | seq l => refine ⟨_, _, _, rfl, ?_⟩; cases GV.encs l <;> rfl

@[simp] theorem GV.enc_cells (g : GV) : g.enc.cells.length = 3 := by
  obtain ⟨k, n, x, e, _⟩ := g.shape
  rw [e]; rfl
@[simp] theorem GV.enc_known (g : GV) : g.enc.known = true := by
  obtain ⟨k, n, x, e, _⟩ := g.shape
  rw [e]; rfl
@[simp] theorem GV.enc_allCell (g : GV) : g.enc.cells.all (·.isCell) = true := by
  obtain ⟨k, n, x, e, hx⟩ := g.shape
  rw [e]; simp [AV.cells, AV.isCell]; exact hx

mutual
theorem GV.pers : ∀ g : GV, g.enc.pers = true
  | .num z => rfl
  | .pair a b => by simp [GV.enc, pv, AV.pers, AV.persL, GV.pers a, GV.pers b]
  | .seq l => by
    have := GV.perss l
    cases l with
    | nil => rfl
    | cons a r => simpa [GV.enc, sv, GV.encs, lst, AV.pers, AV.persL] using this
theorem GV.perss : ∀ l : List GV, AV.persL (GV.encs l) = true
  | [] => rfl
  | a :: r => by simp [GV.encs, AV.persL, GV.pers a, GV.perss r]
end

@[simp] theorem GV.enc_dead (g : GV) : g.enc.dead = g.enc := dead_of_pers _ (GV.pers g)
@[simp] theorem GV.encs_dead (l : List GV) : AV.deadL (GV.encs l) = GV.encs l := by
  rw [AV.deadL_map]
  exact map_dead (fun x hx => dead_of_pers x (AV.persL_iff.1 (GV.perss l) x hx))

theorem ints_pers (zs : List Int) : AV.persL (ints zs) = true := by
  rw [AV.persL_iff]
  intro x hx
  unfold ints at hx
  obtain ⟨z, _, rfl⟩ := List.mem_map.1 hx
  rfl
@[simp] theorem ints_dead (zs : List Int) : AV.deadL (ints zs) = ints zs := by
  rw [AV.deadL_map]
  exact map_dead (fun x hx => dead_of_pers x (AV.persL_iff.1 (ints_pers zs) x hx))
@[simp] theorem ints_length (zs : List Int) : (ints zs).length = zs.length := by simp [ints]
theorem ints_get {zs : List Int} {j : Nat} {z : Int} (h : zs[j]? = some z) : (ints zs)[j]? = some (.int .i64 z) := by simp [ints, h]
@[simp] theorem ints_getElem {zs : List Int} {i : Nat} (h : i < (ints zs).length) : (ints zs)[i] = .int .i64 (zs[i]'(by simpa using h)) := by simp [ints]
theorem ints_append (a b : List Int) : ints (a ++ b) = ints a ++ ints b := by simp [ints]
theorem ints_inj {a b : List Int} (h : ints a = ints b) : a = b := by
  induction a generalizing b with
  | nil => cases b with
    | nil => rfl
    | cons y b => simp [ints] at h
  | cons x a ih => cases b with
    | nil => simp [ints] at h
    | cons y b =>
      simp only [ints, List.map_cons, List.cons.injEq, AV.int.injEq, true_and] at h
      rw [h.1, ih h.2]

/-! word, pair, seq -/
def wordC : Con where
  f := 22
  X := Int
  dom _ := True
  enc z := [.int .i64 z]
  res z := .ret (GV.num z).enc

theorem word_ok : wordC.Ok Tryz.prog ED := by
  refine Con.ok_at ED_ok ED_pers [] (by simp) (fun x _ => ⟨rfl, rfl⟩) ?_
  intro a _
  simp only [wordC] at a ⊢
  refine ⟨1, fun p hp => ?_⟩
  rw [callS_fn rfl]
  have hb : buildA ED 24 [(0, AV.int IntKind.i64 1), (1, AV.int IntKind.i64 a)] = some (.agg [.int .i64 1, .int .i64 a, .nils]) := rfl
  simp only [fnA, ED_fn22, fi22, Tryz.f22]
  simp [vmS, lenA, indexAddrA, hb]
  exact hp _ _ rfl

theorem word_use {cs : List Con} (h : sumOf cs 22 = wordC.look) {n : Nat} {a : Int} {S : St} : callS ED (sumOf cs) n (.fn 22) [.int .i64 a] S = some (.ret (GV.num a).enc, S) :=
  Con.use (c := wordC) (fun (x : Int) (y : Int) _ _ h => by have h' : [AV.int .i64 x] = [AV.int .i64 y] := h; cases h'; rfl) h (a : Int) trivial rfl

def pairC : Con where
  f := 21
  X := GV × GV
  dom _ := True
  enc x := [x.1.enc, x.2.enc]
  res x := .ret (GV.pair x.1 x.2).enc

theorem pair_ok : pairC.Ok Tryz.prog ED := by
  refine Con.ok_at ED_ok ED_pers [] (by simp) (fun x _ => ⟨by simp [pairC, AV.persL, GV.pers], GV.pers _⟩) ?_
  rintro ⟨a, b⟩ _
  simp only [pairC]
  refine ⟨1, fun p hp => ?_⟩
  rw [callS_fn rfl]
  obtain ⟨k1, n1, x1, e1, c1⟩ := a.shape
  obtain ⟨k2, n2, x2, e2, c2⟩ := b.shape
  have hb2 : ∀ l, buildA ED 24 [(0, AV.int IntKind.i64 2), (2, AV.slice l .full)] = some (.agg [.int .i64 2, .int .i64 0, .slice l .full]) := fun l => rfl
  simp only [fnA, ED_fn21, fi21, Tryz.f21, e1, e2]
  simp [vmS, lenA, indexAddrA, hb2, c1, c2]
  refine hp _ _ ?_
  simp only [FRes.melt, AV.melt, GV.enc, pv, ← e1, ← e2]
  simp [AV.dead, AV.deadL]

theorem pair_use {cs : List Con} (h : sumOf cs 21 = pairC.look) {n : Nat} {a b : GV} {S : St} : callS ED (sumOf cs) n (.fn 21) [a.enc, b.enc] S = some (.ret (GV.pair a b).enc, S) :=
  Con.use (c := pairC) (fun x y _ _ h => by simp only [pairC, List.cons.injEq, and_true] at h; simp only [pairC, GV.enc]; rw [h.1, h.2]) h (a, b) trivial (by simp [pairC])

def seqC : Con where
  f := 18
  X := List GV
  dom _ := True
  enc x := [lst (GV.encs x)]
  res x := .ret (GV.seq x).enc

theorem lst_pers {l : List GV} : (lst (GV.encs l)).pers = true := by
  have := GV.perss l
  cases l with
  | nil => rfl
  | cons a r => simpa [GV.encs, lst, AV.pers, AV.persL] using this

theorem seq_ok : seqC.Ok Tryz.prog ED := by
  refine Con.ok_at ED_ok ED_pers [] (by simp) (fun (x : List GV) _ => ⟨by show AV.persL [lst (GV.encs x)] = true; simp [AV.persL, lst_pers], GV.pers _⟩) ?_
  intro l _
  simp only [seqC] at l ⊢
  refine ⟨1, fun p hp => ?_⟩
  rw [callS_fn rfl]
  have hb : ∀ l tk, buildA ED 24 [(0, AV.int IntKind.i64 4), (2, AV.slice l tk)] = some (.agg [.int .i64 4, .int .i64 0, .slice l tk]) := fun _ _ => rfl
  have hb' : buildA ED 24 [(0, AV.int IntKind.i64 4), (2, AV.nils)] = some (.agg [.int .i64 4, .int .i64 0, .nils]) := rfl
  simp only [fnA, ED_fn18, fi18, Tryz.f18]
  have hd : (GV.seq l).enc.dead = (GV.seq l).enc := GV.enc_dead _
  cases l with
  | nil =>
    simp [vmS, lenA, indexAddrA, hb', GV.encs, lst]
    exact hp _ _ rfl
  | cons a r =>
    simp [vmS, lenA, indexAddrA, hb, GV.encs, lst]
    exact hp _ _ (congrArg FRes.ret hd)

theorem seq_use {cs : List Con} (h : sumOf cs 18 = seqC.look) {n : Nat} {l : List GV} {v : AV} {S : St} (hv : v.dead = lst (GV.encs l)) : callS ED (sumOf cs) n (.fn 18) [v] S = some (.ret (GV.seq l).enc, S) :=
  Con.use (c := seqC) (fun x y _ _ h => by simp only [seqC, List.cons.injEq, and_true] at h; simp only [seqC, GV.enc, sv]; rw [h]) h l trivial (by simp [seqC, hv])

end Go.Proofs.YtpjcmiaanjcanaaGreatDoor

namespace Go.Proofs.YtpjcmiaanjcanaaGreatDoor
open Go Go.Vm Go.Vm.T
set_option maxRecDepth 100000
set_option linter.unusedSimpArgs false
set_option linter.unusedVariables false
attribute [local simp] inFrame startLoc startVals Loc.clear blockC Loc.putO Loc.put idx evO constV Loc.get Vm.look intA unwindA resultsA resultV actA pureA storeA loadA fillE repElems TI.zeroV fieldOf fieldAddrA fieldA elemsA retE cellsOf? setCells nowhere

def wordZ (a : Int) : Int := IntKind.i64.wrap (IntKind.i32.wrap (IntKind.u32.wrap (IntKind.u64.wrap a)))

def wrapC (f : FuncId) : Con where
  f := f
  X := Int
  dom _ := True
  enc z := [.int .i64 z]
  res z := .ret (.int .i64 (wordZ z))

theorem wrapC_cong (f : FuncId) : (wrapC f).Cong := fun (x : Int) (y : Int) _ _ h => by have h' : [AV.int .i64 x] = [AV.int .i64 y] := h; cases h'; rfl

theorem Word_ok : (wrapC 88).Ok Tryz.prog ED := by
  refine Con.ok_at ED_ok ED_pers [] (by simp) (fun x _ => ⟨rfl, rfl⟩) ?_
  intro a _
  simp only [wrapC] at a ⊢
  refine ⟨1, fun p hp => ?_⟩
  rw [callS_fn rfl]
  simp only [fnA, ED_fn88, fi88, Tryz.f88]
  simp [vmS, lenA, indexAddrA, convA]
  exact hp _ _ rfl

theorem Word_use {cs : List Con} (h : sumOf cs 88 = (wrapC 88).look) {n : Nat} {a : Int} {S : St} : callS ED (sumOf cs) n (.fn 88) [.int .i64 a] S = some (.ret (.int .i64 (wordZ a)), S) :=
  Con.use (wrapC_cong 88) h (a : Int) trivial rfl

theorem wrapped_ok : (wrapC 94).Ok Tryz.prog ED := by
  refine Con.ok_at ED_ok ED_pers [] (by simp) (fun x _ => ⟨rfl, rfl⟩) ?_
  intro a _
  simp only [wrapC] at a ⊢
  refine ⟨1, fun p hp => ?_⟩
  rw [callS_fn rfl]
  simp only [fnA, ED_fn94, fi94, Tryz.f94]
  simp [vmS, lenA, indexAddrA, convA]
  exact hp _ _ rfl

theorem wrapped_use {cs : List Con} (h : sumOf cs 94 = (wrapC 94).look) {n : Nat} {a : Int} {S : St} : callS ED (sumOf cs) n (.fn 94) [.int .i64 a] S = some (.ret (.int .i64 (wordZ a)), S) :=
  Con.use (wrapC_cong 94) h (a : Int) trivial rfl

def liesC : Con where
  f := 57
  X := Int × Int × Int
  dom _ := True
  enc x := [.int .i64 x.1, .int .i64 x.2.1, .int .i64 x.2.2]
  res x := .ret (.bool (decide (x.2.1 ≤ x.1) && decide (x.1 ≤ x.2.2)))

theorem lies_ok : liesC.Ok Tryz.prog ED := by
  refine Con.ok_at ED_ok ED_pers [] (by simp) (fun x _ => ⟨rfl, rfl⟩) ?_
  rintro ⟨a, b, c⟩ _
  simp only [liesC]
  refine ⟨1, fun p hp => ?_⟩
  rw [callS_fn rfl]
  simp only [fnA, ED_fn57, fi57, Tryz.f57]
  by_cases h : b ≤ a
  · simp [vmS, lenA, indexAddrA, h]
    exact hp _ _ (by simp [FRes.melt, AV.melt, AV.dead, h])
  · simp [vmS, lenA, indexAddrA, h]
    exact hp _ _ (by simp [FRes.melt, AV.melt, AV.dead, h])

theorem lies_use {cs : List Con} (h : sumOf cs 57 = liesC.look) {n : Nat} {a b c : Int} {S : St} : callS ED (sumOf cs) n (.fn 57) [.int .i64 a, .int .i64 b, .int .i64 c] S = some (.ret (.bool (decide (b ≤ a) && decide (a ≤ c))), S) :=
  Con.use (c := liesC) (fun (x y : Int × Int × Int) _ _ h => by
    obtain ⟨a, b, c⟩ := x
    obtain ⟨d, e, f⟩ := y
    have h' : [AV.int .i64 a, AV.int .i64 b, AV.int .i64 c] = [AV.int .i64 d, AV.int .i64 e, AV.int .i64 f] := h
    cases h'; rfl) h (a, b, c) trivial rfl

def IntsD (v : AV) (zs : List Int) : Prop := (v = .nils ∧ zs = []) ∨ v = .slice (ints zs) .dead

theorem IntsD.inj {v : AV} {a b : List Int} (h : IntsD v a) (k : IntsD v b) : a = b := by
  rcases h with ⟨rfl, rfl⟩ | rfl <;> rcases k with ⟨h1, h2⟩ | h1
  · exact h2.symm
  · cases h1
  · cases h1
  · simp only [AV.slice.injEq, and_true] at h1
    exact ints_inj h1

theorem IntsD.pers {v : AV} {a : List Int} (h : IntsD v a) : v.pers = true := by
  rcases h with ⟨rfl, rfl⟩ | rfl
  · rfl
  · simp [AV.pers, ints_pers]

theorem len_i64 {α : Type} {l : List α} (h : l.length ≤ maxLen) : I64 (l.length : Int) := by
  rw [i64_iff]
  unfold maxLen at h
  omega


end Go.Proofs.YtpjcmiaanjcanaaGreatDoor

namespace Go.Proofs.YtpjcmiaanjcanaaGreatDoor
open Go Go.Vm Go.Vm.T
set_option maxRecDepth 100000
set_option linter.unusedSimpArgs false
set_option linter.unusedVariables false
attribute [local simp] inFrame startLoc startVals Loc.clear blockC Loc.putO Loc.put idx evO constV Loc.get Vm.look intA unwindA resultsA resultV actA pureA storeA loadA fillE repElems TI.zeroV fieldOf fieldAddrA fieldA elemsA retE cellsOf? setCells nowhere

def nums (zs : List Int) : GV := .seq (zs.map .num)

def wordsC : Con where
  f := 24
  X := List Int
  dom zs := zs.length ≤ 1000
  enc zs := [.slice (ints zs) .dead]
  res zs := .ret (nums zs).enc

theorem encs_append (a b : List GV) : GV.encs (a ++ b) = GV.encs a ++ GV.encs b := by simp [GV.encs_map]
@[simp] theorem encs_length (a : List GV) : (GV.encs a).length = a.length := by simp [GV.encs_map]

theorem encs_cells {l : List GV} : ∀ y ∈ GV.encs l, y.cells.length = 3 := by
  intro y hy
  rw [GV.encs_map] at hy
  obtain ⟨g, _, rfl⟩ := List.mem_map.1 hy
  obtain ⟨k, n, x, e, _⟩ := g.shape
  rw [e]; rfl

theorem append_gv {S : St} {v : AV} {l : List GV} {g : GV} {T : Option Nat} (hl : LiveT S 3 v (GV.encs l) T) (hlen : l.length ≤ 10000) :
    ∃ v' S', appendA ED S 24 v [g.enc] = some (v', S') ∧ LiveT S' 3 v' (GV.encs (l ++ [g])) (some S.n) ∧ S'.n = S.n + 1 ∧ Kept T S S' := by
  obtain ⟨k, n, x, e, hx⟩ := g.shape
  have h1 : g.enc.cells.all (·.isCell) = true := by rw [e]; simp [AV.cells, AV.isCell]; exact hx
  have h2 : g.enc.cells.length = 3 := encs_cells (l := [g]) _ (by simp [GV.encs])
  rw [encs_append]
  exact append_1 (i := ti24) ED_ti24 (by decide) hl encs_cells h1 h2 (by simp [roomOk, roomMost, ti24]; omega)

/-- a list of values that grows from nil -/
def Lv (S : St) (v : AV) (l : List GV) (T : Option Nat) : Prop := LiveT S 3 v (GV.encs l) T ∧ (l = [] → v = .nils)

theorem Lv.dead {S : St} {l : List GV} {v : AV} {T : Option Nat} (h : Lv S v l T) : v.dead = lst (GV.encs l) := by
  cases l with
  | nil => rw [h.2 rfl]; rfl
  | cons a r =>
    rcases h.1.cases with ⟨_, h2⟩ | ⟨tk, rfl⟩
    · cases h2
    · have := GV.encs_dead (a :: r)
      simp only [AV.dead, this]
      rfl

theorem Lv.known {S : St} {l : List GV} {v : AV} {T : Option Nat} (h : Lv S v l T) : v.isCell = true ∧ v.cells = [v] ∧ v.known = true := by
  rcases h.1.cases with ⟨rfl, _⟩ | ⟨tk, rfl⟩ <;> exact ⟨rfl, rfl, rfl⟩

theorem Lv.append {S : St} {v : AV} {l : List GV} (g : GV) {T : Option Nat} (h : Lv S v l T) (hlen : l.length ≤ 10000) :
    ∃ v' S', appendA ED S 24 v [g.enc] = some (v', S') ∧ Lv S' v' (l ++ [g]) (some S.n) ∧ S'.n = S.n + 1 ∧ Kept T S S' := by
  obtain ⟨v', S', h1, h2, h3, h4⟩ := append_gv (g := g) h.1 hlen
  exact ⟨v', S', h1, ⟨h2, by simp⟩, h3, h4⟩

theorem Lv.put {S : St} {l : List GV} {v : AV} {T : Option Nat} {i : Nat} {cs : List AV} {o : AO} (h : Lv S v l T) (hi : S.cells? i = some cs) : Lv (S.put i o) v l T := ⟨h.1.put hi, h.2⟩

def vloc (vals : List AV) (sc : List (Tmp × AV)) : Vm.Loc := { vals := vals, sc := sc, defers := [], recs := .no, rnd := none }

theorem take_num {zs : List Int} {j : Nat} (hj : j < zs.length) : (zs.take (j + 1)).map GV.num = (zs.take j).map GV.num ++ [GV.num zs[j]] := by
  rw [List.take_add_one, List.getElem?_eq_getElem hj, List.map_append]
  rfl

theorem words_use {cs : List Con} (h : sumOf cs 24 = wordsC.look) {n : Nat} {v : AV} {zs : List Int} {S : St} (hv : v.dead = .slice (ints zs) .dead) (hl : zs.length ≤ 1000) :
    callS ED (sumOf cs) n (.fn 24) [v] S = some (.ret (nums zs).enc, S) :=
  Con.use (c := wordsC) (fun (x y : List Int) hx hy h => by
    have h' : [AV.slice (ints x) .dead] = [AV.slice (ints y) .dead] := h
    simp only [List.cons.injEq, AV.slice.injEq, and_true] at h'
    rw [ints_inj h']) h zs hl (by show [v.dead] = [AV.slice (ints zs) .dead]; rw [hv])

theorem words_ok : wordsC.Ok Tryz.prog ED := by
  refine Con.ok_at ED_ok ED_pers [wordC, seqC] (by simpa using ⟨word_ok, seq_ok⟩) (fun (x : List Int) _ => ⟨by show AV.persL [.slice (ints x) .dead] = true; simp [AV.persL, AV.pers, ints_pers], GV.pers _⟩) ?_
  intro zs hlen
  simp only [wordsC] at zs hlen ⊢
  refine ⟨zs.length + 2, fun p hp => ?_⟩
  have d0 := @dr24_0
  simp only [drA, drawsOf, Option.getD_some, List.nil_append, List.append_nil, List.getD_cons_zero, List.getD_cons_succ, List.cons_append, Tryz.f24] at d0
  rw [callS_fn rfl]
  have hsq := fun (n : Nat) (S : St) => seq_use (cs := [wordC, seqC]) rfl (n := n) (S := S) (l := []) (v := .nils) rfl
  have hwd := fun (n : Nat) (z : Int) (S : St) => word_use (cs := [wordC, seqC]) rfl (n := n) (a := z) (S := S)
  simp only [fnA, ED_fn24, fi24, Tryz.f24]
  simp [vmS, lenA, indexAddrA, hsq, GV.enc, sv, GV.encs, lst]
  generalize hc : iter _ _ _ _ = c
  obtain ⟨e, L', S', rfl, hq⟩ := loop_of hc
    (fun k L S => ∃ j sc v T z, j + k = zs.length ∧ L = vloc [.slice (ints zs) .dead, .ptr 0 0, .ptr 1 0, .int .i64 (j : Nat)] sc ∧
      S.cells? 0 = some [.int .i64 0, .int .i64 0, z] ∧ S.cells? 1 = some [.int .i64 4, .int .i64 0, v] ∧ Lv S v ((zs.take j).map .num) T)
    (fun e L S => e = .exit 0 ∧ ∃ sc v T z, L = vloc [.slice (ints zs) .dead, .ptr 0 0, .ptr 1 0, .int .i64 zs.length] sc ∧
      S.cells? 0 = some [.int .i64 0, .int .i64 0, z] ∧ S.cells? 1 = some [.int .i64 4, .int .i64 0, v] ∧ Lv S v (zs.map .num) T)
    zs.length (by omega)
    (by
      refine ⟨0, _, .nils, none, .nils, by simp, rfl, ?_, ?_, .inl ⟨rfl, by simp [GV.encs]⟩, by simp⟩
      · simp [push_at, put_at, cellsOf?, n_push']
      · simp [push_at, put_at, cellsOf?, n_push'])
    (by
      rintro k L S ⟨j, sc, v, T, z, hjk, rfl, h0, h1, hl⟩ q hq1 hq2
      by_cases hj : j < zs.length
      · obtain ⟨v', S', ha, hl', hn', hk⟩ := hl.append (.num zs[j]) (by simp; omega)
        have hkn := hl'.known
        have h0' := hk.cells _ _ h0
        have h1' := hk.cells _ _ h1
        have hw : IntKind.i64.wrap ((j : Int) + 1) = ((j + 1 : Nat) : Int) := wrap_id (by omega) (by omega)
        simp [vmS, lenA, indexAddrA, runC_nil, runC_cons, pickC_some, wantC_tt, wantC_tf, effC_val, ifC_true, checkC, inPairs, keepC, okC, readsC_load, readV_some, AV.beq_self, wantA_n, wantA_g, wantD_some, d0, vloc, hj, hwd, h0, h1, ha, hkn, h0', h1', hw]
        refine hq1 (k - 1) _ _ (by omega) ⟨j + 1, _, v', some S.n, z, by omega, rfl, cells_put h1' h0' (by decide), cells_put_self h1', ?_⟩
        rw [take_num hj]
        exact hl'.put h1'
      · have hjl : j = zs.length := by omega
        subst hjl
        simp [vmS, lenA, indexAddrA, vloc]
        refine hq2 _ _ _ (by simp) ⟨rfl, _, v, T, z, rfl, h0, h1, by simpa using hl⟩)
  obtain ⟨rfl, sc, v, T, z, rfl, h0, h1, hl⟩ := hq
  have hkn := hl.known
  have h00 := cells_put_self (ds := [.int .i64 4, .int .i64 0, v]) h0
  simp [vmS, lenA, indexAddrA, vloc, h0, h1, h00, hkn]
  refine hp _ _ ?_
  simp [FRes.melt, AV.melt, AV.dead, AV.deadL, hl.dead, nums, GV.enc, sv]

end Go.Proofs.YtpjcmiaanjcanaaGreatDoor

namespace Go.Proofs.YtpjcmiaanjcanaaGreatDoor
open Go Go.Vm Go.Vm.T
set_option maxRecDepth 100000
set_option linter.unusedSimpArgs false
set_option linter.unusedVariables false
attribute [local simp] inFrame startLoc startVals Loc.clear blockC Loc.putO Loc.put idx evO constV Loc.get Vm.look intA unwindA resultsA resultV actA pureA storeA loadA fillE repElems TI.zeroV fieldOf fieldAddrA fieldA elemsA retE cellsOf? setCells nowhere

def flat : List (Int × Int) → List Int
  | [] => []
  | e :: r => e.1 :: e.2 :: flat r

@[simp] theorem flat_length : ∀ es : List (Int × Int), (flat es).length = 2 * es.length
  | [] => rfl
  | e :: r => by simp [flat, flat_length r]; omega

theorem flat_get0 : ∀ {es : List (Int × Int)} {j : Nat} (h : j < es.length), (flat es)[2 * j]'(by simp; omega) = es[j].1
  | e :: r, 0, h => rfl
  | e :: r, j + 1, h => by
    have := flat_get0 (es := r) (j := j) (by simpa using h)
    simpa [flat, Nat.mul_add] using this

theorem flat_get1 : ∀ {es : List (Int × Int)} {j : Nat} (h : j < es.length), (flat es)[2 * j + 1]'(by simp; omega) = es[j].2
  | e :: r, 0, h => rfl
  | e :: r, j + 1, h => by
    have := flat_get1 (es := r) (j := j) (by simpa using h)
    simpa [flat, Nat.mul_add] using this

theorem flat_append : ∀ a b : List (Int × Int), flat (a ++ b) = flat a ++ flat b
  | [], b => rfl
  | e :: r, b => by simp [flat, flat_append r b]

theorem flat_inj : ∀ {a b : List (Int × Int)}, flat a = flat b → a = b
  | [], [], _ => rfl
  | [], _ :: _, h => by simp [flat] at h
  | _ :: _, [], h => by simp [flat] at h
  | (x, y) :: r, (x', y') :: r', h => by
    simp only [flat, List.cons.injEq] at h
    rw [h.1, h.2.1, flat_inj h.2.2]

def duoV (e : Int × Int) : GV := .pair (.num e.1) (.num e.2)
def duosV (es : List (Int × Int)) : GV := .seq (es.map duoV)

def pairsC : Con where
  f := 19
  X := List (Int × Int)
  dom es := es.length ≤ 1000
  enc es := [.slice (ints (flat es)) .dead]
  res es := .ret (duosV es).enc

theorem take_duo {es : List (Int × Int)} {j : Nat} (hj : j < es.length) : (es.take (j + 1)).map duoV = (es.take j).map duoV ++ [duoV es[j]] := by
  rw [List.take_add_one, List.getElem?_eq_getElem hj, List.map_append]
  rfl

theorem pairs_use {cs : List Con} (h : sumOf cs 19 = pairsC.look) {n : Nat} {v : AV} {es : List (Int × Int)} {S : St} (hv : v.dead = .slice (ints (flat es)) .dead) (hl : es.length ≤ 1000) :
    callS ED (sumOf cs) n (.fn 19) [v] S = some (.ret (duosV es).enc, S) :=
  Con.use (c := pairsC) (fun (x y : List (Int × Int)) hx hy h => by
    have h' : [AV.slice (ints (flat x)) .dead] = [AV.slice (ints (flat y)) .dead] := h
    simp only [List.cons.injEq, AV.slice.injEq, and_true] at h'
    rw [flat_inj (ints_inj h')]) h es hl (by show [v.dead] = [AV.slice (ints (flat es)) .dead]; rw [hv])

theorem pairs_ok : pairsC.Ok Tryz.prog ED := by
  refine Con.ok_at ED_ok ED_pers [wordC, seqC, pairC] (by simpa using ⟨word_ok, seq_ok, pair_ok⟩) (fun (x : List (Int × Int)) _ => ⟨by show AV.persL [.slice (ints (flat x)) .dead] = true; simp [AV.persL, AV.pers, ints_pers], GV.pers _⟩) ?_
  intro es hlen
  simp only [pairsC] at es hlen ⊢
  refine ⟨es.length + 2, fun p hp => ?_⟩
  have d0 := @dr19_0
  simp only [drA, drawsOf, Option.getD_some, List.nil_append, List.append_nil, List.getD_cons_zero, List.getD_cons_succ, List.cons_append, Tryz.f19] at d0
  rw [callS_fn rfl]
  have hsq := fun (n : Nat) (S : St) => seq_use (cs := [wordC, seqC, pairC]) rfl (n := n) (S := S) (l := []) (v := .nils) rfl
  have hwd := fun (n : Nat) (z : Int) (S : St) => word_use (cs := [wordC, seqC, pairC]) rfl (n := n) (a := z) (S := S)
  have hpr := fun (n : Nat) (a b : GV) (S : St) => pair_use (cs := [wordC, seqC, pairC]) rfl (n := n) (a := a) (b := b) (S := S)
  simp only [fnA, ED_fn19, fi19, Tryz.f19]
  simp [vmS, lenA, indexAddrA, hsq, GV.enc, sv, GV.encs, lst]
  generalize hc : iter _ _ _ _ = c
  obtain ⟨e, L', S', rfl, hq⟩ := loop_of hc
    (fun k L S => ∃ j m sc v T z, j + k = es.length ∧ m = 2 * j ∧ L = vloc [.slice (ints (flat es)) .dead, .ptr 0 0, .ptr 1 0, .int .i64 (m : Nat)] sc ∧
      S.cells? 0 = some [.int .i64 0, .int .i64 0, z] ∧ S.cells? 1 = some [.int .i64 4, .int .i64 0, v] ∧ Lv S v ((es.take j).map duoV) T)
    (fun e L S => e = .exit 0 ∧ ∃ i sc v T z, L = vloc [.slice (ints (flat es)) .dead, .ptr 0 0, .ptr 1 0, .int .i64 i] sc ∧
      S.cells? 0 = some [.int .i64 0, .int .i64 0, z] ∧ S.cells? 1 = some [.int .i64 4, .int .i64 0, v] ∧ Lv S v (es.map duoV) T)
    es.length (by omega)
    (by
      refine ⟨0, 0, _, .nils, none, .nils, by simp, rfl, rfl, ?_, ?_, .inl ⟨rfl, by simp [GV.encs]⟩, by simp⟩
      · simp [push_at, put_at, cellsOf?, n_push']
      · simp [push_at, put_at, cellsOf?, n_push'])
    (by
      rintro k L S ⟨j, m, sc, v, T, z, hjk, hm, rfl, h0, h1, hl⟩ q hq1 hq2
      have hw1 : IntKind.i64.wrap ((m : Int) + 1) = (m : Int) + 1 := wrap_id (by omega) (by omega)
      by_cases hj : j < es.length
      · obtain ⟨v', S', ha, hl', hn', hk⟩ := hl.append (duoV es[j]) (by simp; omega)
        have hkn := hl'.known
        have h0' := hk.cells _ _ h0
        have h1' := hk.cells _ _ h1
        have hw2 : IntKind.i64.wrap ((m : Int) + 2) = (m : Int) + 2 := wrap_id (by omega) (by omega)
        have ht : ((m : Int) + 1).toNat = m + 1 := by omega
        have hb1 : (m : Int) + 1 < 2 * (es.length : Int) := by omega
        have hb2 : (m : Int) < 2 * (es.length : Int) := by omega
        have hb3 : (0 : Int) ≤ (m : Int) + 1 := by omega
        have hb4 : m < 2 * es.length := by omega
        have hb5 : m + 1 < 2 * es.length := by omega
        have e0 : (flat es)[m]'(by simp; omega) = es[j].1 := by subst hm; exact flat_get0 hj
        have e1 : (flat es)[m + 1]'(by simp; omega) = es[j].2 := by subst hm; exact flat_get1 hj
        simp only [duoV] at ha
        simp [vmS, lenA, indexAddrA, runC_nil, runC_cons, pickC_some, wantC_tt, wantC_tf, effC_val, ifC_true, checkC, inPairs, keepC, okC, readsC_load, readV_some, AV.beq_self, wantA_n, wantA_g, wantD_some, d0, vloc, hwd, hpr, h0, h1, ha, hkn, h0', h1', hw1, hw2, ht, hb1, hb2, hb3, hb4, hb5, e0, e1]
        refine hq1 (k - 1) _ _ (by omega) ⟨j + 1, m + 2, _, v', some S.n, z, by omega, by omega, rfl, cells_put h1' h0' (by decide), cells_put_self h1', ?_⟩
        rw [take_duo hj]
        exact hl'.put h1'
      · have hjl : j = es.length := by omega
        have hb : ¬ (m : Int) + 1 < 2 * (es.length : Int) := by omega
        subst hjl
        simp [vmS, lenA, indexAddrA, vloc, hw1, hb]
        refine hq2 _ _ _ (by simp) ⟨rfl, _, _, v, T, z, rfl, h0, h1, by simpa using hl⟩)
  obtain ⟨rfl, i, sc, v, T, z, rfl, h0, h1, hl⟩ := hq
  have hkn := hl.known
  have h00 := cells_put_self (ds := [.int .i64 4, .int .i64 0, v]) h0
  simp [vmS, lenA, indexAddrA, vloc, h0, h1, h00, hkn]
  refine hp _ _ ?_
  simp [FRes.melt, AV.melt, AV.dead, AV.deadL, hl.dead, duosV, GV.enc, sv]

end Go.Proofs.YtpjcmiaanjcanaaGreatDoor

namespace Go.Proofs.YtpjcmiaanjcanaaGreatDoor
open Go Go.Vm Go.Vm.T
set_option maxRecDepth 100000
set_option linter.unusedSimpArgs false
set_option linter.unusedVariables false
attribute [local simp] inFrame startLoc startVals Loc.clear blockC Loc.putO Loc.put idx evO constV Loc.get Vm.look intA unwindA resultsA resultV actA pureA storeA loadA fillE repElems TI.zeroV fieldOf fieldAddrA fieldA elemsA retE cellsOf? setCells nowhere

@[simp] theorem encs_getElem {l : List GV} {i : Nat} (h : i < (GV.encs l).length) : (GV.encs l)[i] = (l[i]'(by simpa using h)).enc := by simp [GV.encs_map]

theorem num_inj {a b : List Int} (h : a.map GV.num = b.map GV.num) : a = b := by
  induction a generalizing b with
  | nil => cases b with
    | nil => rfl
    | cons y b => simp at h
  | cons x a ih => cases b with
    | nil => simp at h
    | cons y b =>
      simp only [List.map_cons, List.cons.injEq, GV.num.injEq] at h
      rw [h.1, ih h.2]

theorem nums_enc_inj {a b : List Int} (h : (nums a).enc = (nums b).enc) : a = b := by
  simp only [nums, GV.enc, sv, AV.agg.injEq, List.cons.injEq, true_and, and_true] at h
  have h2 : GV.encs (a.map .num) = GV.encs (b.map .num) := by
    cases ha : GV.encs (a.map .num) <;> cases hb : GV.encs (b.map .num) <;> simp_all [lst]
  induction a generalizing b with
  | nil => cases b with
    | nil => rfl
    | cons y b => simp [GV.encs] at h2
  | cons x a ih => cases b with
    | nil => simp [GV.encs] at h2
    | cons y b =>
      simp only [List.map_cons, GV.encs, List.cons.injEq, GV.enc, wv, AV.agg.injEq, AV.int.injEq, true_and, and_true] at h2
      rw [h2.1, ih (by rw [h2.2]) h2.2]

/-- numbers that grow -/
theorem append_int {S : St} {v : AV} {zs : List Int} (z : Int) {T : Option Nat} (hl : LiveT S 1 v (ints zs) T) (hlen : zs.length ≤ 10000) :
    ∃ v' S', appendA ED S 3 v [.int .i64 z] = some (v', S') ∧ LiveT S' 1 v' (ints (zs ++ [z])) (some S.n) ∧ S'.n = S.n + 1 ∧ Kept T S S' := by
  rw [ints_append]
  refine append_1 (i := ti3) ED_ti3 (by decide) hl (fun y hy => ?_) (by simp [AV.cells, AV.isCell]) rfl (by simp [roomOk, roomMost, ti3]; omega)
  unfold ints at hy
  obtain ⟨z, _, rfl⟩ := List.mem_map.1 hy
  rfl

theorem lst_len {es : List AV} : lenA ED 22 (lst es) = some (.int .i64 es.length) := by
  cases es <;> rfl

theorem lst_index {l : List GV} {j : Nat} (h : j < l.length) : indexAddrA ED 22 (lst (GV.encs l)) (.int .i64 j) = some (.rptr l[j].enc.cells) := by
  cases l with
  | nil => simp at h
  | cons a r =>
    simp only [lst, GV.encs, indexAddrA]
    have e : (a.enc :: GV.encs r)[j]? = some (a :: r)[j].enc := by
      have := encs_getElem (l := a :: r) (i := j) (by simpa using h)
      rw [List.getElem?_eq_getElem (by simpa using h)]
      exact congrArg some this
    simp only [ED_desc22, ED_size24, Int.toNat_natCast]
    have h1 : (0 : Int) ≤ (j : Int) ∧ (j : Int) < ((a.enc :: GV.encs r).length : Nat) := by
      simp only [List.length_cons, encs_length] at h ⊢
      omega
    rw [if_pos h1, e]
    simp


end Go.Proofs.YtpjcmiaanjcanaaGreatDoor
