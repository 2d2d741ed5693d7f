/-
What is asked of a law by its statement. No conditions.
-/
import Derived.Test.YtjgigcaelcapdaaDoorTab
import Derived.Test.YtjgigcaelcapdaaDoorVmI
import Derived.Test.YtjgigcaelcapdaaDoorRows
import Derived.Test.YtjgigcaelcapdaaDoorTie
import Derived.ProofKit
import Derived.LaidMore
import Derived.Stop.Joined
import Derived.Lib.LaidTab
import Derived.Stop.LaidErr
import Derived.OpenShut
set_option linter.all false

namespace Go.Proofs.YtjgigcaelcapdaaDoor
open Go Go.Vm Go.Vm.T Go.ChangeShapes Go.OpenShut Go.WideShapes Go.ChangeAt Go.RowKit
set_option maxRecDepth 100000

def ints (l : List Int) : List AV := l.map fun n => .int .i64 n

def gl (g : Nat) : Option (List AV) := match g with
  | 0 => some (ints [1099511627776, 1099511627776])
  | 1 => some (ints [0, 1, 2, 3, 4])
  | 2 => some (ints [0, 0, 2, 2, 1])
  | 3 => some [.fn 87 [] [], .fn 88 [] [], .fn 89 [] [], .fn 90 [] [], .fn 91 [] []]
  | _ => none

noncomputable def ED : Env := { ti := tiT.look, fn := fnT.look, glob := gl }

theorem ED_ok : EnvOk Tryd.prog ED := envOk gl

abbrev laidAll : List (String × DataW Unit) := [("sheafworks/nest.counters", Rows.laid_sheafworks_nest_counters), ("sheafworks/nest.arity", Rows.laid_sheafworks_nest_arity), ("sheafworks/nest.kinds", Rows.laid_sheafworks_nest_kinds), ("sheafworks/libg.nobody", Rows.laid_sheafworks_libg_nobody)]

theorem door_met (os : Os) (args : Array Value) : laidMetH Tryd.prog laidAll ((World.doorLaid Tryd.prog 600 os).forCall (fun _ _ => 0) ⟨#[], args, []⟩).memory :=
  laidMetH_of_parts3 (fuel := 8) (laidMet_of_run' 8 (by kernel_rfl) (by kernel_rfl)) (by kernel_rfl) (by kernel_rfl)

theorem rptr_of {W : World} {g : Nat} {cs : List AV} (h : ∀ (j : Nat) x, cs[j]? = some x → ∃ y, W.cell? ⟨g, j, none⟩ = some y ∧ ∀ G, Rep G x y) : Rep (startG W.heap) (.rptr cs) (.pointer (some ⟨g, 0, none⟩)) := by
  refine .rptr cs g 0 (fun j hj => ?_) (fun j x y hx hy => ?_)
  · obtain ⟨y, hy, _⟩ := h j _ (List.getElem?_eq_getElem hj)
    exact ⟨y, start_imm (by rw [Nat.zero_add, ← cell?_eq]; exact hy)⟩
  · obtain ⟨y', hy', hr⟩ := h j x hx
    have := start_imm (h := W.heap) (b := g) (o := 0 + j) (by rw [Nat.zero_add, ← cell?_eq]; exact hy')
    rw [this] at hy
    cases hy
    exact hr _

theorem ints_of {W : World} {g : Nat} {zs : List Int} (h : ∀ i, i < zs.length → W.cell? ⟨g, i, none⟩ = some (.int .i64 (zs.getD i 0))) : Rep (startG W.heap) (.rptr (ints zs)) (.pointer (some ⟨g, 0, none⟩)) := by
  refine rptr_of fun j x hx => ?_
  unfold ints at hx
  rw [List.getElem?_map] at hx
  cases hz : zs[j]? with
  | none => rw [hz] at hx; cases hx
  | some z =>
    rw [hz] at hx
    cases hx
    have hj : j < zs.length := (List.getElem?_eq_some_iff.1 hz).1
    refine ⟨_, h j hj, fun G => ?_⟩
    have : zs.getD j 0 = z := by simp [List.getD_eq_getElem?_getD, hz]
    rw [this]
    exact .int .i64 z

theorem globs {W : World} (hL : laidMetH Tryd.prog laidAll W) : GlobOk ED (startG W.heap) := by
  have h1 := (laidMetH_iff.1 hL).1
  have h1' : laidMet Tryd.prog [("sheafworks/nest.arity", Rows.laid_sheafworks_nest_arity), ("sheafworks/nest.kinds", Rows.laid_sheafworks_nest_kinds), ("sheafworks/libg.nobody", Rows.laid_sheafworks_libg_nobody)] W := h1
  have hA := Lib.tabIs_of_head (P := Tryd.prog) (name := "sheafworks/nest.arity") (k := .i64) (zs := [0, 0, 2, 2, 1]) (g := 2) (t := 97) (e := 3) (n := 5) (by kernel_rfl) (by kernel_rfl) (by kernel_rfl) (by kernel_rfl) (by kernel_rfl) (by kernel_rfl) h1'
  have h2' := laidMet.tail h1'
  have hK := Lib.tabIs_of_head (P := Tryd.prog) (name := "sheafworks/nest.kinds") (k := .i64) (zs := [0, 1, 2, 3, 4]) (g := 1) (t := 97) (e := 3) (n := 5) (by kernel_rfl) (by kernel_rfl) (by kernel_rfl) (by kernel_rfl) (by kernel_rfl) (by kernel_rfl) h2'
  have h3' := laidMet.tail h2'
  intro g cs hg
  have hg' : gl g = some cs := hg
  unfold gl at hg'
  split at hg'
  · -- nobody
    cases hg'
    obtain ⟨ps, ⟨g', t', cs, fuel, p, q, hg', ht', hvar, hd, _, _⟩, _⟩ := h3'
    obtain rfl := Option.some.inj ((show Tryd.prog.globalNamed "sheafworks/libg.nobody" = some 0 by kernel_rfl).symm.trans hg')
    obtain rfl := Option.some.inj ((show (Tryd.prog.globals[0]?).map (·.type) = some 81 by kernel_rfl).symm.trans ht')
    obtain ⟨y0, y1, n, hx, hl, hy0, hy1⟩ := trod_struct2 tiOk81.und hd
    obtain ⟨z0, h0, e0, _⟩ := DataW.trod_int (k := .i64) (by kernel_rfl) hy0
    obtain ⟨z1, h1, e1, _⟩ := DataW.trod_int (k := .i64) (by kernel_rfl) hy1
    rw [e0, e1] at hx
    simp only [Rows.laid_sheafworks_libg_nobody, Prod.mk.injEq, DataW.agg.injEq, List.cons.injEq, DataW.lit.injEq, Lit.int.injEq, true_and, and_true] at hx
    obtain ⟨⟨rfl, rfl⟩, _⟩ := hx
    have hc3 : Tryd.prog.cellsOf 3 = 1 := by kernel_rfl
    have hlen : cs.toList.length = 2 := hl.trans (by kernel_rfl)
    have hg0 : cs.toList[0]? = some (.int .i64 1099511627776) := by
      have h0' : (cs.toList.drop 0).take 1 = [.int .i64 1099511627776] := by
        have := h0
        rw [show Tryd.prog.cellsOf _ = 1 from hc3] at this
        exact this
      have := congrArg (·[0]?) h0'
      simpa using this
    have hg1 : cs.toList[1]? = some (.int .i64 1099511627776) := by
      have h1' : (cs.toList.drop 1).take 1 = [.int .i64 1099511627776] := by
        have := h1
        rw [show Tryd.prog.cellsOf _ = 1 from hc3] at this
        exact this
      have := congrArg (·[0]?) h1'
      simpa using this
    refine ints_of fun i hi => ?_
    have hv := World.var?_cell (by kernel_rfl : Tryd.prog.globalNamed "sheafworks/libg.nobody" = some 0) hvar i
    rw [hv]
    match i, hi with
    | 0, _ => simpa using hg0
    | 1, _ => simpa using hg1
  · cases hg'
    exact ints_of fun i hi => hK.cell (by kernel_rfl) i hi
  · cases hg'
    exact ints_of fun i hi => hA.cell (by kernel_rfl) i hi
  · cases hg'
    obtain ⟨g, t, cs, fuel, p, hg, ht, hv, hd⟩ := hL.funcs (List.mem_cons_self ..)
    obtain rfl := Option.some.inj ((show Tryd.prog.globalNamed "sheafworks/nest.counters" = some 3 by kernel_rfl).symm.trans hg)
    obtain rfl := Option.some.inj ((show (Tryd.prog.globals[3]?).map (·.type) = some 111 by kernel_rfl).symm.trans ht)
    have hd' : DataW.trod (funcToken Tryd.prog) Tryd.prog W 0 (fun _ => true) true fuel 111 cs.toList = some (.agg [.held [40, 42, 115, 104, 101, 97, 102, 119, 111, 114, 107, 115, 47, 110, 101, 115, 116, 46, 108, 97, 121, 111, 117, 116, 41, 46, 110, 111, 110, 101], .held [40, 42, 115, 104, 101, 97, 102, 119, 111, 114, 107, 115, 47, 110, 101, 115, 116, 46, 108, 97, 121, 111, 117, 116, 41, 46, 111, 110, 101], .held [40, 42, 115, 104, 101, 97, 102, 119, 111, 114, 107, 115, 47, 110, 101, 115, 116, 46, 108, 97, 121, 111, 117, 116, 41, 46, 98, 111, 116, 104], .held [40, 42, 115, 104, 101, 97, 102, 119, 111, 114, 107, 115, 47, 110, 101, 115, 116, 46, 108, 97, 121, 111, 117, 116, 41, 46, 115, 117, 109], .held [40, 42, 115, 104, 101, 97, 102, 119, 111, 114, 107, 115, 47, 110, 101, 115, 116, 46, 108, 97, 121, 111, 117, 116, 41, 46, 115, 101, 113]], p) := hd
    obtain ⟨xs, m, _, hx, hl, hxl, hel⟩ := DataW.trod_array (n := 5) (e := 110) (by kernel_rfl) hd'
    have hc : Tryd.prog.cellsOf 110 = 1 := by kernel_rfl
    have hlen : cs.toList.length = 5 := hl.trans (by kernel_rfl)
    match xs, hxl with
    | [x0, x1, x2, x3, x4], _ =>
      simp only [List.map_cons, List.map_nil, Prod.mk.injEq] at hx
      have hx1 := hx.1
      injection hx1 with hx1
      have cell : ∀ i (v : Value), cs.toList[i]? = some v → W.cell? ⟨3, i, none⟩ = some v := by
        intro i v h
        have := World.var?_cell (by kernel_rfl : Tryd.prog.globalNamed "sheafworks/nest.counters" = some 3) hv i
        rw [this]; simpa using h
      have row : ∀ i, i < 5 → ∃ v, cs.toList[i]? = some v ∧ (cs.toList.drop (i * Tryd.prog.cellsOf 110)).take (Tryd.prog.cellsOf 110) = [v] := by
        intro i hi
        have hi' : i < cs.toList.length := by omega
        refine ⟨cs.toList[i], List.getElem?_eq_getElem hi', ?_⟩
        rw [hc, Nat.mul_one, List.drop_eq_getElem_cons hi']
        rfl
      simp only [List.cons.injEq, and_true] at hx1
      obtain ⟨e0, e1, e2, e3, e4⟩ := hx1
      have fn : ∀ (i : Nat) (f0 : FuncId) (b : UInt8) (r : List UInt8) (y : DataW (List UInt8) × List MemPlace), i < 5 → [x0, x1, x2, x3, x4][i]? = some y → y.1 = .held (b :: r) →
          ((List.range Tryd.prog.funcs.size).filter fun f => (Tryd.prog.funcs[f]?).any (·.name.toUTF8.data.toList == b :: r)) = [f0] → W.cell? ⟨3, i, none⟩ = some (.func (.func f0) #[] #[]) := by
        intro i f0 b r y hi hy hyb hone
        obtain ⟨v, hv1, hv2⟩ := row i hi
        have h1 := hel i hi
        rw [hv2, hy] at h1
        obtain ⟨y1, y2⟩ := y
        simp only at hyb
        subst hyb
        rw [func_of_trod (f0 := f0) tiOk110.und hone h1] at hv1
        exact cell i _ hv1
      have c0 := fn 0 87 _ _ x0 (by omega) rfl e0.symm (by kernel_rfl)
      have c1 := fn 1 88 _ _ x1 (by omega) rfl e1.symm (by kernel_rfl)
      have c2 := fn 2 89 _ _ x2 (by omega) rfl e2.symm (by kernel_rfl)
      have c3 := fn 3 90 _ _ x3 (by omega) rfl e3.symm (by kernel_rfl)
      have c4 := fn 4 91 _ _ x4 (by omega) rfl e4.symm (by kernel_rfl)
      refine rptr_of fun j x hj => ?_
      match j, hj with
      | 0, hj => cases hj; exact ⟨_, c0, fun G => .fn 87 [] [] #[] #[] rfl rfl (by simp) (by simp)⟩
      | 1, hj => cases hj; exact ⟨_, c1, fun G => .fn 88 [] [] #[] #[] rfl rfl (by simp) (by simp)⟩
      | 2, hj => cases hj; exact ⟨_, c2, fun G => .fn 89 [] [] #[] #[] rfl rfl (by simp) (by simp)⟩
      | 3, hj => cases hj; exact ⟨_, c3, fun G => .fn 90 [] [] #[] #[] rfl rfl (by simp) (by simp)⟩
      | 4, hj => cases hj; exact ⟨_, c4, fun G => .fn 91 [] [] #[] #[] rfl rfl (by simp) (by simp)⟩
      | n + 5, hj => simp at hj
  · cases hg'

/-! arguments -/

def I64 (n : Int) : Prop := (Lit.int .i64 n).wf = true

inductive IntsV : AV → List Int → Prop
  | nil : IntsV .nils []
  | slice (zs : List Int) : IntsV (.slice (ints zs) .dead) zs

/-- a slice of integers that came in -/
theorem intsV_rep {W : World} {a : Addr} {len cap : Nat} {zs : List Int} (hl : len ≤ cap) (hz : zs.length = cap) (hcell : ∀ i, i < zs.length → W.cell? (a.add i) = some (.int .i64 (zs.getD i 0))) :
    Rep (startG W.heap) (.slice (ints (zs.take len)) .dead) (.slice (some a) len cap) := by
  obtain ⟨b, o, sp⟩ := a
  rcases Nat.eq_zero_or_pos cap with h0 | hpos
  · have hl0 : len = 0 := by omega
    subst h0; subst hl0
    simp only [List.take_zero, ints, List.map_nil]
    exact .slice0 _
  · have hs : sp = none := by
      have := World.cell?_spot (hcell 0 (by omega))
      simpa [Addr.add] using this
    subst hs
    have hil : (ints (zs.take len)).length = len := by simp [ints]; omega
    have hflat : (ints (zs.take len)).flatMap AV.cells = ints (zs.take len) := by
      unfold ints
      generalize zs.take len = l
      induction l with
      | nil => rfl
      | cons x l ih => simp only [List.map_cons, List.flatMap_cons, ih]; rfl
    have hc : ∀ j, j < len → cl W.heap b (o + j) = some (.int .i64 (zs.getD j 0)) := by
      intro j hj
      have := hcell j (by omega)
      rw [add_eq] at this
      rw [← cell?_eq]
      exact this
    refine .slice _ _ b o len cap 1 hil.symm (fun e he => ?_) hl (fun j hj => ?_) (fun j x y hx hy => ?_) trivial
    · unfold ints at he
      obtain ⟨z, _, rfl⟩ := List.mem_map.1 he
      rfl
    · rw [hflat, hil] at hj
      exact ⟨_, start_imm (hc j hj)⟩
    · rw [hflat] at hx
      have hj : j < len := by
        rw [← hil]
        rcases Nat.lt_or_ge j (ints (zs.take len)).length with h | h
        · exact h
        · rw [List.getElem?_eq_none h] at hx; cases hx
      rw [start_imm (hc j hj)] at hy
      cases hy
      unfold ints at hx
      rw [List.getElem?_map, List.getElem?_take, if_pos hj] at hx
      cases hzj : zs[j]? with
      | none => rw [hzj] at hx; cases hx
      | some z =>
        rw [hzj] at hx
        cases hx
        have : zs.getD j 0 = z := by simp [List.getD_eq_getElem?_getD, hzj]
        rw [this]
        exact .int .i64 z

theorem open_arg {H : Type} {enc : TypeId × Value → H} {W : World} {base : Nat} {v : Value} {d : DataW H} {ps : List MemPlace} (hval : Value.okWide Tryd.prog W .any base 22 v) (hd : DataW.Trod enc Tryd.prog W 0 (fun _ => true) true 22 v d ps) :
    ∃ l zs, IntsV l zs ∧ (∀ z ∈ zs, I64 z) ∧ zs.length ≤ maxLen ∧ Rep (startG W.heap) l v := by
  obtain ⟨a0, len, cap, rfl⟩ := okWide_slice tiOk22.und hval
  obtain ⟨fuel, hf⟩ := hd
  rcases open_ints tiOk22.und tiOk3.und (by kernel_rfl) hf with ⟨hcs, hx⟩ | ⟨a, len', cap', zs, hcs, _, hl, hm, hz, hx, hcell, hwz⟩
  · simp [Value.cells] at hcs
    obtain ⟨rfl, rfl, rfl⟩ := hcs
    exact ⟨.nils, [], .nil, by simp, by simp, .nils⟩
  · simp [Value.cells] at hcs
    obtain ⟨rfl, rfl, rfl⟩ := hcs
    simp only [if_true] at hz
    exact ⟨_, zs.take len, .slice _, fun z hzz => hwz z (List.mem_of_mem_take hzz), by simp; omega, intsV_rep hl hz hcell⟩

/-- a call that is known to return true, with nothing touched -/
theorem call_true {k : FuncId} {args : List AV} (h : Sound Tryd.prog ED k args (.ret (.bool true))) {W : World} {cargs : Array Value} (hL : laidMetH Tryd.prog laidAll W) (hr : Reps (startG W.heap) args cargs.toList) :
    Calls Tryd.prog k cargs W fun e W' => e = .returned (.bool true) ∧ (∀ b, b < W.heap.size → W'.heap[b]? = W.heap[b]?) ∧ (∀ may, W.keptBut W' may) ∧ ∀ a, W'.frozen? a = W.frozen? a := by
  have hc := h W (startG W.heap) cargs (start_inv ED W) rfl (globs hL) hr
  refine hc.2.mono fun e W' ⟨G', S', hG, I, hend⟩ => ?_
  obtain ⟨c, rfl, hv⟩ := hend
  cases hv
  have hsame : ∀ b, b < W.heap.size → W'.heap[b]? = W.heap[b]? := I.old
  refine ⟨rfl, hsame, fun may => ⟨I.os, I.out, fun i hi => ?_⟩, fun a => ?_⟩
  · rw [hsame i hi]
    split <;> simp_all
  · rcases Nat.lt_or_ge a.block W.heap.size with hb | hb
    · unfold World.frozen?
      rw [hsame _ hb]
    · have h1 : W.frozen? a = false := by
        unfold World.frozen?
        rw [Array.getElem?_eq_none hb]
      rw [h1]
      have h2 := I.fzB a.block a.off hb
      unfold World.frozen?
      unfold fz at h2
      split <;> simp_all

theorem laidOut' : laidOutB Tryd.prog = true := by kernel_rfl

theorem same_at {W W' : World} (h : ∀ b, b < W.heap.size → W'.heap[b]? = W.heap[b]?) {p : MemPlace} (hp : p.block < W.heap.size) : W.sameAt W' p := by
  cases p with
  | cell b o => exact World.cell?_of_block (w := W) (h b hp)
  | map b => exact h b hp

theorem trodAll_stays {P : Program} (hl : laidOutB P = true) {H : Type} {enc : TypeId × Value → H} {W W' : World} {sp : Nat → Bool} (hh : ∀ b, b < W.heap.size → W'.heap[b]? = W.heap[b]?) (ts : List TypeId) :
    ∀ (vs : List Value) (ds : List (DataW H)) (p : List MemPlace), (ts.all fun t => P.readableRec t && decide (t < P.types.size)) = true → DataW.TrodAll enc P W 0 (fun _ => true) true ts vs ds p →
      (∀ x ∈ p, x.block < W.heap.size) → (∀ x ∈ p, sp x.block = true) → DataW.TrodAll enc P W' 0 sp true ts vs ds p := by
  induction ts with
  | nil =>
    intro vs ds p _ h _ _
    cases vs <;> cases ds <;> first | exact h | exact h.elim
  | cons t ts ih =>
    intro vs ds p ht h hlt hs
    cases vs with
    | nil => exact h.elim
    | cons v vs =>
      cases ds with
      | nil => exact h.elim
      | cons d ds =>
        obtain ⟨p1, q1, h1, h2, rfl⟩ := h
        simp only [List.all_cons, Bool.and_eq_true, decide_eq_true_eq] at ht
        exact ⟨p1, q1, WideElems.Trod_stays hl ht.1.1 ht.1.2 h1 (fun x hx => same_at hh (hlt x (by simp [hx]))) (fun x hx => hs x (by simp [hx])),
          ih vs ds q1 ht.2 h2 (fun x hx => hlt x (by simp [hx])) (fun x hx => hs x (by simp [hx])), rfl⟩

theorem tOwn : ownKnob Tryd.prog.godebug = none := by kernel_rfl

/-- what is asked of a law of two arguments, of three -/
def Law2 (k : FuncId) : Prop := ∀ l zs n, IntsV l zs → (∀ z ∈ zs, I64 z) → zs.length ≤ maxLen → I64 n → Sound Tryd.prog ED k [l, .int .i64 n] (.ret (.bool true))
def Law3 (k : FuncId) : Prop := ∀ l zs m ys n, IntsV l zs → (∀ z ∈ zs, I64 z) → zs.length ≤ maxLen → IntsV m ys → (∀ z ∈ ys, I64 z) → ys.length ≤ maxLen → I64 n → Sound Tryd.prog ED k [l, m, .int .i64 n] (.ret (.bool true))

end Go.Proofs.YtjgigcaelcapdaaDoor
