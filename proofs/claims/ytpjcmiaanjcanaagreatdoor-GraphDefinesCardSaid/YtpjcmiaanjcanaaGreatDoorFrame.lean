/-
What is asked of a law by its statement. No conditions.
-/
import Derived.Test.YtpjcmiaanjcanaaGreatDoorTab
import Derived.Test.YtpjcmiaanjcanaaGreatDoorVmI
import Derived.Test.YtpjcmiaanjcanaaGreatDoorRows
import Derived.Test.YtpjcmiaanjcanaaGreatDoorTie
import Derived.ProofKit
import Derived.LaidMore
import Derived.Stop.Joined
import Derived.Lib.LaidTab
import Derived.Stop.LaidErr
import Derived.OpenShut
import Derived.SliceStrings
set_option linter.all false

namespace Go.Proofs.YtpjcmiaanjcanaaGreatDoor
open Go Go.Vm Go.Vm.T Go.ChangeShapes Go.OpenShut Go.WideShapes Go.ChangeAt Go.RowKit
set_option maxRecDepth 100000

def ints (l : List Int) : List AV := l.map fun n => .int .i64 n

def nComps : List UInt8 := [99, 111, 109, 112, 115]
def nDist : List UInt8 := [100, 105, 115, 116]
def nLevel : List UInt8 := [108, 101, 118, 101, 108]
def nSpmv : List UInt8 := [115, 112, 109, 118]
def nWalk : List UInt8 := [119, 97, 108, 107]
def nHull : List UInt8 := [104, 117, 108, 108]
def nms : List (List UInt8) := [nComps, nDist, nLevel, nSpmv, nWalk, nHull]

def gl (g : Nat) : Option (List AV) := match g with
  | 0 => some [.slice (nms.map .str) .dead]
  | 1 => some (ints [1099511627776, 1099511627776])
  | 2 => some (ints [0, 1, 2, 3, 4])
  | 3 => some (ints [0, 0, 2, 2, 1])
  | 4 => some [.fn 121 [] [], .fn 122 [] [], .fn 123 [] [], .fn 124 [] [], .fn 125 [] []]
  | _ => none

noncomputable def ED : Env := { ti := tiT.look, fn := fnT.look, glob := gl }

theorem ED_ok : EnvOk Tryz.prog ED := envOk gl

abbrev laidAll : List (String × DataW Unit) := [("sheafworks/nest.counters", Rows.laid_sheafworks_nest_counters), ("sheafworks/nest.arity", Rows.laid_sheafworks_nest_arity), ("sheafworks/nest.kinds", Rows.laid_sheafworks_nest_kinds), ("sheafworks/libg.nobody", Rows.laid_sheafworks_libg_nobody), ("sheafworks/libg.names", Rows.laid_sheafworks_libg_names)]

theorem door_met (os : Os) (args : Array Value) : laidMetH Tryz.prog laidAll ((World.doorLaid Tryz.prog 600 os).forCall (fun _ _ => 0) ⟨#[], args, []⟩).memory :=
  laidMetH_of_parts3 (fuel := 8) (laidMet_of_run' 8 (by kernel_rfl) (by kernel_rfl)) (by kernel_rfl) (by kernel_rfl)

theorem rptr_of {W : World} {g : Nat} {cs : List AV} (h : ∀ (j : Nat) x, cs[j]? = some x → ∃ y, W.cell? ⟨g, j, none⟩ = some y ∧ Rep (startG W.heap) x y) : Rep (startG W.heap) (.rptr cs) (.pointer (some ⟨g, 0, none⟩)) := by
  refine .rptr cs g 0 (fun j hj => ?_) (fun j x y hx hy => ?_)
  · obtain ⟨y, hy, _⟩ := h j _ (List.getElem?_eq_getElem hj)
    exact ⟨y, start_imm (by rw [Nat.zero_add, ← cell?_eq]; exact hy)⟩
  · obtain ⟨y', hy', hr⟩ := h j x hx
    have := start_imm (h := W.heap) (b := g) (o := 0 + j) (by rw [Nat.zero_add, ← cell?_eq]; exact hy')
    rw [this] at hy
    cases hy
    exact hr

theorem ints_of {W : World} {g : Nat} {zs : List Int} (h : ∀ i, i < zs.length → W.cell? ⟨g, i, none⟩ = some (.int .i64 (zs.getD i 0))) : Rep (startG W.heap) (.rptr (ints zs)) (.pointer (some ⟨g, 0, none⟩)) := by
  refine rptr_of fun j x hx => ?_
  unfold ints at hx
  rw [List.getElem?_map] at hx
  cases hz : zs[j]? with
  | none => rw [hz] at hx; cases hx
  | some z =>
    rw [hz] at hx
    cases hx
    have hj : j < zs.length := (List.getElem?_eq_some_iff.1 hz).1
    refine ⟨_, h j hj, ?_⟩
    have : zs.getD j 0 = z := by simp [List.getD_eq_getElem?_getD, hz]
    rw [this]
    exact .int .i64 z

/-- a slice that came in, from its cells -/
theorem slice_rep {W : World} {a : Addr} {len cap sz : Nat} {es : List AV} (hn : es.length = len) (hl : len ≤ cap) (hsz : ∀ e ∈ es, e.cells.length = sz) (h0 : cap = 0 ∨ a.spot = none)
    (hc : ∀ (j : Nat) x, (es.flatMap AV.cells)[j]? = some x → ∃ y, W.cell? (a.add j) = some y ∧ Rep (startG W.heap) x y) : Rep (startG W.heap) (.slice es .dead) (.slice (some a) len cap) := by
  obtain ⟨b, o, sp⟩ := a
  rcases h0 with h0 | h0
  · have hl0 : len = 0 := by omega
    subst h0; subst hl0
    have : es = [] := List.length_eq_zero_iff.1 hn
    subst this
    exact .slice0 _
  · simp only at h0
    subst h0
    refine .slice _ _ b o len cap sz hn.symm hsz hl (fun j hj => ?_) (fun j x y hx hy => ?_) trivial
    · obtain ⟨y, hy, _⟩ := hc j _ (List.getElem?_eq_getElem hj)
      rw [add_eq] at hy
      exact ⟨y, start_imm (by rw [← cell?_eq]; exact hy)⟩
    · obtain ⟨y', hy', hr⟩ := hc j x hx
      rw [add_eq] at hy'
      rw [start_imm (by rw [← cell?_eq]; exact hy')] at hy
      cases hy
      exact hr

theorem strs_rep {W : World} {a : Addr} {len cap : Nat} {ss : List ByteArray} (hl : len ≤ cap) (hz : ss.length = cap) (hcell : ∀ i, i < ss.length → W.cell? (a.add i) = some (.string (ss.getD i ByteArray.empty))) :
    Rep (startG W.heap) (.slice ((ss.take len).map fun s => .str s.data.toList) .dead) (.slice (some a) len cap) := by
  have hflat : ((ss.take len).map fun s => AV.str s.data.toList).flatMap AV.cells = (ss.take len).map fun s => AV.str s.data.toList := by
    generalize ss.take len = l
    induction l with
    | nil => rfl
    | cons x l ih => simp only [List.map_cons, List.flatMap_cons, ih]; rfl
  refine slice_rep (sz := 1) (by simp; omega) hl (fun e he => ?_) ?_ (fun j x hx => ?_)
  · obtain ⟨s, _, rfl⟩ := List.mem_map.1 he
    rfl
  · rcases Nat.eq_zero_or_pos cap with h | h
    · exact .inl h
    · right
      exact World.cell?_spot (by simpa [Addr.add] using hcell 0 (by omega))
  · rw [hflat, List.getElem?_map] at hx
    cases hs : (ss.take len)[j]? with
    | none => rw [hs] at hx; cases hx
    | some s =>
      rw [hs] at hx
      cases hx
      have hj : j < (ss.take len).length := (List.getElem?_eq_some_iff.1 hs).1
      rw [List.length_take] at hj
      rw [List.getElem?_take, if_pos (by omega)] at hs
      have hg : ss.getD j ByteArray.empty = s := by simp [List.getD_eq_getElem?_getD, hs]
      refine ⟨_, hcell j (by omega), ?_⟩
      rw [hg]
      exact .str s

theorem globs {W : World} (hL : laidMetH Tryz.prog laidAll W) : GlobOk ED (startG W.heap) := by
  have h1 := (laidMetH_iff.1 hL).1
  have h1' : laidMet Tryz.prog [("sheafworks/nest.arity", Rows.laid_sheafworks_nest_arity), ("sheafworks/nest.kinds", Rows.laid_sheafworks_nest_kinds), ("sheafworks/libg.nobody", Rows.laid_sheafworks_libg_nobody), ("sheafworks/libg.names", Rows.laid_sheafworks_libg_names)] W := h1
  have hA := Lib.tabIs_of_head (P := Tryz.prog) (name := "sheafworks/nest.arity") (k := .i64) (zs := [0, 0, 2, 2, 1]) (g := 3) (t := 112) (e := 3) (n := 5) (by kernel_rfl) (by kernel_rfl) (by kernel_rfl) (by kernel_rfl) (by kernel_rfl) (by kernel_rfl) h1'
  have h2' := laidMet.tail h1'
  have hK := Lib.tabIs_of_head (P := Tryz.prog) (name := "sheafworks/nest.kinds") (k := .i64) (zs := [0, 1, 2, 3, 4]) (g := 2) (t := 112) (e := 3) (n := 5) (by kernel_rfl) (by kernel_rfl) (by kernel_rfl) (by kernel_rfl) (by kernel_rfl) (by kernel_rfl) h2'
  have h3' := laidMet.tail h2'
  intro g cs hg
  have hg' : gl g = some cs := hg
  unfold gl at hg'
  split at hg'
  · -- names
    cases hg'
    obtain ⟨ps, ⟨g', t', cs, fuel, p, q, hg', ht', hvar, hd, _, _⟩, _⟩ := laidMet.tail h3'
    obtain rfl := Option.some.inj ((show Tryz.prog.globalNamed "sheafworks/libg.names" = some 0 by kernel_rfl).symm.trans hg')
    obtain rfl := Option.some.inj ((show (Tryz.prog.globals[0]?).map (·.type) = some 38 by kernel_rfl).symm.trans ht')
    rcases open_strings tiOk38.und tiOk9.und (by kernel_rfl) hd with ⟨_, hx⟩ | ⟨a, len, cap, ss, hcs, _, hl, hm, hz, hx, hcell, hws⟩
    · simp [Rows.laid_sheafworks_libg_names] at hx
    · simp only [if_true] at hz
      simp only [Rows.laid_sheafworks_libg_names, Prod.mk.injEq, DataW.slice.injEq] at hx
      obtain ⟨⟨hx1, hx2⟩, _⟩ := hx
      have hss : (ss.take len).map (fun s => s.data.toList) = nms := by
        have h := congrArg (List.map fun (d : DataW Unit) => match d with | .lit (.string bs) => bs | _ => []) hx1
        have h2 : (strs (ss.take len) : List (DataW Unit)).map (fun (d : DataW Unit) => match d with | .lit (.string bs) => bs | _ => []) = (ss.take len).map (fun s => s.data.toList) := by
          unfold strs
          rw [List.map_map]
          rfl
        exact h2.symm.trans h.symm
      have hv := World.var?_cell (by kernel_rfl : Tryz.prog.globalNamed "sheafworks/libg.names" = some 0) hvar 0
      have hc0 : W.cell? ⟨0, 0, none⟩ = some (.slice (some a) len cap) := by
        rw [hv]
        have : cs.toList[0]? = some (.slice (some a) len cap) := by rw [hcs]; rfl
        simpa using this
      refine rptr_of fun j x hj => ?_
      match j, hj with
      | 0, hj =>
        cases hj
        refine ⟨_, hc0, ?_⟩
        have hr := strs_rep hl hz hcell
        rw [← hss, List.map_map]
        exact hr
      | n + 1, hj => simp at hj
  · -- nobody
    cases hg'
    obtain ⟨ps, ⟨g', t', cs, fuel, p, q, hg', ht', hvar, hd, _, _⟩, _⟩ := h3'
    obtain rfl := Option.some.inj ((show Tryz.prog.globalNamed "sheafworks/libg.nobody" = some 1 by kernel_rfl).symm.trans hg')
    obtain rfl := Option.some.inj ((show (Tryz.prog.globals[1]?).map (·.type) = some 97 by kernel_rfl).symm.trans ht')
    obtain ⟨y0, y1, n, hx, hl, hy0, hy1⟩ := trod_struct2 tiOk97.und hd
    obtain ⟨z0, h0, e0, _⟩ := DataW.trod_int (k := .i64) (by kernel_rfl) hy0
    obtain ⟨z1, h1, e1, _⟩ := DataW.trod_int (k := .i64) (by kernel_rfl) hy1
    rw [e0, e1] at hx
    simp only [Rows.laid_sheafworks_libg_nobody, Prod.mk.injEq, DataW.agg.injEq, List.cons.injEq, DataW.lit.injEq, Lit.int.injEq, true_and, and_true] at hx
    obtain ⟨⟨rfl, rfl⟩, _⟩ := hx
    have hc3 : Tryz.prog.cellsOf 3 = 1 := by kernel_rfl
    have hlen : cs.toList.length = 2 := hl.trans (by kernel_rfl)
    have hg0 : cs.toList[0]? = some (.int .i64 1099511627776) := by
      have h0' : (cs.toList.drop 0).take 1 = [.int .i64 1099511627776] := by
        have := h0
        rw [show Tryz.prog.cellsOf _ = 1 from hc3] at this
        exact this
      have := congrArg (·[0]?) h0'
      simpa using this
    have hg1 : cs.toList[1]? = some (.int .i64 1099511627776) := by
      have h1' : (cs.toList.drop 1).take 1 = [.int .i64 1099511627776] := by
        have := h1
        rw [show Tryz.prog.cellsOf _ = 1 from hc3] at this
        exact this
      have := congrArg (·[0]?) h1'
      simpa using this
    refine ints_of fun i hi => ?_
    have hv := World.var?_cell (by kernel_rfl : Tryz.prog.globalNamed "sheafworks/libg.nobody" = some 1) hvar i
    rw [hv]
    match i, hi with
    | 0, _ => simpa using hg0
    | 1, _ => simpa using hg1
  · cases hg'
    exact ints_of fun i hi => hK.cell (by kernel_rfl) i hi
  · cases hg'
    exact ints_of fun i hi => hA.cell (by kernel_rfl) i hi
  · cases hg'
    obtain ⟨g, t, cs, fuel, p, hg, ht, hv, hd⟩ := hL.funcs (List.mem_cons_self ..)
    obtain rfl := Option.some.inj ((show Tryz.prog.globalNamed "sheafworks/nest.counters" = some 4 by kernel_rfl).symm.trans hg)
    obtain rfl := Option.some.inj ((show (Tryz.prog.globals[4]?).map (·.type) = some 131 by kernel_rfl).symm.trans ht)
    have hd' : DataW.trod (funcToken Tryz.prog) Tryz.prog W 0 (fun _ => true) true fuel 131 cs.toList = some (.agg [.held [40, 42, 115, 104, 101, 97, 102, 119, 111, 114, 107, 115, 47, 110, 101, 115, 116, 46, 108, 97, 121, 111, 117, 116, 41, 46, 110, 111, 110, 101], .held [40, 42, 115, 104, 101, 97, 102, 119, 111, 114, 107, 115, 47, 110, 101, 115, 116, 46, 108, 97, 121, 111, 117, 116, 41, 46, 111, 110, 101], .held [40, 42, 115, 104, 101, 97, 102, 119, 111, 114, 107, 115, 47, 110, 101, 115, 116, 46, 108, 97, 121, 111, 117, 116, 41, 46, 98, 111, 116, 104], .held [40, 42, 115, 104, 101, 97, 102, 119, 111, 114, 107, 115, 47, 110, 101, 115, 116, 46, 108, 97, 121, 111, 117, 116, 41, 46, 115, 117, 109], .held [40, 42, 115, 104, 101, 97, 102, 119, 111, 114, 107, 115, 47, 110, 101, 115, 116, 46, 108, 97, 121, 111, 117, 116, 41, 46, 115, 101, 113]], p) := hd
    obtain ⟨xs, m, _, hx, hl, hxl, hel⟩ := DataW.trod_array (n := 5) (e := 130) (by kernel_rfl) hd'
    have hc : Tryz.prog.cellsOf 130 = 1 := by kernel_rfl
    have hlen : cs.toList.length = 5 := hl.trans (by kernel_rfl)
    match xs, hxl with
    | [x0, x1, x2, x3, x4], _ =>
      simp only [List.map_cons, List.map_nil, Prod.mk.injEq] at hx
      have hx1 := hx.1
      injection hx1 with hx1
      have cell : ∀ i (v : Value), cs.toList[i]? = some v → W.cell? ⟨4, i, none⟩ = some v := by
        intro i v h
        have := World.var?_cell (by kernel_rfl : Tryz.prog.globalNamed "sheafworks/nest.counters" = some 4) hv i
        rw [this]; simpa using h
      have row : ∀ i, i < 5 → ∃ v, cs.toList[i]? = some v ∧ (cs.toList.drop (i * Tryz.prog.cellsOf 130)).take (Tryz.prog.cellsOf 130) = [v] := by
        intro i hi
        have hi' : i < cs.toList.length := by omega
        refine ⟨cs.toList[i], List.getElem?_eq_getElem hi', ?_⟩
        rw [hc, Nat.mul_one, List.drop_eq_getElem_cons hi']
        rfl
      simp only [List.cons.injEq, and_true] at hx1
      obtain ⟨e0, e1, e2, e3, e4⟩ := hx1
      have fn : ∀ (i : Nat) (f0 : FuncId) (b : UInt8) (r : List UInt8) (y : DataW (List UInt8) × List MemPlace), i < 5 → [x0, x1, x2, x3, x4][i]? = some y → y.1 = .held (b :: r) →
          ((List.range Tryz.prog.funcs.size).filter fun f => (Tryz.prog.funcs[f]?).any (·.name.toUTF8.data.toList == b :: r)) = [f0] → W.cell? ⟨4, i, none⟩ = some (.func (.func f0) #[] #[]) := by
        intro i f0 b r y hi hy hyb hone
        obtain ⟨v, hv1, hv2⟩ := row i hi
        have h1 := hel i hi
        rw [hv2, hy] at h1
        obtain ⟨y1, y2⟩ := y
        simp only at hyb
        subst hyb
        rw [func_of_trod (f0 := f0) tiOk130.und hone h1] at hv1
        exact cell i _ hv1
      have c0 := fn 0 121 _ _ x0 (by omega) rfl e0.symm (by kernel_rfl)
      have c1 := fn 1 122 _ _ x1 (by omega) rfl e1.symm (by kernel_rfl)
      have c2 := fn 2 123 _ _ x2 (by omega) rfl e2.symm (by kernel_rfl)
      have c3 := fn 3 124 _ _ x3 (by omega) rfl e3.symm (by kernel_rfl)
      have c4 := fn 4 125 _ _ x4 (by omega) rfl e4.symm (by kernel_rfl)
      refine rptr_of fun j x hj => ?_
      match j, hj with
      | 0, hj => cases hj; exact ⟨_, c0, .fn 121 [] [] #[] #[] rfl rfl (by simp) (by simp)⟩
      | 1, hj => cases hj; exact ⟨_, c1, .fn 122 [] [] #[] #[] rfl rfl (by simp) (by simp)⟩
      | 2, hj => cases hj; exact ⟨_, c2, .fn 123 [] [] #[] #[] rfl rfl (by simp) (by simp)⟩
      | 3, hj => cases hj; exact ⟨_, c3, .fn 124 [] [] #[] #[] rfl rfl (by simp) (by simp)⟩
      | 4, hj => cases hj; exact ⟨_, c4, .fn 125 [] [] #[] #[] rfl rfl (by simp) (by simp)⟩
      | n + 5, hj => simp at hj
  · cases hg'

def I64 (n : Int) : Prop := (Lit.int .i64 n).wf = true

/-- a call that is known to return true, with nothing touched -/
theorem call_true {k : FuncId} {args : List AV} (h : Sound Tryz.prog ED k args (.ret (.bool true))) {W : World} {cargs : Array Value} (hL : laidMetH Tryz.prog laidAll W) (hr : Reps (startG W.heap) args cargs.toList) :
    Calls Tryz.prog k cargs W fun e W' => e = .returned (.bool true) ∧ (∀ b, b < W.heap.size → W'.heap[b]? = W.heap[b]?) ∧ (∀ may, W.keptBut W' may) ∧ ∀ a, W'.frozen? a = W.frozen? a := by
  have hc := h W (startG W.heap) cargs (start_inv ED W) rfl (globs hL) hr
  refine hc.2.mono fun e W' ⟨G', S', hG, I, hend⟩ => ?_
  obtain ⟨c, rfl, hv⟩ := hend
  cases hv
  have hsame : ∀ b, b < W.heap.size → W'.heap[b]? = W.heap[b]? := I.old
  refine ⟨rfl, hsame, fun may => ⟨I.os, I.out, fun i hi => ?_⟩, fun a => ?_⟩
  · rw [hsame i hi]
    split <;> simp_all
  · rcases Nat.lt_or_ge a.block W.heap.size with hb | hb
    · unfold World.frozen?
      rw [hsame _ hb]
    · have h1 : W.frozen? a = false := by
        unfold World.frozen?
        rw [Array.getElem?_eq_none hb]
      rw [h1]
      have h2 := I.fzB a.block a.off hb
      unfold World.frozen?
      unfold fz at h2
      split <;> simp_all

theorem laidOut' : laidOutB Tryz.prog = true := by kernel_rfl

theorem same_at {W W' : World} (h : ∀ b, b < W.heap.size → W'.heap[b]? = W.heap[b]?) {p : MemPlace} (hp : p.block < W.heap.size) : W.sameAt W' p := by
  cases p with
  | cell b o => exact World.cell?_of_block (w := W) (h b hp)
  | map b => exact h b hp

theorem trodAll_stays {P : Program} (hl : laidOutB P = true) {H : Type} {enc : TypeId × Value → H} {W W' : World} {sp : Nat → Bool} (hh : ∀ b, b < W.heap.size → W'.heap[b]? = W.heap[b]?) (ts : List TypeId) :
    ∀ (vs : List Value) (ds : List (DataW H)) (p : List MemPlace), (ts.all fun t => P.readableRec t && decide (t < P.types.size)) = true → DataW.TrodAll enc P W 0 (fun _ => true) true ts vs ds p →
      (∀ x ∈ p, x.block < W.heap.size) → (∀ x ∈ p, sp x.block = true) → DataW.TrodAll enc P W' 0 sp true ts vs ds p := by
  induction ts with
  | nil =>
    intro vs ds p _ h _ _
    cases vs <;> cases ds <;> first | exact h | exact h.elim
  | cons t ts ih =>
    intro vs ds p ht h hlt hs
    cases vs with
    | nil => exact h.elim
    | cons v vs =>
      cases ds with
      | nil => exact h.elim
      | cons d ds =>
        obtain ⟨p1, q1, h1, h2, rfl⟩ := h
        simp only [List.all_cons, Bool.and_eq_true, decide_eq_true_eq] at ht
        exact ⟨p1, q1, WideElems.Trod_stays hl ht.1.1 ht.1.2 h1 (fun x hx => same_at hh (hlt x (by simp [hx]))) (fun x hx => hs x (by simp [hx])),
          ih vs ds q1 ht.2 h2 (fun x hx => hlt x (by simp [hx])) (fun x hx => hs x (by simp [hx])), rfl⟩

theorem tOwn : ownKnob Tryz.prog.godebug = none := by kernel_rfl

end Go.Proofs.YtpjcmiaanjcanaaGreatDoor
