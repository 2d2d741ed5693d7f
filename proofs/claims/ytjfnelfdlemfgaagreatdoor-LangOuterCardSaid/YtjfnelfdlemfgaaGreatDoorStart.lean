/-
What lies at the start of a call, and what the statement asks. No conditions.
-/
import Derived.Test.YtjfnelfdlemfgaaGreatDoorKnown
import Derived.Test.YtjfnelfdlemfgaaGreatDoorRows
import Derived.Test.YtjfnelfdlemfgaaGreatDoorTie
import Derived.ProofKit
import Derived.LaidMore
import Derived.Stop.Joined
import Derived.Lib.LaidTab
import Derived.Stop.LaidErr
import Derived.OpenShut
import Derived.SliceStrings
import Derived.WideKeyElems2
import Derived.Shelf.Vars
import Derived.Handed
import Derived.ChangeSame
import Derived.ChangeOld
import Derived.LaidHandle
set_option linter.all false
set_option maxHeartbeats 4000000
namespace Go.Proofs.YtjfnelfdlemfgaaGreatDoor
open Go Go.Vm Go.Vm.L Go.ChangeShapes Go.OpenShut Go.WideShapes Go.ChangeAt Go.RowKit
set_option maxRecDepth 100000
theorem laidMet_drop {P : Program} {w : World} : ∀ (n : Nat) {l : List (String × DataW Unit)}, laidMet P l w → laidMet P (l.drop n) w
 | 0, _, h => h
 | _ + 1, [], h => h
 | n + 1, _ :: _, h => laidMet_drop n h.tail
theorem rptr_of {W : World} {g : Nat} {cs : List AV} (h : ∀ (j : Nat) x, cs[j]? = some x → ∃ y, W.cell? ⟨g, j, none⟩ = some y ∧ Rep (startG W.heap) x y) : Rep (startG W.heap) (.rptr cs) (.pointer (some ⟨g, 0, none⟩)) := by
 refine .rptr cs g 0 (fun j hj => ?_) (fun j x y hx hy => ?_)
 ·obtain ⟨y, hy, _⟩ := h j _ (List.getElem?_eq_getElem hj)
  exact ⟨y, start_imm (by rw [Nat.zero_add, ← cell?_eq]; exact hy)⟩
 ·obtain ⟨y', hy', hr⟩ := h j x hx
  have := start_imm (h := W.heap) (b := g) (o := 0 + j) (by rw [Nat.zero_add, ← cell?_eq]; exact hy')
  rw [this] at hy
  cases hy
  exact hr
theorem tab_of {W : World} {g : Nat} {k : IntKind} {zs : List Int} (h : ∀ i, i < zs.length → W.cell? ⟨g, i, none⟩ = some (.int k (zs.getD i 0))) : Rep (startG W.heap) (.rptr (zs.map fun n => .int k n)) (.pointer (some ⟨g, 0, none⟩)) := by
 refine rptr_of fun j x hx => ?_
 rw [List.getElem?_map] at hx
 cases hz : zs[j]? with
 | none => rw [hz] at hx; cases hx
 | some z =>
  rw [hz] at hx
  cases hx
  have hj : j < zs.length := (List.getElem?_eq_some_iff.1 hz).1
  refine ⟨_, h j hj, ?_⟩
  have : zs.getD j 0 = z := by simp [List.getD_eq_getElem?_getD, hz]
  rw [this]
  exact .int k z
section
variable {H : Type} {enc : TypeId × Value → H} {P : Program} {W : World} {base : Nat} {sp : Nat → Bool} {held : Bool}
theorem strs_of_array {t e : TypeId} {n fuel : Nat} {cs : List Value} {ls : List (List UInt8)} {p : List MemPlace} (ht : P.underlying t = some (.array n e)) (he : P.underlying e = some .string) (hce : P.cellsOf e = 1)
  (hd : DataW.trod enc P W base sp held fuel t cs = some (.agg (ls.map fun l => .lit (.string l)), p)) (j : Nat) (l : List UInt8) (hj : ls[j]? = some l) : ∃ s : ByteArray, s.data.toList = l ∧ cs[j]? = some (.string s) := by
 obtain ⟨xs, m, rfl, hx, hl, hxl, hel⟩ := DataW.trod_array ht hd
 have hx1 : ls.map (fun l => (DataW.lit (.string l) : DataW H)) = xs.map (·.1) := by
  have := congrArg Prod.fst hx
  simpa using this
 have hlen : ls.length = xs.length := by simpa using congrArg List.length hx1
 have hjl : j < ls.length := (List.getElem?_eq_some_iff.1 hj).1
 have h1 := hel j (by omega)
 rw [hce, Nat.mul_one] at h1
 have hx' : xs[j]? = some (xs[j]'(by omega)) := List.getElem?_eq_getElem (by omega)
 rw [hx'] at h1
 obtain ⟨s, hs1, hs2, _⟩ := DataW.trod_string he h1
 have h2 := congrArg (·[j]?) hx1
 simp only [List.getElem?_map, hj, hx', hs2, Option.map_some, Option.some.injEq, DataW.lit.injEq, Lit.string.injEq] at h2
 have h3 := congrArg (·[0]?) hs1
 refine ⟨s, h2.symm, ?_⟩
 simpa using h3
theorem perm_map {α β : Type} {f : α → β} {l zs : List β} (h : l.Perm zs) : ∀ {xs : List α}, xs.map f = l → ∃ ws : List α, ws.Perm xs ∧ ws.map f = zs := by
 induction h with
 | nil => intro xs hx; exact ⟨xs, .refl _, hx⟩
 | cons x _ ih =>
  intro xs hx
  cases xs with
  | nil => cases hx
  | cons a xs =>
   rw [List.map_cons, List.cons.injEq] at hx
   obtain ⟨ws, h1, h2⟩ := ih hx.2
   exact ⟨a :: ws, h1.cons a, by rw [List.map_cons, hx.1, h2]⟩
 | swap x y l =>
  intro xs hx
  match xs, hx with
  | a :: b :: xs, hx =>
   simp only [List.map_cons, List.cons.injEq] at hx
   exact ⟨b :: a :: xs, .swap a b xs, by simp [hx.1, hx.2.1, hx.2.2]⟩
 | trans _ _ ih1 ih2 =>
  intro xs hx
  obtain ⟨ws, h1, h2⟩ := ih1 hx
  obtain ⟨us, h3, h4⟩ := ih2 h2
  exact ⟨us, h3.trans h1, h4⟩
theorem val_of_cells {e : TypeId} {v : Value} {s : ByteArray} (he : P.underlying e = some .string) (hf : v.formed P e = true) (hc : v.cells.toList = [.string s]) : v = .string s := by
 cases v <;> simp_all [Value.formed, Value.cells]
theorem rmap_of {t k e : TypeId} {fuel : Nat} {cs : List Value} {p : List MemPlace} {ks : List Int} {vs : List (List UInt8)} (ht : P.underlying t = some (.map k e)) (hk : P.underlying k = some (.int .i64)) (he : P.underlying e = some .string)
  (hlen : ks.length = vs.length) (ha : apartB (ints ks) = true)
  (hd : DataW.trod enc P W base sp held fuel t cs = some (.map ((ks.zip vs).map fun q => (Lit.int .i64 q.1, .lit (.string q.2))), p)) :
  ∃ b, cs = [.map (some b)] ∧ Rep (startG W.heap) (.rmap (ints ks) (vs.map .str)) (.map (some b)) := by
 rcases WideElems.open_map ht hd with ⟨_, hx⟩ | ⟨b, es, clock, n, rfl, hcs, hb, _, F, hx⟩
 ·simp at hx
 have hx1 := congrArg Prod.fst hx
 simp only [DataW.map.injEq] at hx1
 have hperm := WideShapes.sorted_perm (es.toList.map (WideElems.rg P k (WideElems.elemAt enc P W base sp held n e)))
 rw [← hx1] at hperm
 obtain ⟨ws, hp, hw⟩ := perm_map hperm.symm rfl
 have hwl : ws.length = ks.length := by
  have := congrArg List.length hw
  simp at this
  omega
 obtain ⟨s1, s2, _⟩ := F.stamped
 have key : ∀ (j : Nat) x, ws[j]? = some x → ∃ z s, ks[j]? = some z ∧ x.key = .int .i64 z ∧ vs[j]? = some s ∧ ∃ q : ByteArray, q.data.toList = s ∧ x.val = .string q := by
  intro j x hj
  have hjl : j < ws.length := (List.getElem?_eq_some_iff.1 hj).1
  have hm : x ∈ es.toList := hp.mem_iff.1 (List.mem_of_getElem? hj)
  obtain ⟨y, hy⟩ := F.reads x hm
  have h1 := congrArg (·[j]?) hw
  have hz : ks[j]? = some (ks[j]'(by omega)) := List.getElem?_eq_getElem (by omega)
  have hs : vs[j]? = some (vs[j]'(by omega)) := List.getElem?_eq_getElem (by omega)
  have hzip : (ks.zip vs)[j]? = some (ks[j]'(by omega), vs[j]'(by omega)) := by
   rw [List.getElem?_zip_eq_some]
   exact ⟨hz, hs⟩
  simp only [List.getElem?_map, hj, hzip, Option.map_some, Option.some.injEq, WideElems.rg_of hy] at h1
  subst h1
  have hkey := WideElems.rd_key hy
  obtain ⟨z, hz1, hz2⟩ := WideElems.rd_val hy
  refine ⟨_, _, hz, ?_, hs, ?_⟩
  ·unfold keyOf at hkey
   rw [hk] at hkey
   unfold mapKey at hkey
   rw [hk] at hkey
   cases hxk : x.key <;> rw [hxk] at hkey <;> simp at hkey
   obtain ⟨⟨rfl, _⟩, h2⟩ := hkey
   rw [h2]
  ·unfold WideElems.elemAt at hz1
   split at hz1
   ·rename_i hf
    obtain ⟨q, hq1, hq2, _⟩ := DataW.trod_string he hz1
    subst hq2
    simp only [DataW.lit.injEq, Lit.string.injEq] at hz2
    exact ⟨q, hz2.symm, val_of_cells he hf hq1⟩
   ·cases hz1
 have hsize : ws.toArray.size = ws.length := by simp
 refine ⟨b, hcs, .rmap _ _ b es ws.toArray clock ?_ (by simpa using hp) ha (by simp [ints]; omega) (by simp; omega) (fun j x y hx hy => ?_) (fun j x y hx hy => ?_)⟩
 ·have hall : (es.toList.all fun e => decide (e.born < clock)) = true := List.all_eq_true.2 fun x hx => by simpa using s1 x hx
  simp only [startG, hb]
  rw [if_pos ⟨hall, s2⟩]
 ·obtain ⟨z, s, h1, h2, _⟩ := key j y (by simpa using hy)
  unfold ints at hx
  rw [List.getElem?_map, h1] at hx
  cases hx
  rw [h2]
  exact .int .i64 z
 ·obtain ⟨z, s, _, _, h3, q, h4, h5⟩ := key j y (by simpa using hy)
  rw [List.getElem?_map, h3] at hx
  cases hx
  rw [h5, ← h4]
  exact .str q
end
theorem tab_keep {W W' : World} {g : Nat} (hg : Tryz.prog.globalNamed "internal/strconv.uint64pow10" = some g) (h : W'.heap[g]? = W.heap[g]?) (ht : Lib.TabIs Tryz.prog W "internal/strconv.uint64pow10" .u64 Lib.pow10Tab) : Lib.TabIs Tryz.prog W' "internal/strconv.uint64pow10" .u64 Lib.pow10Tab := by
 unfold Lib.TabIs World.var? at ht ⊢
 rw [hg] at ht ⊢
 simp only [Option.bind_some] at ht ⊢
 rw [h]
 exact ht
theorem tab_lt {W : World} {g : Nat} (hg : Tryz.prog.globalNamed "internal/strconv.uint64pow10" = some g) (ht : Lib.TabIs Tryz.prog W "internal/strconv.uint64pow10" .u64 Lib.pow10Tab) : g < W.heap.size := by
 unfold Lib.TabIs World.var? at ht
 rw [hg] at ht
 simp only [Option.bind_some] at ht
 split at ht
 ·rename_i h
  exact (Array.getElem?_eq_some_iff.1 h).1
 ·cases ht
theorem pow_named : Tryz.prog.globalNamed "internal/strconv.uint64pow10" = some 6 := by kernel_rfl
theorem libAt_start {W : World} (h1 : 1 < W.heap.size) {m : Int} (hm : W.cell? ⟨1, 0, none⟩ = some (.int .i64 m)) (ht : Lib.TabIs Tryz.prog W "internal/strconv.uint64pow10" .u64 Lib.pow10Tab) : LibAt Tryz.prog ED W.heap.size W :=
 ⟨fun B h0 => (1 < B ∧ h0.cell? ⟨1, 0, none⟩ = some (.int .i64 m)) ∧ 6 < B ∧ Lib.TabIs Tryz.prog h0 "internal/strconv.uint64pow10" .u64 Lib.pow10Tab, ⟨⟨h1, hm⟩, tab_lt pow_named ht, ht⟩, fun _ _ h => libF_ok h.1.1 h.1.2 pow_named h.2.1 h.2.2, fun B h0 G S w h I => ⟨⟨by have := I.size; omega, by
  have := h.1.2
  rw [cell?_eq] at this ⊢
  unfold cl at this ⊢
  rw [I.old 1 h.1.1]
  exact this⟩, by have := I.size; omega, tab_keep pow_named (I.old 6 h.2.1) h.2.2⟩⟩
end Go.Proofs.YtjfnelfdlemfgaaGreatDoor
namespace Go.Proofs.YtjfnelfdlemfgaaGreatDoor
open Go Go.Vm Go.Vm.L Go.ChangeShapes Go.OpenShut Go.WideShapes Go.ChangeAt Go.RowKit
set_option maxRecDepth 100000
abbrev laidAll : List (String × DataW Unit) := [("math/bits.deBruijn32tab", Rows.laid_math_bits_deBruijn32tab), ("math/bits.deBruijn64tab", Rows.laid_math_bits_deBruijn64tab), ("internal/strconv.uint64pow10", Rows.laid_internal_strconv_uint64pow10), ("unicode/utf8.acceptRanges", Rows.laid_unicode_utf8_acceptRanges), ("strconv.ErrRange", Rows.laid_strconv_ErrRange), ("strconv.ErrSyntax", Rows.laid_strconv_ErrSyntax), ("unicode.White_Space", Rows.laid_unicode_White_Space), ("strings.asciiSpace", Rows.laid_strings_asciiSpace), ("sheafworks/lang.words", Rows.laid_sheafworks_lang_words), ("sheafworks/lang.levels", Rows.laid_sheafworks_lang_levels), ("sheafworks/lang.calls", Rows.laid_sheafworks_lang_calls), ("unicode/utf8.first", Rows.laid_unicode_utf8_first)]
def zSpace : List Int := gSpace.map fun v => match v with
 | .int _ n => n
 | _ => 0
theorem space_eq : gSpace = zSpace.map fun n => .int .u8 n := by kernel_rfl
theorem globs {W : World} (hL : laidMetH Tryz.prog laidAll W) : GlobOk ED (startG W.heap) := by
 have h0 : laidMet Tryz.prog laidAll W := (laidMetH_iff.1 hL).1
 have h7 : laidMet Tryz.prog (("strings.asciiSpace", Lib.tabData .u8 zSpace) :: laidAll.drop 8) W := laidMet_drop 7 h0
 have h8 : laidMet Tryz.prog (laidAll.drop 8) W := laidMet_drop 8 h0
 have h9 : laidMet Tryz.prog (("sheafworks/lang.levels", Lib.tabData .i64 gLevels) :: laidAll.drop 10) W := laidMet_drop 9 h0
 have h10 : laidMet Tryz.prog (laidAll.drop 10) W := laidMet_drop 10 h0
 have hS := Lib.tabIs_of_head (P := Tryz.prog) (name := "strings.asciiSpace") (k := .u8) (zs := zSpace) (g := 2) (t := 250) (e := 5) (n := 256) (by kernel_rfl) (by kernel_rfl) (by kernel_rfl) (by kernel_rfl) (by kernel_rfl) (by kernel_rfl) h7
 have hV := Lib.tabIs_of_head (P := Tryz.prog) (name := "sheafworks/lang.levels") (k := .i64) (zs := gLevels) (g := 0) (t := 122) (e := 3) (n := 12) (by kernel_rfl) (by kernel_rfl) (by kernel_rfl) (by kernel_rfl) (by kernel_rfl) (by kernel_rfl) h9
 intro g cs hg
 have hg' : gl g = some cs := hg
 unfold gl at hg'
 split at hg'
 ·cases hg'
  exact tab_of fun i hi => hV.cell (by kernel_rfl) i hi
 ·cases hg'
  rw [space_eq]
  exact tab_of fun i hi => hS.cell (by kernel_rfl) i hi
 ·cases hg'
  obtain ⟨ps, ⟨g', t', cs, fuel, p, q, hg', ht', hvar, hd, _, _⟩, _⟩ := h8
  obtain rfl := Option.some.inj ((show Tryz.prog.globalNamed "sheafworks/lang.words" = some 7 by kernel_rfl).symm.trans hg')
  obtain rfl := Option.some.inj ((show (Tryz.prog.globals[7]?).map (·.type) = some 305 by kernel_rfl).symm.trans ht')
  refine rptr_of fun j x hj => ?_
  rw [List.getElem?_map] at hj
  cases hl : gWords[j]? with
  | none => rw [hl] at hj; cases hj
  | some l =>
   rw [hl] at hj
   cases hj
   obtain ⟨s, hs1, hs2⟩ := strs_of_array (n := 12) (e := 9) (ls := gWords) (by kernel_rfl) (by kernel_rfl) (by kernel_rfl) hd j l hl
   have hv := World.var?_cell (by kernel_rfl : Tryz.prog.globalNamed "sheafworks/lang.words" = some 7) hvar j
   refine ⟨.string s, by rw [hv]; simpa using hs2, ?_⟩
   rw [← hs1]
   exact .str s
 ·cases hg'
  obtain ⟨ps, ⟨g', t', cs, fuel, p, q, hg', ht', hvar, hd, _, _⟩, _⟩ := h10
  obtain rfl := Option.some.inj ((show Tryz.prog.globalNamed "sheafworks/lang.calls" = some 10 by kernel_rfl).symm.trans hg')
  obtain rfl := Option.some.inj ((show (Tryz.prog.globals[10]?).map (·.type) = some 314 by kernel_rfl).symm.trans ht')
  obtain ⟨b, hcs, hr⟩ := rmap_of (k := 3) (e := 9) (ks := gKeys) (vs := gVals) (by kernel_rfl) (by kernel_rfl) (by kernel_rfl) rfl (by kernel_rfl) hd
  have hv := World.var?_cell (by kernel_rfl : Tryz.prog.globalNamed "sheafworks/lang.calls" = some 10) hvar 0
  refine rptr_of fun j x hj => ?_
  match j, hj with
  | 0, hj =>
   cases hj
   refine ⟨.map (some b), ?_, hr⟩
   rw [hv]
   have : cs.toList[0]? = some (.map (some b)) := by rw [hcs]; rfl
   simpa using this
  | n + 1, hj => simp at hj
 ·cases hg'
/-- the cell that the library asks for -/
theorem maxLen_of {W : World} (h : W.ShapedOpen Tryz.prog) : 1 < W.heap.size ∧ ∃ m, W.cell? ⟨1, 0, none⟩ = some (.int .i64 m) := by
 obtain ⟨m, hm⟩ := cell_of_shapedOpen_int (P := Tryz.prog) (g := 1) (t := 3) (zero := #[.int .i64 0]) h (of_decide_eq_true (by kernel_rfl)) (by kernel_rfl) rfl (by kernel_rfl) (by kernel_rfl) (by kernel_rfl)
 refine ⟨?_, m, hm⟩
 rcases Nat.lt_or_ge 1 W.heap.size with h1 | h1
 ·exact h1
 ·simp [World.cell?, Array.getElem?_eq_none h1] at hm
/-- a call that is known to return true, with nothing touched -/
theorem pow_tab {W : World} (hL : laidMetH Tryz.prog laidAll W) : Lib.TabIs Tryz.prog W "internal/strconv.uint64pow10" .u64 Lib.pow10Tab := by
 have h0 : laidMet Tryz.prog laidAll W := (laidMetH_iff.1 hL).1
 have h2 : laidMet Tryz.prog (("internal/strconv.uint64pow10", Lib.tabData .u64 Lib.pow10Tab) :: laidAll.drop 3) W := laidMet_drop 2 h0
 exact Lib.tabIs_of_head (g := 6) (t := 290) (e := 249) (n := 20) (by kernel_rfl) (by kernel_rfl) (by kernel_rfl) (by kernel_rfl) (by kernel_rfl) (by kernel_rfl) h2
theorem call_true {k : FuncId} {args : List AV} (h : Sound Tryz.prog ED k args (.ret (.bool true))) {W : World} {cargs : Array Value} (hL : laidMetH Tryz.prog laidAll W) (hS : W.ShapedOpen Tryz.prog) (hr : Reps (startG W.heap) args cargs.toList) :
  Calls Tryz.prog k cargs W fun e W' => e = .returned (.bool true) ∧ (∀ b, b < W.heap.size → W'.heap[b]? = W.heap[b]?) ∧ (∀ may, W.keptBut W' may) := by
 obtain ⟨h1, m, hm⟩ := maxLen_of hS
 have hc := h W (startG W.heap) cargs (libAt_start h1 hm (pow_tab hL)) (start_inv ED W) rfl (globs hL) hr
 refine hc.2.mono fun e W' ⟨G', S', hG, I, hend⟩ => ?_
 obtain ⟨c, rfl, hv⟩ := hend
 cases hv
 have hsame : ∀ b, b < W.heap.size → W'.heap[b]? = W.heap[b]? := I.old
 refine ⟨rfl, hsame, fun may => ⟨I.os, I.out, fun i hi => ?_⟩⟩
 rw [hsame i hi]
 split <;> simp_all
theorem laidOut' : laidOutB Tryz.prog = true := by kernel_rfl
theorem same_at {W W' : World} (h : ∀ b, b < W.heap.size → W'.heap[b]? = W.heap[b]?) {p : MemPlace} (hp : p.block < W.heap.size) : W.sameAt W' p := by
 cases p with
 | cell b o => exact World.cell?_of_block (w := W) (h b hp)
 | map b => exact h b hp
theorem trodAll_stays {P : Program} (hl : laidOutB P = true) {H : Type} {enc : TypeId × Value → H} {W W' : World} {sp : Nat → Bool} (hh : ∀ b, b < W.heap.size → W'.heap[b]? = W.heap[b]?) (ts : List TypeId) :
  ∀ (vs : List Value) (ds : List (DataW H)) (p : List MemPlace), (ts.all fun t => P.readableRec t && decide (t < P.types.size)) = true → DataW.TrodAll enc P W 0 (fun _ => true) true ts vs ds p →
   (∀ x ∈ p, x.block < W.heap.size) → (∀ x ∈ p, sp x.block = true) → DataW.TrodAll enc P W' 0 sp true ts vs ds p := by
 induction ts with
 | nil =>
  intro vs ds p _ h _ _
  cases vs <;> cases ds <;> first | exact h | exact h.elim
 | cons t ts ih =>
  intro vs ds p ht h hlt hs
  cases vs with
  | nil => exact h.elim
  | cons v vs =>
   cases ds with
   | nil => exact h.elim
   | cons d ds =>
    obtain ⟨p1, q1, h1, h2, rfl⟩ := h
    simp only [List.all_cons, Bool.and_eq_true, decide_eq_true_eq] at ht
    exact ⟨p1, q1, WideElems.Trod_stays hl ht.1.1 ht.1.2 h1 (fun x hx => same_at hh (hlt x (by simp [hx]))) (fun x hx => hs x (by simp [hx])),
     ih vs ds q1 ht.2 h2 (fun x hx => hlt x (by simp [hx])) (fun x hx => hs x (by simp [hx])), rfl⟩
theorem tOwn : ownKnob Tryz.prog.godebug = none := by kernel_rfl
section
variable {H : Type} {enc : TypeId × Value → H} {P : Program}
/-- what the statement asks, where all that was there is as it was -/
theorem post_of_old {f : Func} {s : ChangeSpec} {apart fresh handsOn again : Bool} {W W' : World} {args : Array Value} {v : Value} {ds gs : List (DataW H)} {before pa pv : List MemPlace}
  (hW : DataW.Whole enc P f.params.toList s.vars apart W args.toList ds gs before)
  (hres : ∀ (b : Nat) (sp : Nat → Bool) (hd : Bool), DataW.TrodAll enc P W' b sp hd f.resultTypes.toList (v.resultList f.resultTypes.size) (s.fn H (ds ++ gs)).results [])
  (hargs : ∀ sp : Nat → Bool, (∀ p ∈ before, sp p.block = true) → DataW.TrodAll enc P W' 0 sp true f.params.toList args.toList (s.fn H (ds ++ gs)).args pa)
  (hvars : ∀ sp : Nat → Bool, (∀ p ∈ before, sp p.block = true) → DataW.TrodVars enc P W' sp s.vars (s.fn H (ds ++ gs)).vars pv)
  (hps : before = pa ++ pv) (hk : W.keptBut W' (· ∈ before)) (hsame : ∀ b, b < W.heap.size → W'.heap[b]? = W.heap[b]?)
  (hok : ∀ (j : Nat) (t : TypeId) (r : Value), f.resultTypes[j]? = some t → (v.resultList f.resultTypes.size)[j]? = some r → Value.okWide P W' .any 0 t r) :
  s.post enc P f apart fresh handsOn again W args v W' := by
 have hold : ∀ p ∈ before, (fun b => decide (b < W.heap.size)) p.block = true := fun p hp => by simpa using hW.lt p hp
 have hlt := hW.lt
 refine ⟨ds, gs, before, [], pa, pv, hW, hres _ _ _, hargs _ hold, hvars _ hold, World.keptBut_mono (fun p hp => ⟨hp, ?_⟩) hk, fun _ => ?_⟩
 ·rw [hps, List.mem_append] at hp
  exact Or.inr hp
 ·obtain ⟨_, _, _, _, _, hz, hn⟩ := hW
  refine ⟨hok, _, _, ([] ++ pa) ++ pv, ⟨[] ++ pa, pv, trodAll_append (hargs _ (fun _ _ => rfl)) (hres _ _ _), hvars _ (fun _ _ => rfl), rfl, ?_, ?_⟩, ?_⟩
  ·intro b off hp
   have hm : MemPlace.cell b off ∈ before := by rw [hps]; simpa using hp
   have hb : b < W.heap.size := hlt _ hm
   have := hz b off hm
   unfold World.frozen? at this ⊢
   rw [hsame b hb]
   exact this
  ·intro ha
   have := hn ha
   rw [hps] at this
   simpa using this
  ·intro p hp _
   rw [hps]
   simpa using hp
theorem returnsInHanded_of_shape_and {a : Assume} {C : Checked} {os : Os} {f : FuncId} {fn : Func} {s : ChangeSpec} {conds : List PathCond} {apart fresh handsOn again : Bool} {X : World → Array Value → Prop}
  (hX : ∀ (w w' : World) (args : Array Value), w.heap = w'.heap → X w args → X w' args)
  (own : ownKnob C.prog.godebug = none) (started : os.Started) (noInit : C.prog.inits.idxOf? f = none) (hfn : C.prog.funcs[f]? = some fn)
  (witness : ∃ (w : World) (tape : Tape) (i : Input), w.os = os ∧ (w.forCall tape i).Shaped C.prog ∧ i.vars = [] ∧ Input.okWide C.prog (w.forCall tape i) .any w.heap.size f i ∧
   ((s.pre enc C.prog fn conds apart (w.forCall tape i).memory i.args ∧ X (w.forCall tape i).memory i.args) ∧ sizedMet enc C.prog fn (OpenSpec.ofChange s) apart (w.forCall tape i).memory i.args) ∧ a.holds C.prog (lone (Frame.enter C.prog f i.args .normal) [] (w.forCall tape i)))
  (contract : ∀ (W : World) (base : Nat) (args : Array Value) (ds gs : List (DataW H)) (before : List MemPlace),
   (∀ (j : Nat) t v, fn.params[j]? = some t → args[j]? = some v → Value.okWide C.prog W .any base t v) →
   DataW.Whole enc C.prog fn.params.toList s.vars apart W args.toList ds gs before →
   X W args → W.ShapedOpen C.prog →
   Calls C.prog f args W fun e W' => ∃ v, e = .returned v ∧ s.post enc C.prog fn apart fresh handsOn again W args v W') :
  ReturnsInHanded a C os f .any (fun w args => (s.pre enc C.prog fn conds apart w args ∧ X w args) ∧ sizedMet enc C.prog fn (OpenSpec.ofChange s) apart w args) (s.post enc C.prog fn apart fresh handsOn again) := by
 refine returnsInHanded_of_calls own started noInit witness ?_
 intro w tape i _ hsh _ hok hpre _
 obtain ⟨_, _, _, fn', hfn', _, _, _, _, hval⟩ := hok
 have e : fn' = fn := Option.some.inj (hfn'.symm.trans hfn)
 subst e
 obtain ⟨⟨⟨ds, gs, before, hw, _⟩, hx⟩, _⟩ := hpre
 have hw' := DataW.Whole.of_heap (w' := w.forCall tape i) (by rfl) hw
 refine (contract (w.forCall tape i) w.heap.size i.args ds gs before hval hw' (hX _ _ _ (by rfl) hx) hsh).mono fun e W' ⟨v, he, hp⟩ => ?_
 subst he
 exact ChangeSpec.post_blind hp
end
end Go.Proofs.YtjfnelfdlemfgaaGreatDoor
