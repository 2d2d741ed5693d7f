/-
A program that came in, as the evaluator sees it. No conditions.
-/
import Derived.Test.YtjfnelfdlemfgaaGreatDoorStart
import Derived.Test.YtjfnelfdlemfgaaGreatDoorNodeI
import Derived.Deep.Strs
import Derived.ChangeMaps5
set_option linter.all false
set_option maxHeartbeats 4000000
namespace Go.Proofs.YtjfnelfdlemfgaaGreatDoor
open Go
open Go.Vm hiding Ex
open Go.Vm.L Go.ChangeShapes Go.OpenShut Go.WideShapes Go.ChangeAt Go.RowKit
set_option maxRecDepth 100000
theorem cells24 : Tryz.prog.cellsOf 24 = 2 := by kernel_rfl
theorem cells22 : Tryz.prog.cellsOf 22 = 1 := by kernel_rfl
theorem cells63 : Tryz.prog.cellsOf 63 = 6 := by kernel_rfl
theorem cells59 : Tryz.prog.cellsOf 59 = 4 := by kernel_rfl
theorem cells57 : Tryz.prog.cellsOf 57 = 1 := by kernel_rfl
theorem cells3 : Tryz.prog.cellsOf 3 = 1 := by kernel_rfl
theorem cells9 : Tryz.prog.cellsOf 9 = 1 := by kernel_rfl
/-- cells that show a value -/
def CRep (W : World) (cs : List Value) (v : AV) : Prop := cs.length = v.cells.length ∧ ∀ (j : Nat) a y, v.cells[j]? = some a → cs[j]? = some y → Rep (startG W.heap) a y
theorem crep_get {W : World} {cs : List Value} {v : AV} (h : CRep W cs v) {j : Nat} (hj : j < cs.length) : ∃ a y, v.cells[j]? = some a ∧ cs[j]? = some y ∧ Rep (startG W.heap) a y := by
 obtain ⟨h1, h2⟩ := h
 have g1 : v.cells[j]? = some (v.cells[j]'(by omega)) := List.getElem?_eq_getElem (by omega)
 have g2 : cs[j]? = some cs[j] := List.getElem?_eq_getElem hj
 exact ⟨_, _, g1, g2, h2 _ _ _ g1 g2⟩
theorem slice_rep {W : World} {a : Addr} {len cap sz : Nat} {es : List AV} (hn : es.length = len) (hl : len ≤ cap) (hsz : ∀ e ∈ es, e.cells.length = sz) (h0 : cap = 0 ∨ a.spot = none)
  (hc : ∀ (j : Nat) x, (es.flatMap AV.cells)[j]? = some x → ∃ y, W.cell? (a.add j) = some y ∧ Rep (startG W.heap) x y) : Rep (startG W.heap) (.slice es .dead) (.slice (some a) len cap) := by
 obtain ⟨b, o, sp⟩ := a
 rcases h0 with h0 | h0
 ·have hl0 : len = 0 := by omega
  subst h0; subst hl0
  have : es = [] := List.length_eq_zero_iff.1 hn
  subst this
  exact .slice0 _
 ·simp only at h0
  subst h0
  refine .slice _ _ b o len cap sz hn.symm hsz hl (fun j hj => ?_) (fun j x y hx hy => ?_) trivial
  ·obtain ⟨y, hy, _⟩ := hc j _ (List.getElem?_eq_getElem hj)
   rw [add_eq] at hy
   exact ⟨y, start_imm (by rw [← cell?_eq]; exact hy)⟩
  ·obtain ⟨y', hy', hr⟩ := hc j x hx
   rw [add_eq] at hy'
   rw [start_imm (by rw [← cell?_eq]; exact hy')] at hy
   cases hy
   exact hr
theorem addr_add (a : Addr) (x y : Nat) : (a.add x).add y = a.add (x + y) := by
 unfold Addr.add
 by_cases hx : x = 0
 ·subst hx; simp
 ·by_cases hy : y = 0
  ·subst hy; simp [hx]
  ·simp [hx, hy, Nat.add_assoc]
section
variable {H : Type} {enc : TypeId × Value → H} {W : World}
/-- a slice of things that can be opened -/
theorem open_slice {α : Type} [Inhabited α] {t e : TypeId} {sz fuel : Nat} {cs : List Value} {x : DataW H × List MemPlace} (f : α → AV) (R : α → Prop) (ht : Tryz.prog.underlying t = some (.slice e)) (hce : Tryz.prog.cellsOf e = sz) (hsz : 0 < sz) (hcl : ∀ v, (f v).cells.length = sz)
  (ih : ∀ m, m < fuel → ∀ ds y, DataW.trod enc Tryz.prog W 0 (fun _ => true) true m e ds = some y → ∃ v, R v ∧ CRep W ds (f v))
  (h : DataW.trod enc Tryz.prog W 0 (fun _ => true) true fuel t cs = some x) :
  cs = [.slice none 0 0] ∨ ∃ (l : List α) (v : Value), cs = [v] ∧ l.length ≤ maxLen ∧ (∀ a ∈ l, R a) ∧ Rep (startG W.heap) (.slice (l.map f) .dead) v := by
 rcases DataW.trod_slice ht h with ⟨h2, _⟩ | ⟨a, len, cap, elems, rest, m, rfl, h2, _, _, hlc, hcm, hel, hE, hR, _⟩
 ·exact .inl h2
 ·right
  obtain ⟨hrl, hR⟩ := hR rfl
  have key : ∀ i, i < len → ∃ v : α, ∃ ds, W.cells? 0 (a.add (i * sz)) sz = some ds ∧ R v ∧ CRep W ds (f v) := by
   intro i hi
   have := hE i hi
   rw [List.getElem?_eq_getElem (by omega), hce] at this
   obtain ⟨ds, g1, g2⟩ := Option.bind_eq_some_iff.1 this
   obtain ⟨v, hv⟩ := ih m (by omega) _ _ g2
   exact ⟨v, ds, g1, hv⟩
  have hspot : cap = 0 ∨ a.spot = none := by
   rcases Nat.eq_zero_or_pos cap with h | h
   ·exact .inl h
   right
   have any : ∃ ds, W.cells? 0 (a.add (0 * sz)) sz = some ds := by
    rcases Nat.eq_zero_or_pos len with h' | h'
    ·have := hR 0 (by omega)
     have hrest : rest[0]? = some (rest[0]'(by omega)) := List.getElem?_eq_getElem (by omega)
     rw [hrest, hce, show (len + 0) * sz = 0 * sz by rw [h']] at this
     obtain ⟨ds, g1, _⟩ := Option.bind_eq_some_iff.1 this
     exact ⟨ds, g1⟩
    ·obtain ⟨_, ds, g, _⟩ := key 0 h'
     exact ⟨ds, g⟩
   obtain ⟨ds, g⟩ := any
   obtain ⟨g0, g1, g2⟩ := World.cells?_some g
   have := g2 0 (by omega)
   rw [List.getElem?_eq_getElem (by omega)] at this
   have := World.cell?_spot this
   simpa [Addr.add] using this
  obtain ⟨V, hV⟩ := Deep.choose_lt key
  refine ⟨(List.range len).map V, _, h2, by simp; omega, fun v hv => ?_, ?_⟩
  ·obtain ⟨i, hi, rfl⟩ := List.mem_map.1 hv
   obtain ⟨ds, _, k, _⟩ := hV i (List.mem_range.1 hi)
   exact k
  ·rw [List.map_map]
   refine slice_rep (sz := sz) (by simp) hlc (fun e he => ?_) hspot (fun j x hx => ?_)
   ·obtain ⟨i, _, rfl⟩ := List.mem_map.1 he
    exact hcl _
   ·have hall : ∀ e ∈ (List.range len).map (f ∘ V), e.cells.length = sz := fun e he => by
     obtain ⟨i, _, rfl⟩ := List.mem_map.1 he
     exact hcl _
    have hfl := Vm.flat_length _ sz hall
    have hj : j < len * sz := by
     rcases Nat.lt_or_ge j (((List.range len).map (f ∘ V)).flatMap AV.cells).length with k | k
     ·rw [hfl] at k; simpa using k
     ·rw [List.getElem?_eq_none k] at hx; cases hx
    have hq : j / sz < len := Nat.div_lt_of_lt_mul (by rw [Nat.mul_comm]; exact hj)
    have hr : j % sz < sz := Nat.mod_lt _ hsz
    have hjj : j / sz * sz + j % sz = j := by rw [Nat.mul_comm]; exact Nat.div_add_mod j sz
    have hg : ((List.range len).map (f ∘ V))[j / sz]? = some (f (V (j / sz))) := by simp [hq]
    have := Vm.flat_get _ sz (j / sz) (j % sz) _ hall hg hr
    rw [hjj, hx] at this
    obtain ⟨ds, g1, _, g2⟩ := hV (j / sz) hq
    obtain ⟨_, g3, g4⟩ := World.cells?_some g1
    obtain ⟨a', y, k1, k2, k3⟩ := crep_get g2 (j := j % sz) (by rw [g2.1, hcl]; exact hr)
    rw [k1] at this
    cases this
    refine ⟨y, ?_, k3⟩
    have g5 := g4 (j % sz) hr
    rw [k2] at g5
    rw [← g5, addr_add, hjj]
instance : Inhabited Ex := ⟨.leaf 0 0 0 false⟩
instance : Inhabited Fu := ⟨⟨[], 0, default⟩⟩
theorem fits_all : ∀ {l : List Ex}, (∀ x ∈ l, x.fit) → Ex.fits l
 | [], _ => trivial
 | a :: r, h => ⟨h a (by simp), fits_all (fun x hx => h x (by simp [hx]))⟩
/-- an expression whose parts are given -/
def mkEx (o n m : Int) : List Ex → Ex
 | [] => .leaf o n m true
 | x :: l => .node o n m x l
theorem mkEx_look (o n m : Int) (l : List Ex) : (mkEx o n m l).enc = .agg [.int .i64 o, .int .i64 n, .int .i64 m, .slice (l.map Ex.enc) .dead] := by
 cases l with
 | nil => rfl
 | cons x l => simp only [mkEx, Ex.enc, Ex.encs_map, List.map_cons]
theorem mkEx_fit (o n m : Int) {l : List Ex} (hm : l.length ≤ maxLen) (h : ∀ x ∈ l, x.fit) : (mkEx o n m l).fit := by
 cases l with
 | nil => trivial
 | cons x l => exact ⟨by simpa using hm, h x (by simp), fits_all fun y hy => h y (by simp [hy])⟩
theorem open_ex : ∀ (fuel : Nat) {cs : List Value} {x : DataW H × List MemPlace}, DataW.trod enc Tryz.prog W 0 (fun _ => true) true fuel 59 cs = some x → ∃ v : Ex, v.fit ∧ CRep W cs v.enc := by
 intro fuel
 induction fuel using Nat.strongRecOn with
 | _ fuel ih =>
  intro cs x h
  obtain ⟨xs, n, rfl, rfl, hl, hlen, hf⟩ := DataW.trod_struct tiOk59.und h
  have f0 := hf 0 _ rfl
  have f1 := hf 1 _ rfl
  have f2 := hf 2 _ rfl
  have f3 := hf 3 _ rfl
  rw [cells59] at hl
  match xs, hlen, cs, hl with
  | [x0, x1, x2, x3], _, [c0, c1, c2, c3], _ =>
   have f0 : DataW.trod enc Tryz.prog W 0 (fun _ => true) true n 3 ((([c0, c1, c2, c3] : List Value).drop 0).take (Tryz.prog.cellsOf 3)) = some x0 := f0
   rw [cells3] at f0
   have f1 : DataW.trod enc Tryz.prog W 0 (fun _ => true) true n 3 ((([c0, c1, c2, c3] : List Value).drop 1).take (Tryz.prog.cellsOf 3)) = some x1 := f1
   rw [cells3] at f1
   have f2 : DataW.trod enc Tryz.prog W 0 (fun _ => true) true n 3 ((([c0, c1, c2, c3] : List Value).drop 2).take (Tryz.prog.cellsOf 3)) = some x2 := f2
   rw [cells3] at f2
   have f3 : DataW.trod enc Tryz.prog W 0 (fun _ => true) true n 57 ((([c0, c1, c2, c3] : List Value).drop 3).take (Tryz.prog.cellsOf 57)) = some x3 := f3
   rw [cells57] at f3
   obtain ⟨z0, h0, _, _⟩ := DataW.trod_int (k := .i64) tiOk3.und f0
   obtain ⟨z1, h1, _, _⟩ := DataW.trod_int (k := .i64) tiOk3.und f1
   obtain ⟨z2, h2, _, _⟩ := DataW.trod_int (k := .i64) tiOk3.und f2
   cases h0
   cases h1
   cases h2
   rcases open_slice (fun v : Ex => v.enc) (fun v => v.fit) tiOk57.und cells59 (by decide) Ex.enc_cells (fun m hm ds y hy => ih m (by omega) hy) f3 with h3 | ⟨l, v, h3, hlm, hR, hrep⟩
   ·cases h3
    refine ⟨.leaf z0 z1 z2 false, trivial, rfl, fun j a y ha hy => ?_⟩
    match j, ha, hy with
    | 0, ha, hy => cases ha; cases hy; exact .int .i64 z0
    | 1, ha, hy => cases ha; cases hy; exact .int .i64 z1
    | 2, ha, hy => cases ha; cases hy; exact .int .i64 z2
    | 3, ha, hy => cases ha; cases hy; exact .nils
    | j + 4, ha, _ => cases ha
   ·cases h3
    refine ⟨mkEx z0 z1 z2 l, mkEx_fit _ _ _ hlm hR, by rw [mkEx_look]; rfl, fun j a y ha hy => ?_⟩
    rw [mkEx_look] at ha
    match j, ha, hy with
    | 0, ha, hy => cases ha; cases hy; exact .int .i64 z0
    | 1, ha, hy => cases ha; cases hy; exact .int .i64 z1
    | 2, ha, hy => cases ha; cases hy; exact .int .i64 z2
    | 3, ha, hy => cases ha; cases hy; exact hrep
    | j + 4, ha, _ => cases ha
theorem fu_len (f : Fu) : f.enc.cells.length = 6 := rfl
theorem open_fu {fuel : Nat} {cs : List Value} {x : DataW H × List MemPlace} (h : DataW.trod enc Tryz.prog W 0 (fun _ => true) true fuel 63 cs = some x) : ∃ v : Fu, v.fit ∧ CRep W cs v.enc := by
 obtain ⟨xs, n, rfl, rfl, hl, hlen, hf⟩ := DataW.trod_struct tiOk63.und h
 have f0 := hf 0 _ rfl
 have f1 := hf 1 _ rfl
 have f2 := hf 2 _ rfl
 rw [cells63] at hl
 match xs, hlen, cs, hl with
 | [x0, x1, x2], _, [c0, c1, c2, c3, c4, c5], _ =>
  have f0 : DataW.trod enc Tryz.prog W 0 (fun _ => true) true n 9 ((([c0, c1, c2, c3, c4, c5] : List Value).drop 0).take (Tryz.prog.cellsOf 9)) = some x0 := f0
  rw [cells9] at f0
  have f1 : DataW.trod enc Tryz.prog W 0 (fun _ => true) true n 3 ((([c0, c1, c2, c3, c4, c5] : List Value).drop 1).take (Tryz.prog.cellsOf 3)) = some x1 := f1
  rw [cells3] at f1
  have f2 : DataW.trod enc Tryz.prog W 0 (fun _ => true) true n 59 ((([c0, c1, c2, c3, c4, c5] : List Value).drop 2).take (Tryz.prog.cellsOf 59)) = some x2 := f2
  rw [cells59] at f2
  obtain ⟨s, h0, _, hs⟩ := DataW.trod_string tiOk9.und f0
  obtain ⟨z1, h1, _, _⟩ := DataW.trod_int (k := .i64) tiOk3.und f1
  cases h0
  cases h1
  obtain ⟨b, hb, hc1, hc2⟩ := open_ex n f2
  rw [b.look] at hc2
  refine ⟨⟨s.data.toList, z1, b⟩, ⟨by simpa using hs, hb⟩, rfl, fun j a y ha hy => ?_⟩
  match j, ha, hy with
  | 0, ha, hy => cases ha; cases hy; exact .str s
  | 1, ha, hy => cases ha; cases hy; exact .int .i64 z1
  | 2, ha, hy => exact hc2 0 a y ha hy
  | 3, ha, hy => exact hc2 1 a y ha hy
  | 4, ha, hy => exact hc2 2 a y ha hy
  | 5, ha, hy => exact hc2 3 a y ha hy
  | j + 6, ha, _ => cases ha
theorem open_pr {fuel : Nat} {cs : List Value} {x : DataW H × List MemPlace} (h : DataW.trod enc Tryz.prog W 0 (fun _ => true) true fuel 24 cs = some x) : ∃ p : Pr, p.fit2 ∧ CRep W cs p.enc := by
 obtain ⟨xs, n, rfl, rfl, hl, hlen, hf⟩ := DataW.trod_struct tiOk24.und h
 have f0 := hf 0 _ rfl
 have f1 := hf 1 _ rfl
 rw [cells24] at hl
 match xs, hlen, cs, hl with
 | [x0, x1], _, [c0, c1], _ =>
  have f0 : DataW.trod enc Tryz.prog W 0 (fun _ => true) true n 22 ((([c0, c1] : List Value).drop 0).take (Tryz.prog.cellsOf 22)) = some x0 := f0
  rw [cells22] at f0
  have f1 : DataW.trod enc Tryz.prog W 0 (fun _ => true) true n 3 ((([c0, c1] : List Value).drop 1).take (Tryz.prog.cellsOf 3)) = some x1 := f1
  rw [cells3] at f1
  obtain ⟨z1, h1, _, _⟩ := DataW.trod_int (k := .i64) tiOk3.und f1
  cases h1
  rcases open_slice (fun v : Fu => v.enc) (fun v => v.fit) tiOk22.und cells63 (by decide) fu_len (fun m hm ds y hy => open_fu hy) f0 with h3 | ⟨l, v, h3, hlm, hR, hrep⟩
  ·cases h3
   refine ⟨⟨[], false, z1⟩, ⟨fun f hf => (by cases hf), Nat.zero_le _⟩, rfl, fun j a y ha hy => ?_⟩
   match j, ha, hy with
   | 0, ha, hy => cases ha; cases hy; exact .nils
   | 1, ha, hy => cases ha; cases hy; exact .int .i64 z1
   | j + 2, ha, _ => cases ha
  ·cases h3
   refine ⟨⟨l, true, z1⟩, ⟨hR, hlm⟩, rfl, fun j a y ha hy => ?_⟩
   have hv : (⟨l, true, z1⟩ : Pr).val = .slice (l.map Fu.enc) .dead := by cases l <;> rfl
   have he : (⟨l, true, z1⟩ : Pr).enc = .agg [.slice (l.map Fu.enc) .dead, .int .i64 z1] := by rw [Pr.enc, hv]
   rw [he] at ha
   match j, ha, hy with
   | 0, ha, hy => cases ha; cases hy; exact hrep
   | 1, ha, hy => cases ha; cases hy; exact .int .i64 z1
   | j + 2, ha, _ => cases ha
theorem open_prog {base : Nat} {v : Value} {d : DataW H} {ps : List MemPlace} (hval : Value.okWide Tryz.prog W .any base 24 v) (hd : DataW.Trod enc Tryz.prog W 0 (fun _ => true) true 24 v d ps) :
  ∃ p : Pr, p.fit2 ∧ Rep (startG W.heap) p.enc v := by
 obtain ⟨cs, rfl, hcs⟩ := okWide_struct tiOk24.und hval
 obtain ⟨fuel, hf⟩ := hd
 obtain ⟨p, h1, h2, h3⟩ := open_pr hf
 refine ⟨p, h1, ?_⟩
 simp only [Pr.enc] at h2 h3 ⊢
 refine .agg _ _ ?_ (fun j x y hx hy => h3 j x y (by simpa [AV.cells] using hx) (by simpa [Value.cells] using hy))
 simp only [Value.cells] at h2
 simpa [AV.cells] using h2.symm
end
end Go.Proofs.YtjfnelfdlemfgaaGreatDoor
