/-
GraphDefines is true of the given program, for all arguments: the tied card that its row states. No conditions.
-/
import Derived.Test.YtpjcmiaanjcanaaGreatDoorLawA
import Derived.Test.YtpjcmiaanjcanaaGreatDoorCards
import Derived.SevenTiedAt
import Derived.Deep.Strs
import Derived.ChangeMaps5
set_option linter.all false

namespace Go.Proofs.YtpjcmiaanjcanaaGreatDoor
open Go Go.Vm Go.Vm.T Go.ChangeShapes Go.OpenShut Go.WideShapes Go.ChangeAt Go.RowKit
set_option maxRecDepth 100000

instance : Inhabited RV := ⟨.leaf 0 0 false⟩

theorem cells24 : Tryz.prog.cellsOf 24 = 3 := by kernel_rfl
theorem cells22 : Tryz.prog.cellsOf 22 = 1 := by kernel_rfl
theorem cells3 : Tryz.prog.cellsOf 3 = 1 := by kernel_rfl

def VRep (W : World) (cs : List Value) (v : RV) : Prop := v.fit ∧ cs.length = 3 ∧ ∀ (j : Nat) a y, v.enc.cells[j]? = some a → cs[j]? = some y → Rep (startG W.heap) a y

theorem RV.fits_all : ∀ {l : List RV}, (∀ x ∈ l, x.fit) → RV.fits l
  | [], _ => trivial
  | a :: r, h => ⟨h a (by simp), RV.fits_all (fun x hx => h x (by simp [hx]))⟩

/-- a value whose parts are given -/
def mkRV (k n : Int) (V : Nat → RV) : Nat → RV
  | 0 => .leaf k n true
  | m + 1 => .node k n (V 0) ((List.range m).map fun i => V (i + 1))
theorem mkRV_look (k n : Int) (V : Nat → RV) (m : Nat) : (mkRV k n V m).enc = .agg [.int .i64 k, .int .i64 n, .slice ((List.range m).map fun i => (V i).enc) .dead] := by
  cases m with
  | zero => rfl
  | succ m =>
    simp only [mkRV, RV.enc, RV.encs_map, List.map_map, List.range_succ_eq_map, List.map_cons]
    rfl
theorem mkRV_fit (k n : Int) (V : Nat → RV) (m : Nat) (hm : m ≤ maxLen) (h : ∀ i, i < m → (V i).fit) : (mkRV k n V m).fit := by
  cases m with
  | zero => trivial
  | succ m =>
    refine ⟨by simpa using hm, h 0 (by omega), RV.fits_all fun x hx => ?_⟩
    obtain ⟨i, hi, rfl⟩ := List.mem_map.1 hx
    exact h _ (by have := List.mem_range.1 hi; omega)

theorem vrep_cells {W : World} {cs : List Value} {v : RV} (h : VRep W cs v) {j : Nat} (hj : j < 3) : ∃ a y, v.enc.cells[j]? = some a ∧ cs[j]? = some y ∧ Rep (startG W.heap) a y := by
  obtain ⟨_, h1, h2⟩ := h
  have hl := v.enc_cells
  have g1 : v.enc.cells[j]? = some (v.enc.cells[j]'(by omega)) := List.getElem?_eq_getElem (by omega)
  have g2 : cs[j]? = some (cs[j]'(by omega)) := List.getElem?_eq_getElem (by omega)
  exact ⟨_, _, g1, g2, h2 _ _ _ g1 g2⟩

theorem addr_add (a : Addr) (x y : Nat) : (a.add x).add y = a.add (x + y) := by
  unfold Addr.add
  by_cases hx : x = 0
  · subst hx; simp
  · by_cases hy : y = 0
    · subst hy; simp [hx]
    · simp [hx, hy, Nat.add_assoc]

theorem open_cells {H : Type} {enc : TypeId × Value → H} {W : World} : ∀ (fuel : Nat) {cs : List Value} {x : DataW H × List MemPlace}, DataW.trod enc Tryz.prog W 0 (fun _ => true) true fuel 24 cs = some x → ∃ v : RV, VRep W cs v := by
  intro fuel
  induction fuel using Nat.strongRecOn with
  | _ fuel ih =>
    intro cs x h
    obtain ⟨xs, n, rfl, rfl, hl, hlen, hf⟩ := DataW.trod_struct tiOk24.und h
    have f0 := hf 0 _ rfl
    have f1 := hf 1 _ rfl
    have f2 := hf 2 _ rfl
    rw [cells24] at hl
    match xs, hlen, cs, hl with
    | [x0, x1, x2], _, [c0, c1, c2], _ =>
      have f0 : DataW.trod enc Tryz.prog W 0 (fun _ => true) true n 3 ((([c0, c1, c2] : List Value).drop 0).take (Tryz.prog.cellsOf 3)) = some x0 := f0
      rw [cells3] at f0
      have f1 : DataW.trod enc Tryz.prog W 0 (fun _ => true) true n 3 ((([c0, c1, c2] : List Value).drop 1).take (Tryz.prog.cellsOf 3)) = some x1 := f1
      rw [cells3] at f1
      have f2 : DataW.trod enc Tryz.prog W 0 (fun _ => true) true n 22 ((([c0, c1, c2] : List Value).drop 2).take (Tryz.prog.cellsOf 22)) = some x2 := f2
      rw [cells22] at f2
      obtain ⟨z0, h0, _, _⟩ := DataW.trod_int (k := .i64) tiOk3.und f0
      obtain ⟨z1, h1, _, _⟩ := DataW.trod_int (k := .i64) tiOk3.und f1
      cases h0
      cases h1
      rcases DataW.trod_slice tiOk22.und f2 with ⟨h2, _⟩ | ⟨a, len, cap, elems, rest, m, rfl, h2, _, _, hlc, hcm, hel, hE, hR, _⟩
      · cases h2
        refine ⟨.leaf z0 z1 false, trivial, rfl, fun j a y ha hy => ?_⟩
        match j, ha, hy with
        | 0, ha, hy => cases ha; cases hy; exact .int .i64 z0
        | 1, ha, hy => cases ha; cases hy; exact .int .i64 z1
        | 2, ha, hy => cases ha; cases hy; exact .nils
        | j + 3, ha, _ => cases ha
      · cases h2
        obtain ⟨hrl, hR⟩ := hR rfl
        have key : ∀ i, i < len → ∃ v : RV, ∃ ds, W.cells? 0 (a.add (i * 3)) 3 = some ds ∧ VRep W ds v := by
          intro i hi
          have := hE i hi
          rw [List.getElem?_eq_getElem (by omega), cells24] at this
          obtain ⟨ds, g1, g2⟩ := Option.bind_eq_some_iff.1 this
          obtain ⟨v, hv⟩ := ih m (by omega) g2
          exact ⟨v, ds, g1, hv⟩
        have hspot : cap = 0 ∨ a.spot = none := by
          rcases Nat.eq_zero_or_pos cap with h | h
          · exact .inl h
          right
          have any : ∃ ds, W.cells? 0 (a.add (0 * 3)) 3 = some ds := by
            rcases Nat.eq_zero_or_pos len with h' | h'
            · have := hR 0 (by omega)
              have hrest : rest[0]? = some (rest[0]'(by omega)) := List.getElem?_eq_getElem (by omega)
              rw [hrest, cells24, show (len + 0) * 3 = 0 * 3 by omega] at this
              obtain ⟨ds, g1, _⟩ := Option.bind_eq_some_iff.1 this
              exact ⟨ds, g1⟩
            · obtain ⟨_, ds, g, _⟩ := key 0 h'
              exact ⟨ds, g⟩
          obtain ⟨ds, g⟩ := any
          obtain ⟨_, g1, g2⟩ := World.cells?_some g
          have := g2 0 (by omega)
          rw [List.getElem?_eq_getElem (by omega)] at this
          have := World.cell?_spot this
          simpa [Addr.add] using this
        obtain ⟨V, hV⟩ := Deep.choose_lt key
        refine ⟨mkRV z0 z1 V len, mkRV_fit _ _ _ _ (by omega) (fun i hi => by obtain ⟨ds, _, k, _⟩ := hV i hi; exact k), rfl, fun j b y hb hy => ?_⟩
        have hS : Rep (startG W.heap) (.slice ((List.range len).map fun i => (V i).enc) .dead) (.slice (some a) len cap) := by
          refine slice_rep (sz := 3) (by simp) hlc (fun e he => ?_) hspot (fun j x hx => ?_)
          · obtain ⟨i, _, rfl⟩ := List.mem_map.1 he
            exact (V i).enc_cells
          · have hall : ∀ e ∈ (List.range len).map (fun i => (V i).enc), e.cells.length = 3 := fun e he => by
              obtain ⟨i, _, rfl⟩ := List.mem_map.1 he
              exact (V i).enc_cells
            have hfl := Vm.flat_length _ 3 hall
            have hj : j < len * 3 := by
              rcases Nat.lt_or_ge j (((List.range len).map fun i => (V i).enc).flatMap AV.cells).length with k | k
              · rw [hfl] at k; simpa using k
              · rw [List.getElem?_eq_none k] at hx; cases hx
            have hq : j / 3 < len := by omega
            have hg : ((List.range len).map fun i => (V i).enc)[j / 3]? = some (V (j / 3)).enc := by simp [hq]
            have := Vm.flat_get _ 3 (j / 3) (j % 3) _ hall hg (by omega)
            rw [show j / 3 * 3 + j % 3 = j by omega, hx] at this
            obtain ⟨ds, g1, g2⟩ := hV (j / 3) hq
            obtain ⟨_, g3, g4⟩ := World.cells?_some g1
            obtain ⟨a', y, k1, k2, k3⟩ := vrep_cells g2 (j := j % 3) (by omega)
            rw [k1] at this
            cases this
            refine ⟨y, ?_, k3⟩
            have g5 := g4 (j % 3) (by omega)
            rw [k2] at g5
            rw [← g5]
            rw [addr_add, show j / 3 * 3 + j % 3 = j by omega]
        rw [mkRV_look] at hb
        match j, hb, hy with
        | 0, hb, hy => cases hb; cases hy; exact .int .i64 z0
        | 1, hb, hy => cases hb; cases hy; exact .int .i64 z1
        | 2, hb, hy => cases hb; cases hy; exact hS
        | j + 3, hb, _ => cases hb

theorem open_value {H : Type} {enc : TypeId × Value → H} {W : World} {base : Nat} {v : Value} {d : DataW H} {ps : List MemPlace} (hval : Value.okWide Tryz.prog W .any base 24 v) (hd : DataW.Trod enc Tryz.prog W 0 (fun _ => true) true 24 v d ps) :
    ∃ r : RV, r.fit ∧ Rep (startG W.heap) r.enc v := by
  obtain ⟨cs, rfl, hcs⟩ := okWide_struct tiOk24.und hval
  obtain ⟨fuel, hf⟩ := hd
  obtain ⟨r, h1, h2, h3⟩ := open_cells fuel hf
  refine ⟨r, h1, ?_⟩
  have e := r.look
  rw [e] at h3 ⊢
  refine .agg _ _ ?_ (fun j x y hx hy => h3 j x y (by simpa [AV.cells] using hx) (by simpa [Value.cells] using hy))
  simp only [Value.cells] at h2
  simpa using h2.symm

theorem graphDefines_lifted (os : Os) (started : os.Started) (H : Type) (enc : TypeId × Value → H) :
    ReturnsInHanded {} Tryz.checked os 3 .any (fun w args => (Rows.graphDefinesSpec.pre enc Tryz.prog Tryz.f3 [] false w args ∧ laidMetH Tryz.prog laidAll w) ∧ sizedMet enc Tryz.prog Tryz.f3 (OpenSpec.ofChange Rows.graphDefinesSpec) false w args)
      (Rows.graphDefinesSpec.post enc Tryz.prog Tryz.f3 false true false false) := by
  refine returnsInHanded_of_change_and (C := Tryz.checked) (X := fun w _ => laidMetH Tryz.prog laidAll w) (fun _ _ _ hh h => h.of_heap hh) tOwn started (by kernel_rfl) Tryz.func3
    (ChangeSpec.witness_shaped (enc := enc) (C := Tryz.checked) (os := os) (X := fun w _ => laidMetH Tryz.prog laidAll w) false (World.doorLaid Tryz.prog 600 os) #[.string ⟨#[]⟩, .agg #[.int .i64 0, .int .i64 0, .slice none 0 0]] 8 rfl (World.shaped_of_RefB (by kernel_rfl) (by kernel_rfl)) (by kernel_rfl) (by kernel_rfl) (by kernel_rfl) (door_met os _)) ?_
  intro W base args ds gs before hval0 hW _ _ hL _
  have hval : ∀ (j : Nat) t v, Tryz.f3.params[j]? = some t → args[j]? = some v → Value.okWide Tryz.prog W .any base t v := hval0
  have hW' := hW
  have hlt := hW.lt
  obtain ⟨p, q, hA0, hV, rfl, hfz, hnd⟩ := hW
  have hA : DataW.TrodAll enc Tryz.prog W 0 (fun _ => true) true Tryz.f3.params.toList args.toList ds p := hA0
  rw [Tryz.params3] at hA hval
  obtain ⟨v0, v1, d0, d1, p0, p1, rfl, rfl, rfl, h0, h1⟩ := trodAll_two hA
  obtain ⟨rfl, rfl⟩ := trodVars_none hV
  have hargs := hA
  obtain ⟨s, rfl, rfl, rfl, ws⟩ := ChangeMaps.open_string tiOk9.und (hval 0 9 v0 rfl rfl) h0
  obtain ⟨r, hr, hrep⟩ := open_value (hval 1 24 v1 rfl rfl) h1
  have hcall := law3 s.data.toList hr
  refine (call_true hcall hL (Reps.cons (.str s) (Reps.cons hrep (Reps.nil _)))).mono fun e W' ⟨he, hsame, hk, hf⟩ => ?_
  subst he
  exact ⟨_, rfl, post_of_same (pv := []) hW' (fun _ _ _ => trodAll_mk1 (shut_bool tiOk4.und _)) (fun sp hsp => trodAll_stays laidOut' hsame _ _ _ _ (by kernel_rfl) hA (fun x hx => hlt x (by simpa using hx)) (fun x hx => hsp x (by simpa using hx))) (fun _ _ => rfl) rfl (hk _) hf (ok_one (by kernel_rfl) rfl (okWide_bool_mk tiOk4.und _))⟩

theorem graphDefines_holds : Rows.GraphDefinesSaid :=
  OpenClaim.holds_of_wide 3 Tryz.f3 rfl rfl rfl rfl rfl rfl rfl ⟨rfl, rfl, rfl, rfl, rfl⟩ rfl rfl rfl rfl rfl (by kernel_rfl) Tryz.func3 (by kernel_rfl)
    (of_decide_eq_true (by kernel_rfl)) (by unfold Func.isWrapper; first | (rw [if_pos (by decide +kernel)]; kernel_rfl) | (rw [if_neg (by decide +kernel)]; exact ⟨rfl, rfl⟩))
    (fun os started H enc _ => graphDefines_lifted os started H enc)

theorem graphDefines_proved : Rows.GraphDefinesCardSaid :=
  Claim7.holds_tied_plain_at .later [] [.funcs, .data, .data, .data, .widerDeep] true (true, "d39936ba3ac4a81401911802ada0275a5cacf86162a65f51dce1e57a38d805f7") true
    graphDefines_holds (fun _ h => by cases h) (by kernel_rfl) (fun _ h => by cases h) graphDefines_row_tie rfl ⟨rfl, rfl⟩ (by kernel_rfl) rfl
    (fun f fn hf hfn => by
      obtain rfl : f = 3 := Option.some.inj ((show Tryz.prog.funcNamed "sheafworks/sheafworkslaw35.GraphDefines" = some 3 by kernel_rfl).symm.trans hf) |>.symm
      obtain rfl : fn = Tryz.f3 := (Option.some.inj (Tryz.func3.symm.trans hfn)).symm
      exact ⟨by kernel_rfl, fun j t ht => by
        rw [Tryz.params3] at ht
        have hm : t ∈ [9, 24] := by simpa using Array.mem_of_getElem? ht
        have hall : ([9, 24].all fun u => !Tryz.prog.wantsStandIn u) = true := by kernel_rfl
        exact (show Tryz.prog.wantsStandIn t = false by simpa using List.all_eq_true.1 hall t hm)⟩)
    (by kernel_rfl)

end Go.Proofs.YtpjcmiaanjcanaaGreatDoor
