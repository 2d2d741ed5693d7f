/-
LangNames is true of the given program: the tied card that its row states. No conditions.
-/
import Derived.Test.YtjfnelfdlemfgaaGreatDoorWit
import Derived.Test.YtjfnelfdlemfgaaGreatDoorFactB
import Derived.Test.YtjfnelfdlemfgaaGreatDoorCards
import Derived.SevenTiedAt
set_option linter.all false

namespace Go.Proofs.YtjfnelfdlemfgaaGreatDoor
open Go Go.Vm Go.Vm.L Go.ChangeShapes Go.OpenShut Go.WideShapes Go.ChangeAt Go.RowKit
set_option maxRecDepth 100000

theorem langNames_lifted (os : Os) (started : os.Started) (H : Type) (enc : TypeId × Value → H) :
    ReturnsInHanded {} Tryz.checked os 6 .any (fun w args => (Rows.langNamesSpec.pre enc Tryz.prog Tryz.f6 [] false w args ∧ laidMetH Tryz.prog laidAll w) ∧ sizedMet enc Tryz.prog Tryz.f6 (OpenSpec.ofChange Rows.langNamesSpec) false w args)
      (Rows.langNamesSpec.post enc Tryz.prog Tryz.f6 false true false false) := by
  refine returnsInHanded_of_shape_and (C := Tryz.checked) (X := fun w _ => laidMetH Tryz.prog laidAll w) (fun _ _ _ hh h => h.of_heap hh) tOwn started (by kernel_rfl) Tryz.func6
    (ChangeSpec.witness_shaped (enc := enc) (C := Tryz.checked) (os := os) (X := fun w _ => laidMetH Tryz.prog laidAll w) false (wStart os) #[] 8 (start_os os) (start_shaped os _) (by kernel_rfl) (by kernel_rfl) (by kernel_rfl) (start_met os _)) ?_
  intro W base args ds gs before _ hW hL hS
  have hW' := hW
  obtain ⟨p, q, hA0, hV, rfl, hfz, hnd⟩ := hW
  have hA : DataW.TrodAll enc Tryz.prog W 0 (fun _ => true) true Tryz.f6.params.toList args.toList ds p := hA0
  rw [Tryz.params6] at hA
  obtain ⟨h0, rfl, rfl⟩ := trodAll_nil hA
  obtain ⟨rfl, rfl⟩ := trodVars_none hV
  obtain rfl : args = #[] := Array.toList_inj.1 h0
  refine (call_true names_sound hL hS (Reps.nil _)).mono fun e W' ⟨he, hsame, hk⟩ => ?_
  subst he
  exact ⟨_, rfl, post_of_old (pv := []) hW' (fun _ _ _ => trodAll_mk1 (shut_bool tiOk4.und _)) (fun sp hsp => trodAll_stays laidOut' hsame _ _ _ _ (by kernel_rfl) hA0 (fun x hx => by cases hx) (fun x hx => by cases hx)) (fun _ _ => rfl) rfl (hk _) hsame (ok_one (by kernel_rfl) rfl (okWide_bool_mk tiOk4.und _))⟩

theorem langNames_holds : Rows.LangNamesSaid :=
  OpenClaim.holds_of_wide 6 Tryz.f6 rfl rfl rfl rfl rfl rfl rfl ⟨rfl, rfl, rfl, rfl, rfl⟩ rfl rfl rfl rfl rfl jf6_name Tryz.func6 jf6
    jf6_inst jf6_wrap (fun os started H enc _ => langNames_lifted os started H enc)

theorem langNames_proved : Rows.LangNamesCardSaid :=
  Claim7.holds_tied_plain_at .later [] [.data, .data, .data, .data, .sentinel, .sentinel, .listed, .data, .widerDeep, .data, .mapped, .pinned] true (true, "cd97829217f7168146ea04598df032a5c6efc60a1b4e3f11a61465349e44886a") true
    langNames_holds (fun _ h => by cases h) jf6_wft (fun _ h => by cases h) langNames_row_tie rfl ⟨rfl, rfl⟩ jf_main rfl
    (fun f fn hf hfn => by
      obtain rfl : f = 6 := Option.some.inj (jf6_name.symm.trans hf) |>.symm
      obtain rfl : fn = Tryz.f6 := (Option.some.inj (Tryz.func6.symm.trans hfn)).symm
      exact ⟨jf_looks, fun j t ht => by
        rw [Tryz.params6] at ht
        simp at ht⟩)
    jf6_goes

end Go.Proofs.YtjfnelfdlemfgaaGreatDoor
