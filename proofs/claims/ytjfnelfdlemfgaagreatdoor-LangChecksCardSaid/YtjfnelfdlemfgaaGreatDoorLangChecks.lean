/-
LangChecks is true of the given program: the tied card that its row states. No conditions.
-/
import Derived.Test.YtjfnelfdlemfgaaGreatDoorWit
import Derived.Test.YtjfnelfdlemfgaaGreatDoorArg
import Derived.Test.YtjfnelfdlemfgaaGreatDoorTextF
import Derived.Test.YtjfnelfdlemfgaaGreatDoorFactC
import Derived.Test.YtjfnelfdlemfgaaGreatDoorCards
import Derived.SevenTiedAt
set_option linter.all false
set_option maxHeartbeats 4000000
namespace Go.Proofs.YtjfnelfdlemfgaaGreatDoor
open Go
open Go.Vm hiding Ex
open Go.Vm.L Go.ChangeShapes Go.OpenShut Go.WideShapes Go.ChangeAt Go.RowKit
set_option maxRecDepth 100000
theorem lchecks_sound {P : Pr} (h : P.fit2) : Sound Tryz.prog ED 3 [P.enc] (.ret (.bool true)) := by
 obtain ⟨Q, hQ, _⟩ := prOf2_enc h
 exact (lchecks_ok _ _ (by simp only [lchecksG, hQ])).2.2
theorem langChecks_lifted (os : Os) (started : os.Started) (H : Type) (enc : TypeId × Value → H) :
  ReturnsInHanded {} Tryz.checked os 3 .any (fun w args => (Rows.langChecksSpec.pre enc Tryz.prog Tryz.f3 [] false w args ∧ laidMetH Tryz.prog laidAll w) ∧ sizedMet enc Tryz.prog Tryz.f3 (OpenSpec.ofChange Rows.langChecksSpec) false w args)
   (Rows.langChecksSpec.post enc Tryz.prog Tryz.f3 false true false false) := by
 refine returnsInHanded_of_shape_and (C := Tryz.checked) (X := fun w _ => laidMetH Tryz.prog laidAll w) (fun _ _ _ hh h => h.of_heap hh) tOwn started (by kernel_rfl) Tryz.func3
  (ChangeSpec.witness_shaped (enc := enc) (C := Tryz.checked) (os := os) (X := fun w _ => laidMetH Tryz.prog laidAll w) false (wStart os) #[.agg #[.slice none 0 0, .int .i64 0]] 8 (start_os os) (start_shaped os _) (by kernel_rfl) (by kernel_rfl) (by kernel_rfl) (start_met os _)) ?_
 intro W base args ds gs before hval0 hW hL hS
 have hval : ∀ (j : Nat) t v, Tryz.f3.params[j]? = some t → args[j]? = some v → Value.okWide Tryz.prog W .any base t v := hval0
 have hW' := hW
 have hlt := hW.lt
 obtain ⟨p, q, hA0, hV, rfl, hfz, hnd⟩ := hW
 have hA : DataW.TrodAll enc Tryz.prog W 0 (fun _ => true) true Tryz.f3.params.toList args.toList ds p := hA0
 rw [Tryz.params3] at hA hval
 obtain ⟨v0, d0, rfl, rfl, h0⟩ := trodAll_one hA
 obtain ⟨rfl, rfl⟩ := trodVars_none hV
 obtain ⟨P, hP, hrep⟩ := open_prog (hval 0 24 v0 rfl rfl) h0
 refine (call_true (lchecks_sound hP) hL hS (Reps.cons hrep (Reps.nil _))).mono fun e W' ⟨he, hsame, hk⟩ => ?_
 subst he
 exact ⟨_, rfl, post_of_old (pv := []) hW' (fun _ _ _ => trodAll_mk1 (shut_bool tiOk4.und _)) (fun sp hsp => trodAll_stays laidOut' hsame _ _ _ _ (by kernel_rfl) hA0 (fun x hx => hlt x (by simpa using hx)) (fun x hx => hsp x (by simpa using hx))) (fun _ _ => rfl) rfl (hk _) hsame (ok_one (by kernel_rfl) rfl (okWide_bool_mk tiOk4.und _))⟩
theorem langChecks_holds : Rows.LangChecksSaid :=
 OpenClaim.holds_of_wide 3 Tryz.f3 rfl rfl rfl rfl rfl rfl rfl ⟨rfl, rfl, rfl, rfl, rfl⟩ rfl rfl rfl rfl rfl jf3_name Tryz.func3 jf3
  jf3_inst jf3_wrap (fun os started H enc _ => langChecks_lifted os started H enc)
theorem langChecks_proved : Rows.LangChecksCardSaid :=
 Claim7.holds_tied_plain_at .later [] [.data, .data, .data, .data, .sentinel, .sentinel, .listed, .data, .widerDeep, .data, .mapped, .pinned] true (true, "cd97829217f7168146ea04598df032a5c6efc60a1b4e3f11a61465349e44886a") true
  langChecks_holds (fun _ h => by cases h) jf3_wft (fun _ h => by cases h) langChecks_row_tie rfl ⟨rfl, rfl⟩ jf_main rfl
  (fun f fn hf hfn => by
   obtain rfl : f = 3 := Option.some.inj (jf3_name.symm.trans hf) |>.symm
   obtain rfl : fn = Tryz.f3 := (Option.some.inj (Tryz.func3.symm.trans hfn)).symm
   exact ⟨jf_looks, fun j t ht => by
    rw [Tryz.params3] at ht
    have hm : t ∈ [24] := by simpa using Array.mem_of_getElem? ht
    simp only [List.mem_cons, List.mem_nil_iff, or_false] at hm
    subst hm
    exact jf3_stand⟩)
  jf3_goes
end Go.Proofs.YtjfnelfdlemfgaaGreatDoor
