/-
LangNodes is true of the given program: the tied card that its row states. No conditions.
-/
import Derived.Test.YtjfnelfdlemfgaaGreatDoorWit
import Derived.Test.YtjfnelfdlemfgaaGreatDoorArg
import Derived.Test.YtjfnelfdlemfgaaGreatDoorNodeJ
import Derived.Test.YtjfnelfdlemfgaaGreatDoorFactC
import Derived.Test.YtjfnelfdlemfgaaGreatDoorCards
import Derived.SevenTiedAt
set_option linter.all false

namespace Go.Proofs.YtjfnelfdlemfgaaGreatDoor
open Go
open Go.Vm hiding Ex
open Go.Vm.L Go.ChangeShapes Go.OpenShut Go.WideShapes Go.ChangeAt Go.RowKit
set_option maxRecDepth 100000

theorem lnodes_sound {P : Pr} (h : P.fit2) : Sound Tryz.prog ED 9 [P.enc] (.ret (.bool true)) := by
  obtain ⟨Q, hQ, _⟩ := prOf2_enc h
  exact (lnodes_ok _ _ (by simp only [lnodesG, hQ])).2.2

theorem langNodes_lifted (os : Os) (started : os.Started) (H : Type) (enc : TypeId × Value → H) :
    ReturnsInHanded {} Tryz.checked os 9 .any (fun w args => (Rows.langNodesSpec.pre enc Tryz.prog Tryz.f9 [] false w args ∧ laidMetH Tryz.prog laidAll w) ∧ sizedMet enc Tryz.prog Tryz.f9 (OpenSpec.ofChange Rows.langNodesSpec) false w args)
      (Rows.langNodesSpec.post enc Tryz.prog Tryz.f9 false true false false) := by
  refine returnsInHanded_of_shape_and (C := Tryz.checked) (X := fun w _ => laidMetH Tryz.prog laidAll w) (fun _ _ _ hh h => h.of_heap hh) tOwn started (by kernel_rfl) Tryz.func9
    (ChangeSpec.witness_shaped (enc := enc) (C := Tryz.checked) (os := os) (X := fun w _ => laidMetH Tryz.prog laidAll w) false (wStart os) #[.agg #[.slice none 0 0, .int .i64 0]] 8 (start_os os) (start_shaped os _) (by kernel_rfl) (by kernel_rfl) (by kernel_rfl) (start_met os _)) ?_
  intro W base args ds gs before hval0 hW hL hS
  have hval : ∀ (j : Nat) t v, Tryz.f9.params[j]? = some t → args[j]? = some v → Value.okWide Tryz.prog W .any base t v := hval0
  have hW' := hW
  have hlt := hW.lt
  obtain ⟨p, q, hA0, hV, rfl, hfz, hnd⟩ := hW
  have hA : DataW.TrodAll enc Tryz.prog W 0 (fun _ => true) true Tryz.f9.params.toList args.toList ds p := hA0
  rw [Tryz.params9] at hA hval
  obtain ⟨v0, d0, rfl, rfl, h0⟩ := trodAll_one hA
  obtain ⟨rfl, rfl⟩ := trodVars_none hV
  obtain ⟨P, hP, hrep⟩ := open_prog (hval 0 24 v0 rfl rfl) h0
  refine (call_true (lnodes_sound hP) hL hS (Reps.cons hrep (Reps.nil _))).mono fun e W' ⟨he, hsame, hk⟩ => ?_
  subst he
  exact ⟨_, rfl, post_of_old (pv := []) hW' (fun _ _ _ => trodAll_mk1 (shut_bool tiOk4.und _)) (fun sp hsp => trodAll_stays laidOut' hsame _ _ _ _ (by kernel_rfl) hA0 (fun x hx => hlt x (by simpa using hx)) (fun x hx => hsp x (by simpa using hx))) (fun _ _ => rfl) rfl (hk _) hsame (ok_one (by kernel_rfl) rfl (okWide_bool_mk tiOk4.und _))⟩

theorem langNodes_holds : Rows.LangNodesSaid :=
  OpenClaim.holds_of_wide 9 Tryz.f9 rfl rfl rfl rfl rfl rfl rfl ⟨rfl, rfl, rfl, rfl, rfl⟩ rfl rfl rfl rfl rfl jf9_name Tryz.func9 jf9
    jf9_inst jf9_wrap (fun os started H enc _ => langNodes_lifted os started H enc)

theorem langNodes_proved : Rows.LangNodesCardSaid :=
  Claim7.holds_tied_plain_at .later [] [.data, .data, .data, .data, .sentinel, .sentinel, .listed, .data, .widerDeep, .data, .mapped, .pinned] true (true, "cd97829217f7168146ea04598df032a5c6efc60a1b4e3f11a61465349e44886a") true
    langNodes_holds (fun _ h => by cases h) jf9_wft (fun _ h => by cases h) langNodes_row_tie rfl ⟨rfl, rfl⟩ jf_main rfl
    (fun f fn hf hfn => by
      obtain rfl : f = 9 := Option.some.inj (jf9_name.symm.trans hf) |>.symm
      obtain rfl : fn = Tryz.f9 := (Option.some.inj (Tryz.func9.symm.trans hfn)).symm
      exact ⟨jf_looks, fun j t ht => by
        rw [Tryz.params9] at ht
        have hm : t ∈ [24] := by simpa using Array.mem_of_getElem? ht
        simp only [List.mem_cons, List.mem_nil_iff, or_false] at hm
        subst hm
        exact jf9_stand⟩)
    jf9_goes

end Go.Proofs.YtjfnelfdlemfgaaGreatDoor
