/-
LangOuter is true of the given program: the tied card that its row states. No conditions.
-/
import Derived.Test.YtjfnelfdlemfgaaGreatDoorWit
import Derived.Test.YtjfnelfdlemfgaaGreatDoorArg
import Derived.Test.YtjfnelfdlemfgaaGreatDoorOuterB
import Derived.Test.YtjfnelfdlemfgaaGreatDoorFactC
import Derived.Test.YtjfnelfdlemfgaaGreatDoorCards
import Derived.SevenTiedAt
set_option linter.all false
set_option maxHeartbeats 4000000
namespace Go.Proofs.YtjfnelfdlemfgaaGreatDoor
open Go
open Go.Vm hiding Ex
open Go.Vm.L Go.ChangeShapes Go.OpenShut Go.WideShapes Go.ChangeAt Go.RowKit
set_option maxRecDepth 100000
theorem langOuter_lifted (os : Os) (started : os.Started) (H : Type) (enc : TypeId × Value → H) :
  ReturnsInHanded {} Tryz.checked os 10 .any (fun w args => (Rows.langOuterSpec.pre enc Tryz.prog Tryz.f10 [] false w args ∧ laidMetH Tryz.prog laidAll w) ∧ sizedMet enc Tryz.prog Tryz.f10 (OpenSpec.ofChange Rows.langOuterSpec) false w args)
   (Rows.langOuterSpec.post enc Tryz.prog Tryz.f10 false true false false) := by
 refine returnsInHanded_of_shape_and (C := Tryz.checked) (X := fun w _ => laidMetH Tryz.prog laidAll w) (fun _ _ _ hh h => h.of_heap hh) tOwn started (by kernel_rfl) Tryz.func10
  (ChangeSpec.witness_shaped (enc := enc) (C := Tryz.checked) (os := os) (X := fun w _ => laidMetH Tryz.prog laidAll w) false (wStart os) #[.agg #[.slice none 0 0, .int .i64 0], .int .u16 0] 8 (start_os os) (start_shaped os _) (by kernel_rfl) (by kernel_rfl) (by kernel_rfl) (start_met os _)) ?_
 intro W base args ds gs before hval0 hW hL hS
 have hval : ∀ (j : Nat) t v, Tryz.f10.params[j]? = some t → args[j]? = some v → Value.okWide Tryz.prog W .any base t v := hval0
 have hW' := hW
 have hlt := hW.lt
 obtain ⟨p, q, hA0, hV, rfl, hfz, hnd⟩ := hW
 have hA : DataW.TrodAll enc Tryz.prog W 0 (fun _ => true) true Tryz.f10.params.toList args.toList ds p := hA0
 rw [Tryz.params10] at hA hval
 obtain ⟨v0, v1, d0, d1, p0, p1, rfl, rfl, rfl, h0, h1⟩ := trodAll_two hA
 obtain ⟨rfl, rfl⟩ := trodVars_none hV
 obtain ⟨P, hP, hrep⟩ := open_prog (hval 0 24 v0 rfl rfl) h0
 obtain ⟨n, rfl, rfl, rfl, wn⟩ := open_int tiOk48.und (hval 1 48 v1 rfl rfl) h1
 have hn : 0 ≤ n ∧ n < 65536 := by
  have h := wn
  simp only [Lit.wf, Bool.and_eq_true, decide_eq_true_eq] at h
  have e1 : IntKind.u16.min = 0 := rfl
  have e2 : IntKind.u16.max = 65535 := rfl
  omega
 refine (call_true (louter_use hP hn) hL hS (Reps.cons hrep (Reps.cons (.int .u16 n) (Reps.nil _)))).mono fun e W' ⟨he, hsame, hk⟩ => ?_
 subst he
 exact ⟨_, rfl, post_of_old (pv := []) hW' (fun _ _ _ => trodAll_mk1 (shut_bool tiOk4.und _)) (fun sp hsp => trodAll_stays laidOut' hsame _ _ _ _ (by kernel_rfl) hA0 (fun x hx => hlt x (by simpa using hx)) (fun x hx => hsp x (by simpa using hx))) (fun _ _ => rfl) rfl (hk _) hsame (ok_one (by kernel_rfl) rfl (okWide_bool_mk tiOk4.und _))⟩
theorem langOuter_holds : Rows.LangOuterSaid :=
 OpenClaim.holds_of_wide 10 Tryz.f10 rfl rfl rfl rfl rfl rfl rfl ⟨rfl, rfl, rfl, rfl, rfl⟩ rfl rfl rfl rfl rfl jf10_name Tryz.func10 jf10
  jf10_inst jf10_wrap (fun os started H enc _ => langOuter_lifted os started H enc)
theorem langOuter_proved : Rows.LangOuterCardSaid :=
 Claim7.holds_tied_plain_at .later [] [.data, .data, .data, .data, .sentinel, .sentinel, .listed, .data, .widerDeep, .data, .mapped, .pinned] true (true, "cd97829217f7168146ea04598df032a5c6efc60a1b4e3f11a61465349e44886a") true
  langOuter_holds (fun _ h => by cases h) jf10_wft (fun _ h => by cases h) langOuter_row_tie rfl ⟨rfl, rfl⟩ jf_main rfl
  (fun f fn hf hfn => by
   obtain rfl : f = 10 := Option.some.inj (jf10_name.symm.trans hf) |>.symm
   obtain rfl : fn = Tryz.f10 := (Option.some.inj (Tryz.func10.symm.trans hfn)).symm
   exact ⟨jf_looks, fun j t ht => by
    rw [Tryz.params10] at ht
    have hm : t ∈ [24, 48] := by simpa using Array.mem_of_getElem? ht
    simp only [List.mem_cons, List.mem_nil_iff, or_false] at hm
    rcases hm with rfl | rfl
    ·exact jf10_stand
    ·exact jf10_stand3⟩)
  jf10_goes
end Go.Proofs.YtjfnelfdlemfgaaGreatDoor
