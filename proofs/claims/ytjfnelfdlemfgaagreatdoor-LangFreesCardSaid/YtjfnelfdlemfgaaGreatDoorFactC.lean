/-
Closed facts that the statement LangFrees asks for. No conditions.
-/
import Derived.Test.YtjfnelfdlemfgaaGreatDoorFactA
set_option linter.all false
set_option maxHeartbeats 4000000
namespace Go.Proofs.YtjfnelfdlemfgaaGreatDoor
open Go
set_option maxRecDepth 100000
theorem jf4_wf : Rows.langFreesRow.wf (OpenSpec.ofChange Rows.langFreesSpec) = true := by kernel_rfl
theorem jf4_wft : Rows.langFreesRow.wfByText (OpenSpec.ofChange Rows.langFreesSpec) = true := by kernel_rfl
theorem jf4_named : namedTie Tryz.prog Rows.langFreesRow.named Rows.langFreesSpec.vars = true := by kernel_rfl
theorem jf4_inPlace : (Rows.langFreesRow.inPlace == Tryz.prog.inPlace 4) = true := by kernel_rfl
theorem jf4_unfollowed : (Rows.langFreesRow.unfollowed == Tryz.prog.unfollowed 4) = true := by kernel_rfl
theorem jf4_recurses : (Rows.langFreesRow.recurses == Tryz.prog.recurses 4) = true := by kernel_rfl
theorem jf4_vars : (Rows.langFreesRow.named == Tryz.prog.varsNamed 4) = true := by kernel_rfl
theorem jf4_res : (Tryz.f4.resultTypes.all fun t => Tryz.prog.readableRec t && decide (t < Tryz.prog.types.size)) = true := by kernel_rfl
theorem jf4_name : Tryz.prog.funcNamed "sheafworks/sheafworkslaw09.LangFrees" = some 4 := by kernel_rfl
theorem jf4_inst : Tryz.f4.isInstance Tryz.prog Rows.langFreesRow.origin Rows.langFreesRow.targs := of_decide_eq_true (by kernel_rfl)
theorem jf4_wrap : Tryz.f4.isWrapper Tryz.prog Rows.langFreesRow.wrapper Rows.langFreesRow.mainSum := by unfold Func.isWrapper; first | (rw [if_pos (by decide +kernel)]; kernel_rfl) | (rw [if_neg (by decide +kernel)]; exact ⟨rfl, rfl⟩)
theorem jf4_goes : false = Rows.langFreesRow.goesBy Tryz.prog := by kernel_rfl
theorem jf4_stand : Tryz.prog.wantsStandIn 24 = false := by kernel_rfl
theorem jf4_stand3 : Tryz.prog.wantsStandIn 3 = false := by kernel_rfl
theorem jf4 : joinedFacts Tryz.prog 4 Tryz.f4 Rows.langFreesSpec Rows.langFreesRow = true :=
 joinedFacts_of jf4_wf jf_laidOut jf_mapsRowed (by kernel_rfl) jf4_named rfl jf_stops rfl jf_stopKnobs jf4_inPlace jf4_unfollowed jf4_recurses jf4_vars (by kernel_rfl) (by kernel_rfl) (by kernel_rfl) (by kernel_rfl) (by kernel_rfl)
  rfl jf4_res (by kernel_rfl) (by kernel_rfl) (by rw [jf_plainKeys]; rfl) rfl jf_stopsHeard jf_mayEnter jf_lifted jf_make rfl rfl (by kernel_rfl) (by kernel_rfl) (by kernel_rfl)
end Go.Proofs.YtjfnelfdlemfgaaGreatDoor
