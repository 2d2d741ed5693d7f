/-
Closed facts that the statement LangOuter asks for. No conditions.
-/
import Derived.Test.YtjfnelfdlemfgaaGreatDoorFactA
set_option linter.all false
set_option maxHeartbeats 4000000
namespace Go.Proofs.YtjfnelfdlemfgaaGreatDoor
open Go
set_option maxRecDepth 100000
theorem jf10_wf : Rows.langOuterRow.wf (OpenSpec.ofChange Rows.langOuterSpec) = true := by kernel_rfl
theorem jf10_wft : Rows.langOuterRow.wfByText (OpenSpec.ofChange Rows.langOuterSpec) = true := by kernel_rfl
theorem jf10_named : namedTie Tryz.prog Rows.langOuterRow.named Rows.langOuterSpec.vars = true := by kernel_rfl
theorem jf10_inPlace : (Rows.langOuterRow.inPlace == Tryz.prog.inPlace 10) = true := by kernel_rfl
theorem jf10_unfollowed : (Rows.langOuterRow.unfollowed == Tryz.prog.unfollowed 10) = true := by kernel_rfl
theorem jf10_recurses : (Rows.langOuterRow.recurses == Tryz.prog.recurses 10) = true := by kernel_rfl
theorem jf10_vars : (Rows.langOuterRow.named == Tryz.prog.varsNamed 10) = true := by kernel_rfl
theorem jf10_res : (Tryz.f10.resultTypes.all fun t => Tryz.prog.readableRec t && decide (t < Tryz.prog.types.size)) = true := by kernel_rfl
theorem jf10_name : Tryz.prog.funcNamed "sheafworks/sheafworkslaw09.LangOuter" = some 10 := by kernel_rfl
theorem jf10_inst : Tryz.f10.isInstance Tryz.prog Rows.langOuterRow.origin Rows.langOuterRow.targs := of_decide_eq_true (by kernel_rfl)
theorem jf10_wrap : Tryz.f10.isWrapper Tryz.prog Rows.langOuterRow.wrapper Rows.langOuterRow.mainSum := by unfold Func.isWrapper; first | (rw [if_pos (by decide +kernel)]; kernel_rfl) | (rw [if_neg (by decide +kernel)]; exact ⟨rfl, rfl⟩)
theorem jf10_goes : false = Rows.langOuterRow.goesBy Tryz.prog := by kernel_rfl
theorem jf10_stand : Tryz.prog.wantsStandIn 24 = false := by kernel_rfl
theorem jf10_stand3 : Tryz.prog.wantsStandIn 48 = false := by kernel_rfl
theorem jf10 : joinedFacts Tryz.prog 10 Tryz.f10 Rows.langOuterSpec Rows.langOuterRow = true :=
 joinedFacts_of jf10_wf jf_laidOut jf_mapsRowed (by kernel_rfl) jf10_named rfl jf_stops rfl jf_stopKnobs jf10_inPlace jf10_unfollowed jf10_recurses jf10_vars (by kernel_rfl) (by kernel_rfl) (by kernel_rfl) (by kernel_rfl) (by kernel_rfl)
  rfl jf10_res (by kernel_rfl) (by kernel_rfl) (by rw [jf_plainKeys]; rfl) rfl jf_stopsHeard jf_mayEnter jf_lifted jf_make rfl rfl (by kernel_rfl) (by kernel_rfl) (by kernel_rfl)
end Go.Proofs.YtjfnelfdlemfgaaGreatDoor
