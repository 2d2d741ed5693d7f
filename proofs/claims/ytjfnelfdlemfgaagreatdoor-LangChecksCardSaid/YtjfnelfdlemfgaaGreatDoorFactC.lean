/-
Closed facts that the statement LangChecks asks for. No conditions.
-/
import Derived.Test.YtjfnelfdlemfgaaGreatDoorFactA
set_option linter.all false
set_option maxHeartbeats 4000000
namespace Go.Proofs.YtjfnelfdlemfgaaGreatDoor
open Go
set_option maxRecDepth 100000
theorem jf3_wf : Rows.langChecksRow.wf (OpenSpec.ofChange Rows.langChecksSpec) = true := by kernel_rfl
theorem jf3_wft : Rows.langChecksRow.wfByText (OpenSpec.ofChange Rows.langChecksSpec) = true := by kernel_rfl
theorem jf3_named : namedTie Tryz.prog Rows.langChecksRow.named Rows.langChecksSpec.vars = true := by kernel_rfl
theorem jf3_inPlace : (Rows.langChecksRow.inPlace == Tryz.prog.inPlace 3) = true := by kernel_rfl
theorem jf3_unfollowed : (Rows.langChecksRow.unfollowed == Tryz.prog.unfollowed 3) = true := by kernel_rfl
theorem jf3_recurses : (Rows.langChecksRow.recurses == Tryz.prog.recurses 3) = true := by kernel_rfl
theorem jf3_vars : (Rows.langChecksRow.named == Tryz.prog.varsNamed 3) = true := by kernel_rfl
theorem jf3_res : (Tryz.f3.resultTypes.all fun t => Tryz.prog.readableRec t && decide (t < Tryz.prog.types.size)) = true := by kernel_rfl
theorem jf3_name : Tryz.prog.funcNamed "sheafworks/sheafworkslaw09.LangChecks" = some 3 := by kernel_rfl
theorem jf3_inst : Tryz.f3.isInstance Tryz.prog Rows.langChecksRow.origin Rows.langChecksRow.targs := of_decide_eq_true (by kernel_rfl)
theorem jf3_wrap : Tryz.f3.isWrapper Tryz.prog Rows.langChecksRow.wrapper Rows.langChecksRow.mainSum := by unfold Func.isWrapper; first | (rw [if_pos (by decide +kernel)]; kernel_rfl) | (rw [if_neg (by decide +kernel)]; exact ⟨rfl, rfl⟩)
theorem jf3_goes : false = Rows.langChecksRow.goesBy Tryz.prog := by kernel_rfl
theorem jf3_stand : Tryz.prog.wantsStandIn 24 = false := by kernel_rfl
theorem jf3 : joinedFacts Tryz.prog 3 Tryz.f3 Rows.langChecksSpec Rows.langChecksRow = true :=
 joinedFacts_of jf3_wf jf_laidOut jf_mapsRowed (by kernel_rfl) jf3_named rfl jf_stops rfl jf_stopKnobs jf3_inPlace jf3_unfollowed jf3_recurses jf3_vars (by kernel_rfl) (by kernel_rfl) (by kernel_rfl) (by kernel_rfl) (by kernel_rfl)
  rfl jf3_res (by kernel_rfl) (by kernel_rfl) (by rw [jf_plainKeys]; rfl) rfl jf_stopsHeard jf_mayEnter jf_lifted jf_make rfl rfl (by kernel_rfl) (by kernel_rfl) (by kernel_rfl)
end Go.Proofs.YtjfnelfdlemfgaaGreatDoor
