/-
Closed facts that the statement LangNodes asks for. No conditions.
-/
import Derived.Test.YtjfnelfdlemfgaaGreatDoorFactA
set_option linter.all false

namespace Go.Proofs.YtjfnelfdlemfgaaGreatDoor
open Go
set_option maxRecDepth 100000
theorem jf9_wf : Rows.langNodesRow.wf (OpenSpec.ofChange Rows.langNodesSpec) = true := by kernel_rfl
theorem jf9_wft : Rows.langNodesRow.wfByText (OpenSpec.ofChange Rows.langNodesSpec) = true := by kernel_rfl
theorem jf9_named : namedTie Tryz.prog Rows.langNodesRow.named Rows.langNodesSpec.vars = true := by kernel_rfl
theorem jf9_inPlace : (Rows.langNodesRow.inPlace == Tryz.prog.inPlace 9) = true := by kernel_rfl
theorem jf9_unfollowed : (Rows.langNodesRow.unfollowed == Tryz.prog.unfollowed 9) = true := by kernel_rfl
theorem jf9_recurses : (Rows.langNodesRow.recurses == Tryz.prog.recurses 9) = true := by kernel_rfl
theorem jf9_vars : (Rows.langNodesRow.named == Tryz.prog.varsNamed 9) = true := by kernel_rfl
theorem jf9_res : (Tryz.f9.resultTypes.all fun t => Tryz.prog.readableRec t && decide (t < Tryz.prog.types.size)) = true := by kernel_rfl
theorem jf9_name : Tryz.prog.funcNamed "sheafworks/sheafworkslaw09.LangNodes" = some 9 := by kernel_rfl
theorem jf9_inst : Tryz.f9.isInstance Tryz.prog Rows.langNodesRow.origin Rows.langNodesRow.targs := of_decide_eq_true (by kernel_rfl)
theorem jf9_wrap : Tryz.f9.isWrapper Tryz.prog Rows.langNodesRow.wrapper Rows.langNodesRow.mainSum := by unfold Func.isWrapper; first | (rw [if_pos (by decide +kernel)]; kernel_rfl) | (rw [if_neg (by decide +kernel)]; exact ⟨rfl, rfl⟩)
theorem jf9_goes : false = Rows.langNodesRow.goesBy Tryz.prog := by kernel_rfl
theorem jf9_stand : Tryz.prog.wantsStandIn 24 = false := by kernel_rfl
theorem jf9 : joinedFacts Tryz.prog 9 Tryz.f9 Rows.langNodesSpec Rows.langNodesRow = true :=
  joinedFacts_of jf9_wf jf_laidOut jf_mapsRowed (by kernel_rfl) jf9_named rfl jf_stops rfl jf_stopKnobs jf9_inPlace jf9_unfollowed jf9_recurses jf9_vars (by kernel_rfl) (by kernel_rfl) (by kernel_rfl) (by kernel_rfl) (by kernel_rfl)
    rfl jf9_res (by kernel_rfl) (by kernel_rfl) (by rw [jf_plainKeys]; rfl) rfl jf_stopsHeard jf_mayEnter jf_lifted jf_make rfl rfl (by kernel_rfl) (by kernel_rfl) (by kernel_rfl)
end Go.Proofs.YtjfnelfdlemfgaaGreatDoor
