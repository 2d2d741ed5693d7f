/-
Closed facts that the statement LangNames asks for. No conditions.
-/
import Derived.Test.YtjfnelfdlemfgaaGreatDoorFactA
set_option linter.all false

namespace Go.Proofs.YtjfnelfdlemfgaaGreatDoor
open Go
set_option maxRecDepth 100000
theorem jf6_wf : Rows.langNamesRow.wf (OpenSpec.ofChange Rows.langNamesSpec) = true := by kernel_rfl
theorem jf6_wft : Rows.langNamesRow.wfByText (OpenSpec.ofChange Rows.langNamesSpec) = true := by kernel_rfl
theorem jf6_named : namedTie Tryz.prog Rows.langNamesRow.named Rows.langNamesSpec.vars = true := by kernel_rfl
theorem jf6_inPlace : (Rows.langNamesRow.inPlace == Tryz.prog.inPlace 6) = true := by kernel_rfl
theorem jf6_unfollowed : (Rows.langNamesRow.unfollowed == Tryz.prog.unfollowed 6) = true := by kernel_rfl
theorem jf6_recurses : (Rows.langNamesRow.recurses == Tryz.prog.recurses 6) = true := by kernel_rfl
theorem jf6_vars : (Rows.langNamesRow.named == Tryz.prog.varsNamed 6) = true := by kernel_rfl
theorem jf6_res : (Tryz.f6.resultTypes.all fun t => Tryz.prog.readableRec t && decide (t < Tryz.prog.types.size)) = true := by kernel_rfl
theorem jf6_name : Tryz.prog.funcNamed "sheafworks/sheafworkslaw09.LangNames" = some 6 := by kernel_rfl
theorem jf6_inst : Tryz.f6.isInstance Tryz.prog Rows.langNamesRow.origin Rows.langNamesRow.targs := of_decide_eq_true (by kernel_rfl)
theorem jf6_wrap : Tryz.f6.isWrapper Tryz.prog Rows.langNamesRow.wrapper Rows.langNamesRow.mainSum := by unfold Func.isWrapper; first | (rw [if_pos (by decide +kernel)]; kernel_rfl) | (rw [if_neg (by decide +kernel)]; exact ⟨rfl, rfl⟩)
theorem jf6_goes : false = Rows.langNamesRow.goesBy Tryz.prog := by kernel_rfl
theorem jf6_stand : Tryz.prog.wantsStandIn 4 = false := by kernel_rfl
theorem jf6 : joinedFacts Tryz.prog 6 Tryz.f6 Rows.langNamesSpec Rows.langNamesRow = true :=
  joinedFacts_of jf6_wf jf_laidOut jf_mapsRowed (by kernel_rfl) jf6_named rfl jf_stops rfl jf_stopKnobs jf6_inPlace jf6_unfollowed jf6_recurses jf6_vars (by kernel_rfl) (by kernel_rfl) (by kernel_rfl) (by kernel_rfl) (by kernel_rfl)
    rfl jf6_res (by kernel_rfl) (by kernel_rfl) (by rw [jf_plainKeys]; rfl) rfl jf_stopsHeard jf_mayEnter jf_lifted jf_make rfl rfl (by kernel_rfl) (by kernel_rfl) (by kernel_rfl)
end Go.Proofs.YtjfnelfdlemfgaaGreatDoor
