/-
The regions that draw. No conditions.
-/
import Derived.Test.YtjfnelfdlemfgaaGreatDoorNodeA
import Derived.KernelRfl
set_option linter.all false
set_option maxHeartbeats 4000000
namespace Go.Vm.L
open Go Go.Proofs Go.Vm
set_option maxRecDepth 100000
theorem dr9_0 {X : Ctx} {L : Vm.Loc} {S : St} : evalC X (.region (drA Tryz.f9 0).1 (drA Tryz.f9 0).2 true) L S =
  outC (runC ⟨X.E, X.call, X.vars, X.nt, (drA Tryz.f9 0).2.toList, [(8, 10)]⟩ [0, 1, 2, 3, 4, 5, 6, 7, 8, 9, 10, 11, 12, 13, 14, 15, 16, 17] [] L.clear S) := evalC_drawS (by kernel_rfl)
theorem dr10_0 {X : Ctx} {L : Vm.Loc} {S : St} : evalC X (.region (drA Tryz.f10 0).1 (drA Tryz.f10 0).2 true) L S =
  outC (runC ⟨X.E, X.call, X.vars, X.nt, (drA Tryz.f10 0).2.toList, []⟩ [0, 1, 2, 3, 4, 5, 6, 7, 8, 9, 10, 11, 12, 13, 14, 15, 16, 17, 18, 19, 20, 21, 22, 23, 24, 25, 26, 27, 28, 29, 30, 31, 32, 33, 34, 35, 36, 37, 38, 39, 40, 41] [] L.clear S) := evalC_drawS (by kernel_rfl)
theorem dr23_0 {X : Ctx} {L : Vm.Loc} {S : St} : evalC X (.region (drA Tryz.f23 0).1 (drA Tryz.f23 0).2 true) L S =
  outC (runC ⟨X.E, X.call, X.vars, X.nt, (drA Tryz.f23 0).2.toList, []⟩ [0, 1, 2, 3, 4, 5, 6, 7, 8] [] L.clear S) := evalC_drawS (by kernel_rfl)
theorem dr26_0 {X : Ctx} {L : Vm.Loc} {S : St} : evalC X (.region (drA Tryz.f26 0).1 (drA Tryz.f26 0).2 true) L S =
  outC (runC ⟨X.E, X.call, X.vars, X.nt, (drA Tryz.f26 0).2.toList, []⟩ [0, 1, 2, 3, 4, 5, 6, 7, 8] [] L.clear S) := evalC_drawS (by kernel_rfl)
theorem dr37_0 {X : Ctx} {L : Vm.Loc} {S : St} : evalC X (.region (drA Tryz.f37 0).1 (drA Tryz.f37 0).2 true) L S =
  outC (runC ⟨X.E, X.call, X.vars, X.nt, (drA Tryz.f37 0).2.toList, []⟩ [0, 1, 2, 3, 4, 5, 6, 7, 8, 9, 10, 11, 12, 13, 14] [] L.clear S) := evalC_drawS (by kernel_rfl)
theorem dr61_0 {X : Ctx} {L : Vm.Loc} {S : St} : evalC X (.region (drA Tryz.f61 0).1 (drA Tryz.f61 0).2 true) L S =
  outC (runC ⟨X.E, X.call, X.vars, X.nt, (drA Tryz.f61 0).2.toList, [(1, 8), (1, 9), (4, 8), (4, 9)]⟩ [0, 1, 2, 3, 4, 5, 6, 7, 8, 9, 10, 11, 12] [] L.clear S) := evalC_drawS (by kernel_rfl)
theorem dr95_0 {X : Ctx} {L : Vm.Loc} {S : St} : evalC X (.region (drA Tryz.f95 0).1 (drA Tryz.f95 0).2 true) L S =
  outC (runC ⟨X.E, X.call, X.vars, X.nt, (drA Tryz.f95 0).2.toList, []⟩ [0, 1, 2, 3, 4, 5, 6, 7, 8] [] L.clear S) := evalC_drawS (by kernel_rfl)
theorem dr96_0 {X : Ctx} {L : Vm.Loc} {S : St} : evalC X (.region (drA Tryz.f96 0).1 (drA Tryz.f96 0).2 true) L S =
  outC (runC ⟨X.E, X.call, X.vars, X.nt, (drA Tryz.f96 0).2.toList, [(1, 9), (1, 10), (4, 9), (4, 10)]⟩ [0, 1, 2, 3, 4, 5, 6, 7, 8, 9, 10, 11, 12, 13, 14] [] L.clear S) := evalC_drawS (by kernel_rfl)
theorem dr100_1 {X : Ctx} {L : Vm.Loc} {S : St} : evalC X (.region (drA Tryz.f100 1).1 (drA Tryz.f100 1).2 true) L S =
  outC (runC ⟨X.E, X.call, X.vars, X.nt, (drA Tryz.f100 1).2.toList, [(5, 2), (7, 2), (9, 2), (13, 2), (13, 10), (15, 2), (15, 10), (17, 2), (17, 10)]⟩ [0, 1, 2, 3, 4, 5, 6, 7, 8, 9, 10, 11, 12, 13, 14, 15, 16, 17, 18, 19, 20] [] L.clear S) := evalC_drawS (by kernel_rfl)
theorem dr102_0 {X : Ctx} {L : Vm.Loc} {S : St} : evalC X (.region (drA Tryz.f102 0).1 (drA Tryz.f102 0).2 true) L S =
  outC (runC ⟨X.E, X.call, X.vars, X.nt, (drA Tryz.f102 0).2.toList, [(0, 9), (1, 9)]⟩ [0, 1, 2, 3, 4, 5, 6, 7, 8, 9, 10] [] L.clear S) := evalC_drawS (by kernel_rfl)
theorem dr139_0 {X : Ctx} {L : Vm.Loc} {S : St} : evalC X (.region (drA Tryz.f139 0).1 (drA Tryz.f139 0).2 true) L S =
  outC (runC ⟨X.E, X.call, X.vars, X.nt, (drA Tryz.f139 0).2.toList, [(0, 8), (1, 8)]⟩ [0, 1, 2, 3, 4, 5, 6, 7, 8, 9] [] L.clear S) := evalC_drawS (by kernel_rfl)
end Go.Vm.L
