/-
The regions that draw. No conditions.
-/
import Derived.Test.YtjfnelfdlemfgaaGreatDoorNodeA
import Derived.KernelRfl
set_option linter.all false
set_option maxHeartbeats 4000000
namespace Go.Vm.L
open Go Go.Proofs Go.Vm
set_option maxRecDepth 100000
theorem dr3_0 {X : Ctx} {L : Vm.Loc} {S : St} : evalC X (.region (drA Tryz.f3 0).1 (drA Tryz.f3 0).2 true) L S =
  outC (runC ⟨X.E, X.call, X.vars, X.nt, (drA Tryz.f3 0).2.toList, [(2, 1), (8, 7)]⟩ [0, 1, 2, 3, 4, 5, 6, 7, 8, 9, 10, 11, 12, 13, 14, 15, 16, 17, 18, 19, 20, 21, 22, 23, 24, 25, 26, 27, 28, 29, 30, 31, 32, 33, 34, 35] [] L.clear S) := evalC_drawS (by kernel_rfl)
theorem dr9_0 {X : Ctx} {L : Vm.Loc} {S : St} : evalC X (.region (drA Tryz.f9 0).1 (drA Tryz.f9 0).2 true) L S =
  outC (runC ⟨X.E, X.call, X.vars, X.nt, (drA Tryz.f9 0).2.toList, [(8, 10)]⟩ [0, 1, 2, 3, 4, 5, 6, 7, 8, 9, 10, 11, 12, 13, 14, 15, 16, 17] [] L.clear S) := evalC_drawS (by kernel_rfl)
theorem dr17_0 {X : Ctx} {L : Vm.Loc} {S : St} : evalC X (.region (drA Tryz.f17 0).1 (drA Tryz.f17 0).2 true) L S =
  outC (runC ⟨X.E, X.call, X.vars, X.nt, (drA Tryz.f17 0).2.toList, [(2, 7), (2, 11)]⟩ [0, 1, 2, 3, 4, 5, 6, 7, 8, 9, 10, 11, 12, 13, 14, 15] [] L.clear S) := evalC_drawS (by kernel_rfl)
theorem dr23_0 {X : Ctx} {L : Vm.Loc} {S : St} : evalC X (.region (drA Tryz.f23 0).1 (drA Tryz.f23 0).2 true) L S =
  outC (runC ⟨X.E, X.call, X.vars, X.nt, (drA Tryz.f23 0).2.toList, []⟩ [0, 1, 2, 3, 4, 5, 6, 7, 8] [] L.clear S) := evalC_drawS (by kernel_rfl)
theorem dr37_0 {X : Ctx} {L : Vm.Loc} {S : St} : evalC X (.region (drA Tryz.f37 0).1 (drA Tryz.f37 0).2 true) L S =
  outC (runC ⟨X.E, X.call, X.vars, X.nt, (drA Tryz.f37 0).2.toList, []⟩ [0, 1, 2, 3, 4, 5, 6, 7, 8, 9, 10, 11, 12, 13, 14] [] L.clear S) := evalC_drawS (by kernel_rfl)
theorem dr54_0 {X : Ctx} {L : Vm.Loc} {S : St} : evalC X (.region (drA Tryz.f54 0).1 (drA Tryz.f54 0).2 true) L S =
  outC (runC ⟨X.E, X.call, X.vars, X.nt, (drA Tryz.f54 0).2.toList, [(3, 16), (3, 26), (7, 16), (7, 26), (19, 16), (21, 16), (25, 16)]⟩ [0, 1, 2, 3, 4, 5, 6, 7, 8, 9, 10, 11, 12, 13, 14, 15, 16, 17, 18, 19, 20, 21, 22, 23, 24, 25, 26, 27, 28, 29] [] L.clear S) := evalC_drawS (by kernel_rfl)
theorem dr95_0 {X : Ctx} {L : Vm.Loc} {S : St} : evalC X (.region (drA Tryz.f95 0).1 (drA Tryz.f95 0).2 true) L S =
  outC (runC ⟨X.E, X.call, X.vars, X.nt, (drA Tryz.f95 0).2.toList, []⟩ [0, 1, 2, 3, 4, 5, 6, 7, 8] [] L.clear S) := evalC_drawS (by kernel_rfl)
theorem dr96_0 {X : Ctx} {L : Vm.Loc} {S : St} : evalC X (.region (drA Tryz.f96 0).1 (drA Tryz.f96 0).2 true) L S =
  outC (runC ⟨X.E, X.call, X.vars, X.nt, (drA Tryz.f96 0).2.toList, [(1, 9), (1, 10), (4, 9), (4, 10)]⟩ [0, 1, 2, 3, 4, 5, 6, 7, 8, 9, 10, 11, 12, 13, 14] [] L.clear S) := evalC_drawS (by kernel_rfl)
theorem dr100_0 {X : Ctx} {L : Vm.Loc} {S : St} : evalC X (.region (drA Tryz.f100 0).1 (drA Tryz.f100 0).2 true) L S =
  outC (runC ⟨X.E, X.call, X.vars, X.nt, (drA Tryz.f100 0).2.toList, [(3, 1), (5, 1)]⟩ [0, 1, 2, 3, 4, 5, 6, 7, 8, 9] [] L.clear S) := evalC_drawS (by kernel_rfl)
theorem dr100_1 {X : Ctx} {L : Vm.Loc} {S : St} : evalC X (.region (drA Tryz.f100 1).1 (drA Tryz.f100 1).2 true) L S =
  outC (runC ⟨X.E, X.call, X.vars, X.nt, (drA Tryz.f100 1).2.toList, [(5, 2), (7, 2), (9, 2), (13, 2), (13, 10), (15, 2), (15, 10), (17, 2), (17, 10)]⟩ [0, 1, 2, 3, 4, 5, 6, 7, 8, 9, 10, 11, 12, 13, 14, 15, 16, 17, 18, 19, 20] [] L.clear S) := evalC_drawS (by kernel_rfl)
theorem dr100_2 {X : Ctx} {L : Vm.Loc} {S : St} : evalC X (.region (drA Tryz.f100 2).1 (drA Tryz.f100 2).2 true) L S =
  outC (runC ⟨X.E, X.call, X.vars, X.nt, (drA Tryz.f100 2).2.toList, [(5, 2), (7, 2), (9, 2)]⟩ [0, 1, 2, 3, 4, 5, 6, 7, 8, 9, 10, 11, 12] [] L.clear S) := evalC_drawS (by kernel_rfl)
theorem dr100_3 {X : Ctx} {L : Vm.Loc} {S : St} : evalC X (.region (drA Tryz.f100 3).1 (drA Tryz.f100 3).2 true) L S =
  outC (runC ⟨X.E, X.call, X.vars, X.nt, (drA Tryz.f100 3).2.toList, []⟩ [0, 1, 2, 3, 4, 5, 6] [] L.clear S) := evalC_drawS (by kernel_rfl)
theorem dr100_4 {X : Ctx} {L : Vm.Loc} {S : St} : evalC X (.region (drA Tryz.f100 4).1 (drA Tryz.f100 4).2 true) L S =
  outC (runC ⟨X.E, X.call, X.vars, X.nt, (drA Tryz.f100 4).2.toList, []⟩ [0, 1, 2, 3, 4, 5, 6, 7, 8, 9, 10] [] L.clear S) := evalC_drawS (by kernel_rfl)
theorem dr100_5 {X : Ctx} {L : Vm.Loc} {S : St} : evalC X (.region (drA Tryz.f100 5).1 (drA Tryz.f100 5).2 true) L S =
  outC (runC ⟨X.E, X.call, X.vars, X.nt, (drA Tryz.f100 5).2.toList, [(1, 13), (3, 13), (6, 13)]⟩ [0, 1, 2, 3, 4, 5, 6, 7, 8, 9, 10, 11, 12, 13, 14, 15, 16] [] L.clear S) := evalC_drawS (by kernel_rfl)
theorem dr100_6 {X : Ctx} {L : Vm.Loc} {S : St} : evalC X (.region (drA Tryz.f100 6).1 (drA Tryz.f100 6).2 true) L S =
  outC (runC ⟨X.E, X.call, X.vars, X.nt, (drA Tryz.f100 6).2.toList, [(9, 5), (13, 5), (13, 10), (15, 5), (15, 10), (17, 5), (17, 10), (22, 5), (22, 10), (22, 18), (26, 5), (26, 10), (26, 18), (26, 23), (28, 5), (28, 10), (28, 18), (28, 23), (30, 5), (30, 10), (30, 18), (30, 23)]⟩ [0, 1, 2, 3, 4, 5, 6, 7, 8, 9, 10, 11, 12, 13, 14, 15, 16, 17, 18, 19, 20, 21, 22, 23, 24, 25, 26, 27, 28, 29, 30, 31, 32, 33] [] L.clear S) := evalC_drawS (by kernel_rfl)
theorem dr100_7 {X : Ctx} {L : Vm.Loc} {S : St} : evalC X (.region (drA Tryz.f100 7).1 (drA Tryz.f100 7).2 true) L S =
  outC (runC ⟨X.E, X.call, X.vars, X.nt, (drA Tryz.f100 7).2.toList, [(8, 5), (10, 5), (12, 5), (16, 5), (16, 13), (18, 5), (18, 13), (20, 5), (20, 13)]⟩ [0, 1, 2, 3, 4, 5, 6, 7, 8, 9, 10, 11, 12, 13, 14, 15, 16, 17, 18, 19, 20, 21, 22, 23] [] L.clear S) := evalC_drawS (by kernel_rfl)
theorem dr100_8 {X : Ctx} {L : Vm.Loc} {S : St} : evalC X (.region (drA Tryz.f100 8).1 (drA Tryz.f100 8).2 true) L S =
  outC (runC ⟨X.E, X.call, X.vars, X.nt, (drA Tryz.f100 8).2.toList, [(0, 7), (2, 7), (4, 7), (12, 7), (12, 8), (12, 10), (12, 24), (12, 26), (14, 24), (14, 26), (17, 7), (17, 8), (17, 10), (17, 24), (19, 7), (19, 8), (19, 10), (19, 24), (21, 7), (21, 8), (21, 10), (21, 24), (23, 7), (23, 8), (23, 10)]⟩ [0, 1, 2, 3, 4, 5, 6, 7, 8, 9, 10, 11, 12, 13, 14, 15, 16, 17, 18, 19, 20, 21, 22, 23, 24, 25, 26, 27, 28] [] L.clear S) := evalC_drawS (by kernel_rfl)
theorem dr100_9 {X : Ctx} {L : Vm.Loc} {S : St} : evalC X (.region (drA Tryz.f100 9).1 (drA Tryz.f100 9).2 true) L S =
  outC (runC ⟨X.E, X.call, X.vars, X.nt, (drA Tryz.f100 9).2.toList, [(9, 5), (13, 5), (13, 10), (15, 5), (15, 10), (17, 5), (17, 10)]⟩ [0, 1, 2, 3, 4, 5, 6, 7, 8, 9, 10, 11, 12, 13, 14, 15, 16, 17, 18, 19, 20, 21] [] L.clear S) := evalC_drawS (by kernel_rfl)
theorem dr100_10 {X : Ctx} {L : Vm.Loc} {S : St} : evalC X (.region (drA Tryz.f100 10).1 (drA Tryz.f100 10).2 true) L S =
  outC (runC ⟨X.E, X.call, X.vars, X.nt, (drA Tryz.f100 10).2.toList, [(5, 2), (7, 2), (9, 2), (13, 2), (13, 10), (15, 2), (15, 10), (17, 2), (17, 10)]⟩ [0, 1, 2, 3, 4, 5, 6, 7, 8, 9, 10, 11, 12, 13, 14, 15, 16, 17, 18, 19, 20, 21] [] L.clear S) := evalC_drawS (by kernel_rfl)
theorem dr100_11 {X : Ctx} {L : Vm.Loc} {S : St} : evalC X (.region (drA Tryz.f100 11).1 (drA Tryz.f100 11).2 true) L S =
  outC (runC ⟨X.E, X.call, X.vars, X.nt, (drA Tryz.f100 11).2.toList, [(7, 5), (9, 5), (11, 5)]⟩ [0, 1, 2, 3, 4, 5, 6, 7, 8, 9, 10, 11, 12, 13, 14, 15] [] L.clear S) := evalC_drawS (by kernel_rfl)
theorem dr100_12 {X : Ctx} {L : Vm.Loc} {S : St} : evalC X (.region (drA Tryz.f100 12).1 (drA Tryz.f100 12).2 true) L S =
  outC (runC ⟨X.E, X.call, X.vars, X.nt, (drA Tryz.f100 12).2.toList, [(4, 2), (4, 14), (6, 14), (9, 2), (11, 2), (13, 2)]⟩ [0, 1, 2, 3, 4, 5, 6, 7, 8, 9, 10, 11, 12, 13, 14, 15, 16, 17] [] L.clear S) := evalC_drawS (by kernel_rfl)
theorem dr139_0 {X : Ctx} {L : Vm.Loc} {S : St} : evalC X (.region (drA Tryz.f139 0).1 (drA Tryz.f139 0).2 true) L S =
  outC (runC ⟨X.E, X.call, X.vars, X.nt, (drA Tryz.f139 0).2.toList, [(0, 8), (1, 8)]⟩ [0, 1, 2, 3, 4, 5, 6, 7, 8, 9] [] L.clear S) := evalC_drawS (by kernel_rfl)
theorem dr144_0 {X : Ctx} {L : Vm.Loc} {S : St} : evalC X (.region (drA Tryz.f144 0).1 (drA Tryz.f144 0).2 true) L S =
  outC (runC ⟨X.E, X.call, X.vars, X.nt, (drA Tryz.f144 0).2.toList, [(2, 0)]⟩ [0, 1, 2, 3, 4, 5] [] L.clear S) := evalC_drawS (by kernel_rfl)
theorem dr145_0 {X : Ctx} {L : Vm.Loc} {S : St} : evalC X (.region (drA Tryz.f145 0).1 (drA Tryz.f145 0).2 true) L S =
  outC (runC ⟨X.E, X.call, X.vars, X.nt, (drA Tryz.f145 0).2.toList, []⟩ [0, 1, 2, 3, 4, 5, 6, 7, 8] [] L.clear S) := evalC_drawS (by kernel_rfl)
theorem dr291_0 {X : Ctx} {L : Vm.Loc} {S : St} : evalC X (.region (drA Tryz.f291 0).1 (drA Tryz.f291 0).2 true) L S =
  outC (runC ⟨X.E, X.call, X.vars, X.nt, (drA Tryz.f291 0).2.toList, [(8, 3), (13, 3)]⟩ [0, 1, 2, 3, 4, 5, 6, 7, 8, 9, 10, 11, 12, 13, 14, 15] [] L.clear S) := evalC_drawS (by kernel_rfl)
theorem dr291_1 {X : Ctx} {L : Vm.Loc} {S : St} : evalC X (.region (drA Tryz.f291 1).1 (drA Tryz.f291 1).2 true) L S =
  outC (runC ⟨X.E, X.call, X.vars, X.nt, (drA Tryz.f291 1).2.toList, [(8, 3)]⟩ [0, 1, 2, 3, 4, 5, 6, 7, 8, 9, 10] [] L.clear S) := evalC_drawS (by kernel_rfl)
theorem dr291_2 {X : Ctx} {L : Vm.Loc} {S : St} : evalC X (.region (drA Tryz.f291 2).1 (drA Tryz.f291 2).2 true) L S =
  outC (runC ⟨X.E, X.call, X.vars, X.nt, (drA Tryz.f291 2).2.toList, []⟩ [0, 1, 2, 3, 4, 5, 6, 7, 8, 9, 10, 11, 12, 13, 14, 15] [] L.clear S) := evalC_drawS (by kernel_rfl)
theorem dr291_3 {X : Ctx} {L : Vm.Loc} {S : St} : evalC X (.region (drA Tryz.f291 3).1 (drA Tryz.f291 3).2 true) L S =
  outC (runC ⟨X.E, X.call, X.vars, X.nt, (drA Tryz.f291 3).2.toList, [(2, 8), (2, 19), (13, 8), (13, 19), (18, 8), (24, 8), (24, 19)]⟩ [0, 1, 2, 3, 4, 5, 6, 7, 8, 9, 10, 11, 12, 13, 14, 15, 16, 17, 18, 19, 20, 21, 22, 23, 24, 25, 26] [] L.clear S) := evalC_drawS (by kernel_rfl)
theorem dr291_4 {X : Ctx} {L : Vm.Loc} {S : St} : evalC X (.region (drA Tryz.f291 4).1 (drA Tryz.f291 4).2 true) L S =
  outC (runC ⟨X.E, X.call, X.vars, X.nt, (drA Tryz.f291 4).2.toList, []⟩ [0, 1, 2, 3, 4, 5, 6, 7, 8, 9, 10, 11, 12, 13, 14] [] L.clear S) := evalC_drawS (by kernel_rfl)
theorem dr291_5 {X : Ctx} {L : Vm.Loc} {S : St} : evalC X (.region (drA Tryz.f291 5).1 (drA Tryz.f291 5).2 true) L S =
  outC (runC ⟨X.E, X.call, X.vars, X.nt, (drA Tryz.f291 5).2.toList, [(2, 8), (13, 8)]⟩ [0, 1, 2, 3, 4, 5, 6, 7, 8, 9, 10, 11, 12, 13, 14, 15, 16] [] L.clear S) := evalC_drawS (by kernel_rfl)
theorem dr291_6 {X : Ctx} {L : Vm.Loc} {S : St} : evalC X (.region (drA Tryz.f291 6).1 (drA Tryz.f291 6).2 true) L S =
  outC (runC ⟨X.E, X.call, X.vars, X.nt, (drA Tryz.f291 6).2.toList, [(8, 3), (13, 3)]⟩ [0, 1, 2, 3, 4, 5, 6, 7, 8, 9, 10, 11, 12, 13, 14, 15, 16] [] L.clear S) := evalC_drawS (by kernel_rfl)
theorem dr291_7 {X : Ctx} {L : Vm.Loc} {S : St} : evalC X (.region (drA Tryz.f291 7).1 (drA Tryz.f291 7).2 true) L S =
  outC (runC ⟨X.E, X.call, X.vars, X.nt, (drA Tryz.f291 7).2.toList, [(5, 1)]⟩ [0, 1, 2, 3, 4, 5, 6, 7, 8] [] L.clear S) := evalC_drawS (by kernel_rfl)
theorem dr291_8 {X : Ctx} {L : Vm.Loc} {S : St} : evalC X (.region (drA Tryz.f291 8).1 (drA Tryz.f291 8).2 true) L S =
  outC (runC ⟨X.E, X.call, X.vars, X.nt, (drA Tryz.f291 8).2.toList, []⟩ [0, 1, 2, 3, 4, 5, 6, 7, 8, 9, 10] [] L.clear S) := evalC_drawS (by kernel_rfl)
theorem dr291_9 {X : Ctx} {L : Vm.Loc} {S : St} : evalC X (.region (drA Tryz.f291 9).1 (drA Tryz.f291 9).2 true) L S =
  outC (runC ⟨X.E, X.call, X.vars, X.nt, (drA Tryz.f291 9).2.toList, []⟩ [0, 1, 2, 3, 4, 5, 6, 7, 8, 9, 10] [] L.clear S) := evalC_drawS (by kernel_rfl)
theorem dr293_0 {X : Ctx} {L : Vm.Loc} {S : St} : evalC X (.region (drA Tryz.f293 0).1 (drA Tryz.f293 0).2 true) L S =
  outC (runC ⟨X.E, X.call, X.vars, X.nt, (drA Tryz.f293 0).2.toList, []⟩ [0, 1, 2, 3, 4, 5, 6, 7, 8, 9] [] L.clear S) := evalC_drawS (by kernel_rfl)
theorem dr297_0 {X : Ctx} {L : Vm.Loc} {S : St} : evalC X (.region (drA Tryz.f297 0).1 (drA Tryz.f297 0).2 true) L S =
  outC (runC ⟨X.E, X.call, X.vars, X.nt, (drA Tryz.f297 0).2.toList, [(1, 3), (9, 3), (9, 4), (9, 17), (9, 19), (11, 3), (11, 4), (11, 17), (11, 19), (15, 3), (15, 4), (15, 17), (16, 3), (16, 4)]⟩ [0, 1, 2, 3, 4, 5, 6, 7, 8, 9, 10, 11, 12, 13, 14, 15, 16, 17, 18, 19, 20, 21] [] L.clear S) := evalC_drawS (by kernel_rfl)
end Go.Vm.L
