/-
What lang.Read returns for four texts. No conditions.
-/
import Derived.Test.YtjfnelfdlemfgaaGreatDoorFields
set_option linter.all false
set_option maxHeartbeats 4000000
namespace Go.Vm.L
open Go Go.Proofs Go.Vm
set_option maxRecDepth 100000
def rt8 : List UInt8 := [102, 117, 110, 32, 102, 32, 120, 48, 32, 61, 32, 40, 102, 41, 40, 120, 48, 41, 10, 109, 97, 105, 110, 32, 102, 10]
def rv8 : AV := .tup [.agg [.slice [.agg [.str [102], .int .i64 (0), .int .i64 (5), .int .i64 (0), .int .i64 (0), .slice [.agg [.int .i64 (6), .int .i64 (0), .int .i64 (0), .nils], .agg [.int .i64 (0), .int .i64 (0), .int .i64 (0), .nils]] .dead]] .dead, .int .i64 (0)], .int .i64 (0), .int .i64 (0)]
theorem read8_run : (callS ED (sumC kFields) 400 (.fn 27) [.str rt8] S0).map (fun q => q.1.melt q.2) = some (.ret rv8) := by
 kernel_rfl
theorem read8_sound : Sound Tryz.prog ED 27 [.str rt8] (.ret rv8) := sound_at kFields_ok read8_run (by decide +kernel)
def rt9 : List UInt8 := [102, 117, 110, 32, 102, 32, 120, 48, 32, 61, 32, 40, 102, 110, 32, 120, 49, 32, 61, 62, 32, 120, 49, 41, 40, 120, 48, 41, 10, 109, 97, 105, 110, 32, 102, 10]
def rv9 : AV := .tup [.agg [.slice [.agg [.str [102], .int .i64 (0), .int .i64 (5), .int .i64 (0), .int .i64 (0), .slice [.agg [.int .i64 (4), .int .i64 (1), .int .i64 (0), .slice [.agg [.int .i64 (0), .int .i64 (1), .int .i64 (0), .nils]] .dead], .agg [.int .i64 (0), .int .i64 (0), .int .i64 (0), .nils]] .dead]] .dead, .int .i64 (0)], .int .i64 (0), .int .i64 (0)]
theorem read9_run : (callS ED (sumC kFields) 400 (.fn 27) [.str rt9] S0).map (fun q => q.1.melt q.2) = some (.ret rv9) := by
 kernel_rfl
theorem read9_sound : Sound Tryz.prog ED 27 [.str rt9] (.ret rv9) := sound_at kFields_ok read9_run (by decide +kernel)
def rt10 : List UInt8 := [102, 117, 110, 32, 102, 32, 120, 48, 32, 61, 32, 91, 120, 49, 32, 105, 110, 32, 120, 48, 32, 105, 102, 32, 120, 49, 32, 60, 32, 51, 93, 10, 109, 97, 105, 110, 32, 102, 10]
def rv10 : AV := .tup [.agg [.slice [.agg [.str [102], .int .i64 (0), .int .i64 (18), .int .i64 (1), .int .i64 (0), .slice [.agg [.int .i64 (0), .int .i64 (0), .int .i64 (0), .nils], .agg [.int .i64 (15), .int .i64 (5), .int .i64 (0), .slice [.agg [.int .i64 (0), .int .i64 (1), .int .i64 (0), .nils], .agg [.int .i64 (1), .int .i64 (3), .int .i64 (0), .nils]] .dead]] .dead]] .dead, .int .i64 (0)], .int .i64 (0), .int .i64 (0)]
theorem read10_run : (callS ED (sumC kFields) 400 (.fn 27) [.str rt10] S0).map (fun q => q.1.melt q.2) = some (.ret rv10) := by
 kernel_rfl
theorem read10_sound : Sound Tryz.prog ED 27 [.str rt10] (.ret rv10) := sound_at kFields_ok read10_run (by decide +kernel)
def rt12 : List UInt8 := [102, 117, 110, 32, 102, 32, 120, 48, 32, 61, 32, 120, 48, 32, 43, 32, 109, 97, 105, 110, 32, 102]
def rv12 : AV := .tup [.agg [.nils, .int .i64 (0)], .int .i64 (16), .int .i64 (8)]
theorem read12_run : (callS ED (sumC kFields) 400 (.fn 27) [.str rt12] S0).map (fun q => q.1.melt q.2) = some (.ret rv12) := by
 kernel_rfl
theorem read12_sound : Sound Tryz.prog ED 27 [.str rt12] (.ret rv12) := sound_at kFields_ok read12_run (by decide +kernel)
end Go.Vm.L
