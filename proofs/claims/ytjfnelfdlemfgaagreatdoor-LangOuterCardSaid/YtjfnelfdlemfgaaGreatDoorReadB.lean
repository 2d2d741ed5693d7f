/-
What lang.Read returns for three texts. No conditions.
-/
import Derived.Test.YtjfnelfdlemfgaaGreatDoorFields
set_option linter.all false
set_option maxHeartbeats 4000000
namespace Go.Vm.L
open Go Go.Proofs Go.Vm
set_option maxRecDepth 100000
def rt5 : List UInt8 := [102, 117, 110, 32, 102, 32, 120, 48, 32, 61, 32, 126, 50, 49, 52, 55, 52, 56, 51, 54, 52, 56, 32, 109, 97, 105, 110, 32, 102]
def rv5 : AV := .tup [.agg [.slice [.agg [.str [102], .int .i64 (0), .int .i64 (1), .int .i64 (-2147483648), .int .i64 (0), .nils]] .dead, .int .i64 (0)], .int .i64 (0), .int .i64 (0)]
theorem read5_run : (callS ED (sumC kFields) 400 (.fn 27) [.str rt5] S0).map (fun q => q.1.melt q.2) = some (.ret rv5) := by
 kernel_rfl
theorem read5_sound : Sound Tryz.prog ED 27 [.str rt5] (.ret rv5) := sound_at kFields_ok read5_run (by decide +kernel)
def rt6 : List UInt8 := [102, 117, 110, 32, 102, 32, 120, 48, 32, 61, 32, 40, 120, 48, 32, 109, 97, 105, 110, 32, 102]
def rv6 : AV := .tup [.agg [.nils, .int .i64 (0)], .int .i64 (15), .int .i64 (8)]
theorem read6_run : (callS ED (sumC kFields) 400 (.fn 27) [.str rt6] S0).map (fun q => q.1.melt q.2) = some (.ret rv6) := by
 kernel_rfl
theorem read6_sound : Sound Tryz.prog ED 27 [.str rt6] (.ret rv6) := sound_at kFields_ok read6_run (by decide +kernel)
def rt7 : List UInt8 := [102, 117, 110, 32, 102, 32, 120, 48, 32, 61, 32, 120, 48, 32, 45, 32, 40, 120, 48, 32, 45, 32, 49, 41, 10, 109, 97, 105, 110, 32, 102, 10]
def rv7 : AV := .tup [.agg [.slice [.agg [.str [102], .int .i64 (0), .int .i64 (15), .int .i64 (1), .int .i64 (0), .slice [.agg [.int .i64 (0), .int .i64 (0), .int .i64 (0), .nils], .agg [.int .i64 (15), .int .i64 (1), .int .i64 (0), .slice [.agg [.int .i64 (0), .int .i64 (0), .int .i64 (0), .nils], .agg [.int .i64 (1), .int .i64 (1), .int .i64 (0), .nils]] .dead]] .dead]] .dead, .int .i64 (0)], .int .i64 (0), .int .i64 (0)]
theorem read7_run : (callS ED (sumC kFields) 400 (.fn 27) [.str rt7] S0).map (fun q => q.1.melt q.2) = some (.ret rv7) := by
 kernel_rfl
theorem read7_sound : Sound Tryz.prog ED 27 [.str rt7] (.ret rv7) := sound_at kFields_ok read7_run (by decide +kernel)
end Go.Vm.L
