/-
What lang.Read returns for four texts. No conditions.
-/
import Derived.Test.YtjfnelfdlemfgaaGreatDoorFields
set_option linter.all false
set_option maxHeartbeats 4000000
namespace Go.Vm.L
open Go Go.Proofs Go.Vm
set_option maxRecDepth 100000
def rt1 : List UInt8 := [109, 97, 105, 110, 32, 102]
def rv1 : AV := .tup [.agg [.nils, .int .i64 (0)], .int .i64 (0), .int .i64 (8)]
theorem read1_run : (callS ED (sumC kFields) 400 (.fn 27) [.str rt1] S0).map (fun q => q.1.melt q.2) = some (.ret rv1) := by
 kernel_rfl
theorem read1_sound : Sound Tryz.prog ED 27 [.str rt1] (.ret rv1) := sound_at kFields_ok read1_run (by decide +kernel)
def rt2 : List UInt8 := [102, 117, 110, 32, 102, 32, 120, 48, 32, 61, 32, 120, 49, 32, 109, 97, 105, 110, 32, 102]
def rv2 : AV := .tup [.agg [.nils, .int .i64 (0)], .int .i64 (11), .int .i64 (4)]
theorem read2_run : (callS ED (sumC kFields) 400 (.fn 27) [.str rt2] S0).map (fun q => q.1.melt q.2) = some (.ret rv2) := by
 kernel_rfl
theorem read2_sound : Sound Tryz.prog ED 27 [.str rt2] (.ret rv2) := sound_at kFields_ok read2_run (by decide +kernel)
def rt3 : List UInt8 := [102, 117, 110, 32, 102, 32, 120, 48, 32, 61, 32, 103, 40, 120, 48, 41, 32, 109, 97, 105, 110, 32, 102]
def rv3 : AV := .tup [.agg [.nils, .int .i64 (0)], .int .i64 (11), .int .i64 (4)]
theorem read3_run : (callS ED (sumC kFields) 400 (.fn 27) [.str rt3] S0).map (fun q => q.1.melt q.2) = some (.ret rv3) := by
 kernel_rfl
theorem read3_sound : Sound Tryz.prog ED 27 [.str rt3] (.ret rv3) := sound_at kFields_ok read3_run (by decide +kernel)
def rt4 : List UInt8 := [102, 117, 110, 32, 102, 32, 120, 48, 32, 61, 32, 50, 49, 52, 55, 52, 56, 51, 54, 52, 56, 32, 109, 97, 105, 110, 32, 102]
def rv4 : AV := .tup [.agg [.nils, .int .i64 (0)], .int .i64 (11), .int .i64 (2)]
theorem read4_run : (callS ED (sumC kFields) 400 (.fn 27) [.str rt4] S0).map (fun q => q.1.melt q.2) = some (.ret rv4) := by
 kernel_rfl
theorem read4_sound : Sound Tryz.prog ED 27 [.str rt4] (.ret rv4) := sound_at kFields_ok read4_run (by decide +kernel)
end Go.Vm.L
