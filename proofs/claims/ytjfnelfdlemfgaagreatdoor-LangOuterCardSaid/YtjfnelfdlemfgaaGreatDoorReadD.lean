/-
What lang.Read returns for the example. No conditions.
-/
import Derived.Test.YtjfnelfdlemfgaaGreatDoorFields
set_option linter.all false
set_option maxHeartbeats 4000000
namespace Go.Vm.L
open Go Go.Proofs Go.Vm
set_option maxRecDepth 100000
def rt11 : List UInt8 := [102, 117, 110, 32, 116, 119, 105, 99, 101, 32, 120, 48, 32, 61, 32, 40, 120, 48, 32, 43, 32, 120, 48, 41, 32, 42, 32, 50, 10, 102, 117, 110, 32, 102, 32, 120, 49, 32, 61, 32, 91, 116, 119, 105, 99, 101, 40, 120, 50, 41, 32, 102, 111, 114, 32, 120, 50, 32, 105, 110, 32, 120, 49, 93, 10, 109, 97, 105, 110, 32, 102, 10]
def rv11 : AV := .tup [.agg [.slice [.agg [.str [116, 119, 105, 99, 101], .int .i64 (0), .int .i64 (15), .int .i64 (2), .int .i64 (0), .slice [.agg [.int .i64 (15), .int .i64 (0), .int .i64 (0), .slice [.agg [.int .i64 (0), .int .i64 (0), .int .i64 (0), .nils], .agg [.int .i64 (0), .int .i64 (0), .int .i64 (0), .nils]] .dead], .agg [.int .i64 (1), .int .i64 (2), .int .i64 (0), .nils]] .dead], .agg [.str [102], .int .i64 (1), .int .i64 (17), .int .i64 (2), .int .i64 (0), .slice [.agg [.int .i64 (0), .int .i64 (1), .int .i64 (0), .nils], .agg [.int .i64 (7), .int .i64 (0), .int .i64 (0), .slice [.agg [.int .i64 (0), .int .i64 (2), .int .i64 (0), .nils]] .dead]] .dead]] .dead, .int .i64 (1)], .int .i64 (0), .int .i64 (0)]
theorem read11_run : (callS ED (sumC kFields) 400 (.fn 27) [.str rt11] S0).map (fun q => q.1.melt q.2) = some (.ret rv11) := by
 kernel_rfl
theorem read11_sound : Sound Tryz.prog ED 27 [.str rt11] (.ret rv11) := sound_at kFields_ok read11_run (by decide +kernel)
end Go.Vm.L
