/-
What lang.Check, lang.Core, lang.Free and lang.Nodes return for the example. No conditions.
-/
import Derived.Test.YtjfnelfdlemfgaaGreatDoorReadD
import Derived.Test.YtjfnelfdlemfgaaGreatDoorWrite
set_option linter.all false
set_option maxHeartbeats 4000000
namespace Go.Vm.L
open Go Go.Proofs Go.Vm
set_option maxRecDepth 100000
theorem check11_run : (callS ED (sumC kFields) 400 (.fn 19) [progOf rv11] S0).map (fun q => q.1.melt q.2) = some (.ret (.int .i64 0)) := by
 kernel_rfl
theorem check11_sound : Sound Tryz.prog ED 19 [progOf rv11] (.ret (.int .i64 0)) := sound_at kFields_ok check11_run (by decide +kernel)
theorem core11_run : (callS ED (sumC kFields) 400 (.fn 21) [progOf rv11] S0).map (fun q => q.1.melt q.2) = some (.ret (.int .i64 0)) := by
 kernel_rfl
theorem core11_sound : Sound Tryz.prog ED 21 [progOf rv11] (.ret (.int .i64 0)) := sound_at kFields_ok core11_run (by decide +kernel)
theorem free11_run : (callS ED (sumC kFields) 400 (.fn 24) [progOf rv11, .int .i64 7] S0).map (fun q => q.1.melt q.2) = some (.ret (.tup [.slice (ints [2]) .dead, .int .i64 0])) := by
 kernel_rfl
theorem free11_sound : Sound Tryz.prog ED 24 [progOf rv11, .int .i64 7] (.ret (.tup [.slice (ints [2]) .dead, .int .i64 0])) := sound_at kFields_ok free11_run (by decide +kernel)
def nodesV : AV := .tup [.slice [.agg [.int .i64 (0), .int .i64 (-1), .int .i64 (0), .int .i64 (15)], .agg [.int .i64 (0), .int .i64 (0), .int .i64 (0), .int .i64 (15)], .agg [.int .i64 (0), .int .i64 (1), .int .i64 (0), .int .i64 (0)], .agg [.int .i64 (0), .int .i64 (1), .int .i64 (1), .int .i64 (0)], .agg [.int .i64 (0), .int .i64 (0), .int .i64 (1), .int .i64 (1)], .agg [.int .i64 (1), .int .i64 (-1), .int .i64 (0), .int .i64 (17)], .agg [.int .i64 (1), .int .i64 (5), .int .i64 (0), .int .i64 (0)], .agg [.int .i64 (1), .int .i64 (5), .int .i64 (1), .int .i64 (7)], .agg [.int .i64 (1), .int .i64 (7), .int .i64 (0), .int .i64 (0)]] .dead, .int .i64 (0)]
theorem nodes11_run : (callS ED (sumC kFields) 400 (.fn 15) [progOf rv11] S0).map (fun q => q.1.melt q.2) = some (.ret nodesV) := by
 kernel_rfl
theorem nodes11_sound : Sound Tryz.prog ED 15 [progOf rv11] (.ret nodesV) := sound_at kFields_ok nodes11_run (by decide +kernel)
end Go.Vm.L
