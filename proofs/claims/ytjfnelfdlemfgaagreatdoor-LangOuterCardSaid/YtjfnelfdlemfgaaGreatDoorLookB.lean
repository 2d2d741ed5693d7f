/-
What lang.Spots returns for the example. No conditions.
-/
import Derived.Test.YtjfnelfdlemfgaaGreatDoorReadD
import Derived.Test.YtjfnelfdlemfgaaGreatDoorWrite
set_option linter.all false
set_option maxHeartbeats 4000000
namespace Go.Vm.L
open Go Go.Proofs Go.Vm
set_option maxRecDepth 100000
theorem spots11_run : (callS ED (sumC kFields) 400 (.fn 29) [.str rt11] S0).map (fun q => q.1.melt q.2) = some (.ret (.tup [.slice (ints [15, 16, 16, 21, 27, 40, 61, 41, 47]) .dead, .int .i64 0])) := by
 kernel_rfl
theorem spots11_sound : Sound Tryz.prog ED 29 [.str rt11] (.ret (.tup [.slice (ints [15, 16, 16, 21, 27, 40, 61, 41, 47]) .dead, .int .i64 0])) := sound_at kFields_ok spots11_run (by decide +kernel)
end Go.Vm.L
