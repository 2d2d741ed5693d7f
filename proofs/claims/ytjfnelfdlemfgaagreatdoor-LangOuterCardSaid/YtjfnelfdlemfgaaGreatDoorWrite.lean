/-
What lang.Write returns for five programs. No conditions.
-/
import Derived.Test.YtjfnelfdlemfgaaGreatDoorReadD
import Derived.Test.YtjfnelfdlemfgaaGreatDoorReadB
import Derived.Test.YtjfnelfdlemfgaaGreatDoorReadC
set_option linter.all false
set_option maxHeartbeats 4000000
namespace Go.Vm.L
open Go Go.Proofs Go.Vm
set_option maxRecDepth 100000
def progOf : AV → AV
 | .tup (p :: _) => p
 | v => v
theorem write11_run : (callS ED (sumC kFields) 400 (.fn 17) [progOf rv11] S0).map (fun q => q.1.melt q.2) = some (.ret (.tup [.str rt11, .int .i64 0])) := by
 kernel_rfl
theorem write11_sound : Sound Tryz.prog ED 17 [progOf rv11] (.ret (.tup [.str rt11, .int .i64 0])) := sound_at kFields_ok write11_run (by decide +kernel)
theorem write7_run : (callS ED (sumC kFields) 400 (.fn 17) [progOf rv7] S0).map (fun q => q.1.melt q.2) = some (.ret (.tup [.str rt7, .int .i64 0])) := by
 kernel_rfl
theorem write7_sound : Sound Tryz.prog ED 17 [progOf rv7] (.ret (.tup [.str rt7, .int .i64 0])) := sound_at kFields_ok write7_run (by decide +kernel)
theorem write8_run : (callS ED (sumC kFields) 400 (.fn 17) [progOf rv8] S0).map (fun q => q.1.melt q.2) = some (.ret (.tup [.str rt8, .int .i64 0])) := by
 kernel_rfl
theorem write8_sound : Sound Tryz.prog ED 17 [progOf rv8] (.ret (.tup [.str rt8, .int .i64 0])) := sound_at kFields_ok write8_run (by decide +kernel)
theorem write9_run : (callS ED (sumC kFields) 400 (.fn 17) [progOf rv9] S0).map (fun q => q.1.melt q.2) = some (.ret (.tup [.str rt9, .int .i64 0])) := by
 kernel_rfl
theorem write9_sound : Sound Tryz.prog ED 17 [progOf rv9] (.ret (.tup [.str rt9, .int .i64 0])) := sound_at kFields_ok write9_run (by decide +kernel)
theorem write10_run : (callS ED (sumC kFields) 400 (.fn 17) [progOf rv10] S0).map (fun q => q.1.melt q.2) = some (.ret (.tup [.str rt10, .int .i64 0])) := by
 kernel_rfl
theorem write10_sound : Sound Tryz.prog ED 17 [progOf rv10] (.ret (.tup [.str rt10, .int .i64 0])) := sound_at kFields_ok write10_run (by decide +kernel)
end Go.Vm.L
