/-
The examples hold, and all that LangNames compares. No conditions.
-/
import Derived.Test.YtjfnelfdlemfgaaGreatDoorReadA
import Derived.Test.YtjfnelfdlemfgaaGreatDoorReadB
import Derived.Test.YtjfnelfdlemfgaaGreatDoorReadC
import Derived.Test.YtjfnelfdlemfgaaGreatDoorReadD
import Derived.Test.YtjfnelfdlemfgaaGreatDoorWrite
import Derived.Test.YtjfnelfdlemfgaaGreatDoorLookA
import Derived.Test.YtjfnelfdlemfgaaGreatDoorLookB
set_option linter.all false
set_option maxHeartbeats 4000000
namespace Go.Vm.L
open Go Go.Proofs Go.Vm
set_option maxRecDepth 100000
def kAll : List (FuncId × List AV × FRes) :=
 [(156, [.str kept], .ret (.slice (keptW.map .str) .dead)), (27, [.str rt1], .ret rv1), (27, [.str rt2], .ret rv2), (27, [.str rt3], .ret rv3), (27, [.str rt4], .ret rv4), (27, [.str rt5], .ret rv5), (27, [.str rt6], .ret rv6),
  (27, [.str rt7], .ret rv7), (27, [.str rt8], .ret rv8), (27, [.str rt9], .ret rv9), (27, [.str rt10], .ret rv10), (27, [.str rt11], .ret rv11), (27, [.str rt12], .ret rv12),
  (17, [progOf rv7], .ret (.tup [.str rt7, .int .i64 0])),
  (17, [progOf rv8], .ret (.tup [.str rt8, .int .i64 0])),
  (17, [progOf rv9], .ret (.tup [.str rt9, .int .i64 0])),
  (17, [progOf rv10], .ret (.tup [.str rt10, .int .i64 0])),
  (17, [progOf rv11], .ret (.tup [.str rt11, .int .i64 0])),
  (19, [progOf rv11], .ret (.int .i64 0)),
  (21, [progOf rv11], .ret (.int .i64 0)),
  (24, [progOf rv11, .int .i64 7], .ret (.tup [.slice (ints [2]) .dead, .int .i64 0])),
  (29, [.str rt11], .ret (.tup [.slice (ints [15, 16, 16, 21, 27, 40, 61, 41, 47]) .dead, .int .i64 0])),
  (15, [progOf rv11], .ret nodesV)]
theorem kAll_mem : ∀ x ∈ kAll, AV.persL x.2.1 = true ∧ x.2.2.pers = true ∧ Sound Tryz.prog ED x.1 x.2.1 x.2.2 := by
 intro x hx
 simp only [kAll, List.mem_cons, List.not_mem_nil, or_false] at hx
 rcases hx with rfl | rfl | rfl | rfl | rfl | rfl | rfl | rfl | rfl | rfl | rfl | rfl | rfl | rfl | rfl | rfl | rfl | rfl | rfl | rfl | rfl | rfl | rfl
 ·exact ⟨by decide +kernel, by decide +kernel, fields_sound⟩
 ·exact ⟨by decide +kernel, by decide +kernel, read1_sound⟩
 ·exact ⟨by decide +kernel, by decide +kernel, read2_sound⟩
 ·exact ⟨by decide +kernel, by decide +kernel, read3_sound⟩
 ·exact ⟨by decide +kernel, by decide +kernel, read4_sound⟩
 ·exact ⟨by decide +kernel, by decide +kernel, read5_sound⟩
 ·exact ⟨by decide +kernel, by decide +kernel, read6_sound⟩
 ·exact ⟨by decide +kernel, by decide +kernel, read7_sound⟩
 ·exact ⟨by decide +kernel, by decide +kernel, read8_sound⟩
 ·exact ⟨by decide +kernel, by decide +kernel, read9_sound⟩
 ·exact ⟨by decide +kernel, by decide +kernel, read10_sound⟩
 ·exact ⟨by decide +kernel, by decide +kernel, read11_sound⟩
 ·exact ⟨by decide +kernel, by decide +kernel, read12_sound⟩
 ·exact ⟨by decide +kernel, by decide +kernel, write7_sound⟩
 ·exact ⟨by decide +kernel, by decide +kernel, write8_sound⟩
 ·exact ⟨by decide +kernel, by decide +kernel, write9_sound⟩
 ·exact ⟨by decide +kernel, by decide +kernel, write10_sound⟩
 ·exact ⟨by decide +kernel, by decide +kernel, write11_sound⟩
 ·exact ⟨by decide +kernel, by decide +kernel, check11_sound⟩
 ·exact ⟨by decide +kernel, by decide +kernel, core11_sound⟩
 ·exact ⟨by decide +kernel, by decide +kernel, free11_sound⟩
 ·exact ⟨by decide +kernel, by decide +kernel, spots11_sound⟩
 ·exact ⟨by decide +kernel, by decide +kernel, nodes11_sound⟩
theorem kAll_ok : SumOk Tryz.prog ED (sumC kAll) := sumC_ok kAll_mem
theorem alive_run : (callS ED (sumC kAll) 400 (.fn 14) [] S0).map (fun q => q.1.melt q.2) = some (.ret (.bool true)) := by
 kernel_rfl
theorem alive_sound : Sound Tryz.prog ED 14 [] (.ret (.bool true)) := sound_at kAll_ok alive_run rfl
end Go.Vm.L
