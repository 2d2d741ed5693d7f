/-
A start that fits. No conditions.
-/
import Derived.Test.YtjfnelfdlemfgaaGreatDoorStart
import Derived.Lay
import Derived.MakeChecks
set_option linter.all false
set_option maxHeartbeats 4000000
namespace Go.Proofs.YtjfnelfdlemfgaaGreatDoor
open Go Go.Vm Go.Vm.L Go.ChangeShapes Go.OpenShut Go.WideShapes Go.ChangeAt Go.RowKit
set_option maxRecDepth 100000
def mapEs : Array MapEntry := #[⟨.int .i64 9, .string ⟨#[102, 115, 116]⟩, 0⟩, ⟨.int .i64 10, .string ⟨#[115, 110, 100]⟩, 1⟩, ⟨.int .i64 11, .string ⟨#[108, 101, 102, 116]⟩, 2⟩, ⟨.int .i64 12, .string ⟨#[114, 105, 103, 104, 116]⟩, 3⟩,
 ⟨.int .i64 19, .string ⟨#[105, 111, 116, 97]⟩, 4⟩, ⟨.int .i64 20, .string ⟨#[108, 101, 110]⟩, 5⟩, ⟨.int .i64 24, .string ⟨#[102, 108, 97, 116]⟩, 6⟩, ⟨.int .i64 25, .string ⟨#[110, 101, 115, 116]⟩, 7⟩, ⟨.int .i64 26, .string ⟨#[112, 117, 116]⟩, 8⟩]
/-- the settled world, with the map -/
noncomputable def wMap (os : Os) : World :=
 { World.holding Tryz.prog os ⟨#[], #[], []⟩ with heap := ⟨((World.holding Tryz.prog os ⟨#[], #[], []⟩).heap.toList.modify 10 (Lay.setRow [.map (some (World.holding Tryz.prog os ⟨#[], #[], []⟩).heap.size)])) ++ [.map mapEs 9]⟩ }
abbrev great : List String := ["math/bits.deBruijn32tab", "math/bits.deBruijn64tab", "internal/strconv.uint64pow10", "unicode/utf8.acceptRanges", "strconv.ErrRange", "strconv.ErrSyntax", "unicode.White_Space", "strings.asciiSpace", "sheafworks/lang.words", "sheafworks/lang.levels", "unicode/utf8.first"]
noncomputable def wStart (os : Os) : World := (wMap os).layVars Tryz.prog (laidAll.filter fun x => great.contains x.1)
theorem start_met (os : Os) (args : Array Value) : laidMetH Tryz.prog laidAll ((wStart os).forCall (fun _ _ => 0) ⟨#[], args, []⟩).memory := by
 rw [MakeChecks.laidMetH_plain _ _ _ (by kernel_rfl)]
 have h : laidMet Tryz.prog laidAll (wStart os) := laidMet_layVars (w0 := wMap os) great [10, (World.holding Tryz.prog os ⟨#[], #[], []⟩).heap.size] rfl (by kernel_rfl) (by kernel_rfl)
  (LaidIn.of_run _ 8 (by kernel_rfl) (by kernel_rfl) (by kernel_rfl) (by kernel_rfl))
 exact h.of_heap (by simp [World.memory, World.forCall, Input.heap])
theorem start_os (os : Os) : (wStart os).os = os := World.layVars_os _ _ _
theorem start_shaped (os : Os) (args : Array Value) : ((wStart os).forCall (fun _ _ => 0) ⟨#[], args, []⟩).Shaped Tryz.prog :=
 World.shaped_of_ZipB (by kernel_rfl) (by kernel_rfl)
end Go.Proofs.YtjfnelfdlemfgaaGreatDoor
