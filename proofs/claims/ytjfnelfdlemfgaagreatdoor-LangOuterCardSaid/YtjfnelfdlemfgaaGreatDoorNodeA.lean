/-
Look-ups in the tables, and the equations of the evaluator as one. No conditions.
-/
import Derived.Test.YtjfnelfdlemfgaaGreatDoorLib
import Derived.Test.YtjfnelfdlemfgaaGreatDoorVmJ
set_option linter.all false
set_option maxHeartbeats 4000000
namespace Go.Vm.L
open Go Go.Proofs Go.Vm
set_option maxRecDepth 100000
@[simp] theorem ED_ti1 : ED.ti 1 = some { desc := (.func #[] #[] false), size := 1, bytes := 8, zero := [.nilf], agg := false, cmp := true } := rfl
@[simp] theorem ED_desc1 : ED.desc 1 = some (.func #[] #[] false) := rfl
@[simp] theorem ED_size1 : ED.size 1 = some 1 := rfl
@[simp] theorem ED_own1 : ED.own 1 = false := rfl
@[simp] theorem ED_ti3 : ED.ti 3 = some { desc := (.int .i64), size := 1, bytes := 8, zero := [.int .i64 (0)], agg := false, cmp := true } := rfl
@[simp] theorem ED_desc3 : ED.desc 3 = some (.int .i64) := rfl
@[simp] theorem ED_size3 : ED.size 3 = some 1 := rfl
@[simp] theorem ED_own3 : ED.own 3 = true := rfl
@[simp] theorem ED_ti4 : ED.ti 4 = some { desc := .bool, size := 1, bytes := 1, zero := [.bool false], agg := false, cmp := true } := rfl
@[simp] theorem ED_desc4 : ED.desc 4 = some .bool := rfl
@[simp] theorem ED_size4 : ED.size 4 = some 1 := rfl
@[simp] theorem ED_own4 : ED.own 4 = false := rfl
@[simp] theorem ED_ti5 : ED.ti 5 = some { desc := (.int .u8), size := 1, bytes := 1, zero := [.int .u8 (0)], agg := false, cmp := true } := rfl
@[simp] theorem ED_desc5 : ED.desc 5 = some (.int .u8) := rfl
@[simp] theorem ED_size5 : ED.size 5 = some 1 := rfl
@[simp] theorem ED_own5 : ED.own 5 = false := rfl
@[simp] theorem ED_ti9 : ED.ti 9 = some { desc := .string, size := 1, bytes := 16, zero := [.str []], agg := false, cmp := true } := rfl
@[simp] theorem ED_desc9 : ED.desc 9 = some .string := rfl
@[simp] theorem ED_size9 : ED.size 9 = some 1 := rfl
@[simp] theorem ED_own9 : ED.own 9 = false := rfl
@[simp] theorem ED_ti20 : ED.ti 20 = some { desc := (.interface #[]), size := 1, bytes := 16, zero := [.nili], agg := false, cmp := true } := rfl
@[simp] theorem ED_desc20 : ED.desc 20 = some (.interface #[]) := rfl
@[simp] theorem ED_size20 : ED.size 20 = some 1 := rfl
@[simp] theorem ED_own20 : ED.own 20 = false := rfl
@[simp] theorem ED_ti22 : ED.ti 22 = some { desc := (.slice 63), size := 1, bytes := 24, zero := [.nils], agg := false, cmp := true } := rfl
@[simp] theorem ED_desc22 : ED.desc 22 = some (.slice 63) := rfl
@[simp] theorem ED_size22 : ED.size 22 = some 1 := rfl
@[simp] theorem ED_own22 : ED.own 22 = false := rfl
@[simp] theorem ED_ti24 : ED.ti 24 = some { desc := (.struct #[{ name := "Funs", type := 22, offset := 0, embedded := false, tag := "", pkgPath := "", byteOffset := 0 }, { name := "Main", type := 3, offset := 1, embedded := false, tag := "", pkgPath := "", byteOffset := 24 }]), size := 2, bytes := 32, zero := [.nils, .int .i64 (0)], agg := true, cmp := true } := rfl
@[simp] theorem ED_desc24 : ED.desc 24 = some (.struct #[{ name := "Funs", type := 22, offset := 0, embedded := false, tag := "", pkgPath := "", byteOffset := 0 }, { name := "Main", type := 3, offset := 1, embedded := false, tag := "", pkgPath := "", byteOffset := 24 }]) := rfl
@[simp] theorem ED_size24 : ED.size 24 = some 2 := rfl
@[simp] theorem ED_own24 : ED.own 24 = false := rfl
@[simp] theorem ED_ti27 : ED.ti 27 = some { desc := (.slice 61), size := 1, bytes := 24, zero := [.nils], agg := false, cmp := true } := rfl
@[simp] theorem ED_desc27 : ED.desc 27 = some (.slice 61) := rfl
@[simp] theorem ED_size27 : ED.size 27 = some 1 := rfl
@[simp] theorem ED_own27 : ED.own 27 = false := rfl
@[simp] theorem ED_ti28 : ED.ti 28 = some { desc := (.int .i64), size := 1, bytes := 8, zero := [.int .i64 (0)], agg := false, cmp := true } := rfl
@[simp] theorem ED_desc28 : ED.desc 28 = some (.int .i64) := rfl
@[simp] theorem ED_size28 : ED.size 28 = some 1 := rfl
@[simp] theorem ED_own28 : ED.own 28 = false := rfl
@[simp] theorem ED_ti35 : ED.ti 35 = some { desc := (.slice 3), size := 1, bytes := 24, zero := [.nils], agg := false, cmp := true } := rfl
@[simp] theorem ED_desc35 : ED.desc 35 = some (.slice 3) := rfl
@[simp] theorem ED_size35 : ED.size 35 = some 1 := rfl
@[simp] theorem ED_own35 : ED.own 35 = false := rfl
@[simp] theorem ED_ti47 : ED.ti 47 = some { desc := (.slice 9), size := 1, bytes := 24, zero := [.nils], agg := false, cmp := true } := rfl
@[simp] theorem ED_desc47 : ED.desc 47 = some (.slice 9) := rfl
@[simp] theorem ED_size47 : ED.size 47 = some 1 := rfl
@[simp] theorem ED_own47 : ED.own 47 = false := rfl
@[simp] theorem ED_ti48 : ED.ti 48 = some { desc := (.int .u16), size := 1, bytes := 2, zero := [.int .u16 (0)], agg := false, cmp := true } := rfl
@[simp] theorem ED_desc48 : ED.desc 48 = some (.int .u16) := rfl
@[simp] theorem ED_size48 : ED.size 48 = some 1 := rfl
@[simp] theorem ED_own48 : ED.own 48 = false := rfl
@[simp] theorem ED_ti57 : ED.ti 57 = some { desc := (.slice 59), size := 1, bytes := 24, zero := [.nils], agg := false, cmp := true } := rfl
@[simp] theorem ED_desc57 : ED.desc 57 = some (.slice 59) := rfl
@[simp] theorem ED_size57 : ED.size 57 = some 1 := rfl
@[simp] theorem ED_own57 : ED.own 57 = false := rfl
@[simp] theorem ED_ti59 : ED.ti 59 = some { desc := (.struct #[{ name := "Op", type := 3, offset := 0, embedded := false, tag := "", pkgPath := "", byteOffset := 0 }, { name := "N", type := 3, offset := 1, embedded := false, tag := "", pkgPath := "", byteOffset := 8 }, { name := "M", type := 3, offset := 2, embedded := false, tag := "", pkgPath := "", byteOffset := 16 }, { name := "L", type := 57, offset := 3, embedded := false, tag := "", pkgPath := "", byteOffset := 24 }]), size := 4, bytes := 48, zero := [.int .i64 (0), .int .i64 (0), .int .i64 (0), .nils], agg := true, cmp := true } := rfl
@[simp] theorem ED_desc59 : ED.desc 59 = some (.struct #[{ name := "Op", type := 3, offset := 0, embedded := false, tag := "", pkgPath := "", byteOffset := 0 }, { name := "N", type := 3, offset := 1, embedded := false, tag := "", pkgPath := "", byteOffset := 8 }, { name := "M", type := 3, offset := 2, embedded := false, tag := "", pkgPath := "", byteOffset := 16 }, { name := "L", type := 57, offset := 3, embedded := false, tag := "", pkgPath := "", byteOffset := 24 }]) := rfl
@[simp] theorem ED_size59 : ED.size 59 = some 4 := rfl
@[simp] theorem ED_own59 : ED.own 59 = false := rfl
@[simp] theorem ED_ti61 : ED.ti 61 = some { desc := (.struct #[{ name := "Fun", type := 3, offset := 0, embedded := false, tag := "", pkgPath := "", byteOffset := 0 }, { name := "Up", type := 3, offset := 1, embedded := false, tag := "", pkgPath := "", byteOffset := 8 }, { name := "Place", type := 3, offset := 2, embedded := false, tag := "", pkgPath := "", byteOffset := 16 }, { name := "Op", type := 3, offset := 3, embedded := false, tag := "", pkgPath := "", byteOffset := 24 }]), size := 4, bytes := 32, zero := [.int .i64 (0), .int .i64 (0), .int .i64 (0), .int .i64 (0)], agg := true, cmp := true } := rfl
@[simp] theorem ED_desc61 : ED.desc 61 = some (.struct #[{ name := "Fun", type := 3, offset := 0, embedded := false, tag := "", pkgPath := "", byteOffset := 0 }, { name := "Up", type := 3, offset := 1, embedded := false, tag := "", pkgPath := "", byteOffset := 8 }, { name := "Place", type := 3, offset := 2, embedded := false, tag := "", pkgPath := "", byteOffset := 16 }, { name := "Op", type := 3, offset := 3, embedded := false, tag := "", pkgPath := "", byteOffset := 24 }]) := rfl
@[simp] theorem ED_size61 : ED.size 61 = some 4 := rfl
@[simp] theorem ED_own61 : ED.own 61 = false := rfl
@[simp] theorem ED_ti63 : ED.ti 63 = some { desc := (.struct #[{ name := "Name", type := 9, offset := 0, embedded := false, tag := "", pkgPath := "", byteOffset := 0 }, { name := "Param", type := 3, offset := 1, embedded := false, tag := "", pkgPath := "", byteOffset := 16 }, { name := "Body", type := 59, offset := 2, embedded := false, tag := "", pkgPath := "", byteOffset := 24 }]), size := 6, bytes := 72, zero := [.str [], .int .i64 (0), .int .i64 (0), .int .i64 (0), .int .i64 (0), .nils], agg := true, cmp := true } := rfl
@[simp] theorem ED_desc63 : ED.desc 63 = some (.struct #[{ name := "Name", type := 9, offset := 0, embedded := false, tag := "", pkgPath := "", byteOffset := 0 }, { name := "Param", type := 3, offset := 1, embedded := false, tag := "", pkgPath := "", byteOffset := 16 }, { name := "Body", type := 59, offset := 2, embedded := false, tag := "", pkgPath := "", byteOffset := 24 }]) := rfl
@[simp] theorem ED_size63 : ED.size 63 = some 6 := rfl
@[simp] theorem ED_own63 : ED.own 63 = false := rfl
@[simp] theorem ED_ti65 : ED.ti 65 = some { desc := (.struct #[{ name := "LangNode", type := 61, offset := 0, embedded := true, tag := "", pkgPath := "", byteOffset := 0 }, { name := "Exp", type := 59, offset := 4, embedded := false, tag := "", pkgPath := "", byteOffset := 32 }]), size := 8, bytes := 80, zero := [.int .i64 (0), .int .i64 (0), .int .i64 (0), .int .i64 (0), .int .i64 (0), .int .i64 (0), .int .i64 (0), .nils], agg := true, cmp := true } := rfl
@[simp] theorem ED_desc65 : ED.desc 65 = some (.struct #[{ name := "LangNode", type := 61, offset := 0, embedded := true, tag := "", pkgPath := "", byteOffset := 0 }, { name := "Exp", type := 59, offset := 4, embedded := false, tag := "", pkgPath := "", byteOffset := 32 }]) := rfl
@[simp] theorem ED_size65 : ED.size 65 = some 8 := rfl
@[simp] theorem ED_own65 : ED.own 65 = false := rfl
@[simp] theorem ED_ti66 : ED.ti 66 = some { desc := (.slice 65), size := 1, bytes := 24, zero := [.nils], agg := false, cmp := true } := rfl
@[simp] theorem ED_desc66 : ED.desc 66 = some (.slice 65) := rfl
@[simp] theorem ED_size66 : ED.size 66 = some 1 := rfl
@[simp] theorem ED_own66 : ED.own 66 = false := rfl
@[simp] theorem ED_ti68 : ED.ti 68 = some { desc := (.array 400 4), size := 400, bytes := 400, zero := [.bool false, .bool false, .bool false, .bool false, .bool false, .bool false, .bool false, .bool false, .bool false, .bool false, .bool false, .bool false, .bool false, .bool false, .bool false, .bool false, .bool false, .bool false, .bool false, .bool false, .bool false, .bool false, .bool false, .bool false, .bool false, .bool false, .bool false, .bool false, .bool false, .bool false, .bool false, .bool false, .bool false, .bool false, .bool false, .bool false, .bool false, .bool false, .bool false, .bool false, .bool false, .bool false, .bool false, .bool false, .bool false, .bool false, .bool false, .bool false, .bool false, .bool false, .bool false, .bool false, .bool false, .bool false, .bool false, .bool false, .bool false, .bool false, .bool false, .bool false, .bool false, .bool false, .bool false, .bool false, .bool false, .bool false, .bool false, .bool false, .bool false, .bool false, .bool false, .bool false, .bool false, .bool false, .bool false, .bool false, .bool false, .bool false, .bool false, .bool false, .bool false, .bool false, .bool false, .bool false, .bool false, .bool false, .bool false, .bool false, .bool false, .bool false, .bool false, .bool false, .bool false, .bool false, .bool false, .bool false, .bool false, .bool false, .bool false, .bool false, .bool false, .bool false, .bool false, .bool false, .bool false, .bool false, .bool false, .bool false, .bool false, .bool false, .bool false, .bool false, .bool false, .bool false, .bool false, .bool false, .bool false, .bool false, .bool false, .bool false, .bool false, .bool false, .bool false, .bool false, .bool false, .bool false, .bool false, .bool false, .bool false, .bool false, .bool false, .bool false, .bool false, .bool false, .bool false, .bool false, .bool false, .bool false, .bool false, .bool false, .bool false, .bool false, .bool false, .bool false, .bool false, .bool false, .bool false, .bool false, .bool false, .bool false, .bool false, .bool false, .bool false, .bool false, .bool false, .bool false, .bool false, .bool false, .bool false, .bool false, .bool false, .bool false, .bool false, .bool false, .bool false, .bool false, .bool false, .bool false, .bool false, .bool false, .bool false, .bool false, .bool false, .bool false, .bool false, .bool false, .bool false, .bool false, .bool false, .bool false, .bool false, .bool false, .bool false, .bool false, .bool false, .bool false, .bool false, .bool false, .bool false, .bool false, .bool false, .bool false, .bool false, .bool false, .bool false, .bool false, .bool false, .bool false, .bool false, .bool false, .bool false, .bool false, .bool false, .bool false, .bool false, .bool false, .bool false, .bool false, .bool false, .bool false, .bool false, .bool false, .bool false, .bool false, .bool false, .bool false, .bool false, .bool false, .bool false, .bool false, .bool false, .bool false, .bool false, .bool false, .bool false, .bool false, .bool false, .bool false, .bool false, .bool false, .bool false, .bool false, .bool false, .bool false, .bool false, .bool false, .bool false, .bool false, .bool false, .bool false, .bool false, .bool false, .bool false, .bool false, .bool false, .bool false, .bool false, .bool false, .bool false, .bool false, .bool false, .bool false, .bool false, .bool false, .bool false, .bool false, .bool false, .bool false, .bool false, .bool false, .bool false, .bool false, .bool false, .bool false, .bool false, .bool false, .bool false, .bool false, .bool false, .bool false, .bool false, .bool false, .bool false, .bool false, .bool false, .bool false, .bool false, .bool false, .bool false, .bool false, .bool false, .bool false, .bool false, .bool false, .bool false, .bool false, .bool false, .bool false, .bool false, .bool false, .bool false, .bool false, .bool false, .bool false, .bool false, .bool false, .bool false, .bool false, .bool false, .bool false, .bool false, .bool false, .bool false, .bool false, .bool false, .bool false, .bool false, .bool false, .bool false, .bool false, .bool false, .bool false, .bool false, .bool false, .bool false, .bool false, .bool false, .bool false, .bool false, .bool false, .bool false, .bool false, .bool false, .bool false, .bool false, .bool false, .bool false, .bool false, .bool false, .bool false, .bool false, .bool false, .bool false, .bool false, .bool false, .bool false, .bool false, .bool false, .bool false, .bool false, .bool false, .bool false, .bool false, .bool false, .bool false, .bool false, .bool false, .bool false, .bool false, .bool false, .bool false, .bool false, .bool false, .bool false, .bool false, .bool false, .bool false, .bool false, .bool false, .bool false, .bool false, .bool false, .bool false, .bool false, .bool false, .bool false, .bool false, .bool false, .bool false, .bool false, .bool false, .bool false, .bool false, .bool false, .bool false, .bool false, .bool false, .bool false, .bool false, .bool false, .bool false, .bool false, .bool false, .bool false, .bool false, .bool false, .bool false, .bool false, .bool false, .bool false, .bool false, .bool false, .bool false, .bool false, .bool false, .bool false, .bool false, .bool false, .bool false, .bool false], agg := true, cmp := true } := rfl
@[simp] theorem ED_desc68 : ED.desc 68 = some (.array 400 4) := rfl
@[simp] theorem ED_size68 : ED.size 68 = some 400 := rfl
@[simp] theorem ED_own68 : ED.own 68 = false := rfl
@[simp] theorem ED_ti74 : ED.ti 74 = some { desc := (.func #[59, 3] #[4] false), size := 1, bytes := 8, zero := [.nilf], agg := false, cmp := true } := rfl
@[simp] theorem ED_desc74 : ED.desc 74 = some (.func #[59, 3] #[4] false) := rfl
@[simp] theorem ED_size74 : ED.size 74 = some 1 := rfl
@[simp] theorem ED_own74 : ED.own 74 = false := rfl
@[simp] theorem ED_ti76 : ED.ti 76 = some { desc := (.pointer 28), size := 1, bytes := 8, zero := [.nilp], agg := false, cmp := true } := rfl
@[simp] theorem ED_desc76 : ED.desc 76 = some (.pointer 28) := rfl
@[simp] theorem ED_size76 : ED.size 76 = some 1 := rfl
@[simp] theorem ED_own76 : ED.own 76 = false := rfl
@[simp] theorem ED_ti77 : ED.ti 77 = some { desc := (.func #[118] #[] false), size := 1, bytes := 8, zero := [.nilf], agg := false, cmp := true } := rfl
@[simp] theorem ED_desc77 : ED.desc 77 = some (.func #[118] #[] false) := rfl
@[simp] theorem ED_size77 : ED.size 77 = some 1 := rfl
@[simp] theorem ED_own77 : ED.own 77 = false := rfl
@[simp] theorem ED_ti78 : ED.ti 78 = some { desc := (.func #[118] #[] false), size := 1, bytes := 8, zero := [.nilf], agg := false, cmp := true } := rfl
@[simp] theorem ED_desc78 : ED.desc 78 = some (.func #[118] #[] false) := rfl
@[simp] theorem ED_size78 : ED.size 78 = some 1 := rfl
@[simp] theorem ED_own78 : ED.own 78 = false := rfl
@[simp] theorem ED_ti80 : ED.ti 80 = some { desc := (.struct #[{ name := "Prog", type := 24, offset := 0, embedded := true, tag := "", pkgPath := "", byteOffset := 0 }]), size := 2, bytes := 32, zero := [.nils, .int .i64 (0)], agg := true, cmp := true } := rfl
@[simp] theorem ED_desc80 : ED.desc 80 = some (.struct #[{ name := "Prog", type := 24, offset := 0, embedded := true, tag := "", pkgPath := "", byteOffset := 0 }]) := rfl
@[simp] theorem ED_size80 : ED.size 80 = some 2 := rfl
@[simp] theorem ED_own80 : ED.own 80 = false := rfl
@[simp] theorem ED_ti108 : ED.ti 108 = some { desc := (.array 256 4), size := 256, bytes := 256, zero := [.bool false, .bool false, .bool false, .bool false, .bool false, .bool false, .bool false, .bool false, .bool false, .bool false, .bool false, .bool false, .bool false, .bool false, .bool false, .bool false, .bool false, .bool false, .bool false, .bool false, .bool false, .bool false, .bool false, .bool false, .bool false, .bool false, .bool false, .bool false, .bool false, .bool false, .bool false, .bool false, .bool false, .bool false, .bool false, .bool false, .bool false, .bool false, .bool false, .bool false, .bool false, .bool false, .bool false, .bool false, .bool false, .bool false, .bool false, .bool false, .bool false, .bool false, .bool false, .bool false, .bool false, .bool false, .bool false, .bool false, .bool false, .bool false, .bool false, .bool false, .bool false, .bool false, .bool false, .bool false, .bool false, .bool false, .bool false, .bool false, .bool false, .bool false, .bool false, .bool false, .bool false, .bool false, .bool false, .bool false, .bool false, .bool false, .bool false, .bool false, .bool false, .bool false, .bool false, .bool false, .bool false, .bool false, .bool false, .bool false, .bool false, .bool false, .bool false, .bool false, .bool false, .bool false, .bool false, .bool false, .bool false, .bool false, .bool false, .bool false, .bool false, .bool false, .bool false, .bool false, .bool false, .bool false, .bool false, .bool false, .bool false, .bool false, .bool false, .bool false, .bool false, .bool false, .bool false, .bool false, .bool false, .bool false, .bool false, .bool false, .bool false, .bool false, .bool false, .bool false, .bool false, .bool false, .bool false, .bool false, .bool false, .bool false, .bool false, .bool false, .bool false, .bool false, .bool false, .bool false, .bool false, .bool false, .bool false, .bool false, .bool false, .bool false, .bool false, .bool false, .bool false, .bool false, .bool false, .bool false, .bool false, .bool false, .bool false, .bool false, .bool false, .bool false, .bool false, .bool false, .bool false, .bool false, .bool false, .bool false, .bool false, .bool false, .bool false, .bool false, .bool false, .bool false, .bool false, .bool false, .bool false, .bool false, .bool false, .bool false, .bool false, .bool false, .bool false, .bool false, .bool false, .bool false, .bool false, .bool false, .bool false, .bool false, .bool false, .bool false, .bool false, .bool false, .bool false, .bool false, .bool false, .bool false, .bool false, .bool false, .bool false, .bool false, .bool false, .bool false, .bool false, .bool false, .bool false, .bool false, .bool false, .bool false, .bool false, .bool false, .bool false, .bool false, .bool false, .bool false, .bool false, .bool false, .bool false, .bool false, .bool false, .bool false, .bool false, .bool false, .bool false, .bool false, .bool false, .bool false, .bool false, .bool false, .bool false, .bool false, .bool false, .bool false, .bool false, .bool false, .bool false, .bool false, .bool false, .bool false, .bool false, .bool false, .bool false, .bool false, .bool false, .bool false, .bool false, .bool false, .bool false, .bool false, .bool false, .bool false, .bool false, .bool false, .bool false, .bool false, .bool false, .bool false, .bool false, .bool false, .bool false, .bool false, .bool false, .bool false], agg := true, cmp := true } := rfl
@[simp] theorem ED_desc108 : ED.desc 108 = some (.array 256 4) := rfl
@[simp] theorem ED_size108 : ED.size 108 = some 256 := rfl
@[simp] theorem ED_own108 : ED.own 108 = false := rfl
@[simp] theorem ED_ti116 : ED.ti 116 = some { desc := (.func #[63] #[4] false), size := 1, bytes := 8, zero := [.nilf], agg := false, cmp := true } := rfl
@[simp] theorem ED_desc116 : ED.desc 116 = some (.func #[63] #[4] false) := rfl
@[simp] theorem ED_size116 : ED.size 116 = some 1 := rfl
@[simp] theorem ED_own116 : ED.own 116 = false := rfl
@[simp] theorem ED_ti118 : ED.ti 118 = some { desc := (.func #[61, 59] #[4] false), size := 1, bytes := 8, zero := [.nilf], agg := false, cmp := true } := rfl
@[simp] theorem ED_desc118 : ED.desc 118 = some (.func #[61, 59] #[4] false) := rfl
@[simp] theorem ED_size118 : ED.size 118 = some 1 := rfl
@[simp] theorem ED_own118 : ED.own 118 = false := rfl
@[simp] theorem ED_ti119 : ED.ti 119 = some { desc := (.func #[59, 61] #[4] false), size := 1, bytes := 8, zero := [.nilf], agg := false, cmp := true } := rfl
@[simp] theorem ED_desc119 : ED.desc 119 = some (.func #[59, 61] #[4] false) := rfl
@[simp] theorem ED_size119 : ED.size 119 = some 1 := rfl
@[simp] theorem ED_own119 : ED.own 119 = false := rfl
@[simp] theorem ED_ti128 : ED.ti 128 = some { desc := (.struct #[{ name := "e", type := 28, offset := 0, embedded := false, tag := "", pkgPath := "sheafworks/lang", byteOffset := 0 }, { name := "at", type := 3, offset := 1, embedded := false, tag := "", pkgPath := "sheafworks/lang", byteOffset := 8 }]), size := 2, bytes := 16, zero := [.int .i64 (0), .int .i64 (0)], agg := true, cmp := true } := rfl
@[simp] theorem ED_desc128 : ED.desc 128 = some (.struct #[{ name := "e", type := 28, offset := 0, embedded := false, tag := "", pkgPath := "sheafworks/lang", byteOffset := 0 }, { name := "at", type := 3, offset := 1, embedded := false, tag := "", pkgPath := "sheafworks/lang", byteOffset := 8 }]) := rfl
@[simp] theorem ED_size128 : ED.size 128 = some 2 := rfl
@[simp] theorem ED_own128 : ED.own 128 = false := rfl
@[simp] theorem ED_ti130 : ED.ti 130 = some { desc := (.func #[80, 3] #[4] false), size := 1, bytes := 8, zero := [.nilf], agg := false, cmp := true } := rfl
@[simp] theorem ED_desc130 : ED.desc 130 = some (.func #[80, 3] #[4] false) := rfl
@[simp] theorem ED_size130 : ED.size 130 = some 1 := rfl
@[simp] theorem ED_own130 : ED.own 130 = false := rfl
@[simp] theorem ED_ti132 : ED.ti 132 = some { desc := (.struct #[{ name := "parts", type := 3, offset := 0, embedded := false, tag := "", pkgPath := "sheafworks/lang", byteOffset := 0 }, { name := "n", type := 130, offset := 1, embedded := false, tag := "", pkgPath := "sheafworks/lang", byteOffset := 8 }, { name := "binds", type := 3, offset := 2, embedded := false, tag := "", pkgPath := "sheafworks/lang", byteOffset := 16 }, { name := "bindM", type := 3, offset := 3, embedded := false, tag := "", pkgPath := "sheafworks/lang", byteOffset := 24 }]), size := 4, bytes := 32, zero := [.int .i64 (0), .nilf, .int .i64 (0), .int .i64 (0)], agg := true, cmp := true } := rfl
@[simp] theorem ED_desc132 : ED.desc 132 = some (.struct #[{ name := "parts", type := 3, offset := 0, embedded := false, tag := "", pkgPath := "sheafworks/lang", byteOffset := 0 }, { name := "n", type := 130, offset := 1, embedded := false, tag := "", pkgPath := "sheafworks/lang", byteOffset := 8 }, { name := "binds", type := 3, offset := 2, embedded := false, tag := "", pkgPath := "sheafworks/lang", byteOffset := 16 }, { name := "bindM", type := 3, offset := 3, embedded := false, tag := "", pkgPath := "sheafworks/lang", byteOffset := 24 }]) := rfl
@[simp] theorem ED_size132 : ED.size 132 = some 4 := rfl
@[simp] theorem ED_own132 : ED.own 132 = false := rfl
@[simp] theorem ED_ti133 : ED.ti 133 = some { desc := (.array 27 132), size := 108, bytes := 864, zero := [.int .i64 (0), .nilf, .int .i64 (0), .int .i64 (0), .int .i64 (0), .nilf, .int .i64 (0), .int .i64 (0), .int .i64 (0), .nilf, .int .i64 (0), .int .i64 (0), .int .i64 (0), .nilf, .int .i64 (0), .int .i64 (0), .int .i64 (0), .nilf, .int .i64 (0), .int .i64 (0), .int .i64 (0), .nilf, .int .i64 (0), .int .i64 (0), .int .i64 (0), .nilf, .int .i64 (0), .int .i64 (0), .int .i64 (0), .nilf, .int .i64 (0), .int .i64 (0), .int .i64 (0), .nilf, .int .i64 (0), .int .i64 (0), .int .i64 (0), .nilf, .int .i64 (0), .int .i64 (0), .int .i64 (0), .nilf, .int .i64 (0), .int .i64 (0), .int .i64 (0), .nilf, .int .i64 (0), .int .i64 (0), .int .i64 (0), .nilf, .int .i64 (0), .int .i64 (0), .int .i64 (0), .nilf, .int .i64 (0), .int .i64 (0), .int .i64 (0), .nilf, .int .i64 (0), .int .i64 (0), .int .i64 (0), .nilf, .int .i64 (0), .int .i64 (0), .int .i64 (0), .nilf, .int .i64 (0), .int .i64 (0), .int .i64 (0), .nilf, .int .i64 (0), .int .i64 (0), .int .i64 (0), .nilf, .int .i64 (0), .int .i64 (0), .int .i64 (0), .nilf, .int .i64 (0), .int .i64 (0), .int .i64 (0), .nilf, .int .i64 (0), .int .i64 (0), .int .i64 (0), .nilf, .int .i64 (0), .int .i64 (0), .int .i64 (0), .nilf, .int .i64 (0), .int .i64 (0), .int .i64 (0), .nilf, .int .i64 (0), .int .i64 (0), .int .i64 (0), .nilf, .int .i64 (0), .int .i64 (0), .int .i64 (0), .nilf, .int .i64 (0), .int .i64 (0), .int .i64 (0), .nilf, .int .i64 (0), .int .i64 (0)], agg := true, cmp := true } := rfl
@[simp] theorem ED_desc133 : ED.desc 133 = some (.array 27 132) := rfl
@[simp] theorem ED_size133 : ED.size 133 = some 108 := rfl
@[simp] theorem ED_own133 : ED.own 133 = false := rfl
@[simp] theorem ED_ti135 : ED.ti 135 = some { desc := (.func #[59, 35] #[] false), size := 1, bytes := 8, zero := [.nilf], agg := false, cmp := true } := rfl
@[simp] theorem ED_desc135 : ED.desc 135 = some (.func #[59, 35] #[] false) := rfl
@[simp] theorem ED_size135 : ED.size 135 = some 1 := rfl
@[simp] theorem ED_own135 : ED.own 135 = false := rfl
@[simp] theorem ED_ti142 : ED.ti 142 = some { desc := (.map 9 4), size := 1, bytes := 8, zero := [.nilm], agg := false, cmp := true } := rfl
@[simp] theorem ED_desc142 : ED.desc 142 = some (.map 9 4) := rfl
@[simp] theorem ED_size142 : ED.size 142 = some 1 := rfl
@[simp] theorem ED_own142 : ED.own 142 = false := rfl
@[simp] theorem ED_ti183 : ED.ti 183 = some { desc := (.int .u64), size := 1, bytes := 8, zero := [.int .u64 (0)], agg := false, cmp := true } := rfl
@[simp] theorem ED_desc183 : ED.desc 183 = some (.int .u64) := rfl
@[simp] theorem ED_size183 : ED.size 183 = some 1 := rfl
@[simp] theorem ED_own183 : ED.own 183 = false := rfl
@[simp] theorem ED_ti197 : ED.ti 197 = some { desc := (.func #[59, 3, 35] #[] false), size := 1, bytes := 8, zero := [.nilf], agg := false, cmp := true } := rfl
@[simp] theorem ED_desc197 : ED.desc 197 = some (.func #[59, 3, 35] #[] false) := rfl
@[simp] theorem ED_size197 : ED.size 197 = some 1 := rfl
@[simp] theorem ED_own197 : ED.own 197 = false := rfl
theorem ED_fn4 : ED.fn 4 = some fi4 := rfl
@[simp] theorem ED_ext4 : ED.ext 4 = none := rfl
@[simp] theorem ED_lib4 : ED.lib 4 = none := rfl
@[simp] theorem ED_libS4 : ED.libS 4 = none := rfl
theorem ED_fn10 : ED.fn 10 = some fi10 := rfl
@[simp] theorem ED_ext10 : ED.ext 10 = none := rfl
@[simp] theorem ED_lib10 : ED.lib 10 = none := rfl
@[simp] theorem ED_libS10 : ED.libS 10 = none := rfl
theorem ED_fn13 : ED.fn 13 = some fi13 := rfl
@[simp] theorem ED_ext13 : ED.ext 13 = none := rfl
@[simp] theorem ED_lib13 : ED.lib 13 = none := rfl
@[simp] theorem ED_libS13 : ED.libS 13 = none := rfl
@[simp] theorem ED_ext14 : ED.ext 14 = none := rfl
theorem ED_fn15 : ED.fn 15 = some fi15 := rfl
@[simp] theorem ED_ext15 : ED.ext 15 = none := rfl
@[simp] theorem ED_lib15 : ED.lib 15 = none := rfl
@[simp] theorem ED_libS15 : ED.libS 15 = none := rfl
theorem ED_fn16 : ED.fn 16 = some fi16 := rfl
@[simp] theorem ED_ext16 : ED.ext 16 = none := rfl
@[simp] theorem ED_lib16 : ED.lib 16 = none := rfl
@[simp] theorem ED_libS16 : ED.libS 16 = none := rfl
theorem ED_fn19 : ED.fn 19 = some fi19 := rfl
@[simp] theorem ED_ext19 : ED.ext 19 = none := rfl
@[simp] theorem ED_lib19 : ED.lib 19 = none := rfl
@[simp] theorem ED_libS19 : ED.libS 19 = none := rfl
theorem ED_fn20 : ED.fn 20 = some fi20 := rfl
@[simp] theorem ED_ext20 : ED.ext 20 = none := rfl
@[simp] theorem ED_lib20 : ED.lib 20 = none := rfl
@[simp] theorem ED_libS20 : ED.libS 20 = none := rfl
theorem ED_fn21 : ED.fn 21 = some fi21 := rfl
@[simp] theorem ED_ext21 : ED.ext 21 = none := rfl
@[simp] theorem ED_lib21 : ED.lib 21 = none := rfl
@[simp] theorem ED_libS21 : ED.libS 21 = none := rfl
theorem ED_fn22 : ED.fn 22 = some fi22 := rfl
@[simp] theorem ED_ext22 : ED.ext 22 = none := rfl
@[simp] theorem ED_lib22 : ED.lib 22 = none := rfl
@[simp] theorem ED_libS22 : ED.libS 22 = none := rfl
theorem ED_fn23 : ED.fn 23 = some fi23 := rfl
@[simp] theorem ED_ext23 : ED.ext 23 = none := rfl
@[simp] theorem ED_lib23 : ED.lib 23 = none := rfl
@[simp] theorem ED_libS23 : ED.libS 23 = none := rfl
theorem ED_fn24 : ED.fn 24 = some fi24 := rfl
@[simp] theorem ED_ext24 : ED.ext 24 = none := rfl
@[simp] theorem ED_lib24 : ED.lib 24 = none := rfl
@[simp] theorem ED_libS24 : ED.libS 24 = none := rfl
theorem ED_fn25 : ED.fn 25 = some fi25 := rfl
@[simp] theorem ED_ext25 : ED.ext 25 = none := rfl
@[simp] theorem ED_lib25 : ED.lib 25 = none := rfl
@[simp] theorem ED_libS25 : ED.libS 25 = none := rfl
theorem ED_fn26 : ED.fn 26 = some fi26 := rfl
@[simp] theorem ED_ext26 : ED.ext 26 = none := rfl
@[simp] theorem ED_lib26 : ED.lib 26 = none := rfl
@[simp] theorem ED_libS26 : ED.libS 26 = none := rfl
theorem ED_fn38 : ED.fn 38 = some fi38 := rfl
@[simp] theorem ED_ext38 : ED.ext 38 = none := rfl
@[simp] theorem ED_lib38 : ED.lib 38 = none := rfl
@[simp] theorem ED_libS38 : ED.libS 38 = none := rfl
theorem ED_fn39 : ED.fn 39 = some fi39 := rfl
@[simp] theorem ED_ext39 : ED.ext 39 = none := rfl
@[simp] theorem ED_lib39 : ED.lib 39 = none := rfl
@[simp] theorem ED_libS39 : ED.libS 39 = none := rfl
theorem ED_fn41 : ED.fn 41 = some fi41 := rfl
@[simp] theorem ED_ext41 : ED.ext 41 = none := rfl
@[simp] theorem ED_lib41 : ED.lib 41 = some libTrim := rfl
@[simp] theorem ED_libS41 : ED.libS 41 = none := rfl
theorem ED_fn44 : ED.fn 44 = some fi44 := rfl
@[simp] theorem ED_ext44 : ED.ext 44 = none := rfl
@[simp] theorem ED_lib44 : ED.lib 44 = none := rfl
@[simp] theorem ED_libS44 : ED.libS 44 = none := rfl
theorem ED_fn45 : ED.fn 45 = some fi45 := rfl
@[simp] theorem ED_ext45 : ED.ext 45 = none := rfl
@[simp] theorem ED_lib45 : ED.lib 45 = none := rfl
@[simp] theorem ED_libS45 : ED.libS 45 = none := rfl
theorem ED_fn46 : ED.fn 46 = some fi46 := rfl
@[simp] theorem ED_ext46 : ED.ext 46 = none := rfl
@[simp] theorem ED_lib46 : ED.lib 46 = none := rfl
@[simp] theorem ED_libS46 : ED.libS 46 = none := rfl
theorem ED_fn47 : ED.fn 47 = some fi47 := rfl
@[simp] theorem ED_ext47 : ED.ext 47 = none := rfl
@[simp] theorem ED_lib47 : ED.lib 47 = none := rfl
@[simp] theorem ED_libS47 : ED.libS 47 = none := rfl
theorem ED_fn48 : ED.fn 48 = some fi48 := rfl
@[simp] theorem ED_ext48 : ED.ext 48 = none := rfl
@[simp] theorem ED_lib48 : ED.lib 48 = none := rfl
@[simp] theorem ED_libS48 : ED.libS 48 = none := rfl
theorem ED_fn49 : ED.fn 49 = some fi49 := rfl
@[simp] theorem ED_ext49 : ED.ext 49 = none := rfl
@[simp] theorem ED_lib49 : ED.lib 49 = none := rfl
@[simp] theorem ED_libS49 : ED.libS 49 = none := rfl
theorem ED_fn53 : ED.fn 53 = some fi53 := rfl
@[simp] theorem ED_ext53 : ED.ext 53 = none := rfl
@[simp] theorem ED_lib53 : ED.lib 53 = none := rfl
@[simp] theorem ED_libS53 : ED.libS 53 = none := rfl
theorem ED_fn55 : ED.fn 55 = some fi55 := rfl
@[simp] theorem ED_ext55 : ED.ext 55 = none := rfl
@[simp] theorem ED_lib55 : ED.lib 55 = none := rfl
@[simp] theorem ED_libS55 : ED.libS 55 = none := rfl
theorem ED_fn56 : ED.fn 56 = some fi56 := rfl
@[simp] theorem ED_ext56 : ED.ext 56 = none := rfl
@[simp] theorem ED_lib56 : ED.lib 56 = none := rfl
@[simp] theorem ED_libS56 : ED.libS 56 = none := rfl
theorem ED_fn57 : ED.fn 57 = some fi57 := rfl
@[simp] theorem ED_ext57 : ED.ext 57 = none := rfl
@[simp] theorem ED_lib57 : ED.lib 57 = none := rfl
@[simp] theorem ED_libS57 : ED.libS 57 = none := rfl
theorem ED_fn58 : ED.fn 58 = some fi58 := rfl
@[simp] theorem ED_ext58 : ED.ext 58 = none := rfl
@[simp] theorem ED_lib58 : ED.lib 58 = none := rfl
@[simp] theorem ED_libS58 : ED.libS 58 = none := rfl
theorem ED_fn59 : ED.fn 59 = some fi59 := rfl
@[simp] theorem ED_ext59 : ED.ext 59 = none := rfl
@[simp] theorem ED_lib59 : ED.lib 59 = none := rfl
@[simp] theorem ED_libS59 : ED.libS 59 = none := rfl
theorem ED_fn60 : ED.fn 60 = some fi60 := rfl
@[simp] theorem ED_ext60 : ED.ext 60 = none := rfl
@[simp] theorem ED_lib60 : ED.lib 60 = none := rfl
@[simp] theorem ED_libS60 : ED.libS 60 = none := rfl
theorem ED_fn61 : ED.fn 61 = some fi61 := rfl
@[simp] theorem ED_ext61 : ED.ext 61 = none := rfl
@[simp] theorem ED_lib61 : ED.lib 61 = none := rfl
@[simp] theorem ED_libS61 : ED.libS 61 = none := rfl
@[simp] theorem ED_ext63 : ED.ext 63 = none := rfl
theorem ED_fn72 : ED.fn 72 = some fi72 := rfl
@[simp] theorem ED_ext72 : ED.ext 72 = none := rfl
@[simp] theorem ED_lib72 : ED.lib 72 = none := rfl
@[simp] theorem ED_libS72 : ED.libS 72 = none := rfl
theorem ED_fn73 : ED.fn 73 = some fi73 := rfl
@[simp] theorem ED_ext73 : ED.ext 73 = none := rfl
@[simp] theorem ED_lib73 : ED.lib 73 = none := rfl
@[simp] theorem ED_libS73 : ED.libS 73 = none := rfl
theorem ED_fn76 : ED.fn 76 = some fi76 := rfl
@[simp] theorem ED_ext76 : ED.ext 76 = none := rfl
@[simp] theorem ED_lib76 : ED.lib 76 = none := rfl
@[simp] theorem ED_libS76 : ED.libS 76 = none := rfl
@[simp] theorem ED_ext79 : ED.ext 79 = none := rfl
@[simp] theorem ED_ext80 : ED.ext 80 = none := rfl
@[simp] theorem ED_ext81 : ED.ext 81 = none := rfl
theorem ED_fn86 : ED.fn 86 = some fi86 := rfl
@[simp] theorem ED_ext86 : ED.ext 86 = none := rfl
@[simp] theorem ED_lib86 : ED.lib 86 = none := rfl
@[simp] theorem ED_libS86 : ED.libS 86 = none := rfl
theorem ED_fn87 : ED.fn 87 = some fi87 := rfl
@[simp] theorem ED_ext87 : ED.ext 87 = none := rfl
@[simp] theorem ED_lib87 : ED.lib 87 = none := rfl
@[simp] theorem ED_libS87 : ED.libS 87 = none := rfl
theorem ED_fn88 : ED.fn 88 = some fi88 := rfl
@[simp] theorem ED_ext88 : ED.ext 88 = none := rfl
@[simp] theorem ED_lib88 : ED.lib 88 = none := rfl
@[simp] theorem ED_libS88 : ED.libS 88 = none := rfl
theorem ED_fn89 : ED.fn 89 = some fi89 := rfl
@[simp] theorem ED_ext89 : ED.ext 89 = none := rfl
@[simp] theorem ED_lib89 : ED.lib 89 = none := rfl
@[simp] theorem ED_libS89 : ED.libS 89 = none := rfl
theorem ED_fn90 : ED.fn 90 = some fi90 := rfl
@[simp] theorem ED_ext90 : ED.ext 90 = none := rfl
@[simp] theorem ED_lib90 : ED.lib 90 = none := rfl
@[simp] theorem ED_libS90 : ED.libS 90 = none := rfl
theorem ED_fn91 : ED.fn 91 = some fi91 := rfl
@[simp] theorem ED_ext91 : ED.ext 91 = none := rfl
@[simp] theorem ED_lib91 : ED.lib 91 = none := rfl
@[simp] theorem ED_libS91 : ED.libS 91 = none := rfl
theorem ED_fn92 : ED.fn 92 = some fi92 := rfl
@[simp] theorem ED_ext92 : ED.ext 92 = none := rfl
@[simp] theorem ED_lib92 : ED.lib 92 = none := rfl
@[simp] theorem ED_libS92 : ED.libS 92 = none := rfl
theorem ED_fn93 : ED.fn 93 = some fi93 := rfl
@[simp] theorem ED_ext93 : ED.ext 93 = none := rfl
@[simp] theorem ED_lib93 : ED.lib 93 = none := rfl
@[simp] theorem ED_libS93 : ED.libS 93 = none := rfl
theorem ED_fn94 : ED.fn 94 = some fi94 := rfl
@[simp] theorem ED_ext94 : ED.ext 94 = none := rfl
@[simp] theorem ED_lib94 : ED.lib 94 = none := rfl
@[simp] theorem ED_libS94 : ED.libS 94 = none := rfl
theorem ED_fn95 : ED.fn 95 = some fi95 := rfl
@[simp] theorem ED_ext95 : ED.ext 95 = none := rfl
@[simp] theorem ED_lib95 : ED.lib 95 = none := rfl
@[simp] theorem ED_libS95 : ED.libS 95 = none := rfl
theorem ED_fn96 : ED.fn 96 = some fi96 := rfl
@[simp] theorem ED_ext96 : ED.ext 96 = none := rfl
@[simp] theorem ED_lib96 : ED.lib 96 = none := rfl
@[simp] theorem ED_libS96 : ED.libS 96 = none := rfl
theorem ED_fn97 : ED.fn 97 = some fi97 := rfl
@[simp] theorem ED_ext97 : ED.ext 97 = none := rfl
@[simp] theorem ED_lib97 : ED.lib 97 = none := rfl
@[simp] theorem ED_libS97 : ED.libS 97 = none := rfl
@[simp] theorem ED_ext101 : ED.ext 101 = none := rfl
theorem ED_fn102 : ED.fn 102 = some fi102 := rfl
@[simp] theorem ED_ext102 : ED.ext 102 = none := rfl
@[simp] theorem ED_lib102 : ED.lib 102 = none := rfl
@[simp] theorem ED_libS102 : ED.libS 102 = none := rfl
theorem ED_fn103 : ED.fn 103 = some fi103 := rfl
@[simp] theorem ED_ext103 : ED.ext 103 = none := rfl
@[simp] theorem ED_lib103 : ED.lib 103 = none := rfl
@[simp] theorem ED_libS103 : ED.libS 103 = none := rfl
theorem ED_fn104 : ED.fn 104 = some fi104 := rfl
@[simp] theorem ED_ext104 : ED.ext 104 = none := rfl
@[simp] theorem ED_lib104 : ED.lib 104 = none := rfl
@[simp] theorem ED_libS104 : ED.libS 104 = none := rfl
theorem ED_fn105 : ED.fn 105 = some fi105 := rfl
@[simp] theorem ED_ext105 : ED.ext 105 = none := rfl
@[simp] theorem ED_lib105 : ED.lib 105 = none := rfl
@[simp] theorem ED_libS105 : ED.libS 105 = some sortS := rfl
theorem ED_fn106 : ED.fn 106 = some fi106 := rfl
@[simp] theorem ED_ext106 : ED.ext 106 = none := rfl
@[simp] theorem ED_lib106 : ED.lib 106 = none := rfl
@[simp] theorem ED_libS106 : ED.libS 106 = none := rfl
theorem ED_fn107 : ED.fn 107 = some fi107 := rfl
@[simp] theorem ED_ext107 : ED.ext 107 = none := rfl
@[simp] theorem ED_lib107 : ED.lib 107 = none := rfl
@[simp] theorem ED_libS107 : ED.libS 107 = none := rfl
theorem ED_fn108 : ED.fn 108 = some fi108 := rfl
@[simp] theorem ED_ext108 : ED.ext 108 = none := rfl
@[simp] theorem ED_lib108 : ED.lib 108 = none := rfl
@[simp] theorem ED_libS108 : ED.libS 108 = none := rfl
@[simp] theorem ED_ext109 : ED.ext 109 = none := rfl
theorem ED_fn128 : ED.fn 128 = some fi128 := rfl
@[simp] theorem ED_ext128 : ED.ext 128 = none := rfl
@[simp] theorem ED_lib128 : ED.lib 128 = none := rfl
@[simp] theorem ED_libS128 : ED.libS 128 = none := rfl
theorem ED_fn137 : ED.fn 137 = some fi137 := rfl
@[simp] theorem ED_ext137 : ED.ext 137 = none := rfl
@[simp] theorem ED_lib137 : ED.lib 137 = none := rfl
@[simp] theorem ED_libS137 : ED.libS 137 = none := rfl
theorem ED_fn138 : ED.fn 138 = some fi138 := rfl
@[simp] theorem ED_ext138 : ED.ext 138 = none := rfl
@[simp] theorem ED_lib138 : ED.lib 138 = none := rfl
@[simp] theorem ED_libS138 : ED.libS 138 = none := rfl
theorem ED_fn139 : ED.fn 139 = some fi139 := rfl
@[simp] theorem ED_ext139 : ED.ext 139 = none := rfl
@[simp] theorem ED_lib139 : ED.lib 139 = none := rfl
@[simp] theorem ED_libS139 : ED.libS 139 = none := rfl
theorem ED_fn140 : ED.fn 140 = some fi140 := rfl
@[simp] theorem ED_ext140 : ED.ext 140 = none := rfl
@[simp] theorem ED_lib140 : ED.lib 140 = none := rfl
@[simp] theorem ED_libS140 : ED.libS 140 = none := rfl
theorem ED_fn141 : ED.fn 141 = some fi141 := rfl
@[simp] theorem ED_ext141 : ED.ext 141 = none := rfl
@[simp] theorem ED_lib141 : ED.lib 141 = none := rfl
@[simp] theorem ED_libS141 : ED.libS 141 = none := rfl
theorem ED_fn142 : ED.fn 142 = some fi142 := rfl
@[simp] theorem ED_ext142 : ED.ext 142 = none := rfl
@[simp] theorem ED_lib142 : ED.lib 142 = none := rfl
@[simp] theorem ED_libS142 : ED.libS 142 = none := rfl
theorem ED_fn149 : ED.fn 149 = some fi149 := rfl
@[simp] theorem ED_ext149 : ED.ext 149 = none := rfl
@[simp] theorem ED_lib149 : ED.lib 149 = none := rfl
@[simp] theorem ED_libS149 : ED.libS 149 = none := rfl
theorem ED_fn150 : ED.fn 150 = some fi150 := rfl
@[simp] theorem ED_ext150 : ED.ext 150 = none := rfl
@[simp] theorem ED_lib150 : ED.lib 150 = none := rfl
@[simp] theorem ED_libS150 : ED.libS 150 = none := rfl
theorem ED_fn151 : ED.fn 151 = some fi151 := rfl
@[simp] theorem ED_ext151 : ED.ext 151 = none := rfl
@[simp] theorem ED_lib151 : ED.lib 151 = none := rfl
@[simp] theorem ED_libS151 : ED.libS 151 = none := rfl
theorem ED_fn152 : ED.fn 152 = some fi152 := rfl
@[simp] theorem ED_ext152 : ED.ext 152 = none := rfl
@[simp] theorem ED_lib152 : ED.lib 152 = none := rfl
@[simp] theorem ED_libS152 : ED.libS 152 = none := rfl
theorem ED_fn153 : ED.fn 153 = some fi153 := rfl
@[simp] theorem ED_ext153 : ED.ext 153 = none := rfl
@[simp] theorem ED_lib153 : ED.lib 153 = none := rfl
@[simp] theorem ED_libS153 : ED.libS 153 = none := rfl
@[simp] theorem ED_ext154 : ED.ext 154 = none := rfl
@[simp] theorem ED_ext155 : ED.ext 155 = none := rfl
theorem ED_fn186 : ED.fn 186 = some fi186 := rfl
@[simp] theorem ED_ext186 : ED.ext 186 = none := rfl
@[simp] theorem ED_lib186 : ED.lib 186 = none := rfl
@[simp] theorem ED_libS186 : ED.libS 186 = none := rfl
theorem ED_fn187 : ED.fn 187 = some fi187 := rfl
@[simp] theorem ED_ext187 : ED.ext 187 = none := rfl
@[simp] theorem ED_lib187 : ED.lib 187 = none := rfl
@[simp] theorem ED_libS187 : ED.libS 187 = none := rfl
theorem ED_fn188 : ED.fn 188 = some fi188 := rfl
@[simp] theorem ED_ext188 : ED.ext 188 = none := rfl
@[simp] theorem ED_lib188 : ED.lib 188 = none := rfl
@[simp] theorem ED_libS188 : ED.libS 188 = none := rfl
theorem ED_fn189 : ED.fn 189 = some fi189 := rfl
@[simp] theorem ED_ext189 : ED.ext 189 = none := rfl
@[simp] theorem ED_lib189 : ED.lib 189 = none := rfl
@[simp] theorem ED_libS189 : ED.libS 189 = none := rfl
theorem ED_fn192 : ED.fn 192 = some fi192 := rfl
@[simp] theorem ED_ext192 : ED.ext 192 = none := rfl
@[simp] theorem ED_lib192 : ED.lib 192 = none := rfl
@[simp] theorem ED_libS192 : ED.libS 192 = none := rfl
@[simp] theorem ED_ext223 : ED.ext 223 = none := rfl
@[simp] theorem ED_ext290 : ED.ext 290 = none := rfl
@[simp] theorem ED_ext291 : ED.ext 291 = none := rfl
@[simp] theorem ED_ext296 : ED.ext 296 = none := rfl
@[simp] theorem ED_ext297 : ED.ext 297 = none := rfl
def orE : Option Eff → Option Eff → Option Eff
 | some e, _ => some e
 | none, y => y
theorem orE_some {e : Eff} {y : Option Eff} : orE (some e) y = some e := rfl
theorem effR_or {E : Env} {call : CallF} {ρ : Operand → AV} {op : Op} {S : St} : effR E call ρ op S = orE (effA E call ρ op S) (newA E ρ op S) := by
 unfold effR orE
 cases effA E call ρ op S <;> rfl
theorem bad_push (S : St) (o : AO) : (S.push o).bad = S.bad := rfl
theorem wb_push (S : St) (o : AO) : (S.push o).wb = S.wb := rfl
theorem wb_put (S : St) (i : Nat) (o : AO) : (S.put i o).wb = S.wb := rfl
theorem bad_put (S : St) (i : Nat) (o : AO) (h : S.wb = 0) : (S.put i o).bad = S.bad := by simp [St.put, h]
theorem bad_S0 : S0.bad = false := rfl
theorem wb_S0 : S0.wb = 0 := rfl
theorem n_S0 : S0.n = 0 := rfl
/-- a loop, by what stands at its head -/
def loopC (X : Ctx) (c : Code) (L : Vm.Loc) (S : St) : Bool → CRes
 | true => evalC X (.loop c) L S
 | false => X.it (evalC X c) L S
theorem evalC_loopC {X : Ctx} {c : Code} {L : Vm.Loc} {S : St} : evalC X (.loop c) L S = loopC X c L S (mapHead c) := by
 cases h : mapHead c with
 | true => rfl
 | false => exact evalC_loop h
theorem loopC_false {X : Ctx} {c : Code} {L : Vm.Loc} {S : St} : loopC X c L S false = X.it (evalC X c) L S := rfl
def vm0 := And.intro @evalC_seq (And.intro @evalC_region (And.intro @runA_cons' (And.intro @runA_consN (And.intro @runA_consG (And.intro @guardR_true (And.intro @guardR_false (And.intro @guardV_bool (And.intro @guardV_tup (And.intro @runA_nil' (And.intro @eff_move (And.intro @eff_assign (And.intro @eff_binOp (And.intro @eff_build (And.intro @eff_buildSlice @eff_alloc))))))))))))))
def vm1 := And.intro @eff_box (And.intro @eff_store (And.intro @eff_load (And.intro @eff_fieldAddr (And.intro @eff_field (And.intro @eff_indexAddr (And.intro @eff_slice (And.intro @eff_extract (And.intro @eff_pick (And.intro @eff_unOp (And.intro @eff_convert (And.intro @eff_makeSlice (And.intro @eff_makeFunc (And.intro @eff_makeInterface (And.intro @eff_nilCheck @eff_panic))))))))))))))
def vm2 := And.intro @eff_len1 (And.intro @eff_max2 (And.intro @eff_min2 (And.intro @eff_append2 (And.intro @eff_callV (And.intro @stepE_val (And.intro @contR_ok (And.intro @contR_pan (And.intro @outC_ok (And.intro @outC_pan (And.intro @thenC_normal (And.intro @thenC_ret (And.intro @thenC_exit (And.intro @thenC_pan (And.intro @evalC_ret @evalC_skip))))))))))))))
def vm3 := And.intro @evalC_exit (And.intro @evalC_block (And.intro @evalC_scope (And.intro @valO_some (And.intro @bin_int (And.intro @evalC_cond (And.intro @condC_true (And.intro @condC_false (And.intro @cells?_put_push (And.intro @push_at (And.intro @put_at (And.intro @Nat.add_assoc (And.intro @n_push' (And.intro @n_put' @isCell_undef)))))))))))))
def vm4 := And.intro @known_undef (And.intro @cells_undef (And.intro @isCell_bool (And.intro @known_bool (And.intro @cells_bool (And.intro @isCell_int (And.intro @known_int (And.intro @cells_int (And.intro @isCell_str (And.intro @known_str (And.intro @cells_str (And.intro @isCell_nilp (And.intro @known_nilp (And.intro @cells_nilp (And.intro @isCell_ptr @known_ptr))))))))))))))
def vm5 := And.intro @cells_ptr (And.intro @isCell_rptr (And.intro @known_rptr (And.intro @cells_rptr (And.intro @isCell_nils (And.intro @known_nils (And.intro @cells_nils (And.intro @isCell_slice (And.intro @known_slice (And.intro @cells_slice (And.intro @isCell_rsl (And.intro @known_rsl (And.intro @cells_rsl (And.intro @isCell_nilm (And.intro @known_nilm @cells_nilm))))))))))))))
def vm6 := And.intro @isCell_map (And.intro @known_map (And.intro @cells_map (And.intro @isCell_fn (And.intro @known_fn (And.intro @cells_fn (And.intro @isCell_yld (And.intro @known_yld (And.intro @cells_yld (And.intro @isCell_nilf (And.intro @known_nilf (And.intro @cells_nilf (And.intro @isCell_iface (And.intro @known_iface (And.intro @cells_iface @isCell_nili))))))))))))))
def vm7 := And.intro @known_nili (And.intro @cells_nili (And.intro @isCell_agg (And.intro @known_agg (And.intro @cells_agg (And.intro @isCell_tup (And.intro @known_tup (And.intro @cells_tup (And.intro @GotF_some (And.intro @Got_some (And.intro @int_beq @int_bne))))))))))
def vm8 := And.intro @effR_or (And.intro @orE_some (And.intro @bad_push (And.intro @wb_push (And.intro @wb_put (And.intro @bad_put (And.intro @bad_S0 (And.intro @wb_S0 (And.intro @n_S0 (And.intro @evalC_loopC @loopC_false)))))))))
def vmS := And.intro @vm0 (And.intro @vm1 (And.intro @vm2 (And.intro @vm3 (And.intro @vm4 (And.intro @vm5 (And.intro @vm6 (And.intro @vm7 @vm8)))))))
end Go.Vm.L
