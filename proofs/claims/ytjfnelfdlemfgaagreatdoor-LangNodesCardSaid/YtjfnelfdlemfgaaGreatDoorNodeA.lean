/-
Look-ups in the tables, and the equations of the evaluator as one. No conditions.
-/
import Derived.Test.YtjfnelfdlemfgaaGreatDoorLib
import Derived.Test.YtjfnelfdlemfgaaGreatDoorVmJ
set_option linter.all false

namespace Go.Vm.L
open Go Go.Proofs Go.Vm
set_option maxRecDepth 100000
@[simp] theorem ED_ti1 : ED.ti 1 = some { desc := (.func #[] #[] false), size := 1, bytes := 8, zero := [.nilf], agg := false, cmp := true } := rfl
@[simp] theorem ED_desc1 : ED.desc 1 = some (.func #[] #[] false) := rfl
@[simp] theorem ED_size1 : ED.size 1 = some 1 := rfl
@[simp] theorem ED_ti3 : ED.ti 3 = some { desc := (.int .i64), size := 1, bytes := 8, zero := [.int .i64 (0)], agg := false, cmp := true } := rfl
@[simp] theorem ED_desc3 : ED.desc 3 = some (.int .i64) := rfl
@[simp] theorem ED_size3 : ED.size 3 = some 1 := rfl
@[simp] theorem ED_ti4 : ED.ti 4 = some { desc := .bool, size := 1, bytes := 1, zero := [.bool false], agg := false, cmp := true } := rfl
@[simp] theorem ED_desc4 : ED.desc 4 = some .bool := rfl
@[simp] theorem ED_size4 : ED.size 4 = some 1 := rfl
@[simp] theorem ED_ti5 : ED.ti 5 = some { desc := (.int .u8), size := 1, bytes := 1, zero := [.int .u8 (0)], agg := false, cmp := true } := rfl
@[simp] theorem ED_desc5 : ED.desc 5 = some (.int .u8) := rfl
@[simp] theorem ED_size5 : ED.size 5 = some 1 := rfl
@[simp] theorem ED_ti9 : ED.ti 9 = some { desc := .string, size := 1, bytes := 16, zero := [.str []], agg := false, cmp := true } := rfl
@[simp] theorem ED_desc9 : ED.desc 9 = some .string := rfl
@[simp] theorem ED_size9 : ED.size 9 = some 1 := rfl
@[simp] theorem ED_ti20 : ED.ti 20 = some { desc := (.interface #[]), size := 1, bytes := 16, zero := [.nili], agg := false, cmp := true } := rfl
@[simp] theorem ED_desc20 : ED.desc 20 = some (.interface #[]) := rfl
@[simp] theorem ED_size20 : ED.size 20 = some 1 := rfl
@[simp] theorem ED_ti22 : ED.ti 22 = some { desc := (.slice 63), size := 1, bytes := 24, zero := [.nils], agg := false, cmp := true } := rfl
@[simp] theorem ED_desc22 : ED.desc 22 = some (.slice 63) := rfl
@[simp] theorem ED_size22 : ED.size 22 = some 1 := rfl
@[simp] theorem ED_ti24 : ED.ti 24 = some { desc := (.struct #[{ name := "Funs", type := 22, offset := 0, embedded := false, tag := "", pkgPath := "", byteOffset := 0 }, { name := "Main", type := 3, offset := 1, embedded := false, tag := "", pkgPath := "", byteOffset := 24 }]), size := 2, bytes := 32, zero := [.nils, .int .i64 (0)], agg := true, cmp := true } := rfl
@[simp] theorem ED_desc24 : ED.desc 24 = some (.struct #[{ name := "Funs", type := 22, offset := 0, embedded := false, tag := "", pkgPath := "", byteOffset := 0 }, { name := "Main", type := 3, offset := 1, embedded := false, tag := "", pkgPath := "", byteOffset := 24 }]) := rfl
@[simp] theorem ED_size24 : ED.size 24 = some 2 := rfl
@[simp] theorem ED_ti27 : ED.ti 27 = some { desc := (.slice 61), size := 1, bytes := 24, zero := [.nils], agg := false, cmp := true } := rfl
@[simp] theorem ED_desc27 : ED.desc 27 = some (.slice 61) := rfl
@[simp] theorem ED_size27 : ED.size 27 = some 1 := rfl
@[simp] theorem ED_ti28 : ED.ti 28 = some { desc := (.int .i64), size := 1, bytes := 8, zero := [.int .i64 (0)], agg := false, cmp := true } := rfl
@[simp] theorem ED_desc28 : ED.desc 28 = some (.int .i64) := rfl
@[simp] theorem ED_size28 : ED.size 28 = some 1 := rfl
@[simp] theorem ED_ti35 : ED.ti 35 = some { desc := (.slice 3), size := 1, bytes := 24, zero := [.nils], agg := false, cmp := true } := rfl
@[simp] theorem ED_desc35 : ED.desc 35 = some (.slice 3) := rfl
@[simp] theorem ED_size35 : ED.size 35 = some 1 := rfl
@[simp] theorem ED_ti45 : ED.ti 45 = some { desc := (.struct #[{ name := "s", type := 9, offset := 0, embedded := false, tag := "", pkgPath := "sheafworks/sheafworkslaw09", byteOffset := 0 }, { name := "at", type := 3, offset := 1, embedded := false, tag := "", pkgPath := "sheafworks/sheafworkslaw09", byteOffset := 16 }, { name := "e", type := 28, offset := 2, embedded := false, tag := "", pkgPath := "sheafworks/sheafworkslaw09", byteOffset := 24 }]), size := 3, bytes := 32, zero := [.str [], .int .i64 (0), .int .i64 (0)], agg := true, cmp := true } := rfl
@[simp] theorem ED_desc45 : ED.desc 45 = some (.struct #[{ name := "s", type := 9, offset := 0, embedded := false, tag := "", pkgPath := "sheafworks/sheafworkslaw09", byteOffset := 0 }, { name := "at", type := 3, offset := 1, embedded := false, tag := "", pkgPath := "sheafworks/sheafworkslaw09", byteOffset := 16 }, { name := "e", type := 28, offset := 2, embedded := false, tag := "", pkgPath := "sheafworks/sheafworkslaw09", byteOffset := 24 }]) := rfl
@[simp] theorem ED_size45 : ED.size 45 = some 3 := rfl
@[simp] theorem ED_ti46 : ED.ti 46 = some { desc := (.slice 45), size := 1, bytes := 24, zero := [.nils], agg := false, cmp := true } := rfl
@[simp] theorem ED_desc46 : ED.desc 46 = some (.slice 45) := rfl
@[simp] theorem ED_size46 : ED.size 46 = some 1 := rfl
@[simp] theorem ED_ti47 : ED.ti 47 = some { desc := (.slice 9), size := 1, bytes := 24, zero := [.nils], agg := false, cmp := true } := rfl
@[simp] theorem ED_desc47 : ED.desc 47 = some (.slice 9) := rfl
@[simp] theorem ED_size47 : ED.size 47 = some 1 := rfl
@[simp] theorem ED_ti48 : ED.ti 48 = some { desc := (.int .u16), size := 1, bytes := 2, zero := [.int .u16 (0)], agg := false, cmp := true } := rfl
@[simp] theorem ED_desc48 : ED.desc 48 = some (.int .u16) := rfl
@[simp] theorem ED_size48 : ED.size 48 = some 1 := rfl
@[simp] theorem ED_ti54 : ED.ti 54 = some { desc := (.struct #[{ name := "Kind", type := 3, offset := 0, embedded := false, tag := "", pkgPath := "", byteOffset := 0 }, { name := "At", type := 3, offset := 1, embedded := false, tag := "", pkgPath := "", byteOffset := 8 }, { name := "End", type := 3, offset := 2, embedded := false, tag := "", pkgPath := "", byteOffset := 16 }, { name := "Text", type := 9, offset := 3, embedded := false, tag := "", pkgPath := "", byteOffset := 24 }, { name := "N", type := 3, offset := 4, embedded := false, tag := "", pkgPath := "", byteOffset := 40 }]), size := 5, bytes := 48, zero := [.int .i64 (0), .int .i64 (0), .int .i64 (0), .str [], .int .i64 (0)], agg := true, cmp := true } := rfl
@[simp] theorem ED_desc54 : ED.desc 54 = some (.struct #[{ name := "Kind", type := 3, offset := 0, embedded := false, tag := "", pkgPath := "", byteOffset := 0 }, { name := "At", type := 3, offset := 1, embedded := false, tag := "", pkgPath := "", byteOffset := 8 }, { name := "End", type := 3, offset := 2, embedded := false, tag := "", pkgPath := "", byteOffset := 16 }, { name := "Text", type := 9, offset := 3, embedded := false, tag := "", pkgPath := "", byteOffset := 24 }, { name := "N", type := 3, offset := 4, embedded := false, tag := "", pkgPath := "", byteOffset := 40 }]) := rfl
@[simp] theorem ED_size54 : ED.size 54 = some 5 := rfl
@[simp] theorem ED_ti56 : ED.ti 56 = some { desc := (.func #[59, 3, 3, 3] #[] false), size := 1, bytes := 8, zero := [.nilf], agg := false, cmp := true } := rfl
@[simp] theorem ED_desc56 : ED.desc 56 = some (.func #[59, 3, 3, 3] #[] false) := rfl
@[simp] theorem ED_size56 : ED.size 56 = some 1 := rfl
@[simp] theorem ED_ti57 : ED.ti 57 = some { desc := (.slice 59), size := 1, bytes := 24, zero := [.nils], agg := false, cmp := true } := rfl
@[simp] theorem ED_desc57 : ED.desc 57 = some (.slice 59) := rfl
@[simp] theorem ED_size57 : ED.size 57 = some 1 := rfl
@[simp] theorem ED_ti59 : ED.ti 59 = some { desc := (.struct #[{ name := "Op", type := 3, offset := 0, embedded := false, tag := "", pkgPath := "", byteOffset := 0 }, { name := "N", type := 3, offset := 1, embedded := false, tag := "", pkgPath := "", byteOffset := 8 }, { name := "M", type := 3, offset := 2, embedded := false, tag := "", pkgPath := "", byteOffset := 16 }, { name := "L", type := 57, offset := 3, embedded := false, tag := "", pkgPath := "", byteOffset := 24 }]), size := 4, bytes := 48, zero := [.int .i64 (0), .int .i64 (0), .int .i64 (0), .nils], agg := true, cmp := true } := rfl
@[simp] theorem ED_desc59 : ED.desc 59 = some (.struct #[{ name := "Op", type := 3, offset := 0, embedded := false, tag := "", pkgPath := "", byteOffset := 0 }, { name := "N", type := 3, offset := 1, embedded := false, tag := "", pkgPath := "", byteOffset := 8 }, { name := "M", type := 3, offset := 2, embedded := false, tag := "", pkgPath := "", byteOffset := 16 }, { name := "L", type := 57, offset := 3, embedded := false, tag := "", pkgPath := "", byteOffset := 24 }]) := rfl
@[simp] theorem ED_size59 : ED.size 59 = some 4 := rfl
@[simp] theorem ED_ti61 : ED.ti 61 = some { desc := (.struct #[{ name := "Fun", type := 3, offset := 0, embedded := false, tag := "", pkgPath := "", byteOffset := 0 }, { name := "Up", type := 3, offset := 1, embedded := false, tag := "", pkgPath := "", byteOffset := 8 }, { name := "Place", type := 3, offset := 2, embedded := false, tag := "", pkgPath := "", byteOffset := 16 }, { name := "Op", type := 3, offset := 3, embedded := false, tag := "", pkgPath := "", byteOffset := 24 }]), size := 4, bytes := 32, zero := [.int .i64 (0), .int .i64 (0), .int .i64 (0), .int .i64 (0)], agg := true, cmp := true } := rfl
@[simp] theorem ED_desc61 : ED.desc 61 = some (.struct #[{ name := "Fun", type := 3, offset := 0, embedded := false, tag := "", pkgPath := "", byteOffset := 0 }, { name := "Up", type := 3, offset := 1, embedded := false, tag := "", pkgPath := "", byteOffset := 8 }, { name := "Place", type := 3, offset := 2, embedded := false, tag := "", pkgPath := "", byteOffset := 16 }, { name := "Op", type := 3, offset := 3, embedded := false, tag := "", pkgPath := "", byteOffset := 24 }]) := rfl
@[simp] theorem ED_size61 : ED.size 61 = some 4 := rfl
@[simp] theorem ED_ti63 : ED.ti 63 = some { desc := (.struct #[{ name := "Name", type := 9, offset := 0, embedded := false, tag := "", pkgPath := "", byteOffset := 0 }, { name := "Param", type := 3, offset := 1, embedded := false, tag := "", pkgPath := "", byteOffset := 16 }, { name := "Body", type := 59, offset := 2, embedded := false, tag := "", pkgPath := "", byteOffset := 24 }]), size := 6, bytes := 72, zero := [.str [], .int .i64 (0), .int .i64 (0), .int .i64 (0), .int .i64 (0), .nils], agg := true, cmp := true } := rfl
@[simp] theorem ED_desc63 : ED.desc 63 = some (.struct #[{ name := "Name", type := 9, offset := 0, embedded := false, tag := "", pkgPath := "", byteOffset := 0 }, { name := "Param", type := 3, offset := 1, embedded := false, tag := "", pkgPath := "", byteOffset := 16 }, { name := "Body", type := 59, offset := 2, embedded := false, tag := "", pkgPath := "", byteOffset := 24 }]) := rfl
@[simp] theorem ED_size63 : ED.size 63 = some 6 := rfl
@[simp] theorem ED_ti65 : ED.ti 65 = some { desc := (.struct #[{ name := "LangNode", type := 61, offset := 0, embedded := true, tag := "", pkgPath := "", byteOffset := 0 }, { name := "Exp", type := 59, offset := 4, embedded := false, tag := "", pkgPath := "", byteOffset := 32 }]), size := 8, bytes := 80, zero := [.int .i64 (0), .int .i64 (0), .int .i64 (0), .int .i64 (0), .int .i64 (0), .int .i64 (0), .int .i64 (0), .nils], agg := true, cmp := true } := rfl
@[simp] theorem ED_desc65 : ED.desc 65 = some (.struct #[{ name := "LangNode", type := 61, offset := 0, embedded := true, tag := "", pkgPath := "", byteOffset := 0 }, { name := "Exp", type := 59, offset := 4, embedded := false, tag := "", pkgPath := "", byteOffset := 32 }]) := rfl
@[simp] theorem ED_size65 : ED.size 65 = some 8 := rfl
@[simp] theorem ED_ti66 : ED.ti 66 = some { desc := (.slice 65), size := 1, bytes := 24, zero := [.nils], agg := false, cmp := true } := rfl
@[simp] theorem ED_desc66 : ED.desc 66 = some (.slice 65) := rfl
@[simp] theorem ED_size66 : ED.size 66 = some 1 := rfl
@[simp] theorem ED_ti68 : ED.ti 68 = some { desc := (.array 400 4), size := 400, bytes := 400, zero := [.bool false, .bool false, .bool false, .bool false, .bool false, .bool false, .bool false, .bool false, .bool false, .bool false, .bool false, .bool false, .bool false, .bool false, .bool false, .bool false, .bool false, .bool false, .bool false, .bool false, .bool false, .bool false, .bool false, .bool false, .bool false, .bool false, .bool false, .bool false, .bool false, .bool false, .bool false, .bool false, .bool false, .bool false, .bool false, .bool false, .bool false, .bool false, .bool false, .bool false, .bool false, .bool false, .bool false, .bool false, .bool false, .bool false, .bool false, .bool false, .bool false, .bool false, .bool false, .bool false, .bool false, .bool false, .bool false, .bool false, .bool false, .bool false, .bool false, .bool false, .bool false, .bool false, .bool false, .bool false, .bool false, .bool false, .bool false, .bool false, .bool false, .bool false, .bool false, .bool false, .bool false, .bool false, .bool false, .bool false, .bool false, .bool false, .bool false, .bool false, .bool false, .bool false, .bool false, .bool false, .bool false, .bool false, .bool false, .bool false, .bool false, .bool false, .bool false, .bool false, .bool false, .bool false, .bool false, .bool false, .bool false, .bool false, .bool false, .bool false, .bool false, .bool false, .bool false, .bool false, .bool false, .bool false, .bool false, .bool false, .bool false, .bool false, .bool false, .bool false, .bool false, .bool false, .bool false, .bool false, .bool false, .bool false, .bool false, .bool false, .bool false, .bool false, .bool false, .bool false, .bool false, .bool false, .bool false, .bool false, .bool false, .bool false, .bool false, .bool false, .bool false, .bool false, .bool false, .bool false, .bool false, .bool false, .bool false, .bool false, .bool false, .bool false, .bool false, .bool false, .bool false, .bool false, .bool false, .bool false, .bool false, .bool false, .bool false, .bool false, .bool false, .bool false, .bool false, .bool false, .bool false, .bool false, .bool false, .bool false, .bool false, .bool false, .bool false, .bool false, .bool false, .bool false, .bool false, .bool false, .bool false, .bool false, .bool false, .bool false, .bool false, .bool false, .bool false, .bool false, .bool false, .bool false, .bool false, .bool false, .bool false, .bool false, .bool false, .bool false, .bool false, .bool false, .bool false, .bool false, .bool false, .bool false, .bool false, .bool false, .bool false, .bool false, .bool false, .bool false, .bool false, .bool false, .bool false, .bool false, .bool false, .bool false, .bool false, .bool false, .bool false, .bool false, .bool false, .bool false, .bool false, .bool false, .bool false, .bool false, .bool false, .bool false, .bool false, .bool false, .bool false, .bool false, .bool false, .bool false, .bool false, .bool false, .bool false, .bool false, .bool false, .bool false, .bool false, .bool false, .bool false, .bool false, .bool false, .bool false, .bool false, .bool false, .bool false, .bool false, .bool false, .bool false, .bool false, .bool false, .bool false, .bool false, .bool false, .bool false, .bool false, .bool false, .bool false, .bool false, .bool false, .bool false, .bool false, .bool false, .bool false, .bool false, .bool false, .bool false, .bool false, .bool false, .bool false, .bool false, .bool false, .bool false, .bool false, .bool false, .bool false, .bool false, .bool false, .bool false, .bool false, .bool false, .bool false, .bool false, .bool false, .bool false, .bool false, .bool false, .bool false, .bool false, .bool false, .bool false, .bool false, .bool false, .bool false, .bool false, .bool false, .bool false, .bool false, .bool false, .bool false, .bool false, .bool false, .bool false, .bool false, .bool false, .bool false, .bool false, .bool false, .bool false, .bool false, .bool false, .bool false, .bool false, .bool false, .bool false, .bool false, .bool false, .bool false, .bool false, .bool false, .bool false, .bool false, .bool false, .bool false, .bool false, .bool false, .bool false, .bool false, .bool false, .bool false, .bool false, .bool false, .bool false, .bool false, .bool false, .bool false, .bool false, .bool false, .bool false, .bool false, .bool false, .bool false, .bool false, .bool false, .bool false, .bool false, .bool false, .bool false, .bool false, .bool false, .bool false, .bool false, .bool false, .bool false, .bool false, .bool false, .bool false, .bool false, .bool false, .bool false, .bool false, .bool false, .bool false, .bool false, .bool false, .bool false, .bool false, .bool false, .bool false, .bool false, .bool false, .bool false, .bool false, .bool false, .bool false, .bool false, .bool false, .bool false, .bool false, .bool false, .bool false, .bool false, .bool false, .bool false, .bool false, .bool false, .bool false, .bool false, .bool false, .bool false, .bool false, .bool false, .bool false, .bool false, .bool false, .bool false, .bool false, .bool false, .bool false, .bool false, .bool false, .bool false, .bool false, .bool false, .bool false, .bool false, .bool false, .bool false, .bool false, .bool false, .bool false], agg := true, cmp := true } := rfl
@[simp] theorem ED_desc68 : ED.desc 68 = some (.array 400 4) := rfl
@[simp] theorem ED_size68 : ED.size 68 = some 400 := rfl
@[simp] theorem ED_ti70 : ED.ti 70 = some { desc := (.map 3 4), size := 1, bytes := 8, zero := [.nilm], agg := false, cmp := true } := rfl
@[simp] theorem ED_desc70 : ED.desc 70 = some (.map 3 4) := rfl
@[simp] theorem ED_size70 : ED.size 70 = some 1 := rfl
@[simp] theorem ED_ti74 : ED.ti 74 = some { desc := (.func #[59, 3] #[4] false), size := 1, bytes := 8, zero := [.nilf], agg := false, cmp := true } := rfl
@[simp] theorem ED_desc74 : ED.desc 74 = some (.func #[59, 3] #[4] false) := rfl
@[simp] theorem ED_size74 : ED.size 74 = some 1 := rfl
@[simp] theorem ED_ti76 : ED.ti 76 = some { desc := (.pointer 28), size := 1, bytes := 8, zero := [.nilp], agg := false, cmp := true } := rfl
@[simp] theorem ED_desc76 : ED.desc 76 = some (.pointer 28) := rfl
@[simp] theorem ED_size76 : ED.size 76 = some 1 := rfl
@[simp] theorem ED_ti77 : ED.ti 77 = some { desc := (.func #[118] #[] false), size := 1, bytes := 8, zero := [.nilf], agg := false, cmp := true } := rfl
@[simp] theorem ED_desc77 : ED.desc 77 = some (.func #[118] #[] false) := rfl
@[simp] theorem ED_size77 : ED.size 77 = some 1 := rfl
@[simp] theorem ED_ti78 : ED.ti 78 = some { desc := (.func #[118] #[] false), size := 1, bytes := 8, zero := [.nilf], agg := false, cmp := true } := rfl
@[simp] theorem ED_desc78 : ED.desc 78 = some (.func #[118] #[] false) := rfl
@[simp] theorem ED_size78 : ED.size 78 = some 1 := rfl
@[simp] theorem ED_ti80 : ED.ti 80 = some { desc := (.struct #[{ name := "Prog", type := 24, offset := 0, embedded := true, tag := "", pkgPath := "", byteOffset := 0 }]), size := 2, bytes := 32, zero := [.nils, .int .i64 (0)], agg := true, cmp := true } := rfl
@[simp] theorem ED_desc80 : ED.desc 80 = some (.struct #[{ name := "Prog", type := 24, offset := 0, embedded := true, tag := "", pkgPath := "", byteOffset := 0 }]) := rfl
@[simp] theorem ED_size80 : ED.size 80 = some 2 := rfl
@[simp] theorem ED_ti83 : ED.ti 83 = some { desc := (.func #[] #[9] false), size := 1, bytes := 8, zero := [.nilf], agg := false, cmp := true } := rfl
@[simp] theorem ED_desc83 : ED.desc 83 = some (.func #[] #[9] false) := rfl
@[simp] theorem ED_size83 : ED.size 83 = some 1 := rfl
@[simp] theorem ED_ti85 : ED.ti 85 = some { desc := (.interface #[("sheafworks/lang.level", 214), ("sheafworks/lang.string", 83)]), size := 1, bytes := 16, zero := [.nili], agg := false, cmp := false } := rfl
@[simp] theorem ED_desc85 : ED.desc 85 = some (.interface #[("sheafworks/lang.level", 214), ("sheafworks/lang.string", 83)]) := rfl
@[simp] theorem ED_size85 : ED.size 85 = some 1 := rfl
@[simp] theorem ED_ti108 : ED.ti 108 = some { desc := (.array 256 4), size := 256, bytes := 256, zero := [.bool false, .bool false, .bool false, .bool false, .bool false, .bool false, .bool false, .bool false, .bool false, .bool false, .bool false, .bool false, .bool false, .bool false, .bool false, .bool false, .bool false, .bool false, .bool false, .bool false, .bool false, .bool false, .bool false, .bool false, .bool false, .bool false, .bool false, .bool false, .bool false, .bool false, .bool false, .bool false, .bool false, .bool false, .bool false, .bool false, .bool false, .bool false, .bool false, .bool false, .bool false, .bool false, .bool false, .bool false, .bool false, .bool false, .bool false, .bool false, .bool false, .bool false, .bool false, .bool false, .bool false, .bool false, .bool false, .bool false, .bool false, .bool false, .bool false, .bool false, .bool false, .bool false, .bool false, .bool false, .bool false, .bool false, .bool false, .bool false, .bool false, .bool false, .bool false, .bool false, .bool false, .bool false, .bool false, .bool false, .bool false, .bool false, .bool false, .bool false, .bool false, .bool false, .bool false, .bool false, .bool false, .bool false, .bool false, .bool false, .bool false, .bool false, .bool false, .bool false, .bool false, .bool false, .bool false, .bool false, .bool false, .bool false, .bool false, .bool false, .bool false, .bool false, .bool false, .bool false, .bool false, .bool false, .bool false, .bool false, .bool false, .bool false, .bool false, .bool false, .bool false, .bool false, .bool false, .bool false, .bool false, .bool false, .bool false, .bool false, .bool false, .bool false, .bool false, .bool false, .bool false, .bool false, .bool false, .bool false, .bool false, .bool false, .bool false, .bool false, .bool false, .bool false, .bool false, .bool false, .bool false, .bool false, .bool false, .bool false, .bool false, .bool false, .bool false, .bool false, .bool false, .bool false, .bool false, .bool false, .bool false, .bool false, .bool false, .bool false, .bool false, .bool false, .bool false, .bool false, .bool false, .bool false, .bool false, .bool false, .bool false, .bool false, .bool false, .bool false, .bool false, .bool false, .bool false, .bool false, .bool false, .bool false, .bool false, .bool false, .bool false, .bool false, .bool false, .bool false, .bool false, .bool false, .bool false, .bool false, .bool false, .bool false, .bool false, .bool false, .bool false, .bool false, .bool false, .bool false, .bool false, .bool false, .bool false, .bool false, .bool false, .bool false, .bool false, .bool false, .bool false, .bool false, .bool false, .bool false, .bool false, .bool false, .bool false, .bool false, .bool false, .bool false, .bool false, .bool false, .bool false, .bool false, .bool false, .bool false, .bool false, .bool false, .bool false, .bool false, .bool false, .bool false, .bool false, .bool false, .bool false, .bool false, .bool false, .bool false, .bool false, .bool false, .bool false, .bool false, .bool false, .bool false, .bool false, .bool false, .bool false, .bool false, .bool false, .bool false, .bool false, .bool false, .bool false, .bool false, .bool false, .bool false, .bool false, .bool false, .bool false, .bool false, .bool false, .bool false, .bool false, .bool false, .bool false, .bool false, .bool false, .bool false, .bool false, .bool false], agg := true, cmp := true } := rfl
@[simp] theorem ED_desc108 : ED.desc 108 = some (.array 256 4) := rfl
@[simp] theorem ED_size108 : ED.size 108 = some 256 := rfl
@[simp] theorem ED_ti116 : ED.ti 116 = some { desc := (.func #[63] #[4] false), size := 1, bytes := 8, zero := [.nilf], agg := false, cmp := true } := rfl
@[simp] theorem ED_desc116 : ED.desc 116 = some (.func #[63] #[4] false) := rfl
@[simp] theorem ED_size116 : ED.size 116 = some 1 := rfl
@[simp] theorem ED_ti118 : ED.ti 118 = some { desc := (.func #[61, 59] #[4] false), size := 1, bytes := 8, zero := [.nilf], agg := false, cmp := true } := rfl
@[simp] theorem ED_desc118 : ED.desc 118 = some (.func #[61, 59] #[4] false) := rfl
@[simp] theorem ED_size118 : ED.size 118 = some 1 := rfl
@[simp] theorem ED_ti119 : ED.ti 119 = some { desc := (.func #[59, 61] #[4] false), size := 1, bytes := 8, zero := [.nilf], agg := false, cmp := true } := rfl
@[simp] theorem ED_desc119 : ED.desc 119 = some (.func #[59, 61] #[4] false) := rfl
@[simp] theorem ED_size119 : ED.size 119 = some 1 := rfl
@[simp] theorem ED_ti122 : ED.ti 122 = some { desc := (.array 12 3), size := 12, bytes := 96, zero := [.int .i64 (0), .int .i64 (0), .int .i64 (0), .int .i64 (0), .int .i64 (0), .int .i64 (0), .int .i64 (0), .int .i64 (0), .int .i64 (0), .int .i64 (0), .int .i64 (0), .int .i64 (0)], agg := true, cmp := true } := rfl
@[simp] theorem ED_desc122 : ED.desc 122 = some (.array 12 3) := rfl
@[simp] theorem ED_size122 : ED.size 122 = some 12 := rfl
@[simp] theorem ED_ti124 : ED.ti 124 = some { desc := (.struct #[{ name := "p", type := 80, offset := 0, embedded := false, tag := "", pkgPath := "sheafworks/lang", byteOffset := 0 }, { name := "e", type := 59, offset := 2, embedded := false, tag := "", pkgPath := "sheafworks/lang", byteOffset := 32 }]), size := 6, bytes := 80, zero := [.nils, .int .i64 (0), .int .i64 (0), .int .i64 (0), .int .i64 (0), .nils], agg := true, cmp := true } := rfl
@[simp] theorem ED_desc124 : ED.desc 124 = some (.struct #[{ name := "p", type := 80, offset := 0, embedded := false, tag := "", pkgPath := "sheafworks/lang", byteOffset := 0 }, { name := "e", type := 59, offset := 2, embedded := false, tag := "", pkgPath := "sheafworks/lang", byteOffset := 32 }]) := rfl
@[simp] theorem ED_size124 : ED.size 124 = some 6 := rfl
@[simp] theorem ED_ti126 : ED.ti 126 = some { desc := (.struct #[{ name := "plain", type := 124, offset := 0, embedded := true, tag := "", pkgPath := "sheafworks/lang", byteOffset := 0 }]), size := 6, bytes := 80, zero := [.nils, .int .i64 (0), .int .i64 (0), .int .i64 (0), .int .i64 (0), .nils], agg := true, cmp := true } := rfl
@[simp] theorem ED_desc126 : ED.desc 126 = some (.struct #[{ name := "plain", type := 124, offset := 0, embedded := true, tag := "", pkgPath := "sheafworks/lang", byteOffset := 0 }]) := rfl
@[simp] theorem ED_size126 : ED.size 126 = some 6 := rfl
@[simp] theorem ED_ti128 : ED.ti 128 = some { desc := (.struct #[{ name := "e", type := 28, offset := 0, embedded := false, tag := "", pkgPath := "sheafworks/lang", byteOffset := 0 }, { name := "at", type := 3, offset := 1, embedded := false, tag := "", pkgPath := "sheafworks/lang", byteOffset := 8 }]), size := 2, bytes := 16, zero := [.int .i64 (0), .int .i64 (0)], agg := true, cmp := true } := rfl
@[simp] theorem ED_desc128 : ED.desc 128 = some (.struct #[{ name := "e", type := 28, offset := 0, embedded := false, tag := "", pkgPath := "sheafworks/lang", byteOffset := 0 }, { name := "at", type := 3, offset := 1, embedded := false, tag := "", pkgPath := "sheafworks/lang", byteOffset := 8 }]) := rfl
@[simp] theorem ED_size128 : ED.size 128 = some 2 := rfl
@[simp] theorem ED_ti130 : ED.ti 130 = some { desc := (.func #[80, 3] #[4] false), size := 1, bytes := 8, zero := [.nilf], agg := false, cmp := true } := rfl
@[simp] theorem ED_desc130 : ED.desc 130 = some (.func #[80, 3] #[4] false) := rfl
@[simp] theorem ED_size130 : ED.size 130 = some 1 := rfl
@[simp] theorem ED_ti132 : ED.ti 132 = some { desc := (.struct #[{ name := "parts", type := 3, offset := 0, embedded := false, tag := "", pkgPath := "sheafworks/lang", byteOffset := 0 }, { name := "n", type := 130, offset := 1, embedded := false, tag := "", pkgPath := "sheafworks/lang", byteOffset := 8 }, { name := "binds", type := 3, offset := 2, embedded := false, tag := "", pkgPath := "sheafworks/lang", byteOffset := 16 }, { name := "bindM", type := 3, offset := 3, embedded := false, tag := "", pkgPath := "sheafworks/lang", byteOffset := 24 }]), size := 4, bytes := 32, zero := [.int .i64 (0), .nilf, .int .i64 (0), .int .i64 (0)], agg := true, cmp := true } := rfl
@[simp] theorem ED_desc132 : ED.desc 132 = some (.struct #[{ name := "parts", type := 3, offset := 0, embedded := false, tag := "", pkgPath := "sheafworks/lang", byteOffset := 0 }, { name := "n", type := 130, offset := 1, embedded := false, tag := "", pkgPath := "sheafworks/lang", byteOffset := 8 }, { name := "binds", type := 3, offset := 2, embedded := false, tag := "", pkgPath := "sheafworks/lang", byteOffset := 16 }, { name := "bindM", type := 3, offset := 3, embedded := false, tag := "", pkgPath := "sheafworks/lang", byteOffset := 24 }]) := rfl
@[simp] theorem ED_size132 : ED.size 132 = some 4 := rfl
@[simp] theorem ED_ti133 : ED.ti 133 = some { desc := (.array 27 132), size := 108, bytes := 864, zero := [.int .i64 (0), .nilf, .int .i64 (0), .int .i64 (0), .int .i64 (0), .nilf, .int .i64 (0), .int .i64 (0), .int .i64 (0), .nilf, .int .i64 (0), .int .i64 (0), .int .i64 (0), .nilf, .int .i64 (0), .int .i64 (0), .int .i64 (0), .nilf, .int .i64 (0), .int .i64 (0), .int .i64 (0), .nilf, .int .i64 (0), .int .i64 (0), .int .i64 (0), .nilf, .int .i64 (0), .int .i64 (0), .int .i64 (0), .nilf, .int .i64 (0), .int .i64 (0), .int .i64 (0), .nilf, .int .i64 (0), .int .i64 (0), .int .i64 (0), .nilf, .int .i64 (0), .int .i64 (0), .int .i64 (0), .nilf, .int .i64 (0), .int .i64 (0), .int .i64 (0), .nilf, .int .i64 (0), .int .i64 (0), .int .i64 (0), .nilf, .int .i64 (0), .int .i64 (0), .int .i64 (0), .nilf, .int .i64 (0), .int .i64 (0), .int .i64 (0), .nilf, .int .i64 (0), .int .i64 (0), .int .i64 (0), .nilf, .int .i64 (0), .int .i64 (0), .int .i64 (0), .nilf, .int .i64 (0), .int .i64 (0), .int .i64 (0), .nilf, .int .i64 (0), .int .i64 (0), .int .i64 (0), .nilf, .int .i64 (0), .int .i64 (0), .int .i64 (0), .nilf, .int .i64 (0), .int .i64 (0), .int .i64 (0), .nilf, .int .i64 (0), .int .i64 (0), .int .i64 (0), .nilf, .int .i64 (0), .int .i64 (0), .int .i64 (0), .nilf, .int .i64 (0), .int .i64 (0), .int .i64 (0), .nilf, .int .i64 (0), .int .i64 (0), .int .i64 (0), .nilf, .int .i64 (0), .int .i64 (0), .int .i64 (0), .nilf, .int .i64 (0), .int .i64 (0), .int .i64 (0), .nilf, .int .i64 (0), .int .i64 (0)], agg := true, cmp := true } := rfl
@[simp] theorem ED_desc133 : ED.desc 133 = some (.array 27 132) := rfl
@[simp] theorem ED_size133 : ED.size 133 = some 108 := rfl
@[simp] theorem ED_ti135 : ED.ti 135 = some { desc := (.func #[59, 35] #[] false), size := 1, bytes := 8, zero := [.nilf], agg := false, cmp := true } := rfl
@[simp] theorem ED_desc135 : ED.desc 135 = some (.func #[59, 35] #[] false) := rfl
@[simp] theorem ED_size135 : ED.size 135 = some 1 := rfl
@[simp] theorem ED_ti141 : ED.ti 141 = some { desc := (.pointer 148), size := 1, bytes := 8, zero := [.nilp], agg := false, cmp := true } := rfl
@[simp] theorem ED_desc141 : ED.desc 141 = some (.pointer 148) := rfl
@[simp] theorem ED_size141 : ED.size 141 = some 1 := rfl
@[simp] theorem ED_ti142 : ED.ti 142 = some { desc := (.map 9 4), size := 1, bytes := 8, zero := [.nilm], agg := false, cmp := true } := rfl
@[simp] theorem ED_desc142 : ED.desc 142 = some (.map 9 4) := rfl
@[simp] theorem ED_size142 : ED.size 142 = some 1 := rfl
@[simp] theorem ED_ti144 : ED.ti 144 = some { desc := (.map 9 3), size := 1, bytes := 8, zero := [.nilm], agg := false, cmp := true } := rfl
@[simp] theorem ED_desc144 : ED.desc 144 = some (.map 9 3) := rfl
@[simp] theorem ED_size144 : ED.size 144 = some 1 := rfl
@[simp] theorem ED_ti145 : ED.ti 145 = some { desc := (.slice 155), size := 1, bytes := 24, zero := [.nils], agg := false, cmp := true } := rfl
@[simp] theorem ED_desc145 : ED.desc 145 = some (.slice 155) := rfl
@[simp] theorem ED_size145 : ED.size 145 = some 1 := rfl
@[simp] theorem ED_ti146 : ED.ti 146 = some { desc := (.slice 128), size := 1, bytes := 24, zero := [.nils], agg := false, cmp := true } := rfl
@[simp] theorem ED_desc146 : ED.desc 146 = some (.slice 128) := rfl
@[simp] theorem ED_size146 : ED.size 146 = some 1 := rfl
@[simp] theorem ED_ti148 : ED.ti 148 = some { desc := (.struct #[{ name := "l", type := 145, offset := 0, embedded := false, tag := "", pkgPath := "sheafworks/lang", byteOffset := 0 }, { name := "bad", type := 146, offset := 1, embedded := false, tag := "", pkgPath := "sheafworks/lang", byteOffset := 24 }, { name := "no", type := 142, offset := 2, embedded := false, tag := "", pkgPath := "sheafworks/lang", byteOffset := 48 }, { name := "defs", type := 144, offset := 3, embedded := false, tag := "", pkgPath := "sheafworks/lang", byteOffset := 56 }]), size := 4, bytes := 64, zero := [.nils, .nils, .nilm, .nilm], agg := true, cmp := true } := rfl
@[simp] theorem ED_desc148 : ED.desc 148 = some (.struct #[{ name := "l", type := 145, offset := 0, embedded := false, tag := "", pkgPath := "sheafworks/lang", byteOffset := 0 }, { name := "bad", type := 146, offset := 1, embedded := false, tag := "", pkgPath := "sheafworks/lang", byteOffset := 24 }, { name := "no", type := 142, offset := 2, embedded := false, tag := "", pkgPath := "sheafworks/lang", byteOffset := 48 }, { name := "defs", type := 144, offset := 3, embedded := false, tag := "", pkgPath := "sheafworks/lang", byteOffset := 56 }]) := rfl
@[simp] theorem ED_size148 : ED.size 148 = some 4 := rfl
@[simp] theorem ED_ti149 : ED.ti 149 = some { desc := (.func #[207] #[] false), size := 1, bytes := 8, zero := [.nilf], agg := false, cmp := true } := rfl
@[simp] theorem ED_desc149 : ED.desc 149 = some (.func #[207] #[] false) := rfl
@[simp] theorem ED_size149 : ED.size 149 = some 1 := rfl
@[simp] theorem ED_ti150 : ED.ti 150 = some { desc := (.func #[207] #[] false), size := 1, bytes := 8, zero := [.nilf], agg := false, cmp := true } := rfl
@[simp] theorem ED_desc150 : ED.desc 150 = some (.func #[207] #[] false) := rfl
@[simp] theorem ED_size150 : ED.size 150 = some 1 := rfl
@[simp] theorem ED_ti153 : ED.ti 153 = some { desc := (.struct #[{ name := "kind", type := 3, offset := 0, embedded := false, tag := "", pkgPath := "sheafworks/lang", byteOffset := 0 }, { name := "s", type := 9, offset := 1, embedded := false, tag := "", pkgPath := "sheafworks/lang", byteOffset := 8 }]), size := 2, bytes := 24, zero := [.int .i64 (0), .str []], agg := true, cmp := true } := rfl
@[simp] theorem ED_desc153 : ED.desc 153 = some (.struct #[{ name := "kind", type := 3, offset := 0, embedded := false, tag := "", pkgPath := "sheafworks/lang", byteOffset := 0 }, { name := "s", type := 9, offset := 1, embedded := false, tag := "", pkgPath := "sheafworks/lang", byteOffset := 8 }]) := rfl
@[simp] theorem ED_size153 : ED.size 153 = some 2 := rfl
@[simp] theorem ED_ti155 : ED.ti 155 = some { desc := (.struct #[{ name := "token", type := 153, offset := 0, embedded := true, tag := "", pkgPath := "sheafworks/lang", byteOffset := 0 }, { name := "at", type := 3, offset := 2, embedded := false, tag := "", pkgPath := "sheafworks/lang", byteOffset := 24 }]), size := 3, bytes := 32, zero := [.int .i64 (0), .str [], .int .i64 (0)], agg := true, cmp := true } := rfl
@[simp] theorem ED_desc155 : ED.desc 155 = some (.struct #[{ name := "token", type := 153, offset := 0, embedded := true, tag := "", pkgPath := "sheafworks/lang", byteOffset := 0 }, { name := "at", type := 3, offset := 2, embedded := false, tag := "", pkgPath := "sheafworks/lang", byteOffset := 24 }]) := rfl
@[simp] theorem ED_size155 : ED.size 155 = some 3 := rfl
@[simp] theorem ED_ti156 : ED.ti 156 = some { desc := (.slice 161), size := 1, bytes := 24, zero := [.nils], agg := false, cmp := true } := rfl
@[simp] theorem ED_desc156 : ED.desc 156 = some (.slice 161) := rfl
@[simp] theorem ED_size156 : ED.size 156 = some 1 := rfl
@[simp] theorem ED_ti159 : ED.ti 159 = some { desc := (.pointer 219), size := 1, bytes := 8, zero := [.nilp], agg := false, cmp := true } := rfl
@[simp] theorem ED_desc159 : ED.desc 159 = some (.pointer 219) := rfl
@[simp] theorem ED_size159 : ED.size 159 = some 1 := rfl
@[simp] theorem ED_ti161 : ED.ti 161 = some { desc := (.struct #[{ name := "name", type := 155, offset := 0, embedded := false, tag := "", pkgPath := "sheafworks/lang", byteOffset := 0 }, { name := "param", type := 3, offset := 3, embedded := false, tag := "", pkgPath := "sheafworks/lang", byteOffset := 32 }, { name := "body", type := 159, offset := 4, embedded := false, tag := "", pkgPath := "sheafworks/lang", byteOffset := 40 }]), size := 5, bytes := 48, zero := [.int .i64 (0), .str [], .int .i64 (0), .int .i64 (0), .nilp], agg := true, cmp := true } := rfl
@[simp] theorem ED_desc161 : ED.desc 161 = some (.struct #[{ name := "name", type := 155, offset := 0, embedded := false, tag := "", pkgPath := "sheafworks/lang", byteOffset := 0 }, { name := "param", type := 3, offset := 3, embedded := false, tag := "", pkgPath := "sheafworks/lang", byteOffset := 32 }, { name := "body", type := 159, offset := 4, embedded := false, tag := "", pkgPath := "sheafworks/lang", byteOffset := 40 }]) := rfl
@[simp] theorem ED_size161 : ED.size 161 = some 5 := rfl
@[simp] theorem ED_ti163 : ED.ti 163 = some { desc := (.pointer 35), size := 1, bytes := 8, zero := [.nilp], agg := false, cmp := true } := rfl
@[simp] theorem ED_desc163 : ED.desc 163 = some (.pointer 35) := rfl
@[simp] theorem ED_size163 : ED.size 163 = some 1 := rfl
@[simp] theorem ED_ti165 : ED.ti 165 = some { desc := (.func #[128, 128] #[3] false), size := 1, bytes := 8, zero := [.nilf], agg := false, cmp := true } := rfl
@[simp] theorem ED_desc165 : ED.desc 165 = some (.func #[128, 128] #[3] false) := rfl
@[simp] theorem ED_size165 : ED.size 165 = some 1 := rfl
@[simp] theorem ED_ti167 : ED.ti 167 = some { desc := (.slice 180), size := 1, bytes := 24, zero := [.nils], agg := false, cmp := true } := rfl
@[simp] theorem ED_desc167 : ED.desc 167 = some (.slice 180) := rfl
@[simp] theorem ED_size167 : ED.size 167 = some 1 := rfl
@[simp] theorem ED_ti169 : ED.ti 169 = some { desc := (.struct #[{ name := "S", type := 9, offset := 0, embedded := false, tag := "", pkgPath := "", byteOffset := 0 }, { name := "Tok", type := 54, offset := 1, embedded := false, tag := "", pkgPath := "", byteOffset := 16 }, { name := "Bad", type := 4, offset := 6, embedded := false, tag := "", pkgPath := "", byteOffset := 64 }]), size := 7, bytes := 72, zero := [.str [], .int .i64 (0), .int .i64 (0), .int .i64 (0), .str [], .int .i64 (0), .bool false], agg := true, cmp := true } := rfl
@[simp] theorem ED_desc169 : ED.desc 169 = some (.struct #[{ name := "S", type := 9, offset := 0, embedded := false, tag := "", pkgPath := "", byteOffset := 0 }, { name := "Tok", type := 54, offset := 1, embedded := false, tag := "", pkgPath := "", byteOffset := 16 }, { name := "Bad", type := 4, offset := 6, embedded := false, tag := "", pkgPath := "", byteOffset := 64 }]) := rfl
@[simp] theorem ED_size169 : ED.size 169 = some 7 := rfl
@[simp] theorem ED_ti173 : ED.ti 173 = some { desc := (.struct #[{ name := "At", type := 3, offset := 0, embedded := false, tag := "", pkgPath := "", byteOffset := 0 }, { name := "E", type := 28, offset := 1, embedded := false, tag := "", pkgPath := "", byteOffset := 8 }]), size := 2, bytes := 16, zero := [.int .i64 (0), .int .i64 (0)], agg := true, cmp := true } := rfl
@[simp] theorem ED_desc173 : ED.desc 173 = some (.struct #[{ name := "At", type := 3, offset := 0, embedded := false, tag := "", pkgPath := "", byteOffset := 0 }, { name := "E", type := 28, offset := 1, embedded := false, tag := "", pkgPath := "", byteOffset := 8 }]) := rfl
@[simp] theorem ED_size173 : ED.size 173 = some 2 := rfl
@[simp] theorem ED_ti176 : ED.ti 176 = some { desc := (.slice 178), size := 1, bytes := 24, zero := [.nils], agg := false, cmp := true } := rfl
@[simp] theorem ED_desc176 : ED.desc 176 = some (.slice 178) := rfl
@[simp] theorem ED_size176 : ED.size 176 = some 1 := rfl
@[simp] theorem ED_ti178 : ED.ti 178 = some { desc := (.struct #[{ name := "Op", type := 3, offset := 0, embedded := false, tag := "", pkgPath := "", byteOffset := 0 }, { name := "N", type := 3, offset := 1, embedded := false, tag := "", pkgPath := "", byteOffset := 8 }, { name := "M", type := 3, offset := 2, embedded := false, tag := "", pkgPath := "", byteOffset := 16 }, { name := "Spot", type := 3, offset := 3, embedded := false, tag := "", pkgPath := "", byteOffset := 24 }, { name := "From", type := 3, offset := 4, embedded := false, tag := "", pkgPath := "", byteOffset := 32 }, { name := "NAt", type := 3, offset := 5, embedded := false, tag := "", pkgPath := "", byteOffset := 40 }, { name := "MAt", type := 3, offset := 6, embedded := false, tag := "", pkgPath := "", byteOffset := 48 }, { name := "Name", type := 9, offset := 7, embedded := false, tag := "", pkgPath := "", byteOffset := 56 }, { name := "Bare", type := 4, offset := 8, embedded := false, tag := "", pkgPath := "", byteOffset := 72 }, { name := "L", type := 176, offset := 9, embedded := false, tag := "", pkgPath := "", byteOffset := 80 }]), size := 10, bytes := 104, zero := [.int .i64 (0), .int .i64 (0), .int .i64 (0), .int .i64 (0), .int .i64 (0), .int .i64 (0), .int .i64 (0), .str [], .bool false, .nils], agg := true, cmp := true } := rfl
@[simp] theorem ED_desc178 : ED.desc 178 = some (.struct #[{ name := "Op", type := 3, offset := 0, embedded := false, tag := "", pkgPath := "", byteOffset := 0 }, { name := "N", type := 3, offset := 1, embedded := false, tag := "", pkgPath := "", byteOffset := 8 }, { name := "M", type := 3, offset := 2, embedded := false, tag := "", pkgPath := "", byteOffset := 16 }, { name := "Spot", type := 3, offset := 3, embedded := false, tag := "", pkgPath := "", byteOffset := 24 }, { name := "From", type := 3, offset := 4, embedded := false, tag := "", pkgPath := "", byteOffset := 32 }, { name := "NAt", type := 3, offset := 5, embedded := false, tag := "", pkgPath := "", byteOffset := 40 }, { name := "MAt", type := 3, offset := 6, embedded := false, tag := "", pkgPath := "", byteOffset := 48 }, { name := "Name", type := 9, offset := 7, embedded := false, tag := "", pkgPath := "", byteOffset := 56 }, { name := "Bare", type := 4, offset := 8, embedded := false, tag := "", pkgPath := "", byteOffset := 72 }, { name := "L", type := 176, offset := 9, embedded := false, tag := "", pkgPath := "", byteOffset := 80 }]) := rfl
@[simp] theorem ED_size178 : ED.size 178 = some 10 := rfl
@[simp] theorem ED_ti180 : ED.ti 180 = some { desc := (.struct #[{ name := "Name", type := 54, offset := 0, embedded := false, tag := "", pkgPath := "", byteOffset := 0 }, { name := "Param", type := 54, offset := 5, embedded := false, tag := "", pkgPath := "", byteOffset := 48 }, { name := "Body", type := 178, offset := 10, embedded := false, tag := "", pkgPath := "", byteOffset := 96 }]), size := 20, bytes := 200, zero := [.int .i64 (0), .int .i64 (0), .int .i64 (0), .str [], .int .i64 (0), .int .i64 (0), .int .i64 (0), .int .i64 (0), .str [], .int .i64 (0), .int .i64 (0), .int .i64 (0), .int .i64 (0), .int .i64 (0), .int .i64 (0), .int .i64 (0), .int .i64 (0), .str [], .bool false, .nils], agg := true, cmp := true } := rfl
@[simp] theorem ED_desc180 : ED.desc 180 = some (.struct #[{ name := "Name", type := 54, offset := 0, embedded := false, tag := "", pkgPath := "", byteOffset := 0 }, { name := "Param", type := 54, offset := 5, embedded := false, tag := "", pkgPath := "", byteOffset := 48 }, { name := "Body", type := 178, offset := 10, embedded := false, tag := "", pkgPath := "", byteOffset := 96 }]) := rfl
@[simp] theorem ED_size180 : ED.size 180 = some 20 := rfl
@[simp] theorem ED_ti183 : ED.ti 183 = some { desc := (.int .u64), size := 1, bytes := 8, zero := [.int .u64 (0)], agg := false, cmp := true } := rfl
@[simp] theorem ED_desc183 : ED.desc 183 = some (.int .u64) := rfl
@[simp] theorem ED_size183 : ED.size 183 = some 1 := rfl
@[simp] theorem ED_ti188 : ED.ti 188 = some { desc := (.slice 5), size := 1, bytes := 24, zero := [.nils], agg := false, cmp := true } := rfl
@[simp] theorem ED_desc188 : ED.desc 188 = some (.slice 5) := rfl
@[simp] theorem ED_size188 : ED.size 188 = some 1 := rfl
@[simp] theorem ED_ti193 : ED.ti 193 = some { desc := (.interface #[("Error", 83)]), size := 1, bytes := 16, zero := [.nili], agg := false, cmp := false } := rfl
@[simp] theorem ED_desc193 : ED.desc 193 = some (.interface #[("Error", 83)]) := rfl
@[simp] theorem ED_size193 : ED.size 193 = some 1 := rfl
@[simp] theorem ED_ti197 : ED.ti 197 = some { desc := (.func #[59, 3, 35] #[] false), size := 1, bytes := 8, zero := [.nilf], agg := false, cmp := true } := rfl
@[simp] theorem ED_desc197 : ED.desc 197 = some (.func #[59, 3, 35] #[] false) := rfl
@[simp] theorem ED_size197 : ED.size 197 = some 1 := rfl
@[simp] theorem ED_ti207 : ED.ti 207 = some { desc := (.func #[155] #[4] false), size := 1, bytes := 8, zero := [.nilf], agg := false, cmp := true } := rfl
@[simp] theorem ED_desc207 : ED.desc 207 = some (.func #[155] #[4] false) := rfl
@[simp] theorem ED_size207 : ED.size 207 = some 1 := rfl
@[simp] theorem ED_ti215 : ED.ti 215 = some { desc := (.func #[] #[159] false), size := 1, bytes := 8, zero := [.nilf], agg := false, cmp := true } := rfl
@[simp] theorem ED_desc215 : ED.desc 215 = some (.func #[] #[159] false) := rfl
@[simp] theorem ED_size215 : ED.size 215 = some 1 := rfl
@[simp] theorem ED_ti217 : ED.ti 217 = some { desc := (.slice 159), size := 1, bytes := 24, zero := [.nils], agg := false, cmp := true } := rfl
@[simp] theorem ED_desc217 : ED.desc 217 = some (.slice 159) := rfl
@[simp] theorem ED_size217 : ED.size 217 = some 1 := rfl
@[simp] theorem ED_ti219 : ED.ti 219 = some { desc := (.struct #[{ name := "Exp", type := 59, offset := 0, embedded := true, tag := "", pkgPath := "", byteOffset := 0 }, { name := "name", type := 9, offset := 4, embedded := false, tag := "", pkgPath := "sheafworks/lang", byteOffset := 48 }, { name := "at", type := 3, offset := 5, embedded := false, tag := "", pkgPath := "sheafworks/lang", byteOffset := 64 }, { name := "start", type := 3, offset := 6, embedded := false, tag := "", pkgPath := "sheafworks/lang", byteOffset := 72 }, { name := "parts", type := 217, offset := 7, embedded := false, tag := "", pkgPath := "sheafworks/lang", byteOffset := 80 }, { name := "level", type := 3, offset := 8, embedded := false, tag := "", pkgPath := "sheafworks/lang", byteOffset := 104 }]), size := 9, bytes := 112, zero := [.int .i64 (0), .int .i64 (0), .int .i64 (0), .nils, .str [], .int .i64 (0), .int .i64 (0), .nils, .int .i64 (0)], agg := true, cmp := true } := rfl
@[simp] theorem ED_desc219 : ED.desc 219 = some (.struct #[{ name := "Exp", type := 59, offset := 0, embedded := true, tag := "", pkgPath := "", byteOffset := 0 }, { name := "name", type := 9, offset := 4, embedded := false, tag := "", pkgPath := "sheafworks/lang", byteOffset := 48 }, { name := "at", type := 3, offset := 5, embedded := false, tag := "", pkgPath := "sheafworks/lang", byteOffset := 64 }, { name := "start", type := 3, offset := 6, embedded := false, tag := "", pkgPath := "sheafworks/lang", byteOffset := 72 }, { name := "parts", type := 217, offset := 7, embedded := false, tag := "", pkgPath := "sheafworks/lang", byteOffset := 80 }, { name := "level", type := 3, offset := 8, embedded := false, tag := "", pkgPath := "sheafworks/lang", byteOffset := 104 }]) := rfl
@[simp] theorem ED_size219 : ED.size 219 = some 9 := rfl
@[simp] theorem ED_ti221 : ED.ti 221 = some { desc := (.func #[59, 3] #[] false), size := 1, bytes := 8, zero := [.nilf], agg := false, cmp := true } := rfl
@[simp] theorem ED_desc221 : ED.desc 221 = some (.func #[59, 3] #[] false) := rfl
@[simp] theorem ED_size221 : ED.size 221 = some 1 := rfl
@[simp] theorem ED_ti249 : ED.ti 249 = some { desc := (.int .u64), size := 1, bytes := 8, zero := [.int .u64 (0)], agg := false, cmp := true } := rfl
@[simp] theorem ED_desc249 : ED.desc 249 = some (.int .u64) := rfl
@[simp] theorem ED_size249 : ED.size 249 = some 1 := rfl
@[simp] theorem ED_ti250 : ED.ti 250 = some { desc := (.array 256 5), size := 256, bytes := 256, zero := [.int .u8 (0), .int .u8 (0), .int .u8 (0), .int .u8 (0), .int .u8 (0), .int .u8 (0), .int .u8 (0), .int .u8 (0), .int .u8 (0), .int .u8 (0), .int .u8 (0), .int .u8 (0), .int .u8 (0), .int .u8 (0), .int .u8 (0), .int .u8 (0), .int .u8 (0), .int .u8 (0), .int .u8 (0), .int .u8 (0), .int .u8 (0), .int .u8 (0), .int .u8 (0), .int .u8 (0), .int .u8 (0), .int .u8 (0), .int .u8 (0), .int .u8 (0), .int .u8 (0), .int .u8 (0), .int .u8 (0), .int .u8 (0), .int .u8 (0), .int .u8 (0), .int .u8 (0), .int .u8 (0), .int .u8 (0), .int .u8 (0), .int .u8 (0), .int .u8 (0), .int .u8 (0), .int .u8 (0), .int .u8 (0), .int .u8 (0), .int .u8 (0), .int .u8 (0), .int .u8 (0), .int .u8 (0), .int .u8 (0), .int .u8 (0), .int .u8 (0), .int .u8 (0), .int .u8 (0), .int .u8 (0), .int .u8 (0), .int .u8 (0), .int .u8 (0), .int .u8 (0), .int .u8 (0), .int .u8 (0), .int .u8 (0), .int .u8 (0), .int .u8 (0), .int .u8 (0), .int .u8 (0), .int .u8 (0), .int .u8 (0), .int .u8 (0), .int .u8 (0), .int .u8 (0), .int .u8 (0), .int .u8 (0), .int .u8 (0), .int .u8 (0), .int .u8 (0), .int .u8 (0), .int .u8 (0), .int .u8 (0), .int .u8 (0), .int .u8 (0), .int .u8 (0), .int .u8 (0), .int .u8 (0), .int .u8 (0), .int .u8 (0), .int .u8 (0), .int .u8 (0), .int .u8 (0), .int .u8 (0), .int .u8 (0), .int .u8 (0), .int .u8 (0), .int .u8 (0), .int .u8 (0), .int .u8 (0), .int .u8 (0), .int .u8 (0), .int .u8 (0), .int .u8 (0), .int .u8 (0), .int .u8 (0), .int .u8 (0), .int .u8 (0), .int .u8 (0), .int .u8 (0), .int .u8 (0), .int .u8 (0), .int .u8 (0), .int .u8 (0), .int .u8 (0), .int .u8 (0), .int .u8 (0), .int .u8 (0), .int .u8 (0), .int .u8 (0), .int .u8 (0), .int .u8 (0), .int .u8 (0), .int .u8 (0), .int .u8 (0), .int .u8 (0), .int .u8 (0), .int .u8 (0), .int .u8 (0), .int .u8 (0), .int .u8 (0), .int .u8 (0), .int .u8 (0), .int .u8 (0), .int .u8 (0), .int .u8 (0), .int .u8 (0), .int .u8 (0), .int .u8 (0), .int .u8 (0), .int .u8 (0), .int .u8 (0), .int .u8 (0), .int .u8 (0), .int .u8 (0), .int .u8 (0), .int .u8 (0), .int .u8 (0), .int .u8 (0), .int .u8 (0), .int .u8 (0), .int .u8 (0), .int .u8 (0), .int .u8 (0), .int .u8 (0), .int .u8 (0), .int .u8 (0), .int .u8 (0), .int .u8 (0), .int .u8 (0), .int .u8 (0), .int .u8 (0), .int .u8 (0), .int .u8 (0), .int .u8 (0), .int .u8 (0), .int .u8 (0), .int .u8 (0), .int .u8 (0), .int .u8 (0), .int .u8 (0), .int .u8 (0), .int .u8 (0), .int .u8 (0), .int .u8 (0), .int .u8 (0), .int .u8 (0), .int .u8 (0), .int .u8 (0), .int .u8 (0), .int .u8 (0), .int .u8 (0), .int .u8 (0), .int .u8 (0), .int .u8 (0), .int .u8 (0), .int .u8 (0), .int .u8 (0), .int .u8 (0), .int .u8 (0), .int .u8 (0), .int .u8 (0), .int .u8 (0), .int .u8 (0), .int .u8 (0), .int .u8 (0), .int .u8 (0), .int .u8 (0), .int .u8 (0), .int .u8 (0), .int .u8 (0), .int .u8 (0), .int .u8 (0), .int .u8 (0), .int .u8 (0), .int .u8 (0), .int .u8 (0), .int .u8 (0), .int .u8 (0), .int .u8 (0), .int .u8 (0), .int .u8 (0), .int .u8 (0), .int .u8 (0), .int .u8 (0), .int .u8 (0), .int .u8 (0), .int .u8 (0), .int .u8 (0), .int .u8 (0), .int .u8 (0), .int .u8 (0), .int .u8 (0), .int .u8 (0), .int .u8 (0), .int .u8 (0), .int .u8 (0), .int .u8 (0), .int .u8 (0), .int .u8 (0), .int .u8 (0), .int .u8 (0), .int .u8 (0), .int .u8 (0), .int .u8 (0), .int .u8 (0), .int .u8 (0), .int .u8 (0), .int .u8 (0), .int .u8 (0), .int .u8 (0), .int .u8 (0), .int .u8 (0), .int .u8 (0), .int .u8 (0), .int .u8 (0), .int .u8 (0), .int .u8 (0), .int .u8 (0), .int .u8 (0), .int .u8 (0), .int .u8 (0), .int .u8 (0), .int .u8 (0), .int .u8 (0), .int .u8 (0), .int .u8 (0), .int .u8 (0), .int .u8 (0), .int .u8 (0), .int .u8 (0)], agg := true, cmp := true } := rfl
@[simp] theorem ED_desc250 : ED.desc 250 = some (.array 256 5) := rfl
@[simp] theorem ED_size250 : ED.size 250 = some 256 := rfl
@[simp] theorem ED_ti305 : ED.ti 305 = some { desc := (.array 12 9), size := 12, bytes := 192, zero := [.str [], .str [], .str [], .str [], .str [], .str [], .str [], .str [], .str [], .str [], .str [], .str []], agg := true, cmp := true } := rfl
@[simp] theorem ED_desc305 : ED.desc 305 = some (.array 12 9) := rfl
@[simp] theorem ED_size305 : ED.size 305 = some 12 := rfl
@[simp] theorem ED_ti314 : ED.ti 314 = some { desc := (.map 3 9), size := 1, bytes := 8, zero := [.nilm], agg := false, cmp := true } := rfl
@[simp] theorem ED_desc314 : ED.desc 314 = some (.map 3 9) := rfl
@[simp] theorem ED_size314 : ED.size 314 = some 1 := rfl
theorem ED_fn3 : ED.fn 3 = some fi3 := rfl
@[simp] theorem ED_ext3 : ED.ext 3 = none := rfl
@[simp] theorem ED_lib3 : ED.lib 3 = none := rfl
theorem ED_fn4 : ED.fn 4 = some fi4 := rfl
@[simp] theorem ED_ext4 : ED.ext 4 = none := rfl
@[simp] theorem ED_lib4 : ED.lib 4 = none := rfl
theorem ED_fn5 : ED.fn 5 = some fi5 := rfl
@[simp] theorem ED_ext5 : ED.ext 5 = none := rfl
@[simp] theorem ED_lib5 : ED.lib 5 = none := rfl
theorem ED_fn6 : ED.fn 6 = some fi6 := rfl
@[simp] theorem ED_ext6 : ED.ext 6 = none := rfl
@[simp] theorem ED_lib6 : ED.lib 6 = none := rfl
theorem ED_fn7 : ED.fn 7 = some fi7 := rfl
@[simp] theorem ED_ext7 : ED.ext 7 = none := rfl
@[simp] theorem ED_lib7 : ED.lib 7 = none := rfl
theorem ED_fn8 : ED.fn 8 = some fi8 := rfl
@[simp] theorem ED_ext8 : ED.ext 8 = none := rfl
@[simp] theorem ED_lib8 : ED.lib 8 = none := rfl
theorem ED_fn9 : ED.fn 9 = some fi9 := rfl
@[simp] theorem ED_ext9 : ED.ext 9 = none := rfl
@[simp] theorem ED_lib9 : ED.lib 9 = none := rfl
theorem ED_fn10 : ED.fn 10 = some fi10 := rfl
@[simp] theorem ED_ext10 : ED.ext 10 = none := rfl
@[simp] theorem ED_lib10 : ED.lib 10 = none := rfl
theorem ED_fn11 : ED.fn 11 = some fi11 := rfl
@[simp] theorem ED_ext11 : ED.ext 11 = none := rfl
@[simp] theorem ED_lib11 : ED.lib 11 = none := rfl
theorem ED_fn12 : ED.fn 12 = some fi12 := rfl
@[simp] theorem ED_ext12 : ED.ext 12 = none := rfl
@[simp] theorem ED_lib12 : ED.lib 12 = none := rfl
theorem ED_fn13 : ED.fn 13 = some fi13 := rfl
@[simp] theorem ED_ext13 : ED.ext 13 = none := rfl
@[simp] theorem ED_lib13 : ED.lib 13 = none := rfl
theorem ED_fn14 : ED.fn 14 = some fi14 := rfl
@[simp] theorem ED_ext14 : ED.ext 14 = none := rfl
@[simp] theorem ED_lib14 : ED.lib 14 = none := rfl
theorem ED_fn15 : ED.fn 15 = some fi15 := rfl
@[simp] theorem ED_ext15 : ED.ext 15 = none := rfl
@[simp] theorem ED_lib15 : ED.lib 15 = none := rfl
theorem ED_fn16 : ED.fn 16 = some fi16 := rfl
@[simp] theorem ED_ext16 : ED.ext 16 = none := rfl
@[simp] theorem ED_lib16 : ED.lib 16 = none := rfl
theorem ED_fn17 : ED.fn 17 = some fi17 := rfl
@[simp] theorem ED_ext17 : ED.ext 17 = none := rfl
@[simp] theorem ED_lib17 : ED.lib 17 = none := rfl
theorem ED_fn18 : ED.fn 18 = some fi18 := rfl
@[simp] theorem ED_ext18 : ED.ext 18 = none := rfl
@[simp] theorem ED_lib18 : ED.lib 18 = none := rfl
theorem ED_fn19 : ED.fn 19 = some fi19 := rfl
@[simp] theorem ED_ext19 : ED.ext 19 = none := rfl
@[simp] theorem ED_lib19 : ED.lib 19 = none := rfl
theorem ED_fn20 : ED.fn 20 = some fi20 := rfl
@[simp] theorem ED_ext20 : ED.ext 20 = none := rfl
@[simp] theorem ED_lib20 : ED.lib 20 = none := rfl
theorem ED_fn21 : ED.fn 21 = some fi21 := rfl
@[simp] theorem ED_ext21 : ED.ext 21 = none := rfl
@[simp] theorem ED_lib21 : ED.lib 21 = none := rfl
theorem ED_fn22 : ED.fn 22 = some fi22 := rfl
@[simp] theorem ED_ext22 : ED.ext 22 = none := rfl
@[simp] theorem ED_lib22 : ED.lib 22 = none := rfl
theorem ED_fn23 : ED.fn 23 = some fi23 := rfl
@[simp] theorem ED_ext23 : ED.ext 23 = none := rfl
@[simp] theorem ED_lib23 : ED.lib 23 = none := rfl
theorem ED_fn24 : ED.fn 24 = some fi24 := rfl
@[simp] theorem ED_ext24 : ED.ext 24 = none := rfl
@[simp] theorem ED_lib24 : ED.lib 24 = none := rfl
theorem ED_fn25 : ED.fn 25 = some fi25 := rfl
@[simp] theorem ED_ext25 : ED.ext 25 = none := rfl
@[simp] theorem ED_lib25 : ED.lib 25 = none := rfl
theorem ED_fn26 : ED.fn 26 = some fi26 := rfl
@[simp] theorem ED_ext26 : ED.ext 26 = none := rfl
@[simp] theorem ED_lib26 : ED.lib 26 = none := rfl
theorem ED_fn27 : ED.fn 27 = some fi27 := rfl
@[simp] theorem ED_ext27 : ED.ext 27 = none := rfl
@[simp] theorem ED_lib27 : ED.lib 27 = none := rfl
theorem ED_fn28 : ED.fn 28 = some fi28 := rfl
@[simp] theorem ED_ext28 : ED.ext 28 = none := rfl
@[simp] theorem ED_lib28 : ED.lib 28 = none := rfl
theorem ED_fn29 : ED.fn 29 = some fi29 := rfl
@[simp] theorem ED_ext29 : ED.ext 29 = none := rfl
@[simp] theorem ED_lib29 : ED.lib 29 = none := rfl
theorem ED_fn30 : ED.fn 30 = some fi30 := rfl
@[simp] theorem ED_ext30 : ED.ext 30 = none := rfl
@[simp] theorem ED_lib30 : ED.lib 30 = none := rfl
theorem ED_fn31 : ED.fn 31 = some fi31 := rfl
@[simp] theorem ED_ext31 : ED.ext 31 = none := rfl
@[simp] theorem ED_lib31 : ED.lib 31 = none := rfl
theorem ED_fn32 : ED.fn 32 = some fi32 := rfl
@[simp] theorem ED_ext32 : ED.ext 32 = none := rfl
@[simp] theorem ED_lib32 : ED.lib 32 = none := rfl
theorem ED_fn34 : ED.fn 34 = some fi34 := rfl
@[simp] theorem ED_ext34 : ED.ext 34 = none := rfl
@[simp] theorem ED_lib34 : ED.lib 34 = none := rfl
theorem ED_fn35 : ED.fn 35 = some fi35 := rfl
@[simp] theorem ED_ext35 : ED.ext 35 = none := rfl
@[simp] theorem ED_lib35 : ED.lib 35 = none := rfl
theorem ED_fn36 : ED.fn 36 = some fi36 := rfl
@[simp] theorem ED_ext36 : ED.ext 36 = none := rfl
@[simp] theorem ED_lib36 : ED.lib 36 = none := rfl
theorem ED_fn37 : ED.fn 37 = some fi37 := rfl
@[simp] theorem ED_ext37 : ED.ext 37 = none := rfl
@[simp] theorem ED_lib37 : ED.lib 37 = none := rfl
theorem ED_fn38 : ED.fn 38 = some fi38 := rfl
@[simp] theorem ED_ext38 : ED.ext 38 = none := rfl
@[simp] theorem ED_lib38 : ED.lib 38 = none := rfl
theorem ED_fn39 : ED.fn 39 = some fi39 := rfl
@[simp] theorem ED_ext39 : ED.ext 39 = none := rfl
@[simp] theorem ED_lib39 : ED.lib 39 = none := rfl
theorem ED_fn40 : ED.fn 40 = some fi40 := rfl
@[simp] theorem ED_ext40 : ED.ext 40 = none := rfl
@[simp] theorem ED_lib40 : ED.lib 40 = none := rfl
theorem ED_fn41 : ED.fn 41 = some fi41 := rfl
@[simp] theorem ED_ext41 : ED.ext 41 = none := rfl
@[simp] theorem ED_lib41 : ED.lib 41 = some libTrim := rfl
theorem ED_fn44 : ED.fn 44 = some fi44 := rfl
@[simp] theorem ED_ext44 : ED.ext 44 = none := rfl
@[simp] theorem ED_lib44 : ED.lib 44 = none := rfl
theorem ED_fn45 : ED.fn 45 = some fi45 := rfl
@[simp] theorem ED_ext45 : ED.ext 45 = none := rfl
@[simp] theorem ED_lib45 : ED.lib 45 = none := rfl
theorem ED_fn46 : ED.fn 46 = some fi46 := rfl
@[simp] theorem ED_ext46 : ED.ext 46 = none := rfl
@[simp] theorem ED_lib46 : ED.lib 46 = none := rfl
theorem ED_fn47 : ED.fn 47 = some fi47 := rfl
@[simp] theorem ED_ext47 : ED.ext 47 = none := rfl
@[simp] theorem ED_lib47 : ED.lib 47 = none := rfl
theorem ED_fn48 : ED.fn 48 = some fi48 := rfl
@[simp] theorem ED_ext48 : ED.ext 48 = none := rfl
@[simp] theorem ED_lib48 : ED.lib 48 = none := rfl
theorem ED_fn49 : ED.fn 49 = some fi49 := rfl
@[simp] theorem ED_ext49 : ED.ext 49 = none := rfl
@[simp] theorem ED_lib49 : ED.lib 49 = none := rfl
theorem ED_fn50 : ED.fn 50 = some fi50 := rfl
@[simp] theorem ED_ext50 : ED.ext 50 = none := rfl
@[simp] theorem ED_lib50 : ED.lib 50 = none := rfl
theorem ED_fn51 : ED.fn 51 = some fi51 := rfl
@[simp] theorem ED_ext51 : ED.ext 51 = none := rfl
@[simp] theorem ED_lib51 : ED.lib 51 = none := rfl
theorem ED_fn52 : ED.fn 52 = some fi52 := rfl
@[simp] theorem ED_ext52 : ED.ext 52 = none := rfl
@[simp] theorem ED_lib52 : ED.lib 52 = none := rfl
theorem ED_fn53 : ED.fn 53 = some fi53 := rfl
@[simp] theorem ED_ext53 : ED.ext 53 = none := rfl
@[simp] theorem ED_lib53 : ED.lib 53 = none := rfl
theorem ED_fn54 : ED.fn 54 = some fi54 := rfl
@[simp] theorem ED_ext54 : ED.ext 54 = none := rfl
@[simp] theorem ED_lib54 : ED.lib 54 = none := rfl
theorem ED_fn55 : ED.fn 55 = some fi55 := rfl
@[simp] theorem ED_ext55 : ED.ext 55 = none := rfl
@[simp] theorem ED_lib55 : ED.lib 55 = none := rfl
theorem ED_fn56 : ED.fn 56 = some fi56 := rfl
@[simp] theorem ED_ext56 : ED.ext 56 = none := rfl
@[simp] theorem ED_lib56 : ED.lib 56 = none := rfl
theorem ED_fn57 : ED.fn 57 = some fi57 := rfl
@[simp] theorem ED_ext57 : ED.ext 57 = none := rfl
@[simp] theorem ED_lib57 : ED.lib 57 = none := rfl
theorem ED_fn58 : ED.fn 58 = some fi58 := rfl
@[simp] theorem ED_ext58 : ED.ext 58 = none := rfl
@[simp] theorem ED_lib58 : ED.lib 58 = none := rfl
theorem ED_fn59 : ED.fn 59 = some fi59 := rfl
@[simp] theorem ED_ext59 : ED.ext 59 = none := rfl
@[simp] theorem ED_lib59 : ED.lib 59 = none := rfl
theorem ED_fn60 : ED.fn 60 = some fi60 := rfl
@[simp] theorem ED_ext60 : ED.ext 60 = none := rfl
@[simp] theorem ED_lib60 : ED.lib 60 = none := rfl
theorem ED_fn61 : ED.fn 61 = some fi61 := rfl
@[simp] theorem ED_ext61 : ED.ext 61 = none := rfl
@[simp] theorem ED_lib61 : ED.lib 61 = none := rfl
theorem ED_fn62 : ED.fn 62 = some fi62 := rfl
@[simp] theorem ED_ext62 : ED.ext 62 = none := rfl
@[simp] theorem ED_lib62 : ED.lib 62 = none := rfl
theorem ED_fn63 : ED.fn 63 = some fi63 := rfl
@[simp] theorem ED_ext63 : ED.ext 63 = none := rfl
@[simp] theorem ED_lib63 : ED.lib 63 = none := rfl
theorem ED_fn64 : ED.fn 64 = some fi64 := rfl
@[simp] theorem ED_ext64 : ED.ext 64 = none := rfl
@[simp] theorem ED_lib64 : ED.lib 64 = none := rfl
theorem ED_fn65 : ED.fn 65 = some fi65 := rfl
@[simp] theorem ED_ext65 : ED.ext 65 = none := rfl
@[simp] theorem ED_lib65 : ED.lib 65 = none := rfl
theorem ED_fn66 : ED.fn 66 = some fi66 := rfl
@[simp] theorem ED_ext66 : ED.ext 66 = none := rfl
@[simp] theorem ED_lib66 : ED.lib 66 = none := rfl
theorem ED_fn67 : ED.fn 67 = some fi67 := rfl
@[simp] theorem ED_ext67 : ED.ext 67 = none := rfl
@[simp] theorem ED_lib67 : ED.lib 67 = none := rfl
theorem ED_fn70 : ED.fn 70 = some fi70 := rfl
@[simp] theorem ED_ext70 : ED.ext 70 = none := rfl
@[simp] theorem ED_lib70 : ED.lib 70 = none := rfl
theorem ED_fn71 : ED.fn 71 = some fi71 := rfl
@[simp] theorem ED_ext71 : ED.ext 71 = none := rfl
@[simp] theorem ED_lib71 : ED.lib 71 = none := rfl
theorem ED_fn72 : ED.fn 72 = some fi72 := rfl
@[simp] theorem ED_ext72 : ED.ext 72 = none := rfl
@[simp] theorem ED_lib72 : ED.lib 72 = none := rfl
theorem ED_fn73 : ED.fn 73 = some fi73 := rfl
@[simp] theorem ED_ext73 : ED.ext 73 = none := rfl
@[simp] theorem ED_lib73 : ED.lib 73 = none := rfl
theorem ED_fn74 : ED.fn 74 = some fi74 := rfl
@[simp] theorem ED_ext74 : ED.ext 74 = none := rfl
@[simp] theorem ED_lib74 : ED.lib 74 = none := rfl
theorem ED_fn75 : ED.fn 75 = some fi75 := rfl
@[simp] theorem ED_ext75 : ED.ext 75 = none := rfl
@[simp] theorem ED_lib75 : ED.lib 75 = none := rfl
theorem ED_fn76 : ED.fn 76 = some fi76 := rfl
@[simp] theorem ED_ext76 : ED.ext 76 = none := rfl
@[simp] theorem ED_lib76 : ED.lib 76 = none := rfl
theorem ED_fn79 : ED.fn 79 = some fi79 := rfl
@[simp] theorem ED_ext79 : ED.ext 79 = none := rfl
@[simp] theorem ED_lib79 : ED.lib 79 = some libSet := rfl
theorem ED_fn80 : ED.fn 80 = some fi80 := rfl
@[simp] theorem ED_ext80 : ED.ext 80 = none := rfl
@[simp] theorem ED_lib80 : ED.lib 80 = none := rfl
theorem ED_fn81 : ED.fn 81 = some fi81 := rfl
@[simp] theorem ED_ext81 : ED.ext 81 = none := rfl
@[simp] theorem ED_lib81 : ED.lib 81 = none := rfl
theorem ED_fn84 : ED.fn 84 = some fi84 := rfl
@[simp] theorem ED_ext84 : ED.ext 84 = none := rfl
@[simp] theorem ED_lib84 : ED.lib 84 = some libReplace := rfl
theorem ED_fn86 : ED.fn 86 = some fi86 := rfl
@[simp] theorem ED_ext86 : ED.ext 86 = none := rfl
@[simp] theorem ED_lib86 : ED.lib 86 = none := rfl
theorem ED_fn87 : ED.fn 87 = some fi87 := rfl
@[simp] theorem ED_ext87 : ED.ext 87 = none := rfl
@[simp] theorem ED_lib87 : ED.lib 87 = none := rfl
theorem ED_fn88 : ED.fn 88 = some fi88 := rfl
@[simp] theorem ED_ext88 : ED.ext 88 = none := rfl
@[simp] theorem ED_lib88 : ED.lib 88 = none := rfl
theorem ED_fn89 : ED.fn 89 = some fi89 := rfl
@[simp] theorem ED_ext89 : ED.ext 89 = none := rfl
@[simp] theorem ED_lib89 : ED.lib 89 = none := rfl
theorem ED_fn90 : ED.fn 90 = some fi90 := rfl
@[simp] theorem ED_ext90 : ED.ext 90 = none := rfl
@[simp] theorem ED_lib90 : ED.lib 90 = none := rfl
theorem ED_fn91 : ED.fn 91 = some fi91 := rfl
@[simp] theorem ED_ext91 : ED.ext 91 = none := rfl
@[simp] theorem ED_lib91 : ED.lib 91 = none := rfl
theorem ED_fn92 : ED.fn 92 = some fi92 := rfl
@[simp] theorem ED_ext92 : ED.ext 92 = none := rfl
@[simp] theorem ED_lib92 : ED.lib 92 = none := rfl
theorem ED_fn93 : ED.fn 93 = some fi93 := rfl
@[simp] theorem ED_ext93 : ED.ext 93 = none := rfl
@[simp] theorem ED_lib93 : ED.lib 93 = none := rfl
theorem ED_fn94 : ED.fn 94 = some fi94 := rfl
@[simp] theorem ED_ext94 : ED.ext 94 = none := rfl
@[simp] theorem ED_lib94 : ED.lib 94 = none := rfl
theorem ED_fn95 : ED.fn 95 = some fi95 := rfl
@[simp] theorem ED_ext95 : ED.ext 95 = none := rfl
@[simp] theorem ED_lib95 : ED.lib 95 = none := rfl
theorem ED_fn96 : ED.fn 96 = some fi96 := rfl
@[simp] theorem ED_ext96 : ED.ext 96 = none := rfl
@[simp] theorem ED_lib96 : ED.lib 96 = none := rfl
theorem ED_fn97 : ED.fn 97 = some fi97 := rfl
@[simp] theorem ED_ext97 : ED.ext 97 = none := rfl
@[simp] theorem ED_lib97 : ED.lib 97 = none := rfl
theorem ED_fn98 : ED.fn 98 = some fi98 := rfl
@[simp] theorem ED_ext98 : ED.ext 98 = none := rfl
@[simp] theorem ED_lib98 : ED.lib 98 = none := rfl
theorem ED_fn99 : ED.fn 99 = some fi99 := rfl
@[simp] theorem ED_ext99 : ED.ext 99 = none := rfl
@[simp] theorem ED_lib99 : ED.lib 99 = none := rfl
theorem ED_fn100 : ED.fn 100 = some fi100 := rfl
@[simp] theorem ED_ext100 : ED.ext 100 = none := rfl
@[simp] theorem ED_lib100 : ED.lib 100 = none := rfl
theorem ED_fn101 : ED.fn 101 = some fi101 := rfl
@[simp] theorem ED_ext101 : ED.ext 101 = none := rfl
@[simp] theorem ED_lib101 : ED.lib 101 = none := rfl
theorem ED_fn102 : ED.fn 102 = some fi102 := rfl
@[simp] theorem ED_ext102 : ED.ext 102 = none := rfl
@[simp] theorem ED_lib102 : ED.lib 102 = none := rfl
theorem ED_fn103 : ED.fn 103 = some fi103 := rfl
@[simp] theorem ED_ext103 : ED.ext 103 = none := rfl
@[simp] theorem ED_lib103 : ED.lib 103 = none := rfl
theorem ED_fn104 : ED.fn 104 = some fi104 := rfl
@[simp] theorem ED_ext104 : ED.ext 104 = none := rfl
@[simp] theorem ED_lib104 : ED.lib 104 = none := rfl
theorem ED_fn105 : ED.fn 105 = some fi105 := rfl
@[simp] theorem ED_ext105 : ED.ext 105 = none := rfl
@[simp] theorem ED_lib105 : ED.lib 105 = none := rfl
theorem ED_fn106 : ED.fn 106 = some fi106 := rfl
@[simp] theorem ED_ext106 : ED.ext 106 = none := rfl
@[simp] theorem ED_lib106 : ED.lib 106 = none := rfl
theorem ED_fn107 : ED.fn 107 = some fi107 := rfl
@[simp] theorem ED_ext107 : ED.ext 107 = none := rfl
@[simp] theorem ED_lib107 : ED.lib 107 = none := rfl
theorem ED_fn108 : ED.fn 108 = some fi108 := rfl
@[simp] theorem ED_ext108 : ED.ext 108 = none := rfl
@[simp] theorem ED_lib108 : ED.lib 108 = none := rfl
theorem ED_fn109 : ED.fn 109 = some fi109 := rfl
@[simp] theorem ED_ext109 : ED.ext 109 = none := rfl
@[simp] theorem ED_lib109 : ED.lib 109 = none := rfl
theorem ED_fn110 : ED.fn 110 = some fi110 := rfl
@[simp] theorem ED_ext110 : ED.ext 110 = none := rfl
@[simp] theorem ED_lib110 : ED.lib 110 = none := rfl
theorem ED_fn111 : ED.fn 111 = some fi111 := rfl
@[simp] theorem ED_ext111 : ED.ext 111 = none := rfl
@[simp] theorem ED_lib111 : ED.lib 111 = none := rfl
theorem ED_fn112 : ED.fn 112 = some fi112 := rfl
@[simp] theorem ED_ext112 : ED.ext 112 = none := rfl
@[simp] theorem ED_lib112 : ED.lib 112 = none := rfl
theorem ED_fn113 : ED.fn 113 = some fi113 := rfl
@[simp] theorem ED_ext113 : ED.ext 113 = none := rfl
@[simp] theorem ED_lib113 : ED.lib 113 = none := rfl
theorem ED_fn114 : ED.fn 114 = some fi114 := rfl
@[simp] theorem ED_ext114 : ED.ext 114 = none := rfl
@[simp] theorem ED_lib114 : ED.lib 114 = none := rfl
theorem ED_fn115 : ED.fn 115 = some fi115 := rfl
@[simp] theorem ED_ext115 : ED.ext 115 = none := rfl
@[simp] theorem ED_lib115 : ED.lib 115 = none := rfl
theorem ED_fn116 : ED.fn 116 = some fi116 := rfl
@[simp] theorem ED_ext116 : ED.ext 116 = none := rfl
@[simp] theorem ED_lib116 : ED.lib 116 = none := rfl
theorem ED_fn117 : ED.fn 117 = some fi117 := rfl
@[simp] theorem ED_ext117 : ED.ext 117 = none := rfl
@[simp] theorem ED_lib117 : ED.lib 117 = none := rfl
theorem ED_fn118 : ED.fn 118 = some fi118 := rfl
@[simp] theorem ED_ext118 : ED.ext 118 = none := rfl
@[simp] theorem ED_lib118 : ED.lib 118 = none := rfl
theorem ED_fn119 : ED.fn 119 = some fi119 := rfl
@[simp] theorem ED_ext119 : ED.ext 119 = none := rfl
@[simp] theorem ED_lib119 : ED.lib 119 = none := rfl
theorem ED_fn120 : ED.fn 120 = some fi120 := rfl
@[simp] theorem ED_ext120 : ED.ext 120 = none := rfl
@[simp] theorem ED_lib120 : ED.lib 120 = none := rfl
theorem ED_fn121 : ED.fn 121 = some fi121 := rfl
@[simp] theorem ED_ext121 : ED.ext 121 = none := rfl
@[simp] theorem ED_lib121 : ED.lib 121 = none := rfl
theorem ED_fn122 : ED.fn 122 = some fi122 := rfl
@[simp] theorem ED_ext122 : ED.ext 122 = none := rfl
@[simp] theorem ED_lib122 : ED.lib 122 = none := rfl
theorem ED_fn126 : ED.fn 126 = some fi126 := rfl
@[simp] theorem ED_ext126 : ED.ext 126 = none := rfl
@[simp] theorem ED_lib126 : ED.lib 126 = none := rfl
theorem ED_fn127 : ED.fn 127 = some fi127 := rfl
@[simp] theorem ED_ext127 : ED.ext 127 = none := rfl
@[simp] theorem ED_lib127 : ED.lib 127 = none := rfl
theorem ED_fn128 : ED.fn 128 = some fi128 := rfl
@[simp] theorem ED_ext128 : ED.ext 128 = none := rfl
@[simp] theorem ED_lib128 : ED.lib 128 = none := rfl
theorem ED_fn129 : ED.fn 129 = some fi129 := rfl
@[simp] theorem ED_ext129 : ED.ext 129 = none := rfl
@[simp] theorem ED_lib129 : ED.lib 129 = none := rfl
theorem ED_fn137 : ED.fn 137 = some fi137 := rfl
@[simp] theorem ED_ext137 : ED.ext 137 = none := rfl
@[simp] theorem ED_lib137 : ED.lib 137 = none := rfl
theorem ED_fn138 : ED.fn 138 = some fi138 := rfl
@[simp] theorem ED_ext138 : ED.ext 138 = none := rfl
@[simp] theorem ED_lib138 : ED.lib 138 = none := rfl
theorem ED_fn139 : ED.fn 139 = some fi139 := rfl
@[simp] theorem ED_ext139 : ED.ext 139 = none := rfl
@[simp] theorem ED_lib139 : ED.lib 139 = none := rfl
theorem ED_fn140 : ED.fn 140 = some fi140 := rfl
@[simp] theorem ED_ext140 : ED.ext 140 = none := rfl
@[simp] theorem ED_lib140 : ED.lib 140 = none := rfl
theorem ED_fn141 : ED.fn 141 = some fi141 := rfl
@[simp] theorem ED_ext141 : ED.ext 141 = none := rfl
@[simp] theorem ED_lib141 : ED.lib 141 = none := rfl
theorem ED_fn142 : ED.fn 142 = some fi142 := rfl
@[simp] theorem ED_ext142 : ED.ext 142 = none := rfl
@[simp] theorem ED_lib142 : ED.lib 142 = none := rfl
theorem ED_fn143 : ED.fn 143 = some fi143 := rfl
@[simp] theorem ED_ext143 : ED.ext 143 = none := rfl
@[simp] theorem ED_lib143 : ED.lib 143 = none := rfl
theorem ED_fn144 : ED.fn 144 = some fi144 := rfl
@[simp] theorem ED_ext144 : ED.ext 144 = none := rfl
@[simp] theorem ED_lib144 : ED.lib 144 = none := rfl
theorem ED_fn145 : ED.fn 145 = some fi145 := rfl
@[simp] theorem ED_ext145 : ED.ext 145 = none := rfl
@[simp] theorem ED_lib145 : ED.lib 145 = none := rfl
theorem ED_fn146 : ED.fn 146 = some fi146 := rfl
@[simp] theorem ED_ext146 : ED.ext 146 = none := rfl
@[simp] theorem ED_lib146 : ED.lib 146 = none := rfl
theorem ED_fn147 : ED.fn 147 = some fi147 := rfl
@[simp] theorem ED_ext147 : ED.ext 147 = none := rfl
@[simp] theorem ED_lib147 : ED.lib 147 = none := rfl
theorem ED_fn148 : ED.fn 148 = some fi148 := rfl
@[simp] theorem ED_ext148 : ED.ext 148 = none := rfl
@[simp] theorem ED_lib148 : ED.lib 148 = none := rfl
theorem ED_fn149 : ED.fn 149 = some fi149 := rfl
@[simp] theorem ED_ext149 : ED.ext 149 = none := rfl
@[simp] theorem ED_lib149 : ED.lib 149 = none := rfl
theorem ED_fn150 : ED.fn 150 = some fi150 := rfl
@[simp] theorem ED_ext150 : ED.ext 150 = none := rfl
@[simp] theorem ED_lib150 : ED.lib 150 = none := rfl
theorem ED_fn151 : ED.fn 151 = some fi151 := rfl
@[simp] theorem ED_ext151 : ED.ext 151 = none := rfl
@[simp] theorem ED_lib151 : ED.lib 151 = none := rfl
theorem ED_fn152 : ED.fn 152 = some fi152 := rfl
@[simp] theorem ED_ext152 : ED.ext 152 = none := rfl
@[simp] theorem ED_lib152 : ED.lib 152 = none := rfl
theorem ED_fn153 : ED.fn 153 = some fi153 := rfl
@[simp] theorem ED_ext153 : ED.ext 153 = none := rfl
@[simp] theorem ED_lib153 : ED.lib 153 = none := rfl
theorem ED_fn154 : ED.fn 154 = some fi154 := rfl
@[simp] theorem ED_ext154 : ED.ext 154 = none := rfl
@[simp] theorem ED_lib154 : ED.lib 154 = none := rfl
theorem ED_fn155 : ED.fn 155 = some fi155 := rfl
@[simp] theorem ED_ext155 : ED.ext 155 = none := rfl
@[simp] theorem ED_lib155 : ED.lib 155 = none := rfl
theorem ED_fn156 : ED.fn 156 = some fi156 := rfl
@[simp] theorem ED_ext156 : ED.ext 156 = none := rfl
@[simp] theorem ED_lib156 : ED.lib 156 = none := rfl
theorem ED_fn157 : ED.fn 157 = some fi157 := rfl
@[simp] theorem ED_ext157 : ED.ext 157 = none := rfl
@[simp] theorem ED_lib157 : ED.lib 157 = none := rfl
theorem ED_fn158 : ED.fn 158 = some fi158 := rfl
@[simp] theorem ED_ext158 : ED.ext 158 = none := rfl
@[simp] theorem ED_lib158 : ED.lib 158 = none := rfl
theorem ED_fn159 : ED.fn 159 = some fi159 := rfl
@[simp] theorem ED_ext159 : ED.ext 159 = none := rfl
@[simp] theorem ED_lib159 : ED.lib 159 = none := rfl
theorem ED_fn160 : ED.fn 160 = some fi160 := rfl
@[simp] theorem ED_ext160 : ED.ext 160 = none := rfl
@[simp] theorem ED_lib160 : ED.lib 160 = none := rfl
theorem ED_fn161 : ED.fn 161 = some fi161 := rfl
@[simp] theorem ED_ext161 : ED.ext 161 = none := rfl
@[simp] theorem ED_lib161 : ED.lib 161 = none := rfl
theorem ED_fn162 : ED.fn 162 = some fi162 := rfl
@[simp] theorem ED_ext162 : ED.ext 162 = none := rfl
@[simp] theorem ED_lib162 : ED.lib 162 = none := rfl
theorem ED_fn163 : ED.fn 163 = some fi163 := rfl
@[simp] theorem ED_ext163 : ED.ext 163 = none := rfl
@[simp] theorem ED_lib163 : ED.lib 163 = none := rfl
theorem ED_fn164 : ED.fn 164 = some fi164 := rfl
@[simp] theorem ED_ext164 : ED.ext 164 = none := rfl
@[simp] theorem ED_lib164 : ED.lib 164 = none := rfl
theorem ED_fn165 : ED.fn 165 = some fi165 := rfl
@[simp] theorem ED_ext165 : ED.ext 165 = none := rfl
@[simp] theorem ED_lib165 : ED.lib 165 = none := rfl
theorem ED_fn166 : ED.fn 166 = some fi166 := rfl
@[simp] theorem ED_ext166 : ED.ext 166 = none := rfl
@[simp] theorem ED_lib166 : ED.lib 166 = none := rfl
theorem ED_fn167 : ED.fn 167 = some fi167 := rfl
@[simp] theorem ED_ext167 : ED.ext 167 = none := rfl
@[simp] theorem ED_lib167 : ED.lib 167 = none := rfl
theorem ED_fn168 : ED.fn 168 = some fi168 := rfl
@[simp] theorem ED_ext168 : ED.ext 168 = none := rfl
@[simp] theorem ED_lib168 : ED.lib 168 = none := rfl
theorem ED_fn169 : ED.fn 169 = some fi169 := rfl
@[simp] theorem ED_ext169 : ED.ext 169 = none := rfl
@[simp] theorem ED_lib169 : ED.lib 169 = none := rfl
theorem ED_fn170 : ED.fn 170 = some fi170 := rfl
@[simp] theorem ED_ext170 : ED.ext 170 = none := rfl
@[simp] theorem ED_lib170 : ED.lib 170 = none := rfl
theorem ED_fn171 : ED.fn 171 = some fi171 := rfl
@[simp] theorem ED_ext171 : ED.ext 171 = none := rfl
@[simp] theorem ED_lib171 : ED.lib 171 = none := rfl
theorem ED_fn172 : ED.fn 172 = some fi172 := rfl
@[simp] theorem ED_ext172 : ED.ext 172 = none := rfl
@[simp] theorem ED_lib172 : ED.lib 172 = none := rfl
theorem ED_fn173 : ED.fn 173 = some fi173 := rfl
@[simp] theorem ED_ext173 : ED.ext 173 = none := rfl
@[simp] theorem ED_lib173 : ED.lib 173 = none := rfl
theorem ED_fn174 : ED.fn 174 = some fi174 := rfl
@[simp] theorem ED_ext174 : ED.ext 174 = none := rfl
@[simp] theorem ED_lib174 : ED.lib 174 = none := rfl
theorem ED_fn175 : ED.fn 175 = some fi175 := rfl
@[simp] theorem ED_ext175 : ED.ext 175 = none := rfl
@[simp] theorem ED_lib175 : ED.lib 175 = none := rfl
theorem ED_fn176 : ED.fn 176 = some fi176 := rfl
@[simp] theorem ED_ext176 : ED.ext 176 = none := rfl
@[simp] theorem ED_lib176 : ED.lib 176 = none := rfl
theorem ED_fn177 : ED.fn 177 = some fi177 := rfl
@[simp] theorem ED_ext177 : ED.ext 177 = none := rfl
@[simp] theorem ED_lib177 : ED.lib 177 = none := rfl
theorem ED_fn180 : ED.fn 180 = some fi180 := rfl
@[simp] theorem ED_ext180 : ED.ext 180 = none := rfl
@[simp] theorem ED_lib180 : ED.lib 180 = none := rfl
theorem ED_fn186 : ED.fn 186 = some fi186 := rfl
@[simp] theorem ED_ext186 : ED.ext 186 = none := rfl
@[simp] theorem ED_lib186 : ED.lib 186 = none := rfl
theorem ED_fn187 : ED.fn 187 = some fi187 := rfl
@[simp] theorem ED_ext187 : ED.ext 187 = none := rfl
@[simp] theorem ED_lib187 : ED.lib 187 = none := rfl
theorem ED_fn188 : ED.fn 188 = some fi188 := rfl
@[simp] theorem ED_ext188 : ED.ext 188 = none := rfl
@[simp] theorem ED_lib188 : ED.lib 188 = none := rfl
theorem ED_fn189 : ED.fn 189 = some fi189 := rfl
@[simp] theorem ED_ext189 : ED.ext 189 = none := rfl
@[simp] theorem ED_lib189 : ED.lib 189 = none := rfl
theorem ED_fn190 : ED.fn 190 = some fi190 := rfl
@[simp] theorem ED_ext190 : ED.ext 190 = none := rfl
@[simp] theorem ED_lib190 : ED.lib 190 = none := rfl
theorem ED_fn191 : ED.fn 191 = some fi191 := rfl
@[simp] theorem ED_ext191 : ED.ext 191 = none := rfl
@[simp] theorem ED_lib191 : ED.lib 191 = none := rfl
theorem ED_fn192 : ED.fn 192 = some fi192 := rfl
@[simp] theorem ED_ext192 : ED.ext 192 = none := rfl
@[simp] theorem ED_lib192 : ED.lib 192 = none := rfl
theorem ED_fn193 : ED.fn 193 = some fi193 := rfl
@[simp] theorem ED_ext193 : ED.ext 193 = none := rfl
@[simp] theorem ED_lib193 : ED.lib 193 = none := rfl
theorem ED_fn203 : ED.fn 203 = some fi203 := rfl
@[simp] theorem ED_ext203 : ED.ext 203 = none := rfl
@[simp] theorem ED_lib203 : ED.lib 203 = none := rfl
theorem ED_fn206 : ED.fn 206 = some fi206 := rfl
@[simp] theorem ED_ext206 : ED.ext 206 = none := rfl
@[simp] theorem ED_lib206 : ED.lib 206 = none := rfl
theorem ED_fn207 : ED.fn 207 = some fi207 := rfl
@[simp] theorem ED_ext207 : ED.ext 207 = none := rfl
@[simp] theorem ED_lib207 : ED.lib 207 = none := rfl
theorem ED_fn208 : ED.fn 208 = some fi208 := rfl
@[simp] theorem ED_ext208 : ED.ext 208 = none := rfl
@[simp] theorem ED_lib208 : ED.lib 208 = none := rfl
theorem ED_fn209 : ED.fn 209 = some fi209 := rfl
@[simp] theorem ED_ext209 : ED.ext 209 = none := rfl
@[simp] theorem ED_lib209 : ED.lib 209 = none := rfl
theorem ED_fn210 : ED.fn 210 = some fi210 := rfl
@[simp] theorem ED_ext210 : ED.ext 210 = none := rfl
@[simp] theorem ED_lib210 : ED.lib 210 = none := rfl
theorem ED_fn211 : ED.fn 211 = some fi211 := rfl
@[simp] theorem ED_ext211 : ED.ext 211 = none := rfl
@[simp] theorem ED_lib211 : ED.lib 211 = none := rfl
theorem ED_fn212 : ED.fn 212 = some fi212 := rfl
@[simp] theorem ED_ext212 : ED.ext 212 = none := rfl
@[simp] theorem ED_lib212 : ED.lib 212 = none := rfl
theorem ED_fn213 : ED.fn 213 = some fi213 := rfl
@[simp] theorem ED_ext213 : ED.ext 213 = none := rfl
@[simp] theorem ED_lib213 : ED.lib 213 = none := rfl
theorem ED_fn214 : ED.fn 214 = some fi214 := rfl
@[simp] theorem ED_ext214 : ED.ext 214 = none := rfl
@[simp] theorem ED_lib214 : ED.lib 214 = none := rfl
theorem ED_fn215 : ED.fn 215 = some fi215 := rfl
@[simp] theorem ED_ext215 : ED.ext 215 = none := rfl
@[simp] theorem ED_lib215 : ED.lib 215 = none := rfl
theorem ED_fn216 : ED.fn 216 = some fi216 := rfl
@[simp] theorem ED_ext216 : ED.ext 216 = none := rfl
@[simp] theorem ED_lib216 : ED.lib 216 = none := rfl
theorem ED_fn217 : ED.fn 217 = some fi217 := rfl
@[simp] theorem ED_ext217 : ED.ext 217 = none := rfl
@[simp] theorem ED_lib217 : ED.lib 217 = none := rfl
theorem ED_fn223 : ED.fn 223 = some fi223 := rfl
@[simp] theorem ED_ext223 : ED.ext 223 = none := rfl
@[simp] theorem ED_lib223 : ED.lib 223 = none := rfl
theorem ED_fn224 : ED.fn 224 = some fi224 := rfl
@[simp] theorem ED_ext224 : ED.ext 224 = none := rfl
@[simp] theorem ED_lib224 : ED.lib 224 = none := rfl
theorem ED_fn235 : ED.fn 235 = some fi235 := rfl
@[simp] theorem ED_ext235 : ED.ext 235 = none := rfl
@[simp] theorem ED_lib235 : ED.lib 235 = none := rfl
theorem ED_fn236 : ED.fn 236 = some fi236 := rfl
@[simp] theorem ED_ext236 : ED.ext 236 = none := rfl
@[simp] theorem ED_lib236 : ED.lib 236 = none := rfl
theorem ED_fn237 : ED.fn 237 = some fi237 := rfl
@[simp] theorem ED_ext237 : ED.ext 237 = none := rfl
@[simp] theorem ED_lib237 : ED.lib 237 = none := rfl
theorem ED_fn238 : ED.fn 238 = some fi238 := rfl
@[simp] theorem ED_ext238 : ED.ext 238 = none := rfl
@[simp] theorem ED_lib238 : ED.lib 238 = none := rfl
theorem ED_fn239 : ED.fn 239 = some fi239 := rfl
@[simp] theorem ED_ext239 : ED.ext 239 = none := rfl
@[simp] theorem ED_lib239 : ED.lib 239 = none := rfl
theorem ED_fn240 : ED.fn 240 = some fi240 := rfl
@[simp] theorem ED_ext240 : ED.ext 240 = none := rfl
@[simp] theorem ED_lib240 : ED.lib 240 = none := rfl
theorem ED_fn241 : ED.fn 241 = some fi241 := rfl
@[simp] theorem ED_ext241 : ED.ext 241 = none := rfl
@[simp] theorem ED_lib241 : ED.lib 241 = none := rfl
theorem ED_fn242 : ED.fn 242 = some fi242 := rfl
@[simp] theorem ED_ext242 : ED.ext 242 = none := rfl
@[simp] theorem ED_lib242 : ED.lib 242 = none := rfl
theorem ED_fn255 : ED.fn 255 = some fi255 := rfl
@[simp] theorem ED_ext255 : ED.ext 255 = none := rfl
@[simp] theorem ED_lib255 : ED.lib 255 = none := rfl
theorem ED_fn256 : ED.fn 256 = some fi256 := rfl
@[simp] theorem ED_ext256 : ED.ext 256 = none := rfl
@[simp] theorem ED_lib256 : ED.lib 256 = none := rfl
theorem ED_fn257 : ED.fn 257 = some fi257 := rfl
@[simp] theorem ED_ext257 : ED.ext 257 = none := rfl
@[simp] theorem ED_lib257 : ED.lib 257 = none := rfl
theorem ED_fn263 : ED.fn 263 = some fi263 := rfl
@[simp] theorem ED_ext263 : ED.ext 263 = none := rfl
@[simp] theorem ED_lib263 : ED.lib 263 = none := rfl
theorem ED_fn265 : ED.fn 265 = some fi265 := rfl
@[simp] theorem ED_ext265 : ED.ext 265 = none := rfl
@[simp] theorem ED_lib265 : ED.lib 265 = none := rfl
theorem ED_fn266 : ED.fn 266 = some fi266 := rfl
@[simp] theorem ED_ext266 : ED.ext 266 = none := rfl
@[simp] theorem ED_lib266 : ED.lib 266 = none := rfl
theorem ED_fn267 : ED.fn 267 = some fi267 := rfl
@[simp] theorem ED_ext267 : ED.ext 267 = none := rfl
@[simp] theorem ED_lib267 : ED.lib 267 = none := rfl
theorem ED_fn268 : ED.fn 268 = some fi268 := rfl
@[simp] theorem ED_ext268 : ED.ext 268 = none := rfl
@[simp] theorem ED_lib268 : ED.lib 268 = none := rfl
theorem ED_fn269 : ED.fn 269 = some fi269 := rfl
@[simp] theorem ED_ext269 : ED.ext 269 = none := rfl
@[simp] theorem ED_lib269 : ED.lib 269 = none := rfl
theorem ED_fn270 : ED.fn 270 = some fi270 := rfl
@[simp] theorem ED_ext270 : ED.ext 270 = none := rfl
@[simp] theorem ED_lib270 : ED.lib 270 = none := rfl
theorem ED_fn271 : ED.fn 271 = some fi271 := rfl
@[simp] theorem ED_ext271 : ED.ext 271 = none := rfl
@[simp] theorem ED_lib271 : ED.lib 271 = none := rfl
theorem ED_fn274 : ED.fn 274 = some fi274 := rfl
@[simp] theorem ED_ext274 : ED.ext 274 = none := rfl
@[simp] theorem ED_lib274 : ED.lib 274 = none := rfl
theorem ED_fn290 : ED.fn 290 = some fi290 := rfl
@[simp] theorem ED_ext290 : ED.ext 290 = none := rfl
@[simp] theorem ED_lib290 : ED.lib 290 = none := rfl
theorem ED_fn291 : ED.fn 291 = some fi291 := rfl
@[simp] theorem ED_ext291 : ED.ext 291 = none := rfl
@[simp] theorem ED_lib291 : ED.lib 291 = none := rfl
theorem ED_fn292 : ED.fn 292 = some fi292 := rfl
@[simp] theorem ED_ext292 : ED.ext 292 = none := rfl
@[simp] theorem ED_lib292 : ED.lib 292 = none := rfl
theorem ED_fn293 : ED.fn 293 = some fi293 := rfl
@[simp] theorem ED_ext293 : ED.ext 293 = none := rfl
@[simp] theorem ED_lib293 : ED.lib 293 = none := rfl
theorem ED_fn294 : ED.fn 294 = some fi294 := rfl
@[simp] theorem ED_ext294 : ED.ext 294 = none := rfl
@[simp] theorem ED_lib294 : ED.lib 294 = none := rfl
theorem ED_fn295 : ED.fn 295 = some fi295 := rfl
@[simp] theorem ED_ext295 : ED.ext 295 = none := rfl
@[simp] theorem ED_lib295 : ED.lib 295 = some libJoin := rfl
theorem ED_fn296 : ED.fn 296 = some fi296 := rfl
@[simp] theorem ED_ext296 : ED.ext 296 = none := rfl
@[simp] theorem ED_lib296 : ED.lib 296 = none := rfl
theorem ED_fn297 : ED.fn 297 = some fi297 := rfl
@[simp] theorem ED_ext297 : ED.ext 297 = none := rfl
@[simp] theorem ED_lib297 : ED.lib 297 = none := rfl
end Go.Vm.L

namespace Go.Vm.L
open Go Go.Proofs Go.Vm
set_option maxRecDepth 100000

def orE : Option Eff → Option Eff → Option Eff
  | some e, _ => some e
  | none, y => y
theorem orE_some {e : Eff} {y : Option Eff} : orE (some e) y = some e := rfl
theorem effR_or {E : Env} {call : CallF} {ρ : Operand → AV} {op : Op} {S : St} : effR E call ρ op S = orE (effA E call ρ op S) (newA E ρ op S) := by
  unfold effR orE
  cases effA E call ρ op S <;> rfl
theorem bad_push (S : St) (o : AO) : (S.push o).bad = S.bad := rfl
theorem wb_push (S : St) (o : AO) : (S.push o).wb = S.wb := rfl
theorem wb_put (S : St) (i : Nat) (o : AO) : (S.put i o).wb = S.wb := rfl
theorem bad_put (S : St) (i : Nat) (o : AO) (h : S.wb = 0) : (S.put i o).bad = S.bad := by simp [St.put, h]
theorem bad_S0 : S0.bad = false := rfl
theorem wb_S0 : S0.wb = 0 := rfl
theorem n_S0 : S0.n = 0 := rfl

/-- a loop, by what stands at its head -/
def loopC (X : Ctx) (c : Code) (L : Vm.Loc) (S : St) : Bool → CRes
  | true => evalC X (.loop c) L S
  | false => X.it (evalC X c) L S
theorem evalC_loopC {X : Ctx} {c : Code} {L : Vm.Loc} {S : St} : evalC X (.loop c) L S = loopC X c L S (mapHead c) := by
  cases h : mapHead c with
  | true => rfl
  | false => exact evalC_loop h
theorem loopC_false {X : Ctx} {c : Code} {L : Vm.Loc} {S : St} : loopC X c L S false = X.it (evalC X c) L S := rfl

def vm0 := And.intro @evalC_seq (And.intro @evalC_region (And.intro @runA_cons' (And.intro @runA_consN (And.intro @runA_consG (And.intro @guardR_true (And.intro @guardR_false (And.intro @guardV_bool (And.intro @guardV_tup (And.intro @runA_nil' (And.intro @eff_move (And.intro @eff_assign (And.intro @eff_binOp (And.intro @eff_build (And.intro @eff_buildSlice @eff_alloc))))))))))))))
def vm1 := And.intro @eff_box (And.intro @eff_store (And.intro @eff_load (And.intro @eff_fieldAddr (And.intro @eff_field (And.intro @eff_indexAddr (And.intro @eff_slice (And.intro @eff_extract (And.intro @eff_pick (And.intro @eff_unOp (And.intro @eff_convert (And.intro @eff_makeSlice (And.intro @eff_makeFunc (And.intro @eff_makeInterface (And.intro @eff_nilCheck @eff_panic))))))))))))))
def vm2 := And.intro @eff_len1 (And.intro @eff_max2 (And.intro @eff_min2 (And.intro @eff_append2 (And.intro @eff_callV (And.intro @stepE_val (And.intro @contR_ok (And.intro @contR_pan (And.intro @outC_ok (And.intro @outC_pan (And.intro @thenC_normal (And.intro @thenC_ret (And.intro @thenC_exit (And.intro @thenC_pan (And.intro @evalC_ret @evalC_skip))))))))))))))
def vm3 := And.intro @evalC_exit (And.intro @evalC_block (And.intro @evalC_scope (And.intro @valO_some (And.intro @bin_int (And.intro @evalC_cond (And.intro @condC_true (And.intro @condC_false (And.intro @cells?_put_push (And.intro @push_at (And.intro @put_at (And.intro @Nat.add_assoc (And.intro @n_push' (And.intro @n_put' @isCell_undef)))))))))))))
def vm4 := And.intro @known_undef (And.intro @cells_undef (And.intro @isCell_bool (And.intro @known_bool (And.intro @cells_bool (And.intro @isCell_int (And.intro @known_int (And.intro @cells_int (And.intro @isCell_str (And.intro @known_str (And.intro @cells_str (And.intro @isCell_nilp (And.intro @known_nilp (And.intro @cells_nilp (And.intro @isCell_ptr @known_ptr))))))))))))))
def vm5 := And.intro @cells_ptr (And.intro @isCell_rptr (And.intro @known_rptr (And.intro @cells_rptr (And.intro @isCell_nils (And.intro @known_nils (And.intro @cells_nils (And.intro @isCell_slice (And.intro @known_slice (And.intro @cells_slice (And.intro @isCell_rsl (And.intro @known_rsl (And.intro @cells_rsl (And.intro @isCell_nilm (And.intro @known_nilm @cells_nilm))))))))))))))
def vm6 := And.intro @isCell_map (And.intro @known_map (And.intro @cells_map (And.intro @isCell_fn (And.intro @known_fn (And.intro @cells_fn (And.intro @isCell_yld (And.intro @known_yld (And.intro @cells_yld (And.intro @isCell_nilf (And.intro @known_nilf (And.intro @cells_nilf (And.intro @isCell_iface (And.intro @known_iface (And.intro @cells_iface @isCell_nili))))))))))))))
def vm7 := And.intro @known_nili (And.intro @cells_nili (And.intro @isCell_agg (And.intro @known_agg (And.intro @cells_agg (And.intro @isCell_tup (And.intro @known_tup (And.intro @cells_tup (And.intro @GotF_some (And.intro @Got_some (And.intro @int_beq @int_bne))))))))))
def vm8 := And.intro @effR_or (And.intro @orE_some (And.intro @bad_push (And.intro @wb_push (And.intro @wb_put (And.intro @bad_put (And.intro @bad_S0 (And.intro @wb_S0 (And.intro @n_S0 (And.intro @evalC_loopC @loopC_false)))))))))
def vmS := And.intro @vm0 (And.intro @vm1 (And.intro @vm2 (And.intro @vm3 (And.intro @vm4 (And.intro @vm5 (And.intro @vm6 (And.intro @vm7 @vm8)))))))
end Go.Vm.L
