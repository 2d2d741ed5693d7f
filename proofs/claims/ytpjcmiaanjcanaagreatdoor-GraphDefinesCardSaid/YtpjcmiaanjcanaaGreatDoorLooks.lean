/-
Look-ups in the tables. No conditions.
-/
import Derived.Test.YtpjcmiaanjcanaaGreatDoorFrame
import Derived.Test.YtpjcmiaanjcanaaGreatDoorVmH
set_option linter.all false

namespace Go.Proofs.YtpjcmiaanjcanaaGreatDoor
open Go Go.Vm Go.Vm.T
set_option maxRecDepth 100000
@[simp] theorem ED_ti0 : ED.ti 0 = some { desc := (.tuple #[]), size := 1, bytes := 0, zero := [.undef], agg := false, cmp := true } := rfl
@[simp] theorem ED_desc0 : ED.desc 0 = some (.tuple #[]) := rfl
@[simp] theorem ED_size0 : ED.size 0 = some 1 := rfl
@[simp] theorem ED_ti1 : ED.ti 1 = some { desc := (.func #[] #[] false), size := 1, bytes := 8, zero := [.nilf], agg := false, cmp := true } := rfl
@[simp] theorem ED_desc1 : ED.desc 1 = some (.func #[] #[] false) := rfl
@[simp] theorem ED_size1 : ED.size 1 = some 1 := rfl
@[simp] theorem ED_ti2 : ED.ti 2 = some { desc := (.int .i64), size := 1, bytes := 8, zero := [.int .i64 (0)], agg := false, cmp := true } := rfl
@[simp] theorem ED_desc2 : ED.desc 2 = some (.int .i64) := rfl
@[simp] theorem ED_size2 : ED.size 2 = some 1 := rfl
@[simp] theorem ED_ti3 : ED.ti 3 = some { desc := (.int .i64), size := 1, bytes := 8, zero := [.int .i64 (0)], agg := false, cmp := true } := rfl
@[simp] theorem ED_desc3 : ED.desc 3 = some (.int .i64) := rfl
@[simp] theorem ED_size3 : ED.size 3 = some 1 := rfl
@[simp] theorem ED_ti4 : ED.ti 4 = some { desc := .bool, size := 1, bytes := 1, zero := [.bool false], agg := false, cmp := true } := rfl
@[simp] theorem ED_desc4 : ED.desc 4 = some .bool := rfl
@[simp] theorem ED_size4 : ED.size 4 = some 1 := rfl
@[simp] theorem ED_ti5 : ED.ti 5 = some { desc := (.int .u8), size := 1, bytes := 1, zero := [.int .u8 (0)], agg := false, cmp := true } := rfl
@[simp] theorem ED_desc5 : ED.desc 5 = some (.int .u8) := rfl
@[simp] theorem ED_size5 : ED.size 5 = some 1 := rfl
@[simp] theorem ED_ti6 : ED.ti 6 = some { desc := (.int .u8), size := 1, bytes := 1, zero := [.int .u8 (0)], agg := false, cmp := true } := rfl
@[simp] theorem ED_desc6 : ED.desc 6 = some (.int .u8) := rfl
@[simp] theorem ED_size6 : ED.size 6 = some 1 := rfl
@[simp] theorem ED_ti7 : ED.ti 7 = some { desc := (.struct #[{ name := "x", type := 2, offset := 0, embedded := false, tag := "", pkgPath := "runtime", byteOffset := 0 }, { name := "y", type := 3, offset := 1, embedded := false, tag := "", pkgPath := "runtime", byteOffset := 8 }, { name := "signed", type := 4, offset := 2, embedded := false, tag := "", pkgPath := "runtime", byteOffset := 16 }, { name := "code", type := 6, offset := 3, embedded := false, tag := "", pkgPath := "runtime", byteOffset := 17 }]), size := 4, bytes := 24, zero := [.int .i64 (0), .int .i64 (0), .bool false, .int .u8 (0)], agg := true, cmp := true } := rfl
@[simp] theorem ED_desc7 : ED.desc 7 = some (.struct #[{ name := "x", type := 2, offset := 0, embedded := false, tag := "", pkgPath := "runtime", byteOffset := 0 }, { name := "y", type := 3, offset := 1, embedded := false, tag := "", pkgPath := "runtime", byteOffset := 8 }, { name := "signed", type := 4, offset := 2, embedded := false, tag := "", pkgPath := "runtime", byteOffset := 16 }, { name := "code", type := 6, offset := 3, embedded := false, tag := "", pkgPath := "runtime", byteOffset := 17 }]) := rfl
@[simp] theorem ED_size7 : ED.size 7 = some 4 := rfl
@[simp] theorem ED_ti8 : ED.ti 8 = some { desc := (.struct #[{ name := "x", type := 2, offset := 0, embedded := false, tag := "", pkgPath := "runtime", byteOffset := 0 }, { name := "y", type := 3, offset := 1, embedded := false, tag := "", pkgPath := "runtime", byteOffset := 8 }, { name := "signed", type := 4, offset := 2, embedded := false, tag := "", pkgPath := "runtime", byteOffset := 16 }, { name := "code", type := 6, offset := 3, embedded := false, tag := "", pkgPath := "runtime", byteOffset := 17 }]), size := 4, bytes := 24, zero := [.int .i64 (0), .int .i64 (0), .bool false, .int .u8 (0)], agg := true, cmp := true } := rfl
@[simp] theorem ED_desc8 : ED.desc 8 = some (.struct #[{ name := "x", type := 2, offset := 0, embedded := false, tag := "", pkgPath := "runtime", byteOffset := 0 }, { name := "y", type := 3, offset := 1, embedded := false, tag := "", pkgPath := "runtime", byteOffset := 8 }, { name := "signed", type := 4, offset := 2, embedded := false, tag := "", pkgPath := "runtime", byteOffset := 16 }, { name := "code", type := 6, offset := 3, embedded := false, tag := "", pkgPath := "runtime", byteOffset := 17 }]) := rfl
@[simp] theorem ED_size8 : ED.size 8 = some 4 := rfl
@[simp] theorem ED_ti9 : ED.ti 9 = some { desc := .string, size := 1, bytes := 16, zero := [.str []], agg := false, cmp := true } := rfl
@[simp] theorem ED_desc9 : ED.desc 9 = some .string := rfl
@[simp] theorem ED_size9 : ED.size 9 = some 1 := rfl
@[simp] theorem ED_ti10 : ED.ti 10 = some { desc := .string, size := 1, bytes := 16, zero := [.str []], agg := false, cmp := true } := rfl
@[simp] theorem ED_desc10 : ED.desc 10 = some .string := rfl
@[simp] theorem ED_size10 : ED.size 10 = some 1 := rfl
@[simp] theorem ED_ti11 : ED.ti 11 = some { desc := .string, size := 1, bytes := 16, zero := [.str []], agg := false, cmp := true } := rfl
@[simp] theorem ED_desc11 : ED.desc 11 = some .string := rfl
@[simp] theorem ED_size11 : ED.size 11 = some 1 := rfl
@[simp] theorem ED_ti12 : ED.ti 12 = some { desc := (.int .u64), size := 1, bytes := 8, zero := [.int .u64 (0)], agg := false, cmp := true } := rfl
@[simp] theorem ED_desc12 : ED.desc 12 = some (.int .u64) := rfl
@[simp] theorem ED_size12 : ED.size 12 = some 1 := rfl
@[simp] theorem ED_ti13 : ED.ti 13 = some { desc := (.struct #[{ name := "msg", type := 9, offset := 0, embedded := false, tag := "", pkgPath := "runtime", byteOffset := 0 }, { name := "addr", type := 12, offset := 1, embedded := false, tag := "", pkgPath := "runtime", byteOffset := 16 }]), size := 2, bytes := 24, zero := [.str [], .int .u64 (0)], agg := true, cmp := false } := rfl
@[simp] theorem ED_desc13 : ED.desc 13 = some (.struct #[{ name := "msg", type := 9, offset := 0, embedded := false, tag := "", pkgPath := "runtime", byteOffset := 0 }, { name := "addr", type := 12, offset := 1, embedded := false, tag := "", pkgPath := "runtime", byteOffset := 16 }]) := rfl
@[simp] theorem ED_size13 : ED.size 13 = some 2 := rfl
@[simp] theorem ED_ti14 : ED.ti 14 = some { desc := (.struct #[{ name := "msg", type := 9, offset := 0, embedded := false, tag := "", pkgPath := "runtime", byteOffset := 0 }, { name := "addr", type := 12, offset := 1, embedded := false, tag := "", pkgPath := "runtime", byteOffset := 16 }]), size := 2, bytes := 24, zero := [.str [], .int .u64 (0)], agg := true, cmp := false } := rfl
@[simp] theorem ED_desc14 : ED.desc 14 = some (.struct #[{ name := "msg", type := 9, offset := 0, embedded := false, tag := "", pkgPath := "runtime", byteOffset := 0 }, { name := "addr", type := 12, offset := 1, embedded := false, tag := "", pkgPath := "runtime", byteOffset := 16 }]) := rfl
@[simp] theorem ED_size14 : ED.size 14 = some 2 := rfl
@[simp] theorem ED_ti15 : ED.ti 15 = some { desc := (.pointer 139), size := 1, bytes := 8, zero := [.nilp], agg := false, cmp := true } := rfl
@[simp] theorem ED_desc15 : ED.desc 15 = some (.pointer 139) := rfl
@[simp] theorem ED_size15 : ED.size 15 = some 1 := rfl
@[simp] theorem ED_ti16 : ED.ti 16 = some { desc := (.pointer 142), size := 1, bytes := 8, zero := [.nilp], agg := false, cmp := true } := rfl
@[simp] theorem ED_desc16 : ED.desc 16 = some (.pointer 142) := rfl
@[simp] theorem ED_size16 : ED.size 16 = some 1 := rfl
@[simp] theorem ED_ti17 : ED.ti 17 = some { desc := (.pointer 151), size := 1, bytes := 8, zero := [.nilp], agg := false, cmp := true } := rfl
@[simp] theorem ED_desc17 : ED.desc 17 = some (.pointer 151) := rfl
@[simp] theorem ED_size17 : ED.size 17 = some 1 := rfl
@[simp] theorem ED_ti18 : ED.ti 18 = some { desc := (.struct #[{ name := "typ", type := 17, offset := 0, embedded := false, tag := "", pkgPath := "internal/runtime/maps", byteOffset := 0 }]), size := 1, bytes := 8, zero := [.nilp], agg := true, cmp := false } := rfl
@[simp] theorem ED_desc18 : ED.desc 18 = some (.struct #[{ name := "typ", type := 17, offset := 0, embedded := false, tag := "", pkgPath := "internal/runtime/maps", byteOffset := 0 }]) := rfl
@[simp] theorem ED_size18 : ED.size 18 = some 1 := rfl
@[simp] theorem ED_ti19 : ED.ti 19 = some { desc := (.struct #[{ name := "typ", type := 17, offset := 0, embedded := false, tag := "", pkgPath := "internal/runtime/maps", byteOffset := 0 }]), size := 1, bytes := 8, zero := [.nilp], agg := true, cmp := false } := rfl
@[simp] theorem ED_desc19 : ED.desc 19 = some (.struct #[{ name := "typ", type := 17, offset := 0, embedded := false, tag := "", pkgPath := "internal/runtime/maps", byteOffset := 0 }]) := rfl
@[simp] theorem ED_size19 : ED.size 19 = some 1 := rfl
@[simp] theorem ED_ti20 : ED.ti 20 = some { desc := (.interface #[]), size := 1, bytes := 16, zero := [.nili], agg := false, cmp := true } := rfl
@[simp] theorem ED_desc20 : ED.desc 20 = some (.interface #[]) := rfl
@[simp] theorem ED_size20 : ED.size 20 = some 1 := rfl
@[simp] theorem ED_ti21 : ED.ti 21 = some { desc := (.int .i32), size := 1, bytes := 4, zero := [.int .i32 (0)], agg := false, cmp := true } := rfl
@[simp] theorem ED_desc21 : ED.desc 21 = some (.int .i32) := rfl
@[simp] theorem ED_size21 : ED.size 21 = some 1 := rfl
@[simp] theorem ED_ti22 : ED.ti 22 = some { desc := (.slice 24), size := 1, bytes := 24, zero := [.nils], agg := false, cmp := true } := rfl
@[simp] theorem ED_desc22 : ED.desc 22 = some (.slice 24) := rfl
@[simp] theorem ED_size22 : ED.size 22 = some 1 := rfl
@[simp] theorem ED_ti23 : ED.ti 23 = some { desc := (.struct #[{ name := "Kind", type := 3, offset := 0, embedded := false, tag := "", pkgPath := "", byteOffset := 0 }, { name := "N", type := 3, offset := 1, embedded := false, tag := "", pkgPath := "", byteOffset := 8 }, { name := "L", type := 22, offset := 2, embedded := false, tag := "", pkgPath := "", byteOffset := 16 }]), size := 3, bytes := 40, zero := [.int .i64 (0), .int .i64 (0), .nils], agg := true, cmp := true } := rfl
@[simp] theorem ED_desc23 : ED.desc 23 = some (.struct #[{ name := "Kind", type := 3, offset := 0, embedded := false, tag := "", pkgPath := "", byteOffset := 0 }, { name := "N", type := 3, offset := 1, embedded := false, tag := "", pkgPath := "", byteOffset := 8 }, { name := "L", type := 22, offset := 2, embedded := false, tag := "", pkgPath := "", byteOffset := 16 }]) := rfl
@[simp] theorem ED_size23 : ED.size 23 = some 3 := rfl
@[simp] theorem ED_ti24 : ED.ti 24 = some { desc := (.struct #[{ name := "Kind", type := 3, offset := 0, embedded := false, tag := "", pkgPath := "", byteOffset := 0 }, { name := "N", type := 3, offset := 1, embedded := false, tag := "", pkgPath := "", byteOffset := 8 }, { name := "L", type := 22, offset := 2, embedded := false, tag := "", pkgPath := "", byteOffset := 16 }]), size := 3, bytes := 40, zero := [.int .i64 (0), .int .i64 (0), .nils], agg := true, cmp := true } := rfl
@[simp] theorem ED_desc24 : ED.desc 24 = some (.struct #[{ name := "Kind", type := 3, offset := 0, embedded := false, tag := "", pkgPath := "", byteOffset := 0 }, { name := "N", type := 3, offset := 1, embedded := false, tag := "", pkgPath := "", byteOffset := 8 }, { name := "L", type := 22, offset := 2, embedded := false, tag := "", pkgPath := "", byteOffset := 16 }]) := rfl
@[simp] theorem ED_size24 : ED.size 24 = some 3 := rfl
@[simp] theorem ED_ti25 : ED.ti 25 = some { desc := (.func #[24, 3] #[4] false), size := 1, bytes := 8, zero := [.nilf], agg := false, cmp := true } := rfl
@[simp] theorem ED_desc25 : ED.desc 25 = some (.func #[24, 3] #[4] false) := rfl
@[simp] theorem ED_size25 : ED.size 25 = some 1 := rfl
@[simp] theorem ED_ti26 : ED.ti 26 = some { desc := (.func #[] #[4] false), size := 1, bytes := 8, zero := [.nilf], agg := false, cmp := true } := rfl
@[simp] theorem ED_desc26 : ED.desc 26 = some (.func #[] #[4] false) := rfl
@[simp] theorem ED_size26 : ED.size 26 = some 1 := rfl
@[simp] theorem ED_ti27 : ED.ti 27 = some { desc := (.int .i64), size := 1, bytes := 8, zero := [.int .i64 (0)], agg := false, cmp := true } := rfl
@[simp] theorem ED_desc27 : ED.desc 27 = some (.int .i64) := rfl
@[simp] theorem ED_size27 : ED.size 27 = some 1 := rfl
@[simp] theorem ED_ti28 : ED.ti 28 = some { desc := (.tuple #[9, 27]), size := 1, bytes := 0, zero := [.undef], agg := false, cmp := true } := rfl
@[simp] theorem ED_desc28 : ED.desc 28 = some (.tuple #[9, 27]) := rfl
@[simp] theorem ED_size28 : ED.size 28 = some 1 := rfl
@[simp] theorem ED_ti29 : ED.ti 29 = some { desc := (.func #[9] #[9, 27] false), size := 1, bytes := 8, zero := [.nilf], agg := false, cmp := true } := rfl
@[simp] theorem ED_desc29 : ED.desc 29 = some (.func #[9] #[9, 27] false) := rfl
@[simp] theorem ED_size29 : ED.size 29 = some 1 := rfl
@[simp] theorem ED_ti30 : ED.ti 30 = some { desc := (.slice 32), size := 1, bytes := 24, zero := [.nils], agg := false, cmp := true } := rfl
@[simp] theorem ED_desc30 : ED.desc 30 = some (.slice 32) := rfl
@[simp] theorem ED_size30 : ED.size 30 = some 1 := rfl
@[simp] theorem ED_ti31 : ED.ti 31 = some { desc := (.struct #[{ name := "Kind", type := 3, offset := 0, embedded := false, tag := "", pkgPath := "", byteOffset := 0 }, { name := "N", type := 3, offset := 1, embedded := false, tag := "", pkgPath := "", byteOffset := 8 }, { name := "L", type := 30, offset := 2, embedded := false, tag := "", pkgPath := "", byteOffset := 16 }]), size := 3, bytes := 40, zero := [.int .i64 (0), .int .i64 (0), .nils], agg := true, cmp := true } := rfl
@[simp] theorem ED_desc31 : ED.desc 31 = some (.struct #[{ name := "Kind", type := 3, offset := 0, embedded := false, tag := "", pkgPath := "", byteOffset := 0 }, { name := "N", type := 3, offset := 1, embedded := false, tag := "", pkgPath := "", byteOffset := 8 }, { name := "L", type := 30, offset := 2, embedded := false, tag := "", pkgPath := "", byteOffset := 16 }]) := rfl
@[simp] theorem ED_size31 : ED.size 31 = some 3 := rfl
@[simp] theorem ED_ti32 : ED.ti 32 = some { desc := (.struct #[{ name := "Kind", type := 3, offset := 0, embedded := false, tag := "", pkgPath := "", byteOffset := 0 }, { name := "N", type := 3, offset := 1, embedded := false, tag := "", pkgPath := "", byteOffset := 8 }, { name := "L", type := 30, offset := 2, embedded := false, tag := "", pkgPath := "", byteOffset := 16 }]), size := 3, bytes := 40, zero := [.int .i64 (0), .int .i64 (0), .nils], agg := true, cmp := true } := rfl
@[simp] theorem ED_desc32 : ED.desc 32 = some (.struct #[{ name := "Kind", type := 3, offset := 0, embedded := false, tag := "", pkgPath := "", byteOffset := 0 }, { name := "N", type := 3, offset := 1, embedded := false, tag := "", pkgPath := "", byteOffset := 8 }, { name := "L", type := 30, offset := 2, embedded := false, tag := "", pkgPath := "", byteOffset := 16 }]) := rfl
@[simp] theorem ED_size32 : ED.size 32 = some 3 := rfl
@[simp] theorem ED_ti33 : ED.ti 33 = some { desc := (.tuple #[32, 32, 27]), size := 1, bytes := 0, zero := [.undef], agg := false, cmp := true } := rfl
@[simp] theorem ED_desc33 : ED.desc 33 = some (.tuple #[32, 32, 27]) := rfl
@[simp] theorem ED_size33 : ED.size 33 = some 1 := rfl
@[simp] theorem ED_ti34 : ED.ti 34 = some { desc := (.func #[9] #[32, 32, 27] false), size := 1, bytes := 8, zero := [.nilf], agg := false, cmp := true } := rfl
@[simp] theorem ED_desc34 : ED.desc 34 = some (.func #[9] #[32, 32, 27] false) := rfl
@[simp] theorem ED_size34 : ED.size 34 = some 1 := rfl
@[simp] theorem ED_ti35 : ED.ti 35 = some { desc := (.tuple #[24, 27]), size := 1, bytes := 0, zero := [.undef], agg := false, cmp := true } := rfl
@[simp] theorem ED_desc35 : ED.desc 35 = some (.tuple #[24, 27]) := rfl
@[simp] theorem ED_size35 : ED.size 35 = some 1 := rfl
@[simp] theorem ED_ti36 : ED.ti 36 = some { desc := (.func #[9, 24] #[24, 27] false), size := 1, bytes := 8, zero := [.nilf], agg := false, cmp := true } := rfl
@[simp] theorem ED_desc36 : ED.desc 36 = some (.func #[9, 24] #[24, 27] false) := rfl
@[simp] theorem ED_size36 : ED.size 36 = some 1 := rfl
@[simp] theorem ED_ti37 : ED.ti 37 = some { desc := (.func #[38, 38] #[4] false), size := 1, bytes := 8, zero := [.nilf], agg := false, cmp := true } := rfl
@[simp] theorem ED_desc37 : ED.desc 37 = some (.func #[38, 38] #[4] false) := rfl
@[simp] theorem ED_size37 : ED.size 37 = some 1 := rfl
@[simp] theorem ED_ti38 : ED.ti 38 = some { desc := (.slice 9), size := 1, bytes := 24, zero := [.nils], agg := false, cmp := true } := rfl
@[simp] theorem ED_desc38 : ED.desc 38 = some (.slice 9) := rfl
@[simp] theorem ED_size38 : ED.size 38 = some 1 := rfl
@[simp] theorem ED_ti39 : ED.ti 39 = some { desc := (.func #[] #[38] false), size := 1, bytes := 8, zero := [.nilf], agg := false, cmp := true } := rfl
@[simp] theorem ED_desc39 : ED.desc 39 = some (.func #[] #[38] false) := rfl
@[simp] theorem ED_size39 : ED.size 39 = some 1 := rfl
@[simp] theorem ED_ti40 : ED.ti 40 = some { desc := (.func #[32, 32] #[4] false), size := 1, bytes := 8, zero := [.nilf], agg := false, cmp := true } := rfl
@[simp] theorem ED_desc40 : ED.desc 40 = some (.func #[32, 32] #[4] false) := rfl
@[simp] theorem ED_size40 : ED.size 40 = some 1 := rfl
@[simp] theorem ED_ti41 : ED.ti 41 = some { desc := (.func #[24, 24] #[4] false), size := 1, bytes := 8, zero := [.nilf], agg := false, cmp := true } := rfl
@[simp] theorem ED_desc41 : ED.desc 41 = some (.func #[24, 24] #[4] false) := rfl
@[simp] theorem ED_size41 : ED.size 41 = some 1 := rfl
@[simp] theorem ED_ti42 : ED.ti 42 = some { desc := (.func #[9, 24] #[4] false), size := 1, bytes := 8, zero := [.nilf], agg := false, cmp := true } := rfl
@[simp] theorem ED_desc42 : ED.desc 42 = some (.func #[9, 24] #[4] false) := rfl
@[simp] theorem ED_size42 : ED.size 42 = some 1 := rfl
@[simp] theorem ED_ti43 : ED.ti 43 = some { desc := (.func #[24, 3] #[3] false), size := 1, bytes := 8, zero := [.nilf], agg := false, cmp := true } := rfl
@[simp] theorem ED_desc43 : ED.desc 43 = some (.func #[24, 3] #[3] false) := rfl
@[simp] theorem ED_size43 : ED.size 43 = some 1 := rfl
@[simp] theorem ED_ti44 : ED.ti 44 = some { desc := (.func #[22] #[24] true), size := 1, bytes := 8, zero := [.nilf], agg := false, cmp := true } := rfl
@[simp] theorem ED_desc44 : ED.desc 44 = some (.func #[22] #[24] true) := rfl
@[simp] theorem ED_size44 : ED.size 44 = some 1 := rfl
@[simp] theorem ED_ti45 : ED.ti 45 = some { desc := (.func #[62] #[24] true), size := 1, bytes := 8, zero := [.nilf], agg := false, cmp := true } := rfl
@[simp] theorem ED_desc45 : ED.desc 45 = some (.func #[62] #[24] true) := rfl
@[simp] theorem ED_size45 : ED.size 45 = some 1 := rfl
@[simp] theorem ED_ti46 : ED.ti 46 = some { desc := (.func #[9, 24, 62] #[4] true), size := 1, bytes := 8, zero := [.nilf], agg := false, cmp := true } := rfl
@[simp] theorem ED_desc46 : ED.desc 46 = some (.func #[9, 24, 62] #[4] true) := rfl
@[simp] theorem ED_size46 : ED.size 46 = some 1 := rfl
@[simp] theorem ED_ti47 : ED.ti 47 = some { desc := (.func #[24, 24] #[24] false), size := 1, bytes := 8, zero := [.nilf], agg := false, cmp := true } := rfl
@[simp] theorem ED_desc47 : ED.desc 47 = some (.func #[24, 24] #[24] false) := rfl
@[simp] theorem ED_size47 : ED.size 47 = some 1 := rfl
@[simp] theorem ED_ti48 : ED.ti 48 = some { desc := (.func #[3] #[24] false), size := 1, bytes := 8, zero := [.nilf], agg := false, cmp := true } := rfl
@[simp] theorem ED_desc48 : ED.desc 48 = some (.func #[3] #[24] false) := rfl
@[simp] theorem ED_size48 : ED.size 48 = some 1 := rfl
@[simp] theorem ED_ti49 : ED.ti 49 = some { desc := (.func #[63] #[62] false), size := 1, bytes := 8, zero := [.nilf], agg := false, cmp := true } := rfl
@[simp] theorem ED_desc49 : ED.desc 49 = some (.func #[63] #[62] false) := rfl
@[simp] theorem ED_size49 : ED.size 49 = some 1 := rfl
@[simp] theorem ED_ti50 : ED.ti 50 = some { desc := (.struct #[{ name := "text", type := 9, offset := 0, embedded := false, tag := "", pkgPath := "sheafworks/libg", byteOffset := 0 }, { name := "arg", type := 32, offset := 1, embedded := false, tag := "", pkgPath := "sheafworks/libg", byteOffset := 16 }, { name := "result", type := 32, offset := 4, embedded := false, tag := "", pkgPath := "sheafworks/libg", byteOffset := 56 }, { name := "define", type := 49, offset := 7, embedded := false, tag := "", pkgPath := "sheafworks/libg", byteOffset := 96 }]), size := 8, bytes := 104, zero := [.str [], .int .i64 (0), .int .i64 (0), .nils, .int .i64 (0), .int .i64 (0), .nils, .nilf], agg := true, cmp := true } := rfl
@[simp] theorem ED_desc50 : ED.desc 50 = some (.struct #[{ name := "text", type := 9, offset := 0, embedded := false, tag := "", pkgPath := "sheafworks/libg", byteOffset := 0 }, { name := "arg", type := 32, offset := 1, embedded := false, tag := "", pkgPath := "sheafworks/libg", byteOffset := 16 }, { name := "result", type := 32, offset := 4, embedded := false, tag := "", pkgPath := "sheafworks/libg", byteOffset := 56 }, { name := "define", type := 49, offset := 7, embedded := false, tag := "", pkgPath := "sheafworks/libg", byteOffset := 96 }]) := rfl
@[simp] theorem ED_size50 : ED.size 50 = some 8 := rfl
@[simp] theorem ED_ti51 : ED.ti 51 = some { desc := (.struct #[{ name := "text", type := 9, offset := 0, embedded := false, tag := "", pkgPath := "sheafworks/libg", byteOffset := 0 }, { name := "arg", type := 32, offset := 1, embedded := false, tag := "", pkgPath := "sheafworks/libg", byteOffset := 16 }, { name := "result", type := 32, offset := 4, embedded := false, tag := "", pkgPath := "sheafworks/libg", byteOffset := 56 }, { name := "define", type := 49, offset := 7, embedded := false, tag := "", pkgPath := "sheafworks/libg", byteOffset := 96 }]), size := 8, bytes := 104, zero := [.str [], .int .i64 (0), .int .i64 (0), .nils, .int .i64 (0), .int .i64 (0), .nils, .nilf], agg := true, cmp := true } := rfl
@[simp] theorem ED_desc51 : ED.desc 51 = some (.struct #[{ name := "text", type := 9, offset := 0, embedded := false, tag := "", pkgPath := "sheafworks/libg", byteOffset := 0 }, { name := "arg", type := 32, offset := 1, embedded := false, tag := "", pkgPath := "sheafworks/libg", byteOffset := 16 }, { name := "result", type := 32, offset := 4, embedded := false, tag := "", pkgPath := "sheafworks/libg", byteOffset := 56 }, { name := "define", type := 49, offset := 7, embedded := false, tag := "", pkgPath := "sheafworks/libg", byteOffset := 96 }]) := rfl
@[simp] theorem ED_size51 : ED.size 51 = some 8 := rfl
@[simp] theorem ED_ti52 : ED.ti 52 = some { desc := (.tuple #[51, 4]), size := 1, bytes := 0, zero := [.undef], agg := false, cmp := true } := rfl
@[simp] theorem ED_desc52 : ED.desc 52 = some (.tuple #[51, 4]) := rfl
@[simp] theorem ED_size52 : ED.size 52 = some 1 := rfl
@[simp] theorem ED_ti53 : ED.ti 53 = some { desc := (.map 9 51), size := 1, bytes := 8, zero := [.nilm], agg := false, cmp := true } := rfl
@[simp] theorem ED_desc53 : ED.desc 53 = some (.map 9 51) := rfl
@[simp] theorem ED_size53 : ED.size 53 = some 1 := rfl
@[simp] theorem ED_ti54 : ED.ti 54 = some { desc := (.func #[] #[53] false), size := 1, bytes := 8, zero := [.nilf], agg := false, cmp := true } := rfl
@[simp] theorem ED_desc54 : ED.desc 54 = some (.func #[] #[53] false) := rfl
@[simp] theorem ED_size54 : ED.size 54 = some 1 := rfl
@[simp] theorem ED_ti55 : ED.ti 55 = some { desc := (.func #[38, 9] #[3] false), size := 1, bytes := 8, zero := [.nilf], agg := false, cmp := true } := rfl
@[simp] theorem ED_desc55 : ED.desc 55 = some (.func #[38, 9] #[3] false) := rfl
@[simp] theorem ED_size55 : ED.size 55 = some 1 := rfl
@[simp] theorem ED_ti56 : ED.ti 56 = some { desc := (.func #[32] #[32] false), size := 1, bytes := 8, zero := [.nilf], agg := false, cmp := true } := rfl
@[simp] theorem ED_desc56 : ED.desc 56 = some (.func #[32] #[32] false) := rfl
@[simp] theorem ED_size56 : ED.size 56 = some 1 := rfl
@[simp] theorem ED_ti57 : ED.ti 57 = some { desc := (.func #[32, 32] #[32] false), size := 1, bytes := 8, zero := [.nilf], agg := false, cmp := true } := rfl
@[simp] theorem ED_desc57 : ED.desc 57 = some (.func #[32, 32] #[32] false) := rfl
@[simp] theorem ED_size57 : ED.size 57 = some 1 := rfl
@[simp] theorem ED_ti58 : ED.ti 58 = some { desc := (.func #[] #[32] false), size := 1, bytes := 8, zero := [.nilf], agg := false, cmp := true } := rfl
@[simp] theorem ED_desc58 : ED.desc 58 = some (.func #[] #[32] false) := rfl
@[simp] theorem ED_size58 : ED.size 58 = some 1 := rfl
@[simp] theorem ED_ti59 : ED.ti 59 = some { desc := (.func #[24, 32] #[27] false), size := 1, bytes := 8, zero := [.nilf], agg := false, cmp := true } := rfl
@[simp] theorem ED_desc59 : ED.desc 59 = some (.func #[24, 32] #[27] false) := rfl
@[simp] theorem ED_size59 : ED.size 59 = some 1 := rfl
@[simp] theorem ED_ti60 : ED.ti 60 = some { desc := (.struct #[]), size := 0, bytes := 0, zero := [], agg := true, cmp := true } := rfl
@[simp] theorem ED_desc60 : ED.desc 60 = some (.struct #[]) := rfl
@[simp] theorem ED_size60 : ED.size 60 = some 0 := rfl
@[simp] theorem ED_ti61 : ED.ti 61 = some { desc := (.struct #[]), size := 0, bytes := 0, zero := [], agg := true, cmp := true } := rfl
@[simp] theorem ED_desc61 : ED.desc 61 = some (.struct #[]) := rfl
@[simp] theorem ED_size61 : ED.size 61 = some 0 := rfl
@[simp] theorem ED_ti62 : ED.ti 62 = some { desc := (.slice 3), size := 1, bytes := 24, zero := [.nils], agg := false, cmp := true } := rfl
@[simp] theorem ED_desc62 : ED.desc 62 = some (.slice 3) := rfl
@[simp] theorem ED_size62 : ED.size 62 = some 1 := rfl
@[simp] theorem ED_ti63 : ED.ti 63 = some { desc := (.struct #[{ name := "Kind", type := 3, offset := 0, embedded := false, tag := "", pkgPath := "", byteOffset := 0 }, { name := "N", type := 3, offset := 1, embedded := false, tag := "", pkgPath := "", byteOffset := 8 }, { name := "L", type := 22, offset := 2, embedded := false, tag := "", pkgPath := "", byteOffset := 16 }]), size := 3, bytes := 40, zero := [.int .i64 (0), .int .i64 (0), .nils], agg := true, cmp := true } := rfl
@[simp] theorem ED_desc63 : ED.desc 63 = some (.struct #[{ name := "Kind", type := 3, offset := 0, embedded := false, tag := "", pkgPath := "", byteOffset := 0 }, { name := "N", type := 3, offset := 1, embedded := false, tag := "", pkgPath := "", byteOffset := 8 }, { name := "L", type := 22, offset := 2, embedded := false, tag := "", pkgPath := "", byteOffset := 16 }]) := rfl
@[simp] theorem ED_size63 : ED.size 63 = some 3 := rfl
@[simp] theorem ED_ti64 : ED.ti 64 = some { desc := (.tuple #[62, 4]), size := 1, bytes := 0, zero := [.undef], agg := false, cmp := true } := rfl
@[simp] theorem ED_desc64 : ED.desc 64 = some (.tuple #[62, 4]) := rfl
@[simp] theorem ED_size64 : ED.size 64 = some 1 := rfl
@[simp] theorem ED_ti65 : ED.ti 65 = some { desc := (.func #[9, 24] #[62, 4] false), size := 1, bytes := 8, zero := [.nilf], agg := false, cmp := true } := rfl
@[simp] theorem ED_desc65 : ED.desc 65 = some (.func #[9, 24] #[62, 4] false) := rfl
@[simp] theorem ED_size65 : ED.size 65 = some 1 := rfl
@[simp] theorem ED_ti66 : ED.ti 66 = some { desc := (.func #[62] #[24] false), size := 1, bytes := 8, zero := [.nilf], agg := false, cmp := true } := rfl
@[simp] theorem ED_desc66 : ED.desc 66 = some (.func #[62] #[24] false) := rfl
@[simp] theorem ED_size66 : ED.size 66 = some 1 := rfl
@[simp] theorem ED_ti67 : ED.ti 67 = some { desc := (.func #[] #[62] false), size := 1, bytes := 8, zero := [.nilf], agg := false, cmp := true } := rfl
@[simp] theorem ED_desc67 : ED.desc 67 = some (.func #[] #[62] false) := rfl
@[simp] theorem ED_size67 : ED.size 67 = some 1 := rfl
@[simp] theorem ED_ti68 : ED.ti 68 = some { desc := (.func #[69] #[] false), size := 1, bytes := 8, zero := [.nilf], agg := false, cmp := true } := rfl
@[simp] theorem ED_desc68 : ED.desc 68 = some (.func #[69] #[] false) := rfl
@[simp] theorem ED_size68 : ED.size 68 = some 1 := rfl
@[simp] theorem ED_ti69 : ED.ti 69 = some { desc := (.pointer 27), size := 1, bytes := 8, zero := [.nilp], agg := false, cmp := true } := rfl
@[simp] theorem ED_desc69 : ED.desc 69 = some (.pointer 27) := rfl
@[simp] theorem ED_size69 : ED.size 69 = some 1 := rfl
@[simp] theorem ED_ti70 : ED.ti 70 = some { desc := (.pointer 117), size := 1, bytes := 8, zero := [.nilp], agg := false, cmp := true } := rfl
@[simp] theorem ED_desc70 : ED.desc 70 = some (.pointer 117) := rfl
@[simp] theorem ED_size70 : ED.size 70 = some 1 := rfl
@[simp] theorem ED_ti71 : ED.ti 71 = some { desc := (.func #[32] #[70] false), size := 1, bytes := 8, zero := [.nilf], agg := false, cmp := true } := rfl
@[simp] theorem ED_desc71 : ED.desc 71 = some (.func #[32] #[70] false) := rfl
@[simp] theorem ED_size71 : ED.size 71 = some 1 := rfl
@[simp] theorem ED_ti72 : ED.ti 72 = some { desc := (.tuple #[3, 4]), size := 1, bytes := 0, zero := [.undef], agg := false, cmp := true } := rfl
@[simp] theorem ED_desc72 : ED.desc 72 = some (.tuple #[3, 4]) := rfl
@[simp] theorem ED_size72 : ED.size 72 = some 1 := rfl
@[simp] theorem ED_ti73 : ED.ti 73 = some { desc := (.func #[24] #[3, 4] false), size := 1, bytes := 8, zero := [.nilf], agg := false, cmp := true } := rfl
@[simp] theorem ED_desc73 : ED.desc 73 = some (.func #[24] #[3, 4] false) := rfl
@[simp] theorem ED_size73 : ED.size 73 = some 1 := rfl
@[simp] theorem ED_ti74 : ED.ti 74 = some { desc := (.func #[4, 27] #[] false), size := 1, bytes := 8, zero := [.nilf], agg := false, cmp := true } := rfl
@[simp] theorem ED_desc74 : ED.desc 74 = some (.func #[4, 27] #[] false) := rfl
@[simp] theorem ED_size74 : ED.size 74 = some 1 := rfl
@[simp] theorem ED_ti75 : ED.ti 75 = some { desc := (.func #[24] #[4] false), size := 1, bytes := 8, zero := [.nilf], agg := false, cmp := true } := rfl
@[simp] theorem ED_desc75 : ED.desc 75 = some (.func #[24] #[4] false) := rfl
@[simp] theorem ED_size75 : ED.size 75 = some 1 := rfl
@[simp] theorem ED_ti76 : ED.ti 76 = some { desc := (.func #[32] #[27] false), size := 1, bytes := 8, zero := [.nilf], agg := false, cmp := true } := rfl
@[simp] theorem ED_desc76 : ED.desc 76 = some (.func #[32] #[27] false) := rfl
@[simp] theorem ED_size76 : ED.size 76 = some 1 := rfl
@[simp] theorem ED_ti77 : ED.ti 77 = some { desc := (.func #[24] #[3] false), size := 1, bytes := 8, zero := [.nilf], agg := false, cmp := true } := rfl
@[simp] theorem ED_desc77 : ED.desc 77 = some (.func #[24] #[3] false) := rfl
@[simp] theorem ED_size77 : ED.size 77 = some 1 := rfl
@[simp] theorem ED_ti78 : ED.ti 78 = some { desc := (.func #[24, 32] #[4] false), size := 1, bytes := 8, zero := [.nilf], agg := false, cmp := true } := rfl
@[simp] theorem ED_desc78 : ED.desc 78 = some (.func #[24, 32] #[4] false) := rfl
@[simp] theorem ED_size78 : ED.size 78 = some 1 := rfl
@[simp] theorem ED_ti79 : ED.ti 79 = some { desc := (.func #[3, 3, 3] #[4] false), size := 1, bytes := 8, zero := [.nilf], agg := false, cmp := true } := rfl
@[simp] theorem ED_desc79 : ED.desc 79 = some (.func #[3, 3, 3] #[4] false) := rfl
@[simp] theorem ED_size79 : ED.size 79 = some 1 := rfl
@[simp] theorem ED_ti80 : ED.ti 80 = some { desc := (.func #[22, 62] #[62, 4] false), size := 1, bytes := 8, zero := [.nilf], agg := false, cmp := true } := rfl
@[simp] theorem ED_desc80 : ED.desc 80 = some (.func #[22, 62] #[62, 4] false) := rfl
@[simp] theorem ED_size80 : ED.size 80 = some 1 := rfl
@[simp] theorem ED_ti81 : ED.ti 81 = some { desc := (.func #[24] #[62] false), size := 1, bytes := 8, zero := [.nilf], agg := false, cmp := true } := rfl
@[simp] theorem ED_desc81 : ED.desc 81 = some (.func #[24] #[62] false) := rfl
@[simp] theorem ED_size81 : ED.size 81 = some 1 := rfl
@[simp] theorem ED_ti82 : ED.ti 82 = some { desc := (.func #[3, 22, 62] #[62, 4] false), size := 1, bytes := 8, zero := [.nilf], agg := false, cmp := true } := rfl
@[simp] theorem ED_desc82 : ED.desc 82 = some (.func #[3, 22, 62] #[62, 4] false) := rfl
@[simp] theorem ED_size82 : ED.size 82 = some 1 := rfl
@[simp] theorem ED_ti83 : ED.ti 83 = some { desc := (.func #[84] #[62, 4] false), size := 1, bytes := 8, zero := [.nilf], agg := false, cmp := true } := rfl
@[simp] theorem ED_desc83 : ED.desc 83 = some (.func #[84] #[62, 4] false) := rfl
@[simp] theorem ED_size83 : ED.size 83 = some 1 := rfl
@[simp] theorem ED_ti84 : ED.ti 84 = some { desc := (.slice 62), size := 1, bytes := 24, zero := [.nils], agg := false, cmp := true } := rfl
@[simp] theorem ED_desc84 : ED.desc 84 = some (.slice 62) := rfl
@[simp] theorem ED_size84 : ED.size 84 = some 1 := rfl
@[simp] theorem ED_ti85 : ED.ti 85 = some { desc := (.func #[24] #[84] false), size := 1, bytes := 8, zero := [.nilf], agg := false, cmp := true } := rfl
@[simp] theorem ED_desc85 : ED.desc 85 = some (.func #[24] #[84] false) := rfl
@[simp] theorem ED_size85 : ED.size 85 = some 1 := rfl
@[simp] theorem ED_ti86 : ED.ti 86 = some { desc := (.func #[3, 84] #[62, 4] false), size := 1, bytes := 8, zero := [.nilf], agg := false, cmp := true } := rfl
@[simp] theorem ED_desc86 : ED.desc 86 = some (.func #[3, 84] #[62, 4] false) := rfl
@[simp] theorem ED_size86 : ED.size 86 = some 1 := rfl
@[simp] theorem ED_ti87 : ED.ti 87 = some { desc := (.func #[3, 3, 84] #[62, 4] false), size := 1, bytes := 8, zero := [.nilf], agg := false, cmp := true } := rfl
@[simp] theorem ED_desc87 : ED.desc 87 = some (.func #[3, 3, 84] #[62, 4] false) := rfl
@[simp] theorem ED_size87 : ED.size 87 = some 1 := rfl
@[simp] theorem ED_ti88 : ED.ti 88 = some { desc := (.slice 97), size := 1, bytes := 24, zero := [.nils], agg := false, cmp := true } := rfl
@[simp] theorem ED_desc88 : ED.desc 88 = some (.slice 97) := rfl
@[simp] theorem ED_size88 : ED.size 88 = some 1 := rfl
@[simp] theorem ED_ti89 : ED.ti 89 = some { desc := (.struct #[{ name := "l", type := 88, offset := 0, embedded := false, tag := "", pkgPath := "sheafworks/libg", byteOffset := 0 }]), size := 1, bytes := 24, zero := [.nils], agg := true, cmp := true } := rfl
@[simp] theorem ED_desc89 : ED.desc 89 = some (.struct #[{ name := "l", type := 88, offset := 0, embedded := false, tag := "", pkgPath := "sheafworks/libg", byteOffset := 0 }]) := rfl
@[simp] theorem ED_size89 : ED.size 89 = some 1 := rfl
@[simp] theorem ED_ti90 : ED.ti 90 = some { desc := (.struct #[{ name := "l", type := 88, offset := 0, embedded := false, tag := "", pkgPath := "sheafworks/libg", byteOffset := 0 }]), size := 1, bytes := 24, zero := [.nils], agg := true, cmp := true } := rfl
@[simp] theorem ED_desc90 : ED.desc 90 = some (.struct #[{ name := "l", type := 88, offset := 0, embedded := false, tag := "", pkgPath := "sheafworks/libg", byteOffset := 0 }]) := rfl
@[simp] theorem ED_size90 : ED.size 90 = some 1 := rfl
@[simp] theorem ED_ti91 : ED.ti 91 = some { desc := (.struct #[{ name := "edges", type := 90, offset := 0, embedded := true, tag := "", pkgPath := "sheafworks/libg", byteOffset := 0 }, { name := "nodes", type := 3, offset := 1, embedded := false, tag := "", pkgPath := "sheafworks/libg", byteOffset := 24 }]), size := 2, bytes := 32, zero := [.nils, .int .i64 (0)], agg := true, cmp := true } := rfl
@[simp] theorem ED_desc91 : ED.desc 91 = some (.struct #[{ name := "edges", type := 90, offset := 0, embedded := true, tag := "", pkgPath := "sheafworks/libg", byteOffset := 0 }, { name := "nodes", type := 3, offset := 1, embedded := false, tag := "", pkgPath := "sheafworks/libg", byteOffset := 24 }]) := rfl
@[simp] theorem ED_size91 : ED.size 91 = some 2 := rfl
@[simp] theorem ED_ti92 : ED.ti 92 = some { desc := (.struct #[{ name := "edges", type := 90, offset := 0, embedded := true, tag := "", pkgPath := "sheafworks/libg", byteOffset := 0 }, { name := "nodes", type := 3, offset := 1, embedded := false, tag := "", pkgPath := "sheafworks/libg", byteOffset := 24 }]), size := 2, bytes := 32, zero := [.nils, .int .i64 (0)], agg := true, cmp := true } := rfl
@[simp] theorem ED_desc92 : ED.desc 92 = some (.struct #[{ name := "edges", type := 90, offset := 0, embedded := true, tag := "", pkgPath := "sheafworks/libg", byteOffset := 0 }, { name := "nodes", type := 3, offset := 1, embedded := false, tag := "", pkgPath := "sheafworks/libg", byteOffset := 24 }]) := rfl
@[simp] theorem ED_size92 : ED.size 92 = some 2 := rfl
@[simp] theorem ED_ti93 : ED.ti 93 = some { desc := (.func #[3, 63] #[92] false), size := 1, bytes := 8, zero := [.nilf], agg := false, cmp := true } := rfl
@[simp] theorem ED_desc93 : ED.desc 93 = some (.func #[3, 63] #[92] false) := rfl
@[simp] theorem ED_size93 : ED.size 93 = some 1 := rfl
@[simp] theorem ED_ti94 : ED.ti 94 = some { desc := (.func #[] #[63] false), size := 1, bytes := 8, zero := [.nilf], agg := false, cmp := true } := rfl
@[simp] theorem ED_desc94 : ED.desc 94 = some (.func #[] #[63] false) := rfl
@[simp] theorem ED_size94 : ED.size 94 = some 1 := rfl
@[simp] theorem ED_ti95 : ED.ti 95 = some { desc := (.func #[3] #[3] false), size := 1, bytes := 8, zero := [.nilf], agg := false, cmp := true } := rfl
@[simp] theorem ED_desc95 : ED.desc 95 = some (.func #[3] #[3] false) := rfl
@[simp] theorem ED_size95 : ED.size 95 = some 1 := rfl
@[simp] theorem ED_ti96 : ED.ti 96 = some { desc := (.struct #[{ name := "x", type := 3, offset := 0, embedded := false, tag := "", pkgPath := "sheafworks/libg", byteOffset := 0 }, { name := "y", type := 3, offset := 1, embedded := false, tag := "", pkgPath := "sheafworks/libg", byteOffset := 8 }]), size := 2, bytes := 16, zero := [.int .i64 (0), .int .i64 (0)], agg := true, cmp := true } := rfl
@[simp] theorem ED_desc96 : ED.desc 96 = some (.struct #[{ name := "x", type := 3, offset := 0, embedded := false, tag := "", pkgPath := "sheafworks/libg", byteOffset := 0 }, { name := "y", type := 3, offset := 1, embedded := false, tag := "", pkgPath := "sheafworks/libg", byteOffset := 8 }]) := rfl
@[simp] theorem ED_size96 : ED.size 96 = some 2 := rfl
@[simp] theorem ED_ti97 : ED.ti 97 = some { desc := (.struct #[{ name := "x", type := 3, offset := 0, embedded := false, tag := "", pkgPath := "sheafworks/libg", byteOffset := 0 }, { name := "y", type := 3, offset := 1, embedded := false, tag := "", pkgPath := "sheafworks/libg", byteOffset := 8 }]), size := 2, bytes := 16, zero := [.int .i64 (0), .int .i64 (0)], agg := true, cmp := true } := rfl
@[simp] theorem ED_desc97 : ED.desc 97 = some (.struct #[{ name := "x", type := 3, offset := 0, embedded := false, tag := "", pkgPath := "sheafworks/libg", byteOffset := 0 }, { name := "y", type := 3, offset := 1, embedded := false, tag := "", pkgPath := "sheafworks/libg", byteOffset := 8 }]) := rfl
@[simp] theorem ED_size97 : ED.size 97 = some 2 := rfl
@[simp] theorem ED_ti98 : ED.ti 98 = some { desc := (.func #[4] #[] false), size := 1, bytes := 8, zero := [.nilf], agg := false, cmp := true } := rfl
@[simp] theorem ED_desc98 : ED.desc 98 = some (.func #[4] #[] false) := rfl
@[simp] theorem ED_size98 : ED.size 98 = some 1 := rfl
@[simp] theorem ED_ti99 : ED.ti 99 = some { desc := (.func #[124] #[] false), size := 1, bytes := 8, zero := [.nilf], agg := false, cmp := true } := rfl
@[simp] theorem ED_desc99 : ED.desc 99 = some (.func #[124] #[] false) := rfl
@[simp] theorem ED_size99 : ED.size 99 = some 1 := rfl
@[simp] theorem ED_ti100 : ED.ti 100 = some { desc := (.func #[3] #[99] false), size := 1, bytes := 8, zero := [.nilf], agg := false, cmp := true } := rfl
@[simp] theorem ED_desc100 : ED.desc 100 = some (.func #[3] #[99] false) := rfl
@[simp] theorem ED_size100 : ED.size 100 = some 1 := rfl
@[simp] theorem ED_ti101 : ED.ti 101 = some { desc := (.func #[102, 62] #[62] false), size := 1, bytes := 8, zero := [.nilf], agg := false, cmp := true } := rfl
@[simp] theorem ED_desc101 : ED.desc 101 = some (.func #[102, 62] #[62] false) := rfl
@[simp] theorem ED_size101 : ED.size 101 = some 1 := rfl
@[simp] theorem ED_ti102 : ED.ti 102 = some { desc := (.slice 88), size := 1, bytes := 24, zero := [.nils], agg := false, cmp := true } := rfl
@[simp] theorem ED_desc102 : ED.desc 102 = some (.slice 88) := rfl
@[simp] theorem ED_size102 : ED.size 102 = some 1 := rfl
@[simp] theorem ED_ti103 : ED.ti 103 = some { desc := (.func #[63] #[102] false), size := 1, bytes := 8, zero := [.nilf], agg := false, cmp := true } := rfl
@[simp] theorem ED_desc103 : ED.desc 103 = some (.func #[63] #[102] false) := rfl
@[simp] theorem ED_size103 : ED.size 103 = some 1 := rfl
@[simp] theorem ED_ti104 : ED.ti 104 = some { desc := (.func #[63, 105] #[88] false), size := 1, bytes := 8, zero := [.nilf], agg := false, cmp := true } := rfl
@[simp] theorem ED_desc104 : ED.desc 104 = some (.func #[63, 105] #[88] false) := rfl
@[simp] theorem ED_size104 : ED.size 104 = some 1 := rfl
@[simp] theorem ED_ti105 : ED.ti 105 = some { desc := (.func #[63] #[97] false), size := 1, bytes := 8, zero := [.nilf], agg := false, cmp := true } := rfl
@[simp] theorem ED_desc105 : ED.desc 105 = some (.func #[63] #[97] false) := rfl
@[simp] theorem ED_size105 : ED.size 105 = some 1 := rfl
@[simp] theorem ED_ti106 : ED.ti 106 = some { desc := (.func #[88, 97] #[3] false), size := 1, bytes := 8, zero := [.nilf], agg := false, cmp := true } := rfl
@[simp] theorem ED_desc106 : ED.desc 106 = some (.func #[88, 97] #[3] false) := rfl
@[simp] theorem ED_size106 : ED.size 106 = some 1 := rfl
@[simp] theorem ED_ti107 : ED.ti 107 = some { desc := (.func #[97, 97, 97] #[3] false), size := 1, bytes := 8, zero := [.nilf], agg := false, cmp := true } := rfl
@[simp] theorem ED_desc107 : ED.desc 107 = some (.func #[97, 97, 97] #[3] false) := rfl
@[simp] theorem ED_size107 : ED.size 107 = some 1 := rfl
@[simp] theorem ED_ti108 : ED.ti 108 = some { desc := (.func #[97, 97] #[3] false), size := 1, bytes := 8, zero := [.nilf], agg := false, cmp := true } := rfl
@[simp] theorem ED_desc108 : ED.desc 108 = some (.func #[97, 97] #[3] false) := rfl
@[simp] theorem ED_size108 : ED.size 108 = some 1 := rfl
@[simp] theorem ED_ti109 : ED.ti 109 = some { desc := (.struct #[{ name := "e", type := 27, offset := 0, embedded := false, tag := "", pkgPath := "sheafworks/nest", byteOffset := 0 }]), size := 1, bytes := 8, zero := [.int .i64 (0)], agg := true, cmp := true } := rfl
@[simp] theorem ED_desc109 : ED.desc 109 = some (.struct #[{ name := "e", type := 27, offset := 0, embedded := false, tag := "", pkgPath := "sheafworks/nest", byteOffset := 0 }]) := rfl
@[simp] theorem ED_size109 : ED.size 109 = some 1 := rfl
@[simp] theorem ED_ti110 : ED.ti 110 = some { desc := (.struct #[{ name := "e", type := 27, offset := 0, embedded := false, tag := "", pkgPath := "sheafworks/nest", byteOffset := 0 }]), size := 1, bytes := 8, zero := [.int .i64 (0)], agg := true, cmp := true } := rfl
@[simp] theorem ED_desc110 : ED.desc 110 = some (.struct #[{ name := "e", type := 27, offset := 0, embedded := false, tag := "", pkgPath := "sheafworks/nest", byteOffset := 0 }]) := rfl
@[simp] theorem ED_size110 : ED.size 110 = some 1 := rfl
@[simp] theorem ED_ti111 : ED.ti 111 = some { desc := (.func #[32] #[4] false), size := 1, bytes := 8, zero := [.nilf], agg := false, cmp := true } := rfl
@[simp] theorem ED_desc111 : ED.desc 111 = some (.func #[32] #[4] false) := rfl
@[simp] theorem ED_size111 : ED.size 111 = some 1 := rfl
@[simp] theorem ED_ti112 : ED.ti 112 = some { desc := (.array 5 3), size := 5, bytes := 40, zero := [.int .i64 (0), .int .i64 (0), .int .i64 (0), .int .i64 (0), .int .i64 (0)], agg := true, cmp := true } := rfl
@[simp] theorem ED_desc112 : ED.desc 112 = some (.array 5 3) := rfl
@[simp] theorem ED_size112 : ED.size 112 = some 5 := rfl
@[simp] theorem ED_ti113 : ED.ti 113 = some { desc := (.struct #[{ name := "own", type := 3, offset := 0, embedded := false, tag := "", pkgPath := "sheafworks/nest", byteOffset := 0 }, { name := "data", type := 3, offset := 1, embedded := false, tag := "", pkgPath := "sheafworks/nest", byteOffset := 8 }]), size := 2, bytes := 16, zero := [.int .i64 (0), .int .i64 (0)], agg := true, cmp := true } := rfl
@[simp] theorem ED_desc113 : ED.desc 113 = some (.struct #[{ name := "own", type := 3, offset := 0, embedded := false, tag := "", pkgPath := "sheafworks/nest", byteOffset := 0 }, { name := "data", type := 3, offset := 1, embedded := false, tag := "", pkgPath := "sheafworks/nest", byteOffset := 8 }]) := rfl
@[simp] theorem ED_size113 : ED.size 113 = some 2 := rfl
@[simp] theorem ED_ti114 : ED.ti 114 = some { desc := (.struct #[{ name := "own", type := 3, offset := 0, embedded := false, tag := "", pkgPath := "sheafworks/nest", byteOffset := 0 }, { name := "data", type := 3, offset := 1, embedded := false, tag := "", pkgPath := "sheafworks/nest", byteOffset := 8 }]), size := 2, bytes := 16, zero := [.int .i64 (0), .int .i64 (0)], agg := true, cmp := true } := rfl
@[simp] theorem ED_desc114 : ED.desc 114 = some (.struct #[{ name := "own", type := 3, offset := 0, embedded := false, tag := "", pkgPath := "sheafworks/nest", byteOffset := 0 }, { name := "data", type := 3, offset := 1, embedded := false, tag := "", pkgPath := "sheafworks/nest", byteOffset := 8 }]) := rfl
@[simp] theorem ED_size114 : ED.size 114 = some 2 := rfl
@[simp] theorem ED_ti115 : ED.ti 115 = some { desc := (.slice 70), size := 1, bytes := 24, zero := [.nils], agg := false, cmp := true } := rfl
@[simp] theorem ED_desc115 : ED.desc 115 = some (.slice 70) := rfl
@[simp] theorem ED_size115 : ED.size 115 = some 1 := rfl
@[simp] theorem ED_ti116 : ED.ti 116 = some { desc := (.struct #[{ name := "counter", type := 114, offset := 0, embedded := true, tag := "", pkgPath := "sheafworks/nest", byteOffset := 0 }, { name := "kind", type := 3, offset := 2, embedded := false, tag := "", pkgPath := "sheafworks/nest", byteOffset := 16 }, { name := "parts", type := 115, offset := 3, embedded := false, tag := "", pkgPath := "sheafworks/nest", byteOffset := 24 }]), size := 4, bytes := 48, zero := [.int .i64 (0), .int .i64 (0), .int .i64 (0), .nils], agg := true, cmp := true } := rfl
@[simp] theorem ED_desc116 : ED.desc 116 = some (.struct #[{ name := "counter", type := 114, offset := 0, embedded := true, tag := "", pkgPath := "sheafworks/nest", byteOffset := 0 }, { name := "kind", type := 3, offset := 2, embedded := false, tag := "", pkgPath := "sheafworks/nest", byteOffset := 16 }, { name := "parts", type := 115, offset := 3, embedded := false, tag := "", pkgPath := "sheafworks/nest", byteOffset := 24 }]) := rfl
@[simp] theorem ED_size116 : ED.size 116 = some 4 := rfl
@[simp] theorem ED_ti117 : ED.ti 117 = some { desc := (.struct #[{ name := "counter", type := 114, offset := 0, embedded := true, tag := "", pkgPath := "sheafworks/nest", byteOffset := 0 }, { name := "kind", type := 3, offset := 2, embedded := false, tag := "", pkgPath := "sheafworks/nest", byteOffset := 16 }, { name := "parts", type := 115, offset := 3, embedded := false, tag := "", pkgPath := "sheafworks/nest", byteOffset := 24 }]), size := 4, bytes := 48, zero := [.int .i64 (0), .int .i64 (0), .int .i64 (0), .nils], agg := true, cmp := true } := rfl
@[simp] theorem ED_desc117 : ED.desc 117 = some (.struct #[{ name := "counter", type := 114, offset := 0, embedded := true, tag := "", pkgPath := "sheafworks/nest", byteOffset := 0 }, { name := "kind", type := 3, offset := 2, embedded := false, tag := "", pkgPath := "sheafworks/nest", byteOffset := 16 }, { name := "parts", type := 115, offset := 3, embedded := false, tag := "", pkgPath := "sheafworks/nest", byteOffset := 24 }]) := rfl
@[simp] theorem ED_size117 : ED.size 117 = some 4 := rfl
@[simp] theorem ED_ti118 : ED.ti 118 = some { desc := (.func #[32] #[3] false), size := 1, bytes := 8, zero := [.nilf], agg := false, cmp := true } := rfl
@[simp] theorem ED_desc118 : ED.desc 118 = some (.func #[32] #[3] false) := rfl
@[simp] theorem ED_size118 : ED.size 118 = some 1 := rfl
@[simp] theorem ED_ti119 : ED.ti 119 = some { desc := (.func #[3] #[4] false), size := 1, bytes := 8, zero := [.nilf], agg := false, cmp := true } := rfl
@[simp] theorem ED_desc119 : ED.desc 119 = some (.func #[3] #[4] false) := rfl
@[simp] theorem ED_size119 : ED.size 119 = some 1 := rfl
@[simp] theorem ED_ti120 : ED.ti 120 = some { desc := (.func #[84] #[3] false), size := 1, bytes := 8, zero := [.nilf], agg := false, cmp := true } := rfl
@[simp] theorem ED_desc120 : ED.desc 120 = some (.func #[84] #[3] false) := rfl
@[simp] theorem ED_size120 : ED.size 120 = some 1 := rfl
@[simp] theorem ED_ti121 : ED.ti 121 = some { desc := (.func #[84, 3] #[3] false), size := 1, bytes := 8, zero := [.nilf], agg := false, cmp := true } := rfl
@[simp] theorem ED_desc121 : ED.desc 121 = some (.func #[84, 3] #[3] false) := rfl
@[simp] theorem ED_size121 : ED.size 121 = some 1 := rfl
@[simp] theorem ED_ti122 : ED.ti 122 = some { desc := (.func #[3, 3] #[4] false), size := 1, bytes := 8, zero := [.nilf], agg := false, cmp := true } := rfl
@[simp] theorem ED_desc122 : ED.desc 122 = some (.func #[3, 3] #[4] false) := rfl
@[simp] theorem ED_size122 : ED.size 122 = some 1 := rfl
@[simp] theorem ED_ti123 : ED.ti 123 = some { desc := (.func #[3] #[63] false), size := 1, bytes := 8, zero := [.nilf], agg := false, cmp := true } := rfl
@[simp] theorem ED_desc123 : ED.desc 123 = some (.func #[3] #[63] false) := rfl
@[simp] theorem ED_size123 : ED.size 123 = some 1 := rfl
@[simp] theorem ED_ti124 : ED.ti 124 = some { desc := (.func #[97, 4] #[4] false), size := 1, bytes := 8, zero := [.nilf], agg := false, cmp := true } := rfl
@[simp] theorem ED_desc124 : ED.desc 124 = some (.func #[97, 4] #[4] false) := rfl
@[simp] theorem ED_size124 : ED.size 124 = some 1 := rfl
@[simp] theorem ED_ti125 : ED.ti 125 = some { desc := (.func #[63, 126] #[102] false), size := 1, bytes := 8, zero := [.nilf], agg := false, cmp := true } := rfl
@[simp] theorem ED_desc125 : ED.desc 125 = some (.func #[63, 126] #[102] false) := rfl
@[simp] theorem ED_size125 : ED.size 125 = some 1 := rfl
@[simp] theorem ED_ti126 : ED.ti 126 = some { desc := (.func #[63] #[88] false), size := 1, bytes := 8, zero := [.nilf], agg := false, cmp := true } := rfl
@[simp] theorem ED_desc126 : ED.desc 126 = some (.func #[63] #[88] false) := rfl
@[simp] theorem ED_size126 : ED.size 126 = some 1 := rfl
@[simp] theorem ED_ti127 : ED.ti 127 = some { desc := (.func #[63, 128] #[62] false), size := 1, bytes := 8, zero := [.nilf], agg := false, cmp := true } := rfl
@[simp] theorem ED_desc127 : ED.desc 127 = some (.func #[63, 128] #[62] false) := rfl
@[simp] theorem ED_size127 : ED.size 127 = some 1 := rfl
@[simp] theorem ED_ti128 : ED.ti 128 = some { desc := (.func #[63] #[3] false), size := 1, bytes := 8, zero := [.nilf], agg := false, cmp := true } := rfl
@[simp] theorem ED_desc128 : ED.desc 128 = some (.func #[63] #[3] false) := rfl
@[simp] theorem ED_size128 : ED.size 128 = some 1 := rfl
@[simp] theorem ED_ti129 : ED.ti 129 = some { desc := (.func #[32, 3] #[4] false), size := 1, bytes := 8, zero := [.nilf], agg := false, cmp := true } := rfl
@[simp] theorem ED_desc129 : ED.desc 129 = some (.func #[32, 3] #[4] false) := rfl
@[simp] theorem ED_size129 : ED.size 129 = some 1 := rfl
@[simp] theorem ED_ti130 : ED.ti 130 = some { desc := (.func #[70] #[114] false), size := 1, bytes := 8, zero := [.nilf], agg := false, cmp := true } := rfl
@[simp] theorem ED_desc130 : ED.desc 130 = some (.func #[70] #[114] false) := rfl
@[simp] theorem ED_size130 : ED.size 130 = some 1 := rfl
@[simp] theorem ED_ti131 : ED.ti 131 = some { desc := (.array 5 130), size := 5, bytes := 40, zero := [.nilf, .nilf, .nilf, .nilf, .nilf], agg := true, cmp := true } := rfl
@[simp] theorem ED_desc131 : ED.desc 131 = some (.array 5 130) := rfl
@[simp] theorem ED_size131 : ED.size 131 = some 5 := rfl
@[simp] theorem ED_ti132 : ED.ti 132 = some { desc := (.int .u32), size := 1, bytes := 4, zero := [.int .u32 (0)], agg := false, cmp := true } := rfl
@[simp] theorem ED_desc132 : ED.desc 132 = some (.int .u32) := rfl
@[simp] theorem ED_size132 : ED.size 132 = some 1 := rfl
@[simp] theorem ED_ti133 : ED.ti 133 = some { desc := (.int .u64), size := 1, bytes := 8, zero := [.int .u64 (0)], agg := false, cmp := true } := rfl
@[simp] theorem ED_desc133 : ED.desc 133 = some (.int .u64) := rfl
@[simp] theorem ED_size133 : ED.size 133 = some 1 := rfl
@[simp] theorem ED_ti134 : ED.ti 134 = some { desc := (.func #[62, 62] #[4] false), size := 1, bytes := 8, zero := [.nilf], agg := false, cmp := true } := rfl
@[simp] theorem ED_desc134 : ED.desc 134 = some (.func #[62, 62] #[4] false) := rfl
@[simp] theorem ED_size134 : ED.size 134 = some 1 := rfl
@[simp] theorem ED_ti135 : ED.ti 135 = some { desc := (.func #[62, 62, 62] #[3] false), size := 1, bytes := 8, zero := [.nilf], agg := false, cmp := true } := rfl
@[simp] theorem ED_desc135 : ED.desc 135 = some (.func #[62, 62, 62] #[3] false) := rfl
@[simp] theorem ED_size135 : ED.size 135 = some 1 := rfl
@[simp] theorem ED_ti136 : ED.ti 136 = some { desc := (.func #[62, 62] #[3] false), size := 1, bytes := 8, zero := [.nilf], agg := false, cmp := true } := rfl
@[simp] theorem ED_desc136 : ED.desc 136 = some (.func #[62, 62] #[3] false) := rfl
@[simp] theorem ED_size136 : ED.size 136 = some 1 := rfl
@[simp] theorem ED_ti137 : ED.ti 137 = some { desc := (.func #[] #[9] false), size := 1, bytes := 8, zero := [.nilf], agg := false, cmp := true } := rfl
@[simp] theorem ED_desc137 : ED.desc 137 = some (.func #[] #[9] false) := rfl
@[simp] theorem ED_size137 : ED.size 137 = some 1 := rfl
@[simp] theorem ED_ti138 : ED.ti 138 = some { desc := (.struct #[{ name := "_interface", type := 17, offset := 0, embedded := false, tag := "", pkgPath := "runtime", byteOffset := 0 }, { name := "concrete", type := 17, offset := 1, embedded := false, tag := "", pkgPath := "runtime", byteOffset := 8 }, { name := "asserted", type := 17, offset := 2, embedded := false, tag := "", pkgPath := "runtime", byteOffset := 16 }, { name := "missingMethod", type := 9, offset := 3, embedded := false, tag := "", pkgPath := "runtime", byteOffset := 24 }]), size := 4, bytes := 40, zero := [.nilp, .nilp, .nilp, .str []], agg := true, cmp := false } := rfl
@[simp] theorem ED_desc138 : ED.desc 138 = some (.struct #[{ name := "_interface", type := 17, offset := 0, embedded := false, tag := "", pkgPath := "runtime", byteOffset := 0 }, { name := "concrete", type := 17, offset := 1, embedded := false, tag := "", pkgPath := "runtime", byteOffset := 8 }, { name := "asserted", type := 17, offset := 2, embedded := false, tag := "", pkgPath := "runtime", byteOffset := 16 }, { name := "missingMethod", type := 9, offset := 3, embedded := false, tag := "", pkgPath := "runtime", byteOffset := 24 }]) := rfl
@[simp] theorem ED_size138 : ED.size 138 = some 4 := rfl
@[simp] theorem ED_ti139 : ED.ti 139 = some { desc := (.struct #[{ name := "_interface", type := 17, offset := 0, embedded := false, tag := "", pkgPath := "runtime", byteOffset := 0 }, { name := "concrete", type := 17, offset := 1, embedded := false, tag := "", pkgPath := "runtime", byteOffset := 8 }, { name := "asserted", type := 17, offset := 2, embedded := false, tag := "", pkgPath := "runtime", byteOffset := 16 }, { name := "missingMethod", type := 9, offset := 3, embedded := false, tag := "", pkgPath := "runtime", byteOffset := 24 }]), size := 4, bytes := 40, zero := [.nilp, .nilp, .nilp, .str []], agg := true, cmp := false } := rfl
@[simp] theorem ED_desc139 : ED.desc 139 = some (.struct #[{ name := "_interface", type := 17, offset := 0, embedded := false, tag := "", pkgPath := "runtime", byteOffset := 0 }, { name := "concrete", type := 17, offset := 1, embedded := false, tag := "", pkgPath := "runtime", byteOffset := 8 }, { name := "asserted", type := 17, offset := 2, embedded := false, tag := "", pkgPath := "runtime", byteOffset := 16 }, { name := "missingMethod", type := 9, offset := 3, embedded := false, tag := "", pkgPath := "runtime", byteOffset := 24 }]) := rfl
@[simp] theorem ED_size139 : ED.size 139 = some 4 := rfl
@[simp] theorem ED_ti140 : ED.ti 140 = some { desc := (.array 0 16), size := 0, bytes := 0, zero := [], agg := true, cmp := true } := rfl
@[simp] theorem ED_desc140 : ED.desc 140 = some (.array 0 16) := rfl
@[simp] theorem ED_size140 : ED.size 140 = some 0 := rfl
@[simp] theorem ED_ti141 : ED.ti 141 = some { desc := (.struct #[{ name := "_", type := 140, offset := 0, embedded := false, tag := "", pkgPath := "runtime", byteOffset := 0 }]), size := 0, bytes := 0, zero := [], agg := true, cmp := false } := rfl
@[simp] theorem ED_desc141 : ED.desc 141 = some (.struct #[{ name := "_", type := 140, offset := 0, embedded := false, tag := "", pkgPath := "runtime", byteOffset := 0 }]) := rfl
@[simp] theorem ED_size141 : ED.size 141 = some 0 := rfl
@[simp] theorem ED_ti142 : ED.ti 142 = some { desc := (.struct #[{ name := "_", type := 140, offset := 0, embedded := false, tag := "", pkgPath := "runtime", byteOffset := 0 }]), size := 0, bytes := 0, zero := [], agg := true, cmp := false } := rfl
@[simp] theorem ED_desc142 : ED.desc 142 = some (.struct #[{ name := "_", type := 140, offset := 0, embedded := false, tag := "", pkgPath := "runtime", byteOffset := 0 }]) := rfl
@[simp] theorem ED_size142 : ED.size 142 = some 0 := rfl
@[simp] theorem ED_ti143 : ED.ti 143 = some { desc := (.func #[] #[3] false), size := 1, bytes := 8, zero := [.nilf], agg := false, cmp := true } := rfl
@[simp] theorem ED_desc143 : ED.desc 143 = some (.func #[] #[3] false) := rfl
@[simp] theorem ED_size143 : ED.size 143 = some 1 := rfl
@[simp] theorem ED_ti144 : ED.ti 144 = some { desc := (.int .u8), size := 1, bytes := 1, zero := [.int .u8 (0)], agg := false, cmp := true } := rfl
@[simp] theorem ED_desc144 : ED.desc 144 = some (.int .u8) := rfl
@[simp] theorem ED_size144 : ED.size 144 = some 1 := rfl
@[simp] theorem ED_ti145 : ED.ti 145 = some { desc := (.int .u8), size := 1, bytes := 1, zero := [.int .u8 (0)], agg := false, cmp := true } := rfl
@[simp] theorem ED_desc145 : ED.desc 145 = some (.int .u8) := rfl
@[simp] theorem ED_size145 : ED.size 145 = some 1 := rfl
@[simp] theorem ED_ti146 : ED.ti 146 = some { desc := (.func #[152, 152] #[4] false), size := 1, bytes := 8, zero := [.nilf], agg := false, cmp := true } := rfl
@[simp] theorem ED_desc146 : ED.desc 146 = some (.func #[152, 152] #[4] false) := rfl
@[simp] theorem ED_size146 : ED.size 146 = some 1 := rfl
@[simp] theorem ED_ti147 : ED.ti 147 = some { desc := (.pointer 5), size := 1, bytes := 8, zero := [.nilp], agg := false, cmp := true } := rfl
@[simp] theorem ED_desc147 : ED.desc 147 = some (.pointer 5) := rfl
@[simp] theorem ED_size147 : ED.size 147 = some 1 := rfl
@[simp] theorem ED_ti148 : ED.ti 148 = some { desc := (.int .i32), size := 1, bytes := 4, zero := [.int .i32 (0)], agg := false, cmp := true } := rfl
@[simp] theorem ED_desc148 : ED.desc 148 = some (.int .i32) := rfl
@[simp] theorem ED_size148 : ED.size 148 = some 1 := rfl
@[simp] theorem ED_ti149 : ED.ti 149 = some { desc := (.int .i32), size := 1, bytes := 4, zero := [.int .i32 (0)], agg := false, cmp := true } := rfl
@[simp] theorem ED_desc149 : ED.desc 149 = some (.int .i32) := rfl
@[simp] theorem ED_size149 : ED.size 149 = some 1 := rfl
@[simp] theorem ED_ti150 : ED.ti 150 = some { desc := (.struct #[{ name := "Size_", type := 12, offset := 0, embedded := false, tag := "", pkgPath := "", byteOffset := 0 }, { name := "PtrBytes", type := 12, offset := 1, embedded := false, tag := "", pkgPath := "", byteOffset := 8 }, { name := "Hash", type := 132, offset := 2, embedded := false, tag := "", pkgPath := "", byteOffset := 16 }, { name := "TFlag", type := 144, offset := 3, embedded := false, tag := "", pkgPath := "", byteOffset := 20 }, { name := "Align_", type := 5, offset := 4, embedded := false, tag := "", pkgPath := "", byteOffset := 21 }, { name := "FieldAlign_", type := 5, offset := 5, embedded := false, tag := "", pkgPath := "", byteOffset := 22 }, { name := "Kind_", type := 145, offset := 6, embedded := false, tag := "", pkgPath := "", byteOffset := 23 }, { name := "Equal", type := 146, offset := 7, embedded := false, tag := "", pkgPath := "", byteOffset := 24 }, { name := "GCData", type := 147, offset := 8, embedded := false, tag := "", pkgPath := "", byteOffset := 32 }, { name := "Str", type := 148, offset := 9, embedded := false, tag := "", pkgPath := "", byteOffset := 40 }, { name := "PtrToThis", type := 149, offset := 10, embedded := false, tag := "", pkgPath := "", byteOffset := 44 }]), size := 11, bytes := 48, zero := [.int .u64 (0), .int .u64 (0), .int .u32 (0), .int .u8 (0), .int .u8 (0), .int .u8 (0), .int .u8 (0), .nilf, .nilp, .int .i32 (0), .int .i32 (0)], agg := true, cmp := false } := rfl
@[simp] theorem ED_desc150 : ED.desc 150 = some (.struct #[{ name := "Size_", type := 12, offset := 0, embedded := false, tag := "", pkgPath := "", byteOffset := 0 }, { name := "PtrBytes", type := 12, offset := 1, embedded := false, tag := "", pkgPath := "", byteOffset := 8 }, { name := "Hash", type := 132, offset := 2, embedded := false, tag := "", pkgPath := "", byteOffset := 16 }, { name := "TFlag", type := 144, offset := 3, embedded := false, tag := "", pkgPath := "", byteOffset := 20 }, { name := "Align_", type := 5, offset := 4, embedded := false, tag := "", pkgPath := "", byteOffset := 21 }, { name := "FieldAlign_", type := 5, offset := 5, embedded := false, tag := "", pkgPath := "", byteOffset := 22 }, { name := "Kind_", type := 145, offset := 6, embedded := false, tag := "", pkgPath := "", byteOffset := 23 }, { name := "Equal", type := 146, offset := 7, embedded := false, tag := "", pkgPath := "", byteOffset := 24 }, { name := "GCData", type := 147, offset := 8, embedded := false, tag := "", pkgPath := "", byteOffset := 32 }, { name := "Str", type := 148, offset := 9, embedded := false, tag := "", pkgPath := "", byteOffset := 40 }, { name := "PtrToThis", type := 149, offset := 10, embedded := false, tag := "", pkgPath := "", byteOffset := 44 }]) := rfl
@[simp] theorem ED_size150 : ED.size 150 = some 11 := rfl
@[simp] theorem ED_ti151 : ED.ti 151 = some { desc := (.struct #[{ name := "Size_", type := 12, offset := 0, embedded := false, tag := "", pkgPath := "", byteOffset := 0 }, { name := "PtrBytes", type := 12, offset := 1, embedded := false, tag := "", pkgPath := "", byteOffset := 8 }, { name := "Hash", type := 132, offset := 2, embedded := false, tag := "", pkgPath := "", byteOffset := 16 }, { name := "TFlag", type := 144, offset := 3, embedded := false, tag := "", pkgPath := "", byteOffset := 20 }, { name := "Align_", type := 5, offset := 4, embedded := false, tag := "", pkgPath := "", byteOffset := 21 }, { name := "FieldAlign_", type := 5, offset := 5, embedded := false, tag := "", pkgPath := "", byteOffset := 22 }, { name := "Kind_", type := 145, offset := 6, embedded := false, tag := "", pkgPath := "", byteOffset := 23 }, { name := "Equal", type := 146, offset := 7, embedded := false, tag := "", pkgPath := "", byteOffset := 24 }, { name := "GCData", type := 147, offset := 8, embedded := false, tag := "", pkgPath := "", byteOffset := 32 }, { name := "Str", type := 148, offset := 9, embedded := false, tag := "", pkgPath := "", byteOffset := 40 }, { name := "PtrToThis", type := 149, offset := 10, embedded := false, tag := "", pkgPath := "", byteOffset := 44 }]), size := 11, bytes := 48, zero := [.int .u64 (0), .int .u64 (0), .int .u32 (0), .int .u8 (0), .int .u8 (0), .int .u8 (0), .int .u8 (0), .nilf, .nilp, .int .i32 (0), .int .i32 (0)], agg := true, cmp := false } := rfl
@[simp] theorem ED_desc151 : ED.desc 151 = some (.struct #[{ name := "Size_", type := 12, offset := 0, embedded := false, tag := "", pkgPath := "", byteOffset := 0 }, { name := "PtrBytes", type := 12, offset := 1, embedded := false, tag := "", pkgPath := "", byteOffset := 8 }, { name := "Hash", type := 132, offset := 2, embedded := false, tag := "", pkgPath := "", byteOffset := 16 }, { name := "TFlag", type := 144, offset := 3, embedded := false, tag := "", pkgPath := "", byteOffset := 20 }, { name := "Align_", type := 5, offset := 4, embedded := false, tag := "", pkgPath := "", byteOffset := 21 }, { name := "FieldAlign_", type := 5, offset := 5, embedded := false, tag := "", pkgPath := "", byteOffset := 22 }, { name := "Kind_", type := 145, offset := 6, embedded := false, tag := "", pkgPath := "", byteOffset := 23 }, { name := "Equal", type := 146, offset := 7, embedded := false, tag := "", pkgPath := "", byteOffset := 24 }, { name := "GCData", type := 147, offset := 8, embedded := false, tag := "", pkgPath := "", byteOffset := 32 }, { name := "Str", type := 148, offset := 9, embedded := false, tag := "", pkgPath := "", byteOffset := 40 }, { name := "PtrToThis", type := 149, offset := 10, embedded := false, tag := "", pkgPath := "", byteOffset := 44 }]) := rfl
@[simp] theorem ED_size151 : ED.size 151 = some 11 := rfl
@[simp] theorem ED_ti153 : ED.ti 153 = some { desc := (.func #[] #[114] false), size := 1, bytes := 8, zero := [.nilf], agg := false, cmp := true } := rfl
@[simp] theorem ED_desc153 : ED.desc 153 = some (.func #[] #[114] false) := rfl
@[simp] theorem ED_size153 : ED.size 153 = some 1 := rfl
@[simp] theorem ED_fn2 : ED.fn 2 = some fi2 := rfl
@[simp] theorem ED_fn3 : ED.fn 3 = some fi3 := rfl
@[simp] theorem ED_fn4 : ED.fn 4 = some fi4 := rfl
@[simp] theorem ED_fn5 : ED.fn 5 = some fi5 := rfl
@[simp] theorem ED_fn6 : ED.fn 6 = some fi6 := rfl
@[simp] theorem ED_fn7 : ED.fn 7 = some fi7 := rfl
@[simp] theorem ED_fn8 : ED.fn 8 = some fi8 := rfl
@[simp] theorem ED_fn9 : ED.fn 9 = some fi9 := rfl
@[simp] theorem ED_fn10 : ED.fn 10 = some fi10 := rfl
@[simp] theorem ED_fn11 : ED.fn 11 = some fi11 := rfl
@[simp] theorem ED_fn12 : ED.fn 12 = some fi12 := rfl
@[simp] theorem ED_fn13 : ED.fn 13 = some fi13 := rfl
@[simp] theorem ED_fn14 : ED.fn 14 = some fi14 := rfl
@[simp] theorem ED_fn15 : ED.fn 15 = some fi15 := rfl
@[simp] theorem ED_fn16 : ED.fn 16 = some fi16 := rfl
@[simp] theorem ED_fn17 : ED.fn 17 = some fi17 := rfl
@[simp] theorem ED_fn18 : ED.fn 18 = some fi18 := rfl
@[simp] theorem ED_fn19 : ED.fn 19 = some fi19 := rfl
@[simp] theorem ED_fn20 : ED.fn 20 = some fi20 := rfl
@[simp] theorem ED_fn21 : ED.fn 21 = some fi21 := rfl
@[simp] theorem ED_fn22 : ED.fn 22 = some fi22 := rfl
@[simp] theorem ED_fn23 : ED.fn 23 = some fi23 := rfl
@[simp] theorem ED_fn24 : ED.fn 24 = some fi24 := rfl
@[simp] theorem ED_fn25 : ED.fn 25 = some fi25 := rfl
@[simp] theorem ED_fn26 : ED.fn 26 = some fi26 := rfl
@[simp] theorem ED_fn27 : ED.fn 27 = some fi27 := rfl
@[simp] theorem ED_fn28 : ED.fn 28 = some fi28 := rfl
@[simp] theorem ED_fn29 : ED.fn 29 = some fi29 := rfl
@[simp] theorem ED_fn30 : ED.fn 30 = some fi30 := rfl
@[simp] theorem ED_fn31 : ED.fn 31 = some fi31 := rfl
@[simp] theorem ED_fn32 : ED.fn 32 = some fi32 := rfl
@[simp] theorem ED_fn33 : ED.fn 33 = some fi33 := rfl
@[simp] theorem ED_fn34 : ED.fn 34 = some fi34 := rfl
@[simp] theorem ED_fn35 : ED.fn 35 = some fi35 := rfl
@[simp] theorem ED_fn36 : ED.fn 36 = some fi36 := rfl
@[simp] theorem ED_fn37 : ED.fn 37 = some fi37 := rfl
@[simp] theorem ED_fn38 : ED.fn 38 = some fi38 := rfl
@[simp] theorem ED_fn39 : ED.fn 39 = some fi39 := rfl
@[simp] theorem ED_fn40 : ED.fn 40 = some fi40 := rfl
@[simp] theorem ED_fn41 : ED.fn 41 = some fi41 := rfl
@[simp] theorem ED_fn42 : ED.fn 42 = some fi42 := rfl
@[simp] theorem ED_fn43 : ED.fn 43 = some fi43 := rfl
@[simp] theorem ED_fn44 : ED.fn 44 = some fi44 := rfl
@[simp] theorem ED_fn45 : ED.fn 45 = some fi45 := rfl
@[simp] theorem ED_fn46 : ED.fn 46 = some fi46 := rfl
@[simp] theorem ED_fn47 : ED.fn 47 = some fi47 := rfl
@[simp] theorem ED_fn48 : ED.fn 48 = some fi48 := rfl
@[simp] theorem ED_fn49 : ED.fn 49 = some fi49 := rfl
@[simp] theorem ED_fn50 : ED.fn 50 = some fi50 := rfl
@[simp] theorem ED_fn51 : ED.fn 51 = some fi51 := rfl
@[simp] theorem ED_fn52 : ED.fn 52 = some fi52 := rfl
@[simp] theorem ED_fn53 : ED.fn 53 = some fi53 := rfl
@[simp] theorem ED_fn54 : ED.fn 54 = some fi54 := rfl
@[simp] theorem ED_fn55 : ED.fn 55 = some fi55 := rfl
@[simp] theorem ED_fn56 : ED.fn 56 = some fi56 := rfl
@[simp] theorem ED_fn57 : ED.fn 57 = some fi57 := rfl
@[simp] theorem ED_fn58 : ED.fn 58 = some fi58 := rfl
@[simp] theorem ED_fn59 : ED.fn 59 = some fi59 := rfl
@[simp] theorem ED_fn60 : ED.fn 60 = some fi60 := rfl
@[simp] theorem ED_fn61 : ED.fn 61 = some fi61 := rfl
@[simp] theorem ED_fn62 : ED.fn 62 = some fi62 := rfl
@[simp] theorem ED_fn63 : ED.fn 63 = some fi63 := rfl
@[simp] theorem ED_fn64 : ED.fn 64 = some fi64 := rfl
@[simp] theorem ED_fn65 : ED.fn 65 = some fi65 := rfl
@[simp] theorem ED_fn66 : ED.fn 66 = some fi66 := rfl
@[simp] theorem ED_fn67 : ED.fn 67 = some fi67 := rfl
@[simp] theorem ED_fn68 : ED.fn 68 = some fi68 := rfl
@[simp] theorem ED_fn69 : ED.fn 69 = some fi69 := rfl
@[simp] theorem ED_fn70 : ED.fn 70 = some fi70 := rfl
@[simp] theorem ED_fn71 : ED.fn 71 = some fi71 := rfl
@[simp] theorem ED_fn72 : ED.fn 72 = some fi72 := rfl
@[simp] theorem ED_fn73 : ED.fn 73 = some fi73 := rfl
@[simp] theorem ED_fn74 : ED.fn 74 = some fi74 := rfl
@[simp] theorem ED_fn75 : ED.fn 75 = some fi75 := rfl
@[simp] theorem ED_fn76 : ED.fn 76 = some fi76 := rfl
@[simp] theorem ED_fn77 : ED.fn 77 = some fi77 := rfl
@[simp] theorem ED_fn78 : ED.fn 78 = some fi78 := rfl
@[simp] theorem ED_fn79 : ED.fn 79 = some fi79 := rfl
@[simp] theorem ED_fn80 : ED.fn 80 = some fi80 := rfl
@[simp] theorem ED_fn81 : ED.fn 81 = some fi81 := rfl
@[simp] theorem ED_fn82 : ED.fn 82 = some fi82 := rfl
@[simp] theorem ED_fn83 : ED.fn 83 = some fi83 := rfl
@[simp] theorem ED_fn84 : ED.fn 84 = some fi84 := rfl
@[simp] theorem ED_fn85 : ED.fn 85 = some fi85 := rfl
@[simp] theorem ED_fn86 : ED.fn 86 = some fi86 := rfl
@[simp] theorem ED_fn87 : ED.fn 87 = some fi87 := rfl
@[simp] theorem ED_fn88 : ED.fn 88 = some fi88 := rfl
@[simp] theorem ED_fn89 : ED.fn 89 = some fi89 := rfl
@[simp] theorem ED_fn90 : ED.fn 90 = some fi90 := rfl
@[simp] theorem ED_fn91 : ED.fn 91 = some fi91 := rfl
@[simp] theorem ED_fn92 : ED.fn 92 = some fi92 := rfl
@[simp] theorem ED_fn93 : ED.fn 93 = some fi93 := rfl
@[simp] theorem ED_fn94 : ED.fn 94 = some fi94 := rfl
@[simp] theorem ED_fn95 : ED.fn 95 = some fi95 := rfl
@[simp] theorem ED_fn96 : ED.fn 96 = some fi96 := rfl
@[simp] theorem ED_fn97 : ED.fn 97 = some fi97 := rfl
@[simp] theorem ED_fn98 : ED.fn 98 = some fi98 := rfl
@[simp] theorem ED_fn99 : ED.fn 99 = some fi99 := rfl
@[simp] theorem ED_fn100 : ED.fn 100 = some fi100 := rfl
@[simp] theorem ED_fn101 : ED.fn 101 = some fi101 := rfl
@[simp] theorem ED_fn102 : ED.fn 102 = some fi102 := rfl
@[simp] theorem ED_fn103 : ED.fn 103 = some fi103 := rfl
@[simp] theorem ED_fn121 : ED.fn 121 = some fi121 := rfl
@[simp] theorem ED_fn122 : ED.fn 122 = some fi122 := rfl
@[simp] theorem ED_fn123 : ED.fn 123 = some fi123 := rfl
@[simp] theorem ED_fn124 : ED.fn 124 = some fi124 := rfl
@[simp] theorem ED_fn125 : ED.fn 125 = some fi125 := rfl
@[simp] theorem ED_fn134 : ED.fn 134 = some fi134 := rfl
@[simp] theorem ED_gl0 : ED.glob 0 = gl 0 := rfl
@[simp] theorem ED_gl1 : ED.glob 1 = gl 1 := rfl
@[simp] theorem ED_gl2 : ED.glob 2 = gl 2 := rfl
@[simp] theorem ED_gl3 : ED.glob 3 = gl 3 := rfl
@[simp] theorem ED_gl4 : ED.glob 4 = gl 4 := rfl
end Go.Proofs.YtpjcmiaanjcanaaGreatDoor
