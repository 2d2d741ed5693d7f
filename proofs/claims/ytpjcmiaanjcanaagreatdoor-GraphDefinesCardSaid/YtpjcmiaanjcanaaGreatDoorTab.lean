/-
The tables of the seat's program. No conditions.
-/
import Derived.Test.YtpjcmiaanjcanaaGreatDoorVmH
import Derived.Test.YtpjcmiaanjcanaaGreatDoorProg
import Derived.KernelRfl
set_option linter.all false

namespace Go.Vm.T
open Go Go.Proofs Go.Vm
set_option maxRecDepth 100000
def ti0 : TI := { desc := (.tuple #[]), size := 1, bytes := 0, zero := [.undef], agg := false, cmp := true }
theorem tiOk0 : TIOk Tryz.prog 0 ti0 := tiOk_of (by kernel_rfl) (by kernel_rfl)
def ti1 : TI := { desc := (.func #[] #[] false), size := 1, bytes := 8, zero := [.nilf], agg := false, cmp := true }
theorem tiOk1 : TIOk Tryz.prog 1 ti1 := tiOk_of (by kernel_rfl) (by kernel_rfl)
def ti2 : TI := { desc := (.int .i64), size := 1, bytes := 8, zero := [.int .i64 (0)], agg := false, cmp := true }
theorem tiOk2 : TIOk Tryz.prog 2 ti2 := tiOk_of (by kernel_rfl) (by kernel_rfl)
def ti3 : TI := { desc := (.int .i64), size := 1, bytes := 8, zero := [.int .i64 (0)], agg := false, cmp := true }
theorem tiOk3 : TIOk Tryz.prog 3 ti3 := tiOk_of (by kernel_rfl) (by kernel_rfl)
def ti4 : TI := { desc := .bool, size := 1, bytes := 1, zero := [.bool false], agg := false, cmp := true }
theorem tiOk4 : TIOk Tryz.prog 4 ti4 := tiOk_of (by kernel_rfl) (by kernel_rfl)
def ti5 : TI := { desc := (.int .u8), size := 1, bytes := 1, zero := [.int .u8 (0)], agg := false, cmp := true }
theorem tiOk5 : TIOk Tryz.prog 5 ti5 := tiOk_of (by kernel_rfl) (by kernel_rfl)
def ti6 : TI := { desc := (.int .u8), size := 1, bytes := 1, zero := [.int .u8 (0)], agg := false, cmp := true }
theorem tiOk6 : TIOk Tryz.prog 6 ti6 := tiOk_of (by kernel_rfl) (by kernel_rfl)
def ti7 : TI := { desc := (.struct #[{ name := "x", type := 2, offset := 0, embedded := false, tag := "", pkgPath := "runtime", byteOffset := 0 }, { name := "y", type := 3, offset := 1, embedded := false, tag := "", pkgPath := "runtime", byteOffset := 8 }, { name := "signed", type := 4, offset := 2, embedded := false, tag := "", pkgPath := "runtime", byteOffset := 16 }, { name := "code", type := 6, offset := 3, embedded := false, tag := "", pkgPath := "runtime", byteOffset := 17 }]), size := 4, bytes := 24, zero := [.int .i64 (0), .int .i64 (0), .bool false, .int .u8 (0)], agg := true, cmp := true }
theorem tiOk7 : TIOk Tryz.prog 7 ti7 := tiOk_of (by kernel_rfl) (by kernel_rfl)
def ti8 : TI := { desc := (.struct #[{ name := "x", type := 2, offset := 0, embedded := false, tag := "", pkgPath := "runtime", byteOffset := 0 }, { name := "y", type := 3, offset := 1, embedded := false, tag := "", pkgPath := "runtime", byteOffset := 8 }, { name := "signed", type := 4, offset := 2, embedded := false, tag := "", pkgPath := "runtime", byteOffset := 16 }, { name := "code", type := 6, offset := 3, embedded := false, tag := "", pkgPath := "runtime", byteOffset := 17 }]), size := 4, bytes := 24, zero := [.int .i64 (0), .int .i64 (0), .bool false, .int .u8 (0)], agg := true, cmp := true }
theorem tiOk8 : TIOk Tryz.prog 8 ti8 := tiOk_of (by kernel_rfl) (by kernel_rfl)
def ti9 : TI := { desc := .string, size := 1, bytes := 16, zero := [.str []], agg := false, cmp := true }
theorem tiOk9 : TIOk Tryz.prog 9 ti9 := tiOk_of (by kernel_rfl) (by kernel_rfl)
def ti10 : TI := { desc := .string, size := 1, bytes := 16, zero := [.str []], agg := false, cmp := true }
theorem tiOk10 : TIOk Tryz.prog 10 ti10 := tiOk_of (by kernel_rfl) (by kernel_rfl)
def ti11 : TI := { desc := .string, size := 1, bytes := 16, zero := [.str []], agg := false, cmp := true }
theorem tiOk11 : TIOk Tryz.prog 11 ti11 := tiOk_of (by kernel_rfl) (by kernel_rfl)
def ti12 : TI := { desc := (.int .u64), size := 1, bytes := 8, zero := [.int .u64 (0)], agg := false, cmp := true }
theorem tiOk12 : TIOk Tryz.prog 12 ti12 := tiOk_of (by kernel_rfl) (by kernel_rfl)
def ti13 : TI := { desc := (.struct #[{ name := "msg", type := 9, offset := 0, embedded := false, tag := "", pkgPath := "runtime", byteOffset := 0 }, { name := "addr", type := 12, offset := 1, embedded := false, tag := "", pkgPath := "runtime", byteOffset := 16 }]), size := 2, bytes := 24, zero := [.str [], .int .u64 (0)], agg := true, cmp := false }
theorem tiOk13 : TIOk Tryz.prog 13 ti13 := tiOk_of (by kernel_rfl) (by kernel_rfl)
def ti14 : TI := { desc := (.struct #[{ name := "msg", type := 9, offset := 0, embedded := false, tag := "", pkgPath := "runtime", byteOffset := 0 }, { name := "addr", type := 12, offset := 1, embedded := false, tag := "", pkgPath := "runtime", byteOffset := 16 }]), size := 2, bytes := 24, zero := [.str [], .int .u64 (0)], agg := true, cmp := false }
theorem tiOk14 : TIOk Tryz.prog 14 ti14 := tiOk_of (by kernel_rfl) (by kernel_rfl)
def ti15 : TI := { desc := (.pointer 139), size := 1, bytes := 8, zero := [.nilp], agg := false, cmp := true }
theorem tiOk15 : TIOk Tryz.prog 15 ti15 := tiOk_of (by kernel_rfl) (by kernel_rfl)
def ti16 : TI := { desc := (.pointer 142), size := 1, bytes := 8, zero := [.nilp], agg := false, cmp := true }
theorem tiOk16 : TIOk Tryz.prog 16 ti16 := tiOk_of (by kernel_rfl) (by kernel_rfl)
def ti17 : TI := { desc := (.pointer 151), size := 1, bytes := 8, zero := [.nilp], agg := false, cmp := true }
theorem tiOk17 : TIOk Tryz.prog 17 ti17 := tiOk_of (by kernel_rfl) (by kernel_rfl)
def ti18 : TI := { desc := (.struct #[{ name := "typ", type := 17, offset := 0, embedded := false, tag := "", pkgPath := "internal/runtime/maps", byteOffset := 0 }]), size := 1, bytes := 8, zero := [.nilp], agg := true, cmp := false }
theorem tiOk18 : TIOk Tryz.prog 18 ti18 := tiOk_of (by kernel_rfl) (by kernel_rfl)
def ti19 : TI := { desc := (.struct #[{ name := "typ", type := 17, offset := 0, embedded := false, tag := "", pkgPath := "internal/runtime/maps", byteOffset := 0 }]), size := 1, bytes := 8, zero := [.nilp], agg := true, cmp := false }
theorem tiOk19 : TIOk Tryz.prog 19 ti19 := tiOk_of (by kernel_rfl) (by kernel_rfl)
def ti20 : TI := { desc := (.interface #[]), size := 1, bytes := 16, zero := [.nili], agg := false, cmp := true }
theorem tiOk20 : TIOk Tryz.prog 20 ti20 := tiOk_of (by kernel_rfl) (by kernel_rfl)
def ti21 : TI := { desc := (.int .i32), size := 1, bytes := 4, zero := [.int .i32 (0)], agg := false, cmp := true }
theorem tiOk21 : TIOk Tryz.prog 21 ti21 := tiOk_of (by kernel_rfl) (by kernel_rfl)
def ti22 : TI := { desc := (.slice 24), size := 1, bytes := 24, zero := [.nils], agg := false, cmp := true }
theorem tiOk22 : TIOk Tryz.prog 22 ti22 := tiOk_of (by kernel_rfl) (by kernel_rfl)
def ti23 : TI := { desc := (.struct #[{ name := "Kind", type := 3, offset := 0, embedded := false, tag := "", pkgPath := "", byteOffset := 0 }, { name := "N", type := 3, offset := 1, embedded := false, tag := "", pkgPath := "", byteOffset := 8 }, { name := "L", type := 22, offset := 2, embedded := false, tag := "", pkgPath := "", byteOffset := 16 }]), size := 3, bytes := 40, zero := [.int .i64 (0), .int .i64 (0), .nils], agg := true, cmp := true }
theorem tiOk23 : TIOk Tryz.prog 23 ti23 := tiOk_of (by kernel_rfl) (by kernel_rfl)
def ti24 : TI := { desc := (.struct #[{ name := "Kind", type := 3, offset := 0, embedded := false, tag := "", pkgPath := "", byteOffset := 0 }, { name := "N", type := 3, offset := 1, embedded := false, tag := "", pkgPath := "", byteOffset := 8 }, { name := "L", type := 22, offset := 2, embedded := false, tag := "", pkgPath := "", byteOffset := 16 }]), size := 3, bytes := 40, zero := [.int .i64 (0), .int .i64 (0), .nils], agg := true, cmp := true }
theorem tiOk24 : TIOk Tryz.prog 24 ti24 := tiOk_of (by kernel_rfl) (by kernel_rfl)
def ti25 : TI := { desc := (.func #[24, 3] #[4] false), size := 1, bytes := 8, zero := [.nilf], agg := false, cmp := true }
theorem tiOk25 : TIOk Tryz.prog 25 ti25 := tiOk_of (by kernel_rfl) (by kernel_rfl)
def ti26 : TI := { desc := (.func #[] #[4] false), size := 1, bytes := 8, zero := [.nilf], agg := false, cmp := true }
theorem tiOk26 : TIOk Tryz.prog 26 ti26 := tiOk_of (by kernel_rfl) (by kernel_rfl)
def ti27 : TI := { desc := (.int .i64), size := 1, bytes := 8, zero := [.int .i64 (0)], agg := false, cmp := true }
theorem tiOk27 : TIOk Tryz.prog 27 ti27 := tiOk_of (by kernel_rfl) (by kernel_rfl)
def ti28 : TI := { desc := (.tuple #[9, 27]), size := 1, bytes := 0, zero := [.undef], agg := false, cmp := true }
theorem tiOk28 : TIOk Tryz.prog 28 ti28 := tiOk_of (by kernel_rfl) (by kernel_rfl)
def ti29 : TI := { desc := (.func #[9] #[9, 27] false), size := 1, bytes := 8, zero := [.nilf], agg := false, cmp := true }
theorem tiOk29 : TIOk Tryz.prog 29 ti29 := tiOk_of (by kernel_rfl) (by kernel_rfl)
def ti30 : TI := { desc := (.slice 32), size := 1, bytes := 24, zero := [.nils], agg := false, cmp := true }
theorem tiOk30 : TIOk Tryz.prog 30 ti30 := tiOk_of (by kernel_rfl) (by kernel_rfl)
def ti31 : TI := { desc := (.struct #[{ name := "Kind", type := 3, offset := 0, embedded := false, tag := "", pkgPath := "", byteOffset := 0 }, { name := "N", type := 3, offset := 1, embedded := false, tag := "", pkgPath := "", byteOffset := 8 }, { name := "L", type := 30, offset := 2, embedded := false, tag := "", pkgPath := "", byteOffset := 16 }]), size := 3, bytes := 40, zero := [.int .i64 (0), .int .i64 (0), .nils], agg := true, cmp := true }
theorem tiOk31 : TIOk Tryz.prog 31 ti31 := tiOk_of (by kernel_rfl) (by kernel_rfl)
def ti32 : TI := { desc := (.struct #[{ name := "Kind", type := 3, offset := 0, embedded := false, tag := "", pkgPath := "", byteOffset := 0 }, { name := "N", type := 3, offset := 1, embedded := false, tag := "", pkgPath := "", byteOffset := 8 }, { name := "L", type := 30, offset := 2, embedded := false, tag := "", pkgPath := "", byteOffset := 16 }]), size := 3, bytes := 40, zero := [.int .i64 (0), .int .i64 (0), .nils], agg := true, cmp := true }
theorem tiOk32 : TIOk Tryz.prog 32 ti32 := tiOk_of (by kernel_rfl) (by kernel_rfl)
def ti33 : TI := { desc := (.tuple #[32, 32, 27]), size := 1, bytes := 0, zero := [.undef], agg := false, cmp := true }
theorem tiOk33 : TIOk Tryz.prog 33 ti33 := tiOk_of (by kernel_rfl) (by kernel_rfl)
def ti34 : TI := { desc := (.func #[9] #[32, 32, 27] false), size := 1, bytes := 8, zero := [.nilf], agg := false, cmp := true }
theorem tiOk34 : TIOk Tryz.prog 34 ti34 := tiOk_of (by kernel_rfl) (by kernel_rfl)
def ti35 : TI := { desc := (.tuple #[24, 27]), size := 1, bytes := 0, zero := [.undef], agg := false, cmp := true }
theorem tiOk35 : TIOk Tryz.prog 35 ti35 := tiOk_of (by kernel_rfl) (by kernel_rfl)
def ti36 : TI := { desc := (.func #[9, 24] #[24, 27] false), size := 1, bytes := 8, zero := [.nilf], agg := false, cmp := true }
theorem tiOk36 : TIOk Tryz.prog 36 ti36 := tiOk_of (by kernel_rfl) (by kernel_rfl)
def ti37 : TI := { desc := (.func #[38, 38] #[4] false), size := 1, bytes := 8, zero := [.nilf], agg := false, cmp := true }
theorem tiOk37 : TIOk Tryz.prog 37 ti37 := tiOk_of (by kernel_rfl) (by kernel_rfl)
def ti38 : TI := { desc := (.slice 9), size := 1, bytes := 24, zero := [.nils], agg := false, cmp := true }
theorem tiOk38 : TIOk Tryz.prog 38 ti38 := tiOk_of (by kernel_rfl) (by kernel_rfl)
def ti39 : TI := { desc := (.func #[] #[38] false), size := 1, bytes := 8, zero := [.nilf], agg := false, cmp := true }
theorem tiOk39 : TIOk Tryz.prog 39 ti39 := tiOk_of (by kernel_rfl) (by kernel_rfl)
def ti40 : TI := { desc := (.func #[32, 32] #[4] false), size := 1, bytes := 8, zero := [.nilf], agg := false, cmp := true }
theorem tiOk40 : TIOk Tryz.prog 40 ti40 := tiOk_of (by kernel_rfl) (by kernel_rfl)
def ti41 : TI := { desc := (.func #[24, 24] #[4] false), size := 1, bytes := 8, zero := [.nilf], agg := false, cmp := true }
theorem tiOk41 : TIOk Tryz.prog 41 ti41 := tiOk_of (by kernel_rfl) (by kernel_rfl)
def ti42 : TI := { desc := (.func #[9, 24] #[4] false), size := 1, bytes := 8, zero := [.nilf], agg := false, cmp := true }
theorem tiOk42 : TIOk Tryz.prog 42 ti42 := tiOk_of (by kernel_rfl) (by kernel_rfl)
def ti43 : TI := { desc := (.func #[24, 3] #[3] false), size := 1, bytes := 8, zero := [.nilf], agg := false, cmp := true }
theorem tiOk43 : TIOk Tryz.prog 43 ti43 := tiOk_of (by kernel_rfl) (by kernel_rfl)
def ti44 : TI := { desc := (.func #[22] #[24] true), size := 1, bytes := 8, zero := [.nilf], agg := false, cmp := true }
theorem tiOk44 : TIOk Tryz.prog 44 ti44 := tiOk_of (by kernel_rfl) (by kernel_rfl)
def ti45 : TI := { desc := (.func #[62] #[24] true), size := 1, bytes := 8, zero := [.nilf], agg := false, cmp := true }
theorem tiOk45 : TIOk Tryz.prog 45 ti45 := tiOk_of (by kernel_rfl) (by kernel_rfl)
def ti46 : TI := { desc := (.func #[9, 24, 62] #[4] true), size := 1, bytes := 8, zero := [.nilf], agg := false, cmp := true }
theorem tiOk46 : TIOk Tryz.prog 46 ti46 := tiOk_of (by kernel_rfl) (by kernel_rfl)
def ti47 : TI := { desc := (.func #[24, 24] #[24] false), size := 1, bytes := 8, zero := [.nilf], agg := false, cmp := true }
theorem tiOk47 : TIOk Tryz.prog 47 ti47 := tiOk_of (by kernel_rfl) (by kernel_rfl)
def ti48 : TI := { desc := (.func #[3] #[24] false), size := 1, bytes := 8, zero := [.nilf], agg := false, cmp := true }
theorem tiOk48 : TIOk Tryz.prog 48 ti48 := tiOk_of (by kernel_rfl) (by kernel_rfl)
def ti49 : TI := { desc := (.func #[63] #[62] false), size := 1, bytes := 8, zero := [.nilf], agg := false, cmp := true }
theorem tiOk49 : TIOk Tryz.prog 49 ti49 := tiOk_of (by kernel_rfl) (by kernel_rfl)
def ti50 : TI := { desc := (.struct #[{ name := "text", type := 9, offset := 0, embedded := false, tag := "", pkgPath := "sheafworks/libg", byteOffset := 0 }, { name := "arg", type := 32, offset := 1, embedded := false, tag := "", pkgPath := "sheafworks/libg", byteOffset := 16 }, { name := "result", type := 32, offset := 4, embedded := false, tag := "", pkgPath := "sheafworks/libg", byteOffset := 56 }, { name := "define", type := 49, offset := 7, embedded := false, tag := "", pkgPath := "sheafworks/libg", byteOffset := 96 }]), size := 8, bytes := 104, zero := [.str [], .int .i64 (0), .int .i64 (0), .nils, .int .i64 (0), .int .i64 (0), .nils, .nilf], agg := true, cmp := true }
theorem tiOk50 : TIOk Tryz.prog 50 ti50 := tiOk_of (by kernel_rfl) (by kernel_rfl)
def ti51 : TI := { desc := (.struct #[{ name := "text", type := 9, offset := 0, embedded := false, tag := "", pkgPath := "sheafworks/libg", byteOffset := 0 }, { name := "arg", type := 32, offset := 1, embedded := false, tag := "", pkgPath := "sheafworks/libg", byteOffset := 16 }, { name := "result", type := 32, offset := 4, embedded := false, tag := "", pkgPath := "sheafworks/libg", byteOffset := 56 }, { name := "define", type := 49, offset := 7, embedded := false, tag := "", pkgPath := "sheafworks/libg", byteOffset := 96 }]), size := 8, bytes := 104, zero := [.str [], .int .i64 (0), .int .i64 (0), .nils, .int .i64 (0), .int .i64 (0), .nils, .nilf], agg := true, cmp := true }
theorem tiOk51 : TIOk Tryz.prog 51 ti51 := tiOk_of (by kernel_rfl) (by kernel_rfl)
def ti52 : TI := { desc := (.tuple #[51, 4]), size := 1, bytes := 0, zero := [.undef], agg := false, cmp := true }
theorem tiOk52 : TIOk Tryz.prog 52 ti52 := tiOk_of (by kernel_rfl) (by kernel_rfl)
def ti53 : TI := { desc := (.map 9 51), size := 1, bytes := 8, zero := [.nilm], agg := false, cmp := true }
theorem tiOk53 : TIOk Tryz.prog 53 ti53 := tiOk_of (by kernel_rfl) (by kernel_rfl)
def ti54 : TI := { desc := (.func #[] #[53] false), size := 1, bytes := 8, zero := [.nilf], agg := false, cmp := true }
theorem tiOk54 : TIOk Tryz.prog 54 ti54 := tiOk_of (by kernel_rfl) (by kernel_rfl)
def ti55 : TI := { desc := (.func #[38, 9] #[3] false), size := 1, bytes := 8, zero := [.nilf], agg := false, cmp := true }
theorem tiOk55 : TIOk Tryz.prog 55 ti55 := tiOk_of (by kernel_rfl) (by kernel_rfl)
def ti56 : TI := { desc := (.func #[32] #[32] false), size := 1, bytes := 8, zero := [.nilf], agg := false, cmp := true }
theorem tiOk56 : TIOk Tryz.prog 56 ti56 := tiOk_of (by kernel_rfl) (by kernel_rfl)
def ti57 : TI := { desc := (.func #[32, 32] #[32] false), size := 1, bytes := 8, zero := [.nilf], agg := false, cmp := true }
theorem tiOk57 : TIOk Tryz.prog 57 ti57 := tiOk_of (by kernel_rfl) (by kernel_rfl)
def ti58 : TI := { desc := (.func #[] #[32] false), size := 1, bytes := 8, zero := [.nilf], agg := false, cmp := true }
theorem tiOk58 : TIOk Tryz.prog 58 ti58 := tiOk_of (by kernel_rfl) (by kernel_rfl)
def ti59 : TI := { desc := (.func #[24, 32] #[27] false), size := 1, bytes := 8, zero := [.nilf], agg := false, cmp := true }
theorem tiOk59 : TIOk Tryz.prog 59 ti59 := tiOk_of (by kernel_rfl) (by kernel_rfl)
def ti60 : TI := { desc := (.struct #[]), size := 0, bytes := 0, zero := [], agg := true, cmp := true }
theorem tiOk60 : TIOk Tryz.prog 60 ti60 := tiOk_of (by kernel_rfl) (by kernel_rfl)
def ti61 : TI := { desc := (.struct #[]), size := 0, bytes := 0, zero := [], agg := true, cmp := true }
theorem tiOk61 : TIOk Tryz.prog 61 ti61 := tiOk_of (by kernel_rfl) (by kernel_rfl)
def ti62 : TI := { desc := (.slice 3), size := 1, bytes := 24, zero := [.nils], agg := false, cmp := true }
theorem tiOk62 : TIOk Tryz.prog 62 ti62 := tiOk_of (by kernel_rfl) (by kernel_rfl)
def ti63 : TI := { desc := (.struct #[{ name := "Kind", type := 3, offset := 0, embedded := false, tag := "", pkgPath := "", byteOffset := 0 }, { name := "N", type := 3, offset := 1, embedded := false, tag := "", pkgPath := "", byteOffset := 8 }, { name := "L", type := 22, offset := 2, embedded := false, tag := "", pkgPath := "", byteOffset := 16 }]), size := 3, bytes := 40, zero := [.int .i64 (0), .int .i64 (0), .nils], agg := true, cmp := true }
theorem tiOk63 : TIOk Tryz.prog 63 ti63 := tiOk_of (by kernel_rfl) (by kernel_rfl)
def ti64 : TI := { desc := (.tuple #[62, 4]), size := 1, bytes := 0, zero := [.undef], agg := false, cmp := true }
theorem tiOk64 : TIOk Tryz.prog 64 ti64 := tiOk_of (by kernel_rfl) (by kernel_rfl)
def ti65 : TI := { desc := (.func #[9, 24] #[62, 4] false), size := 1, bytes := 8, zero := [.nilf], agg := false, cmp := true }
theorem tiOk65 : TIOk Tryz.prog 65 ti65 := tiOk_of (by kernel_rfl) (by kernel_rfl)
def ti66 : TI := { desc := (.func #[62] #[24] false), size := 1, bytes := 8, zero := [.nilf], agg := false, cmp := true }
theorem tiOk66 : TIOk Tryz.prog 66 ti66 := tiOk_of (by kernel_rfl) (by kernel_rfl)
def ti67 : TI := { desc := (.func #[] #[62] false), size := 1, bytes := 8, zero := [.nilf], agg := false, cmp := true }
theorem tiOk67 : TIOk Tryz.prog 67 ti67 := tiOk_of (by kernel_rfl) (by kernel_rfl)
def ti68 : TI := { desc := (.func #[69] #[] false), size := 1, bytes := 8, zero := [.nilf], agg := false, cmp := true }
theorem tiOk68 : TIOk Tryz.prog 68 ti68 := tiOk_of (by kernel_rfl) (by kernel_rfl)
def ti69 : TI := { desc := (.pointer 27), size := 1, bytes := 8, zero := [.nilp], agg := false, cmp := true }
theorem tiOk69 : TIOk Tryz.prog 69 ti69 := tiOk_of (by kernel_rfl) (by kernel_rfl)
def ti70 : TI := { desc := (.pointer 117), size := 1, bytes := 8, zero := [.nilp], agg := false, cmp := true }
theorem tiOk70 : TIOk Tryz.prog 70 ti70 := tiOk_of (by kernel_rfl) (by kernel_rfl)
def ti71 : TI := { desc := (.func #[32] #[70] false), size := 1, bytes := 8, zero := [.nilf], agg := false, cmp := true }
theorem tiOk71 : TIOk Tryz.prog 71 ti71 := tiOk_of (by kernel_rfl) (by kernel_rfl)
def ti72 : TI := { desc := (.tuple #[3, 4]), size := 1, bytes := 0, zero := [.undef], agg := false, cmp := true }
theorem tiOk72 : TIOk Tryz.prog 72 ti72 := tiOk_of (by kernel_rfl) (by kernel_rfl)
def ti73 : TI := { desc := (.func #[24] #[3, 4] false), size := 1, bytes := 8, zero := [.nilf], agg := false, cmp := true }
theorem tiOk73 : TIOk Tryz.prog 73 ti73 := tiOk_of (by kernel_rfl) (by kernel_rfl)
def ti74 : TI := { desc := (.func #[4, 27] #[] false), size := 1, bytes := 8, zero := [.nilf], agg := false, cmp := true }
theorem tiOk74 : TIOk Tryz.prog 74 ti74 := tiOk_of (by kernel_rfl) (by kernel_rfl)
def ti75 : TI := { desc := (.func #[24] #[4] false), size := 1, bytes := 8, zero := [.nilf], agg := false, cmp := true }
theorem tiOk75 : TIOk Tryz.prog 75 ti75 := tiOk_of (by kernel_rfl) (by kernel_rfl)
def ti76 : TI := { desc := (.func #[32] #[27] false), size := 1, bytes := 8, zero := [.nilf], agg := false, cmp := true }
theorem tiOk76 : TIOk Tryz.prog 76 ti76 := tiOk_of (by kernel_rfl) (by kernel_rfl)
def ti77 : TI := { desc := (.func #[24] #[3] false), size := 1, bytes := 8, zero := [.nilf], agg := false, cmp := true }
theorem tiOk77 : TIOk Tryz.prog 77 ti77 := tiOk_of (by kernel_rfl) (by kernel_rfl)
def ti78 : TI := { desc := (.func #[24, 32] #[4] false), size := 1, bytes := 8, zero := [.nilf], agg := false, cmp := true }
theorem tiOk78 : TIOk Tryz.prog 78 ti78 := tiOk_of (by kernel_rfl) (by kernel_rfl)
def ti79 : TI := { desc := (.func #[3, 3, 3] #[4] false), size := 1, bytes := 8, zero := [.nilf], agg := false, cmp := true }
theorem tiOk79 : TIOk Tryz.prog 79 ti79 := tiOk_of (by kernel_rfl) (by kernel_rfl)
def ti80 : TI := { desc := (.func #[22, 62] #[62, 4] false), size := 1, bytes := 8, zero := [.nilf], agg := false, cmp := true }
theorem tiOk80 : TIOk Tryz.prog 80 ti80 := tiOk_of (by kernel_rfl) (by kernel_rfl)
def ti81 : TI := { desc := (.func #[24] #[62] false), size := 1, bytes := 8, zero := [.nilf], agg := false, cmp := true }
theorem tiOk81 : TIOk Tryz.prog 81 ti81 := tiOk_of (by kernel_rfl) (by kernel_rfl)
def ti82 : TI := { desc := (.func #[3, 22, 62] #[62, 4] false), size := 1, bytes := 8, zero := [.nilf], agg := false, cmp := true }
theorem tiOk82 : TIOk Tryz.prog 82 ti82 := tiOk_of (by kernel_rfl) (by kernel_rfl)
def ti83 : TI := { desc := (.func #[84] #[62, 4] false), size := 1, bytes := 8, zero := [.nilf], agg := false, cmp := true }
theorem tiOk83 : TIOk Tryz.prog 83 ti83 := tiOk_of (by kernel_rfl) (by kernel_rfl)
def ti84 : TI := { desc := (.slice 62), size := 1, bytes := 24, zero := [.nils], agg := false, cmp := true }
theorem tiOk84 : TIOk Tryz.prog 84 ti84 := tiOk_of (by kernel_rfl) (by kernel_rfl)
def ti85 : TI := { desc := (.func #[24] #[84] false), size := 1, bytes := 8, zero := [.nilf], agg := false, cmp := true }
theorem tiOk85 : TIOk Tryz.prog 85 ti85 := tiOk_of (by kernel_rfl) (by kernel_rfl)
def ti86 : TI := { desc := (.func #[3, 84] #[62, 4] false), size := 1, bytes := 8, zero := [.nilf], agg := false, cmp := true }
theorem tiOk86 : TIOk Tryz.prog 86 ti86 := tiOk_of (by kernel_rfl) (by kernel_rfl)
def ti87 : TI := { desc := (.func #[3, 3, 84] #[62, 4] false), size := 1, bytes := 8, zero := [.nilf], agg := false, cmp := true }
theorem tiOk87 : TIOk Tryz.prog 87 ti87 := tiOk_of (by kernel_rfl) (by kernel_rfl)
def ti88 : TI := { desc := (.slice 97), size := 1, bytes := 24, zero := [.nils], agg := false, cmp := true }
theorem tiOk88 : TIOk Tryz.prog 88 ti88 := tiOk_of (by kernel_rfl) (by kernel_rfl)
def ti89 : TI := { desc := (.struct #[{ name := "l", type := 88, offset := 0, embedded := false, tag := "", pkgPath := "sheafworks/libg", byteOffset := 0 }]), size := 1, bytes := 24, zero := [.nils], agg := true, cmp := true }
theorem tiOk89 : TIOk Tryz.prog 89 ti89 := tiOk_of (by kernel_rfl) (by kernel_rfl)
def ti90 : TI := { desc := (.struct #[{ name := "l", type := 88, offset := 0, embedded := false, tag := "", pkgPath := "sheafworks/libg", byteOffset := 0 }]), size := 1, bytes := 24, zero := [.nils], agg := true, cmp := true }
theorem tiOk90 : TIOk Tryz.prog 90 ti90 := tiOk_of (by kernel_rfl) (by kernel_rfl)
def ti91 : TI := { desc := (.struct #[{ name := "edges", type := 90, offset := 0, embedded := true, tag := "", pkgPath := "sheafworks/libg", byteOffset := 0 }, { name := "nodes", type := 3, offset := 1, embedded := false, tag := "", pkgPath := "sheafworks/libg", byteOffset := 24 }]), size := 2, bytes := 32, zero := [.nils, .int .i64 (0)], agg := true, cmp := true }
theorem tiOk91 : TIOk Tryz.prog 91 ti91 := tiOk_of (by kernel_rfl) (by kernel_rfl)
def ti92 : TI := { desc := (.struct #[{ name := "edges", type := 90, offset := 0, embedded := true, tag := "", pkgPath := "sheafworks/libg", byteOffset := 0 }, { name := "nodes", type := 3, offset := 1, embedded := false, tag := "", pkgPath := "sheafworks/libg", byteOffset := 24 }]), size := 2, bytes := 32, zero := [.nils, .int .i64 (0)], agg := true, cmp := true }
theorem tiOk92 : TIOk Tryz.prog 92 ti92 := tiOk_of (by kernel_rfl) (by kernel_rfl)
def ti93 : TI := { desc := (.func #[3, 63] #[92] false), size := 1, bytes := 8, zero := [.nilf], agg := false, cmp := true }
theorem tiOk93 : TIOk Tryz.prog 93 ti93 := tiOk_of (by kernel_rfl) (by kernel_rfl)
def ti94 : TI := { desc := (.func #[] #[63] false), size := 1, bytes := 8, zero := [.nilf], agg := false, cmp := true }
theorem tiOk94 : TIOk Tryz.prog 94 ti94 := tiOk_of (by kernel_rfl) (by kernel_rfl)
def ti95 : TI := { desc := (.func #[3] #[3] false), size := 1, bytes := 8, zero := [.nilf], agg := false, cmp := true }
theorem tiOk95 : TIOk Tryz.prog 95 ti95 := tiOk_of (by kernel_rfl) (by kernel_rfl)
def ti96 : TI := { desc := (.struct #[{ name := "x", type := 3, offset := 0, embedded := false, tag := "", pkgPath := "sheafworks/libg", byteOffset := 0 }, { name := "y", type := 3, offset := 1, embedded := false, tag := "", pkgPath := "sheafworks/libg", byteOffset := 8 }]), size := 2, bytes := 16, zero := [.int .i64 (0), .int .i64 (0)], agg := true, cmp := true }
theorem tiOk96 : TIOk Tryz.prog 96 ti96 := tiOk_of (by kernel_rfl) (by kernel_rfl)
def ti97 : TI := { desc := (.struct #[{ name := "x", type := 3, offset := 0, embedded := false, tag := "", pkgPath := "sheafworks/libg", byteOffset := 0 }, { name := "y", type := 3, offset := 1, embedded := false, tag := "", pkgPath := "sheafworks/libg", byteOffset := 8 }]), size := 2, bytes := 16, zero := [.int .i64 (0), .int .i64 (0)], agg := true, cmp := true }
theorem tiOk97 : TIOk Tryz.prog 97 ti97 := tiOk_of (by kernel_rfl) (by kernel_rfl)
def ti98 : TI := { desc := (.func #[4] #[] false), size := 1, bytes := 8, zero := [.nilf], agg := false, cmp := true }
theorem tiOk98 : TIOk Tryz.prog 98 ti98 := tiOk_of (by kernel_rfl) (by kernel_rfl)
def ti99 : TI := { desc := (.func #[124] #[] false), size := 1, bytes := 8, zero := [.nilf], agg := false, cmp := true }
theorem tiOk99 : TIOk Tryz.prog 99 ti99 := tiOk_of (by kernel_rfl) (by kernel_rfl)
def ti100 : TI := { desc := (.func #[3] #[99] false), size := 1, bytes := 8, zero := [.nilf], agg := false, cmp := true }
theorem tiOk100 : TIOk Tryz.prog 100 ti100 := tiOk_of (by kernel_rfl) (by kernel_rfl)
def ti101 : TI := { desc := (.func #[102, 62] #[62] false), size := 1, bytes := 8, zero := [.nilf], agg := false, cmp := true }
theorem tiOk101 : TIOk Tryz.prog 101 ti101 := tiOk_of (by kernel_rfl) (by kernel_rfl)
def ti102 : TI := { desc := (.slice 88), size := 1, bytes := 24, zero := [.nils], agg := false, cmp := true }
theorem tiOk102 : TIOk Tryz.prog 102 ti102 := tiOk_of (by kernel_rfl) (by kernel_rfl)
def ti103 : TI := { desc := (.func #[63] #[102] false), size := 1, bytes := 8, zero := [.nilf], agg := false, cmp := true }
theorem tiOk103 : TIOk Tryz.prog 103 ti103 := tiOk_of (by kernel_rfl) (by kernel_rfl)
def ti104 : TI := { desc := (.func #[63, 105] #[88] false), size := 1, bytes := 8, zero := [.nilf], agg := false, cmp := true }
theorem tiOk104 : TIOk Tryz.prog 104 ti104 := tiOk_of (by kernel_rfl) (by kernel_rfl)
def ti105 : TI := { desc := (.func #[63] #[97] false), size := 1, bytes := 8, zero := [.nilf], agg := false, cmp := true }
theorem tiOk105 : TIOk Tryz.prog 105 ti105 := tiOk_of (by kernel_rfl) (by kernel_rfl)
def ti106 : TI := { desc := (.func #[88, 97] #[3] false), size := 1, bytes := 8, zero := [.nilf], agg := false, cmp := true }
theorem tiOk106 : TIOk Tryz.prog 106 ti106 := tiOk_of (by kernel_rfl) (by kernel_rfl)
def ti107 : TI := { desc := (.func #[97, 97, 97] #[3] false), size := 1, bytes := 8, zero := [.nilf], agg := false, cmp := true }
theorem tiOk107 : TIOk Tryz.prog 107 ti107 := tiOk_of (by kernel_rfl) (by kernel_rfl)
def ti108 : TI := { desc := (.func #[97, 97] #[3] false), size := 1, bytes := 8, zero := [.nilf], agg := false, cmp := true }
theorem tiOk108 : TIOk Tryz.prog 108 ti108 := tiOk_of (by kernel_rfl) (by kernel_rfl)
def ti109 : TI := { desc := (.struct #[{ name := "e", type := 27, offset := 0, embedded := false, tag := "", pkgPath := "sheafworks/nest", byteOffset := 0 }]), size := 1, bytes := 8, zero := [.int .i64 (0)], agg := true, cmp := true }
theorem tiOk109 : TIOk Tryz.prog 109 ti109 := tiOk_of (by kernel_rfl) (by kernel_rfl)
def ti110 : TI := { desc := (.struct #[{ name := "e", type := 27, offset := 0, embedded := false, tag := "", pkgPath := "sheafworks/nest", byteOffset := 0 }]), size := 1, bytes := 8, zero := [.int .i64 (0)], agg := true, cmp := true }
theorem tiOk110 : TIOk Tryz.prog 110 ti110 := tiOk_of (by kernel_rfl) (by kernel_rfl)
def ti111 : TI := { desc := (.func #[32] #[4] false), size := 1, bytes := 8, zero := [.nilf], agg := false, cmp := true }
theorem tiOk111 : TIOk Tryz.prog 111 ti111 := tiOk_of (by kernel_rfl) (by kernel_rfl)
def ti112 : TI := { desc := (.array 5 3), size := 5, bytes := 40, zero := [.int .i64 (0), .int .i64 (0), .int .i64 (0), .int .i64 (0), .int .i64 (0)], agg := true, cmp := true }
theorem tiOk112 : TIOk Tryz.prog 112 ti112 := tiOk_of (by kernel_rfl) (by kernel_rfl)
def ti113 : TI := { desc := (.struct #[{ name := "own", type := 3, offset := 0, embedded := false, tag := "", pkgPath := "sheafworks/nest", byteOffset := 0 }, { name := "data", type := 3, offset := 1, embedded := false, tag := "", pkgPath := "sheafworks/nest", byteOffset := 8 }]), size := 2, bytes := 16, zero := [.int .i64 (0), .int .i64 (0)], agg := true, cmp := true }
theorem tiOk113 : TIOk Tryz.prog 113 ti113 := tiOk_of (by kernel_rfl) (by kernel_rfl)
def ti114 : TI := { desc := (.struct #[{ name := "own", type := 3, offset := 0, embedded := false, tag := "", pkgPath := "sheafworks/nest", byteOffset := 0 }, { name := "data", type := 3, offset := 1, embedded := false, tag := "", pkgPath := "sheafworks/nest", byteOffset := 8 }]), size := 2, bytes := 16, zero := [.int .i64 (0), .int .i64 (0)], agg := true, cmp := true }
theorem tiOk114 : TIOk Tryz.prog 114 ti114 := tiOk_of (by kernel_rfl) (by kernel_rfl)
def ti115 : TI := { desc := (.slice 70), size := 1, bytes := 24, zero := [.nils], agg := false, cmp := true }
theorem tiOk115 : TIOk Tryz.prog 115 ti115 := tiOk_of (by kernel_rfl) (by kernel_rfl)
def ti116 : TI := { desc := (.struct #[{ name := "counter", type := 114, offset := 0, embedded := true, tag := "", pkgPath := "sheafworks/nest", byteOffset := 0 }, { name := "kind", type := 3, offset := 2, embedded := false, tag := "", pkgPath := "sheafworks/nest", byteOffset := 16 }, { name := "parts", type := 115, offset := 3, embedded := false, tag := "", pkgPath := "sheafworks/nest", byteOffset := 24 }]), size := 4, bytes := 48, zero := [.int .i64 (0), .int .i64 (0), .int .i64 (0), .nils], agg := true, cmp := true }
theorem tiOk116 : TIOk Tryz.prog 116 ti116 := tiOk_of (by kernel_rfl) (by kernel_rfl)
def ti117 : TI := { desc := (.struct #[{ name := "counter", type := 114, offset := 0, embedded := true, tag := "", pkgPath := "sheafworks/nest", byteOffset := 0 }, { name := "kind", type := 3, offset := 2, embedded := false, tag := "", pkgPath := "sheafworks/nest", byteOffset := 16 }, { name := "parts", type := 115, offset := 3, embedded := false, tag := "", pkgPath := "sheafworks/nest", byteOffset := 24 }]), size := 4, bytes := 48, zero := [.int .i64 (0), .int .i64 (0), .int .i64 (0), .nils], agg := true, cmp := true }
theorem tiOk117 : TIOk Tryz.prog 117 ti117 := tiOk_of (by kernel_rfl) (by kernel_rfl)
def ti118 : TI := { desc := (.func #[32] #[3] false), size := 1, bytes := 8, zero := [.nilf], agg := false, cmp := true }
theorem tiOk118 : TIOk Tryz.prog 118 ti118 := tiOk_of (by kernel_rfl) (by kernel_rfl)
def ti119 : TI := { desc := (.func #[3] #[4] false), size := 1, bytes := 8, zero := [.nilf], agg := false, cmp := true }
theorem tiOk119 : TIOk Tryz.prog 119 ti119 := tiOk_of (by kernel_rfl) (by kernel_rfl)
def ti120 : TI := { desc := (.func #[84] #[3] false), size := 1, bytes := 8, zero := [.nilf], agg := false, cmp := true }
theorem tiOk120 : TIOk Tryz.prog 120 ti120 := tiOk_of (by kernel_rfl) (by kernel_rfl)
def ti121 : TI := { desc := (.func #[84, 3] #[3] false), size := 1, bytes := 8, zero := [.nilf], agg := false, cmp := true }
theorem tiOk121 : TIOk Tryz.prog 121 ti121 := tiOk_of (by kernel_rfl) (by kernel_rfl)
def ti122 : TI := { desc := (.func #[3, 3] #[4] false), size := 1, bytes := 8, zero := [.nilf], agg := false, cmp := true }
theorem tiOk122 : TIOk Tryz.prog 122 ti122 := tiOk_of (by kernel_rfl) (by kernel_rfl)
def ti123 : TI := { desc := (.func #[3] #[63] false), size := 1, bytes := 8, zero := [.nilf], agg := false, cmp := true }
theorem tiOk123 : TIOk Tryz.prog 123 ti123 := tiOk_of (by kernel_rfl) (by kernel_rfl)
def ti124 : TI := { desc := (.func #[97, 4] #[4] false), size := 1, bytes := 8, zero := [.nilf], agg := false, cmp := true }
theorem tiOk124 : TIOk Tryz.prog 124 ti124 := tiOk_of (by kernel_rfl) (by kernel_rfl)
def ti125 : TI := { desc := (.func #[63, 126] #[102] false), size := 1, bytes := 8, zero := [.nilf], agg := false, cmp := true }
theorem tiOk125 : TIOk Tryz.prog 125 ti125 := tiOk_of (by kernel_rfl) (by kernel_rfl)
def ti126 : TI := { desc := (.func #[63] #[88] false), size := 1, bytes := 8, zero := [.nilf], agg := false, cmp := true }
theorem tiOk126 : TIOk Tryz.prog 126 ti126 := tiOk_of (by kernel_rfl) (by kernel_rfl)
def ti127 : TI := { desc := (.func #[63, 128] #[62] false), size := 1, bytes := 8, zero := [.nilf], agg := false, cmp := true }
theorem tiOk127 : TIOk Tryz.prog 127 ti127 := tiOk_of (by kernel_rfl) (by kernel_rfl)
def ti128 : TI := { desc := (.func #[63] #[3] false), size := 1, bytes := 8, zero := [.nilf], agg := false, cmp := true }
theorem tiOk128 : TIOk Tryz.prog 128 ti128 := tiOk_of (by kernel_rfl) (by kernel_rfl)
def ti129 : TI := { desc := (.func #[32, 3] #[4] false), size := 1, bytes := 8, zero := [.nilf], agg := false, cmp := true }
theorem tiOk129 : TIOk Tryz.prog 129 ti129 := tiOk_of (by kernel_rfl) (by kernel_rfl)
def ti130 : TI := { desc := (.func #[70] #[114] false), size := 1, bytes := 8, zero := [.nilf], agg := false, cmp := true }
theorem tiOk130 : TIOk Tryz.prog 130 ti130 := tiOk_of (by kernel_rfl) (by kernel_rfl)
def ti131 : TI := { desc := (.array 5 130), size := 5, bytes := 40, zero := [.nilf, .nilf, .nilf, .nilf, .nilf], agg := true, cmp := true }
theorem tiOk131 : TIOk Tryz.prog 131 ti131 := tiOk_of (by kernel_rfl) (by kernel_rfl)
def ti132 : TI := { desc := (.int .u32), size := 1, bytes := 4, zero := [.int .u32 (0)], agg := false, cmp := true }
theorem tiOk132 : TIOk Tryz.prog 132 ti132 := tiOk_of (by kernel_rfl) (by kernel_rfl)
def ti133 : TI := { desc := (.int .u64), size := 1, bytes := 8, zero := [.int .u64 (0)], agg := false, cmp := true }
theorem tiOk133 : TIOk Tryz.prog 133 ti133 := tiOk_of (by kernel_rfl) (by kernel_rfl)
def ti134 : TI := { desc := (.func #[62, 62] #[4] false), size := 1, bytes := 8, zero := [.nilf], agg := false, cmp := true }
theorem tiOk134 : TIOk Tryz.prog 134 ti134 := tiOk_of (by kernel_rfl) (by kernel_rfl)
def ti135 : TI := { desc := (.func #[62, 62, 62] #[3] false), size := 1, bytes := 8, zero := [.nilf], agg := false, cmp := true }
theorem tiOk135 : TIOk Tryz.prog 135 ti135 := tiOk_of (by kernel_rfl) (by kernel_rfl)
def ti136 : TI := { desc := (.func #[62, 62] #[3] false), size := 1, bytes := 8, zero := [.nilf], agg := false, cmp := true }
theorem tiOk136 : TIOk Tryz.prog 136 ti136 := tiOk_of (by kernel_rfl) (by kernel_rfl)
def ti137 : TI := { desc := (.func #[] #[9] false), size := 1, bytes := 8, zero := [.nilf], agg := false, cmp := true }
theorem tiOk137 : TIOk Tryz.prog 137 ti137 := tiOk_of (by kernel_rfl) (by kernel_rfl)
def ti138 : TI := { desc := (.struct #[{ name := "_interface", type := 17, offset := 0, embedded := false, tag := "", pkgPath := "runtime", byteOffset := 0 }, { name := "concrete", type := 17, offset := 1, embedded := false, tag := "", pkgPath := "runtime", byteOffset := 8 }, { name := "asserted", type := 17, offset := 2, embedded := false, tag := "", pkgPath := "runtime", byteOffset := 16 }, { name := "missingMethod", type := 9, offset := 3, embedded := false, tag := "", pkgPath := "runtime", byteOffset := 24 }]), size := 4, bytes := 40, zero := [.nilp, .nilp, .nilp, .str []], agg := true, cmp := false }
theorem tiOk138 : TIOk Tryz.prog 138 ti138 := tiOk_of (by kernel_rfl) (by kernel_rfl)
def ti139 : TI := { desc := (.struct #[{ name := "_interface", type := 17, offset := 0, embedded := false, tag := "", pkgPath := "runtime", byteOffset := 0 }, { name := "concrete", type := 17, offset := 1, embedded := false, tag := "", pkgPath := "runtime", byteOffset := 8 }, { name := "asserted", type := 17, offset := 2, embedded := false, tag := "", pkgPath := "runtime", byteOffset := 16 }, { name := "missingMethod", type := 9, offset := 3, embedded := false, tag := "", pkgPath := "runtime", byteOffset := 24 }]), size := 4, bytes := 40, zero := [.nilp, .nilp, .nilp, .str []], agg := true, cmp := false }
theorem tiOk139 : TIOk Tryz.prog 139 ti139 := tiOk_of (by kernel_rfl) (by kernel_rfl)
def ti140 : TI := { desc := (.array 0 16), size := 0, bytes := 0, zero := [], agg := true, cmp := true }
theorem tiOk140 : TIOk Tryz.prog 140 ti140 := tiOk_of (by kernel_rfl) (by kernel_rfl)
def ti141 : TI := { desc := (.struct #[{ name := "_", type := 140, offset := 0, embedded := false, tag := "", pkgPath := "runtime", byteOffset := 0 }]), size := 0, bytes := 0, zero := [], agg := true, cmp := false }
theorem tiOk141 : TIOk Tryz.prog 141 ti141 := tiOk_of (by kernel_rfl) (by kernel_rfl)
def ti142 : TI := { desc := (.struct #[{ name := "_", type := 140, offset := 0, embedded := false, tag := "", pkgPath := "runtime", byteOffset := 0 }]), size := 0, bytes := 0, zero := [], agg := true, cmp := false }
theorem tiOk142 : TIOk Tryz.prog 142 ti142 := tiOk_of (by kernel_rfl) (by kernel_rfl)
def ti143 : TI := { desc := (.func #[] #[3] false), size := 1, bytes := 8, zero := [.nilf], agg := false, cmp := true }
theorem tiOk143 : TIOk Tryz.prog 143 ti143 := tiOk_of (by kernel_rfl) (by kernel_rfl)
def ti144 : TI := { desc := (.int .u8), size := 1, bytes := 1, zero := [.int .u8 (0)], agg := false, cmp := true }
theorem tiOk144 : TIOk Tryz.prog 144 ti144 := tiOk_of (by kernel_rfl) (by kernel_rfl)
def ti145 : TI := { desc := (.int .u8), size := 1, bytes := 1, zero := [.int .u8 (0)], agg := false, cmp := true }
theorem tiOk145 : TIOk Tryz.prog 145 ti145 := tiOk_of (by kernel_rfl) (by kernel_rfl)
def ti146 : TI := { desc := (.func #[152, 152] #[4] false), size := 1, bytes := 8, zero := [.nilf], agg := false, cmp := true }
theorem tiOk146 : TIOk Tryz.prog 146 ti146 := tiOk_of (by kernel_rfl) (by kernel_rfl)
def ti147 : TI := { desc := (.pointer 5), size := 1, bytes := 8, zero := [.nilp], agg := false, cmp := true }
theorem tiOk147 : TIOk Tryz.prog 147 ti147 := tiOk_of (by kernel_rfl) (by kernel_rfl)
def ti148 : TI := { desc := (.int .i32), size := 1, bytes := 4, zero := [.int .i32 (0)], agg := false, cmp := true }
theorem tiOk148 : TIOk Tryz.prog 148 ti148 := tiOk_of (by kernel_rfl) (by kernel_rfl)
def ti149 : TI := { desc := (.int .i32), size := 1, bytes := 4, zero := [.int .i32 (0)], agg := false, cmp := true }
theorem tiOk149 : TIOk Tryz.prog 149 ti149 := tiOk_of (by kernel_rfl) (by kernel_rfl)
def ti150 : TI := { desc := (.struct #[{ name := "Size_", type := 12, offset := 0, embedded := false, tag := "", pkgPath := "", byteOffset := 0 }, { name := "PtrBytes", type := 12, offset := 1, embedded := false, tag := "", pkgPath := "", byteOffset := 8 }, { name := "Hash", type := 132, offset := 2, embedded := false, tag := "", pkgPath := "", byteOffset := 16 }, { name := "TFlag", type := 144, offset := 3, embedded := false, tag := "", pkgPath := "", byteOffset := 20 }, { name := "Align_", type := 5, offset := 4, embedded := false, tag := "", pkgPath := "", byteOffset := 21 }, { name := "FieldAlign_", type := 5, offset := 5, embedded := false, tag := "", pkgPath := "", byteOffset := 22 }, { name := "Kind_", type := 145, offset := 6, embedded := false, tag := "", pkgPath := "", byteOffset := 23 }, { name := "Equal", type := 146, offset := 7, embedded := false, tag := "", pkgPath := "", byteOffset := 24 }, { name := "GCData", type := 147, offset := 8, embedded := false, tag := "", pkgPath := "", byteOffset := 32 }, { name := "Str", type := 148, offset := 9, embedded := false, tag := "", pkgPath := "", byteOffset := 40 }, { name := "PtrToThis", type := 149, offset := 10, embedded := false, tag := "", pkgPath := "", byteOffset := 44 }]), size := 11, bytes := 48, zero := [.int .u64 (0), .int .u64 (0), .int .u32 (0), .int .u8 (0), .int .u8 (0), .int .u8 (0), .int .u8 (0), .nilf, .nilp, .int .i32 (0), .int .i32 (0)], agg := true, cmp := false }
theorem tiOk150 : TIOk Tryz.prog 150 ti150 := tiOk_of (by kernel_rfl) (by kernel_rfl)
def ti151 : TI := { desc := (.struct #[{ name := "Size_", type := 12, offset := 0, embedded := false, tag := "", pkgPath := "", byteOffset := 0 }, { name := "PtrBytes", type := 12, offset := 1, embedded := false, tag := "", pkgPath := "", byteOffset := 8 }, { name := "Hash", type := 132, offset := 2, embedded := false, tag := "", pkgPath := "", byteOffset := 16 }, { name := "TFlag", type := 144, offset := 3, embedded := false, tag := "", pkgPath := "", byteOffset := 20 }, { name := "Align_", type := 5, offset := 4, embedded := false, tag := "", pkgPath := "", byteOffset := 21 }, { name := "FieldAlign_", type := 5, offset := 5, embedded := false, tag := "", pkgPath := "", byteOffset := 22 }, { name := "Kind_", type := 145, offset := 6, embedded := false, tag := "", pkgPath := "", byteOffset := 23 }, { name := "Equal", type := 146, offset := 7, embedded := false, tag := "", pkgPath := "", byteOffset := 24 }, { name := "GCData", type := 147, offset := 8, embedded := false, tag := "", pkgPath := "", byteOffset := 32 }, { name := "Str", type := 148, offset := 9, embedded := false, tag := "", pkgPath := "", byteOffset := 40 }, { name := "PtrToThis", type := 149, offset := 10, embedded := false, tag := "", pkgPath := "", byteOffset := 44 }]), size := 11, bytes := 48, zero := [.int .u64 (0), .int .u64 (0), .int .u32 (0), .int .u8 (0), .int .u8 (0), .int .u8 (0), .int .u8 (0), .nilf, .nilp, .int .i32 (0), .int .i32 (0)], agg := true, cmp := false }
theorem tiOk151 : TIOk Tryz.prog 151 ti151 := tiOk_of (by kernel_rfl) (by kernel_rfl)
def ti153 : TI := { desc := (.func #[] #[114] false), size := 1, bytes := 8, zero := [.nilf], agg := false, cmp := true }
theorem tiOk153 : TIOk Tryz.prog 153 ti153 := tiOk_of (by kernel_rfl) (by kernel_rfl)
noncomputable def fi2 : FInfo := { fn := Tryz.f2, vars := [] }
noncomputable def fi3 : FInfo := { fn := Tryz.f3, vars := [0, 1, 3, 4, 5, 6, 7, 8, 9, 10, 11, 12, 13, 14, 15, 16, 17, 18] }
noncomputable def fi4 : FInfo := { fn := Tryz.f4, vars := [0, 1, 2, 4] }
noncomputable def fi5 : FInfo := { fn := Tryz.f5, vars := [0, 1, 2] }
noncomputable def fi6 : FInfo := { fn := Tryz.f6, vars := [0, 2, 3, 4, 5] }
noncomputable def fi7 : FInfo := { fn := Tryz.f7, vars := [0, 2, 3, 4] }
noncomputable def fi8 : FInfo := { fn := Tryz.f8, vars := [0, 2, 3, 4, 5, 6] }
noncomputable def fi9 : FInfo := { fn := Tryz.f9, vars := [0, 2, 3, 4, 5, 6, 16, 17] }
noncomputable def fi10 : FInfo := { fn := Tryz.f10, vars := [0, 1, 3, 4, 5, 6, 7, 8, 10, 31, 32, 33] }
noncomputable def fi11 : FInfo := { fn := Tryz.f11, vars := [0, 1, 3, 4, 5, 6, 8, 9, 10] }
noncomputable def fi12 : FInfo := { fn := Tryz.f12, vars := [0, 1, 4, 5, 6] }
noncomputable def fi13 : FInfo := { fn := Tryz.f13, vars := [0, 1] }
noncomputable def fi14 : FInfo := { fn := Tryz.f14, vars := [0] }
noncomputable def fi15 : FInfo := { fn := Tryz.f15, vars := [0, 1, 2, 3, 4, 5, 6] }
noncomputable def fi16 : FInfo := { fn := Tryz.f16, vars := [0, 1, 2, 3, 4, 5, 6] }
noncomputable def fi17 : FInfo := { fn := Tryz.f17, vars := [0, 1, 2, 4, 5, 6] }
noncomputable def fi18 : FInfo := { fn := Tryz.f18, vars := [0, 2] }
noncomputable def fi19 : FInfo := { fn := Tryz.f19, vars := [0, 2, 3, 4] }
noncomputable def fi20 : FInfo := { fn := Tryz.f20, vars := [0, 1, 2, 4, 6, 7, 8] }
noncomputable def fi21 : FInfo := { fn := Tryz.f21, vars := [0, 1, 2, 3, 4] }
noncomputable def fi22 : FInfo := { fn := Tryz.f22, vars := [0, 2] }
noncomputable def fi23 : FInfo := { fn := Tryz.f23, vars := [0, 1, 3, 4, 5, 6] }
noncomputable def fi24 : FInfo := { fn := Tryz.f24, vars := [0, 2, 3, 4] }
noncomputable def fi25 : FInfo := { fn := Tryz.f25, vars := [0] }
noncomputable def fi26 : FInfo := { fn := Tryz.f26, vars := [0, 1, 4, 5] }
noncomputable def fi27 : FInfo := { fn := Tryz.f27, vars := [0] }
noncomputable def fi28 : FInfo := { fn := Tryz.f28, vars := [0, 1, 2, 3, 5, 10, 11, 12] }
noncomputable def fi29 : FInfo := { fn := Tryz.f29, vars := [0, 1, 2] }
noncomputable def fi30 : FInfo := { fn := Tryz.f30, vars := [0, 1, 2, 3, 4] }
noncomputable def fi31 : FInfo := { fn := Tryz.f31, vars := [0] }
noncomputable def fi32 : FInfo := { fn := Tryz.f32, vars := [0, 1, 2, 3, 4, 5, 7] }
noncomputable def fi33 : FInfo := { fn := Tryz.f33, vars := [0, 1, 4, 5, 10] }
noncomputable def fi34 : FInfo := { fn := Tryz.f34, vars := [0, 1, 2, 3, 4, 5] }
noncomputable def fi35 : FInfo := { fn := Tryz.f35, vars := [0, 1, 3, 4, 5, 6, 12] }
noncomputable def fi36 : FInfo := { fn := Tryz.f36, vars := [0, 2, 3, 4] }
noncomputable def fi37 : FInfo := { fn := Tryz.f37, vars := [0, 1, 2, 3, 4] }
noncomputable def fi38 : FInfo := { fn := Tryz.f38, vars := [0] }
noncomputable def fi39 : FInfo := { fn := Tryz.f39, vars := [0] }
noncomputable def fi40 : FInfo := { fn := Tryz.f40, vars := [0] }
noncomputable def fi41 : FInfo := { fn := Tryz.f41, vars := [0, 1, 2, 3, 4, 5, 6, 8, 9, 10, 11, 12, 13, 24, 25, 36, 37, 38, 85, 86] }
noncomputable def fi42 : FInfo := { fn := Tryz.f42, vars := [0, 1, 2, 3, 4, 5, 6, 7, 8, 9, 10, 12, 31, 32, 43, 44, 45, 92, 93, 94] }
noncomputable def fi43 : FInfo := { fn := Tryz.f43, vars := [0, 1, 2, 3, 4, 5, 6, 7, 8, 9, 10, 11, 12, 14, 34, 35, 36, 59, 60, 61, 85, 86, 87] }
noncomputable def fi44 : FInfo := { fn := Tryz.f44, vars := [0, 1, 2] }
noncomputable def fi45 : FInfo := { fn := Tryz.f45, vars := [0, 1, 2] }
noncomputable def fi46 : FInfo := { fn := Tryz.f46, vars := [0, 1, 2, 3, 4, 5, 21, 22] }
noncomputable def fi47 : FInfo := { fn := Tryz.f47, vars := [0, 1, 2, 3, 4, 6, 7, 8, 9, 11, 12, 16, 17, 18, 69, 70, 71, 113] }
noncomputable def fi48 : FInfo := { fn := Tryz.f48, vars := [0, 3, 4, 5, 10] }
noncomputable def fi49 : FInfo := { fn := Tryz.f49, vars := [0, 1, 2] }
noncomputable def fi50 : FInfo := { fn := Tryz.f50, vars := [0, 1, 2, 3, 4, 5, 6] }
noncomputable def fi51 : FInfo := { fn := Tryz.f51, vars := [0, 1] }
noncomputable def fi52 : FInfo := { fn := Tryz.f52, vars := [0, 1, 3, 4, 5, 6, 7, 23, 24, 25] }
noncomputable def fi53 : FInfo := { fn := Tryz.f53, vars := [0, 1, 2] }
noncomputable def fi54 : FInfo := { fn := Tryz.f54, vars := [0, 1, 2, 3, 4] }
noncomputable def fi55 : FInfo := { fn := Tryz.f55, vars := [0, 1, 2, 3] }
noncomputable def fi56 : FInfo := { fn := Tryz.f56, vars := [0, 1, 2, 3, 4, 5, 27] }
noncomputable def fi57 : FInfo := { fn := Tryz.f57, vars := [0, 1, 2, 6] }
noncomputable def fi58 : FInfo := { fn := Tryz.f58, vars := [0, 1, 4, 5, 6, 7, 8, 9, 10] }
noncomputable def fi59 : FInfo := { fn := Tryz.f59, vars := [0, 1, 2, 3, 4] }
noncomputable def fi60 : FInfo := { fn := Tryz.f60, vars := [0, 1, 2, 6, 7, 8, 9, 10] }
noncomputable def fi61 : FInfo := { fn := Tryz.f61, vars := [0, 2, 3, 4, 5, 6] }
noncomputable def fi62 : FInfo := { fn := Tryz.f62, vars := [0, 1, 2, 3, 4] }
noncomputable def fi63 : FInfo := { fn := Tryz.f63, vars := [0, 1, 4, 5, 6, 7, 8, 9, 10, 11] }
noncomputable def fi64 : FInfo := { fn := Tryz.f64, vars := [0, 1, 4, 5, 6, 7, 8, 9, 10] }
noncomputable def fi65 : FInfo := { fn := Tryz.f65, vars := [0, 1, 2, 6, 7, 8, 9, 10, 11, 12, 13, 14] }
noncomputable def fi66 : FInfo := { fn := Tryz.f66, vars := [0, 1, 3, 4] }
noncomputable def fi67 : FInfo := { fn := Tryz.f67, vars := [0, 1, 2] }
noncomputable def fi68 : FInfo := { fn := Tryz.f68, vars := [0, 1, 2] }
noncomputable def fi69 : FInfo := { fn := Tryz.f69, vars := [0, 1, 2, 4] }
noncomputable def fi70 : FInfo := { fn := Tryz.f70, vars := [0] }
noncomputable def fi71 : FInfo := { fn := Tryz.f71, vars := [0, 1, 2, 3, 4] }
noncomputable def fi72 : FInfo := { fn := Tryz.f72, vars := [0, 1, 4, 5, 7, 8, 10, 11, 12, 13, 17, 18, 19] }
noncomputable def fi73 : FInfo := { fn := Tryz.f73, vars := [0, 1, 2] }
noncomputable def fi74 : FInfo := { fn := Tryz.f74, vars := [0, 1, 2] }
noncomputable def fi75 : FInfo := { fn := Tryz.f75, vars := [0, 1, 2, 4, 5, 6, 9, 10] }
noncomputable def fi76 : FInfo := { fn := Tryz.f76, vars := [0, 1, 2] }
noncomputable def fi77 : FInfo := { fn := Tryz.f77, vars := [0, 1, 3, 4, 5, 7, 8] }
noncomputable def fi78 : FInfo := { fn := Tryz.f78, vars := [0, 1, 2, 3, 4, 5, 6] }
noncomputable def fi79 : FInfo := { fn := Tryz.f79, vars := [0, 1, 2, 3, 4] }
noncomputable def fi80 : FInfo := { fn := Tryz.f80, vars := [0, 1, 2, 3, 4] }
noncomputable def fi81 : FInfo := { fn := Tryz.f81, vars := [0, 1, 2, 3, 5, 35, 36, 37] }
noncomputable def fi82 : FInfo := { fn := Tryz.f82, vars := [0, 1, 2, 3, 4, 6, 23, 24, 25] }
noncomputable def fi83 : FInfo := { fn := Tryz.f83, vars := [0, 1, 2, 4] }
noncomputable def fi84 : FInfo := { fn := Tryz.f84, vars := [0, 1, 2, 3, 4] }
noncomputable def fi85 : FInfo := { fn := Tryz.f85, vars := [0, 1, 2, 3, 4] }
noncomputable def fi86 : FInfo := { fn := Tryz.f86, vars := [0, 1, 2, 3] }
noncomputable def fi87 : FInfo := { fn := Tryz.f87, vars := [0, 2] }
noncomputable def fi88 : FInfo := { fn := Tryz.f88, vars := [0, 2] }
noncomputable def fi89 : FInfo := { fn := Tryz.f89, vars := [0, 2, 3, 4] }
noncomputable def fi90 : FInfo := { fn := Tryz.f90, vars := [0, 1, 4, 5, 6, 7] }
noncomputable def fi91 : FInfo := { fn := Tryz.f91, vars := [0, 1, 4] }
noncomputable def fi92 : FInfo := { fn := Tryz.f92, vars := [0, 1, 2, 4] }
noncomputable def fi93 : FInfo := { fn := Tryz.f93, vars := [0, 1, 2, 5, 7, 8, 9] }
noncomputable def fi94 : FInfo := { fn := Tryz.f94, vars := [0, 2] }
noncomputable def fi95 : FInfo := { fn := Tryz.f95, vars := [0, 1, 2, 4, 5, 6, 9, 10] }
noncomputable def fi96 : FInfo := { fn := Tryz.f96, vars := [0, 1, 2] }
noncomputable def fi97 : FInfo := { fn := Tryz.f97, vars := [0, 1, 2, 4, 5, 6, 9, 10] }
noncomputable def fi98 : FInfo := { fn := Tryz.f98, vars := [0, 1, 2] }
noncomputable def fi99 : FInfo := { fn := Tryz.f99, vars := [0, 1, 2, 3, 4, 6, 8, 18, 19, 20] }
noncomputable def fi100 : FInfo := { fn := Tryz.f100, vars := [0, 2] }
noncomputable def fi101 : FInfo := { fn := Tryz.f101, vars := [0, 1, 4, 5, 6] }
noncomputable def fi102 : FInfo := { fn := Tryz.f102, vars := [0, 1, 2, 6] }
noncomputable def fi103 : FInfo := { fn := Tryz.f103, vars := [0, 1, 4] }
noncomputable def fi121 : FInfo := { fn := Tryz.f121, vars := [0, 2] }
noncomputable def fi122 : FInfo := { fn := Tryz.f122, vars := [0, 2] }
noncomputable def fi123 : FInfo := { fn := Tryz.f123, vars := [0, 2, 3, 4] }
noncomputable def fi124 : FInfo := { fn := Tryz.f124, vars := [0, 2, 3] }
noncomputable def fi125 : FInfo := { fn := Tryz.f125, vars := [0, 2, 3] }
noncomputable def fi134 : FInfo := { fn := Tryz.f134, vars := [] }
def tiT : Tab TI := (.node 77 (.node 38 (.node 19 (.node 9 (.node 4 (.node 2 (.node 1 (.one 0 ti0) (.one 1 ti1)) (.node 3 (.one 2 ti2) (.one 3 ti3))) (.node 6 (.node 5 (.one 4 ti4) (.one 5 ti5)) (.node 7 (.one 6 ti6) (.node 8 (.one 7 ti7) (.one 8 ti8))))) (.node 14 (.node 11 (.node 10 (.one 9 ti9) (.one 10 ti10)) (.node 12 (.one 11 ti11) (.node 13 (.one 12 ti12) (.one 13 ti13)))) (.node 16 (.node 15 (.one 14 ti14) (.one 15 ti15)) (.node 17 (.one 16 ti16) (.node 18 (.one 17 ti17) (.one 18 ti18)))))) (.node 28 (.node 23 (.node 21 (.node 20 (.one 19 ti19) (.one 20 ti20)) (.node 22 (.one 21 ti21) (.one 22 ti22))) (.node 25 (.node 24 (.one 23 ti23) (.one 24 ti24)) (.node 26 (.one 25 ti25) (.node 27 (.one 26 ti26) (.one 27 ti27))))) (.node 33 (.node 30 (.node 29 (.one 28 ti28) (.one 29 ti29)) (.node 31 (.one 30 ti30) (.node 32 (.one 31 ti31) (.one 32 ti32)))) (.node 35 (.node 34 (.one 33 ti33) (.one 34 ti34)) (.node 36 (.one 35 ti35) (.node 37 (.one 36 ti36) (.one 37 ti37))))))) (.node 57 (.node 47 (.node 42 (.node 40 (.node 39 (.one 38 ti38) (.one 39 ti39)) (.node 41 (.one 40 ti40) (.one 41 ti41))) (.node 44 (.node 43 (.one 42 ti42) (.one 43 ti43)) (.node 45 (.one 44 ti44) (.node 46 (.one 45 ti45) (.one 46 ti46))))) (.node 52 (.node 49 (.node 48 (.one 47 ti47) (.one 48 ti48)) (.node 50 (.one 49 ti49) (.node 51 (.one 50 ti50) (.one 51 ti51)))) (.node 54 (.node 53 (.one 52 ti52) (.one 53 ti53)) (.node 55 (.one 54 ti54) (.node 56 (.one 55 ti55) (.one 56 ti56)))))) (.node 67 (.node 62 (.node 59 (.node 58 (.one 57 ti57) (.one 58 ti58)) (.node 60 (.one 59 ti59) (.node 61 (.one 60 ti60) (.one 61 ti61)))) (.node 64 (.node 63 (.one 62 ti62) (.one 63 ti63)) (.node 65 (.one 64 ti64) (.node 66 (.one 65 ti65) (.one 66 ti66))))) (.node 72 (.node 69 (.node 68 (.one 67 ti67) (.one 68 ti68)) (.node 70 (.one 69 ti69) (.node 71 (.one 70 ti70) (.one 71 ti71)))) (.node 74 (.node 73 (.one 72 ti72) (.one 73 ti73)) (.node 75 (.one 74 ti74) (.node 76 (.one 75 ti75) (.one 76 ti76)))))))) (.node 115 (.node 96 (.node 86 (.node 81 (.node 79 (.node 78 (.one 77 ti77) (.one 78 ti78)) (.node 80 (.one 79 ti79) (.one 80 ti80))) (.node 83 (.node 82 (.one 81 ti81) (.one 82 ti82)) (.node 84 (.one 83 ti83) (.node 85 (.one 84 ti84) (.one 85 ti85))))) (.node 91 (.node 88 (.node 87 (.one 86 ti86) (.one 87 ti87)) (.node 89 (.one 88 ti88) (.node 90 (.one 89 ti89) (.one 90 ti90)))) (.node 93 (.node 92 (.one 91 ti91) (.one 92 ti92)) (.node 94 (.one 93 ti93) (.node 95 (.one 94 ti94) (.one 95 ti95)))))) (.node 105 (.node 100 (.node 98 (.node 97 (.one 96 ti96) (.one 97 ti97)) (.node 99 (.one 98 ti98) (.one 99 ti99))) (.node 102 (.node 101 (.one 100 ti100) (.one 101 ti101)) (.node 103 (.one 102 ti102) (.node 104 (.one 103 ti103) (.one 104 ti104))))) (.node 110 (.node 107 (.node 106 (.one 105 ti105) (.one 106 ti106)) (.node 108 (.one 107 ti107) (.node 109 (.one 108 ti108) (.one 109 ti109)))) (.node 112 (.node 111 (.one 110 ti110) (.one 111 ti111)) (.node 113 (.one 112 ti112) (.node 114 (.one 113 ti113) (.one 114 ti114))))))) (.node 134 (.node 124 (.node 119 (.node 117 (.node 116 (.one 115 ti115) (.one 116 ti116)) (.node 118 (.one 117 ti117) (.one 118 ti118))) (.node 121 (.node 120 (.one 119 ti119) (.one 120 ti120)) (.node 122 (.one 121 ti121) (.node 123 (.one 122 ti122) (.one 123 ti123))))) (.node 129 (.node 126 (.node 125 (.one 124 ti124) (.one 125 ti125)) (.node 127 (.one 126 ti126) (.node 128 (.one 127 ti127) (.one 128 ti128)))) (.node 131 (.node 130 (.one 129 ti129) (.one 130 ti130)) (.node 132 (.one 131 ti131) (.node 133 (.one 132 ti132) (.one 133 ti133)))))) (.node 144 (.node 139 (.node 136 (.node 135 (.one 134 ti134) (.one 135 ti135)) (.node 137 (.one 136 ti136) (.node 138 (.one 137 ti137) (.one 138 ti138)))) (.node 141 (.node 140 (.one 139 ti139) (.one 140 ti140)) (.node 142 (.one 141 ti141) (.node 143 (.one 142 ti142) (.one 143 ti143))))) (.node 149 (.node 146 (.node 145 (.one 144 ti144) (.one 145 ti145)) (.node 147 (.one 146 ti146) (.node 148 (.one 147 ti147) (.one 148 ti148)))) (.node 151 (.node 150 (.one 149 ti149) (.one 150 ti150)) (.node 152 (.one 151 ti151) (.node 153 .nil (.one 153 ti153)))))))))
noncomputable def fnT : Tab FInfo := (.node 67 (.node 33 (.node 16 (.node 8 (.node 4 (.node 2 (.node 1 .nil .nil) (.node 3 (.one 2 fi2) (.one 3 fi3))) (.node 6 (.node 5 (.one 4 fi4) (.one 5 fi5)) (.node 7 (.one 6 fi6) (.one 7 fi7)))) (.node 12 (.node 10 (.node 9 (.one 8 fi8) (.one 9 fi9)) (.node 11 (.one 10 fi10) (.one 11 fi11))) (.node 14 (.node 13 (.one 12 fi12) (.one 13 fi13)) (.node 15 (.one 14 fi14) (.one 15 fi15))))) (.node 24 (.node 20 (.node 18 (.node 17 (.one 16 fi16) (.one 17 fi17)) (.node 19 (.one 18 fi18) (.one 19 fi19))) (.node 22 (.node 21 (.one 20 fi20) (.one 21 fi21)) (.node 23 (.one 22 fi22) (.one 23 fi23)))) (.node 28 (.node 26 (.node 25 (.one 24 fi24) (.one 25 fi25)) (.node 27 (.one 26 fi26) (.one 27 fi27))) (.node 30 (.node 29 (.one 28 fi28) (.one 29 fi29)) (.node 31 (.one 30 fi30) (.node 32 (.one 31 fi31) (.one 32 fi32))))))) (.node 50 (.node 41 (.node 37 (.node 35 (.node 34 (.one 33 fi33) (.one 34 fi34)) (.node 36 (.one 35 fi35) (.one 36 fi36))) (.node 39 (.node 38 (.one 37 fi37) (.one 38 fi38)) (.node 40 (.one 39 fi39) (.one 40 fi40)))) (.node 45 (.node 43 (.node 42 (.one 41 fi41) (.one 42 fi42)) (.node 44 (.one 43 fi43) (.one 44 fi44))) (.node 47 (.node 46 (.one 45 fi45) (.one 46 fi46)) (.node 48 (.one 47 fi47) (.node 49 (.one 48 fi48) (.one 49 fi49)))))) (.node 58 (.node 54 (.node 52 (.node 51 (.one 50 fi50) (.one 51 fi51)) (.node 53 (.one 52 fi52) (.one 53 fi53))) (.node 56 (.node 55 (.one 54 fi54) (.one 55 fi55)) (.node 57 (.one 56 fi56) (.one 57 fi57)))) (.node 62 (.node 60 (.node 59 (.one 58 fi58) (.one 59 fi59)) (.node 61 (.one 60 fi60) (.one 61 fi61))) (.node 64 (.node 63 (.one 62 fi62) (.one 63 fi63)) (.node 65 (.one 64 fi64) (.node 66 (.one 65 fi65) (.one 66 fi66)))))))) (.node 101 (.node 84 (.node 75 (.node 71 (.node 69 (.node 68 (.one 67 fi67) (.one 68 fi68)) (.node 70 (.one 69 fi69) (.one 70 fi70))) (.node 73 (.node 72 (.one 71 fi71) (.one 72 fi72)) (.node 74 (.one 73 fi73) (.one 74 fi74)))) (.node 79 (.node 77 (.node 76 (.one 75 fi75) (.one 76 fi76)) (.node 78 (.one 77 fi77) (.one 78 fi78))) (.node 81 (.node 80 (.one 79 fi79) (.one 80 fi80)) (.node 82 (.one 81 fi81) (.node 83 (.one 82 fi82) (.one 83 fi83)))))) (.node 92 (.node 88 (.node 86 (.node 85 (.one 84 fi84) (.one 85 fi85)) (.node 87 (.one 86 fi86) (.one 87 fi87))) (.node 90 (.node 89 (.one 88 fi88) (.one 89 fi89)) (.node 91 (.one 90 fi90) (.one 91 fi91)))) (.node 96 (.node 94 (.node 93 (.one 92 fi92) (.one 93 fi93)) (.node 95 (.one 94 fi94) (.one 95 fi95))) (.node 98 (.node 97 (.one 96 fi96) (.one 97 fi97)) (.node 99 (.one 98 fi98) (.node 100 (.one 99 fi99) (.one 100 fi100))))))) (.node 118 (.node 109 (.node 105 (.node 103 (.node 102 (.one 101 fi101) (.one 102 fi102)) (.node 104 (.one 103 fi103) .nil)) (.node 107 (.node 106 .nil .nil) (.node 108 .nil .nil))) (.node 113 (.node 111 (.node 110 .nil .nil) (.node 112 .nil .nil)) (.node 115 (.node 114 .nil .nil) (.node 116 .nil (.node 117 .nil .nil))))) (.node 126 (.node 122 (.node 120 (.node 119 .nil .nil) (.node 121 .nil (.one 121 fi121))) (.node 124 (.node 123 (.one 122 fi122) (.one 123 fi123)) (.node 125 (.one 124 fi124) (.one 125 fi125)))) (.node 130 (.node 128 (.node 127 .nil .nil) (.node 129 .nil .nil)) (.node 132 (.node 131 .nil .nil) (.node 133 .nil (.node 134 .nil (.one 134 fi134)))))))))
theorem tiT_ok : tiT.All (TIOk Tryz.prog) := ⟨⟨⟨⟨⟨⟨⟨tiOk0, tiOk1⟩, ⟨tiOk2, tiOk3⟩⟩, ⟨⟨tiOk4, tiOk5⟩, ⟨tiOk6, ⟨tiOk7, tiOk8⟩⟩⟩⟩, ⟨⟨⟨tiOk9, tiOk10⟩, ⟨tiOk11, ⟨tiOk12, tiOk13⟩⟩⟩, ⟨⟨tiOk14, tiOk15⟩, ⟨tiOk16, ⟨tiOk17, tiOk18⟩⟩⟩⟩⟩, ⟨⟨⟨⟨tiOk19, tiOk20⟩, ⟨tiOk21, tiOk22⟩⟩, ⟨⟨tiOk23, tiOk24⟩, ⟨tiOk25, ⟨tiOk26, tiOk27⟩⟩⟩⟩, ⟨⟨⟨tiOk28, tiOk29⟩, ⟨tiOk30, ⟨tiOk31, tiOk32⟩⟩⟩, ⟨⟨tiOk33, tiOk34⟩, ⟨tiOk35, ⟨tiOk36, tiOk37⟩⟩⟩⟩⟩⟩, ⟨⟨⟨⟨⟨tiOk38, tiOk39⟩, ⟨tiOk40, tiOk41⟩⟩, ⟨⟨tiOk42, tiOk43⟩, ⟨tiOk44, ⟨tiOk45, tiOk46⟩⟩⟩⟩, ⟨⟨⟨tiOk47, tiOk48⟩, ⟨tiOk49, ⟨tiOk50, tiOk51⟩⟩⟩, ⟨⟨tiOk52, tiOk53⟩, ⟨tiOk54, ⟨tiOk55, tiOk56⟩⟩⟩⟩⟩, ⟨⟨⟨⟨tiOk57, tiOk58⟩, ⟨tiOk59, ⟨tiOk60, tiOk61⟩⟩⟩, ⟨⟨tiOk62, tiOk63⟩, ⟨tiOk64, ⟨tiOk65, tiOk66⟩⟩⟩⟩, ⟨⟨⟨tiOk67, tiOk68⟩, ⟨tiOk69, ⟨tiOk70, tiOk71⟩⟩⟩, ⟨⟨tiOk72, tiOk73⟩, ⟨tiOk74, ⟨tiOk75, tiOk76⟩⟩⟩⟩⟩⟩⟩, ⟨⟨⟨⟨⟨⟨tiOk77, tiOk78⟩, ⟨tiOk79, tiOk80⟩⟩, ⟨⟨tiOk81, tiOk82⟩, ⟨tiOk83, ⟨tiOk84, tiOk85⟩⟩⟩⟩, ⟨⟨⟨tiOk86, tiOk87⟩, ⟨tiOk88, ⟨tiOk89, tiOk90⟩⟩⟩, ⟨⟨tiOk91, tiOk92⟩, ⟨tiOk93, ⟨tiOk94, tiOk95⟩⟩⟩⟩⟩, ⟨⟨⟨⟨tiOk96, tiOk97⟩, ⟨tiOk98, tiOk99⟩⟩, ⟨⟨tiOk100, tiOk101⟩, ⟨tiOk102, ⟨tiOk103, tiOk104⟩⟩⟩⟩, ⟨⟨⟨tiOk105, tiOk106⟩, ⟨tiOk107, ⟨tiOk108, tiOk109⟩⟩⟩, ⟨⟨tiOk110, tiOk111⟩, ⟨tiOk112, ⟨tiOk113, tiOk114⟩⟩⟩⟩⟩⟩, ⟨⟨⟨⟨⟨tiOk115, tiOk116⟩, ⟨tiOk117, tiOk118⟩⟩, ⟨⟨tiOk119, tiOk120⟩, ⟨tiOk121, ⟨tiOk122, tiOk123⟩⟩⟩⟩, ⟨⟨⟨tiOk124, tiOk125⟩, ⟨tiOk126, ⟨tiOk127, tiOk128⟩⟩⟩, ⟨⟨tiOk129, tiOk130⟩, ⟨tiOk131, ⟨tiOk132, tiOk133⟩⟩⟩⟩⟩, ⟨⟨⟨⟨tiOk134, tiOk135⟩, ⟨tiOk136, ⟨tiOk137, tiOk138⟩⟩⟩, ⟨⟨tiOk139, tiOk140⟩, ⟨tiOk141, ⟨tiOk142, tiOk143⟩⟩⟩⟩, ⟨⟨⟨tiOk144, tiOk145⟩, ⟨tiOk146, ⟨tiOk147, tiOk148⟩⟩⟩, ⟨⟨tiOk149, tiOk150⟩, ⟨tiOk151, ⟨trivial, tiOk153⟩⟩⟩⟩⟩⟩⟩⟩
theorem fnT_ok : fnT.All (fun f fi => Tryz.prog.funcs[f]? = some fi.fn ∧ (fi.fn.name == "runtime.NumGoroutine") = false) := ⟨⟨⟨⟨⟨⟨⟨trivial, trivial⟩, ⟨⟨Tryz.func2, by kernel_rfl⟩, ⟨Tryz.func3, by kernel_rfl⟩⟩⟩, ⟨⟨⟨Tryz.func4, by kernel_rfl⟩, ⟨Tryz.func5, by kernel_rfl⟩⟩, ⟨⟨Tryz.func6, by kernel_rfl⟩, ⟨Tryz.func7, by kernel_rfl⟩⟩⟩⟩, ⟨⟨⟨⟨Tryz.func8, by kernel_rfl⟩, ⟨Tryz.func9, by kernel_rfl⟩⟩, ⟨⟨Tryz.func10, by kernel_rfl⟩, ⟨Tryz.func11, by kernel_rfl⟩⟩⟩, ⟨⟨⟨Tryz.func12, by kernel_rfl⟩, ⟨Tryz.func13, by kernel_rfl⟩⟩, ⟨⟨Tryz.func14, by kernel_rfl⟩, ⟨Tryz.func15, by kernel_rfl⟩⟩⟩⟩⟩, ⟨⟨⟨⟨⟨Tryz.func16, by kernel_rfl⟩, ⟨Tryz.func17, by kernel_rfl⟩⟩, ⟨⟨Tryz.func18, by kernel_rfl⟩, ⟨Tryz.func19, by kernel_rfl⟩⟩⟩, ⟨⟨⟨Tryz.func20, by kernel_rfl⟩, ⟨Tryz.func21, by kernel_rfl⟩⟩, ⟨⟨Tryz.func22, by kernel_rfl⟩, ⟨Tryz.func23, by kernel_rfl⟩⟩⟩⟩, ⟨⟨⟨⟨Tryz.func24, by kernel_rfl⟩, ⟨Tryz.func25, by kernel_rfl⟩⟩, ⟨⟨Tryz.func26, by kernel_rfl⟩, ⟨Tryz.func27, by kernel_rfl⟩⟩⟩, ⟨⟨⟨Tryz.func28, by kernel_rfl⟩, ⟨Tryz.func29, by kernel_rfl⟩⟩, ⟨⟨Tryz.func30, by kernel_rfl⟩, ⟨⟨Tryz.func31, by kernel_rfl⟩, ⟨Tryz.func32, by kernel_rfl⟩⟩⟩⟩⟩⟩⟩, ⟨⟨⟨⟨⟨⟨Tryz.func33, by kernel_rfl⟩, ⟨Tryz.func34, by kernel_rfl⟩⟩, ⟨⟨Tryz.func35, by kernel_rfl⟩, ⟨Tryz.func36, by kernel_rfl⟩⟩⟩, ⟨⟨⟨Tryz.func37, by kernel_rfl⟩, ⟨Tryz.func38, by kernel_rfl⟩⟩, ⟨⟨Tryz.func39, by kernel_rfl⟩, ⟨Tryz.func40, by kernel_rfl⟩⟩⟩⟩, ⟨⟨⟨⟨Tryz.func41, by kernel_rfl⟩, ⟨Tryz.func42, by kernel_rfl⟩⟩, ⟨⟨Tryz.func43, by kernel_rfl⟩, ⟨Tryz.func44, by kernel_rfl⟩⟩⟩, ⟨⟨⟨Tryz.func45, by kernel_rfl⟩, ⟨Tryz.func46, by kernel_rfl⟩⟩, ⟨⟨Tryz.func47, by kernel_rfl⟩, ⟨⟨Tryz.func48, by kernel_rfl⟩, ⟨Tryz.func49, by kernel_rfl⟩⟩⟩⟩⟩⟩, ⟨⟨⟨⟨⟨Tryz.func50, by kernel_rfl⟩, ⟨Tryz.func51, by kernel_rfl⟩⟩, ⟨⟨Tryz.func52, by kernel_rfl⟩, ⟨Tryz.func53, by kernel_rfl⟩⟩⟩, ⟨⟨⟨Tryz.func54, by kernel_rfl⟩, ⟨Tryz.func55, by kernel_rfl⟩⟩, ⟨⟨Tryz.func56, by kernel_rfl⟩, ⟨Tryz.func57, by kernel_rfl⟩⟩⟩⟩, ⟨⟨⟨⟨Tryz.func58, by kernel_rfl⟩, ⟨Tryz.func59, by kernel_rfl⟩⟩, ⟨⟨Tryz.func60, by kernel_rfl⟩, ⟨Tryz.func61, by kernel_rfl⟩⟩⟩, ⟨⟨⟨Tryz.func62, by kernel_rfl⟩, ⟨Tryz.func63, by kernel_rfl⟩⟩, ⟨⟨Tryz.func64, by kernel_rfl⟩, ⟨⟨Tryz.func65, by kernel_rfl⟩, ⟨Tryz.func66, by kernel_rfl⟩⟩⟩⟩⟩⟩⟩⟩, ⟨⟨⟨⟨⟨⟨⟨Tryz.func67, by kernel_rfl⟩, ⟨Tryz.func68, by kernel_rfl⟩⟩, ⟨⟨Tryz.func69, by kernel_rfl⟩, ⟨Tryz.func70, by kernel_rfl⟩⟩⟩, ⟨⟨⟨Tryz.func71, by kernel_rfl⟩, ⟨Tryz.func72, by kernel_rfl⟩⟩, ⟨⟨Tryz.func73, by kernel_rfl⟩, ⟨Tryz.func74, by kernel_rfl⟩⟩⟩⟩, ⟨⟨⟨⟨Tryz.func75, by kernel_rfl⟩, ⟨Tryz.func76, by kernel_rfl⟩⟩, ⟨⟨Tryz.func77, by kernel_rfl⟩, ⟨Tryz.func78, by kernel_rfl⟩⟩⟩, ⟨⟨⟨Tryz.func79, by kernel_rfl⟩, ⟨Tryz.func80, by kernel_rfl⟩⟩, ⟨⟨Tryz.func81, by kernel_rfl⟩, ⟨⟨Tryz.func82, by kernel_rfl⟩, ⟨Tryz.func83, by kernel_rfl⟩⟩⟩⟩⟩⟩, ⟨⟨⟨⟨⟨Tryz.func84, by kernel_rfl⟩, ⟨Tryz.func85, by kernel_rfl⟩⟩, ⟨⟨Tryz.func86, by kernel_rfl⟩, ⟨Tryz.func87, by kernel_rfl⟩⟩⟩, ⟨⟨⟨Tryz.func88, by kernel_rfl⟩, ⟨Tryz.func89, by kernel_rfl⟩⟩, ⟨⟨Tryz.func90, by kernel_rfl⟩, ⟨Tryz.func91, by kernel_rfl⟩⟩⟩⟩, ⟨⟨⟨⟨Tryz.func92, by kernel_rfl⟩, ⟨Tryz.func93, by kernel_rfl⟩⟩, ⟨⟨Tryz.func94, by kernel_rfl⟩, ⟨Tryz.func95, by kernel_rfl⟩⟩⟩, ⟨⟨⟨Tryz.func96, by kernel_rfl⟩, ⟨Tryz.func97, by kernel_rfl⟩⟩, ⟨⟨Tryz.func98, by kernel_rfl⟩, ⟨⟨Tryz.func99, by kernel_rfl⟩, ⟨Tryz.func100, by kernel_rfl⟩⟩⟩⟩⟩⟩⟩, ⟨⟨⟨⟨⟨⟨Tryz.func101, by kernel_rfl⟩, ⟨Tryz.func102, by kernel_rfl⟩⟩, ⟨⟨Tryz.func103, by kernel_rfl⟩, trivial⟩⟩, ⟨⟨trivial, trivial⟩, ⟨trivial, trivial⟩⟩⟩, ⟨⟨⟨trivial, trivial⟩, ⟨trivial, trivial⟩⟩, ⟨⟨trivial, trivial⟩, ⟨trivial, ⟨trivial, trivial⟩⟩⟩⟩⟩, ⟨⟨⟨⟨trivial, trivial⟩, ⟨trivial, ⟨Tryz.func121, by kernel_rfl⟩⟩⟩, ⟨⟨⟨Tryz.func122, by kernel_rfl⟩, ⟨Tryz.func123, by kernel_rfl⟩⟩, ⟨⟨Tryz.func124, by kernel_rfl⟩, ⟨Tryz.func125, by kernel_rfl⟩⟩⟩⟩, ⟨⟨⟨trivial, trivial⟩, ⟨trivial, trivial⟩⟩, ⟨⟨trivial, trivial⟩, ⟨trivial, ⟨trivial, ⟨Tryz.func134, by kernel_rfl⟩⟩⟩⟩⟩⟩⟩⟩⟩
theorem envOk (glob : Nat → Option (List AV)) : EnvOk Tryz.prog { ti := tiT.look, fn := fnT.look, glob } := envOk_of tiT_ok fnT_ok (by kernel_rfl) (by kernel_rfl)
end Go.Vm.T
