/-
The tables of the seat's program. No conditions.
-/
import Derived.Test.YtjgigcaelcapdaaDoorVmH
import Derived.Test.YtjgigcaelcapdaaDoorProg
import Derived.KernelRfl
set_option linter.all false

namespace Go.Vm.T
open Go Go.Proofs Go.Vm
set_option maxRecDepth 100000
def ti0 : TI := { desc := (.tuple #[]), size := 1, bytes := 0, zero := [.undef], agg := false, cmp := true }
theorem tiOk0 : TIOk Tryd.prog 0 ti0 := tiOk_of (by kernel_rfl) (by kernel_rfl)
def ti1 : TI := { desc := (.func #[] #[] false), size := 1, bytes := 8, zero := [.nilf], agg := false, cmp := true }
theorem tiOk1 : TIOk Tryd.prog 1 ti1 := tiOk_of (by kernel_rfl) (by kernel_rfl)
def ti2 : TI := { desc := (.int .i64), size := 1, bytes := 8, zero := [.int .i64 (0)], agg := false, cmp := true }
theorem tiOk2 : TIOk Tryd.prog 2 ti2 := tiOk_of (by kernel_rfl) (by kernel_rfl)
def ti3 : TI := { desc := (.int .i64), size := 1, bytes := 8, zero := [.int .i64 (0)], agg := false, cmp := true }
theorem tiOk3 : TIOk Tryd.prog 3 ti3 := tiOk_of (by kernel_rfl) (by kernel_rfl)
def ti4 : TI := { desc := .bool, size := 1, bytes := 1, zero := [.bool false], agg := false, cmp := true }
theorem tiOk4 : TIOk Tryd.prog 4 ti4 := tiOk_of (by kernel_rfl) (by kernel_rfl)
def ti5 : TI := { desc := (.int .u8), size := 1, bytes := 1, zero := [.int .u8 (0)], agg := false, cmp := true }
theorem tiOk5 : TIOk Tryd.prog 5 ti5 := tiOk_of (by kernel_rfl) (by kernel_rfl)
def ti6 : TI := { desc := (.int .u8), size := 1, bytes := 1, zero := [.int .u8 (0)], agg := false, cmp := true }
theorem tiOk6 : TIOk Tryd.prog 6 ti6 := tiOk_of (by kernel_rfl) (by kernel_rfl)
def ti7 : TI := { desc := (.struct #[{ name := "x", type := 2, offset := 0, embedded := false, tag := "", pkgPath := "runtime", byteOffset := 0 }, { name := "y", type := 3, offset := 1, embedded := false, tag := "", pkgPath := "runtime", byteOffset := 8 }, { name := "signed", type := 4, offset := 2, embedded := false, tag := "", pkgPath := "runtime", byteOffset := 16 }, { name := "code", type := 6, offset := 3, embedded := false, tag := "", pkgPath := "runtime", byteOffset := 17 }]), size := 4, bytes := 24, zero := [.int .i64 (0), .int .i64 (0), .bool false, .int .u8 (0)], agg := true, cmp := true }
theorem tiOk7 : TIOk Tryd.prog 7 ti7 := tiOk_of (by kernel_rfl) (by kernel_rfl)
def ti8 : TI := { desc := (.struct #[{ name := "x", type := 2, offset := 0, embedded := false, tag := "", pkgPath := "runtime", byteOffset := 0 }, { name := "y", type := 3, offset := 1, embedded := false, tag := "", pkgPath := "runtime", byteOffset := 8 }, { name := "signed", type := 4, offset := 2, embedded := false, tag := "", pkgPath := "runtime", byteOffset := 16 }, { name := "code", type := 6, offset := 3, embedded := false, tag := "", pkgPath := "runtime", byteOffset := 17 }]), size := 4, bytes := 24, zero := [.int .i64 (0), .int .i64 (0), .bool false, .int .u8 (0)], agg := true, cmp := true }
theorem tiOk8 : TIOk Tryd.prog 8 ti8 := tiOk_of (by kernel_rfl) (by kernel_rfl)
def ti9 : TI := { desc := .string, size := 1, bytes := 16, zero := [.str []], agg := false, cmp := true }
theorem tiOk9 : TIOk Tryd.prog 9 ti9 := tiOk_of (by kernel_rfl) (by kernel_rfl)
def ti10 : TI := { desc := .string, size := 1, bytes := 16, zero := [.str []], agg := false, cmp := true }
theorem tiOk10 : TIOk Tryd.prog 10 ti10 := tiOk_of (by kernel_rfl) (by kernel_rfl)
def ti11 : TI := { desc := .string, size := 1, bytes := 16, zero := [.str []], agg := false, cmp := true }
theorem tiOk11 : TIOk Tryd.prog 11 ti11 := tiOk_of (by kernel_rfl) (by kernel_rfl)
def ti12 : TI := { desc := (.int .u64), size := 1, bytes := 8, zero := [.int .u64 (0)], agg := false, cmp := true }
theorem tiOk12 : TIOk Tryd.prog 12 ti12 := tiOk_of (by kernel_rfl) (by kernel_rfl)
def ti13 : TI := { desc := (.struct #[{ name := "msg", type := 9, offset := 0, embedded := false, tag := "", pkgPath := "runtime", byteOffset := 0 }, { name := "addr", type := 12, offset := 1, embedded := false, tag := "", pkgPath := "runtime", byteOffset := 16 }]), size := 2, bytes := 24, zero := [.str [], .int .u64 (0)], agg := true, cmp := false }
theorem tiOk13 : TIOk Tryd.prog 13 ti13 := tiOk_of (by kernel_rfl) (by kernel_rfl)
def ti14 : TI := { desc := (.struct #[{ name := "msg", type := 9, offset := 0, embedded := false, tag := "", pkgPath := "runtime", byteOffset := 0 }, { name := "addr", type := 12, offset := 1, embedded := false, tag := "", pkgPath := "runtime", byteOffset := 16 }]), size := 2, bytes := 24, zero := [.str [], .int .u64 (0)], agg := true, cmp := false }
theorem tiOk14 : TIOk Tryd.prog 14 ti14 := tiOk_of (by kernel_rfl) (by kernel_rfl)
def ti15 : TI := { desc := (.pointer 114), size := 1, bytes := 8, zero := [.nilp], agg := false, cmp := true }
theorem tiOk15 : TIOk Tryd.prog 15 ti15 := tiOk_of (by kernel_rfl) (by kernel_rfl)
def ti16 : TI := { desc := (.pointer 117), size := 1, bytes := 8, zero := [.nilp], agg := false, cmp := true }
theorem tiOk16 : TIOk Tryd.prog 16 ti16 := tiOk_of (by kernel_rfl) (by kernel_rfl)
def ti17 : TI := { desc := (.pointer 126), size := 1, bytes := 8, zero := [.nilp], agg := false, cmp := true }
theorem tiOk17 : TIOk Tryd.prog 17 ti17 := tiOk_of (by kernel_rfl) (by kernel_rfl)
def ti18 : TI := { desc := (.struct #[{ name := "typ", type := 17, offset := 0, embedded := false, tag := "", pkgPath := "internal/runtime/maps", byteOffset := 0 }]), size := 1, bytes := 8, zero := [.nilp], agg := true, cmp := false }
theorem tiOk18 : TIOk Tryd.prog 18 ti18 := tiOk_of (by kernel_rfl) (by kernel_rfl)
def ti19 : TI := { desc := (.struct #[{ name := "typ", type := 17, offset := 0, embedded := false, tag := "", pkgPath := "internal/runtime/maps", byteOffset := 0 }]), size := 1, bytes := 8, zero := [.nilp], agg := true, cmp := false }
theorem tiOk19 : TIOk Tryd.prog 19 ti19 := tiOk_of (by kernel_rfl) (by kernel_rfl)
def ti20 : TI := { desc := (.interface #[]), size := 1, bytes := 16, zero := [.nili], agg := false, cmp := true }
theorem tiOk20 : TIOk Tryd.prog 20 ti20 := tiOk_of (by kernel_rfl) (by kernel_rfl)
def ti21 : TI := { desc := (.int .i32), size := 1, bytes := 4, zero := [.int .i32 (0)], agg := false, cmp := true }
theorem tiOk21 : TIOk Tryd.prog 21 ti21 := tiOk_of (by kernel_rfl) (by kernel_rfl)
def ti22 : TI := { desc := (.slice 3), size := 1, bytes := 24, zero := [.nils], agg := false, cmp := true }
theorem tiOk22 : TIOk Tryd.prog 22 ti22 := tiOk_of (by kernel_rfl) (by kernel_rfl)
def ti23 : TI := { desc := (.func #[3, 3] #[3] false), size := 1, bytes := 8, zero := [.nilf], agg := false, cmp := true }
theorem tiOk23 : TIOk Tryd.prog 23 ti23 := tiOk_of (by kernel_rfl) (by kernel_rfl)
def ti24 : TI := { desc := (.slice 26), size := 1, bytes := 24, zero := [.nils], agg := false, cmp := true }
theorem tiOk24 : TIOk Tryd.prog 24 ti24 := tiOk_of (by kernel_rfl) (by kernel_rfl)
def ti25 : TI := { desc := (.struct #[{ name := "Kind", type := 3, offset := 0, embedded := false, tag := "", pkgPath := "", byteOffset := 0 }, { name := "N", type := 3, offset := 1, embedded := false, tag := "", pkgPath := "", byteOffset := 8 }, { name := "L", type := 24, offset := 2, embedded := false, tag := "", pkgPath := "", byteOffset := 16 }]), size := 3, bytes := 40, zero := [.int .i64 (0), .int .i64 (0), .nils], agg := true, cmp := true }
theorem tiOk25 : TIOk Tryd.prog 25 ti25 := tiOk_of (by kernel_rfl) (by kernel_rfl)
def ti26 : TI := { desc := (.struct #[{ name := "Kind", type := 3, offset := 0, embedded := false, tag := "", pkgPath := "", byteOffset := 0 }, { name := "N", type := 3, offset := 1, embedded := false, tag := "", pkgPath := "", byteOffset := 8 }, { name := "L", type := 24, offset := 2, embedded := false, tag := "", pkgPath := "", byteOffset := 16 }]), size := 3, bytes := 40, zero := [.int .i64 (0), .int .i64 (0), .nils], agg := true, cmp := true }
theorem tiOk26 : TIOk Tryd.prog 26 ti26 := tiOk_of (by kernel_rfl) (by kernel_rfl)
def ti27 : TI := { desc := (.int .i64), size := 1, bytes := 8, zero := [.int .i64 (0)], agg := false, cmp := true }
theorem tiOk27 : TIOk Tryd.prog 27 ti27 := tiOk_of (by kernel_rfl) (by kernel_rfl)
def ti28 : TI := { desc := (.tuple #[26, 27]), size := 1, bytes := 0, zero := [.undef], agg := false, cmp := true }
theorem tiOk28 : TIOk Tryd.prog 28 ti28 := tiOk_of (by kernel_rfl) (by kernel_rfl)
def ti29 : TI := { desc := (.func #[9, 26] #[26, 27] false), size := 1, bytes := 8, zero := [.nilf], agg := false, cmp := true }
theorem tiOk29 : TIOk Tryd.prog 29 ti29 := tiOk_of (by kernel_rfl) (by kernel_rfl)
def ti30 : TI := { desc := (.func #[26, 26] #[26] false), size := 1, bytes := 8, zero := [.nilf], agg := false, cmp := true }
theorem tiOk30 : TIOk Tryd.prog 30 ti30 := tiOk_of (by kernel_rfl) (by kernel_rfl)
def ti31 : TI := { desc := (.func #[3] #[26] false), size := 1, bytes := 8, zero := [.nilf], agg := false, cmp := true }
theorem tiOk31 : TIOk Tryd.prog 31 ti31 := tiOk_of (by kernel_rfl) (by kernel_rfl)
def ti32 : TI := { desc := (.func #[22] #[26] true), size := 1, bytes := 8, zero := [.nilf], agg := false, cmp := true }
theorem tiOk32 : TIOk Tryd.prog 32 ti32 := tiOk_of (by kernel_rfl) (by kernel_rfl)
def ti33 : TI := { desc := (.func #[26] #[22] false), size := 1, bytes := 8, zero := [.nilf], agg := false, cmp := true }
theorem tiOk33 : TIOk Tryd.prog 33 ti33 := tiOk_of (by kernel_rfl) (by kernel_rfl)
def ti34 : TI := { desc := (.func #[26, 26] #[4] false), size := 1, bytes := 8, zero := [.nilf], agg := false, cmp := true }
theorem tiOk34 : TIOk Tryd.prog 34 ti34 := tiOk_of (by kernel_rfl) (by kernel_rfl)
def ti35 : TI := { desc := (.func #[3, 3, 3] #[4] false), size := 1, bytes := 8, zero := [.nilf], agg := false, cmp := true }
theorem tiOk35 : TIOk Tryd.prog 35 ti35 := tiOk_of (by kernel_rfl) (by kernel_rfl)
def ti36 : TI := { desc := (.func #[] #[4] false), size := 1, bytes := 8, zero := [.nilf], agg := false, cmp := true }
theorem tiOk36 : TIOk Tryd.prog 36 ti36 := tiOk_of (by kernel_rfl) (by kernel_rfl)
def ti37 : TI := { desc := (.func #[22, 3] #[4] false), size := 1, bytes := 8, zero := [.nilf], agg := false, cmp := true }
theorem tiOk37 : TIOk Tryd.prog 37 ti37 := tiOk_of (by kernel_rfl) (by kernel_rfl)
def ti38 : TI := { desc := (.func #[9, 26] #[4] false), size := 1, bytes := 8, zero := [.nilf], agg := false, cmp := true }
theorem tiOk38 : TIOk Tryd.prog 38 ti38 := tiOk_of (by kernel_rfl) (by kernel_rfl)
def ti39 : TI := { desc := (.func #[24] #[26] true), size := 1, bytes := 8, zero := [.nilf], agg := false, cmp := true }
theorem tiOk39 : TIOk Tryd.prog 39 ti39 := tiOk_of (by kernel_rfl) (by kernel_rfl)
def ti40 : TI := { desc := (.func #[22, 3] #[3] false), size := 1, bytes := 8, zero := [.nilf], agg := false, cmp := true }
theorem tiOk40 : TIOk Tryd.prog 40 ti40 := tiOk_of (by kernel_rfl) (by kernel_rfl)
def ti41 : TI := { desc := (.func #[3] #[3] false), size := 1, bytes := 8, zero := [.nilf], agg := false, cmp := true }
theorem tiOk41 : TIOk Tryd.prog 41 ti41 := tiOk_of (by kernel_rfl) (by kernel_rfl)
def ti42 : TI := { desc := (.func #[22, 22, 3] #[4] false), size := 1, bytes := 8, zero := [.nilf], agg := false, cmp := true }
theorem tiOk42 : TIOk Tryd.prog 42 ti42 := tiOk_of (by kernel_rfl) (by kernel_rfl)
def ti43 : TI := { desc := (.func #[22, 3, 3, 3] #[3] false), size := 1, bytes := 8, zero := [.nilf], agg := false, cmp := true }
theorem tiOk43 : TIOk Tryd.prog 43 ti43 := tiOk_of (by kernel_rfl) (by kernel_rfl)
def ti44 : TI := { desc := (.slice 46), size := 1, bytes := 24, zero := [.nils], agg := false, cmp := true }
theorem tiOk44 : TIOk Tryd.prog 44 ti44 := tiOk_of (by kernel_rfl) (by kernel_rfl)
def ti45 : TI := { desc := (.struct #[{ name := "Kind", type := 3, offset := 0, embedded := false, tag := "", pkgPath := "", byteOffset := 0 }, { name := "N", type := 3, offset := 1, embedded := false, tag := "", pkgPath := "", byteOffset := 8 }, { name := "L", type := 44, offset := 2, embedded := false, tag := "", pkgPath := "", byteOffset := 16 }]), size := 3, bytes := 40, zero := [.int .i64 (0), .int .i64 (0), .nils], agg := true, cmp := true }
theorem tiOk45 : TIOk Tryd.prog 45 ti45 := tiOk_of (by kernel_rfl) (by kernel_rfl)
def ti46 : TI := { desc := (.struct #[{ name := "Kind", type := 3, offset := 0, embedded := false, tag := "", pkgPath := "", byteOffset := 0 }, { name := "N", type := 3, offset := 1, embedded := false, tag := "", pkgPath := "", byteOffset := 8 }, { name := "L", type := 44, offset := 2, embedded := false, tag := "", pkgPath := "", byteOffset := 16 }]), size := 3, bytes := 40, zero := [.int .i64 (0), .int .i64 (0), .nils], agg := true, cmp := true }
theorem tiOk46 : TIOk Tryd.prog 46 ti46 := tiOk_of (by kernel_rfl) (by kernel_rfl)
def ti47 : TI := { desc := (.func #[56] #[22] false), size := 1, bytes := 8, zero := [.nilf], agg := false, cmp := true }
theorem tiOk47 : TIOk Tryd.prog 47 ti47 := tiOk_of (by kernel_rfl) (by kernel_rfl)
def ti48 : TI := { desc := (.struct #[{ name := "text", type := 9, offset := 0, embedded := false, tag := "", pkgPath := "sheafworks/libg", byteOffset := 0 }, { name := "arg", type := 46, offset := 1, embedded := false, tag := "", pkgPath := "sheafworks/libg", byteOffset := 16 }, { name := "result", type := 46, offset := 4, embedded := false, tag := "", pkgPath := "sheafworks/libg", byteOffset := 56 }, { name := "define", type := 47, offset := 7, embedded := false, tag := "", pkgPath := "sheafworks/libg", byteOffset := 96 }]), size := 8, bytes := 104, zero := [.str [], .int .i64 (0), .int .i64 (0), .nils, .int .i64 (0), .int .i64 (0), .nils, .nilf], agg := true, cmp := true }
theorem tiOk48 : TIOk Tryd.prog 48 ti48 := tiOk_of (by kernel_rfl) (by kernel_rfl)
def ti49 : TI := { desc := (.struct #[{ name := "text", type := 9, offset := 0, embedded := false, tag := "", pkgPath := "sheafworks/libg", byteOffset := 0 }, { name := "arg", type := 46, offset := 1, embedded := false, tag := "", pkgPath := "sheafworks/libg", byteOffset := 16 }, { name := "result", type := 46, offset := 4, embedded := false, tag := "", pkgPath := "sheafworks/libg", byteOffset := 56 }, { name := "define", type := 47, offset := 7, embedded := false, tag := "", pkgPath := "sheafworks/libg", byteOffset := 96 }]), size := 8, bytes := 104, zero := [.str [], .int .i64 (0), .int .i64 (0), .nils, .int .i64 (0), .int .i64 (0), .nils, .nilf], agg := true, cmp := true }
theorem tiOk49 : TIOk Tryd.prog 49 ti49 := tiOk_of (by kernel_rfl) (by kernel_rfl)
def ti50 : TI := { desc := (.tuple #[49, 4]), size := 1, bytes := 0, zero := [.undef], agg := false, cmp := true }
theorem tiOk50 : TIOk Tryd.prog 50 ti50 := tiOk_of (by kernel_rfl) (by kernel_rfl)
def ti51 : TI := { desc := (.map 9 49), size := 1, bytes := 8, zero := [.nilm], agg := false, cmp := true }
theorem tiOk51 : TIOk Tryd.prog 51 ti51 := tiOk_of (by kernel_rfl) (by kernel_rfl)
def ti52 : TI := { desc := (.func #[] #[51] false), size := 1, bytes := 8, zero := [.nilf], agg := false, cmp := true }
theorem tiOk52 : TIOk Tryd.prog 52 ti52 := tiOk_of (by kernel_rfl) (by kernel_rfl)
def ti53 : TI := { desc := (.func #[26, 46] #[27] false), size := 1, bytes := 8, zero := [.nilf], agg := false, cmp := true }
theorem tiOk53 : TIOk Tryd.prog 53 ti53 := tiOk_of (by kernel_rfl) (by kernel_rfl)
def ti54 : TI := { desc := (.struct #[]), size := 0, bytes := 0, zero := [], agg := true, cmp := true }
theorem tiOk54 : TIOk Tryd.prog 54 ti54 := tiOk_of (by kernel_rfl) (by kernel_rfl)
def ti55 : TI := { desc := (.struct #[]), size := 0, bytes := 0, zero := [], agg := true, cmp := true }
theorem tiOk55 : TIOk Tryd.prog 55 ti55 := tiOk_of (by kernel_rfl) (by kernel_rfl)
def ti56 : TI := { desc := (.struct #[{ name := "Kind", type := 3, offset := 0, embedded := false, tag := "", pkgPath := "", byteOffset := 0 }, { name := "N", type := 3, offset := 1, embedded := false, tag := "", pkgPath := "", byteOffset := 8 }, { name := "L", type := 24, offset := 2, embedded := false, tag := "", pkgPath := "", byteOffset := 16 }]), size := 3, bytes := 40, zero := [.int .i64 (0), .int .i64 (0), .nils], agg := true, cmp := true }
theorem tiOk56 : TIOk Tryd.prog 56 ti56 := tiOk_of (by kernel_rfl) (by kernel_rfl)
def ti57 : TI := { desc := (.func #[9, 26, 22] #[4] true), size := 1, bytes := 8, zero := [.nilf], agg := false, cmp := true }
theorem tiOk57 : TIOk Tryd.prog 57 ti57 := tiOk_of (by kernel_rfl) (by kernel_rfl)
def ti58 : TI := { desc := (.int .u32), size := 1, bytes := 4, zero := [.int .u32 (0)], agg := false, cmp := true }
theorem tiOk58 : TIOk Tryd.prog 58 ti58 := tiOk_of (by kernel_rfl) (by kernel_rfl)
def ti59 : TI := { desc := (.int .u64), size := 1, bytes := 8, zero := [.int .u64 (0)], agg := false, cmp := true }
theorem tiOk59 : TIOk Tryd.prog 59 ti59 := tiOk_of (by kernel_rfl) (by kernel_rfl)
def ti60 : TI := { desc := (.slice 4), size := 1, bytes := 24, zero := [.nils], agg := false, cmp := true }
theorem tiOk60 : TIOk Tryd.prog 60 ti60 := tiOk_of (by kernel_rfl) (by kernel_rfl)
def ti61 : TI := { desc := (.func #[46, 46] #[46] false), size := 1, bytes := 8, zero := [.nilf], agg := false, cmp := true }
theorem tiOk61 : TIOk Tryd.prog 61 ti61 := tiOk_of (by kernel_rfl) (by kernel_rfl)
def ti62 : TI := { desc := (.func #[] #[46] false), size := 1, bytes := 8, zero := [.nilf], agg := false, cmp := true }
theorem tiOk62 : TIOk Tryd.prog 62 ti62 := tiOk_of (by kernel_rfl) (by kernel_rfl)
def ti63 : TI := { desc := (.func #[] #[22] false), size := 1, bytes := 8, zero := [.nilf], agg := false, cmp := true }
theorem tiOk63 : TIOk Tryd.prog 63 ti63 := tiOk_of (by kernel_rfl) (by kernel_rfl)
def ti64 : TI := { desc := (.func #[46] #[46] false), size := 1, bytes := 8, zero := [.nilf], agg := false, cmp := true }
theorem tiOk64 : TIOk Tryd.prog 64 ti64 := tiOk_of (by kernel_rfl) (by kernel_rfl)
def ti65 : TI := { desc := (.func #[66] #[] false), size := 1, bytes := 8, zero := [.nilf], agg := false, cmp := true }
theorem tiOk65 : TIOk Tryd.prog 65 ti65 := tiOk_of (by kernel_rfl) (by kernel_rfl)
def ti66 : TI := { desc := (.pointer 27), size := 1, bytes := 8, zero := [.nilp], agg := false, cmp := true }
theorem tiOk66 : TIOk Tryd.prog 66 ti66 := tiOk_of (by kernel_rfl) (by kernel_rfl)
def ti67 : TI := { desc := (.pointer 102), size := 1, bytes := 8, zero := [.nilp], agg := false, cmp := true }
theorem tiOk67 : TIOk Tryd.prog 67 ti67 := tiOk_of (by kernel_rfl) (by kernel_rfl)
def ti68 : TI := { desc := (.func #[46] #[67] false), size := 1, bytes := 8, zero := [.nilf], agg := false, cmp := true }
theorem tiOk68 : TIOk Tryd.prog 68 ti68 := tiOk_of (by kernel_rfl) (by kernel_rfl)
def ti69 : TI := { desc := (.tuple #[3, 4]), size := 1, bytes := 0, zero := [.undef], agg := false, cmp := true }
theorem tiOk69 : TIOk Tryd.prog 69 ti69 := tiOk_of (by kernel_rfl) (by kernel_rfl)
def ti70 : TI := { desc := (.func #[26] #[3, 4] false), size := 1, bytes := 8, zero := [.nilf], agg := false, cmp := true }
theorem tiOk70 : TIOk Tryd.prog 70 ti70 := tiOk_of (by kernel_rfl) (by kernel_rfl)
def ti71 : TI := { desc := (.func #[4, 27] #[] false), size := 1, bytes := 8, zero := [.nilf], agg := false, cmp := true }
theorem tiOk71 : TIOk Tryd.prog 71 ti71 := tiOk_of (by kernel_rfl) (by kernel_rfl)
def ti72 : TI := { desc := (.func #[26] #[4] false), size := 1, bytes := 8, zero := [.nilf], agg := false, cmp := true }
theorem tiOk72 : TIOk Tryd.prog 72 ti72 := tiOk_of (by kernel_rfl) (by kernel_rfl)
def ti73 : TI := { desc := (.slice 81), size := 1, bytes := 24, zero := [.nils], agg := false, cmp := true }
theorem tiOk73 : TIOk Tryd.prog 73 ti73 := tiOk_of (by kernel_rfl) (by kernel_rfl)
def ti74 : TI := { desc := (.struct #[{ name := "l", type := 73, offset := 0, embedded := false, tag := "", pkgPath := "sheafworks/libg", byteOffset := 0 }]), size := 1, bytes := 24, zero := [.nils], agg := true, cmp := true }
theorem tiOk74 : TIOk Tryd.prog 74 ti74 := tiOk_of (by kernel_rfl) (by kernel_rfl)
def ti75 : TI := { desc := (.struct #[{ name := "l", type := 73, offset := 0, embedded := false, tag := "", pkgPath := "sheafworks/libg", byteOffset := 0 }]), size := 1, bytes := 24, zero := [.nils], agg := true, cmp := true }
theorem tiOk75 : TIOk Tryd.prog 75 ti75 := tiOk_of (by kernel_rfl) (by kernel_rfl)
def ti76 : TI := { desc := (.struct #[{ name := "edges", type := 75, offset := 0, embedded := true, tag := "", pkgPath := "sheafworks/libg", byteOffset := 0 }, { name := "nodes", type := 3, offset := 1, embedded := false, tag := "", pkgPath := "sheafworks/libg", byteOffset := 24 }]), size := 2, bytes := 32, zero := [.nils, .int .i64 (0)], agg := true, cmp := true }
theorem tiOk76 : TIOk Tryd.prog 76 ti76 := tiOk_of (by kernel_rfl) (by kernel_rfl)
def ti77 : TI := { desc := (.struct #[{ name := "edges", type := 75, offset := 0, embedded := true, tag := "", pkgPath := "sheafworks/libg", byteOffset := 0 }, { name := "nodes", type := 3, offset := 1, embedded := false, tag := "", pkgPath := "sheafworks/libg", byteOffset := 24 }]), size := 2, bytes := 32, zero := [.nils, .int .i64 (0)], agg := true, cmp := true }
theorem tiOk77 : TIOk Tryd.prog 77 ti77 := tiOk_of (by kernel_rfl) (by kernel_rfl)
def ti78 : TI := { desc := (.func #[3, 56] #[77] false), size := 1, bytes := 8, zero := [.nilf], agg := false, cmp := true }
theorem tiOk78 : TIOk Tryd.prog 78 ti78 := tiOk_of (by kernel_rfl) (by kernel_rfl)
def ti79 : TI := { desc := (.func #[] #[56] false), size := 1, bytes := 8, zero := [.nilf], agg := false, cmp := true }
theorem tiOk79 : TIOk Tryd.prog 79 ti79 := tiOk_of (by kernel_rfl) (by kernel_rfl)
def ti80 : TI := { desc := (.struct #[{ name := "x", type := 3, offset := 0, embedded := false, tag := "", pkgPath := "sheafworks/libg", byteOffset := 0 }, { name := "y", type := 3, offset := 1, embedded := false, tag := "", pkgPath := "sheafworks/libg", byteOffset := 8 }]), size := 2, bytes := 16, zero := [.int .i64 (0), .int .i64 (0)], agg := true, cmp := true }
theorem tiOk80 : TIOk Tryd.prog 80 ti80 := tiOk_of (by kernel_rfl) (by kernel_rfl)
def ti81 : TI := { desc := (.struct #[{ name := "x", type := 3, offset := 0, embedded := false, tag := "", pkgPath := "sheafworks/libg", byteOffset := 0 }, { name := "y", type := 3, offset := 1, embedded := false, tag := "", pkgPath := "sheafworks/libg", byteOffset := 8 }]), size := 2, bytes := 16, zero := [.int .i64 (0), .int .i64 (0)], agg := true, cmp := true }
theorem tiOk81 : TIOk Tryd.prog 81 ti81 := tiOk_of (by kernel_rfl) (by kernel_rfl)
def ti82 : TI := { desc := (.func #[4] #[] false), size := 1, bytes := 8, zero := [.nilf], agg := false, cmp := true }
theorem tiOk82 : TIOk Tryd.prog 82 ti82 := tiOk_of (by kernel_rfl) (by kernel_rfl)
def ti83 : TI := { desc := (.slice 22), size := 1, bytes := 24, zero := [.nils], agg := false, cmp := true }
theorem tiOk83 : TIOk Tryd.prog 83 ti83 := tiOk_of (by kernel_rfl) (by kernel_rfl)
def ti84 : TI := { desc := (.func #[104] #[] false), size := 1, bytes := 8, zero := [.nilf], agg := false, cmp := true }
theorem tiOk84 : TIOk Tryd.prog 84 ti84 := tiOk_of (by kernel_rfl) (by kernel_rfl)
def ti85 : TI := { desc := (.func #[3] #[84] false), size := 1, bytes := 8, zero := [.nilf], agg := false, cmp := true }
theorem tiOk85 : TIOk Tryd.prog 85 ti85 := tiOk_of (by kernel_rfl) (by kernel_rfl)
def ti86 : TI := { desc := (.func #[87, 22] #[22] false), size := 1, bytes := 8, zero := [.nilf], agg := false, cmp := true }
theorem tiOk86 : TIOk Tryd.prog 86 ti86 := tiOk_of (by kernel_rfl) (by kernel_rfl)
def ti87 : TI := { desc := (.slice 73), size := 1, bytes := 24, zero := [.nils], agg := false, cmp := true }
theorem tiOk87 : TIOk Tryd.prog 87 ti87 := tiOk_of (by kernel_rfl) (by kernel_rfl)
def ti88 : TI := { desc := (.func #[56] #[87] false), size := 1, bytes := 8, zero := [.nilf], agg := false, cmp := true }
theorem tiOk88 : TIOk Tryd.prog 88 ti88 := tiOk_of (by kernel_rfl) (by kernel_rfl)
def ti89 : TI := { desc := (.func #[56, 90] #[73] false), size := 1, bytes := 8, zero := [.nilf], agg := false, cmp := true }
theorem tiOk89 : TIOk Tryd.prog 89 ti89 := tiOk_of (by kernel_rfl) (by kernel_rfl)
def ti90 : TI := { desc := (.func #[56] #[81] false), size := 1, bytes := 8, zero := [.nilf], agg := false, cmp := true }
theorem tiOk90 : TIOk Tryd.prog 90 ti90 := tiOk_of (by kernel_rfl) (by kernel_rfl)
def ti91 : TI := { desc := (.func #[73, 81] #[3] false), size := 1, bytes := 8, zero := [.nilf], agg := false, cmp := true }
theorem tiOk91 : TIOk Tryd.prog 91 ti91 := tiOk_of (by kernel_rfl) (by kernel_rfl)
def ti92 : TI := { desc := (.func #[81, 81, 81] #[3] false), size := 1, bytes := 8, zero := [.nilf], agg := false, cmp := true }
theorem tiOk92 : TIOk Tryd.prog 92 ti92 := tiOk_of (by kernel_rfl) (by kernel_rfl)
def ti93 : TI := { desc := (.func #[81, 81] #[3] false), size := 1, bytes := 8, zero := [.nilf], agg := false, cmp := true }
theorem tiOk93 : TIOk Tryd.prog 93 ti93 := tiOk_of (by kernel_rfl) (by kernel_rfl)
def ti94 : TI := { desc := (.struct #[{ name := "e", type := 27, offset := 0, embedded := false, tag := "", pkgPath := "sheafworks/nest", byteOffset := 0 }]), size := 1, bytes := 8, zero := [.int .i64 (0)], agg := true, cmp := true }
theorem tiOk94 : TIOk Tryd.prog 94 ti94 := tiOk_of (by kernel_rfl) (by kernel_rfl)
def ti95 : TI := { desc := (.struct #[{ name := "e", type := 27, offset := 0, embedded := false, tag := "", pkgPath := "sheafworks/nest", byteOffset := 0 }]), size := 1, bytes := 8, zero := [.int .i64 (0)], agg := true, cmp := true }
theorem tiOk95 : TIOk Tryd.prog 95 ti95 := tiOk_of (by kernel_rfl) (by kernel_rfl)
def ti96 : TI := { desc := (.func #[46] #[4] false), size := 1, bytes := 8, zero := [.nilf], agg := false, cmp := true }
theorem tiOk96 : TIOk Tryd.prog 96 ti96 := tiOk_of (by kernel_rfl) (by kernel_rfl)
def ti97 : TI := { desc := (.array 5 3), size := 5, bytes := 40, zero := [.int .i64 (0), .int .i64 (0), .int .i64 (0), .int .i64 (0), .int .i64 (0)], agg := true, cmp := true }
theorem tiOk97 : TIOk Tryd.prog 97 ti97 := tiOk_of (by kernel_rfl) (by kernel_rfl)
def ti98 : TI := { desc := (.struct #[{ name := "own", type := 3, offset := 0, embedded := false, tag := "", pkgPath := "sheafworks/nest", byteOffset := 0 }, { name := "data", type := 3, offset := 1, embedded := false, tag := "", pkgPath := "sheafworks/nest", byteOffset := 8 }]), size := 2, bytes := 16, zero := [.int .i64 (0), .int .i64 (0)], agg := true, cmp := true }
theorem tiOk98 : TIOk Tryd.prog 98 ti98 := tiOk_of (by kernel_rfl) (by kernel_rfl)
def ti99 : TI := { desc := (.struct #[{ name := "own", type := 3, offset := 0, embedded := false, tag := "", pkgPath := "sheafworks/nest", byteOffset := 0 }, { name := "data", type := 3, offset := 1, embedded := false, tag := "", pkgPath := "sheafworks/nest", byteOffset := 8 }]), size := 2, bytes := 16, zero := [.int .i64 (0), .int .i64 (0)], agg := true, cmp := true }
theorem tiOk99 : TIOk Tryd.prog 99 ti99 := tiOk_of (by kernel_rfl) (by kernel_rfl)
def ti100 : TI := { desc := (.slice 67), size := 1, bytes := 24, zero := [.nils], agg := false, cmp := true }
theorem tiOk100 : TIOk Tryd.prog 100 ti100 := tiOk_of (by kernel_rfl) (by kernel_rfl)
def ti101 : TI := { desc := (.struct #[{ name := "counter", type := 99, offset := 0, embedded := true, tag := "", pkgPath := "sheafworks/nest", byteOffset := 0 }, { name := "kind", type := 3, offset := 2, embedded := false, tag := "", pkgPath := "sheafworks/nest", byteOffset := 16 }, { name := "parts", type := 100, offset := 3, embedded := false, tag := "", pkgPath := "sheafworks/nest", byteOffset := 24 }]), size := 4, bytes := 48, zero := [.int .i64 (0), .int .i64 (0), .int .i64 (0), .nils], agg := true, cmp := true }
theorem tiOk101 : TIOk Tryd.prog 101 ti101 := tiOk_of (by kernel_rfl) (by kernel_rfl)
def ti102 : TI := { desc := (.struct #[{ name := "counter", type := 99, offset := 0, embedded := true, tag := "", pkgPath := "sheafworks/nest", byteOffset := 0 }, { name := "kind", type := 3, offset := 2, embedded := false, tag := "", pkgPath := "sheafworks/nest", byteOffset := 16 }, { name := "parts", type := 100, offset := 3, embedded := false, tag := "", pkgPath := "sheafworks/nest", byteOffset := 24 }]), size := 4, bytes := 48, zero := [.int .i64 (0), .int .i64 (0), .int .i64 (0), .nils], agg := true, cmp := true }
theorem tiOk102 : TIOk Tryd.prog 102 ti102 := tiOk_of (by kernel_rfl) (by kernel_rfl)
def ti103 : TI := { desc := (.func #[3] #[56] false), size := 1, bytes := 8, zero := [.nilf], agg := false, cmp := true }
theorem tiOk103 : TIOk Tryd.prog 103 ti103 := tiOk_of (by kernel_rfl) (by kernel_rfl)
def ti104 : TI := { desc := (.func #[81, 4] #[4] false), size := 1, bytes := 8, zero := [.nilf], agg := false, cmp := true }
theorem tiOk104 : TIOk Tryd.prog 104 ti104 := tiOk_of (by kernel_rfl) (by kernel_rfl)
def ti105 : TI := { desc := (.func #[56, 106] #[87] false), size := 1, bytes := 8, zero := [.nilf], agg := false, cmp := true }
theorem tiOk105 : TIOk Tryd.prog 105 ti105 := tiOk_of (by kernel_rfl) (by kernel_rfl)
def ti106 : TI := { desc := (.func #[56] #[73] false), size := 1, bytes := 8, zero := [.nilf], agg := false, cmp := true }
theorem tiOk106 : TIOk Tryd.prog 106 ti106 := tiOk_of (by kernel_rfl) (by kernel_rfl)
def ti107 : TI := { desc := (.func #[56, 108] #[22] false), size := 1, bytes := 8, zero := [.nilf], agg := false, cmp := true }
theorem tiOk107 : TIOk Tryd.prog 107 ti107 := tiOk_of (by kernel_rfl) (by kernel_rfl)
def ti108 : TI := { desc := (.func #[56] #[3] false), size := 1, bytes := 8, zero := [.nilf], agg := false, cmp := true }
theorem tiOk108 : TIOk Tryd.prog 108 ti108 := tiOk_of (by kernel_rfl) (by kernel_rfl)
def ti109 : TI := { desc := (.func #[46, 3] #[4] false), size := 1, bytes := 8, zero := [.nilf], agg := false, cmp := true }
theorem tiOk109 : TIOk Tryd.prog 109 ti109 := tiOk_of (by kernel_rfl) (by kernel_rfl)
def ti110 : TI := { desc := (.func #[67] #[99] false), size := 1, bytes := 8, zero := [.nilf], agg := false, cmp := true }
theorem tiOk110 : TIOk Tryd.prog 110 ti110 := tiOk_of (by kernel_rfl) (by kernel_rfl)
def ti111 : TI := { desc := (.array 5 110), size := 5, bytes := 40, zero := [.nilf, .nilf, .nilf, .nilf, .nilf], agg := true, cmp := true }
theorem tiOk111 : TIOk Tryd.prog 111 ti111 := tiOk_of (by kernel_rfl) (by kernel_rfl)
def ti112 : TI := { desc := (.func #[] #[9] false), size := 1, bytes := 8, zero := [.nilf], agg := false, cmp := true }
theorem tiOk112 : TIOk Tryd.prog 112 ti112 := tiOk_of (by kernel_rfl) (by kernel_rfl)
def ti113 : TI := { desc := (.struct #[{ name := "_interface", type := 17, offset := 0, embedded := false, tag := "", pkgPath := "runtime", byteOffset := 0 }, { name := "concrete", type := 17, offset := 1, embedded := false, tag := "", pkgPath := "runtime", byteOffset := 8 }, { name := "asserted", type := 17, offset := 2, embedded := false, tag := "", pkgPath := "runtime", byteOffset := 16 }, { name := "missingMethod", type := 9, offset := 3, embedded := false, tag := "", pkgPath := "runtime", byteOffset := 24 }]), size := 4, bytes := 40, zero := [.nilp, .nilp, .nilp, .str []], agg := true, cmp := false }
theorem tiOk113 : TIOk Tryd.prog 113 ti113 := tiOk_of (by kernel_rfl) (by kernel_rfl)
def ti114 : TI := { desc := (.struct #[{ name := "_interface", type := 17, offset := 0, embedded := false, tag := "", pkgPath := "runtime", byteOffset := 0 }, { name := "concrete", type := 17, offset := 1, embedded := false, tag := "", pkgPath := "runtime", byteOffset := 8 }, { name := "asserted", type := 17, offset := 2, embedded := false, tag := "", pkgPath := "runtime", byteOffset := 16 }, { name := "missingMethod", type := 9, offset := 3, embedded := false, tag := "", pkgPath := "runtime", byteOffset := 24 }]), size := 4, bytes := 40, zero := [.nilp, .nilp, .nilp, .str []], agg := true, cmp := false }
theorem tiOk114 : TIOk Tryd.prog 114 ti114 := tiOk_of (by kernel_rfl) (by kernel_rfl)
def ti115 : TI := { desc := (.array 0 16), size := 0, bytes := 0, zero := [], agg := true, cmp := true }
theorem tiOk115 : TIOk Tryd.prog 115 ti115 := tiOk_of (by kernel_rfl) (by kernel_rfl)
def ti116 : TI := { desc := (.struct #[{ name := "_", type := 115, offset := 0, embedded := false, tag := "", pkgPath := "runtime", byteOffset := 0 }]), size := 0, bytes := 0, zero := [], agg := true, cmp := false }
theorem tiOk116 : TIOk Tryd.prog 116 ti116 := tiOk_of (by kernel_rfl) (by kernel_rfl)
def ti117 : TI := { desc := (.struct #[{ name := "_", type := 115, offset := 0, embedded := false, tag := "", pkgPath := "runtime", byteOffset := 0 }]), size := 0, bytes := 0, zero := [], agg := true, cmp := false }
theorem tiOk117 : TIOk Tryd.prog 117 ti117 := tiOk_of (by kernel_rfl) (by kernel_rfl)
def ti118 : TI := { desc := (.func #[] #[3] false), size := 1, bytes := 8, zero := [.nilf], agg := false, cmp := true }
theorem tiOk118 : TIOk Tryd.prog 118 ti118 := tiOk_of (by kernel_rfl) (by kernel_rfl)
def ti119 : TI := { desc := (.int .u8), size := 1, bytes := 1, zero := [.int .u8 (0)], agg := false, cmp := true }
theorem tiOk119 : TIOk Tryd.prog 119 ti119 := tiOk_of (by kernel_rfl) (by kernel_rfl)
def ti120 : TI := { desc := (.int .u8), size := 1, bytes := 1, zero := [.int .u8 (0)], agg := false, cmp := true }
theorem tiOk120 : TIOk Tryd.prog 120 ti120 := tiOk_of (by kernel_rfl) (by kernel_rfl)
def ti121 : TI := { desc := (.func #[127, 127] #[4] false), size := 1, bytes := 8, zero := [.nilf], agg := false, cmp := true }
theorem tiOk121 : TIOk Tryd.prog 121 ti121 := tiOk_of (by kernel_rfl) (by kernel_rfl)
def ti122 : TI := { desc := (.pointer 5), size := 1, bytes := 8, zero := [.nilp], agg := false, cmp := true }
theorem tiOk122 : TIOk Tryd.prog 122 ti122 := tiOk_of (by kernel_rfl) (by kernel_rfl)
def ti123 : TI := { desc := (.int .i32), size := 1, bytes := 4, zero := [.int .i32 (0)], agg := false, cmp := true }
theorem tiOk123 : TIOk Tryd.prog 123 ti123 := tiOk_of (by kernel_rfl) (by kernel_rfl)
def ti124 : TI := { desc := (.int .i32), size := 1, bytes := 4, zero := [.int .i32 (0)], agg := false, cmp := true }
theorem tiOk124 : TIOk Tryd.prog 124 ti124 := tiOk_of (by kernel_rfl) (by kernel_rfl)
def ti125 : TI := { desc := (.struct #[{ name := "Size_", type := 12, offset := 0, embedded := false, tag := "", pkgPath := "", byteOffset := 0 }, { name := "PtrBytes", type := 12, offset := 1, embedded := false, tag := "", pkgPath := "", byteOffset := 8 }, { name := "Hash", type := 58, offset := 2, embedded := false, tag := "", pkgPath := "", byteOffset := 16 }, { name := "TFlag", type := 119, offset := 3, embedded := false, tag := "", pkgPath := "", byteOffset := 20 }, { name := "Align_", type := 5, offset := 4, embedded := false, tag := "", pkgPath := "", byteOffset := 21 }, { name := "FieldAlign_", type := 5, offset := 5, embedded := false, tag := "", pkgPath := "", byteOffset := 22 }, { name := "Kind_", type := 120, offset := 6, embedded := false, tag := "", pkgPath := "", byteOffset := 23 }, { name := "Equal", type := 121, offset := 7, embedded := false, tag := "", pkgPath := "", byteOffset := 24 }, { name := "GCData", type := 122, offset := 8, embedded := false, tag := "", pkgPath := "", byteOffset := 32 }, { name := "Str", type := 123, offset := 9, embedded := false, tag := "", pkgPath := "", byteOffset := 40 }, { name := "PtrToThis", type := 124, offset := 10, embedded := false, tag := "", pkgPath := "", byteOffset := 44 }]), size := 11, bytes := 48, zero := [.int .u64 (0), .int .u64 (0), .int .u32 (0), .int .u8 (0), .int .u8 (0), .int .u8 (0), .int .u8 (0), .nilf, .nilp, .int .i32 (0), .int .i32 (0)], agg := true, cmp := false }
theorem tiOk125 : TIOk Tryd.prog 125 ti125 := tiOk_of (by kernel_rfl) (by kernel_rfl)
def ti126 : TI := { desc := (.struct #[{ name := "Size_", type := 12, offset := 0, embedded := false, tag := "", pkgPath := "", byteOffset := 0 }, { name := "PtrBytes", type := 12, offset := 1, embedded := false, tag := "", pkgPath := "", byteOffset := 8 }, { name := "Hash", type := 58, offset := 2, embedded := false, tag := "", pkgPath := "", byteOffset := 16 }, { name := "TFlag", type := 119, offset := 3, embedded := false, tag := "", pkgPath := "", byteOffset := 20 }, { name := "Align_", type := 5, offset := 4, embedded := false, tag := "", pkgPath := "", byteOffset := 21 }, { name := "FieldAlign_", type := 5, offset := 5, embedded := false, tag := "", pkgPath := "", byteOffset := 22 }, { name := "Kind_", type := 120, offset := 6, embedded := false, tag := "", pkgPath := "", byteOffset := 23 }, { name := "Equal", type := 121, offset := 7, embedded := false, tag := "", pkgPath := "", byteOffset := 24 }, { name := "GCData", type := 122, offset := 8, embedded := false, tag := "", pkgPath := "", byteOffset := 32 }, { name := "Str", type := 123, offset := 9, embedded := false, tag := "", pkgPath := "", byteOffset := 40 }, { name := "PtrToThis", type := 124, offset := 10, embedded := false, tag := "", pkgPath := "", byteOffset := 44 }]), size := 11, bytes := 48, zero := [.int .u64 (0), .int .u64 (0), .int .u32 (0), .int .u8 (0), .int .u8 (0), .int .u8 (0), .int .u8 (0), .nilf, .nilp, .int .i32 (0), .int .i32 (0)], agg := true, cmp := false }
theorem tiOk126 : TIOk Tryd.prog 126 ti126 := tiOk_of (by kernel_rfl) (by kernel_rfl)
def ti128 : TI := { desc := (.func #[] #[99] false), size := 1, bytes := 8, zero := [.nilf], agg := false, cmp := true }
theorem tiOk128 : TIOk Tryd.prog 128 ti128 := tiOk_of (by kernel_rfl) (by kernel_rfl)
noncomputable def fi2 : FInfo := { fn := Tryd.f2, vars := [] }
noncomputable def fi3 : FInfo := { fn := Tryd.f3, vars := [0, 1, 4, 5, 6, 7, 8, 9, 10, 11, 12, 13, 14, 15, 16, 17, 18, 19, 20, 21, 22, 23, 24] }
noncomputable def fi4 : FInfo := { fn := Tryd.f4, vars := [0, 1, 4, 5, 6, 7, 8, 9, 10, 11, 12, 13, 14, 15, 16] }
noncomputable def fi5 : FInfo := { fn := Tryd.f5, vars := [0, 1, 4, 5, 6, 7, 8, 9, 10, 11, 12, 13, 14, 15, 16, 17] }
noncomputable def fi6 : FInfo := { fn := Tryd.f6, vars := [0, 1, 2, 6, 7, 8, 9, 10, 11, 12, 13, 14, 15, 16, 17, 18, 19, 20, 21, 22, 23, 24, 25, 26] }
noncomputable def fi7 : FInfo := { fn := Tryd.f7, vars := [0, 1, 4, 5, 6, 7, 8, 9, 10, 11, 12, 13, 14, 15, 16, 17, 18, 19, 20, 21, 22, 23, 24] }
noncomputable def fi8 : FInfo := { fn := Tryd.f8, vars := [0, 1, 4, 5] }
noncomputable def fi9 : FInfo := { fn := Tryd.f9, vars := [0, 1, 3, 4, 5, 6, 7, 8, 10, 31, 32, 33] }
noncomputable def fi10 : FInfo := { fn := Tryd.f10, vars := [0, 1, 2, 3, 4] }
noncomputable def fi11 : FInfo := { fn := Tryd.f11, vars := [0, 2] }
noncomputable def fi12 : FInfo := { fn := Tryd.f12, vars := [0, 2, 3, 4] }
noncomputable def fi13 : FInfo := { fn := Tryd.f13, vars := [0, 1, 2, 3, 4] }
noncomputable def fi14 : FInfo := { fn := Tryd.f14, vars := [0, 1, 2, 3, 4, 5, 6] }
noncomputable def fi15 : FInfo := { fn := Tryd.f15, vars := [0, 1, 2, 6] }
noncomputable def fi16 : FInfo := { fn := Tryd.f16, vars := [0, 1, 2] }
noncomputable def fi17 : FInfo := { fn := Tryd.f17, vars := [0, 1, 3, 4, 5, 6] }
noncomputable def fi18 : FInfo := { fn := Tryd.f18, vars := [0, 2] }
noncomputable def fi19 : FInfo := { fn := Tryd.f19, vars := [0, 1, 4] }
noncomputable def fi20 : FInfo := { fn := Tryd.f20, vars := [0, 2] }
noncomputable def fi21 : FInfo := { fn := Tryd.f21, vars := [0, 2, 3, 4] }
noncomputable def fi22 : FInfo := { fn := Tryd.f22, vars := [0, 1, 2, 3, 8] }
noncomputable def fi23 : FInfo := { fn := Tryd.f23, vars := [0, 1, 4, 5, 6] }
noncomputable def fi24 : FInfo := { fn := Tryd.f24, vars := [0] }
noncomputable def fi25 : FInfo := { fn := Tryd.f25, vars := [0, 1, 2, 3, 4, 5, 7] }
noncomputable def fi26 : FInfo := { fn := Tryd.f26, vars := [0, 1, 4, 5, 10] }
noncomputable def fi27 : FInfo := { fn := Tryd.f27, vars := [0, 1, 2, 4, 6, 7, 8] }
noncomputable def fi28 : FInfo := { fn := Tryd.f28, vars := [0, 1, 2, 3, 4] }
noncomputable def fi29 : FInfo := { fn := Tryd.f29, vars := [0] }
noncomputable def fi30 : FInfo := { fn := Tryd.f30, vars := [0] }
noncomputable def fi31 : FInfo := { fn := Tryd.f31, vars := [0] }
noncomputable def fi32 : FInfo := { fn := Tryd.f32, vars := [0, 1, 2, 3, 4, 5, 6, 8, 9, 10, 11, 12, 13, 24, 25, 36, 37, 38, 85, 86] }
noncomputable def fi33 : FInfo := { fn := Tryd.f33, vars := [0, 1, 2, 3, 4, 5, 6, 7, 8, 9, 10, 12, 31, 32, 43, 44, 45, 92, 93, 94] }
noncomputable def fi34 : FInfo := { fn := Tryd.f34, vars := [0, 1, 2, 3, 4, 5, 6, 7, 8, 9, 10, 11, 12, 14, 34, 35, 36, 59, 60, 61, 85, 86, 87] }
noncomputable def fi35 : FInfo := { fn := Tryd.f35, vars := [0, 1, 2] }
noncomputable def fi36 : FInfo := { fn := Tryd.f36, vars := [0, 1, 2] }
noncomputable def fi37 : FInfo := { fn := Tryd.f37, vars := [0, 1, 2, 3, 4, 5, 21, 22] }
noncomputable def fi38 : FInfo := { fn := Tryd.f38, vars := [0, 1, 2, 3, 4, 6, 7, 8, 9, 11, 12, 16, 17, 18, 69, 70, 71, 113] }
noncomputable def fi39 : FInfo := { fn := Tryd.f39, vars := [0, 3, 4, 5, 10] }
noncomputable def fi40 : FInfo := { fn := Tryd.f40, vars := [0, 1, 2] }
noncomputable def fi41 : FInfo := { fn := Tryd.f41, vars := [0, 1, 2, 3, 4, 5, 6] }
noncomputable def fi42 : FInfo := { fn := Tryd.f42, vars := [0, 1] }
noncomputable def fi43 : FInfo := { fn := Tryd.f43, vars := [0, 1, 3, 4, 5, 6, 7, 23, 24, 25] }
noncomputable def fi44 : FInfo := { fn := Tryd.f44, vars := [0, 1, 3, 4] }
noncomputable def fi45 : FInfo := { fn := Tryd.f45, vars := [0, 1, 2] }
noncomputable def fi46 : FInfo := { fn := Tryd.f46, vars := [0, 1, 2] }
noncomputable def fi47 : FInfo := { fn := Tryd.f47, vars := [0, 1, 2, 4] }
noncomputable def fi48 : FInfo := { fn := Tryd.f48, vars := [0] }
noncomputable def fi49 : FInfo := { fn := Tryd.f49, vars := [0, 1, 2, 3, 4] }
noncomputable def fi50 : FInfo := { fn := Tryd.f50, vars := [0, 1, 4, 5, 7, 8, 10, 11, 12, 13, 17, 18, 19] }
noncomputable def fi51 : FInfo := { fn := Tryd.f51, vars := [0, 1, 2] }
noncomputable def fi52 : FInfo := { fn := Tryd.f52, vars := [0, 1, 2] }
noncomputable def fi53 : FInfo := { fn := Tryd.f53, vars := [0, 1, 2, 4, 5, 6, 9, 10] }
noncomputable def fi54 : FInfo := { fn := Tryd.f54, vars := [0, 1, 2] }
noncomputable def fi55 : FInfo := { fn := Tryd.f55, vars := [0, 1, 3, 4, 5, 7, 8] }
noncomputable def fi56 : FInfo := { fn := Tryd.f56, vars := [0, 1, 2, 3, 4, 5, 6] }
noncomputable def fi57 : FInfo := { fn := Tryd.f57, vars := [0, 1, 2, 3, 4] }
noncomputable def fi58 : FInfo := { fn := Tryd.f58, vars := [0, 1, 2, 3, 4] }
noncomputable def fi59 : FInfo := { fn := Tryd.f59, vars := [0, 1, 2, 3, 5, 35, 36, 37] }
noncomputable def fi60 : FInfo := { fn := Tryd.f60, vars := [0, 1, 2, 3, 4, 6, 23, 24, 25] }
noncomputable def fi61 : FInfo := { fn := Tryd.f61, vars := [0, 1, 2, 4] }
noncomputable def fi62 : FInfo := { fn := Tryd.f62, vars := [0, 1, 2, 4] }
noncomputable def fi63 : FInfo := { fn := Tryd.f63, vars := [0, 1, 2, 5, 7, 8, 9] }
noncomputable def fi64 : FInfo := { fn := Tryd.f64, vars := [0, 2] }
noncomputable def fi65 : FInfo := { fn := Tryd.f65, vars := [0, 1, 2, 4, 5, 6, 9, 10] }
noncomputable def fi66 : FInfo := { fn := Tryd.f66, vars := [0, 1, 2] }
noncomputable def fi67 : FInfo := { fn := Tryd.f67, vars := [0, 1, 2, 4, 5, 6, 9, 10] }
noncomputable def fi68 : FInfo := { fn := Tryd.f68, vars := [0, 1, 2] }
noncomputable def fi69 : FInfo := { fn := Tryd.f69, vars := [0, 1, 2, 3, 4, 6, 8, 18, 19, 20] }
noncomputable def fi87 : FInfo := { fn := Tryd.f87, vars := [0, 2] }
noncomputable def fi88 : FInfo := { fn := Tryd.f88, vars := [0, 2] }
noncomputable def fi89 : FInfo := { fn := Tryd.f89, vars := [0, 2, 3, 4] }
noncomputable def fi90 : FInfo := { fn := Tryd.f90, vars := [0, 2, 3] }
noncomputable def fi91 : FInfo := { fn := Tryd.f91, vars := [0, 2, 3] }
noncomputable def fi98 : FInfo := { fn := Tryd.f98, vars := [] }
def tiT : Tab TI := (.node 64 (.node 32 (.node 16 (.node 8 (.node 4 (.node 2 (.node 1 (.one 0 ti0) (.one 1 ti1)) (.node 3 (.one 2 ti2) (.one 3 ti3))) (.node 6 (.node 5 (.one 4 ti4) (.one 5 ti5)) (.node 7 (.one 6 ti6) (.one 7 ti7)))) (.node 12 (.node 10 (.node 9 (.one 8 ti8) (.one 9 ti9)) (.node 11 (.one 10 ti10) (.one 11 ti11))) (.node 14 (.node 13 (.one 12 ti12) (.one 13 ti13)) (.node 15 (.one 14 ti14) (.one 15 ti15))))) (.node 24 (.node 20 (.node 18 (.node 17 (.one 16 ti16) (.one 17 ti17)) (.node 19 (.one 18 ti18) (.one 19 ti19))) (.node 22 (.node 21 (.one 20 ti20) (.one 21 ti21)) (.node 23 (.one 22 ti22) (.one 23 ti23)))) (.node 28 (.node 26 (.node 25 (.one 24 ti24) (.one 25 ti25)) (.node 27 (.one 26 ti26) (.one 27 ti27))) (.node 30 (.node 29 (.one 28 ti28) (.one 29 ti29)) (.node 31 (.one 30 ti30) (.one 31 ti31)))))) (.node 48 (.node 40 (.node 36 (.node 34 (.node 33 (.one 32 ti32) (.one 33 ti33)) (.node 35 (.one 34 ti34) (.one 35 ti35))) (.node 38 (.node 37 (.one 36 ti36) (.one 37 ti37)) (.node 39 (.one 38 ti38) (.one 39 ti39)))) (.node 44 (.node 42 (.node 41 (.one 40 ti40) (.one 41 ti41)) (.node 43 (.one 42 ti42) (.one 43 ti43))) (.node 46 (.node 45 (.one 44 ti44) (.one 45 ti45)) (.node 47 (.one 46 ti46) (.one 47 ti47))))) (.node 56 (.node 52 (.node 50 (.node 49 (.one 48 ti48) (.one 49 ti49)) (.node 51 (.one 50 ti50) (.one 51 ti51))) (.node 54 (.node 53 (.one 52 ti52) (.one 53 ti53)) (.node 55 (.one 54 ti54) (.one 55 ti55)))) (.node 60 (.node 58 (.node 57 (.one 56 ti56) (.one 57 ti57)) (.node 59 (.one 58 ti58) (.one 59 ti59))) (.node 62 (.node 61 (.one 60 ti60) (.one 61 ti61)) (.node 63 (.one 62 ti62) (.one 63 ti63))))))) (.node 96 (.node 80 (.node 72 (.node 68 (.node 66 (.node 65 (.one 64 ti64) (.one 65 ti65)) (.node 67 (.one 66 ti66) (.one 67 ti67))) (.node 70 (.node 69 (.one 68 ti68) (.one 69 ti69)) (.node 71 (.one 70 ti70) (.one 71 ti71)))) (.node 76 (.node 74 (.node 73 (.one 72 ti72) (.one 73 ti73)) (.node 75 (.one 74 ti74) (.one 75 ti75))) (.node 78 (.node 77 (.one 76 ti76) (.one 77 ti77)) (.node 79 (.one 78 ti78) (.one 79 ti79))))) (.node 88 (.node 84 (.node 82 (.node 81 (.one 80 ti80) (.one 81 ti81)) (.node 83 (.one 82 ti82) (.one 83 ti83))) (.node 86 (.node 85 (.one 84 ti84) (.one 85 ti85)) (.node 87 (.one 86 ti86) (.one 87 ti87)))) (.node 92 (.node 90 (.node 89 (.one 88 ti88) (.one 89 ti89)) (.node 91 (.one 90 ti90) (.one 91 ti91))) (.node 94 (.node 93 (.one 92 ti92) (.one 93 ti93)) (.node 95 (.one 94 ti94) (.one 95 ti95)))))) (.node 112 (.node 104 (.node 100 (.node 98 (.node 97 (.one 96 ti96) (.one 97 ti97)) (.node 99 (.one 98 ti98) (.one 99 ti99))) (.node 102 (.node 101 (.one 100 ti100) (.one 101 ti101)) (.node 103 (.one 102 ti102) (.one 103 ti103)))) (.node 108 (.node 106 (.node 105 (.one 104 ti104) (.one 105 ti105)) (.node 107 (.one 106 ti106) (.one 107 ti107))) (.node 110 (.node 109 (.one 108 ti108) (.one 109 ti109)) (.node 111 (.one 110 ti110) (.one 111 ti111))))) (.node 120 (.node 116 (.node 114 (.node 113 (.one 112 ti112) (.one 113 ti113)) (.node 115 (.one 114 ti114) (.one 115 ti115))) (.node 118 (.node 117 (.one 116 ti116) (.one 117 ti117)) (.node 119 (.one 118 ti118) (.one 119 ti119)))) (.node 124 (.node 122 (.node 121 (.one 120 ti120) (.one 121 ti121)) (.node 123 (.one 122 ti122) (.one 123 ti123))) (.node 126 (.node 125 (.one 124 ti124) (.one 125 ti125)) (.node 127 (.one 126 ti126) (.node 128 .nil (.one 128 ti128)))))))))
noncomputable def fnT : Tab FInfo := (.node 49 (.node 24 (.node 12 (.node 6 (.node 3 (.node 1 .nil (.node 2 .nil (.one 2 fi2))) (.node 4 (.one 3 fi3) (.node 5 (.one 4 fi4) (.one 5 fi5)))) (.node 9 (.node 7 (.one 6 fi6) (.node 8 (.one 7 fi7) (.one 8 fi8))) (.node 10 (.one 9 fi9) (.node 11 (.one 10 fi10) (.one 11 fi11))))) (.node 18 (.node 15 (.node 13 (.one 12 fi12) (.node 14 (.one 13 fi13) (.one 14 fi14))) (.node 16 (.one 15 fi15) (.node 17 (.one 16 fi16) (.one 17 fi17)))) (.node 21 (.node 19 (.one 18 fi18) (.node 20 (.one 19 fi19) (.one 20 fi20))) (.node 22 (.one 21 fi21) (.node 23 (.one 22 fi22) (.one 23 fi23)))))) (.node 36 (.node 30 (.node 27 (.node 25 (.one 24 fi24) (.node 26 (.one 25 fi25) (.one 26 fi26))) (.node 28 (.one 27 fi27) (.node 29 (.one 28 fi28) (.one 29 fi29)))) (.node 33 (.node 31 (.one 30 fi30) (.node 32 (.one 31 fi31) (.one 32 fi32))) (.node 34 (.one 33 fi33) (.node 35 (.one 34 fi34) (.one 35 fi35))))) (.node 42 (.node 39 (.node 37 (.one 36 fi36) (.node 38 (.one 37 fi37) (.one 38 fi38))) (.node 40 (.one 39 fi39) (.node 41 (.one 40 fi40) (.one 41 fi41)))) (.node 45 (.node 43 (.one 42 fi42) (.node 44 (.one 43 fi43) (.one 44 fi44))) (.node 47 (.node 46 (.one 45 fi45) (.one 46 fi46)) (.node 48 (.one 47 fi47) (.one 48 fi48))))))) (.node 74 (.node 61 (.node 55 (.node 52 (.node 50 (.one 49 fi49) (.node 51 (.one 50 fi50) (.one 51 fi51))) (.node 53 (.one 52 fi52) (.node 54 (.one 53 fi53) (.one 54 fi54)))) (.node 58 (.node 56 (.one 55 fi55) (.node 57 (.one 56 fi56) (.one 57 fi57))) (.node 59 (.one 58 fi58) (.node 60 (.one 59 fi59) (.one 60 fi60))))) (.node 67 (.node 64 (.node 62 (.one 61 fi61) (.node 63 (.one 62 fi62) (.one 63 fi63))) (.node 65 (.one 64 fi64) (.node 66 (.one 65 fi65) (.one 66 fi66)))) (.node 70 (.node 68 (.one 67 fi67) (.node 69 (.one 68 fi68) (.one 69 fi69))) (.node 72 (.node 71 .nil .nil) (.node 73 .nil .nil))))) (.node 86 (.node 80 (.node 77 (.node 75 .nil (.node 76 .nil .nil)) (.node 78 .nil (.node 79 .nil .nil))) (.node 83 (.node 81 .nil (.node 82 .nil .nil)) (.node 84 .nil (.node 85 .nil .nil)))) (.node 92 (.node 89 (.node 87 .nil (.node 88 (.one 87 fi87) (.one 88 fi88))) (.node 90 (.one 89 fi89) (.node 91 (.one 90 fi90) (.one 91 fi91)))) (.node 95 (.node 93 .nil (.node 94 .nil .nil)) (.node 97 (.node 96 .nil .nil) (.node 98 .nil (.one 98 fi98))))))))
theorem tiT_ok : tiT.All (TIOk Tryd.prog) := ⟨⟨⟨⟨⟨⟨⟨tiOk0, tiOk1⟩, ⟨tiOk2, tiOk3⟩⟩, ⟨⟨tiOk4, tiOk5⟩, ⟨tiOk6, tiOk7⟩⟩⟩, ⟨⟨⟨tiOk8, tiOk9⟩, ⟨tiOk10, tiOk11⟩⟩, ⟨⟨tiOk12, tiOk13⟩, ⟨tiOk14, tiOk15⟩⟩⟩⟩, ⟨⟨⟨⟨tiOk16, tiOk17⟩, ⟨tiOk18, tiOk19⟩⟩, ⟨⟨tiOk20, tiOk21⟩, ⟨tiOk22, tiOk23⟩⟩⟩, ⟨⟨⟨tiOk24, tiOk25⟩, ⟨tiOk26, tiOk27⟩⟩, ⟨⟨tiOk28, tiOk29⟩, ⟨tiOk30, tiOk31⟩⟩⟩⟩⟩, ⟨⟨⟨⟨⟨tiOk32, tiOk33⟩, ⟨tiOk34, tiOk35⟩⟩, ⟨⟨tiOk36, tiOk37⟩, ⟨tiOk38, tiOk39⟩⟩⟩, ⟨⟨⟨tiOk40, tiOk41⟩, ⟨tiOk42, tiOk43⟩⟩, ⟨⟨tiOk44, tiOk45⟩, ⟨tiOk46, tiOk47⟩⟩⟩⟩, ⟨⟨⟨⟨tiOk48, tiOk49⟩, ⟨tiOk50, tiOk51⟩⟩, ⟨⟨tiOk52, tiOk53⟩, ⟨tiOk54, tiOk55⟩⟩⟩, ⟨⟨⟨tiOk56, tiOk57⟩, ⟨tiOk58, tiOk59⟩⟩, ⟨⟨tiOk60, tiOk61⟩, ⟨tiOk62, tiOk63⟩⟩⟩⟩⟩⟩, ⟨⟨⟨⟨⟨⟨tiOk64, tiOk65⟩, ⟨tiOk66, tiOk67⟩⟩, ⟨⟨tiOk68, tiOk69⟩, ⟨tiOk70, tiOk71⟩⟩⟩, ⟨⟨⟨tiOk72, tiOk73⟩, ⟨tiOk74, tiOk75⟩⟩, ⟨⟨tiOk76, tiOk77⟩, ⟨tiOk78, tiOk79⟩⟩⟩⟩, ⟨⟨⟨⟨tiOk80, tiOk81⟩, ⟨tiOk82, tiOk83⟩⟩, ⟨⟨tiOk84, tiOk85⟩, ⟨tiOk86, tiOk87⟩⟩⟩, ⟨⟨⟨tiOk88, tiOk89⟩, ⟨tiOk90, tiOk91⟩⟩, ⟨⟨tiOk92, tiOk93⟩, ⟨tiOk94, tiOk95⟩⟩⟩⟩⟩, ⟨⟨⟨⟨⟨tiOk96, tiOk97⟩, ⟨tiOk98, tiOk99⟩⟩, ⟨⟨tiOk100, tiOk101⟩, ⟨tiOk102, tiOk103⟩⟩⟩, ⟨⟨⟨tiOk104, tiOk105⟩, ⟨tiOk106, tiOk107⟩⟩, ⟨⟨tiOk108, tiOk109⟩, ⟨tiOk110, tiOk111⟩⟩⟩⟩, ⟨⟨⟨⟨tiOk112, tiOk113⟩, ⟨tiOk114, tiOk115⟩⟩, ⟨⟨tiOk116, tiOk117⟩, ⟨tiOk118, tiOk119⟩⟩⟩, ⟨⟨⟨tiOk120, tiOk121⟩, ⟨tiOk122, tiOk123⟩⟩, ⟨⟨tiOk124, tiOk125⟩, ⟨tiOk126, ⟨trivial, tiOk128⟩⟩⟩⟩⟩⟩⟩⟩
theorem fnT_ok : fnT.All (fun f fi => Tryd.prog.funcs[f]? = some fi.fn ∧ (fi.fn.name == "runtime.NumGoroutine") = false) := ⟨⟨⟨⟨⟨⟨trivial, ⟨trivial, ⟨Tryd.func2, by kernel_rfl⟩⟩⟩, ⟨⟨Tryd.func3, by kernel_rfl⟩, ⟨⟨Tryd.func4, by kernel_rfl⟩, ⟨Tryd.func5, by kernel_rfl⟩⟩⟩⟩, ⟨⟨⟨Tryd.func6, by kernel_rfl⟩, ⟨⟨Tryd.func7, by kernel_rfl⟩, ⟨Tryd.func8, by kernel_rfl⟩⟩⟩, ⟨⟨Tryd.func9, by kernel_rfl⟩, ⟨⟨Tryd.func10, by kernel_rfl⟩, ⟨Tryd.func11, by kernel_rfl⟩⟩⟩⟩⟩, ⟨⟨⟨⟨Tryd.func12, by kernel_rfl⟩, ⟨⟨Tryd.func13, by kernel_rfl⟩, ⟨Tryd.func14, by kernel_rfl⟩⟩⟩, ⟨⟨Tryd.func15, by kernel_rfl⟩, ⟨⟨Tryd.func16, by kernel_rfl⟩, ⟨Tryd.func17, by kernel_rfl⟩⟩⟩⟩, ⟨⟨⟨Tryd.func18, by kernel_rfl⟩, ⟨⟨Tryd.func19, by kernel_rfl⟩, ⟨Tryd.func20, by kernel_rfl⟩⟩⟩, ⟨⟨Tryd.func21, by kernel_rfl⟩, ⟨⟨Tryd.func22, by kernel_rfl⟩, ⟨Tryd.func23, by kernel_rfl⟩⟩⟩⟩⟩⟩, ⟨⟨⟨⟨⟨Tryd.func24, by kernel_rfl⟩, ⟨⟨Tryd.func25, by kernel_rfl⟩, ⟨Tryd.func26, by kernel_rfl⟩⟩⟩, ⟨⟨Tryd.func27, by kernel_rfl⟩, ⟨⟨Tryd.func28, by kernel_rfl⟩, ⟨Tryd.func29, by kernel_rfl⟩⟩⟩⟩, ⟨⟨⟨Tryd.func30, by kernel_rfl⟩, ⟨⟨Tryd.func31, by kernel_rfl⟩, ⟨Tryd.func32, by kernel_rfl⟩⟩⟩, ⟨⟨Tryd.func33, by kernel_rfl⟩, ⟨⟨Tryd.func34, by kernel_rfl⟩, ⟨Tryd.func35, by kernel_rfl⟩⟩⟩⟩⟩, ⟨⟨⟨⟨Tryd.func36, by kernel_rfl⟩, ⟨⟨Tryd.func37, by kernel_rfl⟩, ⟨Tryd.func38, by kernel_rfl⟩⟩⟩, ⟨⟨Tryd.func39, by kernel_rfl⟩, ⟨⟨Tryd.func40, by kernel_rfl⟩, ⟨Tryd.func41, by kernel_rfl⟩⟩⟩⟩, ⟨⟨⟨Tryd.func42, by kernel_rfl⟩, ⟨⟨Tryd.func43, by kernel_rfl⟩, ⟨Tryd.func44, by kernel_rfl⟩⟩⟩, ⟨⟨⟨Tryd.func45, by kernel_rfl⟩, ⟨Tryd.func46, by kernel_rfl⟩⟩, ⟨⟨Tryd.func47, by kernel_rfl⟩, ⟨Tryd.func48, by kernel_rfl⟩⟩⟩⟩⟩⟩⟩, ⟨⟨⟨⟨⟨⟨Tryd.func49, by kernel_rfl⟩, ⟨⟨Tryd.func50, by kernel_rfl⟩, ⟨Tryd.func51, by kernel_rfl⟩⟩⟩, ⟨⟨Tryd.func52, by kernel_rfl⟩, ⟨⟨Tryd.func53, by kernel_rfl⟩, ⟨Tryd.func54, by kernel_rfl⟩⟩⟩⟩, ⟨⟨⟨Tryd.func55, by kernel_rfl⟩, ⟨⟨Tryd.func56, by kernel_rfl⟩, ⟨Tryd.func57, by kernel_rfl⟩⟩⟩, ⟨⟨Tryd.func58, by kernel_rfl⟩, ⟨⟨Tryd.func59, by kernel_rfl⟩, ⟨Tryd.func60, by kernel_rfl⟩⟩⟩⟩⟩, ⟨⟨⟨⟨Tryd.func61, by kernel_rfl⟩, ⟨⟨Tryd.func62, by kernel_rfl⟩, ⟨Tryd.func63, by kernel_rfl⟩⟩⟩, ⟨⟨Tryd.func64, by kernel_rfl⟩, ⟨⟨Tryd.func65, by kernel_rfl⟩, ⟨Tryd.func66, by kernel_rfl⟩⟩⟩⟩, ⟨⟨⟨Tryd.func67, by kernel_rfl⟩, ⟨⟨Tryd.func68, by kernel_rfl⟩, ⟨Tryd.func69, by kernel_rfl⟩⟩⟩, ⟨⟨trivial, trivial⟩, ⟨trivial, trivial⟩⟩⟩⟩⟩, ⟨⟨⟨⟨trivial, ⟨trivial, trivial⟩⟩, ⟨trivial, ⟨trivial, trivial⟩⟩⟩, ⟨⟨trivial, ⟨trivial, trivial⟩⟩, ⟨trivial, ⟨trivial, trivial⟩⟩⟩⟩, ⟨⟨⟨trivial, ⟨⟨Tryd.func87, by kernel_rfl⟩, ⟨Tryd.func88, by kernel_rfl⟩⟩⟩, ⟨⟨Tryd.func89, by kernel_rfl⟩, ⟨⟨Tryd.func90, by kernel_rfl⟩, ⟨Tryd.func91, by kernel_rfl⟩⟩⟩⟩, ⟨⟨trivial, ⟨trivial, trivial⟩⟩, ⟨⟨trivial, trivial⟩, ⟨trivial, ⟨Tryd.func98, by kernel_rfl⟩⟩⟩⟩⟩⟩⟩⟩
theorem envOk (glob : Nat → Option (List AV)) : EnvOk Tryd.prog { ti := tiT.look, fn := fnT.look, glob } := envOk_of tiT_ok fnT_ok (by kernel_rfl) (by kernel_rfl)
end Go.Vm.T
