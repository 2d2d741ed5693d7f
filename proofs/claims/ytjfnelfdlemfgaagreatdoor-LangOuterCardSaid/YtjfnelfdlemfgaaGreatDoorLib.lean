/-
The seat's surroundings, and what is known of the library's functions. No conditions.
-/
import Derived.Test.YtjfnelfdlemfgaaGreatDoorTab
import Derived.Lib.Replace
import Derived.Lib.Join
import Derived.Lib.Bytealg
import Derived.Lib.SlTrimSet
import Derived.Lib.ItoaNum
import Derived.Shelf.Strings.Builder1
import Derived.Shelf.Strings.Builder2
import Derived.Shelf.Strings.OnBuilder
import Derived.Shelf.Strings.Replace
import Derived.Shelf.Strings.AsciiSet
import Derived.Shelf.Strings.SlTrimAscii
import Derived.Shelf.LaysM
import Derived.Shelf.Strconv.Itoa3
import Derived.Shelf.Sort.Plain
import Derived.Shelf.Slices.In.SortNone
import Derived.Test.YtjfnelfdlemfgaaGreatDoorProg
import Derived.Sort.Grow
import Derived.KernelRfl
import Derived.Laws.Externs
set_option linter.all false
set_option maxHeartbeats 4000000
namespace Go.Vm.L
open Go Go.Proofs Go.Vm
set_option maxRecDepth 100000
def ints (l : List Int) : List AV := l.map fun n => .int .i64 n
def gLevels : List Int := [4, 4, 5, 5, 5, 1, 1, 7, 7, 3, 2, 2]
def gWords : List (List UInt8) := [[43], [45], [42], [47], [37], [60], [61, 61], [109, 105, 110], [109, 97, 120], [38], [124], [94]]
def gKeys : List Int := [9, 10, 11, 12, 19, 20, 24, 25, 26]
def gVals : List (List UInt8) := [[102, 115, 116], [115, 110, 100], [108, 101, 102, 116], [114, 105, 103, 104, 116], [105, 111, 116, 97], [108, 101, 110], [102, 108, 97, 116], [110, 101, 115, 116], [112, 117, 116]]
def gSpace : List AV := [.int .u8 0, .int .u8 0, .int .u8 0, .int .u8 0, .int .u8 0, .int .u8 0, .int .u8 0, .int .u8 0, .int .u8 0, .int .u8 1, .int .u8 1, .int .u8 1, .int .u8 1, .int .u8 1, .int .u8 0, .int .u8 0, .int .u8 0, .int .u8 0, .int .u8 0, .int .u8 0, .int .u8 0, .int .u8 0, .int .u8 0, .int .u8 0, .int .u8 0, .int .u8 0, .int .u8 0, .int .u8 0, .int .u8 0, .int .u8 0, .int .u8 0, .int .u8 0, .int .u8 1, .int .u8 0, .int .u8 0, .int .u8 0, .int .u8 0, .int .u8 0, .int .u8 0, .int .u8 0, .int .u8 0, .int .u8 0, .int .u8 0, .int .u8 0, .int .u8 0, .int .u8 0, .int .u8 0, .int .u8 0, .int .u8 0, .int .u8 0, .int .u8 0, .int .u8 0, .int .u8 0, .int .u8 0, .int .u8 0, .int .u8 0, .int .u8 0, .int .u8 0, .int .u8 0, .int .u8 0, .int .u8 0, .int .u8 0, .int .u8 0, .int .u8 0, .int .u8 0, .int .u8 0, .int .u8 0, .int .u8 0, .int .u8 0, .int .u8 0, .int .u8 0, .int .u8 0, .int .u8 0, .int .u8 0, .int .u8 0, .int .u8 0, .int .u8 0, .int .u8 0, .int .u8 0, .int .u8 0, .int .u8 0, .int .u8 0, .int .u8 0, .int .u8 0, .int .u8 0, .int .u8 0, .int .u8 0, .int .u8 0, .int .u8 0, .int .u8 0, .int .u8 0, .int .u8 0, .int .u8 0, .int .u8 0, .int .u8 0, .int .u8 0, .int .u8 0, .int .u8 0, .int .u8 0, .int .u8 0, .int .u8 0, .int .u8 0, .int .u8 0, .int .u8 0, .int .u8 0, .int .u8 0, .int .u8 0, .int .u8 0, .int .u8 0, .int .u8 0, .int .u8 0, .int .u8 0, .int .u8 0, .int .u8 0, .int .u8 0, .int .u8 0, .int .u8 0, .int .u8 0, .int .u8 0, .int .u8 0, .int .u8 0, .int .u8 0, .int .u8 0, .int .u8 0, .int .u8 0, .int .u8 0, .int .u8 0, .int .u8 0, .int .u8 0, .int .u8 0, .int .u8 0, .int .u8 0, .int .u8 0, .int .u8 0, .int .u8 0, .int .u8 0, .int .u8 0, .int .u8 0, .int .u8 0, .int .u8 0, .int .u8 0, .int .u8 0, .int .u8 0, .int .u8 0, .int .u8 0, .int .u8 0, .int .u8 0, .int .u8 0, .int .u8 0, .int .u8 0, .int .u8 0, .int .u8 0, .int .u8 0, .int .u8 0, .int .u8 0, .int .u8 0, .int .u8 0, .int .u8 0, .int .u8 0, .int .u8 0, .int .u8 0, .int .u8 0, .int .u8 0, .int .u8 0, .int .u8 0, .int .u8 0, .int .u8 0, .int .u8 0, .int .u8 0, .int .u8 0, .int .u8 0, .int .u8 0, .int .u8 0, .int .u8 0, .int .u8 0, .int .u8 0, .int .u8 0, .int .u8 0, .int .u8 0, .int .u8 0, .int .u8 0, .int .u8 0, .int .u8 0, .int .u8 0, .int .u8 0, .int .u8 0, .int .u8 0, .int .u8 0, .int .u8 0, .int .u8 0, .int .u8 0, .int .u8 0, .int .u8 0, .int .u8 0, .int .u8 0, .int .u8 0, .int .u8 0, .int .u8 0, .int .u8 0, .int .u8 0, .int .u8 0, .int .u8 0, .int .u8 0, .int .u8 0, .int .u8 0, .int .u8 0, .int .u8 0, .int .u8 0, .int .u8 0, .int .u8 0, .int .u8 0, .int .u8 0, .int .u8 0, .int .u8 0, .int .u8 0, .int .u8 0, .int .u8 0, .int .u8 0, .int .u8 0, .int .u8 0, .int .u8 0, .int .u8 0, .int .u8 0, .int .u8 0, .int .u8 0, .int .u8 0, .int .u8 0, .int .u8 0, .int .u8 0, .int .u8 0, .int .u8 0, .int .u8 0, .int .u8 0, .int .u8 0, .int .u8 0, .int .u8 0, .int .u8 0, .int .u8 0, .int .u8 0, .int .u8 0, .int .u8 0, .int .u8 0, .int .u8 0, .int .u8 0, .int .u8 0, .int .u8 0, .int .u8 0, .int .u8 0, .int .u8 0, .int .u8 0, .int .u8 0, .int .u8 0, .int .u8 0, .int .u8 0, .int .u8 0, .int .u8 0]
def gl (g : Nat) : Option (List AV) := match g with
 | 0 => some (ints gLevels)
 | 2 => some gSpace
 | 7 => some (gWords.map .str)
 | 10 => some [.rmap (ints gKeys) (gVals.map .str)]
 | _ => none
def mt (t : TypeId) (nm : String) : Option FuncId :=
 if t = 124 then (if nm = "sheafworks/lang.level" then some 290 else if nm = "sheafworks/lang.string" then some 291 else none)
 else if t = 126 then (if nm = "sheafworks/lang.level" then some 296 else if nm = "sheafworks/lang.string" then some 297 else none)
 else none
def strsOf : List AV → Option (List (List UInt8))
 | [] => some []
 | .str l :: es => match strsOf es with
  | some r => some (l :: r)
  | none => none
 | _ :: _ => none
def libReplace : List AV → Option AV
 | [.str s, .str o, .str nw, .int .i64 n] =>
  if s.length < 4294967281 ∧ 1 ≤ o.length ∧ s.length + Lib.count s o * nw.length ≤ 140737488355328 then some (.str (Lib.replace s o nw n)) else none
 | _ => none
def libJoin : List AV → Option AV
 | [.slice es _, .str sep] =>
  match strsOf es with
  | some ls => if ls.length ≤ 140737488355328 ∧ (Lib.join ls sep).length ≤ 140737488355328 then some (.str (Lib.join ls sep)) else none
  | none => none
 | [.nils, .str _] => some (.str [])
 | _ => none
def setL (l : List UInt8) : Nat → Nat → List AV
 | 0, _ => []
 | n + 1, k => .bool (l.any fun b => Nat.beq b.toNat k) :: setL l n (k + 1)
def libSet : List AV → Option AV
 | [.str l] => if l.length < 4294967281 ∧ (l.all fun b => Nat.blt b.toNat 128) = true then some (.tup [.agg (setL l 256 0), .bool true]) else none
 | _ => none
def libTrim : List AV → Option AV
 | [.str s, .str c] => if s.length ≤ 9223372036854775807 ∧ c.length < 4294967281 ∧ (c.all fun b => Nat.blt b.toNat 128) = true then some (.str (Lib.trimS s c)) else none
 | _ => none
def libItoa : List AV → Option AV
 | [.int .i64 n] => if -9223372036854775808 ≤ n ∧ n ≤ 9223372036854775807 then some (.str (Lib.itoa n)) else none
 | _ => none
def libF (f : FuncId) : Option (List AV → Option AV) :=
 if f = 79 then some libSet else if f = 84 then some libReplace else if f = 295 then some libJoin else if f = 41 then some libTrim else if f = 98 then some libItoa else none
def extIB : List AV → Option AV
 | [.str s, .int .u8 c] => some (.int .i64 (Lib.indexByte s c.toNat.toUInt8))
 | _ => none
def extF (f : FuncId) : Option (List AV → Option AV) := if f = 178 then some extIB else none
def numsOf : List AV → Option (List Int)
 | [] => some []
 | .int .i64 n :: es => match numsOf es with
  | some r => some (n :: r)
  | none => none
 | _ :: _ => none
/-- slices.Sort of a slice that is an object -/
def sortS : St → List AV → Option (Option (Nat × List AV))
 | _, [.nils] => some none
 | S, [.rsl id 0 len _] => match S.cells? id with
  | some cs => match numsOf cs with
   | some zs => if len = zs.length ∧ len ≠ 0 ∧ len ≤ 1000000000 then some (some (id, (zs.mergeSort fun x y => decide (x ≤ y)).map fun n => .int .i64 n)) else none
   | none => none
  | none => none
 | _, _ => none
def libSF (f : FuncId) : Option (St → List AV → Option (Option (Nat × List AV))) := if f = 105 then some sortS else none
def ownT (e : TypeId) : Bool := Nat.beq e 3
noncomputable def ED : Env := { ti := tiT.look, fn := fnT.look, glob := gl, mth := mt, ext := extF, lib := libF, libS := libSF, own := ownT }
end Go.Vm.L
namespace Go.Proofs
open Go.Shelf
def Tryz.lays156_ren : Go.Shelf.Ren := ⟨fun | 156 => 295 | 165 => 133 | 166 => 134 | 169 => 135 | 240 => 184 | 241 => 185 | 276 => 221 | 277 => 222 | n => n, fun | 31 => 47 | 9 => 9 | 3 => 3 | 4 => 4 | 0 => 0 | 20 => 20 | 72 => 190 | 76 => 194 | 70 => 187 | 37 => 188 | 75 => 193 | 127 => 237 | 164 => 263 | 5 => 5 | 80 => 83 | n => n, fun | n => n⟩
theorem Tryz.lays156 : Go.Proofs.Lays.n156 Tryz.prog Tryz.lays156_ren := {
 mixed := by kernel_rfl
 f156 := Tryz.func295.trans (congrArg some (by kernel_rfl))
 f165 := Tryz.func133.trans (congrArg some (by kernel_rfl))
 f166 := Tryz.func134.trans (congrArg some (by kernel_rfl))
 f169 := Tryz.func135.trans (congrArg some (by kernel_rfl))
 f240 := Tryz.func184.trans (congrArg some (by kernel_rfl))
 f241 := Tryz.func185.trans (congrArg some (by kernel_rfl))
 f276 := Tryz.func221.trans (congrArg some (by kernel_rfl))
 f277 := Tryz.func222.trans (congrArg some (by kernel_rfl))
 t0 := Tryz.underlying0
 a0 := Tryz.isAgg0
 z0 := Tryz.sizeOf0
 v0 := Tryz.zeroValue0
 t3 := Tryz.underlying3
 a3 := Tryz.isAgg3
 z3 := Tryz.sizeOf3
 v3 := Tryz.zeroValue3
 t4 := Tryz.underlying4
 a4 := Tryz.isAgg4
 z4 := Tryz.sizeOf4
 v4 := Tryz.zeroValue4
 t9 := Tryz.underlying9
 a9 := Tryz.isAgg9
 z9 := Tryz.sizeOf9
 v9 := Tryz.zeroValue9
 t20 := Tryz.underlying20
 a20 := Tryz.isAgg20
 z20 := Tryz.sizeOf20
 v20 := Tryz.zeroValue20
 t31 := Tryz.underlying47
 a31 := Tryz.isAgg47
 z31 := Tryz.sizeOf47
 v31 := Tryz.zeroValue47
 t37 := Tryz.underlying188
 a37 := Tryz.isAgg188
 z37 := Tryz.sizeOf188
 v37 := Tryz.zeroValue188
 t70 := Tryz.underlying187
 a70 := Tryz.isAgg187
 z70 := Tryz.sizeOf187
 v70 := Tryz.zeroValue187
 t72 := Tryz.underlying190
 a72 := Tryz.isAgg190
 z72 := Tryz.sizeOf190
 v72 := Tryz.zeroValue190
 t75 := Tryz.underlying193
 a75 := Tryz.isAgg193
 z75 := Tryz.sizeOf193
 v75 := Tryz.zeroValue193
 t76 := Tryz.underlying194
 a76 := Tryz.isAgg194
 z76 := Tryz.sizeOf194
 v76 := Tryz.zeroValue194
 t127 := Tryz.underlying237
 a127 := Tryz.isAgg237
 z127 := Tryz.sizeOf237
 v127 := Tryz.zeroValue237
 t164 := Tryz.underlying263
 a164 := Tryz.isAgg263
 z164 := Tryz.sizeOf263
 v164 := Tryz.zeroValue263 }
theorem Tryz.Builder_Extra_156 : Builder.Extra Tryz.prog Tryz.lays156_ren := {
 sizeBuilder := by kernel_rfl
 liesBuilder := by kernel_rfl
 t5 := Tryz.underlying5
 a5 := Tryz.isAgg5
 z5 := Tryz.sizeOf5
 v5 := Tryz.zeroValue5
 infoByte := by kernel_rfl
 cellsByte := by kernel_rfl
 sizeByte := by kernel_rfl
 neB5 := by decide }
open Go.RowKit in
theorem Tryz.strings_Join_none (a : Option Addr) (c : Nat) (sep : ByteArray) (w : World) :
  Calls Tryz.prog 295 #[.slice a 0 c, .string sep] w fun e w' => e = .returned (.string ⟨#[]⟩) ∧ w' = w := Any.strings_Join_none Tryz.lays156 Tryz.Builder_Extra_156 a c sep w
open Go.RowKit in
theorem Tryz.strings_Join (bk o c : Nat) (xs : List ByteArray) (sep : ByteArray) (w : World) (hcells : ∀ (j : Nat) x, xs[j]? = some x → w.cell? ⟨bk, o + j, none⟩ = some (.string x)) (hbk : bk < w.heap.size) (hN : xs.length ≤ 140737488355328) (hcap : xs.length ≤ c) (hlen : (Lib.join (xs.map (·.data.toList)) sep.data.toList).length ≤ 140737488355328) :
  Calls Tryz.prog 295 #[.slice (some ⟨bk, o, none⟩) xs.length c, .string sep] w fun e w' => e = .returned (.string ⟨(Lib.join (xs.map (·.data.toList)) sep.data.toList).toArray⟩) ∧ Below w.heap.size w w' := Any.strings_Join Tryz.lays156 Tryz.Builder_Extra_156 bk o c xs sep w hcells hbk hN hcap hlen
def Tryz.lays154_ren : Go.Shelf.Ren := ⟨fun | 154 => 84 | 138 => 33 | 165 => 133 | 143 => 34 | 166 => 134 | 197 => 130 | 169 => 135 | 195 => 68 | 218 => 69 | 240 => 184 | 241 => 185 | 219 => 70 | 260 => 181 | 276 => 221 | 277 => 222 | 217 => 122 | 225 => 123 | 224 => 124 | 267 => 125 | 266 => 178 | 314 => 179 | n => n, fun | 9 => 9 | 3 => 3 | 4 => 4 | 72 => 190 | 0 => 0 | 76 => 194 | 105 => 184 | 21 => 21 | 5 => 5 | 70 => 187 | 20 => 20 | 37 => 188 | 75 => 193 | 127 => 237 | 164 => 263 | 46 => 183 | 119 => 250 | 139 => 262 | 138 => 261 | 146 => 234 | 51 => 233 | 80 => 83 | n => n, fun | 1 => 1 | 3 => 3 | 4 => 4 | n => n⟩
theorem Tryz.lays154 : Go.Proofs.Lays.n154 Tryz.prog Tryz.lays154_ren := {
 mixed := by kernel_rfl
 f138 := Tryz.func33.trans (congrArg some (by kernel_rfl))
 f143 := Tryz.func34.trans (congrArg some (by kernel_rfl))
 f154 := Tryz.func84.trans (congrArg some (by kernel_rfl))
 f165 := Tryz.func133.trans (congrArg some (by kernel_rfl))
 f166 := Tryz.func134.trans (congrArg some (by kernel_rfl))
 f169 := Tryz.func135.trans (congrArg some (by kernel_rfl))
 f195 := Tryz.func68.trans (congrArg some (by kernel_rfl))
 f197 := Tryz.func130.trans (congrArg some (by kernel_rfl))
 f217 := Tryz.func122.trans (congrArg some (by kernel_rfl))
 f218 := Tryz.func69.trans (congrArg some (by kernel_rfl))
 f219 := Tryz.func70.trans (congrArg some (by kernel_rfl))
 f224 := Tryz.func124.trans (congrArg some (by kernel_rfl))
 f225 := Tryz.func123.trans (congrArg some (by kernel_rfl))
 f240 := Tryz.func184.trans (congrArg some (by kernel_rfl))
 f241 := Tryz.func185.trans (congrArg some (by kernel_rfl))
 f260 := Tryz.func181.trans (congrArg some (by kernel_rfl))
 f266 := Tryz.func178.trans (congrArg some (by kernel_rfl))
 f267 := Tryz.func125.trans (congrArg some (by kernel_rfl))
 f276 := Tryz.func221.trans (congrArg some (by kernel_rfl))
 f277 := Tryz.func222.trans (congrArg some (by kernel_rfl))
 f314 := Tryz.func179.trans (congrArg some (by kernel_rfl))
 t0 := Tryz.underlying0
 a0 := Tryz.isAgg0
 z0 := Tryz.sizeOf0
 v0 := Tryz.zeroValue0
 t3 := Tryz.underlying3
 a3 := Tryz.isAgg3
 z3 := Tryz.sizeOf3
 v3 := Tryz.zeroValue3
 t4 := Tryz.underlying4
 a4 := Tryz.isAgg4
 z4 := Tryz.sizeOf4
 v4 := Tryz.zeroValue4
 t5 := Tryz.underlying5
 a5 := Tryz.isAgg5
 z5 := Tryz.sizeOf5
 v5 := Tryz.zeroValue5
 t9 := Tryz.underlying9
 a9 := Tryz.isAgg9
 z9 := Tryz.sizeOf9
 v9 := Tryz.zeroValue9
 t20 := Tryz.underlying20
 a20 := Tryz.isAgg20
 z20 := Tryz.sizeOf20
 v20 := Tryz.zeroValue20
 t21 := Tryz.underlying21
 a21 := Tryz.isAgg21
 z21 := Tryz.sizeOf21
 v21 := Tryz.zeroValue21
 t37 := Tryz.underlying188
 a37 := Tryz.isAgg188
 z37 := Tryz.sizeOf188
 v37 := Tryz.zeroValue188
 t46 := Tryz.underlying183
 a46 := Tryz.isAgg183
 z46 := Tryz.sizeOf183
 v46 := Tryz.zeroValue183
 t51 := Tryz.underlying233
 a51 := Tryz.isAgg233
 z51 := Tryz.sizeOf233
 v51 := Tryz.zeroValue233
 t70 := Tryz.underlying187
 a70 := Tryz.isAgg187
 z70 := Tryz.sizeOf187
 v70 := Tryz.zeroValue187
 t72 := Tryz.underlying190
 a72 := Tryz.isAgg190
 z72 := Tryz.sizeOf190
 v72 := Tryz.zeroValue190
 t75 := Tryz.underlying193
 a75 := Tryz.isAgg193
 z75 := Tryz.sizeOf193
 v75 := Tryz.zeroValue193
 t76 := Tryz.underlying194
 a76 := Tryz.isAgg194
 z76 := Tryz.sizeOf194
 v76 := Tryz.zeroValue194
 t105 := Tryz.underlying184
 a105 := Tryz.isAgg184
 z105 := Tryz.sizeOf184
 v105 := Tryz.zeroValue184
 t119 := Tryz.underlying250
 a119 := Tryz.isAgg250
 z119 := Tryz.sizeOf250
 t127 := Tryz.underlying237
 a127 := Tryz.isAgg237
 z127 := Tryz.sizeOf237
 v127 := Tryz.zeroValue237
 t138 := Tryz.underlying261
 a138 := Tryz.isAgg261
 z138 := Tryz.sizeOf261
 v138 := Tryz.zeroValue261
 t139 := Tryz.underlying262
 a139 := Tryz.isAgg262
 z139 := Tryz.sizeOf262
 v139 := Tryz.zeroValue262
 t146 := Tryz.underlying234
 a146 := Tryz.isAgg234
 z146 := Tryz.sizeOf234
 v146 := Tryz.zeroValue234
 t164 := Tryz.underlying263
 a164 := Tryz.isAgg263
 z164 := Tryz.sizeOf263
 v164 := Tryz.zeroValue263
 g1 := by kernel_rfl
 g3 := by kernel_rfl
 g4 := by kernel_rfl }
theorem Tryz.Builder_Extra_154 : Builder.Extra Tryz.prog Tryz.lays154_ren := {
 sizeBuilder := by kernel_rfl
 liesBuilder := by kernel_rfl
 t5 := Tryz.underlying5
 a5 := Tryz.isAgg5
 z5 := Tryz.sizeOf5
 v5 := Tryz.zeroValue5
 infoByte := by kernel_rfl
 cellsByte := by kernel_rfl
 sizeByte := by kernel_rfl
 neB5 := by decide }
open Go.RowKit Go.Lib in
theorem Tryz.strings_Replace (s old new : ByteArray) (n : Int) (m : Int) (w : World) (hs : s.size < 4294967281) (hm : w.cell? ⟨1, 0, none⟩ = some (.int .i64 m)) (h1 : 1 ≤ old.size) (hlen : s.size + Lib.countB s old * new.size ≤ 140737488355328) :
  Calls Tryz.prog 84 #[.string s, .string old, .string new, .int .i64 n] w fun e w' =>
   e = .returned (.string ⟨(Lib.replace s.data.toList old.data.toList new.data.toList n).toArray⟩) ∧ Below w.heap.size w w' := Any.strings_Replace Tryz.lays154 Tryz.Builder_Extra_154 s old new n m w hs hm h1 hlen
def Tryz.lays227_ren : Go.Shelf.Ren := ⟨fun | 227 => 79 | n => n, fun | 9 => 9 | 116 => 108 | 4 => 4 | 0 => 0 | 3 => 3 | 5 => 5 | n => n, fun | n => n⟩
theorem Tryz.lays227 : Go.Proofs.Lays.n227 Tryz.prog Tryz.lays227_ren := {
 mixed := by kernel_rfl
 f227 := Tryz.func79.trans (congrArg some (by kernel_rfl))
 t0 := Tryz.underlying0
 a0 := Tryz.isAgg0
 z0 := Tryz.sizeOf0
 v0 := Tryz.zeroValue0
 t3 := Tryz.underlying3
 a3 := Tryz.isAgg3
 z3 := Tryz.sizeOf3
 v3 := Tryz.zeroValue3
 t4 := Tryz.underlying4
 a4 := Tryz.isAgg4
 z4 := Tryz.sizeOf4
 v4 := Tryz.zeroValue4
 t5 := Tryz.underlying5
 a5 := Tryz.isAgg5
 z5 := Tryz.sizeOf5
 v5 := Tryz.zeroValue5
 t9 := Tryz.underlying9
 a9 := Tryz.isAgg9
 z9 := Tryz.sizeOf9
 v9 := Tryz.zeroValue9
 t116 := Tryz.underlying108
 a116 := Tryz.isAgg108
 z116 := Tryz.sizeOf108 }
open Go.RowKit Go.Lib in
theorem Tryz.strings_makeASCIISet (hv116 : ∀ w, (zeroValue 108).run Tryz.prog w = .ok (.agg (Array.replicate 256 (.bool false))) w) (chars : ByteArray) (w : World) (hs : chars.size < 4294967281) (hascii : ∀ (j : Nat) b, chars.data.toList[j]? = some b → b.toNat < 128) :
  Calls Tryz.prog 79 #[.string chars] w fun e w' => e = .returned (.tuple #[.agg (Lib.setCells chars.data.toList), .bool true]) ∧ w' = w.alloc (.cells (Lib.setCells chars.data.toList) 108) := Any.strings_makeASCIISet Tryz.lays227 hv116 (by kernel_rfl) chars w hs hascii
def Tryz.lays160_ren : Go.Shelf.Ren := ⟨fun | 160 => 41 | 232 => 78 | 231 => 77 | 227 => 79 | 234 => 81 | 233 => 80 | 236 => 83 | 235 => 82 | 228 => 129 | 271 => 132 | 151 => 131 | 197 => 130 | 120 => 183 | 152 => 182 | 260 => 181 | 137 => 219 | 119 => 220 | 224 => 124 | 225 => 123 | 217 => 122 | 266 => 178 | n => n, fun | 9 => 9 | 4 => 4 | 3 => 3 | 5 => 5 | 117 => 109 | 116 => 108 | 0 => 0 | 124 => 112 | 21 => 21 | 105 => 184 | 46 => 183 | 119 => 250 | 139 => 262 | 138 => 261 | n => n, fun | 3 => 3 | 4 => 4 | n => n⟩
theorem Tryz.lays160 : Go.Proofs.Lays.n160 Tryz.prog Tryz.lays160_ren := {
 mixed := by kernel_rfl
 f119 := Tryz.func220.trans (congrArg some (by kernel_rfl))
 f120 := Tryz.func183.trans (congrArg some (by kernel_rfl))
 f137 := Tryz.func219.trans (congrArg some (by kernel_rfl))
 f151 := Tryz.func131.trans (congrArg some (by kernel_rfl))
 f152 := Tryz.func182.trans (congrArg some (by kernel_rfl))
 f160 := Tryz.func41.trans (congrArg some (by kernel_rfl))
 f197 := Tryz.func130.trans (congrArg some (by kernel_rfl))
 f217 := Tryz.func122.trans (congrArg some (by kernel_rfl))
 f224 := Tryz.func124.trans (congrArg some (by kernel_rfl))
 f225 := Tryz.func123.trans (congrArg some (by kernel_rfl))
 f227 := Tryz.func79.trans (congrArg some (by kernel_rfl))
 f228 := Tryz.func129.trans (congrArg some (by kernel_rfl))
 f231 := Tryz.func77.trans (congrArg some (by kernel_rfl))
 f232 := Tryz.func78.trans (congrArg some (by kernel_rfl))
 f233 := Tryz.func80.trans (congrArg some (by kernel_rfl))
 f234 := Tryz.func81.trans (congrArg some (by kernel_rfl))
 f235 := Tryz.func82.trans (congrArg some (by kernel_rfl))
 f236 := Tryz.func83.trans (congrArg some (by kernel_rfl))
 f260 := Tryz.func181.trans (congrArg some (by kernel_rfl))
 f266 := Tryz.func178.trans (congrArg some (by kernel_rfl))
 f271 := Tryz.func132.trans (congrArg some (by kernel_rfl))
 t0 := Tryz.underlying0
 a0 := Tryz.isAgg0
 z0 := Tryz.sizeOf0
 v0 := Tryz.zeroValue0
 t3 := Tryz.underlying3
 a3 := Tryz.isAgg3
 z3 := Tryz.sizeOf3
 v3 := Tryz.zeroValue3
 t4 := Tryz.underlying4
 a4 := Tryz.isAgg4
 z4 := Tryz.sizeOf4
 v4 := Tryz.zeroValue4
 t5 := Tryz.underlying5
 a5 := Tryz.isAgg5
 z5 := Tryz.sizeOf5
 v5 := Tryz.zeroValue5
 t9 := Tryz.underlying9
 a9 := Tryz.isAgg9
 z9 := Tryz.sizeOf9
 v9 := Tryz.zeroValue9
 t21 := Tryz.underlying21
 a21 := Tryz.isAgg21
 z21 := Tryz.sizeOf21
 v21 := Tryz.zeroValue21
 t46 := Tryz.underlying183
 a46 := Tryz.isAgg183
 z46 := Tryz.sizeOf183
 v46 := Tryz.zeroValue183
 t105 := Tryz.underlying184
 a105 := Tryz.isAgg184
 z105 := Tryz.sizeOf184
 v105 := Tryz.zeroValue184
 t116 := Tryz.underlying108
 a116 := Tryz.isAgg108
 z116 := Tryz.sizeOf108
 t117 := Tryz.underlying109
 a117 := Tryz.isAgg109
 z117 := Tryz.sizeOf109
 v117 := Tryz.zeroValue109
 t119 := Tryz.underlying250
 a119 := Tryz.isAgg250
 z119 := Tryz.sizeOf250
 t124 := Tryz.underlying112
 a124 := Tryz.isAgg112
 z124 := Tryz.sizeOf112
 v124 := Tryz.zeroValue112
 t138 := Tryz.underlying261
 a138 := Tryz.isAgg261
 z138 := Tryz.sizeOf261
 v138 := Tryz.zeroValue261
 t139 := Tryz.underlying262
 a139 := Tryz.isAgg262
 z139 := Tryz.sizeOf262
 v139 := Tryz.zeroValue262
 g3 := by kernel_rfl
 g4 := by kernel_rfl }
open Go.RowKit Go.Lib in
theorem Tryz.strings_Trim (s cutset : ByteArray) (w : World) (hs : s.size ≤ 9223372036854775807) (hcs : cutset.size < 4294967281) (hascii : ∀ (j : Nat) b, cutset.data.toList[j]? = some b → b.toNat < 128) :
  Calls Tryz.prog 41 #[.string s, .string cutset] w fun e w' => e = .returned (.string ⟨(Lib.trimS s.data.toList cutset.data.toList).toArray⟩) ∧ Below w.heap.size w w' := Any.strings_Trim_laid Tryz.lays160 (by kernel_rfl) s cutset w hs hcs hascii
def Tryz.laysM171_ren : Go.Shelf.Ren := ⟨fun | 171 => 98 | 243 => 143 | 246 => 190 | 283 => 224 | 284 => 225 | 285 => 226 | 286 => 227 | 129 => 203 | 317 => 248 | 318 => 249 | 319 => 250 | 320 => 251 | 337 => 261 | 338 => 262 | n => n, fun | 3 => 3 | 9 => 9 | 2 => 2 | 4 => 4 | 171 => 266 | 0 => 0 | 53 => 249 | 37 => 188 | 5 => 5 | 173 => 268 | 212 => 290 | 51 => 233 | 20 => 20 | 213 => 291 | 46 => 183 | 232 => 325 | 233 => 326 | n => n, fun | 17 => 6 | 18 => 11 | 19 => 12 | n => n⟩
theorem Tryz.laysM171 : Go.Proofs.LaysM.n171 Tryz.prog Tryz.laysM171_ren := {
 mixed := by kernel_rfl
 f129 := Tryz.func203.trans (congrArg some (by kernel_rfl))
 f171 := Tryz.func98.trans (congrArg some (by kernel_rfl))
 f243 := Tryz.func143.trans (congrArg some (by kernel_rfl))
 f246 := Tryz.func190.trans (congrArg some (by kernel_rfl))
 f283 := Tryz.func224.trans (congrArg some (by kernel_rfl))
 f284 := Tryz.func225.trans (congrArg some (by kernel_rfl))
 f285 := Tryz.func226.trans (congrArg some (by kernel_rfl))
 f286 := Tryz.func227.trans (congrArg some (by kernel_rfl))
 f317 := Tryz.func248.trans (congrArg some (by kernel_rfl))
 f318 := Tryz.func249.trans (congrArg some (by kernel_rfl))
 f319 := Tryz.func250.trans (congrArg some (by kernel_rfl))
 f320 := Tryz.func251.trans (congrArg some (by kernel_rfl))
 f337 := Tryz.func261.trans (congrArg some (by kernel_rfl))
 f338 := Tryz.func262.trans (congrArg some (by kernel_rfl))
 t0 := Tryz.underlying0
 a0 := Tryz.isAgg0
 z0 := Tryz.sizeOf0
 v0 := Tryz.zeroValue0
 t2 := Tryz.underlying2
 a2 := Tryz.isAgg2
 z2 := Tryz.sizeOf2
 v2 := Tryz.zeroValue2
 t3 := Tryz.underlying3
 a3 := Tryz.isAgg3
 z3 := Tryz.sizeOf3
 v3 := Tryz.zeroValue3
 t4 := Tryz.underlying4
 a4 := Tryz.isAgg4
 z4 := Tryz.sizeOf4
 v4 := Tryz.zeroValue4
 t5 := Tryz.underlying5
 a5 := Tryz.isAgg5
 z5 := Tryz.sizeOf5
 v5 := Tryz.zeroValue5
 t9 := Tryz.underlying9
 a9 := Tryz.isAgg9
 z9 := Tryz.sizeOf9
 v9 := Tryz.zeroValue9
 t20 := Tryz.underlying20
 a20 := Tryz.isAgg20
 z20 := Tryz.sizeOf20
 v20 := Tryz.zeroValue20
 t37 := Tryz.underlying188
 a37 := Tryz.isAgg188
 z37 := Tryz.sizeOf188
 v37 := Tryz.zeroValue188
 t46 := Tryz.underlying183
 a46 := Tryz.isAgg183
 z46 := Tryz.sizeOf183
 v46 := Tryz.zeroValue183
 t51 := Tryz.underlying233
 a51 := Tryz.isAgg233
 z51 := Tryz.sizeOf233
 v51 := Tryz.zeroValue233
 t53 := Tryz.underlying249
 a53 := Tryz.isAgg249
 z53 := Tryz.sizeOf249
 v53 := Tryz.zeroValue249
 t171 := Tryz.underlying266
 a171 := Tryz.isAgg266
 z171 := Tryz.sizeOf266
 v171 := Tryz.zeroValue266
 t173 := Tryz.underlying268
 a173 := Tryz.isAgg268
 z173 := Tryz.sizeOf268
 v173 := Tryz.zeroValue268
 t212 := Tryz.underlying290
 a212 := Tryz.isAgg290
 z212 := Tryz.sizeOf290
 v212 := Tryz.zeroValue290
 t213 := Tryz.underlying291
 a213 := Tryz.isAgg291
 z213 := Tryz.sizeOf291
 t232 := Tryz.underlying325
 a232 := Tryz.isAgg325
 z232 := Tryz.sizeOf325
 v232 := Tryz.zeroValue325
 t233 := Tryz.underlying326
 a233 := Tryz.isAgg326
 z233 := Tryz.sizeOf326
 v233 := Tryz.zeroValue326
 g17 := by kernel_rfl
 g18 := by kernel_rfl
 g19 := by kernel_rfl
 i0 := by kernel_rfl
 i2 := by kernel_rfl
 i3 := by kernel_rfl
 i4 := by kernel_rfl
 i5 := by kernel_rfl
 i9 := by kernel_rfl
 i20 := by kernel_rfl
 i37 := by kernel_rfl
 i46 := by kernel_rfl
 i51 := by kernel_rfl
 i53 := by kernel_rfl
 i171 := by kernel_rfl
 i173 := by kernel_rfl
 i212 := by kernel_rfl
 i232 := by kernel_rfl
 i233 := by kernel_rfl
 m17 := by kernel_rfl
 m18 := by kernel_rfl
 m19 := by kernel_rfl }
open Go.RowKit Go.Sort Go.Lib in
theorem Tryz.strconv_Itoa (n : Int) (h0 : -9223372036854775808 ≤ n) (h1 : n ≤ 9223372036854775807) (w : World) (htab : Lib.TabIs Tryz.prog w "internal/strconv.uint64pow10" .u64 Lib.pow10Tab) :
  Calls Tryz.prog 98 #[.int .i64 n] w fun e w' => e = .returned (.string ⟨(Lib.itoa n).toArray⟩) ∧ ∃ k os, w' = grow (w.drewN k) os := Any.strconv_Itoa Tryz.laysM171 n h0 h1 w htab
def Tryz.lays189_ren : Go.Shelf.Ren := ⟨fun | 189 => 105 | 125 => 155 | 257 => 154 | 128 => 202 | 129 => 203 | 294 => 193 | 295 => 194 | 296 => 195 | 297 => 196 | 298 => 197 | 299 => 198 | 216 => 199 | 300 => 200 | 301 => 201 | 328 => 228 | 329 => 229 | 330 => 230 | 331 => 231 | 332 => 232 | 215 => 233 | 343 => 252 | n => n, fun | 28 => 35 | 3 => 3 | 46 => 183 | 0 => 0 | 51 => 233 | 53 => 249 | 4 => 4 | 183 => 241 | 182 => 240 | 131 => 212 | 5 => 5 | 9 => 9 | 218 => 270 | 222 => 274 | 228 => 292 | 229 => 293 | n => n, fun | n => n⟩
theorem Tryz.lays189 : Go.Proofs.Lays.n189 Tryz.prog Tryz.lays189_ren := {
 mixed := by kernel_rfl
 f125 := Tryz.func155.trans (congrArg some (by kernel_rfl))
 f128 := Tryz.func202.trans (congrArg some (by kernel_rfl))
 f129 := Tryz.func203.trans (congrArg some (by kernel_rfl))
 f189 := Tryz.func105.trans (congrArg some (by kernel_rfl))
 f215 := Tryz.func233.trans (congrArg some (by kernel_rfl))
 f216 := Tryz.func199.trans (congrArg some (by kernel_rfl))
 f257 := Tryz.func154.trans (congrArg some (by kernel_rfl))
 f294 := Tryz.func193.trans (congrArg some (by kernel_rfl))
 f295 := Tryz.func194.trans (congrArg some (by kernel_rfl))
 f296 := Tryz.func195.trans (congrArg some (by kernel_rfl))
 f297 := Tryz.func196.trans (congrArg some (by kernel_rfl))
 f298 := Tryz.func197.trans (congrArg some (by kernel_rfl))
 f299 := Tryz.func198.trans (congrArg some (by kernel_rfl))
 f300 := Tryz.func200.trans (congrArg some (by kernel_rfl))
 f301 := Tryz.func201.trans (congrArg some (by kernel_rfl))
 f328 := Tryz.func228.trans (congrArg some (by kernel_rfl))
 f329 := Tryz.func229.trans (congrArg some (by kernel_rfl))
 f330 := Tryz.func230.trans (congrArg some (by kernel_rfl))
 f331 := Tryz.func231.trans (congrArg some (by kernel_rfl))
 f332 := Tryz.func232.trans (congrArg some (by kernel_rfl))
 f343 := Tryz.func252.trans (congrArg some (by kernel_rfl))
 t0 := Tryz.underlying0
 a0 := Tryz.isAgg0
 z0 := Tryz.sizeOf0
 v0 := Tryz.zeroValue0
 t3 := Tryz.underlying3
 a3 := Tryz.isAgg3
 z3 := Tryz.sizeOf3
 v3 := Tryz.zeroValue3
 t4 := Tryz.underlying4
 a4 := Tryz.isAgg4
 z4 := Tryz.sizeOf4
 v4 := Tryz.zeroValue4
 t5 := Tryz.underlying5
 a5 := Tryz.isAgg5
 z5 := Tryz.sizeOf5
 v5 := Tryz.zeroValue5
 t9 := Tryz.underlying9
 a9 := Tryz.isAgg9
 z9 := Tryz.sizeOf9
 v9 := Tryz.zeroValue9
 t28 := Tryz.underlying35
 a28 := Tryz.isAgg35
 z28 := Tryz.sizeOf35
 v28 := Tryz.zeroValue35
 t46 := Tryz.underlying183
 a46 := Tryz.isAgg183
 z46 := Tryz.sizeOf183
 v46 := Tryz.zeroValue183
 t51 := Tryz.underlying233
 a51 := Tryz.isAgg233
 z51 := Tryz.sizeOf233
 v51 := Tryz.zeroValue233
 t53 := Tryz.underlying249
 a53 := Tryz.isAgg249
 z53 := Tryz.sizeOf249
 v53 := Tryz.zeroValue249
 t131 := Tryz.underlying212
 a131 := Tryz.isAgg212
 z131 := Tryz.sizeOf212
 v131 := Tryz.zeroValue212
 t182 := Tryz.underlying240
 a182 := Tryz.isAgg240
 z182 := Tryz.sizeOf240
 v182 := Tryz.zeroValue240
 t183 := Tryz.underlying241
 a183 := Tryz.isAgg241
 z183 := Tryz.sizeOf241
 v183 := Tryz.zeroValue241
 t218 := Tryz.underlying270
 a218 := Tryz.isAgg270
 z218 := Tryz.sizeOf270
 v218 := Tryz.zeroValue270
 t222 := Tryz.underlying274
 a222 := Tryz.isAgg274
 z222 := Tryz.sizeOf274
 v222 := Tryz.zeroValue274
 t228 := Tryz.underlying292
 a228 := Tryz.isAgg292
 z228 := Tryz.sizeOf292
 v228 := Tryz.zeroValue292
 t229 := Tryz.underlying293
 a229 := Tryz.isAgg293
 z229 := Tryz.sizeOf293
 v229 := Tryz.zeroValue293 }
open Go.RowKit Go.Sort Go.Lib in
theorem Tryz.slices_Sort_int (blk off cap : Nat) (zs : List Int) (w : World) (hH : Holds (Value.int .i64) w blk off zs.toArray) (hblk : blk < w.heap.size) (hsz : zs.length < 4611686018427387904) :
  Calls Tryz.prog 105 #[.slice (some ⟨blk, off, none⟩) zs.length cap] w fun e w' =>
   e = .returned (.tuple #[]) ∧ ∃ n os, w' = grow (putRow (Value.int .i64) (Sort.ahead w n) blk off (zs.mergeSort fun x y => decide (x ≤ y)).toArray) os := Any.slices_Sort_int Tryz.lays189 blk off cap zs w hH hblk hsz
open Go.RowKit Go.Sort Go.Lib in
theorem Tryz.slices_Sort_int_none (p : Option Addr) (cap : Nat) (w : World) :
  Calls Tryz.prog 105 #[.slice p 0 cap] w fun e w' => e = .returned (.tuple #[]) ∧ w' = w := Any.slices_Sort_int_none Tryz.lays189 p cap w
end Go.Proofs
namespace Go.Vm.L
open Go Go.Proofs Go.Vm
set_option maxRecDepth 100000
abbrev encI : Int → Value := Value.int .i64
theorem putRow_wrote {w : World} {b o : Nat} {zs ys : List Int} (hH : Go.Sort.Holds encI w b o zs.toArray) (hl : ys.length = zs.length) :
  Wrote w.heap (Go.Sort.putRow encI w b o ys.toArray).heap b o (ys.map encI) := by
 refine ⟨by simp [Go.Sort.putRow, Go.Sort.mapBlock], fun b' hb => ?_, fun q => ?_, fun q => ?_, ?_, fun h => ?_⟩
 ·simp only [Go.Sort.putRow, Go.Sort.mapBlock, Array.getElem?_modify]
  rw [if_neg (fun e => hb e.symm)]
 ·rw [← cell?_eq, ← cell?_eq]
  split
  ·rename_i hq
   rw [List.length_map] at hq
   have := Go.Sort.cell?_putRow encI w b o zs.toArray ys.toArray hH (by simp [hl]) (q - o) (by simp; omega)
   rw [show o + (q - o) = q by omega] at this
   rw [this, List.getElem?_map, List.getElem?_eq_getElem (by omega : q - o < ys.length)]
   simp
   rw [List.getElem?_eq_getElem (by omega : q - o < ys.length)]
   rfl
  ·rename_i hq
   rw [List.length_map] at hq
   exact Go.Sort.cell?_putRow_other encI w b o ys.toArray ⟨b, q, none⟩ (by simp; omega)
 ·rw [← frozen?_eq, ← frozen?_eq]
  exact Go.Sort.frozen?_mapBlock _ _ _ _
 ·cases ys with
  | nil => exact .inl rfl
  | cons y r =>
   have := (hH 0 (by simp at hl ⊢; omega)).1
   rw [cell?_eq] at this
   unfold cl at this
   split at this
   ·rename_i c e f hb; exact .inr ⟨c, e, f, hb⟩
   ·cases this
 ·have hy : ys = [] := by simpa using h
  subst hy
  have hz : zs = [] := List.length_eq_zero_iff.1 (by simpa using hl.symm)
  subst hz
  have := Go.Sort.putRow_self encI w b o #[] (fun j hj => by simp at hj)
  show (Go.Sort.putRow encI w b o #[]).heap = w.heap
  rw [this]
end Go.Vm.L
namespace Go.Vm
open Go Go.Proofs
theorem mthOk_of {P : Program} {t : TypeId} {nm : String} {f : FuncId} {i : TypeInfo} {m : Method} {d : TypeDesc} (hi : P.info? t = some i) (hm : i.methods.find? (·.name == nm) = some m) (hp : m.path = #[]) (hf : m.func = some (f, false))
  (hd : P.underlying t = some d) (hn : ∀ e, d ≠ .pointer e) : MthOk P t nm f := by
 intro n v w
 constructor
 ·unfold method
  cases d <;> first | exact absurd rfl (hn _) | simp [typeInfo, underlying, hi, Result.andThen, hm, hp, hf, follow, receiverAt, hd, Place.get]
 ·unfold nilAhead
  cases d <;> first | exact absurd rfl (hn _) | simp [typeInfo, underlying, hi, Result.andThen, hm, hp, hf, followBlind, hd]
def mthB (P : Program) (t : TypeId) (nm : String) (f : FuncId) : Bool :=
 match P.info? t with
 | some i => match i.methods.find? (·.name == nm) with
  | some m => m.path.size == 0 && (match m.func with | some (g, false) => g == f | _ => false)
  | none => false
 | none => false
theorem mthOk_B {P : Program} {t : TypeId} {nm : String} {f : FuncId} {d : TypeDesc} (h : mthB P t nm f = true) (hd : P.underlying t = some d) (hn : ∀ e, d ≠ .pointer e) : MthOk P t nm f := by
 unfold mthB at h
 split at h
 ·rename_i i hi
  split at h
  ·rename_i m hm
   simp only [Bool.and_eq_true, beq_iff_eq] at h
   obtain ⟨h1, h2⟩ := h
   split at h2
   ·rename_i g hg
    have : g = f := by simpa using h2
    subst this
    exact mthOk_of hi hm (Array.eq_empty_of_size_eq_zero h1) hg hd hn
   ·cases h2
  ·cases h
 ·cases h
end Go.Vm
namespace Go.Vm
open Go Go.Proofs
theorem reps_one {G : Gh} {x : AV} {cargs : Array Value} (h : Reps G [x] cargs.toList) : ∃ a, cargs = #[a] ∧ Rep G x a := by
 obtain ⟨l⟩ := cargs
 match l, h with
 | [a], h => exact ⟨a, rfl, h.head⟩
 | [], h => exact absurd h.1 (by simp)
 | _ :: _ :: _, h => exact absurd h.1 (by simp)
theorem reps_two {G : Gh} {x y : AV} {cargs : Array Value} (h : Reps G [x, y] cargs.toList) : ∃ a b, cargs = #[a, b] ∧ Rep G x a ∧ Rep G y b := by
 obtain ⟨l⟩ := cargs
 match l, h with
 | [a, b], h => exact ⟨a, b, rfl, h.head, h.tail.head⟩
 | [], h => exact absurd h.1 (by simp)
 | [_], h => exact absurd h.1 (by simp)
 | _ :: _ :: _ :: _, h => exact absurd h.1 (by simp)
theorem reps_four {G : Gh} {x y z t : AV} {cargs : Array Value} (h : Reps G [x, y, z, t] cargs.toList) : ∃ a b c d, cargs = #[a, b, c, d] ∧ Rep G x a ∧ Rep G y b ∧ Rep G z c ∧ Rep G t d := by
 obtain ⟨l⟩ := cargs
 match l, h with
 | [a, b, c, d], h => exact ⟨a, b, c, d, rfl, h.head, h.tail.head, h.tail.tail.head, h.tail.tail.tail.head⟩
 | [], h => exact absurd h.1 (by simp)
 | [_], h => exact absurd h.1 (by simp)
 | [_, _], h => exact absurd h.1 (by simp)
 | [_, _, _], h => exact absurd h.1 (by simp)
 | _ :: _ :: _ :: _ :: _ :: _, h => exact absurd h.1 (by simp)
theorem rep_strL {G : Gh} (l : List UInt8) : Rep G (.str l) (.string ⟨l.toArray⟩) := by
 have := Rep.str (G := G) ⟨l.toArray⟩
 simpa using this
end Go.Vm
namespace Go.Vm.L
open Go Go.Proofs Go.Vm
set_option maxRecDepth 100000
theorem extIB_ok : ExtOk Tryz.prog 178 extIB := by
 intro args v h G cargs hr
 unfold extIB at h
 split at h
 ·rename_i s c
  cases h
  obtain ⟨a, b, rfl, ha, hb⟩ := reps_two hr
  obtain ⟨sa, rfl, hs⟩ := ha.str_inv
  cases hb
  refine ⟨_, .int .i64 _, fun w => ?_⟩
  rw [run_callFunc_extern Tryz.func178 (by kernel_rfl) (by kernel_rfl) (by kernel_rfl) (e := Extern.BytealgIndexByte.indexByte) (by kernel_rfl), Lib.run_indexByteString, hs]
  rfl
 ·cases h
theorem strsOf_spec {G : Gh} {h : Array Obj} {b : Nat} : ∀ {es : List AV} {ls : List (List UInt8)} {o : Nat}, strsOf es = some ls → (∀ j x, es[j]? = some x → ∃ y, cl h b (o + j) = some y ∧ Rep G x y) →
  es.length = ls.length ∧ ∃ xs : List ByteArray, xs.map (·.data.toList) = ls ∧ ∀ (j : Nat) x, xs[j]? = some x → cl h b (o + j) = some (.string x)
 | [], ls, o, h1, _ => by
  simp only [strsOf] at h1
  cases h1
  exact ⟨rfl, [], rfl, fun j x hx => by simp at hx⟩
 | .str l :: es, ls, o, h1, h2 => by
  simp only [strsOf] at h1
  split at h1
  ·rename_i r hr
   cases h1
   obtain ⟨y, hy1, hy2⟩ := h2 0 _ rfl
   obtain ⟨s, rfl, rfl⟩ := hy2.str_inv
   obtain ⟨k1, xs, k2, k3⟩ := strsOf_spec (o := o + 1) hr (fun j x hx => by
    obtain ⟨y, q1, q2⟩ := h2 (j + 1) x (by simpa using hx)
    exact ⟨y, by rw [show o + 1 + j = o + (j + 1) by omega]; exact q1, q2⟩)
   refine ⟨by simp [k1], s :: xs, by simp [k2], fun j x hx => ?_⟩
   cases j with
   | zero => simp at hx; subst hx; exact hy1
   | succ j =>
    rw [show o + (j + 1) = o + 1 + j by omega]
    exact k3 j x (by simpa using hx)
  ·cases h1
 | .undef :: _, _, _, h1, _ => by simp [strsOf] at h1
 | .bool _ :: _, _, _, h1, _ => by simp [strsOf] at h1
 | .int _ _ :: _, _, _, h1, _ => by simp [strsOf] at h1
 | .nilp :: _, _, _, h1, _ => by simp [strsOf] at h1
 | .ptr _ _ :: _, _, _, h1, _ => by simp [strsOf] at h1
 | .rptr _ :: _, _, _, h1, _ => by simp [strsOf] at h1
 | .nils :: _, _, _, h1, _ => by simp [strsOf] at h1
 | .slice _ _ :: _, _, _, h1, _ => by simp [strsOf] at h1
 | .rsl _ _ _ _ :: _, _, _, h1, _ => by simp [strsOf] at h1
 | .nilm :: _, _, _, h1, _ => by simp [strsOf] at h1
 | .map _ :: _, _, _, h1, _ => by simp [strsOf] at h1
 | .yld _ :: _, _, _, h1, _ => by simp [strsOf] at h1
 | .nilf :: _, _, _, h1, _ => by simp [strsOf] at h1
 | .nili :: _, _, _, h1, _ => by simp [strsOf] at h1
 | .fn _ _ _ :: _, _, _, h1, _ => by simp [strsOf] at h1
 | .fref _ _ _ :: _, _, _, h1, _ => by simp [strsOf] at h1
 | .rmap _ _ :: _, _, _, h1, _ => by simp [strsOf] at h1
 | .iface _ _ :: _, _, _, h1, _ => by simp [strsOf] at h1
 | .agg _ :: _, _, _, h1, _ => by simp [strsOf] at h1
 | .tup _ :: _, _, _, h1, _ => by simp [strsOf] at h1
theorem strsOf_flat : ∀ {es : List AV} {ls : List (List UInt8)}, strsOf es = some ls → es.flatMap AV.cells = es
 | [], _, _ => rfl
 | x :: es, ls, h => by
  cases x <;> simp only [strsOf] at h <;> first | cases h; done | skip
  split at h
  ·rename_i r hr
   rw [List.flatMap_cons, strsOf_flat hr]
   rfl
  ·cases h
theorem zero108 : ∀ w, (zeroValue 108).run Tryz.prog w = .ok (.agg (Array.replicate 256 (.bool false))) w := by
 intro w
 kernel_rfl
theorem setL_get (l : List UInt8) : ∀ (n k j : Nat), j < n → (setL l n k)[j]? = some (.bool (l.any fun b => Nat.beq b.toNat (k + j)))
 | 0, _, _, h => absurd h (by omega)
 | n + 1, k, 0, _ => by simp [setL]
 | n + 1, k, j + 1, h => by
  simp only [setL, List.getElem?_cons_succ]
  rw [setL_get l n (k + 1) j (by omega), show k + 1 + j = k + (j + 1) by omega]
theorem setL_len (l : List UInt8) : ∀ n k, (setL l n k).length = n
 | 0, _ => rfl
 | n + 1, k => by simp [setL, setL_len l n]
theorem setCells_size (l : List UInt8) : (Lib.setCells l).size = 256 := by
 unfold Lib.setCells
 have : ∀ (l : List UInt8) (a : Array Value), (l.foldl (fun a c => a.setIfInBounds c.toNat (.bool true)) a).size = a.size := by
  intro l
  induction l with
  | nil => intro a; rfl
  | cons c l ih => intro a; rw [List.foldl_cons, ih]; simp
 rw [this]
 simp
theorem setL_rep {G : Gh} (l : List UInt8) : Rep G (.agg (setL l 256 0)) (.agg (Lib.setCells l)) := by
 refine Rep.agg' ⟨by rw [setL_len]; simp [setCells_size], fun j x y hx hy => ?_⟩
 have hj : j < 256 := by
  have := (List.getElem?_eq_some_iff.1 hx).1
  rw [setL_len] at this
  exact this
 rw [setL_get l 256 0 j hj] at hx
 cases hx
 have h2 := Lib.setCells_at l (UInt8.ofNat j)
 have h3 : (UInt8.ofNat j).toNat = j := by
  simp
  omega
 rw [h3] at h2
 have h4 : y = .bool (l.contains (UInt8.ofNat j)) := by
  have : (Lib.setCells l)[j]? = some y := by simpa using hy
  rw [this] at h2
  exact Option.some.inj h2
 subst h4
 have h5 : ∀ l : List UInt8, (l.any fun b => Nat.beq b.toNat (0 + j)) = l.contains (UInt8.ofNat j) := by
  intro l
  induction l with
  | nil => rfl
  | cons c l ih =>
   simp only [List.any_cons, List.contains_cons]
   have : Nat.beq c.toNat (0 + j) = (UInt8.ofNat j == c) := by
    rw [Nat.zero_add]
    by_cases e : c = UInt8.ofNat j
    ·subst e
     simp [h3]
    ·have h6 : c.toNat ≠ j := fun q => e (by
      apply UInt8.toNat.inj
      rw [h3, q])
     have h7 : (UInt8.ofNat j == c) = false := by simpa using fun q => e q.symm
     rw [h7]
     cases hh : Nat.beq c.toNat j with
     | true => exact absurd (Nat.eq_of_beq_eq_true hh) h6
     | false => rfl
   rw [this, ih]
 rw [h5]
 exact .bool _
theorem numsOf_eq : ∀ {es : List AV} {zs : List Int}, numsOf es = some zs → es = zs.map fun n => .int .i64 n
 | [], zs, h => by cases h; rfl
 | a :: es, zs, h => by
  unfold numsOf at h
  split at h
  ·rename_i h1; cases h1
  ·rename_i n es' h1
   cases h1
   split at h
   ·rename_i r hr
    cases h
    rw [numsOf_eq hr]
    rfl
   ·cases h
  ·cases h
theorem setCells_tail : ∀ (xs a b : List AV), b.length = xs.length → Vm.setCells (a ++ b) a.length xs = a ++ xs
 | [], a, b, h => by
  have : b = [] := List.length_eq_zero_iff.1 (by simpa using h)
  subst this
  simp [Vm.setCells]
 | x :: xs, a, [], h => by simp at h
 | x :: xs, a, y :: b, h => by
  simp only [Vm.setCells]
  have e : (a ++ y :: b).set a.length x = (a ++ [x]) ++ b := by simp [List.set_append]
  rw [e]
  have := setCells_tail xs (a ++ [x]) b (by simpa using h)
  simpa using this
theorem setCells_all {xs cs : List AV} (h : cs.length = xs.length) : Vm.setCells cs 0 xs = xs := by
 simpa using setCells_tail xs [] cs h
theorem reps_ints (G : Gh) : ∀ ys : List Int, Reps G (ys.map fun n => AV.int .i64 n) (ys.map encI)
 | [] => Reps.nil G
 | y :: ys => Reps.cons (.int .i64 y) (reps_ints G ys)
theorem sort_lib {B : Nat} {h0 : World} {f : FuncId} {h : St → List AV → Option (Option (Nat × List AV))} (hf : ED.libS f = some h) {args : List AV} {S : St} {r : Option (Nat × List AV)} (hv : h S args = some r) {G : Gh} {cargs : Array Value} {w : World}
  (I : InvW ED B h0 G S w) (hr : Reps G args cargs.toList) : Calls Tryz.prog f cargs w fun e w' => ∃ G', e = .returned (.tuple #[]) ∧ G.Le G' ∧ InvW ED B h0 G' (S.after r) w' := by
 have hf' : libSF f = some h := hf
 unfold libSF at hf'
 split at hf'
 ·rename_i e
  cases hf'
  subst e
  unfold sortS at hv
  split at hv
  ·cases hv
   obtain ⟨a, rfl, ha⟩ := reps_one hr
   cases ha
   exact (Tryz.slices_Sort_int_none none 0 w).mono fun e w' ⟨q1, q2⟩ => ⟨G, q1, .refl G, by subst q2; exact I⟩
  ·rename_i id len cap
   cases hcs : S.cells? id with
   | none => rw [hcs] at hv; cases hv
   | some cs =>
    rw [hcs] at hv
    simp only at hv
    cases hzs : numsOf cs with
    | none => rw [hzs] at hv; cases hv
    | some zs =>
     rw [hzs] at hv
     simp only at hv
     split at hv
     ·rename_i hlen
      cases hv
      have hce := numsOf_eq hzs
      subst hce
      obtain ⟨a, rfl, ha⟩ := reps_one hr
      obtain ⟨b, o, cap', hG, rfl, hl, _⟩ := ha.rsl_inv
      have hget := cells?_inv hcs
      obtain ⟨b', o', k1, k2, k4⟩ := I.objs id _ hget
      rw [hG] at k1; cases k1
      obtain ⟨hlen, hne, hbig⟩ := hlen
      subst hlen
      have hH : Go.Sort.Holds encI w b o zs.toArray := fun j hj => by
       have hj' : j < zs.length := by simpa using hj
       obtain ⟨_, ⟨c, k5, k5'⟩, k6⟩ := k4 j (.int .i64 zs[j]) (by rw [List.getElem?_map, List.getElem?_eq_getElem hj']; rfl)
       rw [cell?_eq, frozen?_eq, k5, k6]
       cases k5'
       refine ⟨?_, rfl⟩
       rw [getElem!_pos zs.toArray j (by simpa using hj')]
       simp
      have hblk : b < w.heap.size := by
       have := (hH 0 (by simp; omega)).1
       rw [cell?_eq] at this
       exact cl_lt this
      have hz63 : zs.length < 4611686018427387904 := by omega
      have hyl : (zs.mergeSort fun x y => decide (x ≤ y)).length = zs.length := List.length_mergeSort _
      refine (Tryz.slices_Sort_int b o cap' zs w hH hblk hz63).mono fun e w' ⟨q1, n, os, q2⟩ => ?_
      generalize zs.mergeSort (fun x y => decide (x ≤ y)) = ys at *
      have W := putRow_wrote (w := w) hH hyl
      have hrr : Reps G (ys.map fun n => AV.int .i64 n) (ys.map encI) := reps_ints G ys
      have I' := I.toInv.store (off := 0) hget hG (by simp; omega) hrr (by simpa using W)
      have hset : Vm.setCells (zs.map fun n => AV.int .i64 n) 0 (ys.map fun n => AV.int .i64 n) = ys.map fun n => .int .i64 n := by
       exact setCells_all (by simp [hyl])
      rw [hset] at I'
      refine ⟨G, q1, .refl G, ⟨I'.grow ?_ ?_, ?_, ?_⟩⟩
      ·subst q2; simp [Go.Sort.grow, Go.Sort.putRow, Go.Sort.mapBlock, Go.Sort.ahead]
      ·intro k hk
       subst q2
       simp [Go.Sort.grow, Go.Sort.putRow, Go.Sort.mapBlock, Go.Sort.ahead] at hk ⊢
       rw [Array.getElem?_append_left (by simpa using hk)]
      ·subst q2; exact I.os
      ·subst q2; exact I.out
     ·cases hv
  ·cases hv
 ·cases hf'
theorem below_grow (w : World) (k : Nat) (os : Array Obj) : _root_.Go.RowKit.Below w.heap.size w (Go.Sort.grow (w.drewN k) os) :=
 ⟨rfl, rfl, rfl, by simp [Go.Sort.grow, World.drewN], fun j hj => by simp [Go.Sort.grow, World.drewN, Array.getElem?_append_left hj]⟩
theorem libF_ok {B : Nat} {h0 : World} (hB : 1 < B) {m : Int} (hm : h0.cell? ⟨1, 0, none⟩ = some (.int .i64 m)) {gp : Nat} (hgp : Tryz.prog.globalNamed "internal/strconv.uint64pow10" = some gp) (hgB : gp < B) (htab : Lib.TabIs Tryz.prog h0 "internal/strconv.uint64pow10" .u64 Lib.pow10Tab) : LibOk Tryz.prog ED B h0 := by
 refine ⟨?_, fun f h hf args S r hv G cargs w I hg hr => ?_⟩
 rotate_left
 ·exact sort_lib hf hv I hr
 intro f h hf args v hv G S cargs w I hg hr
 have hf' : libF f = some h := hf
 unfold libF at hf'
 split at hf'
 ·rename_i e
  cases hf'
  subst e
  unfold libSet at hv
  split at hv
  ·rename_i l
   split at hv
   ·rename_i hc
    cases hv
    obtain ⟨a, rfl, ha⟩ := reps_one hr
    obtain ⟨sa, rfl, rfl⟩ := ha.str_inv
    refine (Tryz.strings_makeASCIISet zero108 sa w (by simpa using hc.1) (fun j b hj => ?_)).mono fun e w' ⟨k1, k2⟩ => lib_below I k1 ?_ (by subst k2; exact (_root_.Go.RowKit.Below.refl _ _).alloc (Nat.le_refl _) _)
    ·have := List.all_eq_true.1 hc.2 b (List.mem_of_getElem? hj)
     simpa using this
    ·exact Rep.tup' (Reps.cons (setL_rep _) (Reps.cons (.bool true) (Reps.nil _)))
   ·cases hv
  ·cases hv
 split at hf'
 ·rename_i e
  cases hf'
  subst e
  unfold libReplace at hv
  split at hv
  ·rename_i s o nw n
   split at hv
   ·rename_i hc
    cases hv
    obtain ⟨a, b, c, d, rfl, ha, hb, hc', hd⟩ := reps_four hr
    obtain ⟨sa, rfl, rfl⟩ := ha.str_inv
    obtain ⟨so, rfl, rfl⟩ := hb.str_inv
    obtain ⟨sn, rfl, rfl⟩ := hc'.str_inv
    cases hd
    have hmw : w.cell? ⟨1, 0, none⟩ = some (.int .i64 m) := by
     rw [cell?_eq] at hm ⊢
     unfold cl at hm ⊢
     rw [I.old 1 hB]; exact hm
    refine (Tryz.strings_Replace sa so sn n m w (by simpa using hc.1) hmw (by simpa using hc.2.1) (by simpa [Lib.countB] using hc.2.2)).mono fun e w' ⟨k1, k2⟩ => lib_below I k1 (rep_strL _) k2
   ·cases hv
  ·cases hv
 ·split at hf'
  ·rename_i e
   cases hf'
   subst e
   unfold libJoin at hv
   split at hv
   ·rename_i es tk sep
    split at hv
    ·rename_i ls hls
     split at hv
     ·rename_i hc
      cases hv
      obtain ⟨a, b, rfl, ha, hb⟩ := reps_two hr
      obtain ⟨ss, rfl, rfl⟩ := hb.str_inv
      rcases ha.slice_inv with ⟨rfl, rfl, ad, rfl⟩ | ⟨bk, o, cap, sz, rfl, k1, k2, k3, k4, k5⟩
      ·simp only [strsOf] at hls
       cases hls
       refine (Tryz.strings_Join_none (some ad) 0 ss w).mono fun e w' ⟨q1, q2⟩ => lib_below I q1 ?_ (by subst q2; exact _root_.Go.RowKit.Below.refl _ _)
       exact rep_strL []
      ·rw [strsOf_flat hls] at k3 k4
       obtain ⟨p1, xs, p2, p3⟩ := strsOf_spec (G := G) (h := w.heap) (b := bk) (o := o) hls (fun j x hx => by
        obtain ⟨y, hy⟩ := k3 j (List.getElem?_eq_some_iff.1 hx).1
        exact ⟨y, I.imm _ _ _ hy, k4 j x y hx hy⟩)
       have hxl : es.length = xs.length := by rw [p1, ← p2]; simp
       rw [hxl]
       cases xs with
       | nil =>
        simp at p2
        subst p2
        refine (Tryz.strings_Join_none (some ⟨bk, o, none⟩) cap ss w).mono fun e w' ⟨q1, q2⟩ => lib_below I q1 ?_ (by subst q2; exact _root_.Go.RowKit.Below.refl _ _)
        exact rep_strL []
       | cons x0 xr =>
        have hbk : bk < w.heap.size := cl_lt (p3 0 x0 rfl)
        subst p2
        refine (Tryz.strings_Join bk o cap (x0 :: xr) ss w (fun j x hx => by rw [cell?_eq]; exact p3 j x hx) hbk (by simpa using hc.1) (by rw [← hxl]; exact k2) hc.2).mono fun e w' ⟨q1, q2⟩ => lib_below I q1 (rep_strL _) q2
     ·cases hv
    ·cases hv
   ·rename_i sep
    cases hv
    obtain ⟨a, b, rfl, ha, hb⟩ := reps_two hr
    obtain ⟨ss, rfl, rfl⟩ := hb.str_inv
    cases ha
    refine (Tryz.strings_Join_none none 0 ss w).mono fun e w' ⟨q1, q2⟩ => lib_below I q1 ?_ (by subst q2; exact _root_.Go.RowKit.Below.refl _ _)
    exact rep_strL []
   ·cases hv
  split at hf'
  ·rename_i e
   cases hf'
   subst e
   unfold libTrim at hv
   split at hv
   ·rename_i s c
    split at hv
    ·rename_i hc
     cases hv
     obtain ⟨a, b, rfl, ha, hb⟩ := reps_two hr
     obtain ⟨sa, rfl, rfl⟩ := ha.str_inv
     obtain ⟨sb, rfl, rfl⟩ := hb.str_inv
     refine (Tryz.strings_Trim sa sb w (by simpa using hc.1) (by simpa using hc.2.1) (fun j b hj => ?_)).mono fun e w' ⟨k1, k2⟩ => lib_below I k1 (rep_strL _) k2
     have := List.all_eq_true.1 hc.2.2 b (List.mem_of_getElem? hj)
     simpa using this
    ·cases hv
   ·cases hv
  ·split at hf'
   ·rename_i e
    cases hf'
    subst e
    unfold libItoa at hv
    split at hv
    ·rename_i n
     split at hv
     ·rename_i hc
      cases hv
      obtain ⟨a, rfl, ha⟩ := reps_one hr
      cases ha
      have htw : Lib.TabIs Tryz.prog w "internal/strconv.uint64pow10" .u64 Lib.pow10Tab := by
       unfold Lib.TabIs World.var? at htab ⊢
       rw [hgp] at htab ⊢
       simp only [Option.bind_some] at htab ⊢
       rw [I.old gp hgB]
       exact htab
      refine (Tryz.strconv_Itoa n hc.1 hc.2 w htw).mono fun e w' ⟨k1, k2⟩ => ?_
      obtain ⟨k, os, rfl⟩ := k2
      exact lib_below I k1 (rep_strL _) (below_grow _ _ _)
     ·cases hv
    ·cases hv
   ·cases hf'
theorem mt_ok : ∀ t nm f, mt t nm = some f → MthOk Tryz.prog t nm f := by
 intro t nm f h
 unfold mt at h
 split at h
 ·rename_i e
  subst e
  split at h
  ·rename_i e; subst e; cases h
   exact mthOk_B (by kernel_rfl) (tiOk124.und) (by intro e h; cases h)
  ·split at h
   ·rename_i e; subst e; cases h
    exact mthOk_B (by kernel_rfl) (tiOk124.und) (by intro e h; cases h)
   ·cases h
 ·split at h
  ·rename_i e
   subst e
   split at h
   ·rename_i e; subst e; cases h
    exact mthOk_B (by kernel_rfl) (tiOk126.und) (by intro e h; cases h)
   ·split at h
    ·rename_i e; subst e; cases h
     exact mthOk_B (by kernel_rfl) (tiOk126.und) (by intro e h; cases h)
    ·cases h
  ·cases h
theorem ED_ok : EnvOk Tryz.prog ED := envOk_of tiT_ok fnT_ok (by kernel_rfl) (by kernel_rfl) mt_ok (by
 intro f h hf
 unfold extF at hf
 split at hf
 ·rename_i e; cases hf; subst e; exact extIB_ok
 ·cases hf)
end Go.Vm.L
