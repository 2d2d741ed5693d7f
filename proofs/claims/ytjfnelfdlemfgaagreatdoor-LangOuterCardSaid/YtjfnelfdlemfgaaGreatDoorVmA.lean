/-
The evaluator on abstract values, its memory, and what a state says of a world. No conditions.
-/
import GoSem.Step
set_option linter.all false
set_option maxHeartbeats 4000000
namespace Go.Vm
open Go
inductive Tk where
 | full
 | dead
 | tok (i sz : Nat)
 | lit
 deriving DecidableEq
inductive AV where
 | undef
 | bool (b : Bool)
 | int (k : IntKind) (n : Int)
 | str (s : List UInt8)
 | nilp
 | ptr (i off : Nat)
 | rptr (cs : List AV)
 | nils
 | slice (es : List AV) (tk : Tk)
 | rsl (i off len cap : Nat)
 | nilm
 | map (i : Nat)
 | fn (f : FuncId) (first captured : List AV)
 | fref (r : Fn) (first captured : List AV)
 | rmap (ks vs : List AV)
 | yld (i : Nat)
 | nilf
 | iface (t : TypeId) (v : AV)
 | nili
 | agg (cs : List AV)
 | tup (vs : List AV)
 deriving Inhabited
def AV.cells : AV → List AV
 | .agg cs => cs
 | v => [v]
def AV.isCell : AV → Bool
 | .undef | .agg _ | .tup _ => false
 | _ => true
def AV.known : AV → Bool
 | .undef => false
 | _ => true
inductive Ex where
 | normal
 | exit (i : Nat)
 | ret
 | pan (v : AV)
 deriving Inhabited
structure FInfo where
 fn : Func
 vars : List Tmp
inductive ADef where
 | call (f : FuncId) (args : List AV)
 | coll (i : Nat)
inductive RecS where
 | no
 | pan (v : AV)
 | done
structure ALoop where
 state : LoopState
 pend : Option Ex
 fid : FuncId
 vals : List AV
 params : Array Tmp
 asg : Code
 body : Code
 dfr : Nat
inductive AO where
 | cells (cs : List AV)
 | map (es : List (AV × AV))
 | iter (ks vs : List AV)
 | iterX
 | iter1 (k v : AV)
 | tok (spent : Bool)
 | loop (l : ALoop)
 | dfr (taken : Bool)
/-! the abstract heap -/
inductive Tr where
 | leaf
 | node (v : Option AO) (l r : Tr)
def Tr.get : Tr → Nat → Option AO
 | .leaf, _ => none
 | .node v l r, k => if k ≤ 1 then v else if k % 2 = 0 then l.get (k / 2) else r.get (k / 2)
def Tr.val : Tr → Option AO
 | .leaf => none
 | .node v _ _ => v
def Tr.left : Tr → Tr
 | .leaf => .leaf
 | .node _ l _ => l
def Tr.right : Tr → Tr
 | .leaf => .leaf
 | .node _ _ r => r
def Tr.set (o : AO) : Nat → Nat → Tr → Tr
 | 0, _, t => .node (some o) t.left t.right
 | f + 1, k, t => if k % 2 = 0 then .node t.val (Tr.set o f (k / 2) t.left) t.right else .node t.val t.left (Tr.set o f (k / 2) t.right)
/-- objects, by numbers; wb: those below it may not be written; bad: one has been -/
structure St where
 n : Nat
 t : Tr
 wb : Nat := 0
 bad : Bool := false
def St.get (S : St) (i : Nat) : Option AO := if i < S.n then S.t.get (i + 1) else none
def St.put (S : St) (i : Nat) (o : AO) : St := { S with t := S.t.set o (Nat.log2 (i + 1)) (i + 1), bad := S.bad || decide (i < S.wb) }
def St.push (S : St) (o : AO) : St := { S with n := S.n + 1, t := S.t.set o (Nat.log2 (S.n + 1)) (S.n + 1) }
def St.cells? (S : St) (i : Nat) : Option (List AV) :=
 match S.get i with
 | some (.cells cs) => some cs
 | _ => none
/-! tables -/
structure TI where
 desc : TypeDesc
 size : Nat
 bytes : Nat
 zero : List AV
 agg : Bool
 cmp : Bool
structure Env where
 ti : TypeId → Option TI
 fn : FuncId → Option FInfo
 glob : Nat → Option (List AV)
 mth : TypeId → String → Option FuncId
 ext : FuncId → Option (List AV → Option AV)
 lib : FuncId → Option (List AV → Option AV)
 /-- functions of the library that write one object -/
 libS : FuncId → Option (St → List AV → Option (Option (Nat × List AV))) := fun _ => none
 /-- elements whose slices are objects when append makes them -/
 own : TypeId → Bool := fun _ => false
def TI.zeroV (x : TI) : AV := if x.agg then .agg x.zero else x.zero.headD .undef
def Env.desc (E : Env) (t : TypeId) : Option TypeDesc := (E.ti t).map (·.desc)
def Env.size (E : Env) (t : TypeId) : Option Nat := (E.ti t).map (·.size)
/-! frames -/
structure Loc where
 vals : List AV
 sc : List (Tmp × AV)
 defers : List ADef
 recs : RecS
 rnd : Option Nat
def Loc.clear (L : Loc) : Loc := { L with sc := [] }
def idx : List Tmp → Tmp → Option Nat
 | [], _ => none
 | x :: xs, t => if x = t then some 0 else (idx xs t).map (· + 1)
def look : List (Tmp × AV) → Tmp → AV
 | [], _ => .undef
 | (x, v) :: r, t => if x = t then v else look r t
def Loc.get (vars : List Tmp) (L : Loc) (t : Tmp) : AV :=
 match idx vars t with
 | some k => L.vals.getD k .undef
 | none => look L.sc t
def Loc.put (vars : List Tmp) (L : Loc) (t : Tmp) (v : AV) : Loc :=
 match idx vars t with
 | some k => { L with vals := L.vals.set k v }
 | none => { L with sc := (t, v) :: L.sc }
def Loc.putO (vars : List Tmp) (L : Loc) (t : Option Tmp) (v : AV) : Loc :=
 match t with
 | some t => L.put vars t v
 | none => L
def constV : Value → AV
 | .bool b => .bool b
 | .int k n => .int k n
 | .string s => .str s.data.toList
 | .pointer none => .nilp
 | .slice none 0 0 => .nils
 | .map none => .nilm
 | .nilFunc => .nilf
 | .nilIface => .nili
 | .func (.func f) fs cs => if fs.size = 0 ∧ cs.size = 0 then .fn f [] [] else .undef
 | _ => .undef
def evO (E : Env) (vars : List Tmp) (L : Loc) : Operand → AV
 | .tmp t => L.get vars t
 | .const v => constV v
 | .global g => match E.glob g with
  | some cs => .rptr cs
  | none => .undef
 | .func f => .fn f [] []
/-! operations that touch no memory -/
def partA (E : Env) (t : TypeId) (cs : List AV) (off : Nat) : Option AV :=
 match E.ti t with
 | none => none
 | some x => if x.agg then (if off + x.size ≤ cs.length then some (.agg ((cs.drop off).take x.size)) else none) else cs[off]?
def eqF (E : Env) (rec_ : TypeId → AV → AV → Option Bool) (xs ys : List AV) : List Field → Option Bool
 | [] => some true
 | f :: fs =>
  if f.name ≠ "_" then
   match partA E f.type xs f.offset, partA E f.type ys f.offset with
   | some a, some b =>
    match rec_ f.type a b with
    | some true => eqF E rec_ xs ys fs
    | some false => some false
    | none => none
   | _, _ => none
  else eqF E rec_ xs ys fs
def eqA (E : Env) : Nat → TypeId → AV → AV → Option Bool
 | 0, _, _, _ => none
 | d + 1, t, x, y =>
  match E.ti t with
  | none => none
  | some i =>
   match i.desc, x, y with
   | .bool, .bool a, .bool b => some (a == b)
   | .int _, .int k a, .int k' b => if k = k' then some (a == b) else none
   | .string, .str a, .str b => some (a == b)
   | .pointer _, .nilp, .nilp => some true
   | .pointer _, .nilp, .ptr _ _ | .pointer _, .ptr _ _, .nilp | .pointer _, .nilp, .rptr _ | .pointer _, .rptr _, .nilp => some false
   | .interface _, .nili, .nili => some true
   | .interface _, .nili, .iface _ _ | .interface _, .iface _ _, .nili => some false
   | .struct fs, .agg xs, .agg ys => if i.cmp then eqF E (eqA E d) xs ys fs.toList else none
   | .slice _, .nils, .nils => some true
   | .slice _, .nils, .slice _ _ | .slice _, .slice _ _, .nils | .slice _, .nils, .rsl _ _ _ _ | .slice _, .rsl _ _ _ _, .nils => some false
   | .map _ _, .nilm, .nilm => some true
   | .map _ _, .nilm, .map _ | .map _ _, .map _, .nilm => some false
   | .func _ _ _, .nilf, .nilf => some true
   | .func _ _ _, .nilf, .fn _ _ _ | .func _ _ _, .fn _ _ _, .nilf => some false
   | _, _, _ => none
def intA (op : BinOp) (k : IntKind) (a b : Int) : Option AV :=
 match op with
 | .add => some (.int k (k.wrap (a + b)))
 | .sub => some (.int k (k.wrap (a - b)))
 | .mul => some (.int k (k.wrap (a * b)))
 | .quo => if b = 0 then none else some (.int k (k.wrap (a.tdiv b)))
 | .rem => if b = 0 then none else some (.int k (a.tmod b))
 | .and => some (.int k (k.wrap (BitVec.ofInt k.bits a &&& BitVec.ofInt k.bits b).toNat))
 | .or => some (.int k (k.wrap (BitVec.ofInt k.bits a ||| BitVec.ofInt k.bits b).toNat))
 | .xor => some (.int k (k.wrap (BitVec.ofInt k.bits a ^^^ BitVec.ofInt k.bits b).toNat))
 | .andNot => some (.int k (k.wrap (BitVec.ofInt k.bits a &&& ~~~ BitVec.ofInt k.bits b).toNat))
 | .eql => some (.bool (a == b))
 | .neq => some (.bool (a != b))
 | .lss => some (.bool (decide (a < b)))
 | .leq => some (.bool (decide (a ≤ b)))
 | .gtr => some (.bool (decide (a > b)))
 | .geq => some (.bool (decide (a ≥ b)))
 | _ => none
def shiftA (op : BinOp) (k : IntKind) (a b : Int) : Option AV :=
 if b < 0 then none else
 match op with
 | .shl => some (.int k (k.wrap (a * 2 ^ (min b.toNat k.bits))))
 | .shr => some (.int k (a.fdiv (2 ^ (min b.toNat k.bits))))
 | _ => none
def strA (op : BinOp) (a b : List UInt8) : Option AV :=
 match op with
 | .add => if a.length + b.length ≤ 9223372036854775807 then some (.str (a ++ b)) else none
 | .eql => some (.bool (a == b))
 | .neq => some (.bool !(a == b))
 | .lss => some (.bool (Op.bytesLess a b))
 | .leq => some (.bool (Op.bytesLess a b || a == b))
 | .gtr => some (.bool !(Op.bytesLess a b || a == b))
 | .geq => some (.bool !(Op.bytesLess a b))
 | _ => none
def isConst : Operand → Bool
 | .const _ => true
 | _ => false
/-- may two nil interface values, two structs be compared? -/
def eqGuardA (E : Env) (t : TypeId) (x y : Operand) (a b : AV) : Bool :=
 match a, b with
 | .nili, .nili => isConst x || isConst y
 | .agg _, .agg _ => match E.ti t with
  | some i => i.cmp
  | none => false
 | .undef, _ => false
 | _, .undef => false
 | _, _ => true
def binA (E : Env) (op : BinOp) (t : TypeId) (x y : Operand) (a b : AV) : Option AV :=
 match op, a, b with
 | .shl, .int k m, .int _ n => shiftA .shl k m n
 | .shr, .int k m, .int _ n => shiftA .shr k m n
 | _, .int k m, .int k' n => if k = k' then intA op k m n else none
 | _, .str m, .str n => strA op m n
 | .eql, a, b => if eqGuardA E t x y a b then (eqA E 10000 t a b).map .bool else none
 | .neq, a, b => if eqGuardA E t x y a b then (eqA E 10000 t a b).map (fun r => .bool !r) else none
 | _, _, _ => none
def unA (op : UnOp) (x : AV) : Option AV :=
 match op, x with
 | .neg, .int k n => some (.int k (k.wrap (0 - n)))
 | .xor, .int k n => some (.int k (k.wrap (BitVec.ofInt k.bits (if k.signed then -1 else k.max) ^^^ BitVec.ofInt k.bits n).toNat))
 | .not, .bool b => some (.bool !b)
 | _, _ => none
def convA (E : Env) (s d : TypeId) (x : AV) : Option AV :=
 match E.desc s, E.desc d, x with
 | some _, some (.int k), .int _ n => some (.int k (k.wrap n))
 | some _, some .string, .str l => some (.str l)
 | _, _, _ => none
/-- the field of a struct type: its place, its type -/
def fieldOf (E : Env) (t : TypeId) (f : Nat) : Option (Nat × TypeId) :=
 match E.desc t with
 | some (.struct fs) => (fs[f]?).map fun x => (x.offset, x.type)
 | _ => none
def fieldAddrA (E : Env) (t : TypeId) (x : AV) (f : Nat) : Option AV :=
 match fieldOf E t f with
 | some (off, u) =>
  match E.size u with
  | some (_ + 1) =>
   match x with
   | .ptr i o => some (.ptr i (o + off))
   | .rptr cs => some (.rptr (cs.drop off))
   | _ => none
  | _ => none
 | none => none
def fieldA (E : Env) (t : TypeId) (x : AV) (f : Nat) : Option AV :=
 match fieldOf E t f, x with
 | some (off, u), .agg cs => partA E u cs off
 | _, _ => none
def setCells {α : Type} (cs : List α) (off : Nat) : List α → List α
 | [] => cs
 | v :: vs => setCells (cs.set off v) (off + 1) vs
def fillA (place : Nat → Option (Nat × Nat)) (cs : List AV) : List (Nat × AV) → Option (List AV)
 | [] => some cs
 | (i, v) :: rest =>
  match place i with
  | none => none
  | some (off, size) =>
   if v.known ∧ v.cells.length = size ∧ off + v.cells.length ≤ cs.length then fillA place (setCells cs off v.cells) rest else none
def fieldPlaces (E : Env) : List Field → Option (List (Nat × Nat))
 | [] => some []
 | f :: fs =>
  match E.size f.type, fieldPlaces E fs with
  | some s, some r => some ((f.offset, s) :: r)
  | _, _ => none
def buildA (E : Env) (t : TypeId) (parts : List (Nat × AV)) : Option AV :=
 match E.ti t with
 | none => none
 | some x =>
  match x.desc with
  | .struct fs =>
   match fieldPlaces E fs.toList with
   | some ps => (fillA (fun i => ps[i]?) x.zero parts).map .agg
   | none => none
  | .array _ e =>
   match E.size e with
   | some s => (fillA (fun i => some (i * s, s)) x.zero parts).map .agg
   | none => none
  | _ => none
def indexAddrA (E : Env) (t : TypeId) (x i : AV) : Option AV :=
 match E.desc t, i with
 | some (.slice e), .int _ n =>
  match E.size e with
  | none => none
  | some s =>
   match x with
   | .slice es _ =>
    if 0 ≤ n ∧ n < es.length then
     match es[n.toNat]? with
     | some v => if v.cells.length = s then some (.rptr v.cells) else none
     | none => none
    else none
   | .rsl id off len _ => if 0 ≤ n ∧ n < len then some (.ptr id (off + n.toNat * s)) else none
   | _ => none
 | some (.array len e), .int _ n =>
  match E.size e with
  | none => none
  | some s =>
   if 0 ≤ n ∧ n < len then
    match x with
    | .ptr id off => some (.ptr id (off + n.toNat * s))
    | .rptr cs => some (.rptr (cs.drop (n.toNat * s)))
    | _ => none
   else none
 | _, _ => none
def indexA (E : Env) (t : TypeId) (x i : AV) : Option AV :=
 match E.desc t, x, i with
 | some (.array len e), .agg cs, .int _ n =>
  if 0 ≤ n ∧ n < len then
   match E.size e with
   | some s => partA E e cs (n.toNat * s)
   | none => none
  else none
 | some .string, .str l, .int _ n =>
  if 0 ≤ n ∧ n < l.length then
   match l[n.toNat]? with
   | some b => some (.int .u8 b.toNat)
   | none => none
  else none
 | _, _, _ => none
def boundA (x : AV) (y : Nat) : Option Nat :=
 match x with
 | .int _ n => if 0 ≤ n ∧ n ≤ y then some n.toNat else none
 | _ => none
def boundMx (mx : Option AV) (cap : Nat) : Option Nat :=
 match mx with
 | some v => boundA v cap
 | none => some cap
def boundHi (hi : Option AV) (len m : Nat) (mx : Bool) : Option Nat :=
 match hi with
 | some v => boundA v m
 | none => if mx then none else some len
def boundLo (lo : Option AV) (h : Nat) : Option Nat :=
 match lo with
 | some v => boundA v h
 | none => some 0
/-- the bounds of a slice expression: low, high, max (if it is said) -/
def boundsA (len cap : Nat) (lo hi mx : Option AV) : Option (Nat × Nat × Nat) :=
 match boundMx mx cap with
 | none => none
 | some m =>
  match boundHi hi len m mx.isSome with
  | none => none
  | some h =>
   match boundLo lo h with
   | none => none
   | some l => some (l, h, m)
def headSz (s : Nat) : List AV → Bool
 | [] => true
 | x :: _ => x.cells.length == s
def sliceA (E : Env) (t : TypeId) (x : AV) (lo hi mx : Option AV) : Option AV :=
 match E.desc t, x with
 | some .string, .str s =>
  if mx.isSome then none else
  match boundsA s.length s.length lo hi none with
  | some (l, h, _) => some (.str ((s.take h).drop l))
  | none => none
 | some (.slice e), .nils =>
  match E.size e, boundsA 0 0 lo hi mx with
  | some _, some _ => some .nils
  | _, _ => none
 | some (.slice e), .slice es tk =>
  match E.size e, boundsA es.length es.length lo hi mx with
  | some s, some (l, h, m) =>
   if headSz s es then
    some (.slice ((es.take h).drop l) (if es.isEmpty then .dead else if mx.isSome then (if m = h then .full else .dead) else if h = es.length then tk else .dead))
   else none
  | _, _ => none
 | some (.slice e), .rsl id off len cap =>
  match E.size e, boundsA len cap lo hi mx with
  | some s, some (l, h, m) => if len ≤ cap then (if m = l then some (.slice [] .full) else some (.rsl id (off + l * s) (h - l) (m - l))) else none
  | _, _ => none
 | some (.array n e), .ptr id off =>
  match E.size e, boundsA n n lo hi mx with
  | some s, some (l, h, m) => if m = l then some (.slice [] .full) else some (.rsl id (off + l * s) (h - l) (m - l))
  | _, _ => none
 | _, _ => none
def assertA (E : Env) (x : AV) (asserted : TypeId) (ok : Bool) : Option AV :=
 match E.ti asserted with
 | none => none
 | some i =>
  match i.desc with
  | .interface _ => none
  | _ =>
   match x with
   | .nili => if ok then some (.tup [i.zeroV, .bool false]) else none
   | .iface t v =>
    if t = asserted then (if ok then some (.tup [v, .bool true]) else some v)
    else if ok then some (.tup [i.zeroV, .bool false]) else none
   | _ => none
def maxA (op : Builtin) : AV → AV → Option AV
 | .int k a, .int _ b =>
  match op with
  | .max => some (.int k (if b > a then b else a))
  | .min => some (.int k (if b < a then b else a))
  | _ => none
 | _, _ => none
def foldA (f : AV → AV → Option AV) : AV → List AV → Option AV
 | x, [] => some x
 | x, y :: r =>
  match f x y with
  | some z => foldA f z r
  | none => none
def lenA (E : Env) (t : TypeId) (x : AV) : Option AV :=
 match E.desc t, x with
 | some .string, .str l => some (.int .i64 l.length)
 | some (.array n _), _ => some (.int .i64 n)
 | some (.pointer a), _ =>
  match E.desc a with
  | some (.array n _) => some (.int .i64 n)
  | _ => none
 | some (.slice _), .nils => some (.int .i64 0)
 | some (.slice _), .slice es _ => some (.int .i64 es.length)
 | some (.slice _), .rsl _ _ n _ => some (.int .i64 n)
 | _, _ => none
def repElems (n : Nat) (v : AV) : List AV := List.replicate n v
def fillE (size : Nat) (es : List AV) : List (Nat × AV) → Option (List AV)
 | [] => some es
 | (i, v) :: rest => if v.known ∧ v.cells.length = size ∧ i < es.length then fillE size (es.set i v) rest else none
def pureA (E : Env) (ρ : Operand → AV) : Op → Option AV
 | .move x | .assign x => some (ρ x)
 | .pick c a b =>
  match ρ c with
  | .bool true => some (ρ a)
  | .bool false => some (ρ b)
  | _ => none
 | .build t parts => buildA E t (parts.toList.map fun (i, x) => (i, ρ x))
 | .buildSlice t len parts =>
  match E.desc t with
  | some (.slice e) =>
   match E.ti e with
   | some i =>
    if len * i.size ≤ 16777216 then
     (fillE i.size (repElems len i.zeroV) (parts.toList.map fun (j, x) => (j, ρ x))).map (.slice · (if len = 0 then .lit else .full))
    else none
   | none => none
  | _ => none
 | .nilCheck x =>
  match ρ x with
  | .ptr i o => some (.ptr i o)
  | .rptr cs => some (.rptr cs)
  | .fn f a b => some (.fn f a b)
  | .fref (.method nm) (.iface t v :: a) b => if (E.mth t nm).isSome then some (.fref (.method nm) (.iface t v :: a) b) else none
  | .iface t v => some (.iface t v)
  | .yld i => some (.yld i)
  | _ => none
 | .binOp op t x y _ => binA E op t x y (ρ x) (ρ y)
 | .unOp op _ x => unA op (ρ x)
 | .convert s d x => convA E s d (ρ x)
 | .makeInterface t x =>
  match E.desc t with
  | none => none
  | some (.interface _) => none
  | some _ => some (.iface t (ρ x))
 | .makeFunc (.func f) first cap => some (.fn f (first.toList.map ρ) (cap.toList.map ρ))
 | .makeFunc (.method nm) first cap => some (.fref (.method nm) (first.toList.map ρ) (cap.toList.map ρ))
 | .fieldAddr t x f => fieldAddrA E t (ρ x) f
 | .field t x f => fieldA E t (ρ x) f
 | .indexAddr t x i => indexAddrA E t (ρ x) (ρ i)
 | .index t x i => indexA E t (ρ x) (ρ i)
 | .slice t x lo hi mx => sliceA E t (ρ x) (lo.map ρ) (hi.map ρ) (mx.map ρ)
 | .typeAssert x _ a ok => assertA E (ρ x) a ok
 | .extract x i =>
  match ρ x with
  | .tup vs => vs[i]?
  | _ => none
 | .call c =>
  match c.callee, c.args.toList with
  | .builtin .len, [x] =>
   match c.argTypes[0]? with
   | some t => lenA E t (ρ x)
   | none => none
  | .builtin .max, x :: r => foldA (maxA .max) (ρ x) (r.map ρ)
  | .builtin .min, x :: r => foldA (maxA .min) (ρ x) (r.map ρ)
  | _, _ => none
 | _ => none
/-! operations that read -/
def loadA (E : Env) (S : St) (t : TypeId) (a : AV) : Option AV :=
 match E.ti t with
 | none => none
 | some x =>
  match a with
  | .rptr cs => if x.agg then (if x.size ≤ cs.length then some (.agg (cs.take x.size)) else none) else cs[0]?
  | .ptr i off =>
   match S.cells? i with
   | some cs => if x.agg then (if off + x.size ≤ cs.length then some (.agg ((cs.drop off).take x.size)) else none) else cs[off]?
   | none => none
  | _ => none
def keyEq : AV → AV → Option Bool
 | .int k a, .int k' b => if k = k' then some (a == b) else none
 | .str a, .str b => some (a == b)
 | .bool a, .bool b => some (a == b)
 | _, _ => none
/-- keys that are told apart -/
def apartB : List AV → Bool
 | [] => true
 | k :: ks => (ks.all fun k' => (match keyEq k k' with | some false => true | _ => false) && (match keyEq k' k with | some false => true | _ => false)) && apartB ks
def findA (k : AV) : List (AV × AV) → Option (Option AV)
 | [] => some none
 | (k', v) :: es =>
  match keyEq k k' with
  | some true => some (some v)
  | some false => findA k es
  | none => none
def keyDesc : TypeDesc → AV → Bool
 | .int _, .int _ _ => true
 | .string, .str _ => true
 | .bool, .bool _ => true
 | _, _ => false
def plainKey (E : Env) (t : TypeId) (k : AV) : Bool :=
 match E.desc t with
 | some d => keyDesc d k
 | none => false
def lookupA (E : Env) (S : St) (t : TypeId) (x k : AV) (ok : Bool) : Option AV :=
 match E.desc t with
 | some (.map kt et) =>
  if plainKey E kt k then
   match E.ti et with
   | none => none
   | some i =>
    match (match x with
     | .nilm => some []
     | .map id => (match S.get id with | some (.map es) => some es | _ => none)
     | .rmap ks vs => some (ks.zip vs)
     | _ => none) with
    | none => none
    | some es =>
     match findA k es with
     | some (some v) => some (if ok then .tup [v, .bool true] else v)
     | some none => some (if ok then .tup [i.zeroV, .bool false] else i.zeroV)
     | none => none
  else none
 | _ => none
def readA (E : Env) (ρ : Operand → AV) (S : St) : Op → Option AV
 | .load t a => loadA E S t (ρ a)
 | .lookup t x k ok => lookupA E S t (ρ x) (ρ k) ok
 | _ => none
/-! operations that write, make memory, call -/
def repeatL (n : Nat) (l : List AV) : List AV := (List.replicate n l).flatten
/-- the elements of so many cells -/
def chop (agg : Bool) (s : Nat) : Nat → List AV → List AV
 | 0, _ => []
 | n + 1, cs => (if agg then .agg (cs.take s) else cs.headD .undef) :: chop agg s n (cs.drop s)
/-- the elements of a slice value -/
def elemsA (E : Env) (S : St) (e : TypeId) (x : AV) : Option (List AV) :=
 match x with
 | .nils => some []
 | .slice es _ => some es
 | .rsl id off len _ =>
  match E.ti e, S.cells? id with
  | some i, some cs => if off + len * i.size ≤ cs.length ∧ ((cs.drop off).take (len * i.size)).all (·.isCell) then some (chop i.agg i.size len (cs.drop off)) else none
  | _, _ => none
 | _ => none
/-- a bound for lengths: far more than anything that is made -/
def roomMost : Nat := 1099511627776
/-- room for so many elements -/
def roomOk (i : TI) (n : Nat) : Bool := decide (n * (i.bytes + 1) ≤ roomMost)
def spend (S : St) : Tk → Nat → Option St
 | .full, _ => some S
 | .lit, _ => some S
 | .dead, _ => none
 | .tok j s, sz =>
  match S.get j with
  | some (.tok false) => if s = sz then some (S.put j (.tok true)) else none
  | _ => none
def appendA (E : Env) (S : St) (e : TypeId) (s : AV) (new : List AV) : Option (AV × St) :=
 match E.ti e with
 | none => none
 | some i =>
  if (new.flatMap AV.cells).all (·.isCell) ∧ new.all (fun v => v.cells.length = i.size) ∧ i.size ≠ 0 then
  match s with
  | .nils =>
   match new with
   | [] => some (.nils, S)
   | _ =>
    if E.own e = true ∧ i.size = 1 then
     if roomOk i new.length then some (.rsl S.n 0 new.length 0, (S.push (.cells (new.flatMap AV.cells))).push (.tok false)) else none
    else if roomOk i new.length then some (.slice new (.tok S.n i.size), S.push (.tok false)) else none
  | .slice es tk =>
   match new with
   | [] => if es.isEmpty && decide (tk = .dead) then none else some (.slice es tk, S)
   | _ =>
    if tk = .lit ∧ i.size = 1 then
     if es.isEmpty ∧ roomOk i new.length then some (.rsl S.n 0 new.length 0, (S.push (.cells (new.flatMap AV.cells))).push (.tok false)) else none
    else if headSz i.size es ∧ roomOk i (es.length + new.length) then
     match spend S tk i.size with
     | some S1 => some (.slice (es ++ new) (.tok S.n i.size), S1.push (.tok false))
     | none => none
    else none
  | .rsl id off len cap =>
   if len + new.length ≤ cap then
    match S.cells? id with
    | some cs =>
     if off + (len + new.length) * i.size ≤ cs.length then
      some (.rsl id off (len + new.length) cap, S.put id (.cells (setCells cs (off + len * i.size) (new.flatMap AV.cells))))
     else none
    | none => none
   else if cap = 0 ∧ len ≠ 0 then
    match S.cells? id, S.get (id + 1) with
    | some cs, some (.tok false) =>
     if off = 0 ∧ i.size = 1 ∧ new.length ≠ 0 ∧ cs.length = len ∧ cs.all (·.isCell) ∧ roomOk i (len + new.length) then
      some (.rsl S.n 0 (len + new.length) 0, (((S.put id (.cells [])).put (id + 1) (.tok true)).push (.cells (cs ++ new.flatMap AV.cells))).push (.tok false))
     else none
    | _, _ => none
   else
    match elemsA E S e (.rsl id off len cap) with
    | some es => if roomOk i (es.length + new.length) then some (.slice (es ++ new) (.tok S.n i.size), S.push (.tok false)) else none
    | none => none
  | _ => none
  else none
def storeA (E : Env) (S : St) (t : TypeId) (a v : AV) : Option St :=
 match E.size t, a with
 | some s, .ptr i off =>
  match S.cells? i with
  | some cs => if v.known ∧ v.cells.length = s ∧ off + s ≤ cs.length ∧ v.cells.all (·.isCell) then some (S.put i (.cells (setCells cs off v.cells))) else none
  | none => none
 | _, _ => none
/-- elements over the first ones of a slice -/
def copyA (E : Env) (S : St) (e : TypeId) (s : AV) (new : List AV) : Option St :=
 match E.ti e, s with
 | some i, .rsl id off len _ =>
  if (new.flatMap AV.cells).all (·.isCell) ∧ new.all (fun v => v.cells.length = i.size) ∧ new.length ≤ len then
   match S.cells? id with
   | some cs => if off + new.length * i.size ≤ cs.length then some (S.put id (.cells (setCells cs off (new.flatMap AV.cells)))) else none
   | none => none
  else none
 | _, _ => none
def putKey (k v : AV) : List (AV × AV) → Option (List (AV × AV))
 | [] => some [(k, v)]
 | (k', u) :: es =>
  match keyEq k k' with
  | some true => some ((k', v) :: es)
  | some false => (putKey k v es).map ((k', u) :: ·)
  | none => none
inductive Callee' where
 | fn (f : FuncId)
 | yld (i : Nat)
inductive FRes where
 | ret (v : AV)
 | pan (v : AV)
abbrev CallF := Callee' → List AV → St → Option (FRes × St)
inductive Eff where
 | val (v : AV) (S : St)
 | dfr (d : ADef)
 | rcv
 | pan (v : AV) (S : St)
inductive Out where
 | ok (L : Loc) (S : St)
 | pan (v : AV) (L : Loc) (S : St)
def nowhere : AV := .tup []
def retE : Option (FRes × St) → Option Eff
 | some (.ret v, S) => some (.val v S)
 | some (.pan v, S) => some (.pan v S)
 | none => none
def actA (E : Env) (call : CallF) (ρ : Operand → AV) (S : St) : Op → Option Eff
 | .alloc e =>
  match E.ti e with
  | some i => some (.val (.ptr S.n 0) (S.push (.cells i.zero)))
  | none => none
 | .box _ x => if (ρ x).known then some (.val (.ptr S.n 0) (S.push (.cells (ρ x).cells))) else none
 | .makeSlice t l c =>
  match E.desc t, ρ l, ρ c with
  | some (.slice e), .int _ n, .int _ m =>
   match E.ti e with
   | some i => if 0 ≤ n ∧ n ≤ m ∧ m * (i.bytes + 1) ≤ roomMost then some (.val (.rsl S.n 0 n.toNat m.toNat) (S.push (.cells (repeatL m.toNat i.zero)))) else none
   | none => none
  | _, _, _ => none
 | .makeMap t none =>
  match E.desc t with
  | some (.map _ _) => some (.val (.map S.n) (S.push (.map [])))
  | _ => none
 | .range t x =>
  match E.desc t, ρ x with
  | some (.map _ _), .rmap ks vs => some (.val (.ptr S.n 0) (S.push (.iter ks vs)))
  | _, _ => none
 | .entry it =>
  match ρ it with
  | .ptr i 0 =>
   match S.get i with
   | some (.iter1 k v) => some (.val (.tup [k, v]) S)
   | _ => none
  | _ => none
 | .store t a v =>
  match storeA E S t (ρ a) (ρ v) with
  | some S' => some (.val nowhere S')
  | none => none
 | .mapUpdate t m k v | .insert t m k v =>
  match E.desc t, ρ m with
  | some (.map kt _), .map id =>
   if plainKey E kt (ρ k) ∧ (ρ v).known then
    match S.get id with
    | some (.map es) =>
     match putKey (ρ k) (ρ v) es with
     | some es' => some (.val nowhere (S.put id (.map es')))
     | none => none
    | _ => none
   else none
  | _, _ => none
 | .call c =>
  match c.callee with
  | .builtin .append =>
   match c.args.toList, c.argTypes.toList with
   | [s, x], [t, u] =>
    match E.desc t, E.desc u with
    | some (.slice e), some (.slice _) =>
     match elemsA E S e (ρ x) with
     | some new =>
      match appendA E S e (ρ s) new with
      | some (v, S') => some (.val v S')
      | none => none
     | none => none
    | _, _ => none
   | _, _ => none
  | .builtin .copy =>
   match c.args.toList, c.argTypes.toList with
   | [s, x], [t, u] =>
    match E.desc t, E.desc u with
    | some (.slice e), some (.slice _) =>
     match elemsA E S e (ρ x) with
     | some new =>
      match copyA E S e (ρ s) new with
      | some S' => some (.val (.int .i64 new.length) S')
      | none => none
     | none => none
    | _, _ => none
   | _, _ => none
  | .builtin .recover => some .rcv
  | .builtin _ => none
  | .invoke r nm =>
   match ρ r with
   | .iface t v =>
    match E.mth t nm with
    | some g => retE (call (.fn g) (v :: c.args.toList.map ρ) S)
    | none => none
   | _ => none
  | .value f =>
   match ρ f with
   | .fref (.method nm) (.iface t v :: first) _ =>
    match E.mth t nm with
    | some g => retE (call (.fn g) (v :: (first ++ c.args.toList.map ρ)) S)
    | none => none
   | .fn g first cap =>
    match E.ext g with
    | some h =>
     match h (first ++ c.args.toList.map ρ ++ cap) with
     | some v => some (.val v S)
     | none => none
    | none => retE (call (.fn g) (first ++ c.args.toList.map ρ ++ cap) S)
   | .yld i => retE (call (.yld i) (c.args.toList.map ρ) S)
   | _ => none
 | .defer c =>
  match c.callee with
  | .value f =>
   match ρ f with
   | .fn g first cap => some (.dfr (.call g (first ++ c.args.toList.map ρ ++ cap)))
   | _ => none
  | _ => none
 | .panic x =>
  match ρ x with
  | .iface t v => some (.pan (.iface t v) S)
  | _ => none
 | _ => none
inductive OpK where
 | pure
 | read
 | new
 | act
 deriving DecidableEq
def opK : Op → OpK
 | .move _ | .assign _ | .pick .. | .build .. | .nilCheck _ | .binOp .. | .unOp .. | .convert .. | .makeInterface .. | .makeFunc .. | .fieldAddr .. | .field ..
 | .indexAddr .. | .index .. | .slice .. | .typeAssert .. | .extract .. | .buildSlice .. => .pure
 | .load .. | .lookup .. => .read
 | .alloc _ | .box .. | .makeSlice .. => .new
 | .call c =>
  match c.callee with
  | .builtin .len | .builtin .max | .builtin .min => .pure
  | _ => .act
 | _ => .act
def effA (E : Env) (call : CallF) (ρ : Operand → AV) (op : Op) (S : St) : Option Eff :=
 match opK op with
 | .pure => match pureA E ρ op with
  | some v => some (.val v S)
  | none => none
 | .read => match readA E ρ S op with
  | some v => some (.val v S)
  | none => none
 | _ => actA E call ρ S op
/-- what is made anew beside these: the bytes of a text -/
def newA (E : Env) (ρ : Operand → AV) (op : Op) (S : St) : Option Eff :=
 match op with
 | .convert s d x =>
  match E.desc s, E.desc d, ρ x with
  | some .string, some (.slice e), .str l =>
   match E.desc e with
   | some (.int .u8) => some (.val (.slice (l.map fun b => .int .u8 b.toNat) .dead) S)
   | _ => none
  | _, _, _ => none
 | _ => none
def effR (E : Env) (call : CallF) (ρ : Operand → AV) (op : Op) (S : St) : Option Eff :=
 match effA E call ρ op S with
 | some e => some e
 | none => newA E ρ op S
def applyE (vars : List Tmp) (dst : Option Tmp) (L : Loc) : Eff → St → Option Out
 | .val v S', _ => some (.ok (L.putO vars dst v) S')
 | .dfr d, S =>
  match L.rnd with
  | none => some (.ok ({ L with defers := d :: L.defers }.putO vars dst nowhere) S)
  | some _ => none
 | .rcv, S =>
  match L.rnd, L.recs with
  | none, .no => some (.ok (L.putO vars dst .nili) S)
  | none, .pan v => some (.ok ({ L with recs := .done }.putO vars dst v) S)
  | _, _ => none
 | .pan v S', _ => some (.pan v L S')
def inFrame (nt : Nat) : Option Tmp → Bool
 | some d => decide (d < nt)
 | none => true
def stepA (E : Env) (call : CallF) (vars : List Tmp) (nt : Nat) (o : Oper) (L : Loc) (S : St) : Option Out :=
 if inFrame nt o.dst then
  match effR E call (evO E vars L) o.op S with
  | some e => applyE vars o.dst L e S
  | none => none
 else none
/-- is the operation wanted? none: it can't be told -/
def wantA (vars : List Tmp) (ops : List Oper) (o : Oper) (L : Loc) : Option Bool :=
 match o.guard with
 | none => some true
 | some (j, want) =>
  match (ops[j]?).bind (·.dst) with
  | none => some false
  | some d =>
   match L.get vars d with
   | .bool b => some (b == want)
   | .tup _ => some false
   | _ => none
def runA (E : Env) (call : CallF) (vars : List Tmp) (nt : Nat) (ops : List Oper) : List Oper → Loc → St → Option Out
 | [], L, S => some (.ok L S)
 | o :: rest, L, S =>
  match wantA vars ops o L with
  | some true =>
   match stepA E call vars nt o L S with
   | some (.ok L' S') => if S'.bad then none else runA E call vars nt ops rest L' S'
   | some (.pan v L' S') => some (.pan v L' S')
   | none => none
  | some false => if inFrame nt o.dst then runA E call vars nt ops rest (L.putO vars o.dst nowhere) S else none
  | none => none
/-! a region that draws its order -/
mutual
def AV.beq : AV → AV → Bool
 | .undef, .undef => true
 | .bool a, .bool b => a == b
 | .int k a, .int k' b => decide (k = k') && a == b
 | .str a, .str b => a == b
 | .nilp, .nilp => true
 | .ptr i o, .ptr j p => i == j && o == p
 | .rptr a, .rptr b => AV.beqL a b
 | .nils, .nils => true
 | .slice a t, .slice b u => AV.beqL a b && decide (t = u)
 | .rsl a b c d, .rsl a' b' c' d' => a == a' && b == b' && c == c' && d == d'
 | .nilm, .nilm => true
 | .map i, .map j => i == j
 | .fn f a b, .fn g c d => f == g && AV.beqL a c && AV.beqL b d
 | .fref f a b, .fref g c d => decide (f = g) && AV.beqL a c && AV.beqL b d
 | .rmap a b, .rmap c d => AV.beqL a c && AV.beqL b d
 | .yld i, .yld j => i == j
 | .nilf, .nilf => true
 | .iface t v, .iface u w => t == u && AV.beq v w
 | .nili, .nili => true
 | .agg a, .agg b => AV.beqL a b
 | .tup a, .tup b => AV.beqL a b
 | _, _ => false
def AV.beqL : List AV → List AV → Bool
 | [], [] => true
 | a :: x, b :: y => AV.beq a b && AV.beqL x y
 | _, _ => false
end
structure Entry where
 i : Nat
 o : Oper
 L : Loc
 S : St
 S' : St
 v : AV
inductive TEnd where
 | ok (L : Loc) (S : St)
 | pan (v : AV) (L : Loc) (S : St) (i : Nat) (rest : List Nat)
def befOf (done : List Nat) (o : Oper) : Nat :=
 o.after.toList.foldl (fun s e => if Region.binds .any e then s ||| 2 ^ e.on ||| done.getD e.on 0 else s) 0
def befL : List Oper → List Nat → List Nat
 | [], done => done
 | o :: r, done => befL r (done ++ [befOf done o])
/-- is operation i before operation j in every order? -/
def bef (b : List Nat) (i j : Nat) : Bool := (b.getD j 0).testBit i
def comparable (b : List Nat) (i j : Nat) : Bool := bef b i j || bef b j i
/-- all that a step of the operation looks at or writes -/
def namesOf (ops : List Oper) (o : Oper) : List Tmp :=
 o.dst.toList ++ (o.op.operands.toList.filterMap fun | .tmp t => some t | _ => none) ++
 (match o.guard with
  | some (g, _) => ((ops[g]?).bind (·.dst)).toList
  | none => [])
def maskE (E : Env) (vars : List Tmp) (ns : List Tmp) (L : Loc) : Operand → AV
 | .tmp t => if ns.contains t then L.get vars t else .undef
 | x => evO E vars L x
def apartA (ops : List Oper) (x y : Oper) : Bool :=
 (match x.dst with | some d => !(namesOf ops y).contains d | none => true) &&
 (match y.dst with | some d => !(namesOf ops x).contains d | none => true)
def quietOp : Op → Bool
 | .defer _ => false
 | .call c => match c.callee with
  | .builtin .recover => false
  | _ => true
 | _ => true
/-- the order in which a region that draws is run here: new memory as late as can be -/
def hold (b : List Nat) (j : Nat) : List (Oper × Nat) → List (Oper × Nat) × List (Oper × Nat)
 | [] => ([], [])
 | (x, i) :: r => if bef b i j then ((x, i) :: (hold b j r).1, (hold b j r).2) else ((hold b j r).1, (x, i) :: (hold b j r).2)
def tauOf (b : List Nat) : List (Oper × Nat) → List (Oper × Nat) → List (Oper × Nat)
 | [], held => held
 | (x, i) :: r, held =>
  if opK x.op == .new then tauOf b r (held ++ [(x, i)])
  else (hold b i held).1 ++ (x, i) :: tauOf b r (hold b i held).2
def isState (o : Oper) : Bool := opK o.op == .new || opK o.op == .act
/-- two operations, the first of them ahead here -/
def pairOk (b : List Nat) (ops : List Oper) (j : Nat) (y : Oper) (i : Nat) (x : Oper) : Bool :=
 j != i && !bef b i j &&
 (bef b j i || (apartA ops y x && !(opK x.op == .act && isState y)))
/-- what leans on new memory is behind all that this memory is behind here -/
def leanOk (b : List Nat) (ops : List Oper) (i : Nat) : List Nat → List Nat → Bool
 | _, [] => true
 | ahead, j :: r =>
  (match ops[j]? with
   | some y => if opK y.op == .new && bef b j i then ahead.all (fun k => bef b k i) else true
   | none => false) &&
  leanOk b ops i (match ops[j]? with | some y => if isState y then ahead ++ [j] else ahead | none => ahead) r
/-- what is looked at once of a region that draws, with the order in which it is run here -/
def tauOk (b : List Nat) (ops : List Oper) : List Nat → List Nat → Bool
 | _, [] => true
 | done, i :: r =>
  (match ops[i]? with
   | some x => quietOp x.op && (done.all fun j => match ops[j]? with | some y => pairOk b ops j y i x | none => false) && (opK x.op == .act || leanOk b ops i [] done)
   | none => false) && tauOk b ops (done ++ [i]) r
def drawOk (ops : List Oper) (tau : List Nat) : Bool :=
 tauOk (befL ops []) ops [] tau && (List.range ops.length).all (fun i => tau.contains i) && (ops.zipIdx.all fun (o, i) => o.after.toList.all fun e => !Region.binds .any e || decide (e.on < i))
def runT (E : Env) (call : CallF) (vars : List Tmp) (nt : Nat) (ops : List Oper) : List Nat → Loc → St → Option (List Entry × TEnd)
 | [], L, S => some ([], .ok L S)
 | i :: rest, L, S =>
  match ops[i]? with
  | none => none
  | some o =>
   if inFrame nt o.dst then
    match wantA vars ops o L with
    | some true =>
     match effA E call (maskE E vars (namesOf ops o) L) o.op S with
     | some (.val v S') =>
      match runT E call vars nt ops rest (L.putO vars o.dst v) S' with
      | some (es, e) => some (⟨i, o, L, S, S', v⟩ :: es, e)
      | none => none
     | some (.pan v S') => some ([], .pan v L S' i rest)
     | _ => none
    | some false =>
     match runT E call vars nt ops rest (L.putO vars o.dst nowhere) S with
     | some (es, e) => some (⟨i, o, L, S, S, nowhere⟩ :: es, e)
     | none => none
    | none => none
   else none
/-- a read and an act that may come in either order: the read reads the same before and behind the act -/
def readsSame (E : Env) (vars : List Tmp) (ops : List Oper) (r c : Entry) : Bool :=
 match readA E (maskE E vars (namesOf ops r.o) r.L) c.S r.o.op, readA E (maskE E vars (namesOf ops r.o) r.L) c.S' r.o.op with
 | some v1, some v2 => AV.beq r.v v1 && AV.beq r.v v2
 | _, _ => false
def isRead (vars : List Tmp) (ops : List Oper) (e : Entry) : Bool := opK e.o.op == .read && (wantA vars ops e.o e.L == some true)
def trOk (E : Env) (vars : List Tmp) (ops : List Oper) (b : List Nat) (tr : List Entry) : Bool :=
 tr.all fun r => !isRead vars ops r || tr.all fun c => !isState c.o || comparable b r.i c.i || readsSame E vars ops r c
def forget (vars : List Tmp) : List Oper → Loc → Loc
 | [], L => L
 | o :: r, L => forget vars r (L.putO vars o.dst .undef)
/-- behind a panic: what may have come ahead of it all the same can't fail -/
def behindPan (E : Env) (nt : Nat) (b : List Nat) (ops : List Oper) (i j : Nat) : Bool :=
 bef b i j || (match ops[j]? with
  | some x => inFrame nt x.dst && x.guard.isNone && (match x.op with
   | .alloc e => (E.ti e).isSome
   | _ => false)
  | none => false)
def drawA (E : Env) (call : CallF) (vars : List Tmp) (nt : Nat) (ops : List Oper) (L : Loc) (S : St) : Option Out :=
 let b := befL ops []
 let tau := (tauOf b ops.zipIdx []).map (·.2)
 if drawOk ops tau then
  match runT E call vars nt ops tau L S with
  | some (tr, .ok L' S') => if trOk E vars ops b tr then some (.ok L' S') else none
  | some (tr, .pan v L' S' i rest) => if trOk E vars ops b tr && rest.all (behindPan E nt b ops i) then some (.pan v (forget vars ops L') S') else none
  | none => none
 else none
/-! code -/
abbrev CRes := Option (Ex × Loc × St)
def iter : Nat → (Loc → St → CRes) → Loc → St → CRes
 | 0, _, _, _ => none
 | n + 1, body, L, S =>
  match body L.clear S with
  | some (.normal, L', S') => iter n body L' S'
  | r => r
def thenC (f : Loc → St → CRes) : CRes → CRes
 | some (.normal, L, S) => f L S
 | r => r
def blockC (i : Nat) : CRes → CRes
 | some (.exit j, L, S) => if j = i then some (.normal, L, S) else some (.exit j, L, S)
 | r => r
def outC : Option Out → CRes
 | some (.ok L S) => some (.normal, L, S)
 | some (.pan v L S) => some (.pan v, L, S)
 | none => none
/-- the end of a range over a function: what is pending is done -/
def endC (l : Nat) (L : Loc) : Option (FRes × St) → CRes
 | some (.ret _, S) =>
  match S.get l with
  | some (.loop a) =>
   match a.state, a.pend with
   | .busy, _ => none
   | _, none => some (.normal, L, S.put l (.loop { a with state := .exhausted }))
   | _, some (.exit i) => some (.exit i, L, S.put l (.loop { a with state := .exhausted }))
   | _, some .ret => some (.ret, L, S.put l (.loop { a with state := .exhausted }))
   | _, _ => none
  | _ => none
 | some (.pan v, S) => some (.pan v, L, S)
 | none => none
structure Ctx where
 E : Env
 call : CallF
 it : (Loc → St → CRes) → Loc → St → CRes
 fid : FuncId
 vars : List Tmp
 nt : Nat
/-- does a region begin a round of a range over a map? its iterator, what is yielded, what is behind -/
def headNext (ops : Array Oper) : Option (Tmp × Tmp × List Oper) :=
 match ops.toList with
 | o :: r =>
  match o.op, o.guard, o.dst with
  | .next (.tmp t) false, none, some d => some (t, d, r)
  | _, _, _ => none
 | [] => none
/-- without what code may assign -/
def wipe (vars : List Tmp) : Code → Loc → Loc
 | .region _ ops _, L => forget vars ops.toList L
 | .seq a b, L => wipe vars b (wipe vars a L)
 | .cond _ a b, L => wipe vars b (wipe vars a L)
 | .block _ c, L => wipe vars c L
 | .loop c, L => wipe vars c L
 | .scope c, L => wipe vars c L
 | .rangeFunc _ _ a b, L => wipe vars b (wipe vars a L)
 | _, L => L
def leVals : List AV → List AV → Bool
 | [], [] => true
 | a :: x, b :: y => (match a with | .undef => true | _ => AV.beq a b) && leVals x y
 | _, _ => false
def RecS.isNo : RecS → Bool
 | .no => true
 | _ => false
/-- is all that is said here said there? -/
def leLoc (L L' : Loc) : Bool := leVals L.vals L'.vals && L.defers.isEmpty && L'.defers.isEmpty && L.recs.isNo && L'.recs.isNo && decide (L.rnd = L'.rnd)
/-- a round that leaves all as it was -/
def roundSame (rnd : AV → Loc → St → CRes) (i : Nat) (L : Loc) (S : St) (e : AV × AV) : Bool :=
 match rnd (.tup [.bool true, e.1, e.2]) L { S.put i (.iter1 e.1 e.2) with wb := S.n, bad := false } with
 | some (.normal, L', S') => leLoc L L' && !S'.bad
 | _ => false
def goesOut : CRes → CRes
 | some (.normal, _, _) => none
 | r => r
/-- a range over a map: the rounds of all entries but at most one leave all as it was, so the order makes no difference -/
def mapLoop (rnd : AV → Loc → St → CRes) (vars : List Tmp) (nt : Nat) (t d : Tmp) (L : Loc) (S : St) : CRes :=
 if d < nt then
  match L.get vars t with
  | .ptr i 0 =>
   match S.get i with
   | some (.iter ks vs) =>
    match (ks.zip vs).filter fun e => !roundSame rnd i L S e with
    | [] => goesOut (rnd (.tup [.bool false]) L (S.put i .iterX))
    | [e] => goesOut (rnd (.tup [.bool true, e.1, e.2]) L (S.put i (.iter1 e.1 e.2)))
    | _ => none
   | _ => none
  | _ => none
 else none
def evalC (X : Ctx) : Code → Loc → St → CRes
 | .skip, L, S => some (.normal, L, S)
 | .region _ ops draw, L, S =>
  outC (if draw then drawA X.E X.call X.vars X.nt ops.toList L.clear S else runA X.E X.call X.vars X.nt ops.toList ops.toList L.clear S)
 | .seq a b, L, S => thenC (evalC X b) (evalC X a L S)
 | .cond c x y, L, S =>
  match evO X.E X.vars L c with
  | .bool true => evalC X x L.clear S
  | .bool false => evalC X y L.clear S
  | _ => none
 | .block i c, L, S => blockC i (evalC X c L S)
 | .loop (.seq (.region id ops false) c), L, S =>
  match headNext ops with
  | none => X.it (evalC X (.seq (.region id ops false) c)) L S
  | some (t, d, r) => mapLoop (fun v L S => thenC (evalC X c) (outC (runA X.E X.call X.vars X.nt ops.toList r (L.clear.put X.vars d v) S))) X.vars X.nt t d (wipe X.vars (.seq (.region id ops false) c) L).clear S
 | .loop c, L, S => X.it (evalC X c) L S
 | .exit i, L, S => some (.exit i, L.clear, S)
 | .ret, L, S => some (.ret, L.clear, S)
 | .rangeFunc f params asg body, L, S =>
  match evO X.E X.vars L f with
  | .fn g first cap =>
   match L.rnd with
   | none =>
    let S1 := S.push (.dfr false)
    let S2 := S1.push (.loop { state := .ready, pend := none, fid := X.fid, vals := L.vals, params, asg, body, dfr := S.n })
    endC (S.n + 1) { L.clear with defers := .coll S.n :: L.defers } (X.call (.fn g) (first ++ [.yld (S.n + 1)] ++ cap) S2)
   | some l =>
    match S.get l with
    | some (.loop a) =>
     let S2 := S.push (.loop { state := .ready, pend := none, fid := X.fid, vals := L.vals, params, asg, body, dfr := a.dfr })
     endC S.n L.clear (X.call (.fn g) (first ++ [.yld S.n] ++ cap) S2)
    | _ => none
  | _ => none
 | .label _, L, S => some (.normal, L, S)
 | .scope c, L, S => evalC X c L S
 | .goto _, _, _ => none
 | .refuse _, _, _ => none
/-! functions -/
inductive Mode where
 | ret
 | pan (v : AV)
def resultsA (E : Env) (L : Loc) (vars : List Tmp) (S : St) : List ResultVar → Option (List AV)
 | [] => some []
 | .tmp t :: r => (resultsA E L vars S r).map (L.get vars t :: ·)
 | .cell a t :: r =>
  match loadA E S t (L.get vars a), resultsA E L vars S r with
  | some v, some vs => some (v :: vs)
  | _, _ => none
def resultV : List AV → AV
 | [v] => v
 | vs => .tup vs
/-- a call of a deferred function: what comes of the panic -/
abbrev CallD := FuncId → List AV → RecS → St → Option (RecS × St)
def unwindA (E : Env) (callD : CallD) (fi : FInfo) (L : Loc) : List ADef → Mode → St → Option (FRes × St)
 | [], .ret, S =>
  match resultsA E L fi.vars S fi.fn.results.toList with
  | some vs => some (.ret (resultV vs), S)
  | none => none
 | [], .pan v, S => some (.pan v, S)
 | .coll i :: ds, m, S =>
  match S.get i with
  | some (.dfr false) => unwindA E callD fi L ds m (S.put i (.dfr true))
  | _ => none
 | .call f args :: ds, m, S =>
  match callD f args (match m with | .ret => .no | .pan v => .pan v) S with
  | some (r, S') =>
   match m, r with
   | .ret, .no => unwindA E callD fi L ds .ret S'
   | .pan _, .pan v' => unwindA E callD fi L ds (.pan v') S'
   | .pan _, .done => unwindA E callD fi L ds .ret S'
   | _, _ => none
  | none => none
def startVals (vars : List Tmp) (args : List AV) : List AV := vars.map fun t => args.getD t .undef
def startLoc (fi : FInfo) (args : List AV) (r : RecS) : Loc := { vals := startVals fi.vars args, sc := [], defers := [], recs := r, rnd := none }
/-- one call, over what calls within it and loops do -/
def fnA (E : Env) (call : CallF) (callD : CallD) (it : (Loc → St → CRes) → Loc → St → CRes) (f : FuncId) (args : List AV) (S : St) : Option (FRes × St) :=
 match E.fn f with
 | none => none
 | some fi =>
  match fi.fn.body with
  | none => none
  | some c =>
   match E.lib f with
   | some h =>
    match h args with
    | some v => some (.ret v, S)
    | none => none
   | none =>
   match E.libS f with
   | some h =>
    match h S args with
    | some none => some (.ret (.tup []), S)
    | some (some (i, cs)) => some (.ret (.tup []), S.put i (.cells cs))
    | none => none
   | none =>
   if args.length ≤ fi.fn.ntmps then
    match evalC { E, call, it, fid := f, vars := fi.vars, nt := fi.fn.ntmps } c (startLoc fi args .no) S with
    | some (.normal, L, S') | some (.ret, L, S') => unwindA E callD fi L L.defers .ret S'
    | some (.pan v, L, S') => unwindA E callD fi L L.defers (.pan v) S'
    | _ => none
   else none
/-- a call of a deferred function, which may recover -/
def dfA (E : Env) (call : CallF) (it : (Loc → St → CRes) → Loc → St → CRes) (f : FuncId) (args : List AV) (r : RecS) (S : St) : Option (RecS × St) :=
 match E.fn f with
 | none => none
 | some fi =>
  match fi.fn.body with
  | none => none
  | some c =>
   if args.length ≤ fi.fn.ntmps ∧ fi.fn.results.size = 0 then
    match evalC { E, call, it, fid := f, vars := fi.vars, nt := fi.fn.ntmps } c (startLoc fi args r) S with
    | some (.normal, L, S') | some (.ret, L, S') =>
     match L.defers with
     | [] => some (L.recs, S')
     | _ => none
    | _ => none
   else none
def putAll (vars : List Tmp) (L : Loc) : List Tmp → List AV → Option Loc
 | [], [] => some L
 | t :: ts, v :: vs => putAll vars (L.put vars t v) ts vs
 | _, _ => none
/-- one round of a range over a function -/
def yldA (E : Env) (call : CallF) (it : (Loc → St → CRes) → Loc → St → CRes) (l : Nat) (args : List AV) (S : St) : Option (FRes × St) :=
 match S.get l with
 | some (.loop a) =>
  match E.fn a.fid with
  | none => none
  | some fi =>
   if a.params.toList.all (fun t => decide (t < fi.fn.ntmps)) then
   match putAll fi.vars { vals := a.vals, sc := [], defers := [], recs := .no, rnd := some l } a.params.toList args with
   | none => none
   | some L =>
    let X : Ctx := { E, call, it, fid := a.fid, vars := fi.vars, nt := fi.fn.ntmps }
    match evalC X a.asg L S with
    | some (.normal, L1, S1) =>
     match S1.get l with
     | some (.loop a1) =>
      match a1.state with
      | .ready =>
       match evalC X a.body L1 (S1.put l (.loop { a1 with state := .busy })) with
       | some (e, L2, S2) =>
        match L2.defers, S2.get l with
        | [], some (.loop a2) =>
         match e with
         | .normal => some (.ret (.bool true), S2.put l (.loop { a2 with state := .ready, pend := none }))
         | .exit i => some (.ret (.bool false), S2.put l (.loop { a2 with state := .done, pend := some (.exit i) }))
         | .ret => some (.ret (.bool false), S2.put l (.loop { a2 with state := .done, pend := some .ret }))
         | .pan v => some (.pan v, S2)
        | _, _ => none
       | none => none
      | _ => none
     | _ => none
    | _ => none
   else none
 | _ => none
def callN (E : Env) : Nat → CallF
 | 0, _, _, _ => none
 | n + 1, .fn f, args, S => fnA E (callN E n) (fun g a r T => dfA E (callN E n) (iter n) g a r T) (iter n) f args S
 | n + 1, .yld l, args, S => yldA E (callN E n) (iter n) l args S
end Go.Vm
namespace Go.Vm
open Go
theorem log2_half {k : Nat} (h : 2 ≤ k) : Nat.log2 k = Nat.log2 (k / 2) + 1 := by
 rw [Nat.log2_def]; simp [h]
theorem get_set_same (o : AO) : ∀ (f k : Nat) (t : Tr), 1 ≤ k → Nat.log2 k = f → (t.set o f k).get k = some o := by
 intro f
 induction f with
 | zero =>
  intro k t hk hf
  have : k = 1 := by
   rcases Nat.lt_or_ge k 2 with h | h
   ·omega
   ·rw [log2_half h] at hf; omega
  subst this
  simp [Tr.set, Tr.get]
 | succ f ih =>
  intro k t hk hf
  have h2 : 2 ≤ k := by
   rcases Nat.lt_or_ge k 2 with h | h
   ·have : k = 1 := by omega
    subst this; simp [Nat.log2_def] at hf
   ·exact h
  have hl : Nat.log2 (k / 2) = f := by rw [log2_half h2] at hf; omega
  have h1 : 1 ≤ k / 2 := by omega
  have hn : ¬ k ≤ 1 := by omega
  by_cases he : k % 2 = 0
  ·simp [Tr.set, Tr.get, he, hn, ih _ _ h1 hl]
  ·simp [Tr.set, Tr.get, he, hn, ih _ _ h1 hl]
theorem get_leaf (k : Nat) : Tr.get .leaf k = none := by simp [Tr.get]
theorem get_node (t : Tr) (k : Nat) : t.get k = if k ≤ 1 then t.val else if k % 2 = 0 then t.left.get (k / 2) else t.right.get (k / 2) := by
 cases t with
 | leaf => simp [Tr.get, Tr.val, Tr.left, Tr.right]
 | node v l r => simp [Tr.get, Tr.val, Tr.left, Tr.right]
theorem get_set_ne (o : AO) : ∀ (f k j : Nat) (t : Tr), 1 ≤ k → 1 ≤ j → Nat.log2 k = f → j ≠ k → (t.set o f k).get j = t.get j := by
 intro f
 induction f with
 | zero =>
  intro k j t hk hj hf hne
  have : k = 1 := by
   rcases Nat.lt_or_ge k 2 with h | h
   ·omega
   ·rw [log2_half h] at hf; omega
  subst this
  rw [get_node t j]
  have hn : ¬ j ≤ 1 := by omega
  simp [Tr.set, Tr.get, hn]
 | succ f ih =>
  intro k j t hk hj hf hne
  have h2 : 2 ≤ k := by
   rcases Nat.lt_or_ge k 2 with h | h
   ·have : k = 1 := by omega
    subst this; simp [Nat.log2_def] at hf
   ·exact h
  have hl : Nat.log2 (k / 2) = f := by rw [log2_half h2] at hf; omega
  have h1 : 1 ≤ k / 2 := by omega
  rw [get_node t j]
  by_cases hj1 : j ≤ 1
  ·by_cases he : k % 2 = 0 <;> simp [Tr.set, Tr.get, he, hj1]
  ·have hj2 : 1 ≤ j / 2 := by omega
   by_cases he : k % 2 = 0
   ·by_cases hje : j % 2 = 0
    ·simp [Tr.set, Tr.get, he, hj1, hje, ih (k / 2) (j / 2) _ h1 hj2 hl (by omega)]
    ·simp [Tr.set, Tr.get, he, hj1, hje]
   ·by_cases hje : j % 2 = 0
    ·simp [Tr.set, Tr.get, he, hj1, hje]
    ·simp [Tr.set, Tr.get, he, hj1, hje, ih (k / 2) (j / 2) _ h1 hj2 hl (by omega)]
theorem St.get_push_self (S : St) (o : AO) : (S.push o).get S.n = some o := by
 simp [St.get, St.push, get_set_same o _ (S.n + 1) S.t (by omega) rfl]
theorem St.get_push_ne (S : St) (o : AO) {i : Nat} (h : i ≠ S.n) : (S.push o).get i = S.get i := by
 unfold St.get St.push
 simp only
 by_cases hi : i < S.n
 ·rw [if_pos hi, if_pos (by omega), get_set_ne o _ (S.n + 1) (i + 1) S.t (by omega) (by omega) rfl (by omega)]
 ·rw [if_neg hi, if_neg (by omega)]
theorem St.get_push_of (S : St) (o : AO) {i : Nat} {x : AO} (h : S.get i = some x) : (S.push o).get i = some x := by
 rw [St.get_push_ne, h]
 intro e
 subst e
 simp [St.get] at h
theorem St.n_push (S : St) (o : AO) : (S.push o).n = S.n + 1 := rfl
theorem St.n_put (S : St) (i : Nat) (o : AO) : (S.put i o).n = S.n := rfl
theorem St.get_lt {S : St} {i : Nat} {x : AO} (h : S.get i = some x) : i < S.n := by
 unfold St.get at h
 split at h
 ·assumption
 ·cases h
theorem St.get_put_self (S : St) (i : Nat) (o : AO) (h : i < S.n) : (S.put i o).get i = some o := by
 simp [St.get, St.put, h, get_set_same o _ (i + 1) S.t (by omega) rfl]
theorem St.get_put_ne (S : St) (i : Nat) (o : AO) {j : Nat} (h : j ≠ i) : (S.put i o).get j = S.get j := by
 unfold St.get St.put
 simp only
 by_cases hi : j < S.n
 ·rw [if_pos hi, if_pos hi, get_set_ne o _ (i + 1) (j + 1) S.t (by omega) (by omega) rfl (by omega)]
 ·rw [if_neg hi, if_neg hi]
theorem St.get_none {S : St} {i : Nat} (h : S.n ≤ i) : S.get i = none := by
 unfold St.get
 rw [if_neg (by omega)]
end Go.Vm
namespace Go.Vm
open Go
structure Fr (S S' : St) : Prop where
 wb : S'.wb = S.wb
 n : S.n ≤ S'.n
 keep : S'.bad = false → S.bad = false ∧ ∀ i, i < S.wb → i < S.n → S'.get i = S.get i
theorem Fr.refl (S : St) : Fr S S := ⟨rfl, Nat.le_refl _, fun h => ⟨h, fun _ _ _ => rfl⟩⟩
theorem Fr.trans {S S' S'' : St} (h : Fr S S') (k : Fr S' S'') : Fr S S'' := by
 refine ⟨k.wb.trans h.wb, Nat.le_trans h.n k.n, fun e => ?_⟩
 obtain ⟨h1, h2⟩ := k.keep e
 obtain ⟨h3, h4⟩ := h.keep h1
 exact ⟨h3, fun i hi hn => (h2 i (by rw [h.wb]; exact hi) (Nat.lt_of_lt_of_le hn h.n)).trans (h4 i hi hn)⟩
theorem Fr.push (S : St) (o : AO) : Fr S (S.push o) := ⟨rfl, by show S.n ≤ S.n + 1; omega, fun h => ⟨h, fun i _ hn => St.get_push_ne _ _ (by omega)⟩⟩
theorem Fr.put (S : St) (i : Nat) (o : AO) : Fr S (S.put i o) := by
 refine ⟨rfl, Nat.le_refl _, fun h => ?_⟩
 have h' : (S.bad || decide (i < S.wb)) = false := h
 simp only [Bool.or_eq_false_iff, decide_eq_false_iff_not] at h'
 exact ⟨h'.1, fun j hj _ => St.get_put_ne _ _ _ (by omega)⟩
def CallFr (call : CallF) : Prop := ∀ c args S r S', call c args S = some (r, S') → Fr S S'
def BodyFr (body : Loc → St → CRes) : Prop := ∀ L S ex L' S', body L S = some (ex, L', S') → Fr S S'
def EffFr (S : St) : Eff → Prop
 | .val _ S' => Fr S S'
 | .pan _ S' => Fr S S'
 | _ => True
theorem retE_fr {S : St} {r : Option (FRes × St)} {eff : Eff} (h : retE r = some eff) (k : ∀ v S', r = some (v, S') → Fr S S') : EffFr S eff := by
 cases r with
 | none => cases h
 | some q =>
  obtain ⟨v, S'⟩ := q
  cases v <;> (simp only [retE] at h; cases h; exact k _ _ rfl)
theorem spend_fr {S S' : St} {tk : Tk} {s : Nat} (h : spend S tk s = some S') : Fr S S' := by
 unfold spend at h
 split at h
 ·cases h; exact .refl _
 ·cases h; exact .refl _
 ·cases h
 ·split at h
  ·split at h
   ·cases h; exact .put _ _ _
   ·cases h
  ·cases h
theorem append_fr {E : Env} {S S' : St} {e : TypeId} {s v : AV} {new : List AV} (h : appendA E S e s new = some (v, S')) : Fr S S' := by
 unfold appendA at h
 split at h
 ·cases h
 split at h
 rotate_left
 ·cases h
 split at h
 ·split at h
  ·cases h; exact .refl _
  ·split at h
   ·split at h
    ·cases h; exact (Fr.push _ _).trans (.push _ _)
    ·cases h
   ·split at h
    ·cases h; exact .push _ _
    ·cases h
 ·split at h
  ·split at h
   ·cases h
   ·cases h; exact .refl _
  ·split at h
   ·split at h
    ·cases h; exact (Fr.push _ _).trans (.push _ _)
    ·cases h
   ·split at h
    ·split at h
     ·rename_i S1 hs
      cases h
      exact (spend_fr hs).trans (.push _ _)
     ·cases h
    ·cases h
 ·split at h
  ·split at h
   ·split at h
    ·cases h; exact .put _ _ _
    ·cases h
   ·cases h
  ·split at h
   ·split at h
    ·split at h
     ·cases h
      exact (((Fr.put _ _ _).trans (.put _ _ _)).trans (.push _ _)).trans (.push _ _)
     ·cases h
    ·cases h
   ·split at h
    ·split at h
     ·cases h; exact .push _ _
     ·cases h
    ·cases h
 ·cases h
theorem copy_fr {E : Env} {S S' : St} {e : TypeId} {s : AV} {new : List AV} (h : copyA E S e s new = some S') : Fr S S' := by
 unfold copyA at h
 split at h
 ·split at h
  ·split at h
   ·split at h
    ·cases h; exact .put _ _ _
    ·cases h
   ·cases h
  ·cases h
 ·cases h
theorem store_fr {E : Env} {S S' : St} {t : TypeId} {a v : AV} (h : storeA E S t a v = some S') : Fr S S' := by
 unfold storeA at h
 split at h
 ·split at h
  ·split at h
   ·cases h; exact .put _ _ _
   ·cases h
  ·cases h
 ·cases h
theorem act_fr {E : Env} {call : CallF} (hc : CallFr call) {ρ : Operand → AV} {S : St} {op : Op} {eff : Eff} (h : actA E call ρ S op = some eff) : EffFr S eff := by
 cases op <;> simp only [actA] at h
 case alloc =>
  split at h
  ·cases h; exact Fr.push _ _
  ·cases h
 case box =>
  split at h
  ·cases h; exact Fr.push _ _
  ·cases h
 case makeSlice =>
  split at h
  ·split at h
   ·split at h
    ·cases h; exact Fr.push _ _
    ·cases h
   ·cases h
  ·cases h
 case makeMap t r =>
  cases r with
  | some _ => simp only at h; cases h
  | none =>
   simp only at h
   split at h
   ·cases h; exact Fr.push _ _
   ·cases h
 case range =>
  split at h
  ·cases h; exact Fr.push _ _
  ·cases h
 case entry =>
  split at h
  ·split at h
   ·cases h; exact Fr.refl _
   ·cases h
  ·cases h
 case store =>
  split at h
  ·rename_i S' hs; cases h; exact store_fr hs
  ·cases h
 case mapUpdate =>
  split at h
  ·split at h
   ·split at h
    ·split at h
     ·cases h; exact Fr.put _ _ _
     ·cases h
    ·cases h
   ·cases h
  ·cases h
 case insert =>
  split at h
  ·split at h
   ·split at h
    ·split at h
     ·cases h; exact Fr.put _ _ _
     ·cases h
    ·cases h
   ·cases h
  ·cases h
 case call c =>
  obtain ⟨callee, args, argTypes⟩ := c
  simp only at h
  cases callee with
  | value f =>
   simp only at h
   split at h
   ·split at h
    ·exact retE_fr h fun v S' k => hc _ _ _ _ _ k
    ·cases h
   ·split at h
    ·split at h
     ·cases h; exact Fr.refl _
     ·cases h
    ·exact retE_fr h fun v S' k => hc _ _ _ _ _ k
   ·exact retE_fr h fun v S' k => hc _ _ _ _ _ k
   ·cases h
  | invoke r n =>
   simp only at h
   split at h
   ·split at h
    ·exact retE_fr h fun v S' k => hc _ _ _ _ _ k
    ·cases h
   ·cases h
  | builtin b =>
   cases b <;> simp only at h
   case append =>
    split at h
    ·split at h
     ·split at h
      ·split at h
       ·rename_i v S' ha
        cases h; exact append_fr ha
       ·cases h
      ·cases h
     ·cases h
    ·cases h
   case copy =>
    split at h
    ·split at h
     ·split at h
      ·split at h
       ·rename_i S' ha
        cases h; exact copy_fr ha
       ·cases h
      ·cases h
     ·cases h
    ·cases h
   case recover => cases h; trivial
   all_goals (cases h)
 case defer c =>
  obtain ⟨callee, args, argTypes⟩ := c
  simp only at h
  cases callee with
  | value f =>
   simp only at h
   split at h
   ·cases h; trivial
   ·cases h
  | _ => simp only at h; cases h
 case panic =>
  split at h
  ·cases h; exact Fr.refl _
  ·cases h
 all_goals (cases h)
theorem eff_fr {E : Env} {call : CallF} (hc : CallFr call) {ρ : Operand → AV} {S : St} {op : Op} {eff : Eff} (h : effA E call ρ op S = some eff) : EffFr S eff := by
 unfold effA at h
 split at h
 ·split at h
  ·cases h; exact Fr.refl _
  ·cases h
 ·split at h
  ·cases h; exact Fr.refl _
  ·cases h
 ·exact act_fr hc h
theorem effR_fr {E : Env} {call : CallF} (hc : CallFr call) {ρ : Operand → AV} {S : St} {op : Op} {eff : Eff} (h : effR E call ρ op S = some eff) : EffFr S eff := by
 unfold effR at h
 split at h
 ·rename_i e he
  cases h
  exact eff_fr hc he
 ·unfold newA at h
  split at h
  ·split at h
   ·split at h
    ·cases h; exact Fr.refl _
    ·cases h
   ·cases h
  ·cases h
def OutFr (S : St) : Out → Prop
 | .ok _ S' => Fr S S'
 | .pan _ _ S' => Fr S S'
theorem step_fr {E : Env} {call : CallF} (hc : CallFr call) {vars : List Tmp} {nt : Nat} {o : Oper} {L : Loc} {S : St} {out : Out} (h : stepA E call vars nt o L S = some out) : OutFr S out := by
 unfold stepA at h
 split at h
 ·split at h
  ·rename_i e he
   have hf := effR_fr hc he
   cases e with
   | val v S' => simp only [applyE] at h; cases h; exact hf
   | pan v S' => simp only [applyE] at h; cases h; exact hf
   | dfr d =>
    simp only [applyE] at h
    split at h
    ·cases h; exact Fr.refl _
    ·cases h
   | rcv =>
    simp only [applyE] at h
    split at h
    ·cases h; exact Fr.refl _
    ·cases h; exact Fr.refl _
    ·cases h
  ·cases h
 ·cases h
theorem OutFr.trans {S S' : St} {out : Out} (h : Fr S S') (k : OutFr S' out) : OutFr S out := by
 cases out with
 | ok L S'' => exact h.trans k
 | pan v L S'' => exact h.trans k
theorem run_fr {E : Env} {call : CallF} (hc : CallFr call) {vars : List Tmp} {nt : Nat} {ops : List Oper} : ∀ (rest : List Oper) {L : Loc} {S : St} {out : Out}, runA E call vars nt ops rest L S = some out → OutFr S out
 | [], L, S, out, h => by simp only [runA] at h; cases h; exact Fr.refl _
 | o :: rest, L, S, out, h => by
  unfold runA at h
  split at h
  ·split at h
   ·rename_i L1 S1 hs
    split at h
    ·cases h
    ·exact OutFr.trans (S' := S1) (step_fr hc hs) (run_fr hc rest h)
   ·rename_i v L1 S1 hs
    cases h
    exact step_fr hc hs
   ·cases h
  ·split at h
   ·exact run_fr hc rest h
   ·cases h
  ·cases h
def TEndFr (S : St) : TEnd → Prop
 | .ok _ S' => Fr S S'
 | .pan _ _ S' _ _ => Fr S S'
theorem runT_fr {E : Env} {call : CallF} (hc : CallFr call) {vars : List Tmp} {nt : Nat} {ops : List Oper} : ∀ (tau : List Nat) {L : Loc} {S : St} {es : List Entry} {e : TEnd}, runT E call vars nt ops tau L S = some (es, e) → TEndFr S e
 | [], L, S, es, e, h => by simp only [runT] at h; cases h; exact Fr.refl _
 | i :: tau, L, S, es, e, h => by
  unfold runT at h
  split at h
  ·cases h
  ·split at h
   ·split at h
    ·split at h
     ·rename_i v S' he
      have hf : Fr S S' := eff_fr hc he
      split at h
      ·rename_i es' e' hr
       cases h
       have := runT_fr hc tau hr
       cases e with
       | ok L2 S2 => exact hf.trans this
       | pan v2 L2 S2 i2 r2 => exact hf.trans this
      ·cases h
     ·rename_i v S' he
      cases h
      exact eff_fr hc he
     ·cases h
    ·split at h
     ·rename_i es' e' hr
      cases h
      exact runT_fr hc tau hr
     ·cases h
    ·cases h
   ·cases h
theorem draw_fr {E : Env} {call : CallF} (hc : CallFr call) {vars : List Tmp} {nt : Nat} {ops : List Oper} {L : Loc} {S : St} {out : Out} (h : drawA E call vars nt ops L S = some out) : OutFr S out := by
 unfold drawA at h
 simp only at h
 split at h
 ·split at h
  ·rename_i tr L' S' hr
   split at h
   ·cases h
    exact runT_fr hc _ hr
   ·cases h
  ·rename_i tr v L' S' i rest hr
   split at h
   ·cases h
    exact runT_fr hc _ hr
   ·cases h
  ·cases h
 ·cases h
theorem outC_fr {S : St} {out : Out} {ex : Ex} {L' : Loc} {S' : St} (k : OutFr S out) (h : outC (some out) = some (ex, L', S')) : Fr S S' := by
 cases out <;> (simp only [outC] at h; cases h; exact k)
theorem iter_fr {body : Loc → St → CRes} (hb : BodyFr body) : ∀ n, BodyFr (iter n body)
 | 0, L, S, ex, L', S', h => by simp only [iter] at h; cases h
 | n + 1, L, S, ex, L', S', h => by
  simp only [iter] at h
  split at h
  ·rename_i L1 S1 h1
   exact (hb _ _ _ _ _ h1).trans (iter_fr hb n _ _ _ _ _ h)
  ·exact hb _ _ _ _ _ h
theorem endC_fr {l : Nat} {L : Loc} {r : FRes} {S : St} {ex : Ex} {L' : Loc} {S' : St} (h : endC l L (some (r, S)) = some (ex, L', S')) : Fr S S' := by
 cases r with
 | pan v => simp only [endC] at h; cases h; exact Fr.refl _
 | ret v =>
  simp only [endC] at h
  split at h
  ·split at h
   ·cases h
   ·cases h; exact Fr.put _ _ _
   ·cases h; exact Fr.put _ _ _
   ·cases h; exact Fr.put _ _ _
   ·cases h
  ·cases h
theorem goesOut_some {r : CRes} {x : Ex × Loc × St} (h : goesOut r = some x) : r = some x := by
 unfold goesOut at h
 split at h
 ·cases h
 ·exact h
theorem thenC_fr {S : St} {f : Loc → St → CRes} {r : CRes} {ex : Ex} {L' : Loc} {S' : St} (hr : ∀ e L1 S1, r = some (e, L1, S1) → Fr S S1) (hf : BodyFr f) (h : thenC f r = some (ex, L', S')) : Fr S S' := by
 unfold thenC at h
 split at h
 ·exact (hr _ _ _ rfl).trans (hf _ _ _ _ _ h)
 ·exact hr _ _ _ h
theorem outC_fr' {S : St} {o : Option Out} (k : ∀ out, o = some out → OutFr S out) {ex : Ex} {L' : Loc} {S' : St} (h : outC o = some (ex, L', S')) : Fr S S' := by
 cases o with
 | none => cases h
 | some out => exact outC_fr (k out rfl) h
theorem evalC_fr (X : Ctx) (hc : CallFr X.call) (hi : ∀ body, BodyFr body → BodyFr (X.it body)) : ∀ c : Code, BodyFr (evalC X c) ∧ (match c with | .seq _ y => BodyFr (evalC X y) | _ => True) := by
 intro c
 induction c with
 | skip => exact ⟨fun L S ex L' S' h => by simp only [evalC] at h; cases h; exact Fr.refl _, trivial⟩
 | label l => exact ⟨fun L S ex L' S' h => by simp only [evalC] at h; cases h; exact Fr.refl _, trivial⟩
 | goto l => exact ⟨fun L S ex L' S' h => (by simp only [evalC] at h; cases h), trivial⟩
 | refuse l => exact ⟨fun L S ex L' S' h => (by simp only [evalC] at h; cases h), trivial⟩
 | exit l => exact ⟨fun L S ex L' S' h => by simp only [evalC] at h; cases h; exact Fr.refl _, trivial⟩
 | ret => exact ⟨fun L S ex L' S' h => by simp only [evalC] at h; cases h; exact Fr.refl _, trivial⟩
 | region id ops draw =>
  refine ⟨fun L S ex L' S' h => ?_, trivial⟩
  simp only [evalC] at h
  cases draw with
  | false => exact outC_fr' (fun out k => run_fr hc _ (by simpa using k)) h
  | true => exact outC_fr' (fun out k => draw_fr hc (by simpa using k)) h
 | seq x y ihx ihy =>
  refine ⟨fun L S ex L' S' h => ?_, ihy.1⟩
  simp only [evalC] at h
  exact thenC_fr (fun e L1 S1 k => ihx.1 _ _ _ _ _ k) ihy.1 h
 | cond c x y ihx ihy =>
  refine ⟨fun L S ex L' S' h => ?_, trivial⟩
  simp only [evalC] at h
  split at h
  ·exact ihx.1 _ _ _ _ _ h
  ·exact ihy.1 _ _ _ _ _ h
  ·cases h
 | block i c ih =>
  refine ⟨fun L S ex L' S' h => ?_, trivial⟩
  simp only [evalC] at h
  unfold blockC at h
  split at h
  ·rename_i j L1 S1 hx
   split at h <;> (cases h; exact ih.1 _ _ _ _ _ hx)
  ·exact ih.1 _ _ _ _ _ h
 | scope c ih => exact ⟨fun L S ex L' S' h => by simp only [evalC] at h; exact ih.1 _ _ _ _ _ h, trivial⟩
 | loop c ih =>
  refine ⟨fun L S ex L' S' h => ?_, trivial⟩
  unfold evalC at h
  split at h
  all_goals first
   | (rename_i heq; cases heq; done)
   | skip
  ·rename_i id ops c' heq
   cases heq
   split at h
   ·exact hi _ ih.1 _ _ _ _ _ h
   ·rename_i t d r hn
    have hb : ∀ (v : AV) (L : Loc) (S : St) (ex : Ex) (L' : Loc) (S' : St), thenC (evalC X c') (outC (runA X.E X.call X.vars X.nt ops.toList r (L.clear.put X.vars d v) S)) = some (ex, L', S') → Fr S S' := by
     intro v L S ex L' S' h
     exact thenC_fr (fun e L1 S1 k => outC_fr' (fun out k => run_fr hc _ k) k) ih.2 h
    unfold mapLoop at h
    split at h
    ·split at h
     ·split at h
      ·split at h
       ·exact (Fr.put _ _ _).trans (hb _ _ _ _ _ _ (goesOut_some h))
       ·exact (Fr.put _ _ _).trans (hb _ _ _ _ _ _ (goesOut_some h))
       ·cases h
      ·cases h
     ·cases h
    ·cases h
  ·rename_i c' hno heq
   cases heq
   exact hi _ ih.1 _ _ _ _ _ h
 | rangeFunc f ps a b iha ihb =>
  refine ⟨fun L S ex L' S' h => ?_, trivial⟩
  simp only [evalC] at h
  split at h
  ·split at h
   ·cases hcall : X.call (.fn _) _ _ with
    | none => rw [hcall] at h; cases h
    | some q =>
     obtain ⟨r, S3⟩ := q
     rw [hcall] at h
     exact (((Fr.push _ _).trans (.push _ _)).trans (hc _ _ _ _ _ hcall)).trans (endC_fr h)
   ·split at h
    ·cases hcall : X.call (.fn _) _ _ with
     | none => rw [hcall] at h; cases h
     | some q =>
      obtain ⟨r, S3⟩ := q
      rw [hcall] at h
      exact ((Fr.push _ _).trans (hc _ _ _ _ _ hcall)).trans (endC_fr h)
    ·cases h
  ·cases h
theorem unwind_fr {E : Env} {callD : CallD} (hd : ∀ f args r S r' S', callD f args r S = some (r', S') → Fr S S') {fi : FInfo} {L : Loc} : ∀ (ds : List ADef) {m : Mode} {S : St} {r : FRes} {S' : St}, unwindA E callD fi L ds m S = some (r, S') → Fr S S'
 | [], m, S, r, S', h => by
  cases m with
  | ret =>
   simp only [unwindA] at h
   split at h
   ·cases h; exact Fr.refl _
   ·cases h
  | pan v => simp only [unwindA] at h; cases h; exact Fr.refl _
 | .coll i :: ds, m, S, r, S', h => by
  simp only [unwindA] at h
  split at h
  ·exact (Fr.put _ _ _).trans (unwind_fr hd ds h)
  ·cases h
 | .call f args :: ds, m, S, r, S', h => by
  simp only [unwindA] at h
  split at h
  ·rename_i r1 S1 hc
   have hf := hd _ _ _ _ _ _ hc
   split at h
   ·exact hf.trans (unwind_fr hd ds h)
   ·exact hf.trans (unwind_fr hd ds h)
   ·exact hf.trans (unwind_fr hd ds h)
   ·cases h
  ·cases h
theorem fn_fr {E : Env} {call : CallF} {callD : CallD} {it : (Loc → St → CRes) → Loc → St → CRes} (hc : CallFr call) (hd : ∀ f args r S r' S', callD f args r S = some (r', S') → Fr S S') (hi : ∀ body, BodyFr body → BodyFr (it body))
  {f : FuncId} {args : List AV} {S : St} {r : FRes} {S' : St} (h : fnA E call callD it f args S = some (r, S')) : Fr S S' := by
 unfold fnA at h
 split at h
 ·cases h
 ·split at h
  ·cases h
  ·split at h
   ·split at h
    ·cases h; exact Fr.refl _
    ·cases h
   split at h
   ·split at h
    ·cases h; exact Fr.refl _
    ·cases h; exact Fr.put _ _ _
    ·cases h
   split at h
   ·split at h
    ·rename_i L1 S1 he
     exact ((evalC_fr _ hc hi _).1 _ _ _ _ _ he).trans (unwind_fr hd _ h)
    ·rename_i L1 S1 he
     exact ((evalC_fr _ hc hi _).1 _ _ _ _ _ he).trans (unwind_fr hd _ h)
    ·rename_i v L1 S1 he
     exact ((evalC_fr _ hc hi _).1 _ _ _ _ _ he).trans (unwind_fr hd _ h)
    ·cases h
   ·cases h
theorem df_fr {E : Env} {call : CallF} {it : (Loc → St → CRes) → Loc → St → CRes} (hc : CallFr call) (hi : ∀ body, BodyFr body → BodyFr (it body))
  {f : FuncId} {args : List AV} {rc rc' : RecS} {S S' : St} (h : dfA E call it f args rc S = some (rc', S')) : Fr S S' := by
 unfold dfA at h
 split at h
 ·cases h
 ·split at h
  ·cases h
  ·split at h
   ·split at h
    ·rename_i L1 S1 he
     split at h
     ·cases h; exact (evalC_fr _ hc hi _).1 _ _ _ _ _ he
     ·cases h
    ·rename_i L1 S1 he
     split at h
     ·cases h; exact (evalC_fr _ hc hi _).1 _ _ _ _ _ he
     ·cases h
    ·cases h
   ·cases h
theorem yld_fr {E : Env} {call : CallF} {it : (Loc → St → CRes) → Loc → St → CRes} (hc : CallFr call) (hi : ∀ body, BodyFr body → BodyFr (it body))
  {l : Nat} {args : List AV} {S : St} {r : FRes} {S' : St} (h : yldA E call it l args S = some (r, S')) : Fr S S' := by
 unfold yldA at h
 split at h
 ·split at h
  ·cases h
  ·split at h
   ·split at h
    ·cases h
    ·simp only at h
     split at h
     ·rename_i L1 S1 h1
      have f1 := (evalC_fr _ hc hi _).1 _ _ _ _ _ h1
      split at h
      ·split at h
       ·split at h
        ·rename_i e L2 S2 h2
         have f2 := (evalC_fr _ hc hi _).1 _ _ _ _ _ h2
         have f3 := f1.trans ((Fr.put _ _ _).trans f2)
         split at h
         ·split at h
          ·cases h; exact f3.trans (Fr.put _ _ _)
          ·cases h; exact f3.trans (Fr.put _ _ _)
          ·cases h; exact f3.trans (Fr.put _ _ _)
          ·cases h; exact f3
         ·cases h
        ·cases h
       ·cases h
      ·cases h
     ·cases h
   ·cases h
 ·cases h
theorem callN_fr (E : Env) : ∀ n, CallFr (callN E n)
 | 0 => fun c args S r S' h => by simp only [callN] at h; cases h
 | n + 1 => fun c args S r S' h => by
  have hc := callN_fr E n
  have hi : ∀ body, BodyFr body → BodyFr (iter n body) := fun body hb => iter_fr hb n
  cases c with
  | fn f => simp only [callN] at h; exact fn_fr hc (fun f args r S r' S' k => df_fr hc hi k) hi h
  | yld l => simp only [callN] at h; exact yld_fr hc hi h
end Go.Vm
namespace Go.Vm
open Go
inductive Own where
 | none
 | imm (c : Value)
 | obj (i j : Nat)
 | tok (i : Nat)
 | res (c : Value)
structure Gh where
 obj : Nat → Option (Nat × Nat)
 tok : Nat → Option (Nat × Nat × Nat)
 own : Nat → Nat → Own
 blk : Nat → Option Nat
 rm : Nat → Option (Array MapEntry × Nat)
 ro : Nat → Option Obj
 lo : Nat
structure Gh.Le0 (G G' : Gh) : Prop where
 obj : ∀ i x, G.obj i = some x → G'.obj i = some x
 tok : ∀ i x, G.tok i = some x → G'.tok i = some x
 imm : ∀ b o c, G.own b o = .imm c → G'.own b o = .imm c
 lo : G'.lo = G.lo
 rm : G'.rm = G.rm
 ro : ∀ b x, G.ro b = some x → G'.ro b = some x
 back : ∀ b o c, b < G.lo → G'.own b o = .imm c → G.own b o = .imm c
structure Gh.Le (G G' : Gh) : Prop extends Gh.Le0 G G' where
 res : ∀ b o c, G.own b o = .res c → G'.own b o = .res c
theorem Gh.Le0.refl (G : Gh) : G.Le0 G := ⟨fun _ _ h => h, fun _ _ h => h, fun _ _ _ h => h, rfl, rfl, fun _ _ h => h, fun _ _ _ _ h => h⟩
theorem Gh.Le0.trans {G G' G'' : Gh} (h : G.Le0 G') (k : G'.Le0 G'') : G.Le0 G'' :=
 ⟨fun i x e => k.obj i x (h.obj i x e), fun i x e => k.tok i x (h.tok i x e), fun b o c e => k.imm b o c (h.imm b o c e), k.lo.trans h.lo, k.rm.trans h.rm, fun b x e => k.ro b x (h.ro b x e), fun b o c hb e => h.back b o c hb (k.back b o c (by rw [h.lo]; exact hb) e)⟩
theorem Gh.Le.refl (G : Gh) : G.Le G := ⟨.refl G, fun _ _ _ h => h⟩
theorem Gh.Le.trans {G G' G'' : Gh} (h : G.Le G') (k : G'.Le G'') : G.Le G'' := ⟨h.toLe0.trans k.toLe0, fun b o c e => k.res b o c (h.res b o c e)⟩
def TkOk (G : Gh) : Tk → Nat → Nat → Nat → Nat → Prop
 | .full, _, _, room, _ => room = 0
 | .lit, _, _, room, _ => room = 0
 | .dead, _, _, _, _ => True
 | .tok i s, b, e, room, sz => s = sz ∧ ∃ b' e', G.tok i = some (b', e', room * sz) ∧ (room * sz ≠ 0 → b' = b ∧ e' = e)
inductive Rep (G : Gh) : AV → Value → Prop where
 | undef (c : Value) : Rep G .undef c
 | bool (b : Bool) : Rep G (.bool b) (.bool b)
 | int (k : IntKind) (n : Int) : Rep G (.int k n) (.int k n)
 | str (s : ByteArray) : Rep G (.str s.data.toList) (.string s)
 | nilp : Rep G .nilp (.pointer none)
 | ptr (i off b o : Nat) (h : G.obj i = some (b, o)) : Rep G (.ptr i off) (.pointer (some ⟨b, o + off, none⟩))
 | rptr (cs : List AV) (b o : Nat) (h1 : ∀ j, j < cs.length → ∃ y, G.own b (o + j) = .imm y)
   (h2 : ∀ j x y, cs[j]? = some x → G.own b (o + j) = .imm y → Rep G x y) : Rep G (.rptr cs) (.pointer (some ⟨b, o, none⟩))
 | nils : Rep G .nils (.slice none 0 0)
 | slice (es : List AV) (tk : Tk) (b o n cap sz : Nat) (hn : n = es.length) (hsz : ∀ e ∈ es, e.cells.length = sz) (hcap : n ≤ cap)
   (h1 : ∀ j, j < (es.flatMap AV.cells).length → ∃ y, G.own b (o + j) = .imm y)
   (h2 : ∀ j x y, (es.flatMap AV.cells)[j]? = some x → G.own b (o + j) = .imm y → Rep G x y)
   (ht : TkOk G tk b (o + n * sz) (cap - n) sz) : Rep G (.slice es tk) (.slice (some ⟨b, o, none⟩) n cap)
 | slice0 (ad : Addr) : Rep G (.slice [] .dead) (.slice (some ad) 0 0)
 | rsl (i off len cap b o : Nat) (h : G.obj i = some (b, o)) (hl : len ≤ cap) : Rep G (.rsl i off len cap) (.slice (some ⟨b, o + off, none⟩) len cap)
 | grw (i len b o cap : Nat) (h : G.obj i = some (b, o)) (h0 : 0 < len) (hl : len ≤ cap) (ht : TkOk G (.tok (i + 1) 1) b (o + len) (cap - len) 1) : Rep G (.rsl i 0 len 0) (.slice (some ⟨b, o, none⟩) len cap)
 | nilm : Rep G .nilm (.map none)
 | map (i b : Nat) (h : G.obj i = some (b, 0)) : Rep G (.map i) (.map (some b))
 | fn (f : FuncId) (fs cs : List AV) (fs' cs' : Array Value) (hf : fs.length = fs'.size) (hc : cs.length = cs'.size)
   (h1 : ∀ (j : Nat) x y, fs[j]? = some x → fs'[j]? = some y → Rep G x y) (h2 : ∀ (j : Nat) x y, cs[j]? = some x → cs'[j]? = some y → Rep G x y) :
   Rep G (.fn f fs cs) (.func (.func f) fs' cs')
 | yld (i b : Nat) (h : G.obj i = some (b, 0)) : Rep G (.yld i) (.func (.yield b) #[] #[])
 | fref (r : Fn) (fs cs : List AV) (fs' cs' : Array Value) (hf : fs.length = fs'.size) (hc : cs.length = cs'.size)
   (h1 : ∀ (j : Nat) x y, fs[j]? = some x → fs'[j]? = some y → Rep G x y) (h2 : ∀ (j : Nat) x y, cs[j]? = some x → cs'[j]? = some y → Rep G x y) :
   Rep G (.fref r fs cs) (.func r fs' cs')
 | rmap (ks vs : List AV) (b : Nat) (en fs : Array MapEntry) (ck : Nat) (h : G.rm b = some (en, ck)) (hp : fs.toList.Perm en.toList) (ha : apartB ks = true) (hk : ks.length = fs.size) (hv : vs.length = fs.size)
   (h1 : ∀ (j : Nat) x e, ks[j]? = some x → fs[j]? = some e → Rep G x e.key) (h2 : ∀ (j : Nat) x e, vs[j]? = some x → fs[j]? = some e → Rep G x e.val) :
   Rep G (.rmap ks vs) (.map (some b))
 | nilf : Rep G .nilf .nilFunc
 | iface (t : TypeId) (v : AV) (c : Value) (h : Rep G v c) : Rep G (.iface t v) (.iface t c)
 | nili : Rep G .nili .nilIface
 | agg (xs : List AV) (ys : Array Value) (hl : xs.length = ys.size) (h : ∀ (j : Nat) x y, xs[j]? = some x → ys[j]? = some y → Rep G x y) : Rep G (.agg xs) (.agg ys)
 | tup (xs : List AV) (ys : Array Value) (hl : xs.length = ys.size) (h : ∀ (j : Nat) x y, xs[j]? = some x → ys[j]? = some y → Rep G x y) : Rep G (.tup xs) (.tuple ys)
theorem TkOk.mono {G G' : Gh} (h : G.Le0 G') {tk : Tk} {b e room sz : Nat} (k : TkOk G tk b e room sz) : TkOk G' tk b e room sz := by
 cases tk with
 | full => exact k
 | lit => exact k
 | dead => trivial
 | tok i s =>
  obtain ⟨h0, b', e', h1, h2⟩ := k
  exact ⟨h0, b', e', h.tok _ _ h1, h2⟩
theorem Rep.mono {G G' : Gh} (hG : G.Le0 G') {x : AV} {c : Value} (h : Rep G x c) : Rep G' x c := by
 induction h with
 | undef c => exact .undef c
 | bool b => exact .bool b
 | int k n => exact .int k n
 | str s => exact .str s
 | nilp => exact .nilp
 | ptr i off b o h => exact .ptr i off b o (hG.obj _ _ h)
 | rptr cs b o h1 h2 ih =>
  refine .rptr cs b o (fun j hj => ?_) (fun j x y hx hy => ?_)
  ·obtain ⟨y, hy⟩ := h1 j hj
   exact ⟨y, hG.imm _ _ _ hy⟩
  ·have hj : j < cs.length := by
    rcases Nat.lt_or_ge j cs.length with h | h
    ·exact h
    ·rw [List.getElem?_eq_none h] at hx; cases hx
   obtain ⟨y', hy'⟩ := h1 j hj
   have := hG.imm _ _ _ hy'
   rw [this] at hy
   cases hy
   exact ih j x _ hx hy'
 | nils => exact .nils
 | slice es tk b o n cap sz hn hsz hcap h1 h2 ht ih =>
  refine .slice es tk b o n cap sz hn hsz hcap (fun j hj => ?_) (fun j x y hx hy => ?_) (ht.mono hG)
  ·obtain ⟨y, hy⟩ := h1 j hj
   exact ⟨y, hG.imm _ _ _ hy⟩
  ·have hj : j < (es.flatMap AV.cells).length := by
    rcases Nat.lt_or_ge j (es.flatMap AV.cells).length with h | h
    ·exact h
    ·rw [List.getElem?_eq_none h] at hx; cases hx
   obtain ⟨y', hy'⟩ := h1 j hj
   have := hG.imm _ _ _ hy'
   rw [this] at hy
   cases hy
   exact ih j x _ hx hy'
 | slice0 ad => exact .slice0 ad
 | rsl i off len cap b o h hl => exact .rsl i off len cap b o (hG.obj _ _ h) hl
 | grw i len b o cap h h0 hl ht => exact .grw i len b o cap (hG.obj _ _ h) h0 hl (ht.mono hG)
 | nilm => exact .nilm
 | map i b h => exact .map i b (hG.obj _ _ h)
 | fn f fs cs fs' cs' hf hc h1 h2 ih1 ih2 => exact .fn f fs cs fs' cs' hf hc ih1 ih2
 | fref r fs cs fs' cs' hf hc h1 h2 ih1 ih2 => exact .fref r fs cs fs' cs' hf hc ih1 ih2
 | rmap ks vs b en fs ck h hp ha hk hv h1 h2 ih1 ih2 => exact .rmap ks vs b en fs ck (by rw [hG.rm]; exact h) hp ha hk hv ih1 ih2
 | yld i b h => exact .yld i b (hG.obj _ _ h)
 | nilf => exact .nilf
 | iface t v c h ih => exact .iface t v c ih
 | nili => exact .nili
 | agg xs ys hl h ih => exact .agg xs ys hl ih
 | tup xs ys hl h ih => exact .tup xs ys hl ih
/-- what is told of a value does not ask for blocks -/
theorem Rep.same {G T : Gh} (h1 : T.obj = G.obj) (h2 : T.tok = G.tok) (h3 : T.own = G.own) (h4 : T.rm = G.rm) {x : AV} {c : Value} (h : Rep G x c) : Rep T x c := by
 have ht : ∀ {tk b e room sz}, TkOk G tk b e room sz → TkOk T tk b e room sz := by
  intro tk b e room sz k
  cases tk <;> first | exact k | (simp only [TkOk] at k ⊢; rw [h2]; exact k)
 induction h with
 | undef c => exact .undef c
 | bool b => exact .bool b
 | int k n => exact .int k n
 | str s => exact .str s
 | nilp => exact .nilp
 | ptr i off b o h => exact .ptr i off b o (by rw [h1]; exact h)
 | rptr cs b o k1 k2 ih => exact .rptr cs b o (fun j hj => by rw [h3]; exact k1 j hj) (fun j x y hx hy => ih j x y hx (by rw [h3] at hy; exact hy))
 | nils => exact .nils
 | slice es tk b o n cap sz hn hsz hcap k1 k2 kt ih => exact .slice es tk b o n cap sz hn hsz hcap (fun j hj => by rw [h3]; exact k1 j hj) (fun j x y hx hy => ih j x y hx (by rw [h3] at hy; exact hy)) (ht kt)
 | slice0 ad => exact .slice0 ad
 | rsl i off len cap b o h hl => exact .rsl i off len cap b o (by rw [h1]; exact h) hl
 | grw i len b o cap h h0 hl kt => exact .grw i len b o cap (by rw [h1]; exact h) h0 hl (ht kt)
 | nilm => exact .nilm
 | map i b h => exact .map i b (by rw [h1]; exact h)
 | fn f fs cs fs' cs' hf hc k1 k2 ih1 ih2 => exact .fn f fs cs fs' cs' hf hc ih1 ih2
 | fref r fs cs fs' cs' hf hc k1 k2 ih1 ih2 => exact .fref r fs cs fs' cs' hf hc ih1 ih2
 | rmap ks vs b en fs ck h hp ha hk hv k1 k2 ih1 ih2 => exact .rmap ks vs b en fs ck (by rw [h4]; exact h) hp ha hk hv ih1 ih2
 | yld i b h => exact .yld i b (by rw [h1]; exact h)
 | nilf => exact .nilf
 | iface t v c h ih => exact .iface t v c ih
 | nili => exact .nili
 | agg xs ys hl h ih => exact .agg xs ys hl ih
 | tup xs ys hl h ih => exact .tup xs ys hl ih
/-- two lists, one by one -/
def Reps (G : Gh) (xs : List AV) (ys : List Value) : Prop := xs.length = ys.length ∧ ∀ (j : Nat) x y, xs[j]? = some x → ys[j]? = some y → Rep G x y
theorem Reps.nil (G : Gh) : Reps G [] [] := ⟨rfl, fun j x y h => by simp at h⟩
theorem Reps.cons {G : Gh} {x : AV} {c : Value} {xs : List AV} {cs : List Value} (h : Rep G x c) (hs : Reps G xs cs) : Reps G (x :: xs) (c :: cs) := by
 refine ⟨by simp [hs.1], fun j a b ha hb => ?_⟩
 cases j with
 | zero => simp at ha hb; subst ha; subst hb; exact h
 | succ j => simp at ha hb; exact hs.2 j a b ha hb
theorem Reps.head {G : Gh} {x : AV} {c : Value} {xs : List AV} {cs : List Value} (h : Reps G (x :: xs) (c :: cs)) : Rep G x c := h.2 0 x c rfl rfl
theorem Reps.tail {G : Gh} {x : AV} {c : Value} {xs : List AV} {cs : List Value} (h : Reps G (x :: xs) (c :: cs)) : Reps G xs cs :=
 ⟨by simpa using h.1, fun j a b ha hb => h.2 (j + 1) a b (by simpa using ha) (by simpa using hb)⟩
theorem Rep.rsl_inv {G : Gh} {i off len cap : Nat} {c : Value} (h : Rep G (.rsl i off len cap) c) : ∃ b o cap', G.obj i = some (b, o) ∧ c = .slice (some ⟨b, o + off, none⟩) len cap' ∧ len ≤ cap' ∧
  (cap' = cap ∨ (off = 0 ∧ cap = 0 ∧ 0 < len ∧ TkOk G (.tok (i + 1) 1) b (o + len) (cap' - len) 1)) := by
 cases h with
 | rsl _ _ _ _ b o h hl => exact ⟨b, o, cap, h, rfl, hl, .inl rfl⟩
 | grw _ _ b o cap' h h0 hl ht => exact ⟨b, o, cap', h, rfl, hl, .inr ⟨rfl, rfl, h0, ht⟩⟩
theorem Reps.mono {G G' : Gh} (hG : G.Le0 G') {xs : List AV} {ys : List Value} (h : Reps G xs ys) : Reps G' xs ys := ⟨h.1, fun j x y hx hy => (h.2 j x y hx hy).mono hG⟩
theorem Reps.append {G : Gh} {xs xs' : List AV} {ys ys' : List Value} (h : Reps G xs ys) (h' : Reps G xs' ys') : Reps G (xs ++ xs') (ys ++ ys') := by
 refine ⟨by simp [h.1, h'.1], fun j x y hx hy => ?_⟩
 rcases Nat.lt_or_ge j xs.length with hj | hj
 ·rw [List.getElem?_append_left hj] at hx
  rw [List.getElem?_append_left (by rw [← h.1]; exact hj)] at hy
  exact h.2 j x y hx hy
 ·rw [List.getElem?_append_right hj] at hx
  rw [List.getElem?_append_right (by rw [← h.1]; exact hj), ← h.1] at hy
  exact h'.2 _ x y hx hy
theorem Reps.take {G : Gh} {xs : List AV} {ys : List Value} (h : Reps G xs ys) (n : Nat) : Reps G (xs.take n) (ys.take n) := by
 refine ⟨by simp [h.1], fun j x y hx hy => ?_⟩
 rw [List.getElem?_take] at hx hy
 split at hx
 ·rename_i hj; rw [if_pos hj] at hy; exact h.2 j x y hx hy
 ·cases hx
theorem Reps.drop {G : Gh} {xs : List AV} {ys : List Value} (h : Reps G xs ys) (n : Nat) : Reps G (xs.drop n) (ys.drop n) := by
 refine ⟨by simp [h.1], fun j x y hx hy => ?_⟩
 rw [List.getElem?_drop] at hx hy
 exact h.2 _ x y hx hy
theorem Reps.getElem {G : Gh} {xs : List AV} {ys : List Value} (h : Reps G xs ys) {j : Nat} {x : AV} (hx : xs[j]? = some x) : ∃ y, ys[j]? = some y ∧ Rep G x y := by
 have hj : j < ys.length := by
  rw [← h.1]
  rcases Nat.lt_or_ge j xs.length with h | h
  ·exact h
  ·rw [List.getElem?_eq_none h] at hx; cases hx
 exact ⟨ys[j], List.getElem?_eq_getElem hj, h.2 j x _ hx (List.getElem?_eq_getElem hj)⟩
theorem Reps.set {G : Gh} {xs : List AV} {ys : List Value} (h : Reps G xs ys) {n : Nat} {x : AV} {y : Value} (hx : Rep G x y) : Reps G (xs.set n x) (ys.set n y) := by
 refine ⟨by simp [h.1], fun j a b ha hb => ?_⟩
 rw [List.getElem?_set] at ha hb
 split at ha
 ·rename_i hj
  rw [if_pos hj] at hb
  split at ha
  ·rename_i hl
   rw [if_pos (by rw [← h.1]; exact hl)] at hb
   cases ha; cases hb; exact hx
  ·cases ha
 ·rename_i hj
  rw [if_neg hj] at hb
  exact h.2 j a b ha hb
theorem Rep.agg' {G : Gh} {xs : List AV} {ys : Array Value} (h : Reps G xs ys.toList) : Rep G (.agg xs) (.agg ys) :=
 .agg xs ys (by simpa using h.1) fun j x y hx hy => h.2 j x y hx (by simpa using hy)
theorem Rep.tup' {G : Gh} {xs : List AV} {ys : Array Value} (h : Reps G xs ys.toList) : Rep G (.tup xs) (.tuple ys) :=
 .tup xs ys (by simpa using h.1) fun j x y hx hy => h.2 j x y hx (by simpa using hy)
theorem Rep.agg_inv {G : Gh} {xs : List AV} {c : Value} (h : Rep G (.agg xs) c) : ∃ ys, c = .agg ys ∧ Reps G xs ys.toList := by
 cases h with
 | agg _ ys hl h => exact ⟨ys, rfl, by simpa using hl, fun j x y hx hy => h j x y hx (by simpa using hy)⟩
theorem Rep.tup_inv {G : Gh} {xs : List AV} {c : Value} (h : Rep G (.tup xs) c) : ∃ ys, c = .tuple ys ∧ Reps G xs ys.toList := by
 cases h with
 | tup _ ys hl h => exact ⟨ys, rfl, by simpa using hl, fun j x y hx hy => h j x y hx (by simpa using hy)⟩
/-- the cells of a value that is known -/
theorem Rep.cells {G : Gh} {v : AV} {c : Value} (h : Rep G v c) (hk : v.known = true) : Reps G v.cells c.cells.toList := by
 cases h with
 | undef c => simp [AV.known] at hk
 | agg xs ys hl h => exact ⟨by simpa [AV.cells, Value.cells] using hl, fun j x y hx hy => h j x y hx (by simpa [Value.cells] using hy)⟩
 | bool b => exact Reps.cons (.bool b) (Reps.nil G)
 | int k n => exact Reps.cons (.int k n) (Reps.nil G)
 | str s => exact Reps.cons (.str s) (Reps.nil G)
 | nilp => exact Reps.cons .nilp (Reps.nil G)
 | ptr i off b o h => exact Reps.cons (.ptr i off b o h) (Reps.nil G)
 | rptr cs b o h1 h2 => exact Reps.cons (.rptr cs b o h1 h2) (Reps.nil G)
 | nils => exact Reps.cons .nils (Reps.nil G)
 | slice es tk b o n cap sz hn hsz hcap h1 h2 ht => exact Reps.cons (.slice es tk b o n cap sz hn hsz hcap h1 h2 ht) (Reps.nil G)
 | slice0 ad => exact Reps.cons (.slice0 ad) (Reps.nil G)
 | rsl i off len cap b o h hl => exact Reps.cons (.rsl i off len cap b o h hl) (Reps.nil G)
 | grw i len b o cap h h0 hl ht => exact Reps.cons (.grw i len b o cap h h0 hl ht) (Reps.nil G)
 | nilm => exact Reps.cons .nilm (Reps.nil G)
 | map i b h => exact Reps.cons (.map i b h) (Reps.nil G)
 | fn f fs cs fs' cs' hf hc h1 h2 => exact Reps.cons (.fn f fs cs fs' cs' hf hc h1 h2) (Reps.nil G)
 | fref r fs cs fs' cs' hf hc h1 h2 => exact Reps.cons (.fref r fs cs fs' cs' hf hc h1 h2) (Reps.nil G)
 | rmap ks vs b en fs ck h hp ha hkl hv h1 h2 => exact Reps.cons (.rmap ks vs b en fs ck h hp ha hkl hv h1 h2) (Reps.nil G)
 | yld i b h => exact Reps.cons (.yld i b h) (Reps.nil G)
 | nilf => exact Reps.cons .nilf (Reps.nil G)
 | iface t v c h => exact Reps.cons (.iface t v c h) (Reps.nil G)
 | nili => exact Reps.cons .nili (Reps.nil G)
 | tup xs ys hl h => exact Reps.cons (.tup xs ys hl h) (Reps.nil G)
/-- a cell's value is the value of one cell -/
theorem Rep.oneCell {G : Gh} {v : AV} {c : Value} (h : Rep G v c) (hk : v.isCell = true) : (∀ ys, c ≠ .agg ys) ∧ (∀ ys, c ≠ .tuple ys) := by
 cases h <;> simp [AV.isCell] at hk <;> simp
/-! cells of a heap -/
def cl (h : Array Obj) (b o : Nat) : Option Value :=
 match h[b]? with
 | some (.cells c _ _) => c[o]?
 | _ => none
def fz (h : Array Obj) (b o : Nat) : Bool :=
 match h[b]? with
 | some (.cells _ _ (lo, hi)) => lo ≤ o && o < hi
 | _ => false
theorem cell?_eq (w : World) (b o : Nat) : w.cell? ⟨b, o, none⟩ = cl w.heap b o := by
 unfold World.cell? cl
 simp only
 split <;> simp_all
theorem frozen?_eq (w : World) (b o : Nat) : w.frozen? ⟨b, o, none⟩ = fz w.heap b o := by
 unfold World.frozen? fz
 simp only
 split <;> simp_all
theorem cl_lt {h : Array Obj} {b o : Nat} {c : Value} (k : cl h b o = some c) : b < h.size := by
 unfold cl at k
 rcases Nat.lt_or_ge b h.size with hb | hb
 ·exact hb
 ·rw [Array.getElem?_eq_none hb] at k; cases k
theorem cl_push_old {h : Array Obj} {x : Obj} {b o : Nat} (hb : b ≠ h.size) : cl (h.push x) b o = cl h b o := by
 unfold cl
 rw [Array.getElem?_push, if_neg hb]
theorem fz_push_old {h : Array Obj} {x : Obj} {b o : Nat} (hb : b ≠ h.size) : fz (h.push x) b o = fz h b o := by
 unfold fz
 rw [Array.getElem?_push, if_neg hb]
theorem cl_push_new {h : Array Obj} {c : Array Value} {e : TypeId} {o : Nat} {fr : Nat × Nat} : cl (h.push (.cells c e fr)) h.size o = c[o]? := by
 unfold cl
 simp
theorem fz_push_new {h : Array Obj} {c : Array Value} {e : TypeId} {o : Nat} : fz (h.push (.cells c e (0, 0))) h.size o = false := by
 unfold fz
 simp
/-! the invariant -/
def pendC : Option Ex → Option Code
 | some (.exit i) => some (.exit i)
 | some .ret => some .ret
 | _ => none
def LoopRel (E : Env) (G : Gh) (a : ALoop) (r : Loop) : Prop :=
 r.state = a.state ∧ r.pending = pendC a.pend ∧ r.fn = a.fid ∧ r.params = a.params ∧ r.assign = a.asg ∧ r.body = a.body ∧ G.obj a.dfr = some (r.defers, 0) ∧
 ∃ fi, E.fn a.fid = some fi ∧ r.tmps.size = fi.fn.ntmps ∧ ∀ t k, idx fi.vars t = some k → Rep G (a.vals.getD k .undef) (r.tmps.getD t undef)
def MapRel (G : Gh) : List (AV × AV) → List MapEntry → Prop
 | [], [] => True
 | (k, v) :: es, e :: fs => Rep G k e.key ∧ Rep G v e.val ∧ MapRel G es fs
 | _, _ => False
def ORel (E : Env) (B : Nat) (G : Gh) (h : Array Obj) (i : Nat) : AO → Prop
 | .cells cs => ∃ b o, G.obj i = some (b, o) ∧ B ≤ b ∧ ∀ j x, cs[j]? = some x → G.own b (o + j) = .obj i j ∧ (∃ c, cl h b (o + j) = some c ∧ Rep G x c) ∧ fz h b (o + j) = false
 | .map es => ∃ b, G.obj i = some (b, 0) ∧ G.blk b = some i ∧ B ≤ b ∧ ∃ en ck, h[b]? = some (.map en ck) ∧ MapRel G es en.toList ∧ (∀ e ∈ en.toList, e.born < ck)
 | .tok true => True
 | .tok false => ∃ b s n, G.tok i = some (b, s, n) ∧ ∀ j, j < n → G.own b (s + j) = .tok i ∧ B ≤ b ∧ (∃ c, cl h b (s + j) = some c) ∧ fz h b (s + j) = false
 | .loop a => ∃ b, G.obj i = some (b, 0) ∧ G.blk b = some i ∧ B ≤ b ∧ ∃ r, h[b]? = some (.loop r) ∧ LoopRel E G a r
 | .dfr t => ∃ b, G.obj i = some (b, 0) ∧ G.blk b = some i ∧ B ≤ b ∧ h[b]? = some (.deferred (if t then none else some []))
 | .iter ks vs => ∃ b mb en ck, G.obj i = some (b, 0) ∧ G.blk b = some i ∧ B ≤ b ∧ h[b]? = some (.mapIter (some mb) ck #[] ck) ∧ Rep G (.rmap ks vs) (.map (some mb)) ∧ G.rm mb = some (en, ck)
 | .iterX => ∃ b mb en ck seen, G.obj i = some (b, 0) ∧ G.blk b = some i ∧ B ≤ b ∧ h[b]? = some (.mapIter (some mb) ck seen ck) ∧ G.rm mb = some (en, ck)
 | .iter1 k v => ∃ b mb en ck seen e, G.obj i = some (b, 0) ∧ G.ro b = some (.mapIter (some mb) ck seen ck) ∧ G.rm mb = some (en, ck) ∧ seen.back? = some e.born ∧ e ∈ en.toList ∧ Rep G k e.key ∧ Rep G v e.val
structure Inv (E : Env) (B : Nat) (h0 : Array Obj) (G : Gh) (S : St) (h : Array Obj) : Prop where
 old : ∀ b, b < B → h[b]? = h0[b]?
 size : B ≤ h.size
 imm : ∀ b o c, G.own b o = .imm c → cl h b o = some c
 res : ∀ b o c, G.own b o = .res c → cl h b o = some c ∧ fz h b o = false ∧ B ≤ b
 fresh : ∀ b o, h.size ≤ b → G.own b o = .none
 freshB : ∀ b, h.size ≤ b → G.blk b = none
 objs : ∀ i o, S.get i = some o → ORel E B G h i o
 ids : ∀ i, S.n ≤ i → G.obj i = none ∧ G.tok i = none
 blkC : ∀ b i, G.blk b = some i → ∃ x, h[b]? = some x ∧ ∀ c e f, x ≠ .cells c e f
 rm : ∀ b en ck, G.rm b = some (en, ck) → b < B ∧ h0[b]? = some (.map en ck) ∧ (∀ e ∈ en.toList, e.born < ck) ∧ (en.toList.map (·.born)).Nodup
 ro : ∀ b x, G.ro b = some x → h[b]? = some x ∧ G.blk b = none ∧ ∀ c e f, x ≠ .cells c e f
 low : G.lo ≤ B
/-- the memory, and all else that a call may not touch -/
structure InvW (E : Env) (B : Nat) (h0 : World) (G : Gh) (S : St) (w : World) : Prop extends Inv E B h0.heap G S w.heap where
 os : w.os = h0.os
 out : w.output = h0.output
theorem MapRel.mono {G G' : Gh} (hG : G.Le0 G') : ∀ {es : List (AV × AV)} {fs : List MapEntry}, MapRel G es fs → MapRel G' es fs
 | [], [], _ => trivial
 | (_, _) :: _, _ :: _, h => ⟨h.1.mono hG, h.2.1.mono hG, MapRel.mono hG h.2.2⟩
 | [], _ :: _, h => h.elim
 | (_, _) :: _, [], h => h.elim
theorem LoopRel.mono {E : Env} {G G' : Gh} (hG : G.Le0 G') {a : ALoop} {r : Loop} (h : LoopRel E G a r) : LoopRel E G' a r := by
 obtain ⟨h1, h2, h3, h4, h5, h6, h7, fi, h8, h9, h10⟩ := h
 exact ⟨h1, h2, h3, h4, h5, h6, hG.obj _ _ h7, fi, h8, h9, fun t k hk => (h10 t k hk).mono hG⟩
/-- an object that nothing touches -/
theorem ORel.frame {E : Env} {B : Nat} {G G' : Gh} {h h' : Array Obj} {i : Nat} {o : AO} (hG : G.Le0 G') (hs : h.size ≤ h'.size)
  (hown : ∀ b q j, G.own b q = .obj i j → G'.own b q = .obj i j ∧ cl h' b q = cl h b q ∧ fz h' b q = fz h b q)
  (htok : ∀ b q, G.own b q = .tok i → G'.own b q = .tok i ∧ (∀ c, cl h b q = some c → ∃ c', cl h' b q = some c') ∧ fz h' b q = fz h b q)
  (hblk : ∀ b, G.blk b = some i → G'.blk b = some i ∧ h'[b]? = h[b]?) (k : ORel E B G h i o) : ORel E B G' h' i o := by
 cases o with
 | cells cs =>
  obtain ⟨b, q, h1, h2, h3⟩ := k
  refine ⟨b, q, hG.obj _ _ h1, h2, fun j x hx => ?_⟩
  obtain ⟨h4, ⟨c, h5, h6⟩, h7⟩ := h3 j x hx
  obtain ⟨h8, h9, h10⟩ := hown _ _ _ h4
  exact ⟨h8, ⟨c, by rw [h9, h5], h6.mono hG⟩, by rw [h10, h7]⟩
 | map es =>
  obtain ⟨b, h1, h2, h3, en, ck, h4, h5, h6⟩ := k
  obtain ⟨h7, h8⟩ := hblk b h2
  exact ⟨b, hG.obj _ _ h1, h7, h3, en, ck, by rw [h8, h4], h5.mono hG, h6⟩
 | tok s =>
  cases s with
  | true => trivial
  | false =>
   obtain ⟨b, s, n, h1, h2⟩ := k
   refine ⟨b, s, n, hG.tok _ _ h1, fun j hj => ?_⟩
   obtain ⟨h3, h4, ⟨c, h5⟩, h6⟩ := h2 j hj
   obtain ⟨h7, h8, h9⟩ := htok _ _ h3
   exact ⟨h7, h4, h8 c h5, by rw [h9, h6]⟩
 | loop a =>
  obtain ⟨b, h1, h2, h3, r, h4, h5⟩ := k
  obtain ⟨h7, h8⟩ := hblk b h2
  exact ⟨b, hG.obj _ _ h1, h7, h3, r, by rw [h8, h4], h5.mono hG⟩
 | dfr t =>
  obtain ⟨b, h1, h2, h3, h4⟩ := k
  obtain ⟨h7, h8⟩ := hblk b h2
  exact ⟨b, hG.obj _ _ h1, h7, h3, by rw [h8, h4]⟩
 | iter ks vs =>
  obtain ⟨b, mb, en, ck, h1, h2, h3, h4, h5, h6⟩ := k
  obtain ⟨h7, h8⟩ := hblk b h2
  exact ⟨b, mb, en, ck, hG.obj _ _ h1, h7, h3, by rw [h8, h4], h5.mono hG, by rw [hG.rm]; exact h6⟩
 | iterX =>
  obtain ⟨b, mb, en, ck, seen, h1, h2, h3, h4, h6⟩ := k
  obtain ⟨h7, h8⟩ := hblk b h2
  exact ⟨b, mb, en, ck, seen, hG.obj _ _ h1, h7, h3, by rw [h8, h4], by rw [hG.rm]; exact h6⟩
 | iter1 x v =>
  obtain ⟨b, mb, en, ck, seen, e, h1, h4, h5, h6, h9, h10, h11⟩ := k
  exact ⟨b, mb, en, ck, seen, e, hG.obj _ _ h1, hG.ro _ _ h4, by rw [hG.rm]; exact h5, h6, h9, h10.mono hG, h11.mono hG⟩
end Go.Vm
