/-
Contracts of functions on numbers and names. No conditions.
-/
import Derived.Test.YtjfnelfdlemfgaaGreatDoorNodeA
import Derived.Test.YtjfnelfdlemfgaaGreatDoorFields
set_option linter.all false
set_option maxHeartbeats 4000000
namespace Go.Vm.L
open Go Go.Proofs Go.Vm
set_option maxRecDepth 100000
abbrev Sm := List (FuncId × (List AV → Option FRes))
def sumG : Sm → FuncId → List AV → Option FRes
 | [], _, _ => none
 | (f, g) :: l, f', a => bif Nat.beq f f' then g a else sumG l f' a
/-- what a function returns, where that is told -/
def FOk (f : FuncId) (g : List AV → Option FRes) : Prop := ∀ a r, g a = some r → AV.persL a = true ∧ r.pers = true ∧ Sound Tryz.prog ED f a r
theorem sumG_ok : ∀ {l : Sm}, (∀ x ∈ l, FOk x.1 x.2) → SumOk Tryz.prog ED (sumG l)
 | [], _ => fun f a r h => by simp [sumG] at h
 | (f, g) :: l, hl => fun f' a r h => by
  simp only [sumG] at h
  cases hb : Nat.beq f f' with
  | true =>
   rw [hb] at h
   have := Nat.eq_of_beq_eq_true hb
   subst this
   exact hl (f, g) (by simp) a r h
  | false =>
   rw [hb] at h
   exact sumG_ok (fun x hx => hl x (by simp [hx])) f' a r h
theorem callS_sum {l : Sm} {n : Nat} {f : FuncId} {args : List AV} {S : St} {r : FRes} (h : sumG l f (args.map AV.dead) = some r) : callS ED (sumG l) n (.fn f) args S = some (r, S) := by
 cases n <;> simp only [callS, h] <;> rfl
theorem callS_go {l : Sm} {n : Nat} {f : FuncId} {args : List AV} {S : St} (h : sumG l f (args.map AV.dead) = none) :
  callS ED (sumG l) (n + 1) (.fn f) args S = fnA ED (callS ED (sumG l) n) (fun g a r T => dfA ED (callS ED (sumG l) n) (iter n) g a r T) (iter n) f args S := by
 simp only [callS, h]
/-- how a contract is proved -/
theorem fok {f : FuncId} {g : List AV → Option FRes} (l : Sm) (hl : ∀ x ∈ l, FOk x.1 x.2)
  (h : ∀ a r, g a = some r → AV.persL a = true ∧ r.pers = true ∧ ∃ n, ∀ p : FRes → St → Prop, (∀ r' S', r'.melt S' = r → p r' S') → GotF (callS ED (sumG l) n (.fn f) a S0) p) : FOk f g := by
 intro a r hg
 obtain ⟨h1, h2, n, h3⟩ := h a r hg
 refine ⟨h1, h2, ?_⟩
 obtain ⟨r', S', h4, h5⟩ := gotF_iff.1 (h3 (fun r' S' => r'.melt S' = r) (fun _ _ h => h))
 rw [← h5]
 exact sound_of ED_ok globPers (sumG_ok hl) h4 (by rw [h5]; exact h2)
/-! numbers -/
theorem wrap_id {n : Int} (h1 : -9223372036854775808 ≤ n) (h2 : n < 9223372036854775808) : IntKind.i64.wrap n = n := by
 unfold IntKind.wrap
 simp [IntKind.bits, IntKind.signed]
 omega
/-! acts that panic, recover, defer -/
theorem eff_recover {E : Env} {call : CallF} {ρ : Operand → AV} {S : St} {ts : Array TypeId} : effA E call ρ (.call { callee := .builtin .recover, args := #[], argTypes := ts }) S = some .rcv := rfl
theorem stepE_rcv_no {vars : List Tmp} {dst : Option Tmp} {v : List AV} {sc : List (Tmp × AV)} {d : List ADef} {S : St} : stepE vars dst { vals := v, sc := sc, defers := d, recs := .no, rnd := none } S (some .rcv) = some (.ok (Vm.Loc.putO vars { vals := v, sc := sc, defers := d, recs := .no, rnd := none } dst .nili) S) := rfl
theorem stepE_rcv_pan {vars : List Tmp} {dst : Option Tmp} {v : List AV} {sc : List (Tmp × AV)} {d : List ADef} {x : AV} {S : St} : stepE vars dst { vals := v, sc := sc, defers := d, recs := .pan x, rnd := none } S (some .rcv) = some (.ok (Vm.Loc.putO vars { vals := v, sc := sc, defers := d, recs := .done, rnd := none } dst x) S) := rfl
theorem stepE_dfr {vars : List Tmp} {dst : Option Tmp} {v : List AV} {sc : List (Tmp × AV)} {d : List ADef} {r : RecS} {x : ADef} {S : St} : stepE vars dst { vals := v, sc := sc, defers := d, recs := r, rnd := none } S (some (.dfr x)) = some (.ok (Vm.Loc.putO vars { vals := v, sc := sc, defers := x :: d, recs := r, rnd := none } dst nowhere) S) := rfl
theorem stepE_pan {vars : List Tmp} {dst : Option Tmp} {L : Vm.Loc} {S S' : St} {v : AV} : stepE vars dst L S (some (.pan v S')) = some (.pan v L S') := rfl
theorem eff_typeAssert {E : Env} {call : CallF} {ρ : Operand → AV} {S : St} {x : Operand} {t a : TypeId} {ok : Bool} : effA E call ρ (.typeAssert x t a ok) S = valO S (assertA E (ρ x) a ok) := eff_pure rfl
theorem eff_lookup {E : Env} {call : CallF} {ρ : Operand → AV} {S : St} {t : TypeId} {x k : Operand} {ok : Bool} : effA E call ρ (.lookup t x k ok) S = valO S (lookupA E S t (ρ x) (ρ k) ok) := by
 simp only [effA, opK, readA]
 cases lookupA E S t (ρ x) (ρ k) ok <;> rfl
theorem eff_index {E : Env} {call : CallF} {ρ : Operand → AV} {S : St} {t : TypeId} {x i : Operand} : effA E call ρ (.index t x i) S = valO S (indexA E t (ρ x) (ρ i)) := eff_pure rfl
def vloc (vals : List AV) (sc : List (Tmp × AV)) : Vm.Loc := { vals := vals, sc := sc, defers := [], recs := .no, rnd := none }
attribute [local simp] inFrame startLoc startVals Loc.clear blockC Loc.putO Loc.put idx evO constV Loc.get Vm.look intA unwindA resultsA resultV actA pureA storeA loadA fillE repElems TI.zeroV fieldOf fieldAddrA fieldA elemsA retE cellsOf? setCells nowhere mapHead headNext
def withinG : List AV → Option FRes
 | [.int .i64 n, .int .i64 a, .int .i64 b] => some (.ret (.bool (decide (a ≤ n ∧ n ≤ b))))
 | _ => none
theorem within_ok : FOk 86 withinG := by
 refine fok [] (by simp) ?_
 intro a r h
 unfold withinG at h
 split at h
 ·rename_i n lo hi
  cases h
  refine ⟨rfl, rfl, 1, fun p hp => ?_⟩
  rw [callS_go rfl]
  simp only [fnA, ED_fn86, fi86, Tryz.f86]
  by_cases h1 : lo ≤ n
  ·simp [vmS, lenA, indexAddrA, h1]
   exact hp _ _ (by simp [FRes.melt, AV.melt, AV.dead, h1])
  ·simp [vmS, lenA, indexAddrA, h1]
   exact hp _ _ (by simp [FRes.melt, AV.melt, AV.dead, h1])
 ·cases h
/-- the panic of what is not well formed -/
def wrongV (e at_ : Int) : AV := .iface 128 (.agg [.int .i64 e, .int .i64 at_])
def mustG : List AV → Option FRes
 | [.bool b, .int .i64 e] => some (if b then .ret (.tup []) else .pan (wrongV e 0))
 | _ => none
theorem must_ok : FOk 53 mustG := by
 refine fok [] (by simp) ?_
 intro a r h
 unfold mustG at h
 split at h
 ·rename_i b e
  cases h
  refine ⟨rfl, by cases b <;> rfl, 1, fun p hp => ?_⟩
  rw [callS_go rfl]
  have hb : buildA ED 128 [(0, .int .i64 e), (1, .int .i64 0)] = some (.agg [.int .i64 e, .int .i64 0]) := rfl
  simp only [fnA, ED_fn53, fi53, Tryz.f53]
  cases b with
  | true =>
   simp [vmS, lenA, indexAddrA, unA]
   exact hp _ _ rfl
  | false =>
   simp [vmS, lenA, indexAddrA, unA, hb, stepE_pan]
   exact hp _ _ rfl
 ·cases h
/-! lists of numbers -/
def intsOf : List AV → Option (List Int)
 | [] => some []
 | .int .i64 n :: es => (intsOf es).map (n :: ·)
 | _ :: _ => none
theorem intsOf_ints : ∀ zs : List Int, intsOf (ints zs) = some zs
 | [] => rfl
 | z :: zs => by
  have := intsOf_ints zs
  unfold ints at this ⊢
  simp [intsOf, this]
theorem intsOf_eq : ∀ {es : List AV} {zs : List Int}, intsOf es = some zs → es = ints zs
 | [], zs, h => by simp only [intsOf] at h; cases h; rfl
 | .int .i64 n :: es, zs, h => by
  simp only [intsOf] at h
  cases hr : intsOf es with
  | none => rw [hr] at h; cases h
  | some q =>
   rw [hr] at h
   cases h
   rw [intsOf_eq hr]
   rfl
 | .undef :: _, _, h => by simp [intsOf] at h
 | .bool _ :: _, _, h => by simp [intsOf] at h
 | .int .i8 _ :: _, _, h | .int .i16 _ :: _, _, h | .int .i32 _ :: _, _, h | .int .u8 _ :: _, _, h | .int .u16 _ :: _, _, h | .int .u32 _ :: _, _, h | .int .u64 _ :: _, _, h => by simp [intsOf] at h
 | .str _ :: _, _, h => by simp [intsOf] at h
 | .nilp :: _, _, h => by simp [intsOf] at h
 | .ptr _ _ :: _, _, h => by simp [intsOf] at h
 | .rptr _ :: _, _, h => by simp [intsOf] at h
 | .nils :: _, _, h => by simp [intsOf] at h
 | .slice _ _ :: _, _, h => by simp [intsOf] at h
 | .rsl _ _ _ _ :: _, _, h => by simp [intsOf] at h
 | .nilm :: _, _, h => by simp [intsOf] at h
 | .map _ :: _, _, h => by simp [intsOf] at h
 | .yld _ :: _, _, h => by simp [intsOf] at h
 | .nilf :: _, _, h => by simp [intsOf] at h
 | .nili :: _, _, h => by simp [intsOf] at h
 | .fn _ _ _ :: _, _, h => by simp [intsOf] at h
 | .fref _ _ _ :: _, _, h => by simp [intsOf] at h
 | .rmap _ _ :: _, _, h => by simp [intsOf] at h
 | .iface _ _ :: _, _, h => by simp [intsOf] at h
 | .agg _ :: _, _, h => by simp [intsOf] at h
 | .tup _ :: _, _, h => by simp [intsOf] at h
theorem ints_pers : ∀ zs : List Int, AV.persL (ints zs) = true
 | [] => rfl
 | z :: zs => by
  have := ints_pers zs
  unfold ints at this ⊢
  simp [AV.persL, AV.pers, this]
def ixOf (n : Int) : List Int → Int → Int
 | [], _ => -1
 | z :: zs, j => if z = n then j else ixOf n zs (j + 1)
theorem index_ints {t : TypeId} {zs : List Int} {tk : Tk} {j : Nat} (ht : ED.desc t = some (.slice 3)) (h : j < zs.length) : indexAddrA ED t (.slice (ints zs) tk) (.int .i64 (j : Nat)) = some (.rptr [.int .i64 zs[j]]) := by
 have hl : (ints zs).length = zs.length := by simp [ints]
 have := index_slice (E := ED) (t := t) (e := 3) (n := (j : Int)) (k := .i64) (es := ints zs) (tk := tk) (v := .int .i64 zs[j]) (s := 1) ht rfl (by omega) (by omega) (by simp [ints]) rfl
 exact this
def indexG : List AV → Option FRes
 | [.slice es .dead, .int .i64 n] => match intsOf es with
  | some zs => if zs.length ≤ 1000000 then some (.ret (.int .i64 (ixOf n zs 0))) else none
  | none => none
 | _ => none
theorem index_ok : FOk 153 indexG := by
 refine fok [] (by simp) ?_
 intro a r h
 unfold indexG at h
 split at h
 ·rename_i es n
  split at h
  ·rename_i zs hzs
   split at h
   ·rename_i hlen
    cases h
    have := intsOf_eq hzs
    subst this
    refine ⟨by simp [AV.persL, AV.pers, ints_pers], rfl, zs.length + 2, fun p hp => ?_⟩
    rw [callS_go rfl]
    have hl : (ints zs).length = zs.length := by simp [ints]
    simp only [fnA, ED_fn153, fi153, Tryz.f153]
    simp [vmS, lenA, indexAddrA, hl]
    generalize hc : iter _ _ _ _ = c
    obtain ⟨e1, L1, S1, rfl, hq⟩ := loop_of hc
     (fun r L S => ∃ j : Nat, ∃ x sc, j + r = zs.length ∧ ixOf n (zs.drop j) (j : Nat) = ixOf n zs 0 ∧ L = vloc [.slice (ints zs) .dead, .int .i64 n, .int .i64 0, x, .int .i64 zs.length, .int .i64 (j : Nat)] sc ∧ S = S0)
     (fun e L S => S = S0 ∧ ∃ x y sc, (e = .ret ∧ L = vloc [.slice (ints zs) .dead, .int .i64 n, .int .i64 (ixOf n zs 0), x, .int .i64 zs.length, y] sc) ∨ (e = .exit 0 ∧ ixOf n zs 0 = -1 ∧ L = vloc [.slice (ints zs) .dead, .int .i64 n, .int .i64 0, x, .int .i64 zs.length, y] sc))
     zs.length (by omega)
     ⟨0, _, _, by simp, by simp, rfl, rfl⟩
     (by
      rintro r L S ⟨j, x, sc, hjk, hs, rfl, rfl⟩ q hq1 hq2
      by_cases hj : j < zs.length
      ·have hw : IntKind.i64.wrap ((j : Int) + 1) = ((j : Int) + 1) := wrap_id (by omega) (by omega)
       have hix := index_ints (t := 35) (tk := .dead) rfl hj
       rw [List.drop_eq_getElem_cons hj] at hs
       simp only [ixOf] at hs
       generalize zs[j] = z at *
       by_cases hz : n = z
       ·rw [if_pos hz.symm] at hs
        simp [vmS, vloc, hj, hw, hix, hz]
        exact hq2 _ _ _ (by simp) ⟨rfl, _, _, _, .inl ⟨rfl, by rw [← hs, ← hz]; rfl⟩⟩
       ·rw [if_neg (fun e => hz e.symm)] at hs
        simp [vmS, vloc, hj, hw, hix, hz]
        exact hq1 (r - 1) _ _ (by omega) ⟨j + 1, _, _, by omega, by simpa using hs, rfl, rfl⟩
      ·have hjl : j = zs.length := by omega
       subst hjl
       rw [List.drop_length] at hs
       simp only [ixOf] at hs
       simp [vmS, vloc]
       exact hq2 _ _ _ (by simp) ⟨rfl, _, _, _, .inr ⟨rfl, hs.symm, rfl⟩⟩)
    obtain ⟨rfl, x, y, sc, ⟨rfl, rfl⟩ | ⟨rfl, hm, rfl⟩⟩ := hq
    ·simp [vmS, vloc]
     exact hp _ _ rfl
    ·simp [vmS, vloc]
     exact hp _ _ (by rw [hm]; rfl)
   ·cases h
  ·cases h
 ·cases h
theorem within_use {l : Sm} (h : sumG l 86 = withinG) {n : Nat} {x a b : Int} {S : St} : callS ED (sumG l) n (.fn 86) [.int .i64 x, .int .i64 a, .int .i64 b] S = some (.ret (.bool (decide (a ≤ x ∧ x ≤ b))), S) :=
 callS_sum (by rw [h]; rfl)
theorem must_use {l : Sm} (h : sumG l 53 = mustG) {n : Nat} {b : Bool} {e : Int} {S : St} : callS ED (sumG l) n (.fn 53) [.bool b, .int .i64 e] S = some (if b then .ret (.tup []) else .pan (wrongV e 0), S) :=
 callS_sum (by rw [h]; rfl)
theorem ints_dead : ∀ zs : List Int, AV.deadL (ints zs) = ints zs
 | [] => rfl
 | z :: zs => by
  have := ints_dead zs
  unfold ints at this ⊢
  simp [AV.deadL, AV.dead, this]
theorem slice_dead {zs : List Int} {tk : Tk} : (AV.slice (ints zs) tk).dead = .slice (ints zs) .dead := by
 simp [AV.dead, ints_dead]
theorem index_use {l : Sm} (h : sumG l 153 = indexG) {n : Nat} {zs : List Int} {tk : Tk} {z : Int} {S : St} (hl : zs.length ≤ 1000000) :
  callS ED (sumG l) n (.fn 153) [.slice (ints zs) tk, .int .i64 z] S = some (.ret (.int .i64 (ixOf z zs 0)), S) :=
 callS_sum (by rw [h]; simp [ints_dead, AV.dead, indexG, intsOf_ints, hl])
theorem ixOf_has {n : Int} : ∀ {zs : List Int} {j : Int}, 0 ≤ j → decide (0 ≤ ixOf n zs j) = zs.contains n
 | [], j, _ => by simp [ixOf]
 | z :: zs, j, hj => by
  by_cases h : z = n
  ·subst h
   simp [ixOf, hj]
  ·have h' : (n == z) = false := by simpa using fun e => h e.symm
   rw [List.contains_cons, h', Bool.false_or, ← ixOf_has (zs := zs) (j := j + 1) (by omega)]
   simp only [ixOf, if_neg h]
def containsG : List AV → Option FRes
 | [.slice es .dead, .int .i64 n] => match intsOf es with
  | some zs => if zs.length ≤ 1000000 then some (.ret (.bool (zs.contains n))) else none
  | none => none
 | _ => none
def L1 : Sm := [(86, withinG), (53, mustG), (153, indexG)]
theorem L1_ok : ∀ x ∈ L1, FOk x.1 x.2 := by
 intro x hx
 simp only [L1, List.mem_cons, List.mem_nil_iff, or_false] at hx
 rcases hx with rfl | rfl | rfl
 ·exact within_ok
 ·exact must_ok
 ·exact index_ok
theorem contains_ok : FOk 103 containsG := by
 refine fok L1 L1_ok ?_
 intro a r h
 unfold containsG at h
 split at h
 ·rename_i es n
  split at h
  ·rename_i zs hzs
   split at h
   ·rename_i hlen
    cases h
    have := intsOf_eq hzs
    subst this
    refine ⟨by simp [AV.persL, AV.pers, ints_pers], rfl, 2, fun p hp => ?_⟩
    rw [callS_go rfl]
    have u' := fun m S => index_use (l := L1) rfl (n := m) (zs := zs) (tk := .dead) (z := n) (S := S) hlen
    simp only [fnA, ED_fn103, fi103, Tryz.f103]
    simp [vmS, lenA, indexAddrA, u']
    exact hp _ _ (by simp [FRes.melt, AV.melt, AV.dead, ixOf_has])
   ·cases h
  ·cases h
 ·cases h
theorem contains_use {l : Sm} (h : sumG l 103 = containsG) {n : Nat} {zs : List Int} {tk : Tk} {z : Int} {S : St} (hl : zs.length ≤ 1000000) :
  callS ED (sumG l) n (.fn 103) [.slice (ints zs) tk, .int .i64 z] S = some (.ret (.bool (zs.contains z)), S) :=
 callS_sum (by rw [h]; simp [ints_dead, AV.dead, containsG, intsOf_ints, hl])
def joinB (n : Int) : Bool := [0, 2, 7, 8, 9, 10, 11].contains n
def joinsG : List AV → Option FRes
 | [.int .i64 n] => some (.ret (.bool (joinB n)))
 | _ => none
theorem joins_ok : FOk 192 joinsG := by
 refine fok [(103, containsG)] (by intro x hx; simp only [List.mem_singleton] at hx; subst hx; exact contains_ok) ?_
 intro a r h
 unfold joinsG at h
 split at h
 ·rename_i n
  cases h
  refine ⟨rfl, rfl, 2, fun p hp => ?_⟩
  rw [callS_go rfl]
  have u := fun m tk S => contains_use (l := [(103, containsG)]) rfl (n := m) (zs := [0, 2, 7, 8, 9, 10, 11]) (tk := tk) (z := n) (S := S) (by decide)
  simp only [ints, List.map_cons, List.map_nil] at u
  simp only [fnA, ED_fn192, fi192, Tryz.f192]
  simp [vmS, lenA, indexAddrA, u]
  exact hp _ _ (by simp [FRes.melt, AV.melt, AV.dead, joinB])
 ·cases h
/-! of what a number is -/
/-- how many functions, if that is told -/
def lenV : AV → Option Nat
 | .nils => some 0
 | .slice es .dead => if es.length ≤ 1000000 then some es.length else none
 | _ => none
theorem lenV_len {v : AV} {k : Nat} (h : lenV v = some k) {t e : TypeId} (ht : ED.desc t = some (.slice e)) : lenA ED t v = some (.int .i64 k) ∧ v.isCell = true ∧ v.known = true ∧ v.cells = [v] ∧ k ≤ 1000000 := by
 unfold lenV at h
 split at h
 ·cases h
  exact ⟨len_nils ht, rfl, rfl, rfl, by omega⟩
 ·split at h
  ·rename_i hl
   cases h
   exact ⟨len_slice ht, rfl, rfl, rfl, hl⟩
  ·cases h
 ·cases h
def isVarB (n : Int) : Bool := decide (0 ≤ n ∧ n ≤ 399)
def isFunB (k : Nat) (n : Int) : Bool := decide (0 ≤ n ∧ n ≤ (k : Int) - 1)
def isWordB (n : Int) : Bool := decide (-2147483648 ≤ n ∧ n ≤ 2147483647)
def isOpB (n : Int) : Bool := decide (0 ≤ n ∧ n ≤ 11)
/-- the functions by which N is looked at -/
def lookB (k : Nat) (f : FuncId) (n : Int) : Bool :=
 if f = 89 then isVarB n else if f = 87 then isFunB k n else if f = 149 then true else if f = 150 then isWordB n else if f = 151 then isOpB n else joinB n
def lookG (f : FuncId) : List AV → Option FRes
 | [.agg [fs, .int .i64 _], .int .i64 n] => match lenV fs with
  | some k => if fs.pers then some (.ret (.bool (lookB k f n))) else none
  | none => none
 | _ => none
def L2 : Sm := [(86, withinG), (192, joinsG)]
theorem L2_ok : ∀ x ∈ L2, FOk x.1 x.2 := by
 intro x hx
 simp only [L2, List.mem_cons, List.mem_nil_iff, or_false] at hx
 rcases hx with rfl | rfl
 ·exact within_ok
 ·exact joins_ok
theorem joins_use {l : Sm} (h : sumG l 192 = joinsG) {n : Nat} {z : Int} {S : St} : callS ED (sumG l) n (.fn 192) [.int .i64 z] S = some (.ret (.bool (joinB z)), S) :=
 callS_sum (by rw [h]; rfl)
theorem look_ok : ∀ f ∈ [89, 87, 149, 150, 151, 152], FOk f (lookG f) := by
 intro f hf
 refine fok L2 L2_ok ?_
 intro a r h
 unfold lookG at h
 split at h
 ·rename_i fs m n
  split at h
  ·rename_i k hk
   split at h
   ·rename_i hfp
    cases h
    obtain ⟨h1, h2, h3, h4, h5⟩ := lenV_len hk (t := 22) (e := 63) rfl
    refine ⟨by simp [AV.persL, AV.pers, hfp], rfl, 2, fun p hp => ?_⟩
    have u := fun m x a b S => within_use (l := L2) rfl (n := m) (x := x) (a := a) (b := b) (S := S)
    have v := fun m z S => joins_use (l := L2) rfl (n := m) (z := z) (S := S)
    have hw : IntKind.i64.wrap ((k : Int) - 1) = (k : Int) - 1 := wrap_id (by omega) (by omega)
    simp only [List.mem_cons, List.mem_nil_iff, or_false] at hf
    rcases hf with rfl | rfl | rfl | rfl | rfl | rfl
    ·rw [callS_go rfl]
     simp only [fnA, ED_fn89, fi89, Tryz.f89]
     simp [vmS, lenA, indexAddrA, u]
     exact hp _ _ (by simp [FRes.melt, AV.melt, AV.dead, lookB, isVarB, isFunB, isWordB, isOpB])
    ·rw [callS_go rfl]
     simp only [fnA, ED_fn87, fi87, Tryz.f87]
     simp [vmS, u, h1, h2, h3, h4, hw]
     exact hp _ _ (by simp [FRes.melt, AV.melt, AV.dead, lookB, isVarB, isFunB, isWordB, isOpB])
    ·rw [callS_go rfl]
     simp only [fnA, ED_fn149, fi149, Tryz.f149]
     simp [vmS, lenA, indexAddrA]
     exact hp _ _ (by simp [FRes.melt, AV.melt, AV.dead, lookB, isVarB, isFunB, isWordB, isOpB])
    ·rw [callS_go rfl]
     simp only [fnA, ED_fn150, fi150, Tryz.f150]
     simp [vmS, lenA, indexAddrA, u]
     exact hp _ _ (by simp [FRes.melt, AV.melt, AV.dead, lookB, isVarB, isFunB, isWordB, isOpB])
    ·rw [callS_go rfl]
     simp only [fnA, ED_fn151, fi151, Tryz.f151]
     simp [vmS, lenA, indexAddrA, u]
     exact hp _ _ (by simp [FRes.melt, AV.melt, AV.dead, lookB, isVarB, isFunB, isWordB, isOpB])
    ·rw [callS_go rfl]
     simp only [fnA, ED_fn152, fi152, Tryz.f152]
     simp [vmS, lenA, indexAddrA, v]
     exact hp _ _ (by simp [FRes.melt, AV.melt, AV.dead, lookB, isVarB, isFunB, isWordB, isOpB])
   ·cases h
  ·cases h
 ·cases h
/-- parts, how N is looked at, which parts N and M are bound in -/
def formT : List (Int × FuncId × Int × Int) := [(0, 89, 0, 0), (0, 150, 0, 0), (0, 149, 0, 0), (2, 89, 2, 0), (1, 89, 1, 0), (2, 149, 0, 0), (0, 87, 0, 0), (1, 87, 0, 0), (2, 149, 0, 0), (1, 149, 0, 0), (1, 149, 0, 0), (1, 149, 0, 0), (1, 149, 0, 0),
 (3, 89, 2, 4), (3, 149, 0, 0), (2, 151, 0, 0), (-1, 149, 0, 0), (2, 89, 2, 0), (2, 89, 2, 0), (1, 149, 0, 0), (1, 149, 0, 0), (2, 149, 0, 0), (1, 152, 0, 0), (1, 152, 0, 0), (1, 149, 0, 0), (2, 149, 0, 0), (2, 149, 0, 0)]
def formV (x : Int × FuncId × Int × Int) : List AV := [.int .i64 x.1, .fn x.2.1 [] [], .int .i64 x.2.2.1, .int .i64 x.2.2.2]
def formCells : List AV := formT.flatMap formV
theorem forms_run : (callS ED (sumG []) 40 (.fn 101) [] S0).map (fun q => q.1.melt q.2) = some (.ret (.agg formCells)) := by
 kernel_rfl
def formsG : List AV → Option FRes
 | [] => some (.ret (.agg formCells))
 | _ => none
theorem forms_ok : FOk 101 formsG := by
 intro a r h
 unfold formsG at h
 split at h
 ·cases h
  refine ⟨rfl, by decide +kernel, ?_⟩
  have h := forms_run
  cases hc : callS ED (sumG []) 40 (.fn 101) [] S0 with
  | none => rw [hc] at h; cases h
  | some q =>
   obtain ⟨r, S'⟩ := q
   rw [hc] at h
   have h2 : r.melt S' = .ret (.agg formCells) := Option.some.inj h
   have := sound_of ED_ok globPers (sumG_ok (l := []) (by simp)) hc (by rw [h2]; decide +kernel)
   rw [h2] at this
   exact this
 ·cases h
theorem forms_use {l : Sm} (h : sumG l 101 = formsG) {n : Nat} {S : St} : callS ED (sumG l) n (.fn 101) [] S = some (.ret (.agg formCells), S) :=
 callS_sum (by rw [h]; rfl)
/-! what is bound -/
def andOne (a : Int) : Int := IntKind.i64.wrap (BitVec.ofInt 64 a &&& BitVec.ofInt 64 1).toNat
def bitI (b p : Int) : Int := andOne (b.fdiv (2 ^ (min p.toNat IntKind.i64.bits)))
def bitB (b p : Int) : Bool := decide (bitI b p = 1)
theorem and_one {a : Int} : intA .and .i64 a 1 = some (.int .i64 (andOne a)) := rfl
theorem shift_bit {b p : Int} (h : 0 ≤ p) : shiftA .shr .i64 b p = some (.int .i64 (b.fdiv (2 ^ (min p.toNat IntKind.i64.bits)))) := by
 unfold shiftA
 rw [if_neg (by omega)]
def boundL (b1 b2 p : Int) (zs : List Int) (n m : Int) : List Int := zs ++ (if bitB b1 p then [n] else []) ++ (if bitB b2 p then [m] else [])
def boundG : List AV → Option FRes
 | [.agg [.int .i64 p0, .fn f [] [], .int .i64 b1, .int .i64 b2], .slice es .dead, .agg [.int .i64 op, .int .i64 n, .int .i64 m, x], .int .i64 p] => match intsOf es with
  | some zs => if zs.length ≤ 1000 ∧ 0 ≤ p ∧ x.pers = true ∧ x.isCell = true then some (.ret (.slice (ints (boundL b1 b2 p zs n m)) .dead)) else none
  | none => none
 | _ => none
theorem setCells_app {α : Type} : ∀ (cs : List α) {xs ys zs : List α}, ys.length = cs.length → Vm.setCells (xs ++ ys ++ zs) xs.length cs = xs ++ cs ++ zs
 | [], xs, ys, zs, h => by
  have : ys = [] := List.length_eq_zero_iff.1 h
  subst this
  rfl
 | c :: cs, xs, ys, zs, h => by
  cases ys with
  | nil => cases h
  | cons y ys =>
   simp only [Vm.setCells]
   have e : (xs ++ y :: ys ++ zs).set xs.length c = (xs ++ [c]) ++ ys ++ zs := by simp
   rw [e]
   have := setCells_app cs (xs := xs ++ [c]) (ys := ys) (zs := zs) (by simpa using h)
   simpa using this
theorem ints_cells (zs : List Int) : (ints zs).flatMap AV.cells = ints zs ∧ (ints zs).all (·.isCell) = true ∧ (ints zs).all (fun v => v.cells.length = 1) = true := by
 induction zs with
 | nil => exact ⟨rfl, rfl, rfl⟩
 | cons z zs ih =>
  unfold ints at ih ⊢
  obtain ⟨h1, h2, h3⟩ := ih
  refine ⟨?_, ?_, ?_⟩
  ·rw [List.map_cons, List.flatMap_cons, h1]; rfl
  ·simp only [List.map_cons, List.all_cons, h2]; rfl
  ·simp only [List.map_cons, List.all_cons, h3]; rfl
theorem ints_app (xs ys : List Int) : ints (xs ++ ys) = ints xs ++ ints ys := by simp [ints]
theorem ints_length (zs : List Int) : (ints zs).length = zs.length := by simp [ints]
theorem copy_ints {S : St} {id cap : Nat} {zs ws us : List Int} (h : S.cells? id = some (ints (ws ++ us))) (hl : ws.length = zs.length) : copyA ED S 3 (.rsl id 0 zs.length cap) (ints zs) = some (S.put id (.cells (ints (zs ++ us)))) := by
 obtain ⟨h1, h2, h3⟩ := ints_cells zs
 unfold copyA
 simp only [ED_ti3, h1]
 rw [if_pos ⟨h2, h3, by rw [ints_length]; omega⟩]
 simp only [h]
 rw [if_pos (by rw [ints_length, ints_length, List.length_append]; omega)]
 have := setCells_app (ints zs) (xs := []) (ys := ints ws) (zs := ints us) (by rw [ints_length, ints_length, hl])
 simp only [List.nil_append, List.length_nil] at this
 rw [ints_app, this, ints_app]
theorem app_ints {S : St} {id cap k : Nat} {xs us : List Int} {w x : Int} (h : S.cells? id = some (ints (xs ++ w :: us))) (hk : xs.length = k) (hc : k + 1 ≤ cap) :
  appendA ED S 3 (.rsl id 0 k cap) [.int .i64 x] = some (.rsl id 0 (k + 1) cap, S.put id (.cells (ints (xs ++ x :: us)))) := by
 subst hk
 unfold appendA
 simp only [ED_ti3]
 rw [if_pos ⟨rfl, rfl, by decide⟩, if_pos (by simpa using hc)]
 simp only [h]
 rw [if_pos (by rw [ints_length]; simp)]
 have := setCells_app [AV.int .i64 x] (xs := ints xs) (ys := [.int .i64 w]) (zs := ints us) rfl
 rw [ints_length] at this
 have e : ints (xs ++ w :: us) = ints xs ++ [.int .i64 w] ++ ints us := by simp [ints]
 have e' : ints (xs ++ x :: us) = ints xs ++ [.int .i64 x] ++ ints us := by simp [ints]
 simp only [List.flatMap_cons, List.flatMap_nil, cells_int, List.append_nil, Nat.mul_one, Nat.zero_add, List.length_singleton]
 rw [e, this, e']
theorem melt_ints {S : St} {i len cap : Nat} {cs : List Int} (h : S.cells? i = some (ints cs)) (h1 : len ≤ cs.length) (h2 : len ≤ cap) : (FRes.ret (.rsl i 0 len cap)).melt S = .ret (.slice (ints (cs.take len)) .dead) := by
 have e : (ints cs).take len = ints (cs.take len) := by simp [ints, List.map_take]
 simp only [FRes.melt, AV.melt, h, List.drop_zero, e, ints_dead]
 rw [if_pos ⟨by rw [ints_length]; omega, .inl h2, (ints_cells cs).2.1⟩]
theorem bin_shr {E : Env} {t : TypeId} {x y : Operand} {k k' : IntKind} {m n : Int} : binA E .shr t x y (.int k m) (.int k' n) = shiftA .shr k m n := rfl
theorem eff_copy2 {E : Env} {call : CallF} {ρ : Operand → AV} {S : St} {x y : Operand} {t u : TypeId} : effA E call ρ (.call { callee := .builtin .copy, args := #[x, y], argTypes := #[t, u] }) S = actA E call ρ S (.call { callee := .builtin .copy, args := #[x, y], argTypes := #[t, u] }) := rfl
theorem bound_ok : FOk 104 boundG := by
 refine fok [] (by simp) ?_
 intro a r h
 unfold boundG at h
 split at h
 ·rename_i p0 f b1 b2 es op n m x p'
  split at h
  ·rename_i zs hzs
   split at h
   ·rename_i hc
    cases h
    have := intsOf_eq hzs
    subst this
    obtain ⟨hl, hp0, hxp, hxc⟩ := hc
    refine ⟨by simp [AV.persL, AV.pers, ints_pers, hxp], by simp [FRes.pers, AV.pers, ints_pers], 2, fun p hp => ?_⟩
    rw [callS_go rfl]
    have hil : (ints zs).length = zs.length := by simp [ints]
    simp only [fnA, ED_fn104, fi104, Tryz.f104]
    have hw : IntKind.i64.wrap ((zs.length : Int) + 2) = (zs.length : Int) + 2 := wrap_id (by omega) (by omega)
    have h0 : (zs.length : Int) ≤ (zs.length : Int) + 2 := by omega
    have hr : ((zs.length : Int) + 2) * 9 ≤ ((roomMost : Nat) : Int) := by unfold roomMost; omega
    have ht : ((zs.length : Int) + 2).toNat = zs.length + 2 := by omega
    have hrep : repeatL (zs.length + 2) [AV.int .i64 0] = ints (List.replicate zs.length 0 ++ [0, 0]) := by
     have e : ∀ k, (List.replicate k [AV.int IntKind.i64 0]).flatten = List.replicate k (AV.int .i64 0) := by
      intro k
      induction k with
      | zero => rfl
      | succ k ih => rw [List.replicate_succ, List.flatten_cons, ih, List.replicate_succ]; rfl
     unfold repeatL
     rw [e]
     simp only [ints, List.map_append, List.map_replicate, List.map_cons, List.map_nil]
     rw [← List.replicate_append_replicate]
     rfl
    generalize hT : ((S0.push (AO.cells [AV.int IntKind.i64 p0, AV.fn f [] [], AV.int IntKind.i64 b1, AV.int IntKind.i64 b2])).push (AO.cells [AV.int IntKind.i64 op, AV.int IntKind.i64 n, AV.int IntKind.i64 m, x])) = T
    have hTn : T.n = 2 := by subst hT; rfl
    have hTb : T.bad = false := by subst hT; rfl
    have hTw : T.wb = 0 := by subst hT; rfl
    have hT0 : T.cells? 0 = some [AV.int IntKind.i64 p0, AV.fn f [] [], AV.int IntKind.i64 b1, AV.int IntKind.i64 b2] := by subst hT; simp [push_at, n_push', n_S0, cellsOf?]
    have hT1 : T.cells? 1 = some [AV.int IntKind.i64 op, AV.int IntKind.i64 n, AV.int IntKind.i64 m, x] := by subst hT; simp [push_at, n_push', n_S0, cellsOf?]
    have c1 := copy_ints (S := T.push (.cells (ints (List.replicate zs.length 0 ++ [0, 0])))) (id := 2) (cap := zs.length + 2) (zs := zs) (ws := List.replicate zs.length 0) (us := [0, 0]) (cells?_push_eq _ _ hTn.symm) (by simp)
    generalize hS2 : ((T.push (.cells (ints (List.replicate zs.length 0 ++ [0, 0])))).put 2 (.cells (ints (zs ++ [0, 0])))) = S2 at c1
    have h2c : S2.cells? 2 = some (ints (zs ++ [0, 0])) := by subst hS2; exact cells?_put_eq _ _ rfl (by rw [n_push', hTn]; omega)
    have h2n : S2.n = 3 := by subst hS2; simp [n_push', n_put', hTn]
    have h2b : S2.bad = false := by subst hS2; simp [bad_push, bad_put, wb_push, hTb, hTw]
    have h2w : S2.wb = 0 := by subst hS2; simp [wb_put, wb_push, hTw]
    have h20 : S2.cells? 0 = some [AV.int IntKind.i64 p0, AV.fn f [] [], AV.int IntKind.i64 b1, AV.int IntKind.i64 b2] := by subst hS2; simp [push_at, put_at, n_push', n_put', hTn, hT0]
    have h21 : S2.cells? 1 = some [AV.int IntKind.i64 op, AV.int IntKind.i64 n, AV.int IntKind.i64 m, x] := by subst hS2; simp [push_at, put_at, n_push', n_put', hTn, hT1]
    have a1 := app_ints (S := S2) (id := 2) (cap := zs.length + 2) (k := zs.length) (xs := zs) (w := 0) (x := n) (us := [0]) h2c rfl (by omega)
    have a2 := app_ints (S := S2) (id := 2) (cap := zs.length + 2) (k := zs.length) (xs := zs) (w := 0) (x := m) (us := [0]) h2c rfl (by omega)
    have h3c : (S2.put 2 (.cells (ints (zs ++ [n, 0])))).cells? 2 = some (ints ((zs ++ [n]) ++ 0 :: [])) := by rw [cells?_put_eq _ _ rfl (by omega)]; simp
    have a3 := app_ints (S := S2.put 2 (.cells (ints (zs ++ [n, 0])))) (id := 2) (cap := zs.length + 2) (k := zs.length + 1) (xs := zs ++ [n]) (w := 0) (x := m) (us := []) h3c (by simp) (by omega)
    have sb1 : shiftA .shr .i64 b1 p' = _ := shift_bit hp0
    have sb2 : shiftA .shr .i64 b2 p' = _ := shift_bit hp0
    have hd : ∀ ws : List Int, AV.deadL (ints ws) = ints ws := ints_dead
    have h3c' : ∀ y, (S2.put 2 (.cells (ints (zs ++ [y, 0])))).cells? 2 = some (ints (zs ++ [y, 0])) := fun y => cells?_put_eq _ _ rfl (by omega)
    by_cases d1 : bitI b1 p' = 1
    ·by_cases d2 : bitI b2 p' = 1
     ·have e1 : bitB b1 p' = true := by simp [bitB, d1]
      have e2 : bitB b2 p' = true := by simp [bitB, d2]
      unfold bitI at d1 d2
      simp [vmS, hil, bin_shr, eff_copy2, ↓and_one, sb1, sb2, lenA, hw, h0, hr, ht, hrep, hT, hTn, hTb, hTw, hT0, hT1, c1, h2c, h2n, h2b, h2w, h20, h21, a1, a2, a3, d1, d2]
      refine hp _ _ ((melt_ints (cells?_put_eq _ _ rfl (by rw [n_put', h2n]; omega)) (by simp) (by omega)).trans ?_)
      simp [boundL, e1, e2, List.take_length_add_append]
     ·have e1 : bitB b1 p' = true := by simp [bitB, d1]
      have e2 : bitB b2 p' = false := by simp [bitB, d2]
      unfold bitI at d1 d2
      simp [vmS, hil, bin_shr, eff_copy2, ↓and_one, sb1, sb2, lenA, hw, h0, hr, ht, hrep, hT, hTn, hTb, hTw, hT0, hT1, c1, h2c, h2n, h2b, h2w, h20, h21, a1, a2, a3, d1, d2]
      refine hp _ _ ((melt_ints (h3c' n) (by simp) (by omega)).trans ?_)
      simp [boundL, e1, e2, List.take_length_add_append]
    ·by_cases d2 : bitI b2 p' = 1
     ·have e1 : bitB b1 p' = false := by simp [bitB, d1]
      have e2 : bitB b2 p' = true := by simp [bitB, d2]
      unfold bitI at d1 d2
      simp [vmS, hil, bin_shr, eff_copy2, ↓and_one, sb1, sb2, lenA, hw, h0, hr, ht, hrep, hT, hTn, hTb, hTw, hT0, hT1, c1, h2c, h2n, h2b, h2w, h20, h21, a1, a2, a3, d1, d2]
      refine hp _ _ ((melt_ints (h3c' m) (by simp) (by omega)).trans ?_)
      simp [boundL, e1, e2, List.take_length_add_append]
     ·have e1 : bitB b1 p' = false := by simp [bitB, d1]
      have e2 : bitB b2 p' = false := by simp [bitB, d2]
      unfold bitI at d1 d2
      simp [vmS, hil, bin_shr, eff_copy2, ↓and_one, sb1, sb2, lenA, hw, h0, hr, ht, hrep, hT, hTn, hTb, hTw, hT0, hT1, c1, h2c, h2n, h2b, h2w, h20, h21, a1, a2, a3, d1, d2]
      refine hp _ _ ((melt_ints (h2c) (by simp) (by omega)).trans ?_)
      simp [boundL, e1, e2, List.take_length_add_append]
   ·cases h
  ·cases h
 ·cases h
theorem fok_of_run {f : FuncId} {l : Sm} (hl : ∀ x ∈ l, FOk x.1 x.2) {a : List AV} {r : FRes} {n : Nat} (h : (callS ED (sumG l) n (.fn f) a S0).map (fun q => q.1.melt q.2) = some r) (hp : r.pers = true) : Sound Tryz.prog ED f a r := by
 cases hc : callS ED (sumG l) n (.fn f) a S0 with
 | none => rw [hc] at h; cases h
 | some q =>
  obtain ⟨r', S'⟩ := q
  rw [hc] at h
  have h2 : r'.melt S' = r := Option.some.inj h
  have := sound_of ED_ok globPers (sumG_ok hl) hc (by rw [h2]; exact hp)
  rw [h2] at this
  exact this
theorem bin_str {E : Env} {op : BinOp} {t : TypeId} {x y : Operand} {a b : List UInt8} (h : op = .eql ∨ op = .neq ∨ op = .add) : binA E op t x y (.str a) (.str b) = strA op a b := by
 rcases h with rfl | rfl | rfl <;> rfl
theorem trim_use {l : Sm} (h : sumG l 41 = fun _ => none) {n : Nat} {s c : List UInt8} {S : St} (h1 : s.length ≤ 9223372036854775807) (h2 : c.length < 4294967281 ∧ (c.all fun b => Nat.blt b.toNat 128) = true) :
  callS ED (sumG l) (n + 1) (.fn 41) [.str s, .str c] S = some (.ret (.str (Lib.trimS s c)), S) := by
 rw [callS_go (by rw [h])]
 simp only [fnA, ED_fn41, fi41, Tryz.f41, ED_lib41, libTrim]
 rw [if_pos ⟨h1, h2.1, h2.2⟩]
def digits : List UInt8 := [48, 49, 50, 51, 52, 53, 54, 55, 56, 57]
def letters : List UInt8 := [97, 98, 99, 100, 101, 102, 103, 104, 105, 106, 107, 108, 109, 110, 111, 112, 113, 114, 115, 116, 117, 118, 119, 120, 121, 122, 48, 49, 50, 51, 52, 53, 54, 55, 56, 57]
/-- x with digits behind it -/
def varB : List UInt8 → Bool
 | c :: d :: r => decide (c.toNat = 120) && (Lib.trimS (d :: r) digits == [])
 | _ => false
def varG : List AV → Option FRes
 | [.str s] => if s.length ≤ 9223372036854775807 then some (.ret (.bool (varB s))) else none
 | _ => none
theorem slice1 {c : UInt8} {r : List UInt8} : sliceA ED 9 (.str (c :: r)) (some (.int .i64 1)) none none = some (.str r) := by
 have h : (1 : Int) ≤ (r.length : Int) + 1 := by omega
 simp [sliceA, boundsA, boundMx, boundHi, boundLo, boundA, h]
theorem index0 {c : UInt8} {r : List UInt8} : indexA ED 9 (.str (c :: r)) (.int .i64 0) = some (.int .u8 c.toNat) := by
 have h : (0 : Int) ≤ 0 ∧ (0 : Int) < ((c :: r).length : Nat) := ⟨Int.le_refl _, by simp⟩
 simp only [indexA, ED_desc9]
 rw [if_pos h]
 rfl
theorem var_ok : FOk 137 varG := by
 refine fok [] (by simp) ?_
 intro a r h
 unfold varG at h
 split at h
 ·rename_i s
  split at h
  ·rename_i hl
   cases h
   refine ⟨rfl, rfl, 2, fun p hp => ?_⟩
   rw [callS_go rfl]
   simp only [fnA, ED_fn137, fi137, Tryz.f137]
   match s, hl with
   | [], _ =>
    simp [vmS, lenA]
    exact hp _ _ rfl
   | [c], _ =>
    simp [vmS, lenA]
    exact hp _ _ rfl
   | c :: d :: r, hl =>
    have h1 : (1 : Int) < (r.length : Int) + 1 + 1 := by omega
    have h1' : (1 : Int) < (r.length : Int) + (1 + 1) := by omega
    have h1'' : (1 : Int) < (r.length : Int) + 2 := by omega
    have hlr : (d :: r).length ≤ 9223372036854775807 := by simp at hl ⊢; omega
    have tr := fun n S => trim_use (l := []) rfl (n := n) (s := d :: r) (c := digits) (S := S) hlr ⟨by decide, by decide⟩
    have tr' := fun S => tr 0 S
    simp only [digits] at tr tr'
    by_cases hc : (c.toNat : Int) = 120
    ·have hc' : c.toNat = 120 := by omega
     simp [vmS, lenA, eff_index, index0, slice1, bin_str, strA, tr, tr', h1, h1', h1'', hc]
     exact hp _ _ (by simp [FRes.melt, AV.melt, AV.dead, varB, hc', digits])
    ·have hc' : ¬ c.toNat = 120 := by omega
     simp [vmS, lenA, eff_index, index0, slice1, bin_str, strA, tr, tr', h1, h1', h1'', hc]
     exact hp _ _ (by simp [FRes.melt, AV.melt, AV.dead, varB, hc', digits])
  ·cases h
 ·cases h
theorem var_use {l : Sm} (h : sumG l 137 = varG) {n : Nat} {s : List UInt8} {S : St} (hs : s.length ≤ 9223372036854775807) : callS ED (sumG l) n (.fn 137) [.str s] S = some (.ret (.bool (varB s)), S) :=
 callS_sum (by rw [h]; simp [AV.dead, varG, hs])
/-! the words that are kept -/
def fieldsG : List AV → Option FRes
 | [.str s] => if s = kept then some (.ret (.slice (keptW.map .str) .dead)) else none
 | _ => none
theorem fields_ok : FOk 156 fieldsG := by
 intro a r h
 unfold fieldsG at h
 split at h
 ·split at h
  ·rename_i e
   cases h
   subst e
   exact ⟨rfl, by decide +kernel, fields_sound⟩
  ·cases h
 ·cases h
def L4 : Sm := [(156, fieldsG), (86, withinG), (137, varG)]
theorem L4_ok : ∀ x ∈ L4, FOk x.1 x.2 := by
 intro x hx
 simp only [L4, List.mem_cons, List.mem_nil_iff, or_false] at hx
 rcases hx with rfl | rfl | rfl
 ·exact fields_ok
 ·exact within_ok
 ·exact var_ok
noncomputable def resQ : Option (FRes × St) := callS ED (sumG L4) 41 (.fn 109) [] S0
noncomputable def resS : St := match resQ with
 | some (_, S) => S
 | none => S0
theorem res_fst : resQ.map (·.1) = some (.ret (.map 0)) := by kernel_rfl
theorem res_run : callS ED (sumG L4) 41 (.fn 109) [] S0 = some (.ret (.map 0), resS) := by
 have h := res_fst
 show resQ = _
 unfold resS
 cases hq : resQ with
 | none => rw [hq] at h; cases h
 | some q =>
  obtain ⟨r, S⟩ := q
  rw [hq] at h
  have := Option.some.inj h
  simp only at this
  rw [this]
theorem res_bad : resS.bad = false := by kernel_rfl
theorem res_wb : resS.wb = 0 := by kernel_rfl
theorem res_get : resS.get 0 = some (.map (keptW.map fun w => (AV.str w, AV.bool true))) := by kernel_rfl
theorem find_words (s : List UInt8) : ∀ l : List (List UInt8), findA (.str s) (l.map fun w => (AV.str w, AV.bool true)) = some (if l.contains s then some (.bool true) else none)
 | [] => rfl
 | w :: l => by
  simp only [List.map_cons, findA, keyEq, List.contains_cons]
  cases h : s == w with
  | true => simp
  | false => simpa using find_words s l
theorem res_look (s : List UInt8) : lookupA ED resS 142 (.map 0) (.str s) false = some (.bool (keptW.contains s)) := by
 unfold lookupA
 simp only [ED_desc142, ED_ti4, res_get, find_words]
 rw [if_pos (show plainKey ED 9 (AV.str s) = true from rfl)]
 cases keptW.contains s <;> rfl
/-- a name -/
def namedB : List UInt8 → Bool
 | [] => false
 | c :: r => decide (r.length + 1 ≤ 12) && decide (97 ≤ c.toNat ∧ c.toNat ≤ 122) && decide (Lib.trimS (c :: r) letters = []) && !keptW.contains (c :: r) && !varB (c :: r)
def namedG : List AV → Option FRes
 | [.str s] => if s.length ≤ 9223372036854775807 then some (.ret (.bool (namedB s))) else none
 | _ => none
theorem named_ok : FOk 88 namedG := by
 refine fok L4 L4_ok ?_
 intro a r h
 unfold namedG at h
 split at h
 ·rename_i s
  split at h
  ·rename_i hl
   cases h
   refine ⟨rfl, rfl, 42, fun p hp => ?_⟩
   rw [callS_go rfl]
   simp only [fnA, ED_fn88, fi88, Tryz.f88]
   have w := fun m x a b S => within_use (l := L4) rfl (n := m) (x := x) (a := a) (b := b) (S := S)
   match s, hl with
   | [], _ =>
    simp [vmS, lenA, w]
    exact hp _ _ rfl
   | c :: r, hl =>
    have tr := fun n S => trim_use (l := L4) rfl (n := n) (s := c :: r) (c := letters) (S := S) hl ⟨by decide, by decide⟩
    have tr' := fun S => tr 40 S
    have vu := fun m S => var_use (l := L4) rfl (n := m) (s := c :: r) (S := S) hl
    have lu := res_look (c :: r)
    have cv : convA ED 5 3 (.int .u8 c.toNat) = some (.int .i64 c.toNat) := by
     have : IntKind.i64.wrap (c.toNat : Int) = (c.toNat : Int) := wrap_id (by omega) (by have := c.toNat_lt; omega)
     simp [convA, this]
    simp only [letters] at tr tr'
    have hn : namedB (c :: r) = (decide (r.length + 1 ≤ 12) && decide (97 ≤ c.toNat ∧ c.toNat ≤ 122) && decide (Lib.trimS (c :: r) letters = []) && !keptW.contains (c :: r) && !varB (c :: r)) := rfl
    simp only [letters] at hn
    obtain ⟨T, hT⟩ : ∃ T, Lib.trimS (c :: r) [97, 98, 99, 100, 101, 102, 103, 104, 105, 106, 107, 108, 109, 110, 111, 112, 113, 114, 115, 116, 117, 118, 119, 120, 121, 122, 48, 49, 50, 51, 52, 53, 54, 55, 56, 57] = T := ⟨_, rfl⟩
    simp only [hT] at tr tr' hn
    generalize keptW.contains (c :: r) = K at *
    generalize varB (c :: r) = V at *
    by_cases h1 : r.length + 1 ≤ 12
    ·have h1' : (r.length : Int) + 1 ≤ 12 := by omega
     have h1z : (1 : Int) ≤ (r.length : Int) + 1 := by omega
     by_cases h2 : 97 ≤ c.toNat ∧ c.toNat ≤ 122
     ·have h2a : (97 : Int) ≤ (c.toNat : Int) := by omega
      have h2b : (c.toNat : Int) ≤ 122 := by omega
      by_cases h3 : T = []
      ·cases K with
       | true =>
        simp [vmS, lenA, w, eff_index, index0, eff_convert, cv, bin_str, strA, tr, tr', vu, eff_lookup, lu, res_run, res_bad, res_wb, unA, h1z, h1', h2a, h2b, h3]
        refine hp _ _ ?_
        rw [hn]
        simp [FRes.melt, AV.melt, AV.dead, h1, h2, h3]
       | false =>
        cases V with
        | true =>
         simp [vmS, lenA, w, eff_index, index0, eff_convert, cv, bin_str, strA, tr, tr', vu, eff_lookup, lu, res_run, res_bad, res_wb, unA, h1z, h1', h2a, h2b, h3]
         refine hp _ _ ?_
         rw [hn]
         simp [FRes.melt, AV.melt, AV.dead, h1, h2, h3]
        | false =>
         simp [vmS, lenA, w, eff_index, index0, eff_convert, cv, bin_str, strA, tr, tr', vu, eff_lookup, lu, res_run, res_bad, res_wb, unA, h1z, h1', h2a, h2b, h3]
         refine hp _ _ ?_
         rw [hn]
         simp [FRes.melt, AV.melt, AV.dead, h1, h2, h3]
      ·have h3' : (T == []) = false := by simpa using h3
       have h3'' : T.isEmpty = false := by simpa using h3
       simp [vmS, lenA, w, eff_index, index0, eff_convert, cv, bin_str, strA, tr, tr', vu, eff_lookup, lu, res_run, res_bad, res_wb, unA, h1z, h1', h2a, h2b, h3, h3', h3'']
       refine hp _ _ ?_
       rw [hn]
       simp [FRes.melt, AV.melt, AV.dead, h1, h2, h3]
     ·by_cases h2a : (97 : Int) ≤ (c.toNat : Int)
      ·have h2b : ¬ (c.toNat : Int) ≤ 122 := by omega
       simp [vmS, lenA, w, eff_index, index0, eff_convert, cv, bin_str, strA, tr, tr', vu, eff_lookup, lu, res_run, res_bad, res_wb, unA, h1z, h1', h2a, h2b]
       refine hp _ _ ?_
       rw [hn]
       simp [FRes.melt, AV.melt, AV.dead, h1, h2]
      ·simp [vmS, lenA, w, eff_index, index0, eff_convert, cv, bin_str, strA, tr, tr', vu, eff_lookup, lu, res_run, res_bad, res_wb, unA, h1z, h1', h2a]
       refine hp _ _ ?_
       rw [hn]
       simp [FRes.melt, AV.melt, AV.dead, h1, h2]
    ·have h1' : ¬ (r.length : Int) + 1 ≤ 12 := by omega
     have h1z : (1 : Int) ≤ (r.length : Int) + 1 := by omega
     simp [vmS, lenA, w, eff_index, index0, eff_convert, cv, bin_str, strA, tr, tr', vu, eff_lookup, lu, res_run, res_bad, res_wb, unA, h1z, h1']
     refine hp _ _ ?_
     rw [hn]
     simp [FRes.melt, AV.melt, AV.dead, h1]
  ·cases h
 ·cases h
end Go.Vm.L
