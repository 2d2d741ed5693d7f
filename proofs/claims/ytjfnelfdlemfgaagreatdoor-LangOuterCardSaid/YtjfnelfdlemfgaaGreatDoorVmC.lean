/-
Operations without memory are as the model's. No conditions.
-/
import Derived.Test.YtjfnelfdlemfgaaGreatDoorVmB
import Derived.Laws.Tables
import Derived.Laws.StructEq
import Derived.Laws.Slices
import Derived.Laws.Strings
import Derived.Laws.Cells
set_option linter.all false
set_option maxHeartbeats 4000000
namespace Go.Vm
open Go
structure TIOk (P : Program) (t : TypeId) (x : TI) : Prop where
 und : P.underlying t = some x.desc
 info : ∃ i z, P.info? t = some i ∧ i.size = x.size ∧ i.bytes = x.bytes ∧ i.zero = some z ∧ (∀ G, Rep G x.zeroV z) ∧ (∀ G, Reps G x.zero z.cells.toList)
 agg : x.agg = (match x.desc with | .struct _ | .array _ _ => true | _ => false)
 cmp : x.cmp = true → P.stoodInHeld t = false ∧ P.eqGuardType P.depth t = false
 zc : x.zeroV.cells = x.zero
 zl : x.zero.length = x.size
 one : x.agg = false → x.size = 1
theorem depth_succ (P : Program) : ∃ n, P.types.size + Made.depth = n + 1 := ⟨P.types.size + 99, rfl⟩
/-- a method that is a function of the value itself -/
def MthOk (P : Program) (t : TypeId) (nm : String) (f : FuncId) : Prop :=
 ∀ (n : Nat) (v : Value) (w : World), (method (n + 1) t v nm).run P w = .ok (f, v) w ∧ (nilAhead (n + 1) t v nm).run P w = .ok (some false) w
/-- a function without a body that looks at nothing but what it is given -/
def ExtOk (P : Program) (f : FuncId) (h : List AV → Option AV) : Prop :=
 ∀ args v, h args = some v → ∀ G cargs, Reps G args cargs.toList → ∃ c, Rep G v c ∧ ∀ w, (callFunc f cargs).run P w = .ok (.value c) w
structure EnvOk (P : Program) (E : Env) : Prop where
 ti : ∀ t x, E.ti t = some x → TIOk P t x
 fn : ∀ f fi, E.fn f = some fi → P.funcs[f]? = some fi.fn ∧ (fi.fn.name == "runtime.NumGoroutine") = false
 mth : ∀ t nm f, E.mth t nm = some f → MthOk P t nm f
 ext : ∀ f h, E.ext f = some h → ExtOk P f h
 mixed : P.follows .mixedOrders = true
 rfrec : P.follows .rangeFuncRecover = true
variable {P : Program} {E : Env} {G : Gh} {w : World}
theorem EnvOk.desc (H : EnvOk P E) {t : TypeId} {d : TypeDesc} (h : E.desc t = some d) : P.underlying t = some d := by
 unfold Env.desc at h
 cases hx : E.ti t with
 | none => simp [hx] at h
 | some x => simp [hx] at h; subst h; exact (H.ti t x hx).und
theorem run_und {t : TypeId} {d : TypeDesc} (h : P.underlying t = some d) : (underlying t).run P w = .ok d w := by simp [underlying, h]
theorem EnvOk.run_desc (H : EnvOk P E) {t : TypeId} {d : TypeDesc} (h : E.desc t = some d) : (underlying t).run P w = .ok d w := run_und (H.desc h)
theorem EnvOk.run_size (H : EnvOk P E) {t : TypeId} {s : Nat} (h : E.size t = some s) : (sizeOf t).run P w = .ok s w := by
 unfold Env.size at h
 cases hx : E.ti t with
 | none => simp [hx] at h
 | some x =>
  simp [hx] at h
  obtain ⟨i, z, h1, h2, _⟩ := (H.ti t x hx).info
  simp [sizeOf, typeInfo, h1, h2, h]
theorem EnvOk.run_sizeT (H : EnvOk P E) {t : TypeId} {x : TI} (h : E.ti t = some x) : (sizeOf t).run P w = .ok x.size w := H.run_size (by simp [Env.size, h])
theorem EnvOk.run_agg (H : EnvOk P E) {t : TypeId} {x : TI} (h : E.ti t = some x) : (isAgg t).run P w = .ok x.agg w := by
 have := (H.ti t x h).und
 have ha := (H.ti t x h).agg
 simp only [isAgg, Sem.run_bind, run_und this, Result.andThen_ok]
 rw [ha]
 split <;> simp_all
theorem EnvOk.run_zero (H : EnvOk P E) {t : TypeId} {x : TI} (h : E.ti t = some x) : ∃ z, (zeroValue t).run P w = .ok z w ∧ (∀ G, Rep G x.zeroV z) ∧ (∀ G, Reps G x.zero z.cells.toList) ∧
  ∃ i, P.info? t = some i ∧ i.size = x.size ∧ i.bytes = x.bytes ∧ i.zero = some z := by
 obtain ⟨i, z, h1, h2, h3, h4, h5, h6⟩ := (H.ti t x h).info
 exact ⟨z, by simp [zeroValue, typeInfo, h1, h4], h5, h6, i, h1, h2, h3, h4⟩
theorem extract_toList (ys : Array Value) (a b : Nat) : (ys.extract a b).toList = (ys.toList.drop a).take (b - a) := by
 simp [Array.toList_extract, List.extract_eq_take_drop]
/-- a part of a struct or array -/
theorem part_sound (H : EnvOk P E) {t : TypeId} {cs : List AV} {ys : Array Value} {off : Nat} {v : AV} (hr : Reps G cs ys.toList) (h : partA E t cs off = some v) :
  ∃ c, (part t ys off).run P w = .ok c w ∧ Rep G v c := by
 unfold partA at h
 cases hx : E.ti t with
 | none => simp [hx] at h
 | some x =>
  simp only [hx] at h
  simp only [part, Sem.run_bind, H.run_agg hx, Result.andThen_ok, Sem.run_ite]
  cases ha : x.agg with
  | true =>
   simp only [ha, if_true] at h
   split at h
   ·cases h
    refine ⟨.agg (ys.extract off (off + x.size)), by simp [H.run_sizeT hx], Rep.agg' ?_⟩
    rw [extract_toList, show off + x.size - off = x.size from by omega]
    exact (hr.drop _).take _
   ·cases h
  | false =>
   simp only [ha] at h
   obtain ⟨y, hy, hxy⟩ := hr.getElem (by simpa using h)
   have hy' : ys[off]? = some y := by simpa using hy
   exact ⟨y, by simp [hy'], hxy⟩
theorem eqF_sound (H : EnvOk P E) {d : Nat} {rec_ : TypeId → AV → AV → Option Bool}
  (ih : ∀ t a b r c e, rec_ t a b = some r → Rep G a c → Rep G b e → ∀ w, (Op.equalIn d t c e).run P w = .ok r w) {xs ys : List AV} {xs' ys' : Array Value} (hx : Reps G xs xs'.toList) (hy : Reps G ys ys'.toList) :
  ∀ (fs : List Field) (r : Bool), eqF E rec_ xs ys fs = some r → ∀ w, (Op.eqFields d xs' ys' fs).run P w = .ok r w
 | [], r, h, w => by simp [eqF] at h; subst h; simp [Op.eqFields]
 | f :: fs, r, h, w => by
  unfold eqF at h
  unfold Op.eqFields
  split at h
  ·rename_i hf
   rw [if_pos hf]
   split at h
   ·rename_i a b ha hb
    obtain ⟨c, hc, hac⟩ := part_sound (w := w) H hx ha
    obtain ⟨e, he, hbe⟩ := part_sound (w := w) H hy hb
    simp only [Sem.run_bind, hc, he, Result.andThen_ok]
    split at h
    ·rename_i hr
     rw [ih _ _ _ _ _ _ hr hac hbe w]
     simp only [Result.andThen_ok, Bool.not_true, Bool.false_eq_true, if_false]
     exact eqF_sound H ih hx hy fs r h w
    ·rename_i hr
     rw [ih _ _ _ _ _ _ hr hac hbe w]
     cases h
     simp
    ·cases h
   ·cases h
  ·rename_i hf
   rw [if_neg hf]
   exact eqF_sound H ih hx hy fs r h w
theorem toList_data (s : ByteArray) : s.toList = s.data.toList := ByteArray.toList_eq s
theorem eqA_sound (H : EnvOk P E) : ∀ (d : Nat) (t : TypeId) (x y : AV) (r : Bool) (c e : Value), eqA E d t x y = some r → Rep G x c → Rep G y e → ∀ w, (Op.equalIn d t c e).run P w = .ok r w
 | 0, _, _, _, _, _, _, h, _, _, _ => by simp [eqA] at h
 | d + 1, t, x, y, r, c, e, h, hx, hy, w => by
  unfold eqA at h
  cases hi : E.ti t with
  | none => simp [hi] at h
  | some i =>
   simp only [hi] at h
   have hu := (H.ti t i hi).und
   split at h
   all_goals (rename_i hd)
   all_goals (try (rw [hd] at hu))
   ·cases h; cases hx; cases hy; exact run_equalIn_bool w d t _ _ hu
   ·cases hx; cases hy
    split at h
    ·rename_i hk; cases h; subst hk; exact run_equalIn_int w d t _ _ _ _ hu
    ·cases h
   ·cases h; cases hx; cases hy
    rw [run_equalIn_string w d t _ _ hu, toList_data, toList_data]
   ·cases h; cases hx <;> cases hy <;> simp [Op.equalIn, run_und hu]
   ·cases h; cases hx <;> cases hy <;> simp [Op.equalIn, run_und hu]
   ·cases h; cases hx <;> cases hy <;> simp [Op.equalIn, run_und hu]
   ·cases h; cases hx <;> cases hy <;> simp [Op.equalIn, run_und hu]
   ·cases h; cases hx <;> cases hy <;> simp [Op.equalIn, run_und hu]
   ·cases h; cases hx <;> cases hy <;> simp [Op.equalIn, run_und hu]
   ·cases h; cases hx <;> cases hy <;> simp [Op.equalIn, run_und hu]
   ·cases h; cases hx <;> cases hy <;> simp [Op.equalIn, run_und hu]
   ·rename_i fs xs ys
    obtain ⟨xs', rfl, hxs⟩ := hx.agg_inv
    obtain ⟨ys', rfl, hys⟩ := hy.agg_inv
    split at h
    ·rename_i hcmp
     have hfs : P.fieldsOf t = fs := by simp [Program.fieldsOf, hu]
     rw [run_equalIn_struct w d t xs' ys' (by rw [hfs]; exact hu) ((H.ti t i hi).cmp hcmp).1, hfs]
     exact eqF_sound H (fun t a b r c e h1 h2 h3 w => eqA_sound H d t a b r c e h1 h2 h3 w) hxs hys _ r h w
    ·cases h
   all_goals (first
    | (cases h; done)
    | (cases h; cases hx; cases hy; simp [Op.equalIn, run_und hu]; done)
    | (cases h; cases hx; (cases hy <;> (simp [Op.equalIn, run_und hu]; done)); done)
    | (cases h; cases hx <;> (cases hy; simp [Op.equalIn, run_und hu]; done)))
theorem eqGuard_sound (H : EnvOk P E) {op : BinOp} {t : TypeId} {x y : Operand} {a b : AV} {c e : Value} (h : eqGuardA E t x y a b = true) (ha : Rep G a c) (hb : Rep G b e) :
  (eqGuard op t x y c e).run P w = .ok () w := by
 unfold eqGuardA at h
 split at h
 ·cases ha; cases hb
  have hc : (∃ v, x = .const v) ∨ (∃ v, y = .const v) := by
   cases x <;> cases y <;> simp_all [isConst]
  rcases hc with ⟨v, rfl⟩ | ⟨v, rfl⟩ <;> cases op <;> simp [eqGuard]
 ·rename_i xs ys
  obtain ⟨xs', rfl, _⟩ := ha.agg_inv
  obtain ⟨ys', rfl, _⟩ := hb.agg_inv
  cases hi : E.ti t with
  | none => simp [hi] at h
  | some i =>
   simp only [hi] at h
   exact run_eqGuard_agg w op t x y xs' ys' ((H.ti t i hi).cmp h).2
 ·cases h
 ·cases h
 ·rename_i h1 h2 h3 h4
  have key : (∀ ys zs, ¬ (c = .agg ys ∧ e = .agg zs)) ∧ ¬ (c = .nilIface ∧ e = .nilIface) := by
   refine ⟨fun ys zs => ?_, ?_⟩ <;> (rintro ⟨rfl, rfl⟩; cases ha <;> cases hb <;> simp_all)
  cases op <;> simp only [eqGuard, Bool.not_true, Bool.not_false, Bool.false_eq_true, if_true, if_false] <;> first
   | rfl
   | (split
      ·exact absurd ⟨rfl, rfl⟩ key.2
      ·exact absurd ⟨rfl, rfl⟩ (key.1 _ _)
      ·rfl)
theorem intA_sound {op : BinOp} {t : TypeId} {k : IntKind} {a b : Int} {v : AV} (h : intA op k a b = some v) :
  ∃ c, (binOp op t (.int k a) (.int k b)).run P w = .ok c w ∧ Rep G v c := by
 cases op <;> simp only [intA] at h
 case add => cases h; refine ⟨_, ?_, Rep.int _ _⟩; simp [binOp, Op.intArith]
 case sub => cases h; refine ⟨_, ?_, Rep.int _ _⟩; simp [binOp, Op.intArith]
 case mul => cases h; refine ⟨_, ?_, Rep.int _ _⟩; simp [binOp, Op.intArith]
 case quo =>
  by_cases hb : b = 0
  ·simp [hb] at h
  ·simp only [hb, if_false] at h; cases h; refine ⟨_, ?_, Rep.int _ _⟩; simp [binOp, Op.intDiv, hb]
 case rem =>
  by_cases hb : b = 0
  ·simp [hb] at h
  ·simp only [hb, if_false] at h; cases h; refine ⟨_, ?_, Rep.int _ _⟩; simp [binOp, Op.intDiv, hb]
 case and => cases h; refine ⟨_, ?_, Rep.int _ _⟩; simp [binOp, Op.intBits]
 case or => cases h; refine ⟨_, ?_, Rep.int _ _⟩; simp [binOp, Op.intBits]
 case xor => cases h; refine ⟨_, ?_, Rep.int _ _⟩; simp [binOp, Op.intBits]
 case andNot => cases h; refine ⟨_, ?_, Rep.int _ _⟩; simp [binOp, Op.intBits]
 case eql => cases h; refine ⟨_, ?_, Rep.bool _⟩; simp [binOp, Op.intCmp]
 case neq => cases h; refine ⟨_, ?_, Rep.bool _⟩; simp [binOp, Op.intCmp]
 case lss => cases h; refine ⟨_, ?_, Rep.bool _⟩; simp [binOp, Op.intCmp]
 case leq => cases h; refine ⟨_, ?_, Rep.bool _⟩; simp [binOp, Op.intCmp]
 case gtr => cases h; refine ⟨_, ?_, Rep.bool _⟩; simp [binOp, Op.intCmp]
 case geq => cases h; refine ⟨_, ?_, Rep.bool _⟩; simp [binOp, Op.intCmp]
 all_goals cases h
theorem shiftA_sound {op : BinOp} {t : TypeId} {k k' : IntKind} {a b : Int} {v : AV} (h : shiftA op k a b = some v) :
  ∃ c, (binOp op t (.int k a) (.int k' b)).run P w = .ok c w ∧ Rep G v c := by
 unfold shiftA at h
 split at h
 ·cases h
 ·rename_i hb
  cases op <;> simp only at h
  case shl => cases h; refine ⟨_, ?_, Rep.int _ _⟩; simp [binOp, Op.shift, hb]
  case shr => cases h; refine ⟨_, ?_, Rep.int _ _⟩; simp [binOp, Op.shift, hb]
  all_goals cases h
theorem strA_sound {op : BinOp} {t : TypeId} {a b : ByteArray} {v : AV} (h : strA op a.data.toList b.data.toList = some v) :
  ∃ c, (binOp op t (.string a) (.string b)).run P w = .ok c w ∧ Rep G v c := by
 cases op <;> simp only [strA] at h <;> try (cases h; done)
 case add =>
  split at h
  ·rename_i hl
   cases h
   refine ⟨.string (a ++ b), ?_, ?_⟩
   ·have h1 : ¬ ((9223372036854775807 : Int) < (a.size : Int) + (b.size : Int)) := by
     have e1 : a.data.toList.length = a.size := by simp
     have e2 : b.data.toList.length = b.size := by simp
     omega
    simp [binOp, Op.stringOp, h1]
   ·have := Rep.str (G := G) (a ++ b)
    rw [show (a ++ b).data.toList = a.data.toList ++ b.data.toList from by simp] at this
    exact this
  ·cases h
 all_goals (cases h; refine ⟨_, ?_, Rep.bool _⟩; simp [binOp, Op.stringOp, toList_data])
theorem binOp_eql {t : TypeId} {x y : Operand} {a b : AV} {c e : Value} (ha : Rep G a c) (hb : Rep G b e) (hg : eqGuardA E t x y a b = true)
  (h1 : ∀ k m k' n, a = .int k m → b = .int k' n → False) (h2 : ∀ m n, a = .str m → b = .str n → False) :
  binOp .eql t c e = (do pure (.bool (← Op.equal t c e))) := by
 cases ha <;> cases hb <;> first
  | rfl
  | (simp [eqGuardA] at hg; done)
  | exact (h1 _ _ _ _ rfl rfl).elim
  | exact (h2 _ _ rfl rfl).elim
theorem binOp_neq {t : TypeId} {x y : Operand} {a b : AV} {c e : Value} (ha : Rep G a c) (hb : Rep G b e) (hg : eqGuardA E t x y a b = true)
  (h1 : ∀ k m k' n, a = .int k m → b = .int k' n → False) (h2 : ∀ m n, a = .str m → b = .str n → False) :
  binOp .neq t c e = (do pure (.bool (!(← Op.equal t c e)))) := by
 cases ha <;> cases hb <;> first
  | rfl
  | (simp [eqGuardA] at hg; done)
  | exact (h1 _ _ _ _ rfl rfl).elim
  | exact (h2 _ _ rfl rfl).elim
theorem bin_sound (H : EnvOk P E) {op : BinOp} {t : TypeId} {x y : Operand} {a b : AV} {c e : Value} {v : AV} (h : binA E op t x y a b = some v) (ha : Rep G a c) (hb : Rep G b e) :
  ∃ r, (do eqGuard op t x y c e; binOp op t c e : Sem Value).run P w = .ok r w ∧ Rep G v r := by
 unfold binA at h
 split at h
 ·cases ha; cases hb
  obtain ⟨r, h1, h2⟩ := shiftA_sound (P := P) (w := w) (G := G) (t := t) h
  exact ⟨r, by simpa [eqGuard] using h1, h2⟩
 ·cases ha; cases hb
  obtain ⟨r, h1, h2⟩ := shiftA_sound (P := P) (w := w) (G := G) (t := t) h
  exact ⟨r, by simpa [eqGuard] using h1, h2⟩
 ·split at h
  ·rename_i hk
   cases ha; cases hb
   subst hk
   obtain ⟨r, h1, h2⟩ := intA_sound (P := P) (w := w) (G := G) (t := t) h
   refine ⟨r, ?_, h2⟩
   rw [Sem.run_bind, eqGuard_sound (E := E) (G := G) H (a := .int _ _) (b := .int _ _) rfl (.int _ _) (.int _ _)]
   exact h1
  ·cases h
 ·cases ha; cases hb
  obtain ⟨r, h1, h2⟩ := strA_sound (P := P) (w := w) (G := G) (t := t) h
  refine ⟨r, ?_, h2⟩
  rw [Sem.run_bind, eqGuard_sound (E := E) (G := G) H (a := .str _) (b := .str _) rfl (.str _) (.str _)]
  exact h1
 ·rename_i hne1 hne2
  split at h
  ·rename_i hg
   cases hr : eqA E 10000 t a b with
   | none => simp [hr] at h
   | some r =>
    simp [hr] at h
    subst h
    refine ⟨.bool r, ?_, .bool r⟩
    rw [Sem.run_bind, eqGuard_sound H hg ha hb]
    simp only [Result.andThen_ok]
    rw [binOp_eql ha hb hg hne1 hne2]
    simp [Op.equal, Op.maxDepth, eqA_sound (P := P) (G := G) H 10000 t a b r c e hr ha hb w]
  ·cases h
 ·rename_i hne1 hne2
  split at h
  ·rename_i hg
   cases hr : eqA E 10000 t a b with
   | none => simp [hr] at h
   | some r =>
    simp [hr] at h
    subst h
    refine ⟨.bool !r, ?_, .bool !r⟩
    rw [Sem.run_bind, eqGuard_sound H hg ha hb]
    simp only [Result.andThen_ok]
    rw [binOp_neq ha hb hg hne1 hne2]
    simp [Op.equal, Op.maxDepth, eqA_sound (P := P) (G := G) H 10000 t a b r c e hr ha hb w]
  ·cases h
 ·cases h
end Go.Vm
namespace Go.Vm
open Go
variable {P : Program} {E : Env} {G : Gh} {w : World}
theorem add_eq (b o n : Nat) : (⟨b, o, none⟩ : Addr).add n = ⟨b, o + n, none⟩ := by
 unfold Addr.add
 split
 ·rename_i h; subst h; rfl
 ·rfl
theorem getElem?_lt {α : Type} {l : List α} {j : Nat} {x : α} (h : l[j]? = some x) : j < l.length := by
 rcases Nat.lt_or_ge j l.length with k | k
 ·exact k
 ·rw [List.getElem?_eq_none k] at h; cases h
theorem Rep.rptr_drop {cs : List AV} {b o : Nat} (h : Rep G (.rptr cs) (.pointer (some ⟨b, o, none⟩))) (n : Nat) : Rep G (.rptr (cs.drop n)) (.pointer (some ⟨b, o + n, none⟩)) := by
 cases h with
 | rptr _ _ _ h1 h2 =>
  refine .rptr _ _ _ (fun j hj => ?_) (fun j x y hx hy => ?_)
  ·have := h1 (n + j) (by simp at hj; omega)
   rwa [← Nat.add_assoc] at this
  ·rw [List.getElem?_drop] at hx
   exact h2 (n + j) x y hx (by rwa [← Nat.add_assoc])
theorem Rep.rptr_inv {cs : List AV} {c : Value} (h : Rep G (.rptr cs) c) : ∃ b o, c = .pointer (some ⟨b, o, none⟩) ∧ (∀ j, j < cs.length → ∃ y, G.own b (o + j) = .imm y) ∧
  ∀ j x y, cs[j]? = some x → G.own b (o + j) = .imm y → Rep G x y := by
 cases h with
 | rptr _ b o h1 h2 => exact ⟨b, o, rfl, h1, h2⟩
theorem fieldOf_sound (H : EnvOk P E) {t u : TypeId} {f off : Nat} (h : fieldOf E t f = some (off, u)) :
  ∃ fs x, P.underlying t = some (.struct fs) ∧ fs[f]? = some x ∧ x.offset = off ∧ x.type = u := by
 unfold fieldOf at h
 split at h
 ·rename_i fs hd
  cases hx : fs[f]? with
  | none => simp [hx] at h
  | some x =>
   simp [hx] at h
   exact ⟨fs, x, H.desc hd, hx, h.1, h.2⟩
 ·cases h
theorem fieldAddr_sound (H : EnvOk P E) {t : TypeId} {x v : AV} {c : Value} {f : Nat} (h : fieldAddrA E t x f = some v) (hx : Rep G x c) :
  ∃ r, (Instr.fieldAt t c f).run P w = .ok r w ∧ Rep G v r := by
 unfold fieldAddrA at h
 split at h
 ·rename_i off u hf
  obtain ⟨fs, fd, h1, h2, rfl, rfl⟩ := fieldOf_sound H hf
  split at h
  ·rename_i s hs
   have key : ∀ b o : Nat, (Instr.fieldAt t (.pointer (some ⟨b, o, none⟩)) f).run P w = .ok (.pointer (some ⟨b, o + fd.offset, none⟩)) w := by
    intro b o
    simp [Instr.fieldAt, run_und h1, h2, Instr.sureAddr, fieldPlace, H.run_size hs, add_eq]
   split at h
   ·cases h
    cases hx with
    | ptr i off b o hG =>
     refine ⟨_, key _ _, ?_⟩
     rw [Nat.add_assoc]; exact .ptr _ _ _ _ hG
   ·cases h
    obtain ⟨b, o, rfl, _⟩ := hx.rptr_inv
    exact ⟨_, key _ _, hx.rptr_drop _⟩
   ·cases h
  ·cases h
 ·cases h
theorem field_sound (H : EnvOk P E) {t : TypeId} {x v : AV} {c : Value} {f : Nat} (h : fieldA E t x f = some v) (hx : Rep G x c) :
  ∃ r, (Instr.field t c f).run P w = .ok r w ∧ Rep G v r := by
 unfold fieldA at h
 split at h
 ·rename_i off u cs hf
  obtain ⟨fs, fd, h1, h2, rfl, rfl⟩ := fieldOf_sound H hf
  obtain ⟨ys, rfl, hr⟩ := hx.agg_inv
  obtain ⟨r, h3, h4⟩ := part_sound (w := w) H hr h
  exact ⟨r, by simp [Instr.field, run_und h1, h2, asAgg, h3], h4⟩
 ·cases h
theorem flat_length : ∀ (es : List AV) (sz : Nat), (∀ e ∈ es, e.cells.length = sz) → (es.flatMap AV.cells).length = es.length * sz
 | [], sz, _ => by simp
 | e :: es, sz, h => by
  simp only [List.flatMap_cons, List.length_append, List.length_cons]
  rw [h e (by simp), flat_length es sz (fun x hx => h x (by simp [hx]))]
  rw [Nat.add_mul]; omega
theorem flat_get : ∀ (es : List AV) (sz i j : Nat) (v : AV), (∀ e ∈ es, e.cells.length = sz) → es[i]? = some v → j < sz → (es.flatMap AV.cells)[i * sz + j]? = v.cells[j]?
 | [], _, _, _, _, _, h, _ => by simp at h
 | e :: es, sz, 0, j, v, hs, h, hj => by
  simp at h
  subst h
  simp only [List.flatMap_cons, Nat.zero_mul, Nat.zero_add]
  rw [List.getElem?_append_left (by rw [hs e (by simp)]; exact hj)]
 | e :: es, sz, i + 1, j, v, hs, h, hj => by
  simp only [List.getElem?_cons_succ] at h
  simp only [List.flatMap_cons]
  rw [List.getElem?_append_right (by rw [hs e (by simp), Nat.add_mul]; omega), hs e (by simp)]
  rw [show (i + 1) * sz + j - sz = i * sz + j from by rw [Nat.add_mul]; omega]
  exact flat_get es sz i j v (fun x hx => hs x (by simp [hx])) h hj
theorem flat_take : ∀ (es : List AV) (sz n : Nat), (∀ e ∈ es, e.cells.length = sz) → (es.take n).flatMap AV.cells = (es.flatMap AV.cells).take (n * sz)
 | [], sz, n, _ => by simp
 | e :: es, sz, 0, _ => by simp
 | e :: es, sz, n + 1, h => by
  simp only [List.take_succ_cons, List.flatMap_cons]
  have he : e.cells.length = sz := h e (by simp)
  have hle : e.cells.length ≤ (n + 1) * sz := by rw [he, Nat.add_mul]; omega
  rw [flat_take es sz n (fun x hx => h x (by simp [hx])), List.take_append, List.take_of_length_le (l := e.cells) hle, he, show (n + 1) * sz - sz = n * sz from by rw [Nat.add_mul]; omega]
theorem flat_drop : ∀ (es : List AV) (sz n : Nat), (∀ e ∈ es, e.cells.length = sz) → (es.drop n).flatMap AV.cells = (es.flatMap AV.cells).drop (n * sz)
 | [], sz, n, _ => by simp
 | e :: es, sz, 0, _ => by simp
 | e :: es, sz, n + 1, h => by
  simp only [List.drop_succ_cons, List.flatMap_cons]
  have he : e.cells.length = sz := h e (by simp)
  have hle : e.cells.length ≤ (n + 1) * sz := by rw [he, Nat.add_mul]; omega
  rw [flat_drop es sz n (fun x hx => h x (by simp [hx])), List.drop_append, List.drop_of_length_le (l := e.cells) hle, he, show (n + 1) * sz - sz = n * sz from by rw [Nat.add_mul]; omega]
  rfl
theorem Rep.slice_inv {es : List AV} {tk : Tk} {c : Value} (h : Rep G (.slice es tk) c) : (es = [] ∧ tk = .dead ∧ ∃ ad, c = .slice (some ad) 0 0) ∨ ∃ b o cap sz, c = .slice (some ⟨b, o, none⟩) es.length cap ∧ (∀ e ∈ es, e.cells.length = sz) ∧ es.length ≤ cap ∧
  (∀ j, j < (es.flatMap AV.cells).length → ∃ y, G.own b (o + j) = .imm y) ∧ (∀ j x y, (es.flatMap AV.cells)[j]? = some x → G.own b (o + j) = .imm y → Rep G x y) ∧
  TkOk G tk b (o + es.length * sz) (cap - es.length) sz := by
 cases h with
 | slice _ _ b o n cap sz hn hsz hcap h1 h2 ht =>
  subst hn
  exact .inr ⟨b, o, cap, sz, rfl, hsz, hcap, h1, h2, ht⟩
 | slice0 ad => exact .inl ⟨rfl, rfl, ad, rfl⟩
theorem indexAddr_sound (H : EnvOk P E) {t : TypeId} {x i v : AV} {c e : Value} (h : indexAddrA E t x i = some v) (hx : Rep G x c) (hi : Rep G i e) :
  ∃ r, (Instr.indexAt t c e).run P w = .ok r w ∧ Rep G v r := by
 unfold indexAddrA at h
 split at h
 ·rename_i el k n hd
  cases hi
  split at h
  ·cases h
  ·rename_i s hs
   have hu := H.desc hd
   split at h
   ·rename_i es tk
    rcases hx.slice_inv with ⟨rfl, rfl, ad, rfl⟩ | ⟨b, o, cap, sz, rfl, hsz, hcap, h1, h2, ht⟩
    ·simp at h
    split at h
    ·rename_i hn
     split at h
     ·rename_i u hu'
      split at h
      ·rename_i hl
       cases h
       have hmem : u ∈ es := List.mem_of_getElem? hu'
       have hsz' : sz = s := by rw [← hsz u hmem]; exact hl
       subst hsz'
       refine ⟨.pointer (some ⟨b, o + n.toNat * sz, none⟩), ?_, ?_⟩
       ·simp [Instr.indexAt, asIntOf, run_und hu, hn.1, hn.2, H.run_size hs, add_eq]
       ·refine .rptr _ _ _ (fun j hj => ?_) (fun j x y hx hy => ?_)
        ·rw [hl] at hj
         have := h1 (n.toNat * sz + j) (by
          rw [flat_length es sz hsz]
          have h3 : n.toNat < es.length := getElem?_lt hu'
          have : (n.toNat + 1) * sz ≤ es.length * sz := Nat.mul_le_mul_right _ h3
          rw [Nat.add_mul] at this
          omega)
         rwa [← Nat.add_assoc] at this
        ·have hj := getElem?_lt hx
         rw [hl] at hj
         exact h2 (n.toNat * sz + j) x y (by rw [flat_get es sz _ j u hsz hu' hj]; exact hx) (by rwa [← Nat.add_assoc])
      ·cases h
     ·cases h
    ·cases h
   ·rename_i id off len cp
    obtain ⟨b, o, cap', hG, rfl, _, _⟩ := hx.rsl_inv
    ·split at h
     ·rename_i hn
      cases h
      refine ⟨.pointer (some ⟨b, o + off + n.toNat * s, none⟩), ?_, ?_⟩
      ·simp [Instr.indexAt, asIntOf, run_und hu, hn.1, hn.2, H.run_size hs, add_eq]
      ·rw [Nat.add_assoc]; exact .ptr _ _ _ _ hG
     ·cases h
   ·cases h
 ·rename_i len el k n hd
  cases hi
  split at h
  ·cases h
  ·rename_i s hs
   have hu := H.desc hd
   split at h
   ·rename_i hn
    have key : ∀ b o : Nat, (Instr.indexAt t (.pointer (some ⟨b, o, none⟩)) (.int k n)).run P w = .ok (.pointer (some ⟨b, o + n.toNat * s, none⟩)) w := by
     intro b o
     simp [Instr.indexAt, asIntOf, run_und hu, hn.1, hn.2, H.run_size hs, add_eq, Instr.sureAddr]
    split at h
    ·cases h
     cases hx with
     | ptr i off b o hG =>
      refine ⟨_, key _ _, ?_⟩
      rw [Nat.add_assoc]; exact .ptr _ _ _ _ hG
    ·cases h
     obtain ⟨b, o, rfl, _⟩ := hx.rptr_inv
     exact ⟨_, key _ _, hx.rptr_drop _⟩
    ·cases h
   ·cases h
 ·cases h
theorem index_sound (H : EnvOk P E) {t : TypeId} {x i v : AV} {c e : Value} (h : indexA E t x i = some v) (hx : Rep G x c) (hi : Rep G i e) :
  ∃ r, (Instr.index t c e).run P w = .ok r w ∧ Rep G v r := by
 unfold indexA at h
 split at h
 ·rename_i len el cs k n hd
  cases hi
  have hu := H.desc hd
  obtain ⟨ys, rfl, hr⟩ := hx.agg_inv
  split at h
  ·rename_i hn
   split at h
   ·rename_i s hs
    obtain ⟨r, h3, h4⟩ := part_sound (w := w) H hr h
    exact ⟨r, by simp [Instr.index, asIntOf, run_und hu, hn.1, hn.2, H.run_size hs, h3], h4⟩
   ·cases h
  ·cases h
 ·rename_i l k n hd
  cases hi
  have hu := H.desc hd
  generalize hL : AV.str l = L at hx
  cases hx <;> cases hL
  rename_i s
  split at h
  ·rename_i hn
   split at h
   ·rename_i b hb
    cases h
    refine ⟨.int .u8 b.toNat, ?_, .int _ _⟩
    have hb' : s[n.toNat]? = some b := by
     have hlt := getElem?_lt hb
     have h1 : s.data[n.toNat]? = some b := by simpa using hb
     have h2 : n.toNat < s.size := by simpa using hlt
     rw [getElem?_pos s n.toNat h2]
     have h3 : n.toNat < s.data.size := h2
     rw [Array.getElem?_eq_getElem h3] at h1
     exact h1
    simp [Instr.index, asIntOf, run_und hu, hn.1, hb']
   ·cases h
  ·cases h
 ·cases h
def OptRep (G : Gh) : Option AV → Option Value → Prop
 | none, none => True
 | some a, some c => Rep G a c
 | _, _ => False
theorem boundA_sound {x : AV} {c : Value} {y y' n : Nat} {code : BoundsCode} (h : boundA x y = some n) (hx : Rep G x c) (hy : y ≤ y') :
  n ≤ y ∧ (Instr.sliceBound c y' code).run P w = .ok n w := by
 unfold boundA at h
 split at h
 ·rename_i k m
  cases hx
  split at h
  ·rename_i hm
   cases h
   refine ⟨by omega, ?_⟩
   have : m ≤ (y' : Int) := by omega
   simp [Instr.sliceBound, asIntOf, hm.1, this]
  ·cases h
 ·cases h
theorem boundLo_sound {lo : Option AV} {lo' : Option Value} {h l : Nat} {code : BoundsCode} (hl : boundLo lo h = some l) (h1 : OptRep G lo lo') :
  l ≤ h ∧ (match lo' with | some v => Instr.sliceBound v h code | none => pure 0).run P w = .ok l w := by
 cases lo with
 | none =>
  cases lo' with
  | some _ => exact h1.elim
  | none => simp [boundLo] at hl; subst hl; exact ⟨by omega, rfl⟩
 | some a =>
  cases lo' with
  | none => exact h1.elim
  | some c => exact boundA_sound hl h1 (Nat.le_refl _)
theorem bounds_sound {isS : Bool} {len cap cap' l h m : Nat} {lo hi mx : Option AV} {lo' hi' mx' : Option Value} (hb : boundsA len cap lo hi mx = some (l, h, m)) (hlc : len ≤ cap) (hcc : cap ≤ cap')
  (h1 : OptRep G lo lo') (h2 : OptRep G hi hi') (h3 : OptRep G mx mx') :
  l ≤ h ∧ h ≤ m ∧ m ≤ cap ∧ (mx.isSome = false → m = cap) ∧ (Instr.sliceBounds isS len cap' lo' hi' mx').run P w = .ok (l, h, if mx.isSome then m else cap') w := by
 unfold boundsA at hb
 cases hm : boundMx mx cap with
 | none => simp [hm] at hb
 | some m' =>
  simp only [hm] at hb
  cases hh : boundHi hi len m' mx.isSome with
  | none => simp [hh] at hb
  | some h' =>
   simp only [hh] at hb
   cases hl : boundLo lo h' with
   | none => simp [hl] at hb
   | some l' =>
    simp only [hl] at hb
    cases hb
    cases mx with
    | none =>
     cases mx' with
     | some _ => exact h3.elim
     | none =>
      simp [boundMx] at hm
      subst hm
      cases hi with
      | none =>
       cases hi' with
       | some _ => exact h2.elim
       | none =>
        simp [boundHi] at hh
        subst hh
        obtain ⟨k1, k2⟩ := boundLo_sound (P := P) (w := w) (code := .sliceB) hl h1
        refine ⟨k1, hlc, Nat.le_refl _, fun _ => rfl, ?_⟩
        simp only [Instr.sliceBounds, Sem.run_bind, Sem.run_pure, Result.andThen_ok, Option.isSome_none, Bool.false_eq_true, if_false]
        cases lo' with
        | none => simp at k2; subst k2; simp
        | some c0 => simp only at k2; simp [k2]
      | some a =>
       cases hi' with
       | none => exact h2.elim
       | some c =>
        obtain ⟨k3, k4⟩ := boundA_sound (P := P) (w := w) (code := if isS then .sliceAcap else .sliceAlen) hh h2 hcc
        obtain ⟨k1, k2⟩ := boundLo_sound (P := P) (w := w) (code := .sliceB) hl h1
        refine ⟨k1, k3, Nat.le_refl _, fun _ => rfl, ?_⟩
        simp only [Instr.sliceBounds, Sem.run_bind, Sem.run_pure, Result.andThen_ok, Option.isSome_none, Bool.false_eq_true, if_false, k4]
        cases lo' with
        | none => simp at k2; subst k2; simp
        | some c0 => simp only at k2; simp [k2]
    | some z =>
     cases mx' with
     | none => exact h3.elim
     | some z' =>
      obtain ⟨k5, k6⟩ := boundA_sound (P := P) (w := w) (code := if isS then .slice3Acap else .slice3Alen) hm h3 hcc
      cases hi with
      | none => simp [boundHi] at hh
      | some a =>
       cases hi' with
       | none => exact h2.elim
       | some c =>
        obtain ⟨k3, k4⟩ := boundA_sound (P := P) (w := w) (code := .slice3B) hh h2 (Nat.le_refl _)
        obtain ⟨k1, k2⟩ := boundLo_sound (P := P) (w := w) (code := .slice3C) hl h1
        refine ⟨k1, k3, k5, fun k => by simp at k, ?_⟩
        simp only [Instr.sliceBounds, Sem.run_bind, Result.andThen_ok, Option.isSome_some, if_true, k6, k4]
        cases lo' with
        | none => simp at k2; subst k2; simp
        | some c0 => simp only at k2; simp [k2]
theorem Rep.str_inv {l : List UInt8} {c : Value} (h : Rep G (.str l) c) : ∃ s, c = .string s ∧ l = s.data.toList := by
 generalize hL : AV.str l = L at h
 cases h <;> cases hL
 exact ⟨_, rfl, rfl⟩
theorem Rep.slice_cut {es : List AV} {tk tk' : Tk} {b o cap sz l h m : Nat} (hsz : ∀ e ∈ es, e.cells.length = sz)
  (h1 : ∀ j, j < (es.flatMap AV.cells).length → ∃ y, G.own b (o + j) = .imm y) (h2 : ∀ j x y, (es.flatMap AV.cells)[j]? = some x → G.own b (o + j) = .imm y → Rep G x y)
  (hlh : l ≤ h) (hhm : h ≤ m) (hh : h ≤ es.length) (hm : m ≤ cap)
  (ht : TkOk G tk' b (o + h * sz) (m - h) sz ∨ (m = h ∧ tk' = .full) ∨ (tk' = .dead) ∨ (h = es.length ∧ m = cap ∧ tk' = tk ∧ TkOk G tk b (o + es.length * sz) (cap - es.length) sz)) :
  Rep G (.slice ((es.take h).drop l) tk') (.slice (some (if m = l then ⟨b, o, none⟩ else ⟨b, o + l * sz, none⟩)) (h - l) (m - l)) := by
 have hlen : ((es.take h).drop l).length = h - l := by simp; omega
 have hsz' : ∀ e ∈ (es.take h).drop l, e.cells.length = sz := fun e he => hsz e (List.mem_of_mem_take (List.mem_of_mem_drop he))
 have hflat : ((es.take h).drop l).flatMap AV.cells = ((es.flatMap AV.cells).take (h * sz)).drop (l * sz) := by
  rw [flat_drop _ sz _ (fun e he => hsz e (List.mem_of_mem_take he)), flat_take _ sz _ hsz]
 have hfl := flat_length es sz hsz
 by_cases hml : m = l
 ·rw [if_pos hml]
  have hle : h = l := by omega
  have hnil : (es.take h).drop l = [] := List.eq_nil_of_length_eq_zero (by omega)
  rw [hnil]
  refine .slice _ _ _ _ _ _ sz (by simp; omega) (by simp) (by omega) (by simp) (by simp) ?_
  have hr : (m - l) - (h - l) = 0 := by omega
  rw [hr]
  rcases ht with ht | ⟨_, rfl⟩ | rfl | ⟨k1, k2, rfl, ht⟩
  ·cases tk' with
   | full => rfl
   | lit => rfl
   | dead => trivial
   | tok i s =>
    obtain ⟨h4, b', e', h3, _⟩ := ht
    have : (m - h) * sz = 0 * sz := by rw [show m - h = 0 from by omega]
    rw [this] at h3
    exact ⟨h4, b', e', h3, fun k => absurd (by simp) k⟩
  ·rfl
  ·trivial
  ·cases tk' with
   | full => rfl
   | lit => rfl
   | dead => trivial
   | tok i s =>
    obtain ⟨h4, b', e', h3, _⟩ := ht
    have : (cap - es.length) * sz = 0 * sz := by rw [show cap - es.length = 0 from by omega]
    rw [this] at h3
    exact ⟨h4, b', e', h3, fun k => absurd (by simp) k⟩
 ·rw [if_neg hml]
  refine .slice _ _ _ _ _ _ sz hlen.symm hsz' (by omega) (fun j hj => ?_) (fun j x y hx hy => ?_) ?_
  ·rw [hflat] at hj
   simp only [List.length_drop, List.length_take] at hj
   have := h1 (l * sz + j) (by omega)
   rwa [← Nat.add_assoc] at this
  ·rw [hflat, List.getElem?_drop, List.getElem?_take] at hx
   split at hx
   ·exact h2 (l * sz + j) x y hx (by rwa [← Nat.add_assoc])
   ·cases hx
  ·have hr : (m - l) - (h - l) = m - h := by omega
   have he : o + l * sz + (h - l) * sz = o + h * sz := by
    rw [Nat.add_assoc, ← Nat.add_mul, show l + (h - l) = h from by omega]
   rw [hr, he]
   rcases ht with ht | ⟨rfl, rfl⟩ | rfl | ⟨rfl, rfl, rfl, ht⟩
   ·exact ht
   ·simp [TkOk]
   ·trivial
   ·exact ht
theorem run_sliceAt {t : TypeId} {d : TypeDesc} (hu : P.underlying t = some d) (hd : ∀ n e, d ≠ .array n e) (x : Value) (lo hi mx : Option Value) :
  (Instr.sliceAt t x lo hi mx).run P w = (Instr.slice t x lo hi mx).run P w := by
 cases d with
 | array n e => exact absurd rfl (hd n e)
 | _ => simp only [Instr.sliceAt, Sem.run_bind, run_und hu, Result.andThen_ok]
theorem slice_sound (H : EnvOk P E) {t : TypeId} {x v : AV} {c : Value} {lo hi mx : Option AV} {lo' hi' mx' : Option Value} (h : sliceA E t x lo hi mx = some v) (hx : Rep G x c)
  (h1 : OptRep G lo lo') (h2 : OptRep G hi hi') (h3 : OptRep G mx mx') : ∃ r, (Instr.sliceAt t c lo' hi' mx').run P w = .ok r w ∧ Rep G v r := by
 unfold sliceA at h
 split at h
 ·rename_i s hd
  have hu := H.desc hd
  obtain ⟨s', rfl, rfl⟩ := hx.str_inv
  split at h
  ·cases h
  ·rename_i hmx
   cases mx with
   | some _ => simp at hmx
   | none =>
   cases mx' with
   | some _ => exact h3.elim
   | none =>
   split at h
   ·rename_i l hh m hb
    cases h
    obtain ⟨k1, k2, k3, km, k4⟩ := bounds_sound (P := P) (w := w) (isS := false) (mx := none) (mx' := none) (cap' := s'.size) hb (Nat.le_refl _) (by simp) h1 h2 trivial
    refine ⟨.string (s'.extract l hh), ?_, ?_⟩
    ·rw [run_sliceAt hu (by simp)]
     simp at k4
     simp [Instr.slice, run_und hu, k4]
    ·have := Rep.str (G := G) (s'.extract l hh)
     rw [show (s'.extract l hh).data.toList = (s'.data.toList.take hh).drop l from by
      simp [List.extract_eq_take_drop, List.drop_take]] at this
     exact this
   ·cases h
 ·rename_i el hd
  have hu := H.desc hd
  cases hx
  split at h
  ·rename_i s q hs hb
   obtain ⟨l, hh, m⟩ := q
   cases h
   obtain ⟨k1, k2, k3, km, k4⟩ := bounds_sound (P := P) (w := w) (isS := true) (cap' := 0) hb (Nat.le_refl _) (Nat.le_refl _) h1 h2 h3
   refine ⟨.slice none 0 0, ?_, .nils⟩
   rw [run_sliceAt hu (by simp)]
   have hl : l = 0 := by omega
   have hhh : hh = 0 := by omega
   have hm : m = 0 := by omega
   subst hl; subst hhh; subst hm
   have : (if mx.isSome = true then 0 else 0) = 0 := by split <;> rfl
   rw [this] at k4
   simp [Instr.slice, run_und hu, k4, H.run_size hs]
  ·cases h
 ·rename_i el es tk hd
  have hu := H.desc hd
  rcases hx.slice_inv with ⟨rfl, rfl, ad, rfl⟩ | ⟨b, o, cap, sz, rfl, hsz, hcap, g1, g2, ht⟩
  ·split at h
   ·rename_i s l hh m hs hb
    split at h
    ·cases h
     obtain ⟨k1, k2, k3, km, k4⟩ := bounds_sound (P := P) (w := w) (isS := true) (cap' := 0) hb (Nat.le_refl _) (Nat.le_refl _) h1 h2 h3
     simp only [List.length_nil] at k3
     have e1 : hh = 0 := by omega
     have e2 : l = 0 := by omega
     subst e1; subst e2
     have e3 : (if mx.isSome = true then m else 0) = 0 := by
      split
      ·omega
      ·rfl
     refine ⟨.slice (some ad) 0 0, ?_, .slice0 ad⟩
     rw [run_sliceAt hu (by simp)]
     simp only [List.length_nil] at k4
     simp [Instr.slice, run_und hu, k4, H.run_size hs, e3]
    ·cases h
   ·cases h
  split at h
  ·rename_i s l hh m hs hb
   split at h
   ·rename_i hsz1
    cases h
    obtain ⟨k1, k2, k3, km, k4⟩ := bounds_sound (P := P) (w := w) (isS := true) (cap' := cap) hb (Nat.le_refl _) hcap h1 h2 h3
    have hls : l * s = l * sz := by
     cases hes : es with
     | nil => have : l = 0 := by rw [hes] at k3; simp at k3; omega
              subst this; simp
     | cons x r =>
      have e1 := hsz x (by rw [hes]; simp)
      rw [hes] at hsz1
      simp [headSz] at hsz1
      rw [← e1, hsz1]
    have key := Rep.slice_cut (G := G) (tk := tk) (tk' := if es.isEmpty then .dead else if mx.isSome then (if m = hh then .full else .dead) else if hh = es.length then tk else .dead) (b := b) (o := o) (cap := cap)
     (l := l) (h := hh) (m := if mx.isSome then m else cap) hsz g1 g2 k1 (by split <;> omega) (by omega) (by split <;> omega) (by
      cases hem : es.isEmpty with
      | true => simp only [if_true]; exact .inr (.inr (.inl trivial))
      | false =>
      simp only [Bool.false_eq_true, if_false]
      cases mx with
      | none =>
       simp only [Option.isSome_none, Bool.false_eq_true, if_false]
       by_cases he : hh = es.length
       ·rw [if_pos he]; exact .inr (.inr (.inr ⟨he, by simp, rfl, ht⟩))
       ·rw [if_neg he]; exact .inr (.inr (.inl rfl))
      | some z =>
       simp only [Option.isSome_some, if_true]
       by_cases he : m = hh
       ·rw [if_pos he]; exact .inr (.inl ⟨he, rfl⟩)
       ·rw [if_neg he]; exact .inr (.inr (.inl rfl)))
    refine ⟨_, ?_, key⟩
    rw [run_sliceAt hu (by simp)]
    simp only [Instr.slice, Sem.run_bind, run_und hu, Result.andThen_ok, k4, H.run_size hs, Sem.run_pure]
    congr 2
    by_cases hml : (if mx.isSome = true then m else cap) = l
    ·rw [if_pos hml, if_pos hml]
    ·rw [if_neg hml, if_neg hml]; simp [add_eq, hls]
   ·cases h
  ·cases h
 ·rename_i el id off len cap hd
  have hu := H.desc hd
  split at h
  ·rename_i s l hh m hs hb
   obtain ⟨b, o, cap', hG, rfl, hlc', hor⟩ := hx.rsl_inv
   ·split at h
    ·rename_i hlc
     have hcc : cap = cap' := by omega
     subst hcc
     obtain ⟨k1, k2, k3, km, k4⟩ := bounds_sound (P := P) (w := w) (isS := true) (cap' := cap) hb hlc (Nat.le_refl _) h1 h2 h3
     have hmm : (if mx.isSome = true then m else cap) = m := by
      split
      ·rfl
      ·rename_i hns; exact (km (by simpa using hns)).symm
     rw [hmm] at k4
     split at h
     ·rename_i hml
      cases h
      refine ⟨.slice (some ⟨b, o + off, none⟩) 0 0, ?_, .slice _ _ _ _ _ _ 0 rfl (by simp) (by omega) (by simp) (by simp) rfl⟩
      rw [run_sliceAt hu (by simp)]
      have e1 : hh - l = 0 := by omega
      have e2 : m - l = 0 := by omega
      simp [Instr.slice, run_und hu, k4, H.run_size hs, hml, show hh = l from by omega]
     ·rename_i hml
      cases h
      refine ⟨.slice (some ⟨b, o + (off + l * s), none⟩) (hh - l) (m - l), ?_, .rsl _ _ _ _ _ _ hG (by omega)⟩
      rw [run_sliceAt hu (by simp)]
      simp [Instr.slice, run_und hu, k4, H.run_size hs, hml, add_eq, Nat.add_assoc]
    ·cases h
  ·cases h
 ·rename_i n el id off hd
  have hu := H.desc hd
  split at h
  ·rename_i s l hh m hs hb
   cases hx with
   | ptr _ _ b o hG =>
    obtain ⟨k1, k2, k3, km, k4⟩ := bounds_sound (P := P) (w := w) (isS := false) (cap' := n) hb (Nat.le_refl _) (Nat.le_refl _) h1 h2 h3
    have hmm : (if mx.isSome = true then m else n) = m := by
     split
     ·rfl
     ·rename_i hns; exact (km (by simpa using hns)).symm
    rw [hmm] at k4
    have hrun : (Instr.sliceAt t (.pointer (some ⟨b, o + off, none⟩)) lo' hi' mx').run P w = .ok (.slice (some (if m = l then ⟨b, o + off, none⟩ else (⟨b, o + off, none⟩ : Addr).add (l * s))) (hh - l) (m - l)) w := by
     simp [Instr.sliceAt, run_und hu, Instr.sureAddr, k4, H.run_size hs]
    rw [hrun]
    split at h
    ·rename_i hml
     cases h
     refine ⟨_, rfl, ?_⟩
     rw [if_pos hml, show hh - l = 0 from by omega, show m - l = 0 from by omega]
     exact .slice _ _ _ _ _ _ 0 rfl (by simp) (by omega) (by simp) (by simp) rfl
    ·rename_i hml
     cases h
     refine ⟨_, rfl, ?_⟩
     rw [if_neg hml, add_eq, Nat.add_assoc]
     exact .rsl _ _ _ _ _ _ hG (by omega)
  ·cases h
 ·cases h
end Go.Vm
namespace Go.Vm
open Go
variable {P : Program} {E : Env} {G : Gh} {w : World}
theorem foldl_set {α : Type} : ∀ (vs : List α) (cs : Array α) (off k : Nat),
  ((vs.zipIdx k).foldl (fun cs (p : α × Nat) => cs.setIfInBounds (off + p.2) p.1) cs).toList = setCells cs.toList (off + k) vs
 | [], cs, off, k => by simp [setCells]
 | v :: vs, cs, off, k => by
  simp only [List.zipIdx_cons, List.foldl_cons, setCells]
  rw [foldl_set vs _ off (k + 1)]
  simp [Nat.add_assoc]
theorem Reps.setCells {xs : List AV} {ys : List Value} (h : Reps G xs ys) : ∀ {vs : List AV} {us : List Value} (_ : Reps G vs us) (off : Nat), Reps G (setCells xs off vs) (setCells ys off us) := by
 intro vs
 induction vs generalizing xs ys with
 | nil =>
  intro us hu off
  have : us = [] := List.eq_nil_of_length_eq_zero (by rw [← hu.1]; rfl)
  subst this
  exact h
 | cons v vs ih =>
  intro us hu off
  cases us with
  | nil => have := hu.1; simp at this
  | cons u us => exact ih (h.set hu.head) hu.tail (off + 1)
/-- parts, one by one -/
def PReps (G : Gh) : List (Nat × AV) → List (Nat × Value) → Prop
 | [], [] => True
 | (i, v) :: r, (j, c) :: s => i = j ∧ Rep G v c ∧ PReps G r s
 | _, _ => False
theorem fill_sound {place : Nat → Option (Nat × Nat)} : ∀ {parts : List (Nat × AV)} {parts' : List (Nat × Value)} {cs : List AV} {ys : Array Value} {r : List AV},
  fillA place cs parts = some r → PReps G parts parts' → Reps G cs ys.toList → ∃ zs, Instr.fill place ys parts' = some zs ∧ Reps G r zs.toList
 | [], [], cs, ys, r, h, _, hr => by simp [fillA] at h; subst h; exact ⟨ys, rfl, hr⟩
 | (i, v) :: rest, (j, c) :: rest', cs, ys, r, h, hp, hr => by
  obtain ⟨rfl, hv, hp⟩ := hp
  unfold fillA at h
  unfold Instr.fill
  cases hpl : place i with
  | none => simp [hpl] at h
  | some os =>
   obtain ⟨off, size⟩ := os
   simp only [hpl] at h ⊢
   split at h
   ·rename_i hc
    obtain ⟨h1, h2, h3⟩ := hc
    have hcells := hv.cells h1
    have hlen : c.cells.size = v.cells.length := by simpa using hcells.1.symm
    have hys : ys.size = cs.length := by simpa using hr.1.symm
    have hcond : (decide (c.cells.size ≠ size) || decide (off + c.cells.size > ys.size)) = false := by
     simp; omega
    rw [hcond]
    simp only [Bool.false_eq_true, if_false]
    refine fill_sound h hp ?_
    have := foldl_set c.cells.toList ys off 0
    rw [Nat.add_zero] at this
    have e : (Array.foldl (fun cs (x : Value × Nat) => cs.setIfInBounds (off + x.2) x.1) ys c.cells.zipIdx) = ((c.cells.toList.zipIdx 0).foldl (fun cs (p : Value × Nat) => cs.setIfInBounds (off + p.2) p.1) ys) := by
     rw [← Array.foldl_toList]; simp
    show Reps G _ (Array.foldl _ ys c.cells.zipIdx).toList
    rw [e, this]
    exact hr.setCells hcells off
   ·cases h
 | [], _ :: _, _, _, _, _, hp, _ => hp.elim
 | _ :: _, [], _, _, _, _, hp, _ => hp.elim
theorem fieldPlaces_sound (H : EnvOk P E) : ∀ (fs : List Field) (ps : List (Nat × Nat)), fieldPlaces E fs = some ps → fs.mapM (fun f => (P.info? f.type).map fun i => (f.offset, i.size)) = some ps
 | [], ps, h => by simp [fieldPlaces] at h; subst h; rfl
 | f :: fs, ps, h => by
  unfold fieldPlaces at h
  split at h
  ·rename_i s r hs hr
   cases h
   have h1 := fieldPlaces_sound H fs r hr
   unfold Env.size at hs
   cases hx : E.ti f.type with
   | none => simp [hx] at hs
   | some x =>
    simp [hx] at hs
    obtain ⟨i, z, k1, k2, _⟩ := (H.ti _ x hx).info
    simp [List.mapM_cons, k1, k2, hs, h1]
  ·cases h
theorem build_sound (H : EnvOk P E) {t : TypeId} {parts : List (Nat × AV)} {parts' : Array (Nat × Value)} {v : AV} (h : buildA E t parts = some v) (hp : PReps G parts parts'.toList) :
  ∃ r, (Instr.build t parts').run P w = .ok r w ∧ Rep G v r := by
 unfold buildA at h
 cases hx : E.ti t with
 | none => simp [hx] at h
 | some x =>
  simp only [hx] at h
  obtain ⟨i, z, k1, k2, k3, k4, k5, k6⟩ := (H.ti t x hx).info
  have hu := (H.ti t x hx).und
  split at h
  ·rename_i fs hd
   rw [hd] at hu
   split at h
   ·rename_i ps hps
    cases hf : fillA (fun i => ps[i]?) x.zero parts with
    | none => simp [hf] at h
    | some cs =>
     simp [hf] at h
     subst h
     obtain ⟨zs, h1, h2⟩ := fill_sound hf hp (k6 G)
     refine ⟨.agg zs, run_build w t parts' zs ?_, Rep.agg' h2⟩
     have h3 := fieldPlaces_sound H _ _ hps
     simp only [Program.built, k1, hu, k4, h3]
     rw [← h1]
     congr 1
     funext j
     simp
   ·cases h
  ·rename_i n e hd
   rw [hd] at hu
   split at h
   ·rename_i s hs
    cases hf : fillA (fun i => some (i * s, s)) x.zero parts with
    | none => simp [hf] at h
    | some cs =>
     simp [hf] at h
     subst h
     obtain ⟨zs, h1, h2⟩ := fill_sound hf hp (k6 G)
     refine ⟨.agg zs, run_build w t parts' zs ?_, Rep.agg' h2⟩
     unfold Env.size at hs
     cases hy : E.ti e with
     | none => simp [hy] at hs
     | some y =>
      simp [hy] at hs
      obtain ⟨i', z', q1, q2, _⟩ := (H.ti e y hy).info
      simp only [Program.built, k1, hu, k4, q1, q2, hs]
      exact h1
   ·cases h
  ·cases h
theorem un_sound {op : UnOp} {x v : AV} {c : Value} (h : unA op x = some v) (hx : Rep G x c) : ∃ r, (Op.unary op c).run P w = .ok r w ∧ Rep G v r := by
 unfold unA at h
 split at h
 ·cases h; cases hx; refine ⟨_, ?_, .int _ _⟩; simp [Op.unary, Op.intArith]
 ·cases h; cases hx; refine ⟨_, ?_, .int _ _⟩; simp [Op.unary, Op.intBits]
 ·cases h; cases hx; refine ⟨_, ?_, .bool _⟩; simp [Op.unary]
 ·cases h
theorem conv_sound (H : EnvOk P E) {s d : TypeId} {x v : AV} {c : Value} (h : convA E s d x = some v) (hx : Rep G x c) : ∃ r, (convert s d c).run P w = .ok r w ∧ Rep G v r := by
 unfold convA at h
 split at h
 ·rename_i ds k k' n h1 h2
  cases h; cases hx
  refine ⟨_, ?_, .int _ _⟩
  simp [convert, H.run_desc h1, H.run_desc h2, Conv.intToInt]
 ·rename_i ds l h1 h2
  cases h
  obtain ⟨s', rfl, rfl⟩ := hx.str_inv
  refine ⟨_, ?_, .str _⟩
  simp [convert, H.run_desc h1, H.run_desc h2]
 ·cases h
theorem assert_sound (H : EnvOk P E) {x v : AV} {c : Value} {t a : TypeId} {ok : Bool} (h : assertA E x a ok = some v) (hx : Rep G x c) :
  ∃ r, (Instr.typeAssert c t a ok).run P w = .ok r w ∧ Rep G v r := by
 unfold assertA at h
 cases hi : E.ti a with
 | none => simp [hi] at h
 | some i =>
  simp only [hi] at h
  have hu := (H.ti a i hi).und
  obtain ⟨z, hz, hzr, _⟩ := H.run_zero (w := w) hi
  split at h
  ·cases h
  ·rename_i hd
   have hni : ∀ ms, i.desc ≠ .interface ms := fun ms e => hd ms e
   split at h
   ·cases hx
    split at h
    ·rename_i hok
     cases h
     refine ⟨.tuple #[z, .bool false], ?_, Rep.tup' (Reps.cons (hzr G) (Reps.cons (.bool _) (Reps.nil G)))⟩
     simp only [Instr.typeAssert, Sem.run_bind, run_und hu, Result.andThen_ok]
     cases hdd : i.desc <;> first
      | exact absurd hdd (hni _)
      | simp [hok, hz]
    ·cases h
   ·rename_i t' v'
    cases hx with
    | iface _ _ c' hv =>
    split at h
    ·rename_i ht
     subst ht
     have hrun : (Instr.typeAssert (.iface t' c') t t' ok).run P w = .ok (if ok then .tuple #[c', .bool true] else c') w := by
      simp only [Instr.typeAssert, Sem.run_bind, run_und hu, Result.andThen_ok]
      cases hdd : i.desc <;> first
       | exact absurd hdd (hni _)
       | simp
     rw [hrun]
     split at h
     ·rename_i hok
      cases h
      exact ⟨_, rfl, by rw [if_pos hok]; exact Rep.tup' (Reps.cons hv (Reps.cons (.bool _) (Reps.nil G)))⟩
     ·rename_i hok
      cases h
      exact ⟨_, rfl, by rw [if_neg hok]; exact hv⟩
    ·rename_i ht
     split at h
     ·rename_i hok
      cases h
      refine ⟨.tuple #[z, .bool false], ?_, Rep.tup' (Reps.cons (hzr G) (Reps.cons (.bool _) (Reps.nil G)))⟩
      simp only [Instr.typeAssert, Sem.run_bind, run_und hu, Result.andThen_ok]
      cases hdd : i.desc <;> first
       | exact absurd hdd (hni _)
       | simp [hok, hz, ht]
     ·cases h
   ·cases h
theorem foldMax_sound {b : Builtin} {f : Value → Value → Sem Value}
  (hf : ∀ x y z c d, maxA b x y = some z → Rep G x c → Rep G y d → ∃ r, (f c d).run P w = .ok r w ∧ Rep G z r) :
  ∀ {xs : List AV} {cs : List Value} {x v : AV} {c : Value}, foldA (maxA b) x xs = some v → Reps G xs cs → Rep G x c → ∃ r, (cs.foldlM f c).run P w = .ok r w ∧ Rep G v r
 | [], cs, x, v, c, h, hr, hx => by
  have : cs = [] := List.eq_nil_of_length_eq_zero (by rw [← hr.1]; rfl)
  subst this
  simp [foldA] at h
  subst h
  exact ⟨c, rfl, hx⟩
 | y :: xs, cs, x, v, c, h, hr, hx => by
  cases cs with
  | nil => have := hr.1; simp at this
  | cons d cs =>
   unfold foldA at h
   split at h
   ·rename_i z hz
    obtain ⟨r, h1, h2⟩ := hf _ _ _ _ _ hz hx hr.head
    obtain ⟨r', h3, h4⟩ := foldMax_sound hf h hr.tail h2
    exact ⟨r', by simp [List.foldlM_cons, h1, h3], h4⟩
   ·cases h
theorem max2_sound (x y z : AV) (c d : Value) (h : maxA .max x y = some z) (hx : Rep G x c) (hy : Rep G y d) : ∃ r, (Builtin.max2 c d).run P w = .ok r w ∧ Rep G z r := by
 unfold maxA at h
 split at h
 ·simp only at h; cases h; cases hx; cases hy; refine ⟨_, ?_, .int _ _⟩; simp [Builtin.max2]
 ·cases h
theorem min2_sound (x y z : AV) (c d : Value) (h : maxA .min x y = some z) (hx : Rep G x c) (hy : Rep G y d) : ∃ r, (Builtin.min2 c d).run P w = .ok r w ∧ Rep G z r := by
 unfold maxA at h
 split at h
 ·simp only at h; cases h; cases hx; cases hy; refine ⟨_, ?_, .int _ _⟩; simp [Builtin.min2]
 ·cases h
theorem len_sound (H : EnvOk P E) {t ty : TypeId} {ts : Array TypeId} {x v : AV} {c : Value} (h : lenA E t x = some v) (hx : Rep G x c) (ht : ts[0]? = some t) :
  ∃ r, (Builtin.len_ ts ty #[c]).run P w = .ok r w ∧ Rep G v r := by
 unfold lenA at h
 split at h
 ·rename_i l hd
  cases h
  obtain ⟨s', rfl, rfl⟩ := hx.str_inv
  refine ⟨_, ?_, .int _ _⟩
  simp [Builtin.len_, ht, H.run_desc hd, goInt]
 ·rename_i n e hd
  cases h
  refine ⟨_, ?_, .int _ _⟩
  simp [Builtin.len_, ht, H.run_desc hd, goInt]
 ·rename_i a hd
  split at h
  ·rename_i n e hd2
   cases h
   refine ⟨_, ?_, .int _ _⟩
   simp [Builtin.len_, ht, H.run_desc hd, H.run_desc hd2, goInt]
  ·cases h
 ·rename_i hd
  cases h
  cases hx
  refine ⟨_, ?_, .int _ _⟩
  simp [Builtin.len_, ht, H.run_desc hd, goInt]
 ·rename_i es tk hd
  cases h
  rcases hx.slice_inv with ⟨rfl, rfl, ad, rfl⟩ | ⟨b, o, cap, sz, rfl, _⟩
  ·refine ⟨_, ?_, .int _ _⟩
   simp [Builtin.len_, ht, H.run_desc hd, goInt]
  ·refine ⟨_, ?_, .int _ _⟩
   simp [Builtin.len_, ht, H.run_desc hd, goInt]
 ·rename_i a b n d hd
  cases h
  obtain ⟨b', o', cap', _, rfl, _, _⟩ := hx.rsl_inv
  refine ⟨_, ?_, .int _ _⟩
  simp [Builtin.len_, ht, H.run_desc hd, goInt]
 ·cases h
theorem PReps.map {ρ : Operand → AV} {ρc : Operand → Value} (hρ : ∀ x, Rep G (ρ x) (ρc x)) : ∀ (l : List (Nat × Operand)), PReps G (l.map fun (i, x) => (i, ρ x)) (l.map fun (i, x) => (i, ρc x))
 | [] => trivial
 | (i, x) :: l => ⟨rfl, hρ x, PReps.map hρ l⟩
theorem Reps.map {ρ : Operand → AV} {ρc : Operand → Value} (hρ : ∀ x, Rep G (ρ x) (ρc x)) : ∀ (l : List Operand), Reps G (l.map ρ) (l.map ρc)
 | [] => Reps.nil G
 | x :: l => Reps.cons (hρ x) (Reps.map hρ l)
theorem OptRep.map {ρ : Operand → AV} {ρc : Operand → Value} (hρ : ∀ x, Rep G (ρ x) (ρc x)) (l : Option Operand) : OptRep G (l.map ρ) (l.map ρc) := by
 cases l with
 | none => trivial
 | some x => exact hρ x
/-- all of them, but slice literals -/
theorem pure_sound (H : EnvOk P E) {ρ : Operand → AV} {ρc : Operand → Value} (hρ : ∀ x, Rep G (ρ x) (ρc x)) {o : Oper} {v : AV} (hk : opK o.op = .pure) (hb : ∀ t n ps, o.op ≠ .buildSlice t n ps)
  (h : pureA E ρ o.op = some v) : ∃ c, (execOp ρc o).run P w = .ok (.value c) w ∧ Rep G v c := by
 obtain ⟨dst, op, type, pos, after, guard⟩ := o
 simp only at h hb hk
 cases op <;> simp only [pureA] at h
 case move x => cases h; exact ⟨_, by simp [execOp], hρ x⟩
 case assign x => cases h; exact ⟨_, by simp [execOp], hρ x⟩
 case pick c a b =>
  have hc := hρ c
  split at h
  ·rename_i e; rw [e] at hc; cases h; generalize hcc : ρc c = cc at hc; cases hc; exact ⟨_, by simp [execOp, hcc, asBool], hρ a⟩
  ·rename_i e; rw [e] at hc; cases h; generalize hcc : ρc c = cc at hc; cases hc; exact ⟨_, by simp [execOp, hcc, asBool], hρ b⟩
  ·cases h
 case build t parts =>
  obtain ⟨r, h1, h2⟩ := build_sound (P := P) (w := w) (G := G) (parts' := parts.map fun (i, x) => (i, ρc x)) H h (by simpa using PReps.map hρ parts.toList)
  exact ⟨r, by simp [execOp, h1], h2⟩
 case buildSlice t n ps => exact absurd rfl (hb t n ps)
 case nilCheck x =>
  have hx := hρ x
  split at h
  case h_4 nm t v a b e =>
   split at h
   ·rename_i hm
    cases h
    rw [e] at hx
    obtain ⟨f, hf⟩ := Option.isSome_iff_exists.1 hm
    generalize hcc : ρc x = cc at hx
    have hx' := hx
    cases hx with
    | fref _ _ _ fs' cs' hfl hcl h1 h2 =>
    have h0 : ∃ c, fs'[0]? = some (.iface t c) ∧ Rep G v c := by
     have hlt : 0 < fs'.size := by rw [← hfl]; simp
     have := h1 0 (.iface t v) fs'[0] rfl (Array.getElem?_eq_getElem hlt)
     generalize hq : fs'[0] = q at this
     cases this with
     | iface _ _ c hc => exact ⟨c, by rw [Array.getElem?_eq_getElem hlt, hq], hc⟩
    obtain ⟨c, hc0, hc⟩ := h0
    obtain ⟨n, hn⟩ := depth_succ P
    have hna := ((H.mth t nm f hf) n c w).2
    refine ⟨_, ?_, hx'⟩
    simp [execOp, hcc, hc0, hn, hna]
   ·cases h
  all_goals (first | (cases h; done) | skip)
  all_goals (rename_i e; rw [e] at hx; cases h; generalize hcc : ρc x = cc at hx; have hx' := hx; cases hx; exact ⟨_, by simp [execOp, hcc], hx'⟩)
 case binOp op t x y ty =>
  obtain ⟨r, h1, h2⟩ := bin_sound (P := P) (w := w) (G := G) H h (hρ x) (hρ y)
  exact ⟨r, by simp only [execOp, Sem.run_bind, h1]; rfl, h2⟩
 case unOp op t x =>
  obtain ⟨r, h1, h2⟩ := un_sound (P := P) (w := w) h (hρ x)
  exact ⟨r, by simp [execOp, h1], h2⟩
 case convert s d x =>
  obtain ⟨r, h1, h2⟩ := conv_sound (P := P) (w := w) H h (hρ x)
  exact ⟨r, by simp [execOp, h1], h2⟩
 case makeInterface t x =>
  split at h
  ·cases h
  ·cases h
  ·rename_i d hni hd
   cases h
   refine ⟨.iface t (ρc x), ?_, .iface _ _ _ (hρ x)⟩
   have hu := H.desc hd
   cases d <;> first
    | exact absurd rfl (hni _)
    | simp [execOp, Instr.makeInterface, run_und hu]
 case makeFunc fn first cap =>
  cases fn with
  | func f =>
   simp only at h
   cases h
   refine ⟨.func (.func f) (first.map ρc) (cap.map ρc), by simp [execOp, Instr.makeFunc], ?_⟩
   have e1 := Reps.map hρ first.toList
   have e2 := Reps.map hρ cap.toList
   exact .fn _ _ _ _ _ (by simp) (by simp) (fun j x y hx hy => e1.2 j x y hx (by simpa using hy)) (fun j x y hx hy => e2.2 j x y hx (by simpa using hy))
  | method nm =>
   simp only at h
   cases h
   refine ⟨.func (.method nm) (first.map ρc) (cap.map ρc), by simp [execOp, Instr.makeFunc], ?_⟩
   have e1 := Reps.map hρ first.toList
   have e2 := Reps.map hρ cap.toList
   exact .fref _ _ _ _ _ (by simp) (by simp) (fun j x y hx hy => e1.2 j x y hx (by simpa using hy)) (fun j x y hx hy => e2.2 j x y hx (by simpa using hy))
  | _ => simp at h
 case slice t x lo hi mx =>
  obtain ⟨r, h1, h2⟩ := slice_sound (P := P) (w := w) H h (hρ x) (OptRep.map hρ lo) (OptRep.map hρ hi) (OptRep.map hρ mx)
  exact ⟨r, by simp [execOp, h1], h2⟩
 case fieldAddr t x f =>
  obtain ⟨r, h1, h2⟩ := fieldAddr_sound (P := P) (w := w) H h (hρ x)
  exact ⟨r, by simp [execOp, h1], h2⟩
 case field t x f =>
  obtain ⟨r, h1, h2⟩ := field_sound (P := P) (w := w) H h (hρ x)
  exact ⟨r, by simp [execOp, h1], h2⟩
 case indexAddr t x i =>
  obtain ⟨r, h1, h2⟩ := indexAddr_sound (P := P) (w := w) H h (hρ x) (hρ i)
  exact ⟨r, by simp [execOp, h1], h2⟩
 case index t x i =>
  obtain ⟨r, h1, h2⟩ := index_sound (P := P) (w := w) H h (hρ x) (hρ i)
  exact ⟨r, by simp [execOp, h1], h2⟩
 case typeAssert x t a ok =>
  obtain ⟨r, h1, h2⟩ := assert_sound (P := P) (w := w) (t := t) H h (hρ x)
  exact ⟨r, by simp [execOp, h1], h2⟩
 case extract x i =>
  have hx := hρ x
  split at h
  ·rename_i vs e
   rw [e] at hx
   obtain ⟨ys, hys, hr⟩ := hx.tup_inv
   obtain ⟨y, hy, hxy⟩ := hr.getElem h
   exact ⟨y, by simp [execOp, hys, Instr.extract, show ys[i]? = some y from by simpa using hy], hxy⟩
  ·cases h
 case call c =>
  obtain ⟨callee, args, argTypes⟩ := c
  simp only at h
  split at h
  ·rename_i x hargs
   split at h
   ·rename_i t ht
    obtain ⟨r, h1, h2⟩ := len_sound (P := P) (w := w) (ty := type) H h (hρ x) ht
    have ha : args = #[x] := by rw [← Array.toList_inj]; simpa using hargs
    subst ha
    exact ⟨r, by simp [execOp, resolve, invoke, builtin, h1], h2⟩
   ·cases h
  ·rename_i x r hargs
   obtain ⟨q, h1, h2⟩ := foldMax_sound (P := P) (w := w) (G := G) max2_sound h (Reps.map hρ r) (hρ x)
   have ha : args.toList.map ρc = ρc x :: r.map ρc := by rw [hargs]; rfl
   exact ⟨q, by simp [execOp, resolve, invoke, builtin, Builtin.max_, ha, h1], h2⟩
  ·rename_i x r hargs
   obtain ⟨q, h1, h2⟩ := foldMax_sound (P := P) (w := w) (G := G) min2_sound h (Reps.map hρ r) (hρ x)
   have ha : args.toList.map ρc = ρc x :: r.map ρc := by rw [hargs]; rfl
   exact ⟨q, by simp [execOp, resolve, invoke, builtin, Builtin.min_, ha, h1], h2⟩
  ·cases h
 all_goals (cases h)
end Go.Vm
