/-
Operations on memory are as the model's. No conditions.
-/
import Derived.Test.YtjfnelfdlemfgaaGreatDoorVmC
import Derived.Deep.AppendSrc
import Derived.Room.AppendAsks
import Derived.Room.Make
set_option linter.all false
set_option maxHeartbeats 4000000
namespace Go.Vm
open Go
variable {P : Program} {E : Env} {B : Nat} {h0 : World} {G : Gh} {S S' : St} {w : World}
/-- what an operation yields -/
def nextVal : Next → Option Value
 | .value c => some c
 | .skip => some undef
 | _ => none
def Does (P : Program) (E : Env) (B : Nat) (h0 : World) (G : Gh) (S' : St) (v : AV) (r : Sem Next) (w : World) : Prop :=
 ∃ n c w' G', r.run P w = .ok n w' ∧ nextVal n = some c ∧ G.Le G' ∧ InvW E B h0 G' S' w' ∧ Rep G' v c
theorem Does.value {v : AV} {c : Value} {r : Sem Next} {w' : World} {G' : Gh} (h : r.run P w = .ok (.value c) w') (hG : G.Le G') (I : InvW E B h0 G' S' w') (hv : Rep G' v c) : Does P E B h0 G S' v r w :=
 ⟨_, c, w', G', h, rfl, hG, I, hv⟩
theorem Does.skip {r : Sem Next} {w' : World} {G' : Gh} (h : r.run P w = .ok .skip w') (hG : G.Le G') (I : InvW E B h0 G' S' w') : Does P E B h0 G S' nowhere r w :=
 ⟨_, undef, w', G', h, rfl, hG, I, Rep.tup' (Reps.nil G')⟩
theorem cells?_inv {i : Nat} {cs : List AV} (h : S.cells? i = some cs) : S.get i = some (.cells cs) := by
 unfold St.cells? at h
 split at h
 ·rename_i cs' hc; cases h; exact hc
 ·cases h
theorem range_map_list (n : Nat) (f : Nat → Value) : (((List.range n).map f).toArray).toList = (List.range n).map f := by simp
/-- so many cells from a place on are read -/
theorem loadVar_sound (H : EnvOk P E) {t : TypeId} {x : TI} (hx : E.ti t = some x) {b o : Nat} {cs : List AV}
  (hc : ∀ j y, cs[j]? = some y → ∃ c, cl w.heap b (o + j) = some c ∧ Rep G y c) {v : AV}
  (h : (if x.agg then (if x.size ≤ cs.length then some (.agg (cs.take x.size)) else none) else cs[0]?) = some v) :
  ∃ c, (loadVar t ⟨b, o, none⟩).run P w = .ok c w ∧ Rep G v c := by
 simp only [loadVar, Sem.run_bind, H.run_agg hx, Result.andThen_ok, Sem.run_ite]
 cases ha : x.agg with
 | true =>
  simp only [ha, if_true] at h
  split at h
  ·rename_i hl
   cases h
   have hf : ∀ j, j < x.size → w.cell? ((⟨b, o, none⟩ : Addr).add j) = some ((cl w.heap b (o + j)).getD undef) := by
    intro j hj
    obtain ⟨c, h1, _⟩ := hc j _ (List.getElem?_eq_getElem (show j < cs.length by omega))
    rw [add_eq, cell?_eq, h1]; rfl
   have hrun := run_loadCells (P := P) w ⟨b, o, none⟩ x.size _ hf
   refine ⟨.agg ((List.range x.size).map fun j => (cl w.heap b (o + j)).getD undef).toArray, by simp [H.run_sizeT hx, hrun], Rep.agg' ⟨by simp; omega, fun j y c hy hcc => ?_⟩⟩
   rw [List.getElem?_take] at hy
   split at hy
   ·rename_i hj
    obtain ⟨c', h1, h2⟩ := hc j y hy
    rw [range_map_list] at hcc
    simp [hj, h1] at hcc
    subst hcc
    exact h2
   ·cases hy
  ·cases h
 | false =>
  simp only [ha] at h
  obtain ⟨c, h1, h2⟩ := hc 0 v (by simpa using h)
  rw [Nat.add_zero] at h1
  exact ⟨c, by simp [cell?_eq, h1], h2⟩
theorem imm_cells (I : InvW E B h0 G S w) {cs : List AV} {b o : Nat} (h1 : ∀ j, j < cs.length → ∃ y, G.own b (o + j) = .imm y) (h2 : ∀ j x y, cs[j]? = some x → G.own b (o + j) = .imm y → Rep G x y) :
  ∀ j y, cs[j]? = some y → ∃ c, cl w.heap b (o + j) = some c ∧ Rep G y c := by
 intro j y hy
 obtain ⟨c, hc⟩ := h1 j (getElem?_lt hy)
 exact ⟨c, I.imm _ _ _ hc, h2 j y c hy hc⟩
theorem load_sound (H : EnvOk P E) (I : InvW E B h0 G S w) {t : TypeId} {a v : AV} {c : Value} (h : loadA E S t a = some v) (ha : Rep G a c) :
  ∃ r, (Instr.loadAt t c).run P w = .ok r w ∧ Rep G v r := by
 unfold loadA at h
 cases hx : E.ti t with
 | none => simp [hx] at h
 | some x =>
  simp only [hx] at h
  split at h
  ·rename_i cs
   obtain ⟨b, o, rfl, h1, h2⟩ := ha.rptr_inv
   obtain ⟨r, k1, k2⟩ := loadVar_sound (P := P) (w := w) H hx (imm_cells I h1 h2) h
   exact ⟨r, by simp [Instr.loadAt, Instr.sureAddr, k1], k2⟩
  ·rename_i i off
   cases ha with
   | ptr _ _ b o hG =>
   split at h
   ·rename_i cs hcs
    obtain ⟨b', o', k1, k2, k4⟩ := I.objs i _ (cells?_inv hcs)
    rw [hG] at k1; cases k1
    obtain ⟨r, q1, q2⟩ := loadVar_sound (P := P) (w := w) (G := G) (t := t) (x := x) (b := b) (o := o + off) (cs := cs.drop off) (v := v) H hx (fun j y hy => by
     rw [List.getElem?_drop] at hy
     obtain ⟨_, k5, _⟩ := k4 (off + j) y hy
     rwa [← Nat.add_assoc] at k5) (by
     cases hagg : x.agg with
     | true =>
      simp only [hagg, if_true] at h ⊢
      split at h
      ·rename_i hl
       rw [if_pos (by simp; omega)]; exact h
      ·cases h
     | false =>
      simp only [hagg] at h ⊢
      rw [List.getElem?_drop, Nat.add_zero]; exact h)
    exact ⟨r, by simp [Instr.loadAt, Instr.sureAddr, q1], q2⟩
   ·cases h
  ·cases h
/-! maps -/
theorem keyEq_sound {k k' : AV} {c c' : Value} {r : Bool} (h : keyEq k k' = some r) (hk : Rep G k c) (hk' : Rep G k' c') {d : TypeDesc}
  (hd : keyDesc d k = true) : Instr.sameNow d c c' = some r := by
 unfold keyEq at h
 split at h
 ·cases hk; cases hk'
  split at h
  ·rename_i he; cases h; subst he
   cases d <;> simp [keyDesc] at hd
   simp [Instr.sameNow]
  ·cases h
 ·cases h
  obtain ⟨s, rfl, rfl⟩ := hk.str_inv
  obtain ⟨s', rfl, rfl⟩ := hk'.str_inv
  cases d <;> simp [keyDesc] at hd
  simp [Instr.sameNow, beq_toListBytes, toList_data]
 ·cases h; cases hk; cases hk'
  cases d <;> simp [keyDesc] at hd
  simp [Instr.sameNow]
 ·cases h
theorem find_sound {k : AV} {c : Value} {d : TypeDesc} (hk : Rep G k c)
  (hd : keyDesc d k = true) :
  ∀ {es : List (AV × AV)} {fs : List MapEntry} {i : Nat} {r : Option AV}, findA k es = some r → MapRel G es fs →
   ∃ r', Instr.findNow d c fs i = some r' ∧ (match r, r' with | none, none => True | some v, some (_, y) => Rep G v y | _, _ => False)
 | [], [], i, r, h, _ => by simp [findA] at h; subst h; exact ⟨none, rfl, trivial⟩
 | (k', v) :: es, e :: fs, i, r, h, hm => by
  obtain ⟨h1, h2, h3⟩ := hm
  unfold findA at h
  unfold Instr.findNow
  split at h
  ·rename_i hkk
   cases h
   rw [keyEq_sound hkk hk h1 hd]
   exact ⟨some (i, e.val), rfl, h2⟩
  ·rename_i hkk
   rw [keyEq_sound hkk hk h1 hd]
   exact find_sound hk hd h h3
  ·cases h
 | [], _ :: _, _, _, _, hm => hm.elim
 | (_, _) :: _, [], _, _, _, hm => hm.elim
theorem plainKey_desc (H : EnvOk P E) {t : TypeId} {k : AV} (h : plainKey E t k = true) : ∃ d, P.underlying t = some d ∧ keyDesc d k = true := by
 unfold plainKey at h
 split at h
 ·rename_i d h1; exact ⟨d, H.desc h1, h⟩
 ·cases h
theorem checkKey_plain {t : TypeId} {d : TypeDesc} {k : AV} {c : Value} {em : Bool} (hu : P.underlying t = some d) (hk : Rep G k c)
  (hd : keyDesc d k = true) : (Instr.checkKey em 10000 t c).run P w = .ok () w := by
 unfold Instr.checkKey
 simp only [Sem.run_bind, run_und hu, Result.andThen_ok]
 cases d <;> cases k <;> simp [keyDesc] at hd <;> (cases hk; rfl)
theorem findKey_run {t : TypeId} {d : TypeDesc} {c : Value} {fs : List MapEntry} {r : Option (Nat × Value)} (hu : P.underlying t = some d) (h : Instr.findNow d c fs 0 = some r) :
  (Instr.findKey t c fs).run P w = .ok r w := by
 simp [Instr.findKey, run_und hu, h]
theorem MapRel_zip {G : Gh} : ∀ {ks vs : List AV} {fs : List MapEntry}, ks.length = fs.length → vs.length = fs.length → (∀ (j : Nat) x e, ks[j]? = some x → fs[j]? = some e → Rep G x e.key) →
  (∀ (j : Nat) x e, vs[j]? = some x → fs[j]? = some e → Rep G x e.val) → MapRel G (ks.zip vs) fs
 | [], [], [], _, _, _, _ => trivial
 | k :: ks, v :: vs, e :: fs, h1, h2, h3, h4 => ⟨h3 0 k e rfl rfl, h4 0 v e rfl rfl, MapRel_zip (by simpa using h1) (by simpa using h2) (fun j x e hx he => h3 (j + 1) x e (by simpa using hx) (by simpa using he)) (fun j x e hx he => h4 (j + 1) x e (by simpa using hx) (by simpa using he))⟩
 | [], _, _ :: _, h1, _, _, _ => by simp at h1
 | _ :: _, _, [], h1, _, _, _ => by simp at h1
 | _, [], _ :: _, _, h2, _, _ => by simp at h2
 | _, _ :: _, [], _, h2, _, _ => by simp at h2
theorem keyEq_eq {a b : AV} (h : keyEq a b = some true) : a = b := by
 unfold keyEq at h
 split at h
 ·split at h
  ·rename_i e; simp at h; subst e; subst h; rfl
  ·cases h
 ·simp at h; subst h; rfl
 ·simp at h; subst h; rfl
 ·cases h
def Apart (x y : AV × AV) : Prop := keyEq x.1 y.1 = some false ∧ keyEq y.1 x.1 = some false
theorem apart_zip : ∀ {ks vs : List AV}, apartB ks = true → (ks.zip vs).Pairwise Apart
 | [], _, _ => by simp
 | _ :: _, [], _ => by simp
 | k :: ks, v :: vs, h => by
  simp only [apartB, Bool.and_eq_true, List.all_eq_true] at h
  rw [List.zip_cons_cons, List.pairwise_cons]
  refine ⟨fun y hy => ?_, apart_zip h.2⟩
  obtain ⟨y1, y2⟩ := y
  have := h.1 y1 (List.of_mem_zip hy).1
  obtain ⟨q1, q2⟩ := this
  constructor
  ·show keyEq k y1 = some false
   split at q1
   ·assumption
   ·cases q1
  ·show keyEq y1 k = some false
   split at q2
   ·assumption
   ·cases q2
theorem apart_perm {es es' : List (AV × AV)} (hp : es.Perm es') (h : es.Pairwise Apart) : es'.Pairwise Apart :=
 (hp.pairwise_iff (fun {x y} (h : Apart x y) => (⟨h.2, h.1⟩ : Apart y x))).1 h
theorem findA_perm {k : AV} {es es' : List (AV × AV)} (hp : es.Perm es') : es.Pairwise Apart → ∀ {r : Option AV}, findA k es = some r → findA k es' = some r := by
 induction hp with
 | nil => intro _ r h; exact h
 | cons x p ih =>
  intro ha r h
  obtain ⟨x1, x2⟩ := x
  simp only [findA] at h ⊢
  split at h
  ·exact h
  ·exact ih (List.pairwise_cons.1 ha).2 h
  ·cases h
 | swap x y l =>
  intro ha r h
  obtain ⟨x1, x2⟩ := x
  obtain ⟨y1, y2⟩ := y
  have hxy : keyEq y1 x1 = some false ∧ keyEq x1 y1 = some false := (List.pairwise_cons.1 ha).1 (x1, x2) (by simp)
  simp only [findA] at h ⊢
  cases e1 : keyEq k y1 with
  | none => rw [e1] at h; cases h
  | some b1 =>
   rw [e1] at h
   cases b1 with
   | true =>
    have := keyEq_eq e1
    subst this
    rw [hxy.1]
    exact h
   | false =>
    cases e2 : keyEq k x1 with
    | none => rw [e2] at h; cases h
    | some b2 =>
     rw [e2] at h
     cases b2 with
     | true => exact h
     | false => exact h
 | trans p q ih1 ih2 => intro ha r h; exact ih2 (apart_perm p ha) (ih1 ha h)
theorem MapRel_perm {G : Gh} {fs en : List MapEntry} (hp : fs.Perm en) : ∀ {es : List (AV × AV)}, MapRel G es fs → ∃ es', es.Perm es' ∧ MapRel G es' en := by
 induction hp with
 | nil => intro es h; exact ⟨es, .refl _, h⟩
 | cons x p ih =>
  intro es h
  match es, h with
  | (k, v) :: es, h =>
   obtain ⟨es', q1, q2⟩ := ih h.2.2
   exact ⟨(k, v) :: es', q1.cons _, h.1, h.2.1, q2⟩
 | swap x y l =>
  intro es h
  match es, h with
  | (k, v) :: (k', v') :: es, h => exact ⟨(k', v') :: (k, v) :: es, .swap _ _ _, h.2.2.1, h.2.2.2.1, h.1, h.2.1, h.2.2.2.2⟩
 | trans p q ih1 ih2 =>
  intro es h
  obtain ⟨e1, q1, q2⟩ := ih1 h
  obtain ⟨e2, q3, q4⟩ := ih2 q2
  exact ⟨e2, q1.trans q3, q4⟩
theorem Rep.rmap_inv {G : Gh} {ks vs : List AV} {c : Value} (h : Rep G (.rmap ks vs) c) : ∃ b en ck es, c = .map (some b) ∧ G.rm b = some (en, ck) ∧ (ks.zip vs).Perm es ∧ (ks.zip vs).Pairwise Apart ∧ MapRel G es en.toList := by
 cases h with
 | rmap _ _ b en fs ck h hp ha hk hv h1 h2 =>
  have hm := MapRel_zip (fs := fs.toList) (hk.trans Array.length_toList.symm) (hv.trans Array.length_toList.symm) (fun j x e hx he => h1 j x e hx (by simpa using he)) (fun j x e hx he => h2 j x e hx (by simpa using he))
  obtain ⟨es, q1, q2⟩ := MapRel_perm hp hm
  exact ⟨b, en, ck, es, rfl, h, q1, apart_zip ha, q2⟩
theorem lookup_sound (H : EnvOk P E) (I : InvW E B h0 G S w) {t : TypeId} {x k v : AV} {c e : Value} {ok : Bool} (h : lookupA E S t x k ok = some v) (hx : Rep G x c) (hk : Rep G k e) :
  ∃ r, (Instr.lookup t c e ok).run P w = .ok r w ∧ Rep G v r := by
 unfold lookupA at h
 split at h
 ·rename_i kt et hd
  have hu := H.desc hd
  split at h
  ·rename_i hpk
   obtain ⟨d, hkd, hdk⟩ := plainKey_desc H hpk
   cases hi : E.ti et with
   | none => simp [hi] at h
   | some i =>
    simp only [hi] at h
    obtain ⟨z, hz, hzr, _⟩ := H.run_zero (w := w) hi
    have key : ∀ (es : List (AV × AV)) (fs : Array MapEntry), MapRel G es fs.toList →
      (match findA k es with | some (some v) => some (if ok then .tup [v, .bool true] else v) | some none => some (if ok then .tup [i.zeroV, .bool false] else i.zeroV) | none => none) = some v →
      ∃ r, ((do
       Instr.checkKey fs.isEmpty 10000 kt e
       let (v, ok') ← match ← Instr.findKey kt e fs.toList with
        | some (_, v) => pure (v, true)
        | none => pure (← zeroValue et, false)
       pure (if ok then .tuple #[v, .bool ok'] else v) : Sem Value)).run P w = .ok r w ∧ Rep G v r := by
     intro es fs hm hv
     cases hf : findA k es with
     | none => simp [hf] at hv
     | some r =>
      obtain ⟨r', h1, h2⟩ := find_sound (i := 0) hk hdk hf hm
      simp only [Sem.run_bind, checkKey_plain hkd hk hdk, Result.andThen_ok, findKey_run hkd h1]
      cases r with
      | none =>
       cases r' with
       | some _ => exact h2.elim
       | none =>
        simp only [hf] at hv
        cases hv
        cases ok
        ·exact ⟨z, by simp [hz], hzr G⟩
        ·exact ⟨.tuple #[z, .bool false], by simp [hz], Rep.tup' (Reps.cons (hzr G) (Reps.cons (.bool _) (Reps.nil G)))⟩
      | some u =>
       cases r' with
       | none => exact h2.elim
       | some q =>
        obtain ⟨j, y⟩ := q
        simp only [hf] at hv
        cases hv
        cases ok
        ·exact ⟨y, by simp, h2⟩
        ·exact ⟨.tuple #[y, .bool true], by simp, Rep.tup' (Reps.cons h2 (Reps.cons (.bool _) (Reps.nil G)))⟩
    split at h
    ·cases h
    ·rename_i es hes
     split at hes
     ·cases hes
      cases hx
      obtain ⟨r, k1, k2⟩ := key [] #[] trivial h
      refine ⟨r, ?_, k2⟩
      rw [← k1]
      simp [Instr.lookup, run_und hu]
      rfl
     ·rename_i id
      split at hes
      ·rename_i es' hS
       cases hes
       cases hx with
       | map _ b hG =>
       obtain ⟨b', q1, q2, q3, en, ck, q4, q5, _⟩ := I.objs id _ hS
       rw [hG] at q1; cases q1
       obtain ⟨r, k1, k2⟩ := key es en q5 h
       refine ⟨r, ?_, k2⟩
       rw [← k1]
       have hgo : (getObj b).run P w = .ok (.map en ck) w := by simp [getObj, Sem.run, q4]
       simp [Instr.lookup, run_und hu, hgo]
       rfl
      ·cases hes
     ·rename_i ks vs
      cases hes
      obtain ⟨b, en, ck, es, rfl, q1, qp, qa, q2⟩ := hx.rmap_inv
      obtain ⟨q3, q4, _⟩ := I.rm b en ck q1
      have h' : (match findA k es with | some (some v) => some (if ok then .tup [v, .bool true] else v) | some none => some (if ok then .tup [i.zeroV, .bool false] else i.zeroV) | none => none) = some v := by
       cases hf : findA k (ks.zip vs) with
       | none => simp [hf] at h
       | some r => rw [findA_perm qp qa hf]; rw [hf] at h; cases r <;> exact h
      obtain ⟨r, k1, k2⟩ := key es en q2 h'
      refine ⟨r, ?_, k2⟩
      rw [← k1]
      have hgo : (getObj b).run P w = .ok (.map en ck) w := by
       have : w.heap[b]? = some (.map en ck) := by rw [I.old b q3]; exact q4
       simp [getObj, Sem.run, this]
      simp [Instr.lookup, run_und hu, hgo]
      rfl
     ·cases hes
  ·cases h
 ·cases h
theorem read_sound (H : EnvOk P E) (I : InvW E B h0 G S w) {ρ : Operand → AV} {ρc : Operand → Value} (hρ : ∀ x, Rep G (ρ x) (ρc x)) {o : Oper} {v : AV} (h : readA E ρ S o.op = some v) :
  ∃ c, (execOp ρc o).run P w = .ok (.value c) w ∧ Rep G v c := by
 obtain ⟨dst, op, type, pos, after, guard⟩ := o
 simp only at h
 cases op <;> simp only [readA] at h
 case load t a =>
  obtain ⟨r, h1, h2⟩ := load_sound (P := P) H I h (hρ a)
  exact ⟨r, by simp [execOp, h1], h2⟩
 case lookup t x k ok =>
  obtain ⟨r, h1, h2⟩ := lookup_sound (P := P) H I h (hρ x) (hρ k)
  exact ⟨r, by simp [execOp, h1], h2⟩
 all_goals (cases h)
end Go.Vm
namespace Go.Vm
open Go
variable {P : Program} {E : Env} {B : Nat} {h0 : World} {G : Gh} {S S' : St} {w : World}
/-! rows of zeros -/
theorem flatten_get {l : List AV} {s : Nat} (hl : l.length = s) : ∀ (n j : Nat), j < n * s → ((List.replicate n l).flatten)[j]? = l[j % s]?
 | 0, j, h => by simp at h
 | n + 1, j, h => by
  rw [List.replicate_succ, List.flatten_cons]
  by_cases hj : j < s
  ·rw [List.getElem?_append_left (by omega), Nat.mod_eq_of_lt hj]
  ·rw [List.getElem?_append_right (by omega), hl, flatten_get hl n (j - s) (by rw [Nat.add_mul] at h; omega)]
   congr 1
   rw [← Nat.mod_eq_sub_mod (by omega)]
theorem zeroRow {l : List AV} {z : Array Value} {s n : Nat} (hr : Reps G l z.toList) (hl : l.length = s) :
  Reps G ((List.replicate n l).flatten) (((Array.range (n * s)).map (z[· % z.size]!)).toList) := by
 have hz : z.size = s := by rw [← hl]; simpa using hr.1.symm
 refine ⟨by simp [hl], fun j x y hx hy => ?_⟩
 have hj : j < n * s := by
  have := getElem?_lt hx
  simpa [hl] using this
 rw [flatten_get hl n j hj] at hx
 have hs : 0 < s := by
  rcases Nat.eq_zero_or_pos s with h | h
  ·subst h; simp at hj
  ·exact h
 have hm : j % s < s := Nat.mod_lt _ hs
 simp [hj, hz] at hy
 obtain ⟨y', hy', hxy⟩ := hr.getElem hx
 have : z[j % s]? = some y' := by simpa using hy'
 rw [getElem!_pos z (j % s) (by omega)] at hy
 rw [Array.getElem?_eq_getElem (by omega)] at this
 cases this
 subst hy
 exact hxy
theorem flat_replicate (n : Nat) (v : AV) : (List.replicate n v).flatMap AV.cells = (List.replicate n v.cells).flatten := by
 induction n with
 | zero => rfl
 | succ n ih => rw [List.replicate_succ, List.flatMap_cons, ih, List.replicate_succ, List.flatten_cons]
theorem setCells_append_left {α : Type} : ∀ (vs a b : List α) (off : Nat), off + vs.length ≤ a.length → setCells (a ++ b) off vs = setCells a off vs ++ b
 | [], a, b, off, _ => rfl
 | v :: vs, a, b, off, h => by
  simp only [List.length_cons] at h
  rw [setCells, setCells, List.set_append_left _ _ (by omega), setCells_append_left vs _ _ _ (by simp; omega)]
theorem setCells_append_right {α : Type} : ∀ (vs a b : List α) (off : Nat), setCells (a ++ b) (a.length + off) vs = a ++ setCells b off vs
 | [], a, b, off => rfl
 | v :: vs, a, b, off => by
  rw [setCells, setCells, List.set_append_right _ _ (by omega), show a.length + off - a.length = off from by omega, Nat.add_assoc, setCells_append_right vs a _ (off + 1)]
theorem setCells_all {α : Type} : ∀ (vs a : List α), vs.length = a.length → setCells a 0 vs = vs := by
 intro vs a h
 apply List.ext_getElem?
 intro j
 rw [setCells_get _ _ _ _ (by omega)]
 split
 ·simp
 ·rw [List.getElem?_eq_none (by omega), List.getElem?_eq_none (by omega)]
theorem flat_set : ∀ (es : List AV) (s i : Nat) (v : AV), (∀ e ∈ es, e.cells.length = s) → v.cells.length = s → i < es.length →
  (es.set i v).flatMap AV.cells = setCells (es.flatMap AV.cells) (i * s) v.cells
 | [], _, _, _, _, _, h => by simp at h
 | e :: es, s, 0, v, hs, hv, _ => by
  have he := hs e (by simp)
  simp only [List.set_cons_zero, List.flatMap_cons, Nat.zero_mul]
  rw [setCells_append_left _ _ _ _ (by omega), setCells_all _ _ (by omega)]
 | e :: es, s, i + 1, v, hs, hv, h => by
  have he := hs e (by simp)
  simp only [List.set_cons_succ, List.flatMap_cons]
  rw [flat_set es s i v (fun x hx => hs x (by simp [hx])) hv (by simpa using h)]
  have : (i + 1) * s = e.cells.length + i * s := by rw [he, Nat.add_mul]; omega
  rw [this, setCells_append_right]
theorem fillE_sound {s : Nat} : ∀ {parts : List (Nat × AV)} {parts' : List (Nat × Value)} {es : List AV} {ys : Array Value} {r : List AV},
  fillE s es parts = some r → PReps G parts parts' → (∀ e ∈ es, e.cells.length = s) → Reps G (es.flatMap AV.cells) ys.toList →
   ∃ zs, Instr.fill (fun i => some (i * s, s)) ys parts' = some zs ∧ (∀ e ∈ r, e.cells.length = s) ∧ r.length = es.length ∧ Reps G (r.flatMap AV.cells) zs.toList
 | [], [], es, ys, r, h, _, hs, hr => by simp [fillE] at h; subst h; exact ⟨ys, rfl, hs, rfl, hr⟩
 | (i, v) :: rest, (j, c) :: rest', es, ys, r, h, hp, hs, hr => by
  obtain ⟨rfl, hv, hp⟩ := hp
  unfold fillE at h
  unfold Instr.fill
  split at h
  ·rename_i hc
   obtain ⟨h1, h2, h3⟩ := hc
   have hcells := hv.cells h1
   have hlen : c.cells.size = v.cells.length := by simpa using hcells.1.symm
   have hys : ys.size = es.length * s := by rw [← flat_length es s hs]; simpa using hr.1.symm
   have hmul : (i + 1) * s ≤ es.length * s := Nat.mul_le_mul_right _ h3
   have hcond : (decide (c.cells.size ≠ s) || decide (i * s + c.cells.size > ys.size)) = false := by
    rw [Nat.add_mul] at hmul
    simp; omega
   simp only [hcond, Bool.false_eq_true, if_false]
   have hs' : ∀ e ∈ es.set i v, e.cells.length = s := by
    intro e he
    rcases List.mem_or_eq_of_mem_set he with k | k
    ·exact hs e k
    ·subst k; exact h2
   obtain ⟨zs, k1, k2, k3, k4⟩ := fillE_sound (ys := (Array.foldl (fun cs (x : Value × Nat) => cs.setIfInBounds (i * s + x.2) x.1) ys c.cells.zipIdx)) h hp hs' (by
    have := foldl_set c.cells.toList ys (i * s) 0
    rw [Nat.add_zero] at this
    have e : (Array.foldl (fun cs (x : Value × Nat) => cs.setIfInBounds (i * s + x.2) x.1) ys c.cells.zipIdx) = ((c.cells.toList.zipIdx 0).foldl (fun cs (p : Value × Nat) => cs.setIfInBounds (i * s + p.2) p.1) ys) := by
     rw [← Array.foldl_toList]; simp
    rw [e, this, flat_set es s i v hs h2 h3]
    exact hr.setCells hcells _)
   exact ⟨zs, k1, k2, by rw [k3]; simp, k4⟩
  ·cases h
 | [], _ :: _, _, _, _, _, hp, _, _ => hp.elim
 | _ :: _, [], _, _, _, _, hp, _, _ => hp.elim
/-- a slice literal -/
theorem buildSlice_sound (H : EnvOk P E) (I : InvW E B h0 G S w) {ρ : Operand → AV} {ρc : Operand → Value} (hρ : ∀ x, Rep G (ρ x) (ρc x)) {o : Oper} {v : AV} {t : TypeId} {len : Nat} {parts : Array (Nat × Operand)}
  (ho : o.op = .buildSlice t len parts) (h : pureA E ρ o.op = some v) : Does P E B h0 G S v (execOp ρc o) w := by
 rw [ho] at h
 simp only [pureA] at h
 split at h
 ·rename_i e hd
  have hu := H.desc hd
  split at h
  ·rename_i i hi
   split at h
   ·rename_i hlen
    cases hf : fillE i.size (repElems len i.zeroV) (parts.toList.map fun (j, x) => (j, ρ x)) with
    | none => simp [hf] at h
    | some es =>
     simp [hf] at h
     subst h
     obtain ⟨z, hz, hzr, hzc, _⟩ := H.run_zero (w := w) hi
     have hzl : i.zero.length = i.size := (H.ti e i hi).zl
     have hzcells : i.zeroV.cells = i.zero := (H.ti e i hi).zc
     let init : Array Value := (Array.range (len * i.size)).map ((if len * i.size = 0 then #[] else z.cells)[· % (if len * i.size = 0 then #[] else z.cells).size]!)
     have hinit : Reps G ((repElems len i.zeroV).flatMap AV.cells) init.toList := by
      rw [repElems, flat_replicate, hzcells]
      by_cases h0 : len * i.size = 0
      ·simp only [init, h0]
       have : ((List.replicate len i.zero).flatten) = [] := by
        apply List.eq_nil_of_length_eq_zero
        simp [hzl, h0]
       rw [this]
       simp
       exact Reps.nil G
      ·simp only [init, h0, if_false]
       exact zeroRow (hzc G) hzl
     obtain ⟨zs, k1, k2, k3, k4⟩ := fillE_sound (ys := init) hf (PReps.map hρ parts.toList) (by
      intro x hx
      have := List.eq_of_mem_replicate hx
      rw [this, hzcells, hzl]) hinit
     obtain ⟨G', hG, hown, I'⟩ := I.pushImm (c := zs) (e := e)
     have hlen' : len = es.length := by rw [k3]; simp [repElems]
     refine Does.value (c := .slice (some ⟨w.heap.size, 0, none⟩) len len) (w' := { w with heap := w.heap.push (.cells zs e (0, 0)) }) (G' := G') ?_ hG ⟨I', I.os, I.out⟩ ?_
     ·have hnl : ¬ (16777216 < len * i.size) := by omega
      unfold execOp
      simp only [ho]
      have hzz : (if len * i.size = 0 then (pure #[] : Sem (Array Value)) else do pure (← zeroValue e).cells).run P w = .ok (if len * i.size = 0 then #[] else z.cells) w := by
       split <;> simp [hz]
      simp only [Instr.buildSlice, Sem.run_bind, run_und hu, Result.andThen_ok, H.run_sizeT hi, Sem.run_ite, hnl, if_false]
      by_cases h0 : len * i.size = 0
      ·simp [init, h0] at k1
       simp [h0, k1, newRow]
      ·simp only [init, h0, if_false] at k1
       simp only [h0, if_false] at hzz
       simp [h0, hz, newRow, k1]
     ·refine .slice _ _ _ _ _ _ i.size hlen' k2 (by omega) (fun j hj => ?_) (fun j x y hx hy => ?_) ?_
      ·have hjl : j < zs.size := by
        have := k4.1; have e2 : zs.toList.length = zs.size := Array.length_toList; omega
       exact ⟨zs[j], by rw [Nat.zero_add]; exact hown j _ (Array.getElem?_eq_getElem hjl)⟩
      ·obtain ⟨y', hy', hxy⟩ := k4.getElem hx
       have := hown j y' (by simpa using hy')
       rw [Nat.zero_add, this] at hy
       cases hy
       exact hxy.mono hG.toLe0
      ·have : len - len = 0 := by omega
       split <;> exact this
   ·cases h
  ·cases h
 ·cases h
theorem alloc_sound (H : EnvOk P E) (I : InvW E B h0 G S w) {ρc : Operand → Value} {o : Oper} {e : TypeId} {i : TI} (ho : o.op = .alloc e) (hi : E.ti e = some i) :
  Does P E B h0 G (S.push (.cells i.zero)) (.ptr S.n 0) (execOp ρc o) w := by
 obtain ⟨z, hz, hzr, hzc, _⟩ := H.run_zero (w := w) hi
 obtain ⟨G', hG, hobj, I'⟩ := I.pushObj (c := z.cells) (e := e) (hzc G)
 refine Does.value (c := .pointer (some ⟨w.heap.size, 0, none⟩)) (w' := { w with heap := w.heap.push (.cells z.cells e (0, 0)) }) (G' := G') ?_ hG ⟨I', I.os, I.out⟩ ?_
 ·simp [execOp, ho, Instr.alloc, hz, newVar, newRow]
 ·exact .ptr S.n 0 w.heap.size 0 hobj
theorem box_sound (I : InvW E B h0 G S w) {ρ : Operand → AV} {ρc : Operand → Value} (hρ : ∀ x, Rep G (ρ x) (ρc x)) {o : Oper} {e : TypeId} {x : Operand} (ho : o.op = .box e x) (hk : (ρ x).known = true) :
  Does P E B h0 G (S.push (.cells (ρ x).cells)) (.ptr S.n 0) (execOp ρc o) w := by
 obtain ⟨G', hG, hobj, I'⟩ := I.pushObj (c := (ρc x).cells) (e := e) ((hρ x).cells hk)
 refine Does.value (c := .pointer (some ⟨w.heap.size, 0, none⟩)) (w' := { w with heap := w.heap.push (.cells (ρc x).cells e (0, 0)) }) (G' := G') ?_ hG ⟨I', I.os, I.out⟩ ?_
 ·simp [execOp, ho, Instr.box, newVar, newRow]
 ·exact .ptr S.n 0 w.heap.size 0 hobj
theorem makeMap_sound (I : InvW E B h0 G S w) {ρc : Operand → Value} {o : Oper} {t : TypeId} (ho : o.op = .makeMap t none) :
  Does P E B h0 G (S.push (.map [])) (.map S.n) (execOp ρc o) w := by
 obtain ⟨G', hG, hobj, hblk, I'⟩ := I.pushBlk (x := .map #[] 0) (o := .map []) (by simp) (fun G' hG h1 h2 => ⟨w.heap.size, h1, h2, I.size, #[], 0, by simp, trivial, by simp⟩)
 refine Does.value (c := .map (some w.heap.size)) (w' := { w with heap := w.heap.push (.map #[] 0) }) (G' := G') ?_ hG ⟨I', I.os, I.out⟩ ?_
 ·simp [execOp, ho, Instr.makeMap]
 ·exact .map S.n w.heap.size hobj
theorem makeSlice_sound (H : EnvOk P E) (I : InvW E B h0 G S w) {ρ : Operand → AV} {ρc : Operand → Value} (hρ : ∀ x, Rep G (ρ x) (ρc x)) {o : Oper} {t e : TypeId} {l c : Operand} {i : TI} {k k' : IntKind} {n m : Int}
  (ho : o.op = .makeSlice t l c) (hd : E.desc t = some (.slice e)) (hi : E.ti e = some i) (hl : ρ l = .int k n) (hc : ρ c = .int k' m) (h1 : 0 ≤ n) (h2 : n ≤ m) (h3 : m * (i.bytes + 1) ≤ roomMost) :
  Does P E B h0 G (S.push (.cells (repeatL m.toNat i.zero))) (.rsl S.n 0 n.toNat m.toNat) (execOp ρc o) w := by
 have hu := H.desc hd
 obtain ⟨z, hz, hzr, hzc, ie, q1, q2, q3, q4⟩ := H.run_zero (w := w) hi
 have hzl : i.zero.length = i.size := (H.ti e i hi).zl
 have hlc := hρ l
 have hcc := hρ c
 rw [hl] at hlc
 rw [hc] at hcc
 generalize hlv : ρc l = lv at hlc
 generalize hcv : ρc c = cv at hcc
 cases hlc
 cases hcc
 have h3' : m * ((i.bytes : Int) + 1) ≤ 1099511627776 := by simpa [roomMost] using h3
 have hm0 : 0 ≤ m := by omega
 have hmm : m * (i.bytes : Int) + m = m * ((i.bytes : Int) + 1) := by rw [Int.mul_add]; omega
 have hmb : 0 ≤ m * (i.bytes : Int) := Int.mul_nonneg hm0 (by omega)
 have hwl : IntKind.i64.wrap n = n := by
  unfold IntKind.wrap
  simp [IntKind.bits, IntKind.signed]
  omega
 have hwm : IntKind.i64.wrap m = m := by
  unfold IntKind.wrap
  simp [IntKind.bits, IntKind.signed]
  omega
 let cells : Array Value := (Array.range (m.toNat * i.size)).map ((if m.toNat * i.size = 0 then #[] else z.cells)[· % (if m.toNat * i.size = 0 then #[] else z.cells).size]!)
 have hcells : Reps G (repeatL m.toNat i.zero) cells.toList := by
  unfold repeatL
  by_cases h0 : m.toNat * i.size = 0
  ·simp only [cells, h0]
   have : ((List.replicate m.toNat i.zero).flatten) = [] := by
    apply List.eq_nil_of_length_eq_zero
    simp [hzl, h0]
   rw [this]
   simp
   exact Reps.nil G
  ·simp only [cells, h0, if_false]
   exact zeroRow (hzc G) hzl
 obtain ⟨G', hG, hobj, I'⟩ := I.pushObj (c := cells) (e := e) hcells
 refine Does.value (c := .slice (some ⟨w.heap.size, 0, none⟩) n.toNat m.toNat) (w' := { w with heap := w.heap.push (.cells cells e (0, 0)) }) (G' := G') ?_ hG ⟨I', I.os, I.out⟩ ?_
 ·have hb : (ie.bytes : Int) * m ≤ 281474976710656 := by rw [q3, Int.mul_comm]; omega
  have e1 : ¬ (m < 0) := by omega
  have e2 : ¬ (281474976710656 < (ie.bytes : Int) * m) := by omega
  have e3 : ¬ (n < 0) := by omega
  have e4 : ¬ (m < n) := by omega
  by_cases h0 : m.toNat * i.size = 0
  ·simp [execOp, ho, hlv, hcv, Instr.makeSlice, run_und hu, asInt, asIntOf, hwl, hwm, typeInfo, q1, sizeOf, q2, e1, e2, e3, e4, newRow, h0, cells]
  ·simp [execOp, ho, hlv, hcv, Instr.makeSlice, run_und hu, asInt, asIntOf, hwl, hwm, typeInfo, q1, sizeOf, q2, e1, e2, e3, e4, newRow, h0, cells, hz]
 ·have := Rep.rsl (G := G') S.n 0 n.toNat m.toNat w.heap.size 0 hobj (by omega)
  simpa using this
theorem World.os_setCells' (b : Nat) : ∀ (vs : List Value) (o : Nat) (w : World), (w.setCells b o vs).os = w.os
 | [], _, _ => rfl
 | v :: vs, o, w => by
  unfold World.setCells
  rw [World.os_setCells' b vs]
  rfl
theorem World.out_setCells' (b : Nat) : ∀ (vs : List Value) (o : Nat) (w : World), (w.setCells b o vs).output = w.output
 | [], _, _ => rfl
 | v :: vs, o, w => by
  unfold World.setCells
  rw [World.out_setCells' b vs]
  rfl
/-! stores -/
theorem setCells_heap_other (b : Nat) : ∀ (vs : List Value) (o : Nat) (w : World) (b' : Nat), b' ≠ b → (w.setCells b o vs).heap[b']? = w.heap[b']?
 | [], _, _, _, _ => rfl
 | v :: r, o, w, b', h => by
  rw [World.setCells, setCells_heap_other b r _ _ _ h]
  simp [World.setCell, Array.getElem?_modify, Ne.symm h]
theorem setCells_heap_size (b : Nat) : ∀ (vs : List Value) (o : Nat) (w : World), (w.setCells b o vs).heap.size = w.heap.size
 | [], _, _ => rfl
 | v :: r, o, w => by
  rw [World.setCells, setCells_heap_size b r]
  simp [World.setCell]
theorem wrote_setCells {b s : Nat} {vs : List Value} (hc : ∀ j, j < vs.length → (w.cell? ⟨b, s + j, none⟩).isSome = true) : Wrote w.heap (w.setCells b s vs).heap b s vs := by
 constructor
 ·exact setCells_heap_size b vs s w
 ·exact fun b' h => setCells_heap_other b vs s w b' h
 ·intro o
  rw [← cell?_eq, ← cell?_eq]
  split
  ·rename_i ho
   have := World.cell?_setCells_in b vs s w hc (o - s) (by omega)
   rw [show s + (o - s) = o from by omega] at this
   rw [this, List.getElem?_eq_getElem (by omega)]
  ·rename_i ho
   exact World.cell?_setCells_out b vs s w ⟨b, o, none⟩ (fun _ _ => by simp; omega)
 ·intro o
  rw [← frozen?_eq, ← frozen?_eq, World.frozen?_setCells]
 ·cases vs with
  | nil => exact .inl rfl
  | cons v r =>
   have := hc 0 (by simp)
   rw [cell?_eq] at this
   unfold cl at this
   split at this
   ·rename_i c e f hb; exact .inr ⟨c, e, f, hb⟩
   ·simp at this
 ·intro h; subst h; rfl
theorem oneCell'_of {v : Value} (h : (∀ ys, v ≠ .agg ys) ∧ (∀ ys, v ≠ .tuple ys)) : v.oneCell' = true := by
 cases v <;> first
  | rfl
  | exact absurd rfl (h.1 _)
  | exact absurd rfl (h.2 _)
theorem Reps.oneCells {xs : List AV} {cs : List Value} (h : Reps G xs cs) (hk : xs.all (·.isCell) = true) : ∀ v ∈ cs, v.oneCell' = true := by
 intro v hv
 obtain ⟨j, hj, rfl⟩ := List.getElem_of_mem hv
 have hj' : j < xs.length := by rw [h.1]; exact hj
 exact oneCell'_of ((h.2 j _ _ (List.getElem?_eq_getElem hj') (List.getElem?_eq_getElem hj)).oneCell (List.all_eq_true.1 hk _ (List.getElem_mem hj')))
theorem store_sound (H : EnvOk P E) (I : InvW E B h0 G S w) {ρ : Operand → AV} {ρc : Operand → Value} (hρ : ∀ x, Rep G (ρ x) (ρc x)) {o : Oper} {t : TypeId} {a x : Operand} (ho : o.op = .store t a x)
  (h : storeA E S t (ρ a) (ρ x) = some S') : Does P E B h0 G S' nowhere (execOp ρc o) w := by
 unfold storeA at h
 split at h
 ·rename_i s i off hs ha
  split at h
  ·rename_i cs hcs
   split at h
   ·rename_i hc
    obtain ⟨h1, h2, h3, h4⟩ := hc
    cases h
    have hap := hρ a
    rw [ha] at hap
    generalize hav : ρc a = av at hap
    cases hap with
    | ptr _ _ b o' hG =>
    have hget := cells?_inv hcs
    obtain ⟨b', o'', k1, k2, k4⟩ := I.objs i _ hget
    rw [hG] at k1; cases k1
    have hcells := (hρ x).cells h1
    have hvl : (ρc x).cells.toList.length = s := by rw [← hcells.1]; exact h2
    have hold : ∀ j, j < (ρc x).cells.toList.length → (w.cell? ⟨b, o' + off + j, none⟩).isSome = true ∧ w.frozen? ⟨b, o' + off + j, none⟩ = false := by
     intro j hj
     obtain ⟨_, ⟨c, k5, _⟩, k6⟩ := k4 (off + j) _ (List.getElem?_eq_getElem (show off + j < cs.length by omega))
     rw [cell?_eq, frozen?_eq, Nat.add_assoc, k5, k6]
     exact ⟨rfl, rfl⟩
    have hst := run_storeCells_cells (P := P) b (o' + off) (ρc x).cells.toList 0 w (fun j hj => by simpa using (hold j hj).1) (fun j hj => by simpa using (hold j hj).2) (hcells.oneCells h4)
    rw [Nat.add_zero] at hst
    have W := wrote_setCells (w := w) (b := b) (s := o' + off) (vs := (ρc x).cells.toList) (fun j hj => (hold j hj).1)
    have I' := I.store hget hG (by omega) hcells W
    refine Does.skip (w' := w.setCells b (o' + off) (ρc x).cells.toList) ?_ (.refl G) ⟨I', by rw [World.os_setCells']; exact I.os, by rw [World.out_setCells']; exact I.out⟩
    have hsz : (ρc x).cells.size = s := by simpa using hvl
    simp [execOp, ho, hav, Instr.storeAt, Instr.sureAddr, storeVar, H.run_size hs, hsz, hst]
   ·cases h
  ·cases h
 ·cases h
end Go.Vm
namespace Go.Vm
open Go
variable {P : Program} {E : Env} {B : Nat} {h0 : World} {G : Gh} {S S' : St} {w : World}
theorem keyEq_true {k k' : AV} (h : keyEq k k' = some true) : k = k' := by
 unfold keyEq at h
 split at h
 ·split at h
  ·rename_i hk; subst hk; simp at h; subst h; rfl
  ·cases h
 ·simp at h; subst h; rfl
 ·simp at h; subst h; rfl
 ·cases h
theorem sameBits_key {d : TypeDesc} {k : AV} {c c' : Value} (hd : keyDesc d k = true) (hk : Rep G k c) (hk' : Rep G k c') : Instr.sameBits 10000 c c' = true := by
 cases d <;> cases k <;> simp [keyDesc] at hd
 ·cases hk; cases hk'; simp [Instr.sameBits]
 ·cases hk; cases hk'; simp [Instr.sameBits]
 ·obtain ⟨s, rfl, e1⟩ := hk.str_inv
  obtain ⟨s', rfl, e2⟩ := hk'.str_inv
  simp [Instr.sameBits, beq_toListBytes, toList_data, ← e1, ← e2]
theorem putKey_sound {k v : AV} {c u : Value} {d : TypeDesc} (hk : Rep G k c) (hv : Rep G v u) (hd : keyDesc d k = true) :
  ∀ {es es' : List (AV × AV)} {fs : List MapEntry} {n : Nat}, putKey k v es = some es' → MapRel G es fs →
   (∃ i y e, Instr.findNow d c fs n = some (some (n + i, y)) ∧ fs[i]? = some e ∧ Instr.sameBits 10000 e.key c = true ∧ MapRel G es' (fs.modify i fun e => { e with key := c, val := u })) ∨
   (Instr.findNow d c fs n = some none ∧ ∀ b, MapRel G es' (fs ++ [{ key := c, val := u, born := b }]))
 | [], es', [], n, h, _ => by
  simp [putKey] at h
  subst h
  exact .inr ⟨rfl, fun b => ⟨hk, hv, trivial⟩⟩
 | (k', x) :: es, es', e :: fs, n, h, hm => by
  obtain ⟨h1, h2, h3⟩ := hm
  unfold putKey at h
  unfold Instr.findNow
  split at h
  ·rename_i hkk
   cases h
   have hkk' := keyEq_true hkk
   subst hkk'
   rw [keyEq_sound hkk hk h1 hd]
   exact .inl ⟨0, e.val, e, rfl, rfl, sameBits_key hd h1 hk, hk, hv, h3⟩
  ·rename_i hkk
   cases hp : putKey k v es with
   | none => simp [hp] at h
   | some es1 =>
    simp [hp] at h
    subst h
    rw [keyEq_sound hkk hk h1 hd]
    rcases putKey_sound (n := n + 1) hk hv hd hp h3 with ⟨i, y, e', q1, q2, q3, q4⟩ | ⟨q1, q2⟩
    ·refine .inl ⟨i + 1, y, e', ?_, by simpa using q2, q3, by rw [List.modify_succ_cons]; exact ⟨h1, h2, q4⟩⟩
     simp only [q1]
     congr 3
     omega
    ·exact .inr ⟨q1, fun b => ⟨h1, h2, q2 b⟩⟩
  ·cases h
 | [], _, _ :: _, _, _, hm => hm.elim
 | (_, _) :: _, _, [], _, _, hm => hm.elim
theorem run_setObj {b : Nat} {x y : Obj} (hx : w.heap[b]? = some x) (hn : ∀ c e f, x ≠ .cells c e f) : (setObj b y).run P w = .ok () { w with heap := w.heap.setIfInBounds b y } := by
 cases x <;> first
  | exact absurd rfl (hn _ _ _)
  | simp only [setObj, Sem.run, hx]
theorem run_getObj {b : Nat} {x : Obj} (hx : w.heap[b]? = some x) (hn : ∀ c e f, x ≠ .cells c e f) : (getObj b).run P w = .ok x w := by
 cases x <;> first
  | exact absurd rfl (hn _ _ _)
  | simp only [getObj, Sem.run, hx]
theorem mapUpdate_sound (H : EnvOk P E) (I : InvW E B h0 G S w) {t kt et : TypeId} {id : Nat} {k v : AV} {m c u : Value} {es es' : List (AV × AV)}
  (hd : E.desc t = some (.map kt et)) (hm : Rep G (.map id) m) (hk : Rep G k c) (hv : Rep G v u) (hpk : plainKey E kt k = true) (hS : S.get id = some (.map es)) (hp : putKey k v es = some es') :
  ∃ w', (Instr.mapUpdate t m c u).run P w = .ok () w' ∧ InvW E B h0 G (S.put id (.map es')) w' := by
 have hu := H.desc hd
 obtain ⟨d, hkd, hdk⟩ := plainKey_desc H hpk
 cases hm with
 | map _ b hG =>
 obtain ⟨b', q1, q2, q3, en, ck, q4, q5, q6⟩ := I.objs id _ hS
 rw [hG] at q1; cases q1
 have hgo := run_getObj (P := P) q4 (by simp)
 rcases putKey_sound (n := 0) hk hv hdk hp q5 with ⟨i, y, e, p1, p2, p3, p4⟩ | ⟨p1, p2⟩
 ·refine ⟨{ w with heap := w.heap.setIfInBounds b (.map (en.modify i fun e => { e with key := c, val := u }) ck) }, ?_, ⟨I.setBlk (o := .map es') (y := .map (en.modify i fun e => { e with key := c, val := u }) ck) (St.get_lt hS) q2 q3 (by simp) ⟨b, hG, q2, q3, _, ck, Array.getElem?_setIfInBounds_self_of_lt (blk_lt I.toInv q2), by simpa using p4, ?_⟩, I.os, I.out⟩⟩
  ·have p2' : en[i]? = some e := by simpa using p2
   have hfk := findKey_run (P := P) (w := w) hkd p1
   rw [Nat.zero_add] at hfk
   have hso := run_setObj (P := P) (y := .map (en.modify i fun e => { e with key := c, val := u }) ck) q4 (by simp)
   simp [Instr.mapUpdate, run_und hu, hgo, checkKey_plain hkd hk hdk, hfk, p2', Instr.keyThatStays, p3, hso]
  ·intro x hx
   rw [Array.toList_modify] at hx
   obtain ⟨j, hj, rfl⟩ := List.getElem_of_mem hx
   rw [List.getElem_modify]
   have hj' : j < en.toList.length := by simpa using hj
   have hq := q6 _ (List.getElem_mem hj')
   split
   ·exact hq
   ·exact hq
 ·refine ⟨{ w with heap := w.heap.setIfInBounds b (.map (en.push { key := c, val := u, born := ck }) (ck + 1)) }, ?_, ⟨I.setBlk (o := .map es') (y := .map (en.push { key := c, val := u, born := ck }) (ck + 1)) (St.get_lt hS) q2 q3 (by simp) ⟨b, hG, q2, q3, _, ck + 1, Array.getElem?_setIfInBounds_self_of_lt (blk_lt I.toInv q2), by simpa using p2 ck, ?_⟩, I.os, I.out⟩⟩
  ·have hfk := findKey_run (P := P) (w := w) hkd p1
   have hso := run_setObj (P := P) (y := .map (en.push { key := c, val := u, born := ck }) (ck + 1)) q4 (by simp)
   simp [Instr.mapUpdate, run_und hu, hgo, checkKey_plain hkd hk hdk, hfk, hso]
  ·intro x hx
   simp at hx
   rcases hx with hx | rfl
   ·have := q6 x (by simpa using hx); omega
   ·simp
/-! append -/
theorem cells_reps {l : List AV} {b o : Nat} {h : Array Obj} (hc : ∀ j y, l[j]? = some y → ∃ c, cl h b (o + j) = some c ∧ Rep G y c) :
  Reps G l ((List.range l.length).map fun j => (cl h b (o + j)).getD undef) := by
 refine ⟨by simp, fun j y u hy hu => ?_⟩
 have hj := getElem?_lt hy
 obtain ⟨q, k1, k2⟩ := hc j y hy
 rw [List.getElem?_map, List.getElem?_range hj] at hu
 simp [k1] at hu
 subst hu
 exact k2
theorem cells_cl {l : List AV} {b o : Nat} {h : Array Obj} (hc : ∀ j y, l[j]? = some y → ∃ c, cl h b (o + j) = some c ∧ Rep G y c) (j : Nat) (u : Value)
  (hu : ((List.range l.length).map fun j => (cl h b (o + j)).getD undef)[j]? = some u) : cl h b (o + j) = some u := by
 have hj := getElem?_lt hu
 rw [List.length_map, List.length_range] at hj
 obtain ⟨q, k1, k2⟩ := hc j _ (List.getElem?_eq_getElem hj)
 rw [List.getElem?_map, List.getElem?_range hj] at hu
 simp [k1] at hu
 subst hu
 exact k1
def new_flat (agg : Bool) (s n : Nat) (l : List AV) : List AV := (chop agg s n l).flatMap AV.cells
theorem chop_length {agg : Bool} {s : Nat} : ∀ (n : Nat) (l : List AV), (chop agg s n l).length = n
 | 0, l => rfl
 | n + 1, l => by simp [chop, chop_length n]
theorem isCell_cells {v : AV} (h : v.isCell = true) : v.cells = [v] := by
 cases v <;> first
  | rfl
  | simp [AV.isCell] at h
theorem chop_flat {agg : Bool} {s : Nat} (h1 : agg = false → s = 1) : ∀ (n : Nat) (l : List AV), n * s ≤ l.length → (l.take (n * s)).all (·.isCell) = true → (chop agg s n l).flatMap AV.cells = l.take (n * s)
 | 0, l, _, _ => by simp [chop]
 | n + 1, l, hl, hc => by
  have e : (n + 1) * s = s + n * s := by rw [Nat.add_mul]; omega
  rw [e] at hl hc
  rw [List.take_add, List.all_append, Bool.and_eq_true] at hc
  rw [chop, List.flatMap_cons, chop_flat h1 n (l.drop s) (by rw [List.length_drop]; omega) hc.2, e, List.take_add]
  congr 1
  cases agg with
  | true => rfl
  | false =>
   have := h1 rfl
   subst this
   cases l with
   | nil => simp at hl
   | cons y ys =>
    have hy : y.isCell = true := by simpa using hc.1
    simp [isCell_cells hy]
theorem chop_sizes {agg : Bool} {s : Nat} (h1 : agg = false → s = 1) : ∀ (n : Nat) (l : List AV), n * s ≤ l.length → (l.take (n * s)).all (·.isCell) = true → ∀ v ∈ chop agg s n l, v.cells.length = s
 | 0, l, _, _, v, hv => by simp [chop] at hv
 | n + 1, l, hl, hc, v, hv => by
  have e : (n + 1) * s = s + n * s := by rw [Nat.add_mul]; omega
  rw [e] at hl hc
  rw [List.take_add, List.all_append, Bool.and_eq_true] at hc
  rw [chop, List.mem_cons] at hv
  rcases hv with rfl | hv
  ·cases agg with
   | true => simp [AV.cells]; omega
   | false =>
    have := h1 rfl
    subst this
    cases l with
    | nil => simp at hl
    | cons y ys =>
     have hy : y.isCell = true := by simpa using hc.1
     simp [isCell_cells hy]
  ·exact chop_sizes h1 n (l.drop s) (by rw [List.length_drop]; omega) hc.2 v hv
/-- what is appended -/
theorem elems_sound (H : EnvOk P E) (I : InvW E B h0 G S w) {e : TypeId} {i : TI} (hi : E.ti e = some i) {x : AV} {c : Value} {new : List AV} (h : elemsA E S e x = some new) (hx : Rep G x c)
  (hs : new.all (fun v => v.cells.length = i.size) = true) (hc : (new.flatMap AV.cells).all (·.isCell) = true) {tx : TypeId} {e' : TypeId} (hd : P.underlying tx = some (.slice e')) :
  ∃ news, Reps G (new.flatMap AV.cells) news ∧ Src P i.size tx c new.length news w := by
 have hkind : (∃ e', P.underlying tx = some (.slice e')) ∨ P.underlying tx = some .string := .inl ⟨e', hd⟩
 have hs' : ∀ v ∈ new, v.cells.length = i.size := fun v hv => by simpa using List.all_eq_true.1 hs v hv
 have hfl := flat_length new i.size hs'
 have mk : ∀ (a : Addr) (cp : Nat) (news : List Value), Reps G (new.flatMap AV.cells) news → (∀ j u, news[j]? = some u → w.cell? (a.add j) = some u) → Src P i.size tx (.slice (some a) new.length cp) new.length news w := by
  intro a cp news hr hcell
  have hl : news.length = new.length * i.size := by rw [← hr.1, hfl]
  exact ⟨hkind, fun _ => rfl, run_firstCells_some w i.size new.length a new.length cp news hl hcell, run_firstCells_some w.drew i.size new.length a new.length cp news hl (by simpa using hcell), hl, hr.oneCells hc⟩
 unfold elemsA at h
 split at h
 ·cases h
  cases hx
  exact ⟨[], Reps.nil G, ⟨hkind, fun _ => rfl, run_firstCells_none w i.size 0 0 0, run_firstCells_none w.drew i.size 0 0 0, by simp, fun _ h => by cases h⟩⟩
 ·rename_i es tk
  cases h
  rcases hx.slice_inv with ⟨rfl, rfl, ad, rfl⟩ | ⟨b, o, cap, sz, rfl, hsz, hcap, g1, g2, ht⟩
  ·exact ⟨[], Reps.nil G, mk ad 0 [] (Reps.nil G) (fun j u hu => by simp at hu)⟩
  have hcell := imm_cells I g1 g2
  exact ⟨_, cells_reps hcell, mk ⟨b, o, none⟩ cap _ (cells_reps hcell) (fun j u hu => by rw [add_eq, cell?_eq]; exact cells_cl hcell j u hu)⟩
 ·rename_i id off len cp
  obtain ⟨b, o, cp', hG, rfl, _, _⟩ := hx.rsl_inv
  split at h
  ·rename_i i' cs hi' hcs
   rw [hi] at hi'; cases hi'
   split at h
   ·rename_i hlen
    cases h
    obtain ⟨b', o', k1, k2, k4⟩ := I.objs id _ (cells?_inv hcs)
    rw [hG] at k1; cases k1
    have hflat := chop_flat (agg := i.agg) (s := i.size) (fun ha => (H.ti e i hi).one ha) len (cs.drop off) (by rw [List.length_drop]; omega) hlen.2
    have hcell : ∀ j y, (new_flat i.agg i.size len (cs.drop off))[j]? = some y → ∃ c, cl w.heap b (o + off + j) = some c ∧ Rep G y c := by
     intro j y hy
     unfold new_flat at hy
     rw [hflat, List.getElem?_take] at hy
     split at hy
     ·rw [List.getElem?_drop] at hy
      obtain ⟨_, k5, _⟩ := k4 (off + j) y hy
      rwa [← Nat.add_assoc] at k5
     ·cases hy
    have hlen2 : len = (chop i.agg i.size len (cs.drop off)).length := (chop_length ..).symm
    refine ⟨(List.range (new_flat i.agg i.size len (cs.drop off)).length).map fun j => (cl w.heap b (o + off + j)).getD undef, cells_reps hcell, ?_⟩
    have := mk ⟨b, o + off, none⟩ cp' _ (cells_reps hcell) (fun j u hu => by rw [add_eq, cell?_eq]; exact cells_cl hcell j u hu)
    rw [← hlen2] at this
    rw [← hlen2]
    exact this
   ·cases h
  ·cases h
 ·cases h
theorem roomOk_spec {i : TI} {n : Nat} (h : roomOk i n = true) : n ≤ 1099511627776 ∧ n * i.bytes ≤ 1099511627776 := by
 simp [roomOk, roomMost, Nat.mul_add] at h
 omega
/-- an append that makes a new array -/
theorem grow_sound (H : EnvOk P E) (I : InvW E B h0 G S w) {t tx ty e : TypeId} {i : TI} (hd : E.desc t = some (.slice e)) (hi : E.ti e = some i) {es new : List AV} {base : Option Addr} {sCap : Nat} {olds news : List Value} {x : Value}
  (hes : ∀ v ∈ es, v.cells.length = i.size) (hnew : ∀ v ∈ new, v.cells.length = i.size) (hro : Reps G (es.flatMap AV.cells) olds) (hrn : Reps G (new.flatMap AV.cells) news)
  (hold : (Builtin.firstCells i.size es.length (.slice base es.length sCap)).run P w.drew = .ok olds.toArray w.drew) (hs : Src P i.size tx x new.length news w)
  (hg : sCap < es.length + new.length) (hroom : roomOk i (es.length + new.length) = true) :
  ∃ c w' G', (Builtin.append_ #[t, tx] ty #[.slice base es.length sCap, x]).run P w = .ok c w' ∧ G.Le G' ∧ InvW E B h0 G' (S.push (.tok false)) w' ∧ Rep G' (.slice (es ++ new) (.tok S.n i.size)) c := by
 obtain ⟨ie, z, q1, q2, q3, q4, q5, q6⟩ := (H.ti e i hi).info
 obtain ⟨r1, r2⟩ := roomOk_spec hroom
 have hzl : z.cells.size = i.size := by
  have := (q6 G).1
  rw [(H.ti e i hi).zl] at this
  simpa using this.symm
 have hfit : Builtin.nextslicecap (es.length + new.length) sCap * ie.bytes ≤ 281474976710656 := growslice_fits hg (by rw [q3]; omega)
 have hrun := run_append_grow_src (P := P) w t tx ty e ie z (H.desc hd) q1 q4 base es.length sCap olds (by rw [q2]; exact hold) x new.length news (by rw [q2]; exact hs) hg (by omega) hfit
 generalize hA : ((olds ++ news).toArray ++ Builtin.zeroCells z.cells (grownCap w (es.length + new.length) sCap e - (es.length + new.length))) = A at hrun
 have hfe := flat_length es i.size hes
 have hfn := flat_length new i.size hnew
 have hge := grownCap_ge w (es.length + new.length) sCap e
 have hlo : (olds ++ news).length = (es.length + new.length) * i.size := by
  rw [List.length_append, ← hro.1, ← hrn.1, hfe, hfn, Nat.add_mul]
 have hAs : A.size = (es.length + new.length) * i.size + (grownCap w (es.length + new.length) sCap e - (es.length + new.length)) * i.size := by
  rw [← hA, Array.size_append, size_zeroCells, hzl, List.size_toArray, hlo]
 obtain ⟨G', hG, hown, htok, I'⟩ := I.pushTok (c := A) (e := e) ((es.length + new.length) * i.size)
 refine ⟨_, _, G', hrun, hG, ⟨I', I.os, I.out⟩, ?_⟩
 have hall : ∀ v ∈ es ++ new, v.cells.length = i.size := by
  intro v hv
  rcases List.mem_append.1 hv with k | k
  ·exact hes v k
  ·exact hnew v k
 have hr := hro.append hrn
 rw [← List.flatMap_append] at hr
 have hget : ∀ (j : Nat) y, (olds ++ news)[j]? = some y → A[j]? = some y := by
  intro j y hy
  rw [← hA, Array.getElem?_append_left (by simpa using getElem?_lt hy)]
  simpa using hy
 refine .slice _ _ _ _ _ _ i.size (by simp) hall (by omega) (fun j hj => ?_) (fun j xx y hx hy => ?_) ?_
 ·rw [flat_length _ _ hall, List.length_append] at hj
  have : j < (olds ++ news).length := by omega
  exact ⟨_, by rw [Nat.zero_add]; exact hown j _ hj (hget j _ (List.getElem?_eq_getElem this))⟩
 ·obtain ⟨y', hy', hxy⟩ := hr.getElem hx
  have hj := getElem?_lt hy'
  rw [Nat.zero_add, hown j y' (by omega) (hget j y' hy')] at hy
  cases hy
  exact hxy.mono hG.toLe0
 ·refine ⟨rfl, w.heap.size, (es.length + new.length) * i.size, ?_, fun _ => ⟨rfl, by rw [Nat.zero_add]⟩⟩
  rw [htok]
  congr 3
  omega
/-- an append that makes a new array, of which an object is made -/
theorem growH_sound (H : EnvOk P E) (I : InvW E B h0 G S w) {t tx ty e : TypeId} {i : TI} (hd : E.desc t = some (.slice e)) (hi : E.ti e = some i) (h1 : i.size = 1) {es new : List AV} {base : Option Addr} {sCap : Nat} {olds news : List Value} {x : Value}
  (hes : ∀ v ∈ es, v.cells.length = i.size) (hnew : ∀ v ∈ new, v.cells.length = i.size) (hro : Reps G (es.flatMap AV.cells) olds) (hrn : Reps G (new.flatMap AV.cells) news)
  (hold : (Builtin.firstCells i.size es.length (.slice base es.length sCap)).run P w.drew = .ok olds.toArray w.drew) (hs : Src P i.size tx x new.length news w)
  (hg : sCap < es.length + new.length) (hroom : roomOk i (es.length + new.length) = true) :
  ∃ c w' G', (Builtin.append_ #[t, tx] ty #[.slice base es.length sCap, x]).run P w = .ok c w' ∧ G.Le G' ∧ InvW E B h0 G' ((S.push (.cells (es.flatMap AV.cells ++ new.flatMap AV.cells))).push (.tok false)) w' ∧ Rep G' (.rsl S.n 0 (es.length + new.length) 0) c := by
 obtain ⟨ie, z, q1, q2, q3, q4, q5, q6⟩ := (H.ti e i hi).info
 obtain ⟨r1, r2⟩ := roomOk_spec hroom
 have hzl : z.cells.size = i.size := by
  have := (q6 G).1
  rw [(H.ti e i hi).zl] at this
  simpa using this.symm
 have hfit : Builtin.nextslicecap (es.length + new.length) sCap * ie.bytes ≤ 281474976710656 := growslice_fits hg (by rw [q3]; omega)
 have hrun := run_append_grow_src (P := P) w t tx ty e ie z (H.desc hd) q1 q4 base es.length sCap olds (by rw [q2]; exact hold) x new.length news (by rw [q2]; exact hs) hg (by omega) hfit
 generalize hA : ((olds ++ news).toArray ++ Builtin.zeroCells z.cells (grownCap w (es.length + new.length) sCap e - (es.length + new.length))) = A at hrun
 have hfe := flat_length es i.size hes
 have hfn := flat_length new i.size hnew
 have hge := grownCap_ge w (es.length + new.length) sCap e
 have hlo : (olds ++ news).length = (es.length + new.length) * i.size := by
  rw [List.length_append, ← hro.1, ← hrn.1, hfe, hfn, Nat.add_mul]
 have hAs : A.size = (es.length + new.length) * i.size + (grownCap w (es.length + new.length) sCap e - (es.length + new.length)) * i.size := by
  rw [← hA, Array.size_append, size_zeroCells, hzl, List.size_toArray, hlo]
 have hr := hro.append hrn
 have hget : ∀ (j : Nat) y, (olds ++ news)[j]? = some y → A[j]? = some y := by
  intro j y hy
  rw [← hA, Array.getElem?_append_left (by simpa using getElem?_lt hy)]
  simpa using hy
 rw [h1, Nat.mul_one] at hfe hfn
 rw [h1, Nat.mul_one, Nat.mul_one] at hAs
 have hcl : (es.flatMap AV.cells ++ new.flatMap AV.cells).length = es.length + new.length := by rw [List.length_append, hfe, hfn]
 obtain ⟨G', hG, hobj, htok, I'⟩ := I.pushGrw (c := A) (e := e) hr hget (by rw [hcl]; omega)
 have hpos : 0 < es.length + new.length := by omega
 refine ⟨_, _, G', hrun, hG, ⟨I', I.os, I.out⟩, .grw _ _ _ _ _ hobj hpos hge ⟨rfl, w.heap.size, es.length + new.length, ?_, fun _ => ⟨rfl, by rw [Nat.zero_add]⟩⟩⟩
 rw [htok, hcl]
 congr 3
 omega
theorem Inv.spend (I : InvW E B h0 G S w) {j : Nat} (h : S.get j = some (.tok false)) : InvW E B h0 G (S.put j (.tok true)) w := by
 refine ⟨⟨I.old, I.size, I.imm, I.res, I.fresh, I.freshB, fun i o k => ?_, fun i hi => I.ids i hi, I.blkC, I.rm, I.ro, I.low⟩, I.os, I.out⟩
 by_cases hij : i = j
 ·subst hij
  rw [St.get_put_self _ _ _ (St.get_lt h)] at k
  cases k
  trivial
 ·rw [St.get_put_ne _ _ _ hij] at k
  exact I.objs i o k
theorem headSz_all {s sz : Nat} : ∀ {es : List AV}, headSz s es = true → (∀ v ∈ es, v.cells.length = sz) → ∀ v ∈ es, v.cells.length = s
 | [], _, _, v, hv => by simp at hv
 | x :: xs, h, hs, v, hv => by
  simp [headSz] at h
  rw [hs v hv, ← hs x (by simp), h]
theorem append_sound (H : EnvOk P E) (I : InvW E B h0 G S w) {t tx ty e e' : TypeId} {s x : AV} {c d : Value} {new : List AV} {v : AV} (hd : E.desc t = some (.slice e)) (hdx : E.desc tx = some (.slice e'))
  (hs : Rep G s c) (hx : Rep G x d) (he : elemsA E S e x = some new) (h : appendA E S e s new = some (v, S')) :
  ∃ r w' G', (Builtin.append_ #[t, tx] ty #[c, d]).run P w = .ok r w' ∧ G.Le G' ∧ InvW E B h0 G' S' w' ∧ Rep G' v r := by
 unfold appendA at h
 cases hi : E.ti e with
 | none => simp [hi] at h
 | some i =>
  simp only [hi] at h
  obtain ⟨ie, z, q1, q2, q3, q4, q5, q6⟩ := (H.ti e i hi).info
  split at h
  ·rename_i hcond
   obtain ⟨hc1, hc2, hc3⟩ := hcond
   have hnew : ∀ u ∈ new, u.cells.length = i.size := fun u hu => by simpa using List.all_eq_true.1 hc2 u hu
   obtain ⟨news, hrn, hsrc⟩ := elems_sound (P := P) H I hi he hx hc2 hc1 (H.desc hdx)
   have hfn := flat_length new i.size hnew
   split at h
   ·-- nil
    cases hs
    split at h
    ·cases h
     have hn0 : news = [] := List.eq_nil_of_length_eq_zero (by rw [← hrn.1]; rfl)
     refine ⟨.slice none 0 0, w, G, ?_, .refl G, I, .nils⟩
     have hl := hsrc.len
     have hcc := hsrc.cells
     subst hn0
     simp only [List.length_nil] at hl hcc
     rcases hsrc.kind with ⟨e'', hk⟩ | hk <;> simp [Builtin.append_, run_und (H.desc hd), run_und hk, sizeOf, typeInfo, q1, q2, hl, hcc]
    ·rename_i hne
     have hpos : 0 < new.length := by
      cases new with
      | nil => exact absurd rfl hne
      | cons a b => simp
     split at h
     ·rename_i hown
      split at h
      ·rename_i hroom
       cases h
       have := growH_sound (P := P) (tx := tx) (ty := ty) (es := []) (base := none) (sCap := 0) (olds := []) H I hd hi hown.2 (by simp) hnew (Reps.nil G) hrn (by simpa using run_firstCells_none w.drew i.size 0 0 0) hsrc (by simpa using hpos) (by simpa using hroom)
       simpa using this
      ·cases h
     split at h
     ·rename_i hroom
      cases h
      have := grow_sound (P := P) (tx := tx) (ty := ty) (es := []) (base := none) (sCap := 0) (olds := []) H I hd hi (by simp) hnew (Reps.nil G) hrn (by simpa using run_firstCells_none w.drew i.size 0 0 0) hsrc (by simpa using hpos) (by simpa using hroom)
      simpa using this
     ·cases h
   ·-- a value
    rename_i es tk
    rcases hs.slice_inv with ⟨rfl, rfl, ad, rfl⟩ | ⟨b, o, cap, sz, rfl, hsz, hcap, g1, g2, ht⟩
    ·split at h
     ·simp at h
     ·rw [if_neg (by rintro ⟨h, _⟩; cases h)] at h
      split at h
      ·simp [spend] at h
      ·cases h
    split at h
    ·split at h
     ·cases h
     cases h
     have hn0 : news = [] := List.eq_nil_of_length_eq_zero (by rw [← hrn.1]; rfl)
     subst hn0
     have hrun := run_append_room_src (P := P) w t tx ty e ie (H.desc hd) q1 b o es.length cap d 0 [] (by rw [q2]; exact hsrc) (by simpa using hcap) (by simp) (by simp)
     exact ⟨_, _, G, hrun, .refl G, I, by simpa using hs⟩
    ·rename_i hne
     have hpos : 0 < new.length := by
      cases new with
      | nil => exact absurd rfl hne
      | cons a b => simp
     split at h
     ·-- a literal of nothing
      rename_i hlit
      obtain ⟨rfl, hsz1⟩ := hlit
      split at h
      ·rename_i hem
       obtain ⟨hem, hroom⟩ := hem
       have hes0 : es = [] := by simpa using hem
       subst hes0
       cases h
       have hcap0 : cap = 0 := by have : cap - ([] : List AV).length = 0 := ht; simpa using this
       subst hcap0
       have := growH_sound (P := P) (tx := tx) (ty := ty) (es := []) (base := some ⟨b, o, none⟩) (sCap := 0) (olds := []) H I hd hi hsz1 (by simp) hnew (Reps.nil G) hrn
        (run_firstCells_some w.drew i.size 0 ⟨b, o, none⟩ 0 0 [] (by simp) (fun j u hu => by simp at hu)) hsrc (by simpa using hpos) (by simpa using hroom)
       simpa using this
      ·cases h
     rename_i hnlit
     split at h
     ·rename_i hroom
      obtain ⟨hhead, hroom⟩ := hroom
      have hes := headSz_all hhead hsz
      have hcell := imm_cells I g1 g2
      have hro := cells_reps hcell
      have hfe := flat_length es i.size hes
      have hold : (Builtin.firstCells i.size es.length (.slice (some ⟨b, o, none⟩) es.length cap)).run P w.drew = .ok (((List.range (es.flatMap AV.cells).length).map fun j => (cl w.heap b (o + j)).getD undef)).toArray w.drew :=
       run_firstCells_some w.drew i.size es.length ⟨b, o, none⟩ es.length cap _ (by simp only [List.length_map, List.length_range]; exact hfe) (fun j u hu => by rw [add_eq]; exact (cell?_eq w b (o + j)).trans (cells_cl hcell j u hu))
      cases hsp : spend S tk i.size with
      | none => simp [hsp] at h
      | some S1 =>
       simp only [hsp] at h
       cases h
       unfold spend at hsp
       have hn1 : S1.n = S.n := by
        split at hsp
        ·cases hsp; rfl
        ·cases hsp; rfl
        ·cases hsp
        ·split at hsp
         ·split at hsp
          ·cases hsp; rfl
          ·cases hsp
         ·cases hsp
       split at hsp
       ·-- full
        cases hsp
        have hcl : cap = es.length := by have : cap - es.length = 0 := ht; omega
        exact grow_sound (P := P) (tx := tx) (ty := ty) H I hd hi hes hnew hro hrn hold hsrc (by omega) hroom
       ·cases hsp
        have hcl : cap = es.length := by have : cap - es.length = 0 := ht; omega
        exact grow_sound (P := P) (tx := tx) (ty := ty) H I hd hi hes hnew hro hrn hold hsrc (by omega) hroom
       ·cases hsp
       ·rename_i j ss
        split at hsp
        ·rename_i hSj
         split at hsp
         ·rename_i hss
          cases hsp
          subst hss
          obtain ⟨hsz', b', e1, ht1, ht2⟩ := ht
          subst hsz'
          by_cases hfit : es.length + new.length ≤ cap
          ·-- in place
           have hroomz : (cap - es.length) * i.size ≠ 0 := Nat.mul_ne_zero (by omega) hc3
           obtain ⟨rfl, rfl⟩ := ht2 hroomz
           obtain ⟨b2, s2, n2, k1, k2⟩ := I.objs j _ hSj
           rw [ht1] at k1; cases k1
           have hnl : news.length = new.length * i.size := by rw [← hrn.1, hfn]
           have hle : news.length ≤ (cap - es.length) * i.size := by rw [hnl]; exact Nat.mul_le_mul_right _ (by omega)
           have hcs : ∀ j, j < news.length → (w.cell? ⟨b', o + es.length * i.size + j, none⟩).isSome = true ∧ w.frozen? ⟨b', o + es.length * i.size + j, none⟩ = false := by
            intro j hj
            obtain ⟨_, _, ⟨c, k3⟩, k4⟩ := k2 j (by omega)
            rw [cell?_eq, frozen?_eq, k3, k4]
            exact ⟨rfl, rfl⟩
           have hrun := run_append_room_src (P := P) w t tx ty e ie (H.desc hd) q1 b' o es.length cap d new.length news (by rw [q2]; exact hsrc) hfit (by rw [q2]; exact fun j hj => (hcs j hj).1) (by rw [q2]; exact fun j hj => (hcs j hj).2)
           rw [q2] at hrun
           have W : Wrote w.heap (w.setCells b' (o + es.length * i.size) news).heap b' (o + es.length * i.size) news := wrote_setCells (w := w) (b := b') (s := o + es.length * i.size) (vs := news) (fun j hj => (hcs j hj).1)
           obtain ⟨G', hG, hown, htok, I'⟩ := Inv.tokAppend I.toInv hSj ht1 hle W
           refine ⟨_, w.setCells b' (o + es.length * i.size) news, G', hrun, hG, ⟨I', by rw [World.os_setCells']; exact I.os, by rw [World.out_setCells']; exact I.out⟩, ?_⟩
           have hall : ∀ v ∈ es ++ new, v.cells.length = i.size := by
            intro v hv
            rcases List.mem_append.1 hv with k | k
            ·exact hes v k
            ·exact hnew v k
           refine Rep.slice (G := G') (es ++ new) (.tok S.n i.size) b' o (es.length + new.length) cap i.size (by simp) hall hfit (fun j hj => ?_) (fun j xx y hx hy => ?_) ?_
           ·rw [List.flatMap_append, List.length_append, hfe, hfn] at hj
            by_cases hj1 : j < es.length * i.size
            ·obtain ⟨y, hy⟩ := g1 j (by omega)
             exact ⟨y, hG.imm _ _ _ hy⟩
            ·have hlt : j - es.length * i.size < news.length := by omega
             have := hown (j - es.length * i.size) _ (List.getElem?_eq_getElem hlt)
             rw [show o + es.length * i.size + (j - es.length * i.size) = o + j from by omega] at this
             exact ⟨_, this⟩
           ·rw [List.flatMap_append] at hx
            by_cases hj1 : j < es.length * i.size
            ·rw [List.getElem?_append_left (by omega)] at hx
             obtain ⟨y', hy'⟩ := g1 j (by omega)
             have := hG.imm _ _ _ hy'
             rw [this] at hy
             cases hy
             exact (g2 j xx _ hx hy').mono hG.toLe0
            ·rw [List.getElem?_append_right (by omega), hfe] at hx
             obtain ⟨y', hy', hxy⟩ := hrn.getElem hx
             have := hown (j - es.length * i.size) _ hy'
             have hlt := getElem?_lt hy'
             rw [show o + es.length * i.size + (j - es.length * i.size) = o + j from by omega, hy] at this
             cases this
             exact hxy.mono hG.toLe0
           ·refine ⟨rfl, b', o + es.length * i.size + news.length, ?_, fun _ => ⟨rfl, by rw [hnl, Nat.add_mul]; omega⟩⟩
            show G'.tok S.n = _
            rw [htok, hnl, ← Nat.sub_mul, show cap - es.length - new.length = cap - (es.length + new.length) from by omega]
          ·have := grow_sound (P := P) (tx := tx) (ty := ty) H (Inv.spend I hSj) hd hi hes hnew hro hrn hold hsrc (by omega) hroom
           exact this
         ·cases hsp
        ·cases hsp
     ·cases h
   ·-- an object
    rename_i id off len cap
    have hso := hs
    obtain ⟨b, o, cap', hG, rfl, hlc', hor⟩ := hs.rsl_inv
    split at h
    ·rename_i hfit
     have hcc : cap = cap' := by omega
     subst hcc
     split at h
     ·rename_i cs hcs
      split at h
      ·rename_i hle
       cases h
       have hget := cells?_inv hcs
       obtain ⟨b', o', k1, k2, k4⟩ := I.objs id _ hget
       rw [hG] at k1; cases k1
       have hnl : news.length = new.length * i.size := by rw [← hrn.1, hfn]
       have hmul : (len + new.length) * i.size = len * i.size + new.length * i.size := Nat.add_mul _ _ _
       have hcc : ∀ j, j < news.length → (w.cell? ⟨b, o + off + len * i.size + j, none⟩).isSome = true ∧ w.frozen? ⟨b, o + off + len * i.size + j, none⟩ = false := by
        intro j hj
        obtain ⟨_, ⟨c, k5, _⟩, k6⟩ := k4 (off + len * i.size + j) _ (List.getElem?_eq_getElem (show off + len * i.size + j < cs.length by omega))
        rw [cell?_eq, frozen?_eq, show o + off + len * i.size + j = o + (off + len * i.size + j) from by omega, k5, k6]
        exact ⟨rfl, rfl⟩
       have hrun := run_append_room_src (P := P) w t tx ty e ie (H.desc hd) q1 b (o + off) len cap d new.length news (by rw [q2]; exact hsrc) hfit (by rw [q2]; exact fun j hj => (hcc j hj).1) (by rw [q2]; exact fun j hj => (hcc j hj).2)
       rw [q2] at hrun
       have W := wrote_setCells (w := w) (b := b) (s := o + off + len * i.size) (vs := news) (fun j hj => (hcc j hj).1)
       have hfl : (new.flatMap AV.cells).length = new.length * i.size := hfn
       have I' := I.store (off := off + len * i.size) hget hG (by omega) hrn (by rw [← Nat.add_assoc]; exact W)
       exact ⟨_, w.setCells b (o + off + len * i.size) news, G, hrun, .refl G, ⟨I', by rw [World.os_setCells']; exact I.os, by rw [World.out_setCells']; exact I.out⟩, .rsl _ _ _ _ _ _ hG hfit⟩
      ·cases h
     ·cases h
    ·rename_i hfit
     split at h
     ·-- it grows
      rename_i hz
      obtain ⟨hz1, hz2⟩ := hz
      split at h
      ·rename_i cs hcs hT
       split at h
       ·rename_i hcond
        obtain ⟨hoff, hsz1, hne, hcl, hall, hroom⟩ := hcond
        cases h
        subst hoff
        obtain ⟨_, _, _, ht⟩ : 0 = 0 ∧ cap = 0 ∧ 0 < len ∧ TkOk G (.tok (id + 1) 1) b (o + len) (cap' - len) 1 := by
         rcases hor with h | h
         ·omega
         ·exact h
        obtain ⟨_, b1, e1, ht1, ht2⟩ := ht
        rw [Nat.mul_one] at ht1 ht2
        have hget := cells?_inv hcs
        have hnl : news.length = new.length := by rw [← hrn.1, hfn, hsz1, Nat.mul_one]
        have hnv : news ≠ [] := fun e => by rw [e] at hnl; simp at hnl; omega
        by_cases hin : len + new.length ≤ cap'
        ·obtain ⟨rfl, rfl⟩ := ht2 (by omega)
         obtain ⟨b2, s2, n2, k1, k2⟩ := I.objs (id + 1) _ hT
         rw [ht1] at k1; cases k1
         have hcs2 : ∀ j, j < news.length → (w.cell? ⟨b1, o + len + j, none⟩).isSome = true ∧ w.frozen? ⟨b1, o + len + j, none⟩ = false := by
          intro j hj
          obtain ⟨_, _, ⟨c, k3⟩, k4⟩ := k2 j (by omega)
          rw [cell?_eq, frozen?_eq, k3, k4]
          exact ⟨rfl, rfl⟩
         have hrun := run_append_room_src (P := P) w t tx ty e ie (H.desc hd) q1 b1 o len cap' d new.length news (by rw [q2]; exact hsrc) hin (by rw [q2, hsz1, Nat.mul_one]; exact fun j hj => (hcs2 j hj).1) (by rw [q2, hsz1, Nat.mul_one]; exact fun j hj => (hcs2 j hj).2)
         rw [q2, hsz1, Nat.mul_one] at hrun
         have W : Wrote w.heap (w.setCells b1 (o + len) news).heap b1 (o + len) news := wrote_setCells (w := w) (b := b1) (s := o + len) (vs := news) (fun j hj => (hcs2 j hj).1)
         rw [← hcl] at ht1 W
         obtain ⟨G', hG', hobj, htok, I'⟩ := Inv.moveIn I.toInv hget hG hT ht1 (by omega) hrn W hnv
         refine ⟨_, w.setCells b1 (o + len) news, G', by simpa using hrun, hG', ⟨by rw [hcl] at I'; exact I', by rw [World.os_setCells']; exact I.os, by rw [World.out_setCells']; exact I.out⟩, ?_⟩
         refine .grw _ _ _ _ _ hobj (by omega) hin ⟨rfl, b1, o + len + news.length, ?_, fun _ => ⟨rfl, by omega⟩⟩
         rw [htok, hcl]
         congr 3
         omega
        ·have hel : elemsA E S e (.rsl id 0 len cap) = some (chop i.agg i.size len cs) := by
          unfold elemsA
          simp only [hi, hcs, List.drop_zero, hsz1, Nat.mul_one, Nat.zero_add]
          rw [if_pos ⟨by omega, by rw [List.take_of_length_le (by omega)]; exact hall⟩]
         have hl1 : len * i.size ≤ cs.length := by rw [hsz1]; omega
         have htk : cs.take (len * i.size) = cs := List.take_of_length_le (by rw [hsz1]; omega)
         have hflat := chop_flat (agg := i.agg) (s := i.size) (fun ha => (H.ti e i hi).one ha) len cs hl1 (by rw [htk]; exact hall)
         have hes := chop_sizes (agg := i.agg) (s := i.size) (fun ha => (H.ti e i hi).one ha) len cs hl1 (by rw [htk]; exact hall)
         have hlen0 : (chop i.agg i.size len cs).length = len := chop_length ..
         obtain ⟨olds, hro, hso'⟩ := elems_sound (P := P) H I hi hel hso (by rw [List.all_eq_true]; intro v hv; simpa using hes v hv) (by rw [hflat, htk]; exact hall) (H.desc hd)
         have hold := hso'.cellsD
         rw [htk] at hflat
         have Ig : InvW E B h0 G ((S.put id (.cells [])).put (id + 1) (.tok true)) w := ⟨(I.toInv.gone hget).spent (by rw [St.get_put_ne _ _ _ (by omega)]; exact hT), I.os, I.out⟩
         rw [hlen0] at hold
         have := growH_sound (P := P) (tx := tx) (ty := ty) (base := some ⟨b, o + 0, none⟩) (sCap := cap') H Ig hd hi hsz1 hes hnew hro hrn (by rw [hlen0]; exact hold) hsrc (by rw [hlen0]; omega) (by rw [hlen0]; exact hroom)
         rw [hflat, hlen0] at this
         simpa [St.n_put] using this
       ·cases h
      ·cases h
     rename_i hnz
     have hcc : cap = cap' := by omega
     subst hcc
     cases hel : elemsA E S e (.rsl id off len cap) with
     | none => simp [hel] at h
     | some es =>
      simp only [hel] at h
      split at h
      ·rename_i hroom
       cases h
       have hel' := hel
       unfold elemsA at hel
       cases hcs : S.cells? id with
       | none => simp [hi, hcs] at hel
       | some cs =>
        simp only [hi, hcs] at hel
        split at hel
        ·rename_i hck
         have hes0 : chop i.agg i.size len (cs.drop off) = es := by simpa using hel
         have hlen0 : len = es.length := by rw [← hes0, chop_length]
         have hl1 : len * i.size ≤ (cs.drop off).length := by rw [List.length_drop]; omega
         have hflat := chop_flat (agg := i.agg) (s := i.size) (fun ha => (H.ti e i hi).one ha) len (cs.drop off) hl1 hck.2
         have hes : ∀ v ∈ es, v.cells.length = i.size := by
          rw [← hes0]
          exact chop_sizes (fun ha => (H.ti e i hi).one ha) len (cs.drop off) hl1 hck.2
         obtain ⟨olds, hro, hso'⟩ := elems_sound (P := P) H I hi hel' hso (by rw [List.all_eq_true]; intro v hv; simpa using hes v hv) (by rw [← hes0, hflat]; exact hck.2) (H.desc hd)
         have hold := hso'.cellsD
         rw [hlen0] at hold hfit ⊢
         exact grow_sound (P := P) (tx := tx) (ty := ty) H I hd hi hes hnew hro hrn hold hsrc (by omega) hroom
        ·cases hel
      ·cases h
   ·cases h
  ·cases h
theorem run_copy_src {P : Program} (w : World) (t tx ty e : TypeId) (i : TypeInfo) (ht : P.underlying t = some (.slice e)) (hi : P.info? e = some i) (b off sLen sCap : Nat) (x : Value) (n : Nat) (news : List Value) (hs : Src P i.size tx x n news w)
  (hn : n ≤ sLen) (hc : ∀ j, j < news.length → (w.cell? ⟨b, off + j, none⟩).isSome = true) (hf : ∀ j, j < news.length → w.frozen? ⟨b, off + j, none⟩ = false) :
  (Builtin.copy_ #[t, tx] ty #[.slice (some ⟨b, off, none⟩) sLen sCap, x]).run P w = .ok (goInt n) (w.setCells b off news) := by
 have hst := run_storeCells_cells (P := P) b off news 0 w (by simpa using hc) (by simpa using hf) hs.one
 simp only [Nat.add_zero] at hst
 have hmin : Nat.min n sLen = n := Nat.min_eq_left hn
 simp [Builtin.copy_, run_underlying ht, sizeOf, typeInfo, hi, hs.len, hmin, hs.cells, hst]
theorem copy_sound (H : EnvOk P E) (I : InvW E B h0 G S w) {t tx ty e e' : TypeId} {s x : AV} {c d : Value} {new : List AV} (hd : E.desc t = some (.slice e)) (hdx : E.desc tx = some (.slice e'))
  (hs : Rep G s c) (hx : Rep G x d) (he : elemsA E S e x = some new) (h : copyA E S e s new = some S') :
  ∃ w', (Builtin.copy_ #[t, tx] ty #[c, d]).run P w = .ok (goInt new.length) w' ∧ InvW E B h0 G S' w' := by
 unfold copyA at h
 split at h
 ·rename_i i id off len cap hi
  obtain ⟨ie, z, q1, q2, q3, q4, q5, q6⟩ := (H.ti e i hi).info
  split at h
  ·rename_i hcond
   obtain ⟨hc1, hc2, hc3⟩ := hcond
   have hnew : ∀ u ∈ new, u.cells.length = i.size := fun u hu => by simpa using List.all_eq_true.1 hc2 u hu
   obtain ⟨news, hrn, hsrc⟩ := elems_sound (P := P) H I hi he hx hc2 hc1 (H.desc hdx)
   have hfn := flat_length new i.size hnew
   obtain ⟨b, o, cap', hG, rfl, _, _⟩ := hs.rsl_inv
   split at h
   ·rename_i cs hcs
    split at h
    ·rename_i hle
     cases h
     have hget := cells?_inv hcs
     obtain ⟨b', o', k1, k2, k4⟩ := I.objs id _ hget
     rw [hG] at k1; cases k1
     have hnl : news.length = new.length * i.size := by rw [← hrn.1, hfn]
     have hcc : ∀ j, j < news.length → (w.cell? ⟨b, o + off + j, none⟩).isSome = true ∧ w.frozen? ⟨b, o + off + j, none⟩ = false := by
      intro j hj
      obtain ⟨_, ⟨c, k5, _⟩, k6⟩ := k4 (off + j) _ (List.getElem?_eq_getElem (show off + j < cs.length by omega))
      rw [cell?_eq, frozen?_eq, show o + off + j = o + (off + j) from by omega, k5, k6]
      exact ⟨rfl, rfl⟩
     have hrun := run_copy_src (P := P) w t tx ty e ie (H.desc hd) q1 b (o + off) len cap' d new.length news (by rw [q2]; exact hsrc) hc3 (fun j hj => (hcc j hj).1) (fun j hj => (hcc j hj).2)
     have W := wrote_setCells (w := w) (b := b) (s := o + off) (vs := news) (fun j hj => (hcc j hj).1)
     have I' := I.store (off := off) hget hG (by omega) hrn W
     exact ⟨w.setCells b (o + off) news, hrun, ⟨I', by rw [World.os_setCells']; exact I.os, by rw [World.out_setCells']; exact I.out⟩⟩
    ·cases h
   ·cases h
  ·cases h
 ·cases h
end Go.Vm
