/-
The hull of the program. No conditions.
-/
import Derived.Test.YtpjcmiaanjcanaaGreatDoorValG
set_option linter.all false

namespace Go.Proofs.YtpjcmiaanjcanaaGreatDoor
open Go Go.Vm Go.Vm.T
set_option maxRecDepth 100000
set_option linter.unusedSimpArgs false
set_option linter.unusedVariables false
attribute [local simp] inFrame startLoc startVals Loc.clear blockC Loc.putO Loc.put idx evO constV Loc.get Vm.look intA unwindA resultsA resultV actA pureA storeA loadA fillE repElems TI.zeroV fieldOf fieldAddrA fieldA elemsA retE cellsOf? setCells nowhere

/-! vectors -/
def crs (a b : Int × Int) : Int := a.1 * b.2 - a.2 * b.1
def dt (a b : Int × Int) : Int := a.1 * b.1 + a.2 * b.2
def sb (a b : Int × Int) : Int × Int := (a.1 - b.1, a.2 - b.2)
def rgt (p q r : Int × Int) : Int := (q.1 - p.1) * (r.2 - p.2) - (q.2 - p.2) * (r.1 - p.1)
def far (p q : Int × Int) : Int := (q.1 - p.1) * (q.1 - p.1) + (q.2 - p.2) * (q.2 - p.2)
def Half (u d : Int × Int) : Prop := 0 < crs u d ∨ (crs u d = 0 ∧ dt u d < 0)

theorem sq_nonneg (x : Int) : 0 ≤ x * x := by
  rcases Int.le_total 0 x with h | h
  · exact Int.mul_nonneg h h
  · exact Int.mul_nonneg_of_nonpos_of_nonpos h h
theorem sq_zero {x : Int} (h : x * x = 0) : x = 0 := by
  rcases Int.mul_eq_zero.1 h with h | h <;> exact h
theorem dt_nonneg (a : Int × Int) : 0 ≤ dt a a := by
  have h1 := sq_nonneg a.1
  have h2 := sq_nonneg a.2
  unfold dt
  omega
theorem dt_zero {a : Int × Int} (h : dt a a = 0) : a = (0, 0) := by
  have h1 := sq_nonneg a.1
  have h2 := sq_nonneg a.2
  unfold dt at h
  exact Prod.ext (sq_zero (by omega)) (sq_zero (by omega))
theorem dt_pos {a : Int × Int} (h : a ≠ (0, 0)) : 0 < dt a a := by
  have := dt_nonneg a
  rcases Int.lt_or_eq_of_le this with k | k
  · exact k
  · exact absurd (dt_zero k.symm) h

theorem Half.ne {u d : Int × Int} (h : Half u d) : d ≠ (0, 0) := by
  intro e
  subst e
  unfold Half crs dt at h
  simp at h
theorem Half.nonneg {u d : Int × Int} (h : Half u d) : 0 ≤ crs u d := by
  rcases h with h | h <;> omega
theorem Half.une {u d : Int × Int} (h : Half u d) : u ≠ (0, 0) := by
  intro e
  subst e
  unfold Half crs dt at h
  simp at h

theorem id_plu (u a b c : Int × Int) : crs a c * crs u b = crs a b * crs u c + crs b c * crs u a := by
  unfold crs; grind
theorem id_crs (a b c : Int × Int) : crs b c * dt a a = crs a c * dt a b - crs a b * dt a c := by
  unfold crs dt; grind
theorem id_dt (a b c : Int × Int) : dt b c * dt a a = dt a b * dt a c + crs a b * crs a c := by
  unfold crs dt; grind
theorem crs_comm (a b : Int × Int) : crs a b = - crs b a := by unfold crs; grind

theorem pos_of_mul {x y : Int} (h : 0 < x * y) (hx : 0 < x) : 0 < y := by
  rcases Int.lt_or_le 0 y with k | k
  · exact k
  · have := Int.mul_nonneg (show 0 ≤ x by omega) (show 0 ≤ -y by omega)
    rw [Int.mul_neg] at this
    omega
theorem nonneg_of_mul {x y : Int} (h : 0 ≤ x * y) (hx : 0 < x) : 0 ≤ y := by
  rcases Int.lt_or_le y 0 with k | k
  · have := Int.mul_pos hx (show 0 < -y by omega)
    rw [Int.mul_neg] at this
    omega
  · exact k
theorem zero_of_mul {x y : Int} (h : x * y = 0) (hx : 0 < x) : y = 0 := by
  rcases Int.mul_eq_zero.1 h with k | k
  · omega
  · exact k

/-- around a point: from one direction to the next, and on -/
theorem half_trans {u a b c : Int × Int} (ha : Half u a) (hb : Half u b) (hc : Half u c) (h1 : 0 ≤ crs a b) (h2 : 0 ≤ crs b c) : 0 ≤ crs a c := by
  have hp := id_plu u a b c
  have k1 := Int.mul_nonneg h1 hc.nonneg
  have k2 := Int.mul_nonneg h2 ha.nonneg
  rcases hb with hb | ⟨hb, hb'⟩
  · exact nonneg_of_mul (x := crs u b) (by rw [Int.mul_comm]; omega) hb
  · -- b is against u
    have hu := dt_pos ha.une
    have e1 := id_crs u b c
    rw [hb] at e1
    have e2 := Int.mul_nonneg h2 (show 0 ≤ dt u u by omega)
    have e3 := Int.mul_nonneg hc.nonneg (show 0 ≤ - dt u b by omega)
    rw [Int.mul_neg] at e3
    have e4 : crs u c * dt u b = 0 := by omega
    have e5 : crs u c = 0 := by
      rcases Int.mul_eq_zero.1 e4 with k | k
      · exact k
      · omega
    have hc' : dt u c < 0 := by
      rcases hc with k | k
      · omega
      · exact k.2
    have f1 := id_crs u a c
    rw [e5] at f1
    have f2 := Int.mul_nonneg ha.nonneg (show 0 ≤ - dt u c by omega)
    rw [Int.mul_neg] at f2
    exact nonneg_of_mul (x := dt u u) (by rw [Int.mul_comm]; omega) hu

theorem half_strict {u a b c : Int × Int} (ha : Half u a) (hb : Half u b) (hc : Half u c) (h1 : 0 < crs a b) (h2 : 0 ≤ crs b c) : 0 < crs a c := by
  have h0 := half_trans ha hb hc (by omega) h2
  rcases Int.lt_or_eq_of_le h0 with k | k
  · exact k
  · exfalso
    -- a and c are on one line, hence b is, too
    have e1 := id_crs a b c
    have e2 := id_crs c a b
    have hca : crs c a = 0 := by rw [crs_comm]; omega
    have hu := dt_pos ha.une
    -- a and c have one direction
    have f1 := id_crs u a c
    have g1 : crs u c * dt u a = crs u a * dt u c := by rw [← k] at f1; omega
    have hp := id_plu u a b c
    rw [← k] at hp
    have k1 := Int.mul_nonneg (show 0 ≤ crs a b by omega) hc.nonneg
    have k2 := Int.mul_nonneg h2 ha.nonneg
    have z1 : crs a b * crs u c = 0 := by omega
    have z2 : crs u c = 0 := zero_of_mul z1 h1
    have hc' : dt u c < 0 := by
      rcases hc with k | k
      · omega
      · exact k.2
    rw [z2] at g1
    have z3 : crs u a = 0 := by
      have : crs u a * dt u c = 0 := by omega
      rcases Int.mul_eq_zero.1 this with k | k
      · exact k
      · omega
    have ha' : dt u a < 0 := by
      rcases ha with k | k
      · omega
      · exact k.2
    have e5 := id_crs u a b
    rw [z3] at e5
    have e6 := Int.mul_pos h1 hu
    have e7 := Int.mul_nonneg hb.nonneg (show 0 ≤ - dt u a by omega)
    rw [Int.mul_neg] at e7
    omega

theorem line_trans {a b c : Int × Int} (ha : a ≠ (0, 0)) (h1 : crs a b = 0) (h2 : crs a c = 0) : crs b c = 0 := by
  have := id_crs a b c
  rw [h1, h2] at this
  exact zero_of_mul (x := dt a a) (by rw [Int.mul_comm]; omega) (dt_pos ha)

/-- on one line, in one half: in one direction -/
theorem half_dt {u a b : Int × Int} (ha : Half u a) (hb : Half u b) (h : crs a b = 0) : 0 ≤ dt a b := by
  have hu := dt_pos ha.une
  have e1 := id_dt u a b
  have e2 := Int.mul_nonneg ha.nonneg hb.nonneg
  have f1 := id_crs u a b
  rw [h] at f1
  refine nonneg_of_mul (x := dt u u) ?_ hu
  rw [Int.mul_comm, e1]
  rcases ha with ha | ⟨ha, ha'⟩
  · rcases hb with hb | ⟨hb, hb'⟩
    · -- dt u a and dt u b have the same sign
      have g1 : crs u b * dt u a = crs u a * dt u b := by omega
      have g2 := Int.mul_pos ha hb
      rcases Int.lt_or_le 0 (dt u a) with k | k
      · have := Int.mul_pos hb k
        have := pos_of_mul (x := crs u a) (y := dt u b) (by omega) ha
        have := Int.mul_pos k this
        omega
      · have h3 := Int.mul_nonneg (show 0 ≤ crs u b by omega) (show 0 ≤ - dt u a by omega)
        rw [Int.mul_neg] at h3
        have h4 := nonneg_of_mul (x := crs u a) (y := - dt u b) (by rw [Int.mul_neg]; omega) ha
        have h5 := Int.mul_nonneg (show 0 ≤ - dt u a by omega) h4
        rw [Int.neg_mul_neg] at h5
        omega
    · rw [hb] at f1
      have : crs u a * dt u b = 0 := by omega
      rcases Int.mul_eq_zero.1 this with k | k <;> omega
  · have hb0 : crs u b = 0 := by
      rw [ha] at f1
      have : crs u b * dt u a = 0 := by omega
      rcases Int.mul_eq_zero.1 this with k | k <;> omega
    have hb' : dt u b < 0 := by
      rcases hb with k | k
      · omega
      · exact k.2
    have := Int.mul_pos (show 0 < - dt u a by omega) (show 0 < - dt u b by omega)
    rw [Int.neg_mul_neg] at this
    omega

theorem half_eq {u a b : Int × Int} (ha : Half u a) (hb : Half u b) (h : crs a b = 0) (hd : dt a a = dt b b) : a = b := by
  have h0 := half_dt ha hb h
  have hp := dt_pos ha.ne
  have e1 : dt a b * dt a b + crs a b * crs a b = dt a a * dt b b := by unfold dt crs; grind
  rw [h, ← hd] at e1
  have e2 : (dt a b - dt a a) * (dt a b + dt a a) = 0 := by grind
  have e3 : dt a b = dt a a := by
    rcases Int.mul_eq_zero.1 e2 with k | k <;> omega
  have e4 : dt (sb a b) (sb a b) = dt a a + dt b b - 2 * dt a b := by unfold dt sb; grind
  have := dt_zero (a := sb a b) (by omega)
  unfold sb at this
  simp only [Prod.mk.injEq] at this
  exact Prod.ext (by omega) (by omega)

theorem rgt_eq (p q r : Int × Int) : rgt p q r = crs (sb q p) (sb r p) := rfl
theorem far_eq (p q : Int × Int) : far p q = dt (sb q p) (sb q p) := rfl
theorem sb_ne {a b : Int × Int} (h : a ≠ b) : sb a b ≠ (0, 0) := by
  intro e
  unfold sb at e
  simp only [Prod.mk.injEq] at e
  exact h (Prod.ext (by omega) (by omega))
theorem sb_inj {a b c : Int × Int} (h : sb a c = sb b c) : a = b := by
  unfold sb at h
  simp only [Prod.mk.injEq] at h
  exact Prod.ext (by omega) (by omega)

/-! the next corner -/
def Best (l : List (Int × Int)) (p q : Int × Int) : Prop := q ∈ l ∧ q ≠ p ∧ ∀ r ∈ l, r ≠ p → 0 < rgt p q r ∨ (rgt p q r = 0 ∧ far p r ≤ far p q)
def Around (l : List (Int × Int)) (p : Int × Int) : Prop := ∃ u, ∀ r ∈ l, r ≠ p → Half u (sb r p)

theorem Best.nonneg {l : List (Int × Int)} {p q r : Int × Int} (h : Best l p q) (hr : r ∈ l) : 0 ≤ rgt p q r := by
  by_cases e : r = p
  · subst e; unfold rgt; grind
  · rcases h.2.2 r hr e with k | k <;> omega

theorem Best.half {l : List (Int × Int)} {p q : Int × Int} (h : Best l p q) : ∀ r ∈ l, r ≠ q → Half (sb q p) (sb r q) := by
  intro r hr hne
  have e1 : crs (sb q p) (sb r q) = rgt p q r := by unfold crs sb rgt; grind
  have e2 : dt (sb q p) (sb r q) = dt (sb q p) (sb r p) - dt (sb q p) (sb q p) := by unfold dt sb; grind
  have hq := dt_pos (sb_ne h.2.1)
  unfold Half
  rw [e1]
  by_cases e : r = p
  · subst e
    right
    refine ⟨by unfold rgt; grind, ?_⟩
    rw [e2]
    have : dt (sb q r) (sb r r) = 0 := by unfold dt sb; grind
    omega
  · rcases h.2.2 r hr e with k | ⟨k1, k2⟩
    · exact .inl k
    · right
      refine ⟨k1, ?_⟩
      rw [e2]
      have h3 := dt_pos (sb_ne hne)
      have h4 : dt (sb r q) (sb r q) = far p r + far p q - 2 * dt (sb q p) (sb r p) := by unfold dt sb far; grind
      have h5 : dt (sb q p) (sb q p) = far p q := rfl
      omega
theorem Best.around {l : List (Int × Int)} {p q : Int × Int} (h : Best l p q) : Around l q := ⟨_, h.half⟩

theorem Best.unique {l : List (Int × Int)} {p q q' : Int × Int} (ha : Around l p) (h : Best l p q) (h' : Best l p q') : q = q' := by
  obtain ⟨u, hu⟩ := ha
  have e1 : rgt p q q' = - rgt p q' q := crs_comm (sb q p) (sb q' p)
  have k1 := h.nonneg h'.1
  have k2 := h'.nonneg h.1
  have z1 : rgt p q q' = 0 := by omega
  have f1 := h.2.2 q' h'.1 h'.2.1
  have f2 := h'.2.2 q h.1 h.2.1
  have : far p q = far p q' := by omega
  exact sb_inj (half_eq (hu q h.1 h.2.1) (hu q' h'.1 h'.2.1) z1 this)

def nob : Int × Int := (1099511627776, 1099511627776)
def stepH (p q r : Int × Int) : Int × Int := if r = p then q else if q = nob then r else if rgt p q r < 0 ∨ (rgt p q r = 0 ∧ far p q < far p r) then r else q
def nextH (l : List (Int × Int)) (p : Int × Int) : Int × Int := l.foldl (stepH p) nob

theorem next_snoc (l : List (Int × Int)) (r p : Int × Int) : nextH (l ++ [r]) p = stepH p (nextH l p) r := by simp [nextH]

theorem next_best : ∀ (n : Nat) {l : List (Int × Int)} {p : Int × Int}, l.length = n → Around l p → nob ∉ l → (nextH l p = nob ∧ ∀ r ∈ l, r = p) ∨ (nextH l p ≠ nob ∧ Best l p (nextH l p))
  | 0, l, p, hl, _, _ => by
    have := List.length_eq_zero_iff.1 hl
    subst this
    exact .inl ⟨rfl, by simp⟩
  | n + 1, l, p, hl, ha, hn => by
    obtain ⟨m, r, rfl⟩ : ∃ m r, l = m ++ [r] := by
      have hne : l ≠ [] := by intro e; subst e; simp at hl
      exact ⟨l.dropLast, l.getLast hne, (List.dropLast_concat_getLast hne).symm⟩
    obtain ⟨u, hu⟩ := ha
    have hrn : r ≠ nob := fun e => hn (by simp [e])
    have ih := next_best n (l := m) (p := p) (by simpa using hl) ⟨u, fun x hx => hu x (by simp [hx])⟩ (fun h => hn (by simp [h]))
    rw [next_snoc]
    unfold stepH
    by_cases hrp : r = p
    · rw [if_pos hrp]
      rcases ih with ⟨k1, k2⟩ | ⟨k1, k2⟩
      · refine .inl ⟨k1, fun x hx => ?_⟩
        rcases List.mem_append.1 hx with hx | hx
        · exact k2 x hx
        · rw [List.mem_singleton.1 hx]; exact hrp
      · refine .inr ⟨k1, by simp [k2.1], k2.2.1, fun x hx hxp => ?_⟩
        rcases List.mem_append.1 hx with hx | hx
        · exact k2.2.2 x hx hxp
        · rw [List.mem_singleton.1 hx] at hxp; exact absurd hrp hxp
    · rw [if_neg hrp]
      rcases ih with ⟨k1, k2⟩ | ⟨k1, k2⟩
      · rw [if_pos k1]
        refine .inr ⟨hrn, by simp, hrp, fun x hx hxp => ?_⟩
        rcases List.mem_append.1 hx with hx | hx
        · exact absurd (k2 x hx) hxp
        · rw [List.mem_singleton.1 hx]
          right
          exact ⟨by unfold rgt; grind, Int.le_refl _⟩
      · rw [if_neg k1]
        have hq := hu (nextH m p) (by simp [k2.1]) k2.2.1
        have hr := hu r (by simp) hrp
        generalize nextH m p = q at *
        have hqr : rgt p r q = - rgt p q r := crs_comm (sb r p) (sb q p)
        by_cases hs : rgt p q r < 0 ∨ (rgt p q r = 0 ∧ far p q < far p r)
        · rw [if_pos hs]
          refine .inr ⟨hrn, by simp, hrp, fun x hx hxp => ?_⟩
          rcases List.mem_append.1 hx with hx | hx
          · have hxu := hu x (by simp [hx]) hxp
            have hqx := k2.nonneg hx
            rcases hs with hs | ⟨hs1, hs2⟩
            · left
              exact half_strict hr hq hxu (by rw [← rgt_eq]; omega) hqx
            · have h1 := half_trans hr hq hxu (by rw [← rgt_eq]; omega) hqx
              rw [← rgt_eq] at h1
              rcases Int.lt_or_eq_of_le h1 with h1 | h1
              · exact .inl h1
              · right
                refine ⟨h1.symm, ?_⟩
                have h2 : rgt p q x = 0 := by
                  have := line_trans hr.ne (b := sb q p) (c := sb x p) (by rw [← rgt_eq]; omega) (by rw [← rgt_eq]; omega)
                  rw [rgt_eq]; exact this
                rcases k2.2.2 x hx hxp with k | ⟨_, k⟩
                · omega
                · omega
          · rw [List.mem_singleton.1 hx]
            right
            exact ⟨by unfold rgt; grind, Int.le_refl _⟩
        · rw [if_neg hs]
          refine .inr ⟨k1, by simp [k2.1], k2.2.1, fun x hx hxp => ?_⟩
          rcases List.mem_append.1 hx with hx | hx
          · exact k2.2.2 x hx hxp
          · rw [List.mem_singleton.1 hx]
            have := not_or.1 hs
            by_cases h0 : rgt p q r = 0
            · right
              refine ⟨h0, ?_⟩
              have := fun k => this.2 ⟨h0, k⟩
              omega
            · left; omega

/-! the way around -/
abbrev lxl (a b : Int × Int) : Prop := a.1 < b.1 ∨ (a.1 = b.1 ∧ a.2 < b.2)
theorem lx_total {a b : Int × Int} (h : a ≠ b) : lxl a b ∨ lxl b a := by
  by_cases h1 : a.1 = b.1
  · have : a.2 ≠ b.2 := fun h2 => h (Prod.ext h1 h2)
    unfold lxl; omega
  · unfold lxl; omega
theorem lx_ne {a b : Int × Int} (h : lxl a b) : a ≠ b := by
  intro e; subst e; unfold lxl at h; omega
theorem half_lx {a b : Int × Int} (h : lxl a b) : Half (0, -1) (sb b a) := by
  unfold Half crs dt sb
  simp only
  unfold lxl at h
  omega

theorem turn_vec {v d e f : Int × Int} (hd : Half v d) (he : Half v e) (hf : Half v f) (h1 : 0 ≤ crs d e) (h2 : 0 ≤ crs e f) (h3 : 0 ≤ crs f d) : crs d e = 0 ∧ 0 ≤ dt d e := by
  have := half_trans he hf hd h2 h3
  have e1 := crs_comm d e
  have h0 : crs d e = 0 := by omega
  exact ⟨h0, half_dt hd he h0⟩

theorem turnA {l : List (Int × Int)} {p q q' t : Int × Int} (h : Best l p q) (hpq : lxl p q) (ht : t ∈ l) (hg : ∀ r ∈ l, ¬ lxl t r) (hqt : q ≠ t) (h' : Best l q q') : lxl q q' := by
  have hq := lx_total h'.2.1
  rcases hq with hq | hq
  · exfalso
    have hqt' : lxl q t := by
      rcases lx_total hqt with k | k
      · exact k
      · exact absurd k (hg q h.1)
    have e1 : crs (sb q p) (sb t q) = rgt p q t := by unfold crs sb rgt; grind
    have e2 : crs (sb t q) (sb q q') = rgt q q' t := by unfold crs sb rgt; grind
    have e3 : crs (sb q q') (sb q p) = rgt p q q' := by unfold crs sb rgt; grind
    obtain ⟨k1, k2⟩ := turn_vec (half_lx hpq) (half_lx hqt') (half_lx hq) (by rw [e1]; exact h.nonneg ht) (by rw [e2]; exact h'.nonneg ht) (by rw [e3]; exact h.nonneg h'.1)
    have htp : t ≠ p := fun e => by subst e; unfold lxl at hpq hqt'; omega
    have hE := dt_pos (sb_ne (Ne.symm hqt))
    have hf : far p t = far p q + 2 * dt (sb q p) (sb t q) + dt (sb t q) (sb t q) := by unfold far dt sb; grind
    rcases h.2.2 t ht htp with k | ⟨_, k⟩ <;> omega
  · exact hq

theorem turnB {l : List (Int × Int)} {p q q' t : Int × Int} (h : Best l p q) (hpq : lxl q p) (ht : t ∈ l) (hg : ∀ r ∈ l, ¬ lxl r t) (hqt : q ≠ t) (h' : Best l q q') : lxl q' q := by
  have hq := lx_total h'.2.1
  rcases hq with hq | hq
  · exact hq
  · exfalso
    have hqt' : lxl t q := by
      rcases lx_total hqt with k | k
      · exact absurd k (hg q h.1)
      · exact k
    have e1 : crs (sb p q) (sb q t) = rgt p q t := by unfold crs sb rgt; grind
    have e2 : crs (sb q t) (sb q' q) = rgt q q' t := by unfold crs sb rgt; grind
    have e3 : crs (sb q' q) (sb p q) = rgt p q q' := by unfold crs sb rgt; grind
    obtain ⟨k1, k2⟩ := turn_vec (half_lx hpq) (half_lx hqt') (half_lx hq) (by rw [e1]; exact h.nonneg ht) (by rw [e2]; exact h'.nonneg ht) (by rw [e3]; exact h.nonneg h'.1)
    have htp : t ≠ p := fun e => by subst e; unfold lxl at hpq hqt'; omega
    have hE := dt_pos (sb_ne hqt)
    have hf : far p t = far p q + 2 * dt (sb p q) (sb q t) + dt (sb q t) (sb q t) := by unfold far dt sb; grind
    rcases h.2.2 t ht htp with k | ⟨_, k⟩ <;> omega

inductive Walk (l : List (Int × Int)) (s : Int × Int) : Int × Int → List (Int × Int) → Prop
  | stop {p : Int × Int} (h : nextH l p = nob ∨ nextH l p = s) : Walk l s p [p]
  | step {p : Int × Int} {vs : List (Int × Int)} (h1 : nextH l p ≠ nob) (h2 : nextH l p ≠ s) (h3 : Walk l s (nextH l p) vs) : Walk l s p (p :: vs)

theorem Walk.head {l : List (Int × Int)} {s p : Int × Int} {vs : List (Int × Int)} (h : Walk l s p vs) : ∃ t, vs = p :: t := by
  cases h with
  | stop _ => exact ⟨_, rfl⟩
  | step _ _ _ => exact ⟨_, rfl⟩

def Bnd (l : List (Int × Int)) : Prop := ∀ r ∈ l, (-8191 ≤ r.1 ∧ r.1 ≤ 8191) ∧ (-8191 ≤ r.2 ∧ r.2 ≤ 8191)
theorem Bnd.nob {l : List (Int × Int)} (h : Bnd l) : nob ∉ l := fun k => by
  have := h _ k
  unfold Go.Proofs.YtpjcmiaanjcanaaGreatDoor.nob at this
  simp at this

def leastS (s p : Int × Int) : Int × Int := if p.1 < s.1 ∨ (p.1 = s.1 ∧ p.2 < s.2) then p else s
def startH (l : List (Int × Int)) : Int × Int := l.foldl leastS nob

theorem start_snoc (l : List (Int × Int)) (r : Int × Int) : startH (l ++ [r]) = leastS (startH l) r := by simp [startH]

theorem start_ok : ∀ (n : Nat) {l : List (Int × Int)}, l.length = n → Bnd l → l = [] ∨ (startH l ∈ l ∧ ∀ r ∈ l, ¬ lxl r (startH l))
  | 0, l, hl, _ => .inl (List.length_eq_zero_iff.1 hl)
  | n + 1, l, hl, hb => by
    obtain ⟨m, r, rfl⟩ : ∃ m r, l = m ++ [r] := by
      have hne : l ≠ [] := by intro e; subst e; simp at hl
      exact ⟨l.dropLast, l.getLast hne, (List.dropLast_concat_getLast hne).symm⟩
    right
    have hr := hb r (by simp)
    rw [start_snoc]
    unfold leastS
    rcases start_ok n (l := m) (by simpa using hl) (fun x hx => hb x (by simp [hx])) with k | ⟨k1, k2⟩
    · subst k
      rw [if_pos (by left; unfold startH nob; simp; omega)]
      exact ⟨by simp, fun x hx => by
        have := List.mem_singleton.1 hx
        subst this
        unfold lxl; omega⟩
    · by_cases h : r.1 < (startH m).1 ∨ (r.1 = (startH m).1 ∧ r.2 < (startH m).2)
      · rw [if_pos h]
        refine ⟨by simp, fun x hx => ?_⟩
        rcases List.mem_append.1 hx with hx | hx
        · have := k2 x hx
          unfold lxl at this ⊢; omega
        · rw [List.mem_singleton.1 hx]; unfold lxl; omega
      · rw [if_neg h]
        refine ⟨by simp [k1], fun x hx => ?_⟩
        rcases List.mem_append.1 hx with hx | hx
        · exact k2 x hx
        · rw [List.mem_singleton.1 hx]; exact h

theorem greatP_ok : ∀ {l : List (Int × Int)}, l ≠ [] → ∃ t ∈ l, ∀ r ∈ l, ¬ lxl t r
  | [], h => absurd rfl h
  | a :: m, _ => by
    by_cases hm : m = []
    · subst hm
      exact ⟨a, by simp, fun r hr => by rw [List.mem_singleton.1 hr]; unfold lxl; omega⟩
    · obtain ⟨t, ht, hg⟩ := greatP_ok hm
      by_cases h : lxl t a
      · refine ⟨a, by simp, fun r hr => ?_⟩
        rcases List.mem_cons.1 hr with rfl | hr
        · unfold lxl; omega
        · have := hg r hr
          unfold lxl at h this ⊢; omega
      · refine ⟨t, by simp [ht], fun r hr => ?_⟩
        rcases List.mem_cons.1 hr with rfl | hr
        · exact h
        · exact hg r hr

theorem filt_lt {l : List (Int × Int)} {f g : Int × Int → Bool} (h : ∀ x, f x = true → g x = true) {y : Int × Int} (hy : y ∈ l) (h1 : g y = true) (h2 : f y = false) : (l.filter f).length < (l.filter g).length := by
  have hle : ∀ m : List (Int × Int), (m.filter f).length ≤ (m.filter g).length := by
    intro m
    induction m with
    | nil => simp
    | cons a m ih =>
      simp only [List.filter_cons]
      by_cases hf : f a = true
      · rw [if_pos hf, if_pos (h a hf)]; simpa using ih
      · rw [if_neg hf]
        split
        · simp only [List.length_cons]; omega
        · exact ih
  induction l with
  | nil => simp at hy
  | cons a m ih =>
    simp only [List.filter_cons]
    rcases List.mem_cons.1 hy with rfl | hy
    · rw [if_neg (by rw [h2]; decide), if_pos h1]
      have := hle m
      simp only [List.length_cons]; omega
    · have := ih hy
      by_cases hf : f a = true
      · rw [if_pos hf, if_pos (h a hf)]; simpa using this
      · rw [if_neg hf]
        split
        · simp only [List.length_cons]; omega
        · exact this

theorem next_is {l : List (Int × Int)} {p x : Int × Int} (hb : Bnd l) (ha : Around l p) (hx : x ∈ l) (hxp : x ≠ p) : nextH l p ≠ nob ∧ Best l p (nextH l p) := by
  rcases next_best l.length rfl ha hb.nob with ⟨_, k⟩ | k
  · exact absurd (k x hx) hxp
  · exact k

theorem walkB {l : List (Int × Int)} {s : Int × Int} (hb : Bnd l) (hs : s ∈ l) (hl : ∀ r ∈ l, ¬ lxl r s) : ∀ (n : Nat) (p : Int × Int), (l.filter fun r => decide (lxl r p)).length ≤ n → nextH l p ≠ nob → Best l p (nextH l p) → lxl (nextH l p) p → p ∈ l →
    ∃ vs, Walk l s p vs ∧ (∀ v ∈ vs, v ∈ l ∧ Best l v (nextH l v) ∧ lxl (nextH l v) v ∧ ¬ lxl p v) ∧ vs.Nodup := by
  intro n
  induction n with
  | zero =>
    intro p hn _ hq hqp _
    have := List.length_eq_zero_iff.1 (Nat.le_zero.1 hn)
    rw [List.filter_eq_nil_iff] at this
    exact absurd (decide_eq_true hqp) (this _ hq.1)
  | succ n ih =>
    intro p hn hnb hq hqp hp
    by_cases hqs : nextH l p = s
    · exact ⟨[p], .stop (.inr hqs), fun v hv => by
        rw [List.mem_singleton.1 hv]
        exact ⟨hp, hq, hqp, by unfold lxl; omega⟩, by simp⟩
    · obtain ⟨k1, k2⟩ := next_is hb hq.around hs (Ne.symm hqs)
      have hlt := turnB hq hqp hs hl hqs k2
      have hm : (l.filter fun r => decide (lxl r (nextH l p))).length < (l.filter fun r => decide (lxl r p)).length :=
        filt_lt (fun x hx => by have := of_decide_eq_true hx; exact decide_eq_true (by unfold lxl at *; omega)) hq.1 (decide_eq_true hqp) (decide_eq_false (by unfold lxl; omega))
      obtain ⟨vs, h1, h2, h3⟩ := ih (nextH l p) (by omega) k1 k2 hlt hq.1
      refine ⟨p :: vs, .step hnb hqs h1, fun v hv => ?_, ?_⟩
      · rcases List.mem_cons.1 hv with rfl | hv
        · exact ⟨hp, hq, hqp, by unfold lxl; omega⟩
        · obtain ⟨m1, m2, m3, m4⟩ := h2 v hv
          exact ⟨m1, m2, m3, fun k => by unfold lxl at *; omega⟩
      · rw [List.nodup_cons]
        refine ⟨fun hv => ?_, h3⟩
        obtain ⟨m1, m2, m3, m4⟩ := h2 p hv
        exact m4 hqp

theorem walkA {l : List (Int × Int)} {s t : Int × Int} (hb : Bnd l) (hs : s ∈ l) (hl : ∀ r ∈ l, ¬ lxl r s) (ht : t ∈ l) (hg : ∀ r ∈ l, ¬ lxl t r) : ∀ (n : Nat) (p : Int × Int), (l.filter fun r => decide (lxl p r)).length ≤ n → nextH l p ≠ nob → Best l p (nextH l p) → lxl p (nextH l p) → p ∈ l →
    ∃ vs, Walk l s p vs ∧ (∀ v ∈ vs, v ∈ l ∧ Best l v (nextH l v) ∧ (lxl (nextH l v) v ∨ (lxl v (nextH l v) ∧ ¬ lxl v p))) ∧ vs.Nodup := by
  intro n
  induction n with
  | zero =>
    intro p hn _ hq hqp _
    have := List.length_eq_zero_iff.1 (Nat.le_zero.1 hn)
    rw [List.filter_eq_nil_iff] at this
    exact absurd (decide_eq_true hqp) (this _ hq.1)
  | succ n ih =>
    intro p hn hnb hq hqp hp
    have hqs : nextH l p ≠ s := fun e => by rw [e] at hqp; exact hl p hp hqp
    have fin : ∀ vs, Walk l s (nextH l p) vs → (∀ v ∈ vs, v ∈ l ∧ Best l v (nextH l v) ∧ (lxl (nextH l v) v ∨ (lxl v (nextH l v) ∧ ¬ lxl v (nextH l p)))) → vs.Nodup →
        ∃ vs, Walk l s p vs ∧ (∀ v ∈ vs, v ∈ l ∧ Best l v (nextH l v) ∧ (lxl (nextH l v) v ∨ (lxl v (nextH l v) ∧ ¬ lxl v p))) ∧ vs.Nodup := by
      intro vs h1 h2 h3
      refine ⟨p :: vs, .step hnb hqs h1, fun v hv => ?_, ?_⟩
      · rcases List.mem_cons.1 hv with rfl | hv
        · exact ⟨hp, hq, .inr ⟨hqp, by unfold lxl; omega⟩⟩
        · obtain ⟨m1, m2, m3⟩ := h2 v hv
          refine ⟨m1, m2, ?_⟩
          rcases m3 with m3 | ⟨m3, m4⟩
          · exact .inl m3
          · exact .inr ⟨m3, fun k => by unfold lxl at *; omega⟩
      · rw [List.nodup_cons]
        refine ⟨fun hv => ?_, h3⟩
        obtain ⟨m1, m2, m3⟩ := h2 p hv
        rcases m3 with m3 | ⟨m3, m4⟩
        · unfold lxl at *; omega
        · exact m4 hqp
    by_cases hqt : nextH l p = t
    · obtain ⟨k1, k2⟩ := next_is hb hq.around hs (Ne.symm hqs)
      have hlt : lxl (nextH l (nextH l p)) (nextH l p) := by
        rcases lx_total k2.2.1 with k | k
        · exact k
        · rw [hqt] at k; exact absurd k (hg _ (by rw [hqt] at k2; exact k2.1))
      obtain ⟨vs, h1, h2, h3⟩ := walkB hb hs hl _ (nextH l p) (Nat.le_refl _) k1 k2 hlt hq.1
      exact fin vs h1 (fun v hv => by obtain ⟨m1, m2, m3, _⟩ := h2 v hv; exact ⟨m1, m2, .inl m3⟩) h3
    · obtain ⟨k1, k2⟩ := next_is hb hq.around ht (Ne.symm hqt)
      have hlt := turnA hq hqp ht hg hqt k2
      have hm : (l.filter fun r => decide (lxl (nextH l p) r)).length < (l.filter fun r => decide (lxl p r)).length :=
        filt_lt (fun x hx => by have := of_decide_eq_true hx; exact decide_eq_true (by unfold lxl at *; omega)) hq.1 (decide_eq_true hqp) (decide_eq_false (by unfold lxl; omega))
      obtain ⟨vs, h1, h2, h3⟩ := ih (nextH l p) (by omega) k1 k2 hlt hq.1
      exact fin vs h1 h2 h3

/-- the corners, one behind the other -/
structure Hull (l vs : List (Int × Int)) : Prop where
  walk : Walk l (startH l) (startH l) vs
  mem : ∀ v ∈ vs, v ∈ l
  nodup : vs.Nodup
  start : startH l ∈ l
  least : ∀ r ∈ l, ¬ lxl r (startH l)
  all : ((∀ r ∈ l, r = startH l) ∧ vs = [startH l]) ∨ ((∃ r ∈ l, r ≠ startH l) ∧ ∀ v ∈ vs, Best l v (nextH l v) ∧ Around l v)

theorem start_around {l : List (Int × Int)} (h : ∀ r ∈ l, ¬ lxl r (startH l)) : Around l (startH l) := ⟨(0, -1), fun r hr hne => half_lx (by
  rcases lx_total hne with k | k
  · exact absurd k (h r hr)
  · exact k)⟩

theorem hull_ok {l : List (Int × Int)} (hb : Bnd l) (hne : l ≠ []) : ∃ vs, Hull l vs := by
  rcases start_ok l.length rfl hb with k | ⟨hs, hl⟩
  · exact absurd k hne
  obtain ⟨t, ht, hg⟩ := greatP_ok hne
  have ha := start_around hl
  rcases next_best l.length rfl ha hb.nob with ⟨k1, k2⟩ | ⟨k1, k2⟩
  · exact ⟨[startH l], .stop (.inl k1), fun v hv => by rw [List.mem_singleton.1 hv]; exact hs, by simp, hs, hl, .inl ⟨k2, rfl⟩⟩
  · have hlt : lxl (startH l) (nextH l (startH l)) := by
      rcases lx_total k2.2.1 with k | k
      · exact absurd k (hl _ k2.1)
      · exact k
    obtain ⟨vs, h1, h2, h3⟩ := walkA hb hs hl ht hg _ (startH l) (Nat.le_refl _) k1 k2 hlt hs
    refine ⟨vs, h1, fun v hv => (h2 v hv).1, h3, hs, hl, .inr ⟨⟨_, k2.1, k2.2.1⟩, fun v hv => ⟨(h2 v hv).2.1, ?_⟩⟩⟩
    -- around each corner
    have : ∀ p vs, Walk l (startH l) p vs → Around l p → (∀ v ∈ vs, Best l v (nextH l v)) → ∀ v ∈ vs, Around l v := by
      intro p vs hw
      induction hw with
      | stop h => intro hp _ v hv; rw [List.mem_singleton.1 hv]; exact hp
      | step n1 n2 n3 ih =>
        intro hp hB v hv
        rcases List.mem_cons.1 hv with rfl | hv
        · exact hp
        · exact ih (hB _ (by simp)).around (fun w hw => hB w (by simp [hw])) v hv
    exact this _ _ h1 ha (fun w hw => (h2 w hw).2.1) v hv

theorem Hull.has {l vs : List (Int × Int)} (hb : Bnd l) (h : Hull l vs) {v : Int × Int} (hv : v ∈ vs) (h1 : ∃ r ∈ l, r ≠ startH l) : nextH l v ≠ nob := by
  rcases h.all with ⟨k, _⟩ | ⟨_, k⟩
  · obtain ⟨r, hr, hn⟩ := h1
    exact absurd (k r hr) hn
  · exact fun e => hb.nob (by rw [← e]; exact (k v hv).1.1)

/-- one behind the other, and back -/
theorem walk_cyc {l : List (Int × Int)} {s : Int × Int} : ∀ {p : Int × Int} {vs : List (Int × Int)}, Walk l s p vs → (∀ v ∈ vs, nextH l v ≠ nob) → ∀ i (h : i < vs.length), nextH l vs[i] = if h : i + 1 < vs.length then vs[i + 1] else s := by
  intro p vs hw
  induction hw with
  | stop h =>
    intro hn i hi
    have : i = 0 := by simpa using hi
    subst this
    rcases h with h | h
    · exact absurd h (hn _ (by simp))
    · simpa using h
  | @step p vs n1 n2 n3 ih =>
    intro hn i hi
    cases i with
    | zero =>
      obtain ⟨t, rfl⟩ := n3.head
      simp
    | succ i =>
      have := ih (fun v hv => hn v (by simp [hv])) i (by simpa using hi)
      simp only [List.getElem_cons_succ, List.length_cons, Nat.add_lt_add_iff_right]
      exact this

theorem Hull.cyc {l vs : List (Int × Int)} (hb : Bnd l) (h : Hull l vs) (h2 : 1 < vs.length) {i : Nat} (hi : i < vs.length) : nextH l vs[i] = vs[(i + 1) % vs.length]'(Nat.mod_lt _ (by omega)) := by
  have hm : ∃ r ∈ l, r ≠ startH l := by
    rcases h.all with ⟨_, k⟩ | ⟨k, _⟩
    · rw [k] at h2; simp at h2
    · exact k
  have hc := walk_cyc h.walk (fun v hv => h.has hb hv hm) i hi
  rw [hc]
  split
  · rename_i k
    simp only [Nat.mod_eq_of_lt k]
  · rename_i k
    have : i + 1 = vs.length := by omega
    simp only [this, Nat.mod_self]
    obtain ⟨t, ht⟩ := h.walk.head
    simp [ht]

theorem Hull.best {l vs : List (Int × Int)} (h : Hull l vs) (h2 : 1 < vs.length) {v : Int × Int} (hv : v ∈ vs) : Best l v (nextH l v) ∧ Around l v := by
  rcases h.all with ⟨_, k⟩ | ⟨_, k⟩
  · rw [k] at h2; simp at h2
  · exact k v hv

theorem Hull.pos {l vs : List (Int × Int)} (h : Hull l vs) : 0 < vs.length := by
  obtain ⟨t, ht⟩ := h.walk.head
  rw [ht]; simp
theorem Hull.first {l vs : List (Int × Int)} (h : Hull l vs) : vs[0]'h.pos = startH l := by
  obtain ⟨t, ht⟩ := h.walk.head
  simp [ht]

/-- no three corners on one line -/
theorem Hull.strict {l vs : List (Int × Int)} (hb : Bnd l) (h : Hull l vs) (h3 : 2 < vs.length) {p : Int × Int} (hp : p ∈ vs) (hq : nextH l p ∈ vs) : 0 < rgt p (nextH l p) (nextH l (nextH l p)) := by
  obtain ⟨b1, _⟩ := h.best (by omega) hp
  obtain ⟨b2, _⟩ := h.best (by omega) hq
  generalize nextH l p = q at *
  have h0 := b1.nonneg b2.1
  rcases Int.lt_or_eq_of_le h0 with k | k
  · exact k
  · exfalso
    have hh := b1.half _ b2.1 b2.2.1
    generalize nextH l q = r at *
    have e0 : crs (sb q p) (sb r q) = rgt p q r := by unfold crs sb rgt; grind
    have hd : dt (sb q p) (sb r q) < 0 := by
      rcases hh with h' | ⟨_, h'⟩
      · omega
      · exact h'
    have hz : ∀ x ∈ l, crs (sb q p) (sb x q) = 0 := by
      intro x hx
      have k1 := b1.nonneg hx
      have k2 := b2.nonneg hx
      have e1 : crs (sb q p) (sb x q) = rgt p q x := by unfold crs sb rgt; grind
      have e2 : crs (sb r q) (sb x q) = rgt q r x := rfl
      have e3 := id_crs (sb q p) (sb r q) (sb x q)
      rw [e0, ← k] at e3
      have hp := dt_nonneg (sb q p)
      have m1 := Int.mul_nonneg (show 0 ≤ crs (sb r q) (sb x q) by omega) hp
      have m2 := Int.mul_nonneg (show 0 ≤ crs (sb q p) (sb x q) by omega) (show 0 ≤ - dt (sb q p) (sb r q) by omega)
      rw [Int.mul_neg] at m2
      have : crs (sb q p) (sb x q) * dt (sb q p) (sb r q) = 0 := by omega
      rcases Int.mul_eq_zero.1 this with k | k
      · exact k
      · omega
    have hne := sb_ne b1.2.1
    have hline : ∀ x y z, x ∈ l → y ∈ l → z ∈ l → crs (sb y x) (sb z x) = 0 := by
      intro x y z hx hy hz'
      have k1 := hz x hx
      have k2 := hz y hy
      have k3 := hz z hz'
      refine line_trans hne (b := sb y x) (c := sb z x) ?_ ?_
      · have : crs (sb q p) (sb y x) = crs (sb q p) (sb y q) - crs (sb q p) (sb x q) := by unfold crs sb; grind
        omega
      · have : crs (sb q p) (sb z x) = crs (sb q p) (sb z q) - crs (sb q p) (sb x q) := by unfold crs sb; grind
        omega
    obtain ⟨t, ht, hg⟩ := greatP_ok (l := l) (List.ne_nil_of_mem h.start)
    have hs0 : startH l ∈ vs := by
      obtain ⟨t, ht⟩ := h.walk.head
      rw [ht]; simp
    obtain ⟨c1, _⟩ := h.best (by omega) hs0
    have hlt : lxl (startH l) (nextH l (startH l)) := by
      rcases lx_total c1.2.1 with k | k
      · exact absurd k (h.least _ c1.1)
      · exact k
    have n1 : nextH l (startH l) = t := by
      rcases Classical.em (nextH l (startH l) = t) with e | e
      · exact e
      · exfalso
        have hsl := h.start
        generalize nextH l (startH l) = a at *
        generalize startH l = s at *
        have hat : lxl a t := by
          rcases lx_total e with k | k
          · exact k
          · exact absurd k (hg a c1.1)
        have z1 := hline a s t c1.1 hsl ht
        have z2 : crs (sb a s) (sb t a) = 0 := by
          have : crs (sb a s) (sb t a) = - crs (sb s a) (sb t a) := by unfold crs sb; grind
          omega
        have z3 := half_dt (half_lx hlt) (half_lx hat) z2
        have hts : t ≠ s := fun e' => by subst e'; unfold lxl at hlt hat; omega
        have hf : far s t = far s a + 2 * dt (sb a s) (sb t a) + dt (sb t a) (sb t a) := by unfold far dt sb; grind
        have hE := dt_pos (sb_ne (Ne.symm e))
        have z4 : rgt s a t = 0 := hline s a t hsl c1.1 ht
        rcases c1.2.2 t ht hts with k | ⟨_, k⟩ <;> omega
    have hw := h.walk
    have hl3 := h3
    generalize hvs : vs = ws at hw
    cases hw with
    | stop _ => subst hvs; simp at hl3
    | @step _ ws1 a1 a2 a3 =>
      rw [n1] at a3 a2
      have htv : t ∈ vs := by
        obtain ⟨t', ht'⟩ := a3.head
        rw [hvs, ht']; simp
      obtain ⟨c2, _⟩ := h.best (by omega) htv
      have hlt2 : lxl (nextH l t) t := by
        rcases lx_total c2.2.1 with k | k
        · exact k
        · exact absurd k (hg _ c2.1)
      have n2 : nextH l t = startH l := by
        rcases Classical.em (nextH l t = startH l) with e | e
        · exact e
        · exfalso
          have hsl := h.start
          have hle := h.least
          generalize nextH l t = a at *
          generalize startH l = s at *
          have hat : lxl s a := by
            rcases lx_total e with k | k
            · exact absurd k (hle a c2.1)
            · exact k
          have z1 := hline a t s c2.1 ht hsl
          have z2 : crs (sb t a) (sb a s) = 0 := by
            have : crs (sb t a) (sb a s) = - crs (sb t a) (sb s a) := by unfold crs sb; grind
            omega
          have z3 := half_dt (half_lx hlt2) (half_lx hat) z2
          have hts : s ≠ t := fun e' => by subst e'; unfold lxl at hlt2 hat; omega
          have hf : far t s = far t a + 2 * dt (sb t a) (sb a s) + dt (sb a s) (sb a s) := by unfold far dt sb; grind
          have hE := dt_pos (sb_ne e)
          have z4 : rgt t a s = 0 := hline t a s ht c2.1 hsl
          rcases c2.2.2 s hsl hts with k | ⟨_, k⟩ <;> omega
      cases a3 with
      | stop _ => rw [hvs] at hl3; simp at hl3
      | step b1 b2 b3 => exact b2 n2

/-- points among them all corners lie have the same corners -/
theorem Hull.same {l l' vs : List (Int × Int)} (hb : Bnd l) (h : Hull l vs) (h1 : ∀ r ∈ l', r ∈ l) (h2 : ∀ v ∈ vs, v ∈ l') : Hull l' vs := by
  have hb' : Bnd l' := fun r hr => hb r (h1 r hr)
  have hs0 : startH l ∈ vs := by
    obtain ⟨t, ht⟩ := h.walk.head
    rw [ht]; simp
  have hs' := h2 _ hs0
  have hst : startH l' = startH l := by
    rcases start_ok l'.length rfl hb' with k | ⟨k1, k2⟩
    · rw [k] at hs'; simp at hs'
    · rcases Classical.em (startH l' = startH l) with e | e
      · exact e
      · rcases lx_total e with k | k
        · exact absurd k (h.least _ (h1 _ k1))
        · exact absurd k (k2 _ hs')
  rcases h.all with ⟨k1, k2⟩ | ⟨k1, k2⟩
  · have hn : nextH l' (startH l) = nob := by
      have ha : Around l' (startH l) := ⟨(0, 0), fun r hr hne => absurd (k1 r (h1 r hr)) hne⟩
      rcases next_best l'.length rfl ha hb'.nob with ⟨k, _⟩ | ⟨_, k⟩
      · exact k
      · exact absurd (k1 _ (h1 _ k.1)) k.2.1
    subst k2
    refine ⟨by rw [hst]; exact .stop (.inl hn), h2, by simp, by rw [hst]; exact hs', fun r hr => by rw [hst]; exact h.least r (h1 r hr), .inl ⟨fun r hr => by rw [hst]; exact k1 r (h1 r hr), by rw [hst]⟩⟩
  · -- the next corner is the same
    have hne : ∀ v ∈ vs, nextH l v ∈ vs := by
      have hlen : 1 < vs.length := by
        have hw := h.walk
        obtain ⟨r, hr, hrn⟩ := k1
        cases hvs : vs with
        | nil => rw [hvs] at hs0; simp at hs0
        | cons a t =>
          cases t with
          | cons b t => simp
          | nil =>
            exfalso
            rw [hvs] at hw
            generalize hg : [a] = w at hw
            cases hw with
            | stop h' =>
              rcases h' with h' | h'
              · exact h.has hb hs0 ⟨r, hr, hrn⟩ h'
              · exact (k2 _ hs0).1.2.1 h'
            | step _ _ h' =>
              obtain ⟨t, ht⟩ := h'.head
              rw [ht] at hg
              simp at hg
      intro v hv
      obtain ⟨i, hi, rfl⟩ := List.getElem_of_mem hv
      rw [h.cyc hb hlen hi]
      exact List.getElem_mem _
    have hnx : ∀ v ∈ vs, nextH l' v = nextH l v := by
      intro v hv
      obtain ⟨c1, u, c2⟩ := k2 v hv
      have ha : Around l' v := ⟨u, fun r hr hn => c2 r (h1 r hr) hn⟩
      have hin := h2 _ (hne v hv)
      obtain ⟨_, m2⟩ := next_is hb' ha hin c1.2.1
      exact m2.unique ha ⟨hin, c1.2.1, fun r hr hrn => c1.2.2 r (h1 r hr) hrn⟩
    have hw : ∀ p ws, Walk l (startH l) p ws → (∀ v ∈ ws, v ∈ vs) → Walk l' (startH l) p ws := by
      intro p ws hw
      induction hw with
      | stop h' => intro hm; exact .stop (by rw [hnx _ (hm _ (by simp))]; exact h')
      | step n1 n2 n3 ih =>
        intro hm
        have e := hnx _ (hm _ (List.mem_cons_self ..))
        refine .step (by rw [e]; exact n1) (by rw [e]; exact n2) ?_
        rw [e]
        exact ih (fun v hv => hm v (by simp [hv]))
    refine ⟨by rw [hst]; exact hw _ _ h.walk (fun v hv => hv), h2, h.nodup, by rw [hst]; exact hs', fun r hr => by rw [hst]; exact h.least r (h1 r hr), .inr ⟨⟨nextH l (startH l), h2 _ (hne _ hs0), by rw [hst]; exact (k2 _ hs0).1.2.1⟩, fun v hv => ?_⟩⟩
    obtain ⟨c1, u, c2⟩ := k2 v hv
    rw [hnx v hv]
    exact ⟨⟨h2 _ (hne v hv), c1.2.1, fun r hr hrn => c1.2.2 r (h1 r hr) hrn⟩, u, fun r hr hn => c2 r (h1 r hr) hn⟩

theorem Walk.unique {l : List (Int × Int)} {s p : Int × Int} {vs ws : List (Int × Int)} (h : Walk l s p vs) : Walk l s p ws → vs = ws := by
  induction h generalizing ws with
  | stop h1 =>
    intro h2
    cases h2 with
    | stop _ => rfl
    | step n1 n2 _ => rcases h1 with h1 | h1 <;> contradiction
  | step n1 n2 n3 ih =>
    intro h2
    cases h2 with
    | stop h1 => rcases h1 with h1 | h1 <;> contradiction
    | step _ _ m3 => rw [ih m3]

end Go.Proofs.YtpjcmiaanjcanaaGreatDoor

namespace Go.Proofs.YtpjcmiaanjcanaaGreatDoor
open Go Go.Vm Go.Vm.T
set_option maxRecDepth 100000
set_option linter.unusedSimpArgs false
set_option linter.unusedVariables false
attribute [local simp] inFrame startLoc startVals Loc.clear blockC Loc.putO Loc.put idx evO constV Loc.get Vm.look intA unwindA resultsA resultV actA pureA storeA loadA fillE repElems TI.zeroV fieldOf fieldAddrA fieldA elemsA retE cellsOf? setCells nowhere

set_option maxHeartbeats 4000000

theorem eqA_int (d : Nat) (a b : Int) : eqA ED (d + 1) 3 (.int .i64 a) (.int .i64 b) = some (decide (a = b)) := rfl
theorem eqA_duo (d : Nat) (a b c e : Int) : eqA ED (d + 2) 97 (.agg [.int .i64 a, .int .i64 b]) (.agg [.int .i64 c, .int .i64 e]) = some (decide ((a, b) = (c, e))) := by
  have h : eqA ED (d + 2) 97 (.agg [.int .i64 a, .int .i64 b]) (.agg [.int .i64 c, .int .i64 e]) = eqF ED (eqA ED (d + 1)) [.int .i64 a, .int .i64 b] [.int .i64 c, .int .i64 e] [⟨"x", 3, 0, false, "", "sheafworks/libg", 0⟩, ⟨"y", 3, 1, false, "", "sheafworks/libg", 8⟩] := rfl
  rw [h]
  have h1 : ∀ x y : Int, partA ED 3 [.int .i64 x, .int .i64 y] 0 = some (.int .i64 x) := fun _ _ => rfl
  have h2 : ∀ x y : Int, partA ED 3 [.int .i64 x, .int .i64 y] 1 = some (.int .i64 y) := fun _ _ => rfl
  have hx : ("x" : String) ≠ "_" := by decide
  have hy : ("y" : String) ≠ "_" := by decide
  simp only [eqF, h1, h2, eqA_int, hx, hy]
  by_cases e1 : a = c
  · by_cases e2 : b = e
    · simp [e1, e2]
    · simp [e1, e2]
  · simp [e1]

theorem eq_duo {x y : Operand} {a b c d : Int} : binA ED .eql 97 x y (.agg [.int .i64 a, .int .i64 b]) (.agg [.int .i64 c, .int .i64 d]) = some (.bool (decide ((a, b) = (c, d)))) := by
  have h := eqA_duo 9998 a b c d
  show (if eqGuardA ED 97 x y (.agg [.int .i64 a, .int .i64 b]) (.agg [.int .i64 c, .int .i64 d]) then (eqA ED 10000 97 (.agg [.int .i64 a, .int .i64 b]) (.agg [.int .i64 c, .int .i64 d])).map AV.bool else none) = _
  rw [show eqGuardA ED 97 x y (.agg [.int .i64 a, .int .i64 b]) (.agg [.int .i64 c, .int .i64 d]) = true from rfl]
  rw [if_pos rfl, h]
  rfl

def Near0 (p : Int × Int) : Prop := (-8191 ≤ p.1 ∧ p.1 ≤ 8191) ∧ (-8191 ≤ p.2 ∧ p.2 ≤ 8191)

theorem mul_bnd {a b : Int} (ha : -16382 ≤ a ∧ a ≤ 16382) (hb : -16382 ≤ b ∧ b ≤ 16382) : -268369924 ≤ a * b ∧ a * b ≤ 268369924 := by
  have h1 : a.natAbs ≤ 16382 := by omega
  have h2 : b.natAbs ≤ 16382 := by omega
  have h3 := Nat.mul_le_mul h1 h2
  rw [← Int.natAbs_mul] at h3
  omega

theorem duoA_inj {a b : Int × Int} (h : duoA a = duoA b) : a = b := by
  simp only [duoA, AV.agg.injEq, List.cons.injEq, AV.int.injEq, true_and, and_true] at h
  exact Prod.ext h.1 h.2

structure Pt3 where
  p : Int × Int
  q : Int × Int
  r : Int × Int
def rightC : Con where
  f := 78
  X := Pt3
  dom x := Near0 x.p ∧ Near0 x.q ∧ Near0 x.r
  enc x := [duoA x.p, duoA x.q, duoA x.r]
  res x := .ret (.int .i64 (rgt x.p x.q x.r))

theorem right_ok : rightC.Ok Tryz.prog ED := by
  refine Con.ok_at ED_ok ED_pers [] (by simp) (fun (x : Pt3) _ => ⟨rfl, rfl⟩) ?_
  rintro ⟨⟨p1, p2⟩, ⟨q1, q2⟩, ⟨r1, r2⟩⟩ ⟨⟨⟨a1, a2⟩, a3, a4⟩, ⟨⟨b1, b2⟩, b3, b4⟩, ⟨c1, c2⟩, c3, c4⟩
  simp only at a1 a2 a3 a4 b1 b2 b3 b4 c1 c2 c3 c4
  show ∃ n, ∀ p : FRes → St → Prop, (∀ r S', r.melt S' = .ret (.int .i64 ((q1 - p1) * (r2 - p2) - (q2 - p2) * (r1 - p1))) → p r S') → GotF (callS ED (sumOf []) n (.fn 78) [.agg [.int .i64 p1, .int .i64 p2], .agg [.int .i64 q1, .int .i64 q2], .agg [.int .i64 r1, .int .i64 r2]] S0) p
  refine ⟨10, fun p hp => ?_⟩
  rw [callS_fn rfl]
  have w1 : IntKind.i64.wrap (q1 - p1) = q1 - p1 := wrap_id (by omega) (by omega)
  have w2 : IntKind.i64.wrap (r2 - p2) = r2 - p2 := wrap_id (by omega) (by omega)
  have w3 : IntKind.i64.wrap (q2 - p2) = q2 - p2 := wrap_id (by omega) (by omega)
  have w4 : IntKind.i64.wrap (r1 - p1) = r1 - p1 := wrap_id (by omega) (by omega)
  have m1 := mul_bnd (a := q1 - p1) (b := r2 - p2) (by omega) (by omega)
  have m2 := mul_bnd (a := q2 - p2) (b := r1 - p1) (by omega) (by omega)
  have w5 : IntKind.i64.wrap ((q1 - p1) * (r2 - p2)) = (q1 - p1) * (r2 - p2) := wrap_id (by omega) (by omega)
  have w6 : IntKind.i64.wrap ((q2 - p2) * (r1 - p1)) = (q2 - p2) * (r1 - p1) := wrap_id (by omega) (by omega)
  have w7 : IntKind.i64.wrap ((q1 - p1) * (r2 - p2) - (q2 - p2) * (r1 - p1)) = (q1 - p1) * (r2 - p2) - (q2 - p2) * (r1 - p1) := wrap_id (by omega) (by omega)
  simp only [fnA, ED_fn78, fi78, Tryz.f78]
  simp [vmS, lenA, indexAddrA, w1, w2, w3, w4, w5, w6, w7]
  exact hp _ _ rfl
theorem right_use {cs : List Con} (h : sumOf cs 78 = rightC.look) {n : Nat} {p q r : Int × Int} {S : St} (hp : Near0 p) (hq : Near0 q) (hr : Near0 r) : callS ED (sumOf cs) n (.fn 78) [duoA p, duoA q, duoA r] S = some (.ret (.int .i64 (rgt p q r)), S) :=
  Con.use (c := rightC) (fun (x y : Pt3) hx hy h => by
    have h' : [duoA x.p, duoA x.q, duoA x.r] = [duoA y.p, duoA y.q, duoA y.r] := h
    simp only [List.cons.injEq, and_true] at h'
    obtain ⟨h1, h2, h3⟩ := h'
    have e1 := duoA_inj h1
    have e2 := duoA_inj h2
    have e3 := duoA_inj h3
    show FRes.ret (.int .i64 (rgt x.p x.q x.r)) = .ret (.int .i64 (rgt y.p y.q y.r))
    rw [e1, e2, e3]) h (⟨p, q, r⟩ : Pt3) ⟨hp, hq, hr⟩ rfl

def farC : Con where
  f := 79
  X := (Int × Int) × (Int × Int)
  dom x := Near0 x.1 ∧ Near0 x.2
  enc x := [duoA x.1, duoA x.2]
  res x := .ret (.int .i64 (far x.1 x.2))

theorem far_ok : farC.Ok Tryz.prog ED := by
  refine Con.ok_at ED_ok ED_pers [] (by simp) (fun (x : (Int × Int) × (Int × Int)) _ => ⟨rfl, rfl⟩) ?_
  rintro ⟨⟨p1, p2⟩, ⟨q1, q2⟩⟩ ⟨⟨⟨a1, a2⟩, a3, a4⟩, ⟨b1, b2⟩, b3, b4⟩
  simp only at a1 a2 a3 a4 b1 b2 b3 b4
  show ∃ n, ∀ p : FRes → St → Prop, (∀ r S', r.melt S' = .ret (.int .i64 ((q1 - p1) * (q1 - p1) + (q2 - p2) * (q2 - p2))) → p r S') → GotF (callS ED (sumOf []) n (.fn 79) [.agg [.int .i64 p1, .int .i64 p2], .agg [.int .i64 q1, .int .i64 q2]] S0) p
  refine ⟨10, fun p hp => ?_⟩
  rw [callS_fn rfl]
  have w1 : IntKind.i64.wrap (q1 - p1) = q1 - p1 := wrap_id (by omega) (by omega)
  have w3 : IntKind.i64.wrap (q2 - p2) = q2 - p2 := wrap_id (by omega) (by omega)
  have m1 := mul_bnd (a := q1 - p1) (b := q1 - p1) (by omega) (by omega)
  have m2 := mul_bnd (a := q2 - p2) (b := q2 - p2) (by omega) (by omega)
  have w5 : IntKind.i64.wrap ((q1 - p1) * (q1 - p1)) = (q1 - p1) * (q1 - p1) := wrap_id (by omega) (by omega)
  have w6 : IntKind.i64.wrap ((q2 - p2) * (q2 - p2)) = (q2 - p2) * (q2 - p2) := wrap_id (by omega) (by omega)
  have w7 : IntKind.i64.wrap ((q1 - p1) * (q1 - p1) + (q2 - p2) * (q2 - p2)) = (q1 - p1) * (q1 - p1) + (q2 - p2) * (q2 - p2) := wrap_id (by omega) (by omega)
  simp only [fnA, ED_fn79, fi79, Tryz.f79]
  simp [vmS, lenA, indexAddrA, w1, w3, w5, w6, w7]
  exact hp _ _ rfl
theorem far_use {cs : List Con} (h : sumOf cs 79 = farC.look) {n : Nat} {p q : Int × Int} {S : St} (hp : Near0 p) (hq : Near0 q) : callS ED (sumOf cs) n (.fn 79) [duoA p, duoA q] S = some (.ret (.int .i64 (far p q)), S) :=
  Con.use (c := farC) (fun (x y : (Int × Int) × (Int × Int)) hx hy h => by
    have h' : [duoA x.1, duoA x.2] = [duoA y.1, duoA y.2] := h
    simp only [List.cons.injEq, and_true] at h'
    obtain ⟨h1, h2⟩ := h'
    have e1 := duoA_inj h1
    have e2 := duoA_inj h2
    show FRes.ret (.int .i64 (far x.1 x.2)) = .ret (.int .i64 (far y.1 y.2))
    rw [e1, e2]) h ((p, q) : (Int × Int) × (Int × Int)) ⟨hp, hq⟩ rfl

/-! the place of a point -/
def idxP : List (Int × Int) → Int × Int → Nat
  | [], _ => 0
  | a :: r, v => if v = a then 0 else idxP r v + 1
theorem idxP_lt : ∀ {l : List (Int × Int)} {v : Int × Int}, v ∈ l → idxP l v < l.length
  | a :: r, v, h => by
    unfold idxP
    split
    · simp
    · rename_i e
      have := idxP_lt (l := r) (v := v) (by rcases List.mem_cons.1 h with h | h; exact absurd h e; exact h)
      simpa using this
theorem idxP_get : ∀ {l : List (Int × Int)} {v : Int × Int} (h : v ∈ l), l[idxP l v]'(idxP_lt h) = v
  | a :: r, v, h => by
    by_cases e : v = a
    · simp [idxP, e]
    · have := idxP_get (l := r) (v := v) (by rcases List.mem_cons.1 h with h | h; exact absurd h e; exact h)
      simp only [idxP, if_neg e, List.getElem_cons_succ]
      exact this
theorem idxP_first : ∀ {l : List (Int × Int)} {v : Int × Int} {j : Nat} (h : j < l.length), j < idxP l v → l[j] ≠ v
  | a :: r, v, j, h, hj => by
    by_cases e : v = a
    · simp [idxP, e] at hj
    · cases j with
      | zero => simpa using Ne.symm e
      | succ j =>
        simp only [idxP, if_neg e] at hj
        have := idxP_first (l := r) (v := v) (j := j) (by simpa using h) (by omega)
        simpa using this

structure IdxX where
  l : List (Int × Int)
  v : Int × Int
def indexC : Con where
  f := 77
  X := IdxX
  dom x := x.v ∈ x.l ∧ x.l.length ≤ 4096
  enc x := [lst (x.l.map duoA), duoA x.v]
  res x := .ret (.int .i64 (idxP x.l x.v))

theorem index_ok : indexC.Ok Tryz.prog ED := by
  refine Con.ok_at ED_ok ED_pers [] (by simp) (fun (x : IdxX) _ => ⟨by show AV.persL [lst (x.l.map duoA), duoA x.v] = true; simp [AV.persL, lst_pers' (duoAs_pers x.l)]; rfl, rfl⟩) ?_
  rintro ⟨l, ⟨v1, v2⟩⟩ ⟨hv, hl⟩
  replace hv : (v1, v2) ∈ l := hv
  replace hl : l.length ≤ 4096 := hl
  show ∃ n, ∀ p : FRes → St → Prop, (∀ r S', r.melt S' = .ret (.int .i64 (idxP l (v1, v2))) → p r S') → GotF (callS ED (sumOf []) n (.fn 77) [lst (l.map duoA), .agg [.int .i64 v1, .int .i64 v2]] S0) p
  refine ⟨9000, fun p hp => ?_⟩
  rw [callS_fn rfl]
  have d0 := @dr77_0
  simp only [drA, drawsOf, Option.getD_some, List.nil_append, List.append_nil, List.getD_cons_zero, List.getD_cons_succ, List.cons_append, Tryz.f77] at d0
  have hdl : lenA ED 88 (lst (l.map duoA)) = some (.int .i64 l.length) := by rw [len73]; simp
  have hdx := fun (j : Nat) (hj : j < l.length) => duoAs_get hj
  obtain ⟨hdc, hdk⟩ := duoAs_cell l
  generalize lst (l.map duoA) = D at *
  simp only [fnA, ED_fn77, fi77, Tryz.f77]
  simp [vmS, hdl]
  obtain ⟨m, hm⟩ : ∃ m, m = idxP l (v1, v2) := ⟨_, rfl⟩
  have hi : m < l.length := by rw [hm]; exact idxP_lt hv
  have hg : l[m] = (v1, v2) := by subst hm; exact idxP_get hv
  have hf : ∀ j (h : j < l.length), j < m → l[j] ≠ (v1, v2) := fun j h hj => idxP_first h (by rw [← hm]; exact hj)
  rw [← hm] at hp
  generalize hc : iter _ _ _ _ = c
  obtain ⟨e1, L1, S1, rfl, hq⟩ := loop_of hc
    (fun r L S => ∃ j a5 sc, j + r = m ∧ L = vloc [D, .agg [.int .i64 v1, .int .i64 v2], .ptr 0 0, .int .i64 0, a5, .int .i64 l.length, .int .i64 (j : Nat)] sc ∧ S.cells? 0 = some [.int .i64 v1, .int .i64 v2])
    (fun e L S => e = .ret ∧ ∃ a5 a8 sc, L = vloc [D, .agg [.int .i64 v1, .int .i64 v2], .ptr 0 0, .int .i64 m, a5, .int .i64 l.length, a8] sc)
    m (by omega)
    ⟨0, _, _, by simp, rfl, rfl⟩
    (by
      rintro r L S ⟨j, a5, sc, hjk, rfl, h0⟩ q hq1 hq2
      have hw : IntKind.i64.wrap ((j : Int) + 1) = ((j : Int) + 1) := wrap_id (by omega) (by omega)
      have hj : j < l.length := by omega
      have hix := hdx j hj
      by_cases hjm : j = m
      · subst hjm
        have e1 : l[j].1 = v1 := by rw [hg]
        have e2 : l[j].2 = v2 := by rw [hg]
        rw [e1, e2] at hix
        simp [vmS, runC_nil, runC_cons, pickC_some, wantC_tt, wantC_tf, effC_val, ifC_true, checkC, inPairs, keepC, okC, readsC_load, readV_some, AV.beq_self, wantA_n, wantA_g, wantD_some, d0, vloc, hj, hix, h0, eq_duo]
        exact hq2 _ _ _ (by simp) ⟨rfl, _, _, _, rfl⟩
      · have hne := hf j hj (by omega)
        have hne' : ¬ (v1 = l[j].1 ∧ v2 = l[j].2) := fun k => hne (Prod.ext k.1.symm k.2.symm)
        generalize l[j].1 = x1 at *
        generalize l[j].2 = x2 at *
        simp [vmS, runC_nil, runC_cons, pickC_some, wantC_tt, wantC_tf, effC_val, ifC_true, checkC, inPairs, keepC, okC, readsC_load, readV_some, AV.beq_self, wantA_n, wantA_g, wantD_some, d0, vloc, hj, hix, h0, eq_duo, hne', hw]
        exact hq1 (r - 1) _ _ (by omega) ⟨j + 1, _, _, by omega, rfl, h0⟩)
  obtain ⟨rfl, a5, a8, sc, rfl⟩ := hq
  simp [vmS, vloc]
  exact hp _ _ rfl
theorem index_use {cs : List Con} (h : sumOf cs 77 = indexC.look) {n : Nat} {l : List (Int × Int)} {v : Int × Int} {S : St} (hv : v ∈ l) (hl : l.length ≤ 4096) : callS ED (sumOf cs) n (.fn 77) [lst (l.map duoA), duoA v] S = some (.ret (.int .i64 (idxP l v)), S) :=
  Con.use (c := indexC) (fun (x y : IdxX) hx hy h => by
    have h' : [lst (x.l.map duoA), duoA x.v] = [lst (y.l.map duoA), duoA y.v] := h
    simp only [List.cons.injEq, and_true] at h'
    obtain ⟨h1, h2⟩ := h'
    have e1 : x.l = y.l := List.map_inj_right (fun _ _ => duoA_inj) |>.1 (lst_inj h1)
    have e2 := duoA_inj h2
    show FRes.ret (.int .i64 (idxP x.l x.v)) = .ret (.int .i64 (idxP y.l y.v))
    rw [e1, e2]) h (⟨l, v⟩ : IdxX) ⟨hv, hl⟩ (by
      show [(lst (l.map duoA)).dead, (duoA v).dead] = [lst (l.map duoA), duoA v]
      rw [dead_of_pers _ (lst_pers' (duoAs_pers l))]
      rfl)

end Go.Proofs.YtpjcmiaanjcanaaGreatDoor

namespace Go.Proofs.YtpjcmiaanjcanaaGreatDoor
open Go Go.Vm Go.Vm.T
set_option maxRecDepth 100000
set_option linter.unusedSimpArgs false
set_option linter.unusedVariables false
attribute [local simp] inFrame startLoc startVals Loc.clear blockC Loc.putO Loc.put idx evO constV Loc.get Vm.look intA unwindA resultsA resultV actA pureA storeA loadA fillE repElems TI.zeroV fieldOf fieldAddrA fieldA elemsA retE cellsOf? setCells nowhere

set_option maxHeartbeats 4000000

open Classical in
noncomputable def hullVs (l : List (Int × Int)) : List (Int × Int) := if h : ∃ vs, Hull l vs then h.choose else []
theorem hullVs_eq {l vs : List (Int × Int)} (h : Hull l vs) : hullVs l = vs := by
  have hex : ∃ vs, Hull l vs := ⟨vs, h⟩
  unfold hullVs
  rw [dif_pos hex]
  exact hex.choose_spec.walk.unique h.walk
noncomputable def hullN (l : List (Int × Int)) : List Nat := (hullVs l).map (idxP l)
theorem hullN_nil : hullN [] = [] := by
  have : hullVs [] = [] := by
    unfold hullVs
    rw [dif_neg]
    rintro ⟨vs, h⟩
    have := h.start
    simp at this
  simp [hullN, this]
theorem next_in (p : Int × Int) : ∀ (n : Nat) {l : List (Int × Int)}, l.length = n → nextH l p = nob ∨ nextH l p ∈ l
  | 0, l, hl => by
    have := List.length_eq_zero_iff.1 hl
    subst this
    exact .inl rfl
  | n + 1, l, hl => by
    obtain ⟨m, r, rfl⟩ : ∃ m r, l = m ++ [r] := by
      have hne : l ≠ [] := by intro e; subst e; simp at hl
      exact ⟨l.dropLast, l.getLast hne, (List.dropLast_concat_getLast hne).symm⟩
    have ih := next_in p n (l := m) (by simpa using hl)
    have ih' : nextH m p = nob ∨ nextH m p ∈ m ++ [r] := ih.imp id (fun h => List.mem_append.2 (.inl h))
    have hr : r ∈ m ++ [r] := by simp
    rw [next_snoc]
    unfold stepH
    split
    · exact ih'
    · split
      · exact .inr hr
      · split
        · exact .inr hr
        · exact ih'
theorem subP_len {l m : List (Int × Int)} (h : l.Nodup) (hs : ∀ i ∈ l, i ∈ m) : l.length ≤ m.length := by
  induction l generalizing m with
  | nil => simp
  | cons a l ih =>
    obtain ⟨h1, h2⟩ := List.nodup_cons.1 h
    have ha := hs a (by simp)
    have := ih (m := m.erase a) h2 (fun i hi => (List.mem_erase_of_ne (fun e => h1 (by rw [← e]; exact hi))).2 (hs i (by simp [hi])))
    rw [List.length_erase_of_mem ha] at this
    have := List.length_pos_of_mem ha
    simp only [List.length_cons]
    omega
theorem take_snoc {α : Type} {l : List α} {j : Nat} (h : j < l.length) : l.take (j + 1) = l.take j ++ [l[j]] := by
  rw [List.take_add_one, List.getElem?_eq_getElem h]
  rfl

theorem fold_minI (a b : Int) : foldA (maxA .min) (.int .i64 a) [.int .i64 b] = some (.int .i64 (min a b)) := by
  simp only [foldA, maxA, Option.some.injEq, AV.int.injEq, true_and]
  split <;> omega

def csH : List Con := [listDuoC, needC, indexC, rightC, farC]
theorem csH_ok : ∀ d ∈ csH, d.Ok Tryz.prog ED := by simpa [csH] using ⟨listDuo_ok, need_ok, index_ok, right_ok, far_ok⟩

theorem liveT_box {S : St} {sz : Nat} {v : AV} {es cs ds : List AV} {T : Option Nat} (h : LiveT S sz v es T) : LiveT ((S.push (.cells cs)).put S.n (.cells ds)) sz v es T := by
  cases T with
  | none => exact h
  | some j =>
    have hl := h.lt
    refine ⟨h.1, ?_⟩
    rw [St.get_put_ne _ _ _ (by omega)]
    exact St.get_push_of S _ h.2
theorem duoA_mk (a b : Int) : duoA (a, b) = .agg [.int .i64 a, .int .i64 b] := rfl

theorem melt_nats {S : St} {v : AV} {u : List Nat} {T : Option Nat} (h : LiveT S 1 v (nats u) T) (hu : u ≠ []) : (FRes.ret v).melt S = .ret (lstI (ofN u)) := by
  rcases h.cases with ⟨_, h2⟩ | ⟨tk, rfl⟩
  · cases u with
    | nil => exact absurd rfl hu
    | cons a r => cases h2
  · have h1 := ints_ofN u
    have h2 := ints_dead (ofN u)
    rw [h1] at h2
    have h3 : lst (nats u) = .slice (nats u) .dead := by
      cases u with
      | nil => exact absurd rfl hu
      | cons a r => rfl
    simp [FRes.melt, AV.melt, AV.dead, lstI, h1, h2, h3]

def inB (p : Int × Int) : Bool := decide (((-8191 ≤ p.1 ∧ p.1 ≤ 8191) ∧ (-8191 ≤ p.2 ∧ p.2 ≤ 8191)))
theorem inB_t {p : Int × Int} : inB p = true ↔ ((-8191 ≤ p.1 ∧ p.1 ≤ 8191) ∧ (-8191 ≤ p.2 ∧ p.2 ≤ 8191)) := by simp [inB]
noncomputable def hullOut (l : List (Int × Int)) : Option (List Int) := if l.all inB then some (ofN (hullN l)) else none
theorem hullOut_bad {l : List (Int × Int)} {j : Nat} (hj : j < l.length) (h : ¬ inB l[j] = true) : hullOut l = none := by
  unfold hullOut
  rw [if_neg]
  intro h2
  exact h (List.all_eq_true.1 h2 _ (List.getElem_mem hj))
theorem hullOut_ok {l : List (Int × Int)} (h : Bnd l) : hullOut l = some (ofN (hullN l)) := by
  unfold hullOut
  rw [if_pos]
  exact List.all_eq_true.2 fun p hp => inB_t.2 (h p hp)
noncomputable def hullC : Con := rvC 47 RV.duosOk fun v => optR lstI (hullOut v.duos)

theorem hull_ok47 : hullC.Ok Tryz.prog ED := by
  refine Con.ok_at ED_ok ED_pers csH csH_ok (fun (v : RV) _ => ⟨rv_pers v, optR_lst _⟩) ?_
  intro (v : RV) hv
  obtain ⟨h1, h2⟩ := (hv : v.duosOk)
  show ∃ n, ∀ p : FRes → St → Prop, (∀ r S', r.melt S' = optR lstI (hullOut v.duos) → p r S') → GotF (callS ED (sumOf csH) n (.fn 47) [v.enc] S0) p
  refine ⟨5000, fun p hp => ?_⟩
  rw [callS_fn rfl]
  have d0 := @dr47_0
  simp only [drA, drawsOf, Option.getD_some, List.nil_append, List.append_nil, List.getD_cons_zero, List.getD_cons_succ, List.cons_append, Tryz.f47] at d0
  have uL := fun (n : Nat) (S : St) => listDuo_use (cs := csH) rfl (n := n) (S := S) h1 h2
  have hl : v.duos.length ≤ 4096 := by simpa [RV.duos] using h1
  change ∀ n S, _ = some (FRes.ret (lst (v.duos.map duoA)), S) at uL
  have e := v.look
  obtain ⟨ec1, ec2, ec3⟩ := v.cell
  rw [e] at uL ⊢
  generalize v.duos = l at *
  have uN := fun (n : Nat) (b : Bool) (S : St) => need_use (cs := csH) (by funext a; rfl) (n := n) (b := b) (S := S)
  have uR := fun (n : Nat) (S : St) (p1 p2 q1 q2 r1 r2 : Int) (h1 : Near0 (p1, p2)) (h2 : Near0 (q1, q2)) (h3 : Near0 (r1, r2)) => right_use (cs := csH) (by funext a; rfl) (n := n) (S := S) h1 h2 h3
  have uF := fun (n : Nat) (S : St) (p1 p2 q1 q2 : Int) (h1 : Near0 (p1, p2)) (h2 : Near0 (q1, q2)) => far_use (cs := csH) (by funext a; rfl) (n := n) (S := S) h1 h2
  have uI := fun (n : Nat) (S : St) (p1 p2 : Int) (h1 : (p1, p2) ∈ l) => index_use (cs := csH) (by funext a; rfl) (n := n) (S := S) h1 hl
  obtain ⟨hdc, hdk⟩ := duoAs_cell l
  have hdl : lenA ED 88 (lst (l.map duoA)) = some (.int .i64 l.length) := by rw [len73]; simp
  have hdx := fun (j : Nat) (hj : j < l.length) => duoAs_get hj
  simp only [duoA_mk] at uR uF uI
  generalize v.lst = A at *
  generalize v.kind = vk at *
  generalize v.num = vn at *
  generalize lst (l.map duoA) = D at *
  simp only [fnA, ED_fn47, fi47, Tryz.f47]
  have hg0 : gl 1 = some [.int .i64 1099511627776, .int .i64 1099511627776] := by rfl
  simp [vmS, uL, ec1, ec2, hdc, hdk, hdl, hg0]
  clear uL
  generalize AV.agg [AV.int IntKind.i64 vk, AV.int IntKind.i64 vn, A] = B at *
  generalize hc : iter _ _ _ _ = c
  obtain ⟨e1, L1, S1, rfl, hq⟩ := loop_of hc
    (fun r L S => ∃ j a6 sc, j + r = l.length ∧ L = vloc [B, .ptr 0 0, .nils, D, .ptr 1 0, a6, .undef, .undef, .undef, .undef, .undef, D, .int .i64 l.length, .int .i64 (j : Nat), .undef, .undef, .undef, .undef] sc ∧
      S.cells? 1 = some [.int .i64 (startH (l.take j)).1, .int .i64 (startH (l.take j)).2] ∧ Bnd (l.take j))
    (fun e L S => (e = .pan trapV ∧ hullOut l = none ∧ ∃ vs sc, L = vloc vs sc) ∨ e = .exit 0 ∧ ∃ a6 a18 sc, L = vloc [B, .ptr 0 0, .nils, D, .ptr 1 0, a6, .undef, .undef, .undef, .undef, .undef, D, .int .i64 l.length, a18, .undef, .undef, .undef, .undef] sc ∧
      S.cells? 1 = some [.int .i64 (startH l).1, .int .i64 (startH l).2] ∧ Bnd l)
    l.length (by omega)
    (by
      refine ⟨0, _, _, by simp, rfl, ?_, by intro r hr; simp at hr⟩
      simp [push_at, put_at, n_push', n_put', cellsOf?, startH, nob])
    (by
      rintro r L S ⟨j, a6, sc, hjk, rfl, h1, hbj⟩ q hq1 hq2
      by_cases hj : j < l.length
      · have hw : IntKind.i64.wrap ((j : Int) + 1) = ((j : Int) + 1) := wrap_id (by omega) (by omega)
        have hix := hdx j hj
        have hst : startH (l.take (j + 1)) = leastS (startH (l.take j)) l[j] := by rw [take_snoc hj, start_snoc]
        have hbn : inB l[j] = true → Bnd (l.take (j + 1)) := fun h r hr => by
          rw [take_snoc hj] at hr
          rcases List.mem_append.1 hr with hr | hr
          · exact hbj r hr
          · have := List.mem_singleton.1 hr
            subst this
            exact inB_t.1 h
        have hno : ¬ inB l[j] = true → hullOut l = none := hullOut_bad hj
        generalize startH (l.take j) = s at *
        generalize l[j] = x at *
        obtain ⟨s1, s2⟩ := s
        obtain ⟨x1, x2⟩ := x
        simp only at h1 hix
        unfold leastS at hst
        simp only at hst
        have j6 := cells?_put_push S (.cells [.int .i64 0, .int .i64 0]) [.int .i64 x1, .int .i64 x2]
        have j1 := cells_box (o := .cells [.int .i64 0, .int .i64 0]) (o' := .cells [.int .i64 x1, .int .i64 x2]) h1
        have mx := fold_maxI x1 x2
        have mn := fold_minI x1 x2
        by_cases hin : inB (x1, x2) = true
        rotate_left
        · have hno' := hno hin
          have hin' : ¬ ((-8191 ≤ x1 ∧ x1 ≤ 8191) ∧ (-8191 ≤ x2 ∧ x2 ≤ 8191)) := fun h => hin (inB_t.2 h)
          by_cases hmx : max x1 x2 ≤ 8191
          · have hmn : ¬ -8191 ≤ min x1 x2 := by omega
            generalize max x1 x2 = mxv at *
            generalize min x1 x2 = mnv at *
            simp [vmS, vloc, hj, hix, j6, j1, mx, mn, hmx, hmn, uN, stepE_pan]
            exact hq2 _ _ _ (by simp) (.inl ⟨rfl, hno', _, _, rfl⟩)
          · generalize max x1 x2 = mxv at *
            simp [vmS, vloc, hj, hix, j6, j1, mx, mn, hmx, uN, stepE_pan]
            exact hq2 _ _ _ (by simp) (.inl ⟨rfl, hno', _, _, rfl⟩)
        have hbn' := hbn hin
        obtain ⟨⟨b1, b2⟩, b3, b4⟩ := inB_t.1 hin
        simp only at b1 b2 b3 b4
        have hmx : max x1 x2 ≤ 8191 := by omega
        have hmn : -8191 ≤ min x1 x2 := by omega
        generalize max x1 x2 = mxv at *
        generalize min x1 x2 = mnv at *
        by_cases c1 : x1 < s1
        · rw [if_pos (.inl c1)] at hst
          simp [vmS, vloc, hj, hix, j6, j1, mx, mn, hmx, hmn, uN, c1, hw]
          exact hq1 (r - 1) _ _ (by omega) ⟨j + 1, _, _, by omega, rfl, by rw [hst]; exact cells_put_self j1, hbn'⟩
        · by_cases c2 : x1 = s1
          · subst c2
            by_cases c3 : x2 < s2
            · rw [if_pos (.inr ⟨rfl, c3⟩)] at hst
              simp [vmS, vloc, hj, hix, j6, j1, mx, mn, hmx, hmn, uN, c3, hw]
              exact hq1 (r - 1) _ _ (by omega) ⟨j + 1, _, _, by omega, rfl, by rw [hst]; exact cells_put_self j1, hbn'⟩
            · rw [if_neg (by omega)] at hst
              simp [vmS, vloc, hj, hix, j6, j1, mx, mn, hmx, hmn, uN, c3, hw]
              exact hq1 (r - 1) _ _ (by omega) ⟨j + 1, _, _, by omega, rfl, by rw [hst]; exact j1, hbn'⟩
          · rw [if_neg (by omega)] at hst
            simp [vmS, vloc, hj, hix, j6, j1, mx, mn, hmx, hmn, uN, c1, c2, hw]
            exact hq1 (r - 1) _ _ (by omega) ⟨j + 1, _, _, by omega, rfl, by rw [hst]; exact j1, hbn'⟩
      · have hjl : j = l.length := by omega
        subst hjl
        rw [List.take_length] at h1 hbj
        simp [vmS, vloc]
        exact hq2 _ _ _ (by simp) (.inr ⟨rfl, _, _, _, rfl, h1, hbj⟩))
  rcases hq with ⟨rfl, hno, vs, sc, rfl⟩ | ⟨rfl, a6, a18, sc, rfl, h1, hb⟩
  · rw [hno] at hp
    simp [vmS, vloc]
    exact hp _ _ rfl
  rw [hullOut_ok hb] at hp
  simp only [optR] at hp
  have gl0 : ∀ a b : Int, binA ED .eql 97 (.tmp 58) (.tmp 59) (.agg [.int .i64 a, .int .i64 b]) (.agg [.int .i64 1099511627776, .int .i64 1099511627776]) = some (.bool (decide ((a, b) = nob))) := fun a b => eq_duo
  by_cases hne : l = []
  · have hs0 : startH l = nob := by subst hne; rfl
    rw [hs0] at h1
    rw [show hullN l = [] from by rw [hne]; exact hullN_nil] at hp
    simp [vmS, vloc, h1, hg0, eq_duo, nob]
    exact hp _ _ rfl
  obtain ⟨vs, hH⟩ := hull_ok hb hne
  have hvs := hullVs_eq hH
  have hsn : startH l ≠ nob := fun e => hb.nob (by rw [← e]; exact hH.start)
  have hW := hH.walk
  have hmem := hH.mem
  have hns : ∀ x, nextH l x = nob ∨ nextH l x ∈ l := fun x => next_in x l.length rfl
  have hlen : vs.length ≤ 4096 := by
    have : vs.length ≤ l.length := subP_len hH.nodup hH.mem
    omega
  have hv0 : vs ≠ [] := fun e => by have := hH.pos; rw [e] at this; simp at this
  unfold hullN at hp
  rw [hvs] at hp
  clear hH hvs
  generalize startH l = s at *
  have hs9 := hsn
  obtain ⟨s1, s2⟩ := s
  simp only [nob, ne_eq] at hsn
  simp only at h1
  simp [vmS, vloc, h1, hg0, eq_duo, hsn]
  have k8 := cells?_put_push S1 (.cells [.int .i64 0, .int .i64 0]) [.int .i64 s1, .int .i64 s2]
  have k1 := cells_box (o := .cells [.int .i64 0, .int .i64 0]) (o' := .cells [.int .i64 s1, .int .i64 s2]) h1
  have kn : S1.n ≠ 1 := by have := St.get_lt (cells?_inv h1); omega
  generalize hc : iter _ _ _ _ = c
  obtain ⟨e1, L1, S2, rfl, hq⟩ := loop_of hc
    (fun r L S => ∃ done p rest kp v T a9 a11 a12 a69 a70 a71 a113 sc, rest.length + 1 = r ∧ vs = done ++ p :: rest ∧ Walk l (s1, s2) p (p :: rest) ∧
      L = vloc [B, .ptr 0 0, .nils, D, .ptr 1 0, a6, v, .ptr kp 0, a9, a11, a12, D, .int .i64 l.length, a18, a69, a70, a71, a113] sc ∧
      S.cells? 1 = some [.int .i64 s1, .int .i64 s2] ∧ S.cells? kp = some [.int .i64 p.1, .int .i64 p.2] ∧ kp ≠ 1 ∧ LiveT S 1 v (nats (done.map (idxP l))) T)
    (fun e L S => e = .ret ∧ ∃ v T a6 a7 a8 a9 a11 a12 a16 a17 a18 a69 a70 a71 a113 sc, L = vloc [B, .ptr 0 0, v, D, .ptr 1 0, a6, a7, a8, a9, a11, a12, a16, a17, a18, a69, a70, a71, a113] sc ∧
      LiveT S 1 v (nats (vs.map (idxP l))) T)
    vs.length (by omega)
    (by
      obtain ⟨t, ht⟩ := hW.head
      refine ⟨[], (s1, s2), t, S1.n, .nils, none, _, _, _, _, _, _, _, _, by rw [ht]; rfl, ht, by rw [← ht]; exact hW, rfl, k1, k8, kn, .inl ⟨rfl, rfl⟩⟩)
    (by
      clear hW k8 k1 h1 hp kn
      rintro r L S ⟨done, ⟨p1, p2⟩, rest, kp, v, T, a9, a11, a12, a69, a70, a71, a113, sc, hr, hvs, hw, rfl, c1, cp, hk1, hL⟩ q hq1 hq2
      simp only at cp
      have hpm : (p1, p2) ∈ l := hmem _ (by rw [hvs]; simp)
      have hp0 : Near0 (p1, p2) := hb _ hpm
      have uIp := fun (n : Nat) (S : St) => uI n S p1 p2 hpm
      have hdl1 : done.length ≤ 4096 := by
        have := congrArg List.length hvs
        simp at this
        omega
      obtain ⟨v', Sa, e1, e2, e3, e4⟩ := append_nat (idxP l (p1, p2)) hL (by simp; omega)
      obtain ⟨w1, w2, w3⟩ := nat_cell e2
      have ga1 := e4.cells _ _ c1
      have gap := e4.cells _ _ cp
      have b1 := cells_box (o := .cells [.int .i64 0, .int .i64 0]) (o' := .cells [.int .i64 1099511627776, .int .i64 1099511627776]) ga1
      have bp := cells_box (o := .cells [.int .i64 0, .int .i64 0]) (o' := .cells [.int .i64 1099511627776, .int .i64 1099511627776]) gap
      have bq := cells?_put_push Sa (.cells [.int .i64 0, .int .i64 0]) [.int .i64 1099511627776, .int .i64 1099511627776]
      have hlt := St.get_lt (cells?_inv gap)
      have hlt1 := St.get_lt (cells?_inv ga1)
      have hLb := liveT_box (cs := [.int .i64 0, .int .i64 0]) (ds := [.int .i64 1099511627776, .int .i64 1099511627776]) e2
      have hsnoc : done.map (idxP l) ++ [idxP l (p1, p2)] = (done ++ [(p1, p2)]).map (idxP l) := by simp
      rw [hsnoc] at hLb
      generalize idxP l (p1, p2) = ip at *
      simp [vmS, vloc, cp, gap, uIp, e1, hg0, hdl]
      generalize (Sa.push (.cells [.int .i64 0, .int .i64 0])).put Sa.n (.cells [.int .i64 1099511627776, .int .i64 1099511627776]) = Sb at *
      have hkq : kp ≠ Sa.n := by omega
      have hkq1 : Sa.n ≠ 1 := by omega
      generalize Sa.n = kq at *
      clear e1 e2 e3 e4 ga1 gap c1 cp hL hlt hlt1 hsnoc
      generalize hc2 : iter _ _ _ _ = cc
      obtain ⟨e2, L2, S3, rfl, hq'⟩ := loop_of hc2
        (fun r2 L S => ∃ j a11 a12 sc, j + r2 = l.length ∧ L = vloc [B, .ptr 0 0, .nils, D, .ptr 1 0, a6, v', .ptr kp 0, .ptr kq 0, a11, a12, D, .int .i64 l.length, a18, D, .int .i64 l.length, .int .i64 (j : Nat), a113] sc ∧
          S.cells? 1 = some [.int .i64 s1, .int .i64 s2] ∧ S.cells? kp = some [.int .i64 p1, .int .i64 p2] ∧
          S.cells? kq = some [.int .i64 (nextH (l.take j) (p1, p2)).1, .int .i64 (nextH (l.take j) (p1, p2)).2] ∧ ∃ T, LiveT S 1 v' (nats ((done ++ [(p1, p2)]).map (idxP l))) T)
        (fun e L S => e = .exit 4 ∧ ∃ a11 a12 a71 sc, L = vloc [B, .ptr 0 0, .nils, D, .ptr 1 0, a6, v', .ptr kp 0, .ptr kq 0, a11, a12, D, .int .i64 l.length, a18, D, .int .i64 l.length, a71, a113] sc ∧
          S.cells? 1 = some [.int .i64 s1, .int .i64 s2] ∧ S.cells? kp = some [.int .i64 p1, .int .i64 p2] ∧
          S.cells? kq = some [.int .i64 (nextH l (p1, p2)).1, .int .i64 (nextH l (p1, p2)).2] ∧ ∃ T, LiveT S 1 v' (nats ((done ++ [(p1, p2)]).map (idxP l))) T)
        l.length (by omega)
        ⟨0, _, _, _, by simp, rfl, b1, bp, bq, _, hLb⟩
        (by
          clear hLb b1 bp bq
          rintro r2 L S ⟨j, a11, a12, sc, hjk, rfl, b1, bp, bq, T, hL⟩ q' hq1' hq2'
          by_cases hj : j < l.length
          · have hwj : IntKind.i64.wrap ((j : Int) + 1) = ((j : Int) + 1) := wrap_id (by omega) (by omega)
            have hix := hdx j hj
            have hnx : nextH (l.take (j + 1)) (p1, p2) = stepH (p1, p2) (nextH (l.take j) (p1, p2)) l[j] := by rw [take_snoc hj, next_snoc]
            have hxn : Near0 l[j] := hb _ (List.getElem_mem hj)
            have hqn : nextH (l.take j) (p1, p2) = nob ∨ Near0 (nextH (l.take j) (p1, p2)) := by
              rcases next_in (p1, p2) (l.take j).length (l := l.take j) rfl with h | h
              · exact .inl h
              · exact .inr (hb _ (List.mem_of_mem_take h))
            generalize nextH (l.take j) (p1, p2) = qq at *
            generalize l[j] = x at *
            obtain ⟨x1, x2⟩ := x
            obtain ⟨q1, q2⟩ := qq
            simp only at bq hix
            unfold stepH at hnx
            have j11 := cells?_put_push S (.cells [.int .i64 0, .int .i64 0]) [.int .i64 x1, .int .i64 x2]
            have j1 := cells_box (o := .cells [.int .i64 0, .int .i64 0]) (o' := .cells [.int .i64 x1, .int .i64 x2]) b1
            have jp := cells_box (o := .cells [.int .i64 0, .int .i64 0]) (o' := .cells [.int .i64 x1, .int .i64 x2]) bp
            have jq := cells_box (o := .cells [.int .i64 0, .int .i64 0]) (o' := .cells [.int .i64 x1, .int .i64 x2]) bq
            have hLx := liveT_box (cs := [.int .i64 0, .int .i64 0]) (ds := [.int .i64 x1, .int .i64 x2]) hL
            by_cases e1 : (x1, x2) = (p1, p2)
            · rw [if_pos e1] at hnx
              cases e1
              simp [vmS, vloc, hj, hix, j11, jp, eq_duo, hwj]
              exact hq1' (r2 - 1) _ _ (by omega) ⟨j + 1, _, _, _, by omega, rfl, j1, jp, by rw [hnx]; exact jq, _, hLx⟩
            · rw [if_neg e1] at hnx
              have e1' : ¬ (x1 = p1 ∧ x2 = p2) := fun h => e1 (Prod.ext h.1 h.2)
              by_cases e2 : (q1, q2) = nob
              · rw [if_pos e2] at hnx
                cases e2
                simp [vmS, vloc, hj, hix, j11, jp, jq, hg0, eq_duo, e1', hwj]
                exact hq1' (r2 - 1) _ _ (by omega) ⟨j + 1, _, _, _, by omega, rfl, cells_put jq j1 (Ne.symm hkq1), cells_put jq jp hkq, by rw [hnx]; exact cells_put_self jq, _, hLx.put jq⟩
              · rw [if_neg e2] at hnx
                have hq0 : Near0 (q1, q2) := by
                  rcases hqn with h | h
                  · exact absurd h e2
                  · exact h
                have e2' : ¬ (q1 = 1099511627776 ∧ q2 = 1099511627776) := fun h => e2 (Prod.ext h.1 h.2)
                have uR1 := fun (n : Nat) (S : St) => uR n S p1 p2 q1 q2 x1 x2 hp0 hq0 hxn
                have uF1 := fun (n : Nat) (S : St) => uF n S p1 p2 x1 x2 hp0 hxn
                have uF2 := fun (n : Nat) (S : St) => uF n S p1 p2 q1 q2 hp0 hq0
                generalize rgt (p1, p2) (q1, q2) (x1, x2) = g at *
                generalize far (p1, p2) (q1, q2) = f1 at *
                generalize far (p1, p2) (x1, x2) = f2 at *
                by_cases g1 : g < 0
                · rw [if_pos (.inl g1)] at hnx
                  simp [vmS, runC_nil, runC_cons, pickC_some, wantC_tt, wantC_tf, effC_val, ifC_true, checkC, inPairs, keepC, okC, readsC_load, readV_some, AV.beq_self, wantA_n, wantA_g, wantD_some, d0, vloc, hj, hix, j11, jp, jq, hg0, eq_duo, e1', e2', uR1, g1, hwj]
                  exact hq1' (r2 - 1) _ _ (by omega) ⟨j + 1, _, _, _, by omega, rfl, cells_put jq j1 (Ne.symm hkq1), cells_put jq jp hkq, by rw [hnx]; exact cells_put_self jq, _, hLx.put jq⟩
                · by_cases g2 : g = 0
                  · subst g2
                    by_cases g3 : f1 < f2
                    · rw [if_pos (.inr ⟨rfl, g3⟩)] at hnx
                      simp [vmS, runC_nil, runC_cons, pickC_some, wantC_tt, wantC_tf, effC_val, ifC_true, checkC, inPairs, keepC, okC, readsC_load, readV_some, AV.beq_self, wantA_n, wantA_g, wantD_some, d0, vloc, hj, hix, j11, jp, jq, hg0, eq_duo, e1', e2', uR1, uF1, uF2, g3, hwj]
                      exact hq1' (r2 - 1) _ _ (by omega) ⟨j + 1, _, _, _, by omega, rfl, cells_put jq j1 (Ne.symm hkq1), cells_put jq jp hkq, by rw [hnx]; exact cells_put_self jq, _, hLx.put jq⟩
                    · rw [if_neg (by omega)] at hnx
                      simp [vmS, runC_nil, runC_cons, pickC_some, wantC_tt, wantC_tf, effC_val, ifC_true, checkC, inPairs, keepC, okC, readsC_load, readV_some, AV.beq_self, wantA_n, wantA_g, wantD_some, d0, vloc, hj, hix, j11, jp, jq, hg0, eq_duo, e1', e2', uR1, uF1, uF2, g3, hwj]
                      exact hq1' (r2 - 1) _ _ (by omega) ⟨j + 1, _, _, _, by omega, rfl, j1, jp, by rw [hnx]; exact jq, _, hLx⟩
                  · rw [if_neg (by omega)] at hnx
                    simp [vmS, runC_nil, runC_cons, pickC_some, wantC_tt, wantC_tf, effC_val, ifC_true, checkC, inPairs, keepC, okC, readsC_load, readV_some, AV.beq_self, wantA_n, wantA_g, wantD_some, d0, vloc, hj, hix, j11, jp, jq, hg0, eq_duo, e1', e2', uR1, g1, g2, hwj]
                    exact hq1' (r2 - 1) _ _ (by omega) ⟨j + 1, _, _, _, by omega, rfl, j1, jp, by rw [hnx]; exact jq, _, hLx⟩
          · have hjl : j = l.length := by omega
            subst hjl
            rw [List.take_length] at bq
            simp [vmS, vloc]
            exact hq2' _ _ _ (by simp) ⟨rfl, _, _, _, _, rfl, b1, bp, bq, _, hL⟩)
      obtain ⟨rfl, a11, a12, a71, sc, rfl, b1, bp, bq, T, hL⟩ := hq'
      generalize hqq : nextH l (p1, p2) = qq at *
      obtain ⟨q1, q2⟩ := qq
      simp only at bq
      have hvs2 : vs = (done ++ [(p1, p2)]) ++ rest := by rw [hvs]; simp
      cases hw with
      | stop h =>
        rw [List.append_nil] at hvs2
        rw [← hvs2] at hL
        rw [hqq] at h
        by_cases e2 : (q1, q2) = nob
        · cases e2
          simp [vmS, vloc, bq, hg0, eq_duo]
          exact hq2 _ _ _ (by simp) ⟨rfl, _, _, _, _, _, _, _, _, _, _, _, _, _, _, _, _, rfl, hL⟩
        · have e2' : ¬ (q1 = 1099511627776 ∧ q2 = 1099511627776) := fun h => e2 (Prod.ext h.1 h.2)
          rcases h with h | h
          · exact absurd h e2
          · cases h
            simp [vmS, vloc, bq, b1, hg0, eq_duo, e2']
            exact hq2 _ _ _ (by simp) ⟨rfl, _, _, _, _, _, _, _, _, _, _, _, _, _, _, _, _, rfl, hL⟩
      | step n1 n2 hw' =>
        rw [hqq] at n1 n2 hw'
        have e2' : ¬ (q1 = 1099511627776 ∧ q2 = 1099511627776) := fun h => n1 (Prod.ext h.1 h.2)
        have e3' : ¬ (q1 = s1 ∧ q2 = s2) := fun h => n2 (Prod.ext h.1 h.2)
        obtain ⟨t, ht⟩ := hw'.head
        have cp2 := cells_put_self (ds := [.int .i64 q1, .int .i64 q2]) bp
        have c12 := cells_put (o := .cells [.int .i64 q1, .int .i64 q2]) bp b1 (Ne.symm hk1)
        have hL2 := hL.put (o := .cells [.int .i64 q1, .int .i64 q2]) bp
        have hlt := St.get_lt (cells?_inv b1)
        simp [vmS, vloc, bq, b1, bp, cp2, hg0, eq_duo, e2', e3']
        refine hq1 (t.length + 1) _ _ (by rw [← hr, ht]; simp) ⟨done ++ [(p1, p2)], (q1, q2), t, S3.n, v', T, _, _, _, _, _, _, _, _, rfl, by rw [hvs2, ht], by rw [← ht]; exact hw', rfl, ?_, ?_, by omega, ?_⟩
        · exact cells_box c12
        · exact cells?_put_push _ _ _
        · exact liveT_box hL2)
  obtain ⟨rfl, v, T, b6, b7, b8, b9, b11, b12, b16, b17, b18, b69, b70, b71, b113, sc, rfl, hL⟩ := hq
  simp [vmS, vloc]
  exact hp _ _ (melt_nats hL (by simpa using hv0))

theorem hull_use {cs : List Con} (h : sumOf cs 47 = hullC.look) {n : Nat} {v : RV} {S : St} (hv : v.duosOk) : callS ED (sumOf cs) n (.fn 47) [v.enc] S = some (optR lstI (hullOut v.duos), S) := rv_use h hv

end Go.Proofs.YtpjcmiaanjcanaaGreatDoor
