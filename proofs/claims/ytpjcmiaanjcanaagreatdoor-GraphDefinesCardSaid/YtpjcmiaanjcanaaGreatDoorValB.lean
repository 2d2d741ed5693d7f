/-
Values of any shape, and their sizes. No conditions.
-/
import Derived.Test.YtpjcmiaanjcanaaGreatDoorValA
import Derived.KernelRfl
set_option linter.all false

namespace Go.Proofs.YtpjcmiaanjcanaaGreatDoor
open Go Go.Vm Go.Vm.T
set_option maxRecDepth 100000
set_option linter.unusedSimpArgs false
set_option linter.unusedVariables false
attribute [local simp] inFrame startLoc startVals Loc.clear blockC Loc.putO Loc.put idx evO constV Loc.get Vm.look intA unwindA resultsA resultV actA pureA storeA loadA fillE repElems TI.zeroV fieldOf fieldAddrA fieldA elemsA retE cellsOf? setCells nowhere

set_option maxHeartbeats 4000000

/-! values of any shape -/
inductive RV where
  | leaf (k n : Int) (e : Bool)
  | node (k n : Int) (x : RV) (l : List RV)

def RV.kind : RV → Int
  | .leaf k _ _ => k
  | .node k _ _ _ => k
def RV.num : RV → Int
  | .leaf _ n _ => n
  | .node _ n _ _ => n
def RV.kids : RV → List RV
  | .leaf _ _ _ => []
  | .node _ _ x l => x :: l

mutual
def RV.enc : RV → AV
  | .leaf k n e => .agg [.int .i64 k, .int .i64 n, if e then .slice [] .dead else .nils]
  | .node k n x l => .agg [.int .i64 k, .int .i64 n, .slice (x.enc :: RV.encs l) .dead]
def RV.encs : List RV → List AV
  | [] => []
  | a :: r => a.enc :: RV.encs r
end
def RV.lst : RV → AV
  | .leaf _ _ e => if e then .slice [] .dead else .nils
  | .node _ _ x l => .slice (x.enc :: RV.encs l) .dead

theorem RV.look (v : RV) : v.enc = .agg [.int .i64 v.kind, .int .i64 v.num, v.lst] := by cases v <;> simp only [RV.enc, RV.kind, RV.num, RV.lst]
theorem RV.encs_map : ∀ l : List RV, RV.encs l = l.map RV.enc
  | [] => rfl
  | a :: r => by simp [RV.encs, RV.encs_map r]
theorem RV.cell (v : RV) : v.lst.isCell = true ∧ v.lst.known = true ∧ v.lst.cells = [v.lst] := by
  cases v with
  | leaf k n e => cases e <;> exact ⟨rfl, rfl, rfl⟩
  | node k n x l => exact ⟨rfl, rfl, rfl⟩
@[simp] theorem RV.enc_cells (v : RV) : v.enc.cells.length = 3 := by rw [v.look]; rfl
theorem RV.len (v : RV) : lenA ED 22 v.lst = some (.int .i64 v.kids.length) := by
  cases v with
  | leaf k n e => cases e <;> rfl
  | node k n x l => simp [RV.lst, RV.kids, lenA, RV.encs_map]
theorem RV.index (v : RV) {j : Nat} (h : j < v.kids.length) : indexAddrA ED 22 v.lst (.int .i64 (j : Nat)) = some (.rptr v.kids[j].enc.cells) := by
  cases v with
  | leaf k n e => simp [RV.kids] at h
  | node k n x l =>
    have h' : j < (x :: l).length := h
    have e : (x.enc :: RV.encs l)[j]? = some ((x :: l)[j]'h').enc := by
      rw [RV.encs_map, show x.enc :: l.map RV.enc = (x :: l).map RV.enc from rfl, List.getElem?_map, List.getElem?_eq_getElem h']
      rfl
    show indexAddrA ED 22 (RV.node k n x l).lst (.int .i64 (j : Nat)) = some (.rptr ((x :: l)[j]'h').enc.cells)
    simp only [RV.lst, indexAddrA, ED_desc22, ED_size24, Int.toNat_natCast]
    have h1 : (0 : Int) ≤ (j : Int) ∧ (j : Int) < ((x.enc :: RV.encs l).length : Nat) := by
      simp only [RV.encs_map, List.length_cons, List.length_map]
      simp only [List.length_cons] at h'
      omega
    rw [if_pos h1, e]
    simp

mutual
theorem RV.pers : ∀ v : RV, v.enc.pers = true
  | .leaf k n e => by cases e <;> rfl
  | .node k n x l => by simp [RV.enc, AV.pers, AV.persL, RV.pers x, RV.perss l]
theorem RV.perss : ∀ l : List RV, AV.persL (RV.encs l) = true
  | [] => rfl
  | a :: r => by simp [RV.encs, AV.persL, RV.pers a, RV.perss r]
end
@[simp] theorem RV.enc_dead (v : RV) : v.enc.dead = v.enc := dead_of_pers _ (RV.pers v)

mutual
theorem RV.inj : ∀ {v w : RV}, v.enc = w.enc → v = w
  | .leaf k n e, .leaf k' n' e', h => by
    simp only [RV.enc, AV.agg.injEq, List.cons.injEq, AV.int.injEq, true_and, and_true] at h
    obtain ⟨h1, h2, h3⟩ := h
    have : e = e' := by cases e <;> cases e' <;> first | rfl | (simp at h3)
    rw [h1, h2, this]
  | .leaf k n e, .node k' n' x l, h => by
    simp only [RV.enc, AV.agg.injEq, List.cons.injEq, AV.int.injEq, true_and, and_true] at h
    have := h.2.2
    cases e <;> simp at this
  | .node k n x l, .leaf k' n' e, h => by
    simp only [RV.enc, AV.agg.injEq, List.cons.injEq, AV.int.injEq, true_and, and_true] at h
    have := h.2.2
    cases e <;> simp at this
  | .node k n x l, .node k' n' x' l', h => by
    simp only [RV.enc, AV.agg.injEq, List.cons.injEq, AV.int.injEq, true_and, and_true, AV.slice.injEq] at h
    obtain ⟨h1, h2, h3, h4⟩ := h
    rw [h1, h2, RV.inj h3, RV.injs h4]
theorem RV.injs : ∀ {l m : List RV}, RV.encs l = RV.encs m → l = m
  | [], [], _ => rfl
  | [], b :: m, h => by simp [RV.encs] at h
  | a :: l, [], h => by simp [RV.encs] at h
  | a :: l, b :: m, h => by
    simp only [RV.encs, List.cons.injEq] at h
    rw [RV.inj h.1, RV.injs h.2]
end

mutual
def RV.deep : RV → Nat
  | .leaf _ _ _ => 1
  | .node _ _ x l => max x.deep (RV.deeps l) + 1
def RV.deeps : List RV → Nat
  | [] => 0
  | a :: r => max a.deep (RV.deeps r)
end
theorem RV.deeps_mem : ∀ {l : List RV} {x : RV}, x ∈ l → x.deep ≤ RV.deeps l
  | a :: l, x, h => by
    rcases List.mem_cons.1 h with rfl | h
    · simp only [RV.deeps]; omega
    · have := RV.deeps_mem h; simp only [RV.deeps]; omega
theorem RV.deep_kid {v x : RV} (h : x ∈ v.kids) : x.deep < v.deep := by
  cases v with
  | leaf k n e => simp [RV.kids] at h
  | node k n y l =>
    rcases List.mem_cons.1 h with rfl | h
    · simp only [RV.deep]; omega
    · have := RV.deeps_mem h; simp only [RV.deep]; omega
theorem RV.deep_pos (v : RV) : 0 < v.deep := by cases v <;> simp [RV.deep]

/-! functions that call themselves on the parts of a value -/
/-- a contract on values no deeper than so -/
def deepC {Y : Type} (f : FuncId) (enc : RV → Y → List AV) (res : RV → Y → FRes) (dom : RV → Y → Prop) (n : Nat) : Con where
  f := f
  X := RV × Y
  dom x := x.1.deep ≤ n ∧ dom x.1 x.2
  enc x := enc x.1 x.2
  res x := res x.1 x.2
def allC {Y : Type} (f : FuncId) (enc : RV → Y → List AV) (res : RV → Y → FRes) (dom : RV → Y → Prop) : Con where
  f := f
  X := RV × Y
  dom x := dom x.1 x.2
  enc x := enc x.1 x.2
  res x := res x.1 x.2

theorem deep_ok {Y : Type} {f : FuncId} {enc : RV → Y → List AV} {res : RV → Y → FRes} {dom : RV → Y → Prop} (cs : List Con) (hcs : ∀ d ∈ cs, d.Ok Tryz.prog ED)
    (hinj : ∀ v w y z, enc v y = enc w z → v = w)
    (hp : ∀ v y, dom v y → AV.persL (enc v y) = true ∧ (res v y).pers = true)
    (h : ∀ v y, dom v y → sumOf (deepC f enc res dom (v.deep - 1) :: cs) f ((enc v y).map AV.dead) = none → ∃ n, ∀ p : FRes → St → Prop, (∀ r S', r.melt S' = res v y → p r S') → GotF (callS ED (sumOf (deepC f enc res dom (v.deep - 1) :: cs)) n (.fn f) (enc v y) S0) p) :
    ∀ n, (deepC f enc res dom n).Ok Tryz.prog ED := by
  intro n
  induction n with
  | zero =>
    refine ⟨fun x hx => ?_, fun x hx => ?_⟩
    · exact absurd hx.1 (by have := x.1.deep_pos; omega)
    · exact absurd hx.1 (by have := x.1.deep_pos; omega)
  | succ n ih =>
    refine ⟨fun x hx => hp x.1 x.2 hx.2, fun x hx => ?_⟩
    by_cases hd : x.1.deep ≤ n
    · exact ih.sound x ⟨hd, hx.2⟩
    · have hn : x.1.deep - 1 = n := by have := hx.1; omega
      have hdx : dom x.1 x.2 := hx.2
      have key := h x.1 x.2 hdx
      rw [hn] at key
      have hpe := hp x.1 x.2 hdx
      have hdead : (enc x.1 x.2).map AV.dead = enc x.1 x.2 := map_dead (fun y hy => dead_of_pers y (AV.persL_iff.1 hpe.1 y hy))
      have hnone : sumOf (deepC f enc res dom n :: cs) f ((enc x.1 x.2).map AV.dead) = none := by
        rw [hdead]
        have hlook : (deepC f enc res dom n).look (enc x.1 x.2) = none := by
          refine Con.look_none fun (y : RV × Y) hy e => ?_
          have e' : enc y.1 y.2 = enc x.1 x.2 := e
          have := hinj _ _ _ _ e'
          have h1 : y.1.deep ≤ n := hy.1
          rw [this] at h1
          exact hd h1
        show (if f = f then (deepC f enc res dom n).look (enc x.1 x.2) else sumOf cs f (enc x.1 x.2)) = none
        exact (if_pos rfl).trans hlook
      obtain ⟨m, hm⟩ := key hnone
      obtain ⟨r, S', h1, h2⟩ := gotF_iff.1 (hm (fun r S' => r.melt S' = res x.1 x.2) (fun _ _ h => h))
      have hcs' : ∀ d ∈ deepC f enc res dom n :: cs, d.Ok Tryz.prog ED := by
        intro d hdm
        rcases List.mem_cons.1 hdm with rfl | hdm
        · exact ih
        · exact hcs d hdm
      show Sound Tryz.prog ED f (enc x.1 x.2) (res x.1 x.2)
      rw [← h2]
      exact sound_of ED_ok ED_pers (sumOf_ok hcs') h1 (by rw [h2]; exact hpe.2)

theorem all_ok {Y : Type} {f : FuncId} {enc : RV → Y → List AV} {res : RV → Y → FRes} {dom : RV → Y → Prop} (h : ∀ n, (deepC f enc res dom n).Ok Tryz.prog ED) : (allC f enc res dom).Ok Tryz.prog ED :=
  ⟨fun x hx => (h x.1.deep).pers x ⟨Nat.le_refl _, hx⟩, fun x hx => (h x.1.deep).sound x ⟨Nat.le_refl _, hx⟩⟩

theorem deep_use {Y : Type} {f : FuncId} {enc : RV → Y → List AV} {res : RV → Y → FRes} {dom : RV → Y → Prop} {m : Nat} {cs : List Con} (hinj : ∀ v w y z, enc v y = enc w z → v = w ∧ y = z) (hp : ∀ v y, dom v y → AV.persL (enc v y) = true)
    (h : sumOf cs f = (deepC f enc res dom m).look) {n : Nat} {v : RV} {y : Y} {S : St} (hd : v.deep ≤ m) (hv : dom v y) : callS ED (sumOf cs) n (.fn f) (enc v y) S = some (res v y, S) :=
  Con.use (c := deepC f enc res dom m) (fun (a b : RV × Y) _ _ e => by
    have e' : enc a.1 a.2 = enc b.1 b.2 := e
    obtain ⟨h1, h2⟩ := hinj _ _ _ _ e'
    show res a.1 a.2 = res b.1 b.2
    rw [h1, h2]) h ((v, y) : RV × Y) ⟨hd, hv⟩ (map_dead (fun x hx => dead_of_pers x (AV.persL_iff.1 (hp v y hv) x hx)))
theorem all_use {Y : Type} {f : FuncId} {enc : RV → Y → List AV} {res : RV → Y → FRes} {dom : RV → Y → Prop} {cs : List Con} (hinj : ∀ v w y z, enc v y = enc w z → v = w ∧ y = z) (hp : ∀ v y, dom v y → AV.persL (enc v y) = true)
    (h : sumOf cs f = (allC f enc res dom).look) {n : Nat} {v : RV} {y : Y} {S : St} (hv : dom v y) : callS ED (sumOf cs) n (.fn f) (enc v y) S = some (res v y, S) :=
  Con.use (c := allC f enc res dom) (fun (a b : RV × Y) _ _ e => by
    have e' : enc a.1 a.2 = enc b.1 b.2 := e
    obtain ⟨h1, h2⟩ := hinj _ _ _ _ e'
    show res a.1 a.2 = res b.1 b.2
    rw [h1, h2]) h ((v, y) : RV × Y) hv (map_dead (fun x hx => dead_of_pers x (AV.persL_iff.1 (hp v y hv) x hx)))

end Go.Proofs.YtpjcmiaanjcanaaGreatDoor

namespace Go.Proofs.YtpjcmiaanjcanaaGreatDoor
open Go Go.Vm Go.Vm.T
set_option maxRecDepth 100000
set_option linter.unusedSimpArgs false
set_option linter.unusedVariables false
attribute [local simp] inFrame startLoc startVals Loc.clear blockC Loc.putO Loc.put idx evO constV Loc.get Vm.look intA unwindA resultsA resultV actA pureA storeA loadA fillE repElems TI.zeroV fieldOf fieldAddrA fieldA elemsA retE cellsOf? setCells nowhere

set_option maxHeartbeats 4000000

mutual
def RV.sizeZ (m : Int) : RV → Int
  | .leaf _ _ _ => 1
  | .node _ _ x l => RV.sumZ m (if 1 ≤ m then IntKind.i64.wrap (1 + x.sizeZ m) else 1) l
def RV.sumZ (m : Int) : Int → List RV → Int
  | n, [] => n
  | n, a :: r => RV.sumZ m (if n ≤ m then IntKind.i64.wrap (n + a.sizeZ m) else n) r
end
theorem RV.sizeZ_kids (m : Int) (v : RV) : v.sizeZ m = RV.sumZ m 1 v.kids := by cases v <;> simp only [RV.sizeZ, RV.kids, RV.sumZ]
theorem RV.sumZ_stop {m : Int} : ∀ (l : List RV) {n : Int}, ¬ n ≤ m → RV.sumZ m n l = n
  | [], _, _ => by simp only [RV.sumZ]
  | a :: r, n, h => by simp only [RV.sumZ, if_neg h]; exact RV.sumZ_stop r h
theorem drop_kid {l : List RV} {j : Nat} (h : j < l.length) : l.drop j = l[j] :: l.drop (j + 1) := List.drop_eq_getElem_cons h

abbrev szEnc (v : RV) (m : Int) : List AV := [v.enc, .int .i64 m]
abbrev szRes (v : RV) (m : Int) : FRes := .ret (.int .i64 (v.sizeZ m))

theorem sz_inj : ∀ v w (y z : Int), szEnc v y = szEnc w z → v = w ∧ y = z := by
  intro v w y z h
  simp only [szEnc, List.cons.injEq, AV.int.injEq, true_and, and_true] at h
  exact ⟨RV.inj h.1, h.2⟩
theorem sz_pers (v : RV) (m : Int) : AV.persL (szEnc v m) = true := by simp [szEnc, AV.persL, AV.pers, RV.pers]

mutual
def RV.fit : RV → Prop
  | .leaf _ _ _ => True
  | .node _ _ x l => l.length + 1 ≤ maxLen ∧ x.fit ∧ RV.fits l
def RV.fits : List RV → Prop
  | [] => True
  | a :: r => a.fit ∧ RV.fits r
end
theorem RV.fits_mem : ∀ {l : List RV} {x : RV}, RV.fits l → x ∈ l → x.fit
  | a :: l, x, h, hx => by
    rcases List.mem_cons.1 hx with rfl | hx
    · exact h.1
    · exact RV.fits_mem h.2 hx
theorem RV.fit_kid {v x : RV} (h : v.fit) (hx : x ∈ v.kids) : x.fit := by
  cases v with
  | leaf k n e => simp [RV.kids] at hx
  | node k n y l =>
    rcases List.mem_cons.1 hx with rfl | hx
    · exact h.2.1
    · exact RV.fits_mem h.2.2 hx
theorem RV.fit_len {v : RV} (h : v.fit) : v.kids.length ≤ maxLen := by
  cases v with
  | leaf k n e => simp [RV.kids]
  | node k n y l => simpa [RV.kids] using h.1

theorem size_deep : ∀ n, (deepC 17 szEnc szRes (fun v _ => v.fit) n).Ok Tryz.prog ED := by
  refine deep_ok [] (by simp) (fun v w y z h => (sz_inj v w y z h).1) (fun v m _ => ⟨sz_pers v m, rfl⟩) ?_
  intro v m hv hnone
  refine ⟨v.kids.length + 2, fun p hp => ?_⟩
  have hr := fun (n : Nat) (j : Nat) (hj : j < v.kids.length) (S : St) => deep_use (f := 17) (enc := szEnc) (res := szRes) (dom := fun v _ => v.fit) (m := v.deep - 1) (cs := [deepC 17 szEnc szRes (fun v _ => v.fit) (v.deep - 1)]) sz_inj (fun v y _ => sz_pers v y) rfl (n := n) (v := v.kids[j]) (y := m) (S := S)
    (Nat.le_sub_one_of_lt (RV.deep_kid (List.getElem_mem hj))) (RV.fit_kid hv (List.getElem_mem hj))
  rw [callS_fn' hnone]
  have hlen := v.len
  have hidx := fun j (hj : j < v.kids.length) => v.index hj
  obtain ⟨hc1, hc2, hc3⟩ := v.cell
  have hsz := v.sizeZ_kids m
  have hmx := RV.fit_len hv
  have e := v.look
  generalize hl : v.kids = l at *
  simp only [szEnc, szRes, e] at hr hp ⊢
  generalize v.lst = A at *
  simp only [fnA, ED_fn17, fi17, Tryz.f17]
  simp [vmS, hc1]
  generalize hc : iter _ _ _ _ = c
  have hlt : (l.length : Int) < 9223372036854775808 := by unfold maxLen at hmx; omega
  obtain ⟨e1, L1, S1, rfl, hq⟩ := loop_of hc
    (fun r L S => ∃ j n sc, j + r = l.length ∧ RV.sumZ m n (l.drop j) = v.sizeZ m ∧ L = vloc [.agg [.int .i64 v.kind, .int .i64 v.num, A], .int .i64 m, .ptr 0 0, .int .i64 0, .int .i64 n, .int .i64 (j : Nat)] sc ∧
      S.cells? 0 = some [.int .i64 v.kind, .int .i64 v.num, A])
    (fun e L S => e = .exit 0 ∧ ∃ a sc, L = vloc [.agg [.int .i64 v.kind, .int .i64 v.num, A], .int .i64 m, .ptr 0 0, .int .i64 0, .int .i64 (v.sizeZ m), a] sc)
    l.length (by omega)
    ⟨0, 1, _, by simp, by rw [hsz]; rfl, rfl, by simp [push_at, put_at, n_push', n_put', cellsOf?]⟩
    (by
      rintro r L S ⟨j, n, sc, hjk, hs, rfl, h0⟩ q hq1 hq2
      by_cases hj : j < l.length
      · have hw : IntKind.i64.wrap ((j : Int) + 1) = ((j : Int) + 1) := wrap_id (by omega) (by omega)
        have x1 := hidx j hj
        have x2 := fun n S => hr n j hj S
        rw [drop_kid hj] at hs
        generalize l[j] = x at *
        have xe := x.look
        obtain ⟨y1, y2, y3⟩ := x.cell
        rw [xe] at x1 x2
        by_cases hn : n ≤ m
        · simp only [RV.sumZ, if_pos hn] at hs
          generalize RV.sizeZ m x = z at *
          generalize x.kind = xk at *
          generalize x.num = xn at *
          generalize x.lst = xl at *
          simp [vmS, vloc, h0, hlen, hj, hn, x1, x2, y1, y2, y3, hw]
          exact hq1 (r - 1) _ _ (by omega) ⟨j + 1, _, _, by omega, hs, rfl, h0⟩
        · simp only [RV.sumZ, if_neg hn] at hs
          rw [RV.sumZ_stop _ hn] at hs
          simp [vmS, vloc, h0, hlen, hj, hn]
          exact hq2 _ _ _ (by simp) ⟨rfl, _, _, by rw [← hs]; rfl⟩
      · have hjl : j = l.length := by omega
        subst hjl
        rw [List.drop_length] at hs
        simp only [RV.sumZ] at hs
        simp [vmS, vloc, h0, hlen]
        exact hq2 _ _ _ (by simp) ⟨rfl, _, _, by rw [← hs]; rfl⟩)
  obtain ⟨rfl, a, sc, rfl⟩ := hq
  simp [vmS, vloc]
  exact hp _ _ rfl

def sizeZC : Con := allC 17 szEnc szRes (fun v _ => v.fit)
theorem sizeZ_ok : sizeZC.Ok Tryz.prog ED := all_ok size_deep
theorem sizeZ_use {cs : List Con} (h : sumOf cs 17 = sizeZC.look) {n : Nat} {v : RV} {m : Int} {S : St} (hv : v.fit) : callS ED (sumOf cs) n (.fn 17) [v.enc, .int .i64 m] S = some (.ret (.int .i64 (v.sizeZ m)), S) :=
  all_use (f := 17) (enc := szEnc) (res := szRes) (dom := fun v _ => v.fit) sz_inj (fun v y _ => sz_pers v y) h hv

/-! great -/
def greatC : Con where
  f := 4
  X := RV × Int
  dom x := x.1.fit
  enc x := [x.1.enc, .int .i64 x.2]
  res x := .ret (.bool (decide (x.2 < x.1.sizeZ x.2)))
theorem great_ok : greatC.Ok Tryz.prog ED := by
  refine Con.ok_at ED_ok ED_pers [sizeZC] (by simpa using sizeZ_ok) (fun (x : RV × Int) _ => ⟨by show AV.persL [x.1.enc, .int .i64 x.2] = true; simp [AV.persL, AV.pers, RV.pers], rfl⟩) ?_
  rintro ⟨v, m⟩ hv
  replace hv : v.fit := hv
  show ∃ n, ∀ p : FRes → St → Prop, (∀ r S', r.melt S' = .ret (.bool (decide (m < v.sizeZ m))) → p r S') → GotF (callS ED (sumOf [sizeZC]) n (.fn 4) [v.enc, .int .i64 m] S0) p
  refine ⟨1, fun p hp => ?_⟩
  rw [callS_fn rfl]
  have hs := fun (n : Nat) (S : St) => sizeZ_use (cs := [sizeZC]) rfl (n := n) (S := S) (m := m) hv
  have e := v.look
  obtain ⟨c1, c2, c3⟩ := v.cell
  rw [e] at hs ⊢
  generalize v.lst = A at *
  simp only [fnA, ED_fn4, fi4, Tryz.f4]
  simp [vmS, c1, c2, hs]
  exact hp _ _ rfl
theorem great_use {cs : List Con} (h : sumOf cs 4 = greatC.look) {n : Nat} {v : RV} {m : Int} {S : St} (hv : v.fit) : callS ED (sumOf cs) n (.fn 4) [v.enc, .int .i64 m] S = some (.ret (.bool (decide (m < v.sizeZ m))), S) :=
  Con.use (c := greatC) (fun (x y : RV × Int) _ _ h => by
    have h' : [x.1.enc, AV.int .i64 x.2] = [y.1.enc, AV.int .i64 y.2] := h
    simp only [List.cons.injEq, AV.int.injEq, true_and, and_true] at h'
    show FRes.ret (.bool (decide (x.2 < x.1.sizeZ x.2))) = .ret (.bool (decide (y.2 < y.1.sizeZ y.2)))
    rw [RV.inj h'.1, h'.2]) h ((v, m) : RV × Int) hv (by show [v.enc.dead, _] = [v.enc, _]; simp [AV.dead])

end Go.Proofs.YtpjcmiaanjcanaaGreatDoor

namespace Go.Proofs.YtpjcmiaanjcanaaGreatDoor
open Go Go.Vm Go.Vm.T
set_option maxRecDepth 100000
set_option linter.unusedSimpArgs false
set_option linter.unusedVariables false
attribute [local simp] inFrame startLoc startVals Loc.clear blockC Loc.putO Loc.put idx evO constV Loc.get Vm.look intA unwindA resultsA resultV actA pureA storeA loadA fillE repElems TI.zeroV fieldOf fieldAddrA fieldA elemsA retE cellsOf? setCells nowhere

set_option maxHeartbeats 4000000

/-! how many nodes, as words; too long -/
mutual
def RV.sizeW : RV → Int
  | .leaf _ _ _ => 1
  | .node _ _ x l => RV.sumW (IntKind.i64.wrap (1 + x.sizeW)) l
def RV.sumW : Int → List RV → Int
  | n, [] => n
  | n, a :: r => RV.sumW (IntKind.i64.wrap (n + a.sizeW)) r
end
theorem RV.sizeW_kids (v : RV) : v.sizeW = RV.sumW 1 v.kids := by cases v <;> simp only [RV.sizeW, RV.kids, RV.sumW]

abbrev vEnc (v : RV) (_ : Unit) : List AV := [v.enc]
theorem v_inj : ∀ v w (y z : Unit), vEnc v y = vEnc w z → v = w ∧ y = z := by
  intro v w y z h
  simp only [vEnc, List.cons.injEq, and_true] at h
  exact ⟨RV.inj h, rfl⟩
theorem v_pers (v : RV) (u : Unit) : AV.persL (vEnc v u) = true := by simp [vEnc, AV.persL, RV.pers]

abbrev swRes (v : RV) (_ : Unit) : FRes := .ret (.int .i64 v.sizeW)
abbrev vDom (v : RV) (_ : Unit) : Prop := v.fit

theorem sizeW_deep : ∀ n, (deepC 54 vEnc swRes vDom n).Ok Tryz.prog ED := by
  refine deep_ok [] (by simp) (fun v w y z h => (v_inj v w y z h).1) (fun v m _ => ⟨v_pers v m, rfl⟩) ?_
  intro v m hv hnone
  replace hv : v.fit := hv
  refine ⟨v.kids.length + 2, fun p hp => ?_⟩
  have hr := fun (n : Nat) (j : Nat) (hj : j < v.kids.length) (S : St) => deep_use (f := 54) (enc := vEnc) (res := swRes) (dom := vDom) (m := v.deep - 1) (cs := [deepC 54 vEnc swRes vDom (v.deep - 1)]) v_inj (fun v y _ => v_pers v y) rfl (n := n) (v := v.kids[j]) (y := ()) (S := S)
    (Nat.le_sub_one_of_lt (RV.deep_kid (List.getElem_mem hj))) (RV.fit_kid hv (List.getElem_mem hj))
  rw [callS_fn' hnone]
  have hlen := v.len
  have hidx := fun j (hj : j < v.kids.length) => v.index hj
  obtain ⟨hc1, hc2, hc3⟩ := v.cell
  have hsz := v.sizeW_kids
  have hmx := RV.fit_len hv
  have e := v.look
  generalize hl : v.kids = l at *
  simp only [vEnc, swRes, e] at hr hp ⊢
  generalize v.lst = A at *
  simp only [fnA, ED_fn54, fi54, Tryz.f54]
  simp [vmS, hc1]
  generalize hc : iter _ _ _ _ = c
  have hlt : (l.length : Int) < 9223372036854775808 := by unfold maxLen at hmx; omega
  obtain ⟨e1, L1, S1, rfl, hq⟩ := loop_of hc
    (fun r L S => ∃ j n sc, j + r = l.length ∧ RV.sumW n (l.drop j) = v.sizeW ∧ L = vloc [.agg [.int .i64 v.kind, .int .i64 v.num, A], .ptr 0 0, .int .i64 0, .int .i64 n, .int .i64 (j : Nat)] sc ∧
      S.cells? 0 = some [.int .i64 v.kind, .int .i64 v.num, A])
    (fun e L S => e = .exit 0 ∧ ∃ a sc, L = vloc [.agg [.int .i64 v.kind, .int .i64 v.num, A], .ptr 0 0, .int .i64 0, .int .i64 v.sizeW, a] sc)
    l.length (by omega)
    ⟨0, 1, _, by simp, by rw [hsz]; rfl, rfl, by simp [push_at, put_at, n_push', n_put', cellsOf?]⟩
    (by
      rintro r L S ⟨j, n, sc, hjk, hs, rfl, h0⟩ q hq1 hq2
      by_cases hj : j < l.length
      · have hw : IntKind.i64.wrap ((j : Int) + 1) = ((j : Int) + 1) := wrap_id (by omega) (by omega)
        have x1 := hidx j hj
        have x2 := fun n S => hr n j hj S
        rw [drop_kid hj] at hs
        simp only [RV.sumW] at hs
        generalize l[j] = x at *
        have xe := x.look
        obtain ⟨y1, y2, y3⟩ := x.cell
        rw [xe] at x1 x2
        generalize RV.sizeW x = z at *
        generalize x.kind = xk at *
        generalize x.num = xn at *
        generalize x.lst = xl at *
        simp [vmS, vloc, h0, hlen, hj, x1, x2, y1, y2, y3, hw]
        exact hq1 (r - 1) _ _ (by omega) ⟨j + 1, _, _, by omega, hs, rfl, h0⟩
      · have hjl : j = l.length := by omega
        subst hjl
        rw [List.drop_length] at hs
        simp only [RV.sumW] at hs
        simp [vmS, vloc, h0, hlen]
        exact hq2 _ _ _ (by simp) ⟨rfl, _, _, by rw [← hs]; rfl⟩)
  obtain ⟨rfl, a, sc, rfl⟩ := hq
  simp [vmS, vloc]
  exact hp _ _ rfl

def sizeWC : Con := allC 54 vEnc swRes vDom
theorem sizeW_ok : sizeWC.Ok Tryz.prog ED := all_ok sizeW_deep
theorem sizeW_use {cs : List Con} (h : sumOf cs 54 = sizeWC.look) {n : Nat} {v : RV} {S : St} (hv : v.fit) : callS ED (sumOf cs) n (.fn 54) [v.enc] S = some (.ret (.int .i64 v.sizeW), S) :=
  all_use (f := 54) (enc := vEnc) (res := swRes) (dom := vDom) v_inj (fun v y _ => v_pers v y) h (y := ()) hv

mutual
def RV.long : RV → Bool
  | .leaf _ _ _ => false
  | .node k _ x l => decide (k = 4 ∧ 4096 < l.length + 1) || (x.long || RV.longs l)
def RV.longs : List RV → Bool
  | [] => false
  | a :: r => a.long || RV.longs r
end
theorem RV.long_kids (v : RV) : v.long = (decide (v.kind = 4 ∧ 4096 < v.kids.length) || RV.longs v.kids) := by
  cases v with
  | leaf k n e => simp [RV.long, RV.kids, RV.longs, RV.kind]
  | node k n x l =>
    rw [RV.long]
    exact congrArg (fun b => b || (x.long || RV.longs l)) (decide_eq_decide.2 Iff.rfl)

abbrev loRes (v : RV) (_ : Unit) : FRes := .ret (.bool v.long)

theorem long_deep : ∀ n, (deepC 55 vEnc loRes vDom n).Ok Tryz.prog ED := by
  refine deep_ok [] (by simp) (fun v w y z h => (v_inj v w y z h).1) (fun v m _ => ⟨v_pers v m, rfl⟩) ?_
  intro v m hv hnone
  replace hv : v.fit := hv
  refine ⟨v.kids.length + 2, fun p hp => ?_⟩
  have hr := fun (n : Nat) (j : Nat) (hj : j < v.kids.length) (S : St) => deep_use (f := 55) (enc := vEnc) (res := loRes) (dom := vDom) (m := v.deep - 1) (cs := [deepC 55 vEnc loRes vDom (v.deep - 1)]) v_inj (fun v y _ => v_pers v y) rfl (n := n) (v := v.kids[j]) (y := ()) (S := S)
    (Nat.le_sub_one_of_lt (RV.deep_kid (List.getElem_mem hj))) (RV.fit_kid hv (List.getElem_mem hj))
  rw [callS_fn' hnone]
  have hlen := v.len
  have hidx := fun j (hj : j < v.kids.length) => v.index hj
  obtain ⟨hc1, hc2, hc3⟩ := v.cell
  have hsz := v.long_kids
  have hmx := RV.fit_len hv
  have e := v.look
  generalize hl : v.kids = l at *
  simp only [vEnc, loRes, e] at hr hp ⊢
  generalize v.lst = A at *
  generalize v.long = B at *
  generalize v.kind = k at *
  have hlt : (l.length : Int) < 9223372036854775808 := by unfold maxLen at hmx; omega
  simp only [fnA, ED_fn55, fi55, Tryz.f55]
  by_cases hbig : k = 4 ∧ 4096 < l.length
  · obtain ⟨rfl, hb⟩ := hbig
    have hbi : (4096 : Int) < (l.length : Int) := by omega
    have hB : B = true := by rw [hsz]; simp [hb]
    subst hB
    simp [vmS, hc1, hlen, hb, hbi]
    exact hp _ _ rfl
  · have hB : B = RV.longs l := by rw [hsz]; simp [hbig]
    have hfin : ∀ (n' : Nat) (c : CRes) (sc : List (Tmp × AV)) (body : Vm.Loc → St → CRes), iter n' body (vloc [.agg [.int .i64 k, .int .i64 v.num, A], .ptr 0 0, .bool false, .int .i64 0] sc) (S0.push (.cells [.int .i64 k, .int .i64 v.num, A])) = c → l.length < n' →
        (∀ (j : Nat) (sc : List (Tmp × AV)) (S : St), j ≤ l.length → S.cells? 0 = some [.int .i64 k, .int .i64 v.num, A] → ∀ q : Ex → Vm.Loc → St → Prop,
          (∀ (hj : j < l.length), l[j].long = false → ∀ sc, q .normal (vloc [.agg [.int .i64 k, .int .i64 v.num, A], .ptr 0 0, .bool false, .int .i64 ((j : Int) + 1)] sc) S) →
          (∀ (hj : j < l.length), l[j].long = true → ∀ sc, q .ret (vloc [.agg [.int .i64 k, .int .i64 v.num, A], .ptr 0 0, .bool true, .int .i64 (j : Nat)] sc) S) →
          (j = l.length → ∀ sc, q (.exit 0) (vloc [.agg [.int .i64 k, .int .i64 v.num, A], .ptr 0 0, .bool false, .int .i64 (j : Nat)] sc) S) →
          Got (body (vloc [.agg [.int .i64 k, .int .i64 v.num, A], .ptr 0 0, .bool false, .int .i64 (j : Nat)] []) S) q) →
        ∃ e j sc S, c = some (e, vloc [.agg [.int .i64 k, .int .i64 v.num, A], .ptr 0 0, .bool B, .int .i64 j] sc, S) ∧ ((e = .ret ∧ B = true) ∨ (e = .exit 0 ∧ B = false)) := by
      intro n' c sc body hc hn' hstep
      obtain ⟨e, L', S', rfl, j, sc, rfl, h1⟩ := loop_of hc
        (fun r L S => ∃ j sc, j + r = l.length ∧ RV.longs (l.drop j) = B ∧ L = vloc [.agg [.int .i64 k, .int .i64 v.num, A], .ptr 0 0, .bool false, .int .i64 (j : Nat)] sc ∧ S.cells? 0 = some [.int .i64 k, .int .i64 v.num, A])
        (fun e L S => ∃ j sc, L = vloc [.agg [.int .i64 k, .int .i64 v.num, A], .ptr 0 0, .bool B, .int .i64 j] sc ∧ ((e = .ret ∧ B = true) ∨ (e = .exit 0 ∧ B = false)))
        l.length hn' ⟨0, sc, by simp, by rw [hB]; rfl, rfl, by simp [push_at, put_at, n_push', n_put', cellsOf?]⟩
        (by
          rintro r L S ⟨j, sc, hjk, hs, rfl, h0⟩ q hq1 hq2
          refine hstep j sc S (by omega) h0 q (fun hj hx sc => ?_) (fun hj hx sc => ?_) (fun hj sc => ?_)
          · rw [drop_kid hj] at hs
            simp only [RV.longs, hx, Bool.false_or] at hs
            exact hq1 (r - 1) _ _ (by omega) ⟨j + 1, sc, by omega, hs, rfl, h0⟩
          · rw [drop_kid hj] at hs
            simp only [RV.longs, hx, Bool.true_or] at hs
            exact hq2 _ _ _ (by simp) ⟨_, sc, by rw [← hs], .inl ⟨rfl, hs.symm⟩⟩
          · subst hj
            rw [List.drop_length] at hs
            simp only [RV.longs] at hs
            exact hq2 _ _ _ (by simp) ⟨_, sc, by rw [← hs], .inr ⟨rfl, hs.symm⟩⟩)
      exact ⟨e, j, sc, S', rfl, h1⟩
    by_cases hk : k = 4
    · have hb : ¬ 4096 < l.length := fun h => hbig ⟨hk, h⟩
      have hbi : ¬ (4096 : Int) < (l.length : Int) := by omega
      simp [vmS, hc1, hlen, hb, hbi, hk]
      rw [hk] at hfin
      generalize hc : iter _ _ _ _ = c
      obtain ⟨e, j, sc, S, rfl, h1⟩ := hfin _ _ _ _ hc (by omega) (by
        intro j sc S hj0 h0 q h1 h2 h3
        by_cases hj : j < l.length
        · have hw : IntKind.i64.wrap ((j : Int) + 1) = ((j : Int) + 1) := wrap_id (by omega) (by omega)
          have x1 := hidx j hj
          have x2 := fun n S => hr n j hj S
          have h1' := h1 hj
          have h2' := h2 hj
          generalize l[j] = x at *
          have xe := x.look
          obtain ⟨y1, y2, y3⟩ := x.cell
          rw [xe] at x1 x2
          generalize x.kind = xk at *
          generalize x.num = xn at *
          generalize x.lst = xl at *
          cases hx : x.long with
          | true =>
            rw [hx] at x2
            simp [vmS, vloc, h0, hlen, hj, x1, x2, y1, y2, y3]
            exact h2' hx _
          | false =>
            rw [hx] at x2
            simp [vmS, vloc, h0, hlen, hj, x1, x2, y1, y2, y3, hw]
            exact h1' hx _
        · have hjl : j = l.length := by omega
          subst hjl
          simp [vmS, vloc, h0, hlen]
          exact h3 rfl _)
      rcases h1 with ⟨rfl, hB2⟩ | ⟨rfl, hB2⟩
      · simp [vmS, vloc]
        exact hp _ _ rfl
      · rw [hB2] at hp
        simp [vmS, vloc]
        exact hp _ _ rfl
    · simp [vmS, hc1, hlen, hk]
      generalize hc : iter _ _ _ _ = c
      obtain ⟨e, j, sc, S, rfl, h1⟩ := hfin _ _ _ _ hc (by omega) (by
        intro j sc S hj0 h0 q h1 h2 h3
        by_cases hj : j < l.length
        · have hw : IntKind.i64.wrap ((j : Int) + 1) = ((j : Int) + 1) := wrap_id (by omega) (by omega)
          have x1 := hidx j hj
          have x2 := fun n S => hr n j hj S
          have h1' := h1 hj
          have h2' := h2 hj
          generalize l[j] = x at *
          have xe := x.look
          obtain ⟨y1, y2, y3⟩ := x.cell
          rw [xe] at x1 x2
          generalize x.kind = xk at *
          generalize x.num = xn at *
          generalize x.lst = xl at *
          cases hx : x.long with
          | true =>
            rw [hx] at x2
            simp [vmS, vloc, h0, hlen, hj, x1, x2, y1, y2, y3]
            exact h2' hx _
          | false =>
            rw [hx] at x2
            simp [vmS, vloc, h0, hlen, hj, x1, x2, y1, y2, y3, hw]
            exact h1' hx _
        · have hjl : j = l.length := by omega
          subst hjl
          simp [vmS, vloc, h0, hlen]
          exact h3 rfl _)
      rcases h1 with ⟨rfl, hB2⟩ | ⟨rfl, hB2⟩
      · simp [vmS, vloc]
        exact hp _ _ rfl
      · rw [hB2] at hp
        simp [vmS, vloc]
        exact hp _ _ rfl

def longC : Con := allC 55 vEnc loRes vDom
theorem long_ok : longC.Ok Tryz.prog ED := all_ok long_deep
theorem long_use {cs : List Con} (h : sumOf cs 55 = longC.look) {n : Nat} {v : RV} {S : St} (hv : v.fit) : callS ED (sumOf cs) n (.fn 55) [v.enc] S = some (.ret (.bool v.long), S) :=
  all_use (f := 55) (enc := vEnc) (res := loRes) (dom := vDom) v_inj (fun v y _ => v_pers v y) h (y := ()) hv

end Go.Proofs.YtpjcmiaanjcanaaGreatDoor

namespace Go.Proofs.YtpjcmiaanjcanaaGreatDoor
open Go Go.Vm Go.Vm.T
set_option maxRecDepth 100000
set_option linter.unusedSimpArgs false
set_option linter.unusedVariables false
attribute [local simp] inFrame startLoc startVals Loc.clear blockC Loc.putO Loc.put idx evO constV Loc.get Vm.look intA unwindA resultsA resultV actA pureA storeA loadA fillE repElems TI.zeroV fieldOf fieldAddrA fieldA elemsA retE cellsOf? setCells nowhere

set_option maxHeartbeats 4000000

/-- all objects but one are as they were -/
structure Same (q : Nat) (S S' : St) : Prop where
  n : S.n ≤ S'.n
  cells : ∀ k cs, k ≠ q → S.cells? k = some cs → S'.cells? k = some cs

theorem Same.trans {q : Nat} {A B C : St} (h : Same q A B) (k : Same q B C) : Same q A C := ⟨Nat.le_trans h.n k.n, fun i cs hi x => k.cells i cs hi (h.cells i cs hi x)⟩
theorem Same.push {q : Nat} {S : St} {o : AO} : Same q S (S.push o) := ⟨by rw [n_push']; omega, fun k cs _ h => cells_push h⟩
theorem Same.box {q : Nat} {S : St} {o o' : AO} : Same q S ((S.push o).put S.n o') := ⟨by rw [n_put', n_push']; omega, fun k cs _ h => cells_box h⟩
theorem Same.put {q : Nat} {S : St} {o : AO} {cs : List AV} (hq : S.cells? q = some cs) : Same q S (S.put q o) := ⟨by rw [n_put']; omega, fun k cs' hk h => cells_put hq h hk⟩

/-! how many nodes, up to a limit -/
mutual
def RV.walkN (m : Nat) : RV → Nat × Bool
  | .leaf _ _ _ => if 20000 < m + 1 then (m + 1, false) else (m + 1, true)
  | .node k _ x l => if 20000 < m + 1 ∨ (k = 4 ∧ 4096 < l.length + 1) then (m + 1, false) else
      match x.walkN (m + 1) with
      | (m', false) => (m', false)
      | (m', true) => RV.walksN m' l
def RV.walksN (m : Nat) : List RV → Nat × Bool
  | [] => (m, true)
  | a :: r =>
    match a.walkN m with
    | (m', false) => (m', false)
    | (m', true) => RV.walksN m' r
end
theorem RV.walkN_kids (m : Nat) (v : RV) : v.walkN m = if 20000 < m + 1 ∨ (v.kind = 4 ∧ 4096 < v.kids.length) then (m + 1, false) else RV.walksN (m + 1) v.kids := by
  cases v with
  | leaf k n e => simp [RV.walkN, RV.kids, RV.walksN]
  | node k n x l =>
    rw [RV.walkN]
    simp only [RV.kind, RV.kids, List.length_cons, RV.walksN]

mutual
def RV.fuel : RV → Nat
  | .leaf _ _ _ => 6
  | .node _ _ x l => max (l.length + 6) (max x.fuel (RV.fuels l)) + 1
def RV.fuels : List RV → Nat
  | [] => 0
  | a :: r => max a.fuel (RV.fuels r)
end
theorem RV.fuels_mem : ∀ {l : List RV} {x : RV}, x ∈ l → x.fuel ≤ RV.fuels l
  | a :: l, x, h => by
    rcases List.mem_cons.1 h with rfl | h
    · simp only [RV.fuels]; omega
    · have := RV.fuels_mem h; simp only [RV.fuels]; omega
theorem RV.fuel_kid {v x : RV} (h : x ∈ v.kids) : x.fuel + 1 ≤ v.fuel := by
  cases v with
  | leaf k n e => simp [RV.kids] at h
  | node k n y l =>
    rcases List.mem_cons.1 h with rfl | h
    · simp only [RV.fuel]; omega
    · have := RV.fuels_mem h; simp only [RV.fuel]; omega
theorem RV.fuel_len (v : RV) : v.kids.length + 6 ≤ v.fuel := by
  cases v with
  | leaf k n e => simp [RV.kids, RV.fuel]
  | node k n y l => simp only [RV.kids, RV.fuel, List.length_cons]; omega

theorem RV.walk_le : ∀ (d : Nat) (v : RV) (m m' : Nat), v.deep ≤ d → v.walkN m = (m', true) → m' ≤ 20000 := by
  intro d
  induction d with
  | zero => intro v m m' h; have := v.deep_pos; omega
  | succ d ih =>
    intro v m m' hd h
    rw [RV.walkN_kids] at h
    split at h
    · simp at h
    · rename_i hn
      have hm : m + 1 ≤ 20000 := by omega
      have hk : ∀ x ∈ v.kids, x.deep ≤ d := fun x hx => by have := RV.deep_kid hx; omega
      clear hn
      generalize v.kids = l at *
      generalize m + 1 = k at *
      induction l generalizing k with
      | nil => simp [RV.walksN] at h; omega
      | cons a l ihl =>
        rw [RV.walksN] at h
        rcases hw : a.walkN k with ⟨k', b⟩
        rw [hw] at h
        cases b with
        | false => simp at h
        | true => exact ihl (fun x hx => hk x (by simp [hx])) k' (ih a k k' (hk a (by simp)) hw) h

theorem walk_ev (cs : List Con) (hcs : sumOf cs 82 = fun _ => none) : ∀ (d : Nat) (v : RV), v.deep < d → v.fit → ∀ (n pm pw m : Nat) (S : St), v.fuel ≤ n → pm ≠ pw → m ≤ 20000 → S.cells? pm = some [.int .i64 m] →
    S.cells? pw = some [.fn 82 [] [.ptr pm 0, .ptr pw 0]] → ∃ S', callS ED (sumOf cs) n (.fn 82) [v.enc, .ptr pm 0, .ptr pw 0] S = some (.ret (.bool (v.walkN m).2), S') ∧ Same pm S S' ∧ S'.cells? pm = some [.int .i64 ((v.walkN m).1 : Nat)] := by
  intro d
  induction d with
  | zero => intro v h; omega
  | succ d ih =>
    intro v hd hf n pm pw m S hn hne hm20 hm hw
    have hfl := v.fuel_len
    obtain ⟨n, rfl⟩ : ∃ n', n = n' + 1 := ⟨n - 1, by omega⟩
    have e := v.look
    obtain ⟨hc1, hc2, hc3⟩ := v.cell
    have hlen := v.len
    have hidx := fun j (hj : j < v.kids.length) => v.index hj
    have hwk := v.walkN_kids m
    have hmx := RV.fit_len hf
    suffices hgot : ∀ p : FRes → St → Prop, (∀ S', Same pm S S' → S'.cells? pm = some [.int .i64 ((v.walkN m).1 : Nat)] → p (.ret (.bool (v.walkN m).2)) S') → GotF (callS ED (sumOf cs) (n + 1) (.fn 82) [v.enc, .ptr pm 0, .ptr pw 0] S) p by
      obtain ⟨r, S', h1, rfl, h2, h3⟩ := gotF_iff.1 (hgot (fun r S' => r = .ret (.bool (v.walkN m).2) ∧ Same pm S S' ∧ S'.cells? pm = some [.int .i64 ((v.walkN m).1 : Nat)]) (fun S' h1 h2 => ⟨rfl, h1, h2⟩))
      exact ⟨S', h1, h2, h3⟩
    intro p hp
    rw [callS_fn hcs]
    simp only [fnA, ED_fn82, fi82, Tryz.f82]
    rw [e]
    have hkd : ∀ j (h : j < v.kids.length), v.kids[j].deep < d ∧ v.kids[j].fit ∧ v.kids[j].fuel ≤ n := fun j h => ⟨by have := RV.deep_kid (List.getElem_mem h); omega, RV.fit_kid hf (List.getElem_mem h), by have := RV.fuel_kid (List.getElem_mem h); omega⟩
    generalize hl : v.kids = l at *
    generalize v.lst = A at *
    generalize v.kind = k at *
    generalize v.num = z at *
    have hlt : (l.length : Int) < 9223372036854775808 := by unfold maxLen at hmx; omega
    have hw1 : IntKind.i64.wrap ((m : Int) + 1) = ((m : Int) + 1) := wrap_id (by omega) (by omega)
    have hmlt := St.get_lt (cells?_inv hm)
    have hm1 := cells_push (o := .cells [.int .i64 k, .int .i64 z, A]) hm
    have hm2 := cells_put_self (ds := [.int .i64 ((m : Int) + 1)]) hm1
    have hsm : Same pm S ((S.push (.cells [.int .i64 k, .int .i64 z, A])).put pm (.cells [.int .i64 ((m : Int) + 1)])) := Same.push.trans (Same.put hm1)
    have hb : ((S.push (.cells [.int .i64 k, .int .i64 z, A])).put pm (.cells [.int .i64 ((m : Int) + 1)])).cells? S.n = some [.int .i64 k, .int .i64 z, A] :=
      cells_put hm1 (cells?_push_self _ _) (by omega)
    by_cases hgt : (20000 : Int) < (m : Int) + 1
    · have h20 : v.walkN m = (m + 1, false) := by rw [hwk, if_pos (.inl (by omega))]
      rw [h20] at hp
      simp [vmS, hc1, hm1, hw1, hm2, hgt]
      exact hp _ hsm (by rw [hm2]; rfl)
    · by_cases hbig : k = 4 ∧ 4096 < l.length
      · have h20 : v.walkN m = (m + 1, false) := by rw [hwk, if_pos (.inr hbig)]
        rw [h20] at hp
        obtain ⟨rfl, hb4⟩ := hbig
        have hb5 : (4096 : Int) < (l.length : Int) := by omega
        simp [vmS, hc1, hm1, hw1, hm2, hgt, hb, hlen, hb4, hb5]
        exact hp _ hsm (by rw [hm2]; rfl)
      · have h20 : v.walkN m = RV.walksN (m + 1) l := by rw [hwk, if_neg (by omega)]
        rw [h20] at hp
        have hfin : ∀ (n' : Nat) (body : Vm.Loc → St → CRes) (a0 a3 a6 : AV) (sc : List (Tmp × AV)) (S1 : St) (c : CRes), iter n' body (vloc [a0, .ptr pm 0, .ptr pw 0, a3, .bool false, a6, A, .int .i64 l.length, .int .i64 0] sc) S1 = c →
            l.length < n' → Same pm S S1 → S1.cells? pm = some [.int .i64 (m + 1 : Nat)] →
            (∀ (j : Nat) (hj : j < l.length) (a6 : AV) (m1 : Nat) (S1 : St), Same pm S S1 → m1 ≤ 20000 → S1.cells? pm = some [.int .i64 (m1 : Nat)] →
              ∀ q : Ex → Vm.Loc → St → Prop, (∀ a6 sc S2, Same pm S S2 → S2.cells? pm = some [.int .i64 ((l[j].walkN m1).1 : Nat)] → (l[j].walkN m1).2 = true → q .normal (vloc [a0, .ptr pm 0, .ptr pw 0, a3, .bool false, a6, A, .int .i64 l.length, .int .i64 ((j : Int) + 1)] sc) S2) →
              (∀ a6 sc S2, Same pm S S2 → S2.cells? pm = some [.int .i64 ((l[j].walkN m1).1 : Nat)] → (l[j].walkN m1).2 = false → q .ret (vloc [a0, .ptr pm 0, .ptr pw 0, a3, .bool false, a6, A, .int .i64 l.length, .int .i64 (j : Nat)] sc) S2) →
              Got (body (vloc [a0, .ptr pm 0, .ptr pw 0, a3, .bool false, a6, A, .int .i64 l.length, .int .i64 j] []) S1) q) →
            (∀ (a6 : AV) (S1 : St) (q : Ex → Vm.Loc → St → Prop), (∀ sc, q (.exit 0) (vloc [a0, .ptr pm 0, .ptr pw 0, a3, .bool false, a6, A, .int .i64 l.length, .int .i64 l.length] sc) S1) →
              Got (body (vloc [a0, .ptr pm 0, .ptr pw 0, a3, .bool false, a6, A, .int .i64 l.length, .int .i64 l.length] []) S1) q) →
            ∃ e a6 j sc S2, c = some (e, vloc [a0, .ptr pm 0, .ptr pw 0, a3, .bool false, a6, A, .int .i64 l.length, .int .i64 j] sc, S2) ∧ Same pm S S2 ∧ S2.cells? pm = some [.int .i64 ((RV.walksN (m + 1) l).1 : Nat)] ∧
              ((e = .exit 0 ∧ (RV.walksN (m + 1) l).2 = true) ∨ (e = .ret ∧ (RV.walksN (m + 1) l).2 = false)) := by
          intro n' body a0 a3 a6 sc S1 c hc hn' hs1 hc1 hstep hlast
          obtain ⟨e, L', S', rfl, a6, j, sc, rfl, h1, h2, h3⟩ := loop_of hc
            (fun r L S1 => ∃ j m1 a6 sc, j + r = l.length ∧ RV.walksN m1 (l.drop j) = RV.walksN (m + 1) l ∧ m1 ≤ 20000 ∧ L = vloc [a0, .ptr pm 0, .ptr pw 0, a3, .bool false, a6, A, .int .i64 l.length, .int .i64 (j : Nat)] sc ∧ Same pm S S1 ∧ S1.cells? pm = some [.int .i64 (m1 : Nat)])
            (fun e L S1 => ∃ a6 j sc, L = vloc [a0, .ptr pm 0, .ptr pw 0, a3, .bool false, a6, A, .int .i64 l.length, .int .i64 j] sc ∧ Same pm S S1 ∧ S1.cells? pm = some [.int .i64 ((RV.walksN (m + 1) l).1 : Nat)] ∧
              ((e = .exit 0 ∧ (RV.walksN (m + 1) l).2 = true) ∨ (e = .ret ∧ (RV.walksN (m + 1) l).2 = false)))
            l.length hn' ⟨0, m + 1, a6, sc, by simp, rfl, by omega, rfl, hs1, hc1⟩
            (by
              rintro r L S1 ⟨j, m1, a6, sc, hj, hws, hm1, rfl, h1, h2⟩ q hq1 hq2
              by_cases hjl : j < l.length
              · rw [drop_kid hjl, RV.walksN] at hws
                refine hstep j hjl a6 m1 S1 h1 hm1 h2 q (fun a6 sc S2 h3 h4 h5 => ?_) (fun a6 sc S2 h3 h4 h5 => ?_)
                · rcases hwj : l[j].walkN m1 with ⟨m2, b⟩
                  rw [hwj] at hws h4 h5
                  simp only at h5
                  subst h5
                  exact hq1 (r - 1) _ _ (by omega) ⟨j + 1, m2, a6, sc, by omega, hws, RV.walk_le _ _ _ _ (Nat.le_refl _) hwj, rfl, h3, h4⟩
                · rcases hwj : l[j].walkN m1 with ⟨m2, b⟩
                  rw [hwj] at hws h4 h5
                  simp only at h5
                  subst h5
                  have hws' : (m2, false) = RV.walksN (m + 1) l := hws
                  exact hq2 _ _ _ (by simp) ⟨a6, _, sc, rfl, h3, by rw [← hws']; exact h4, .inr ⟨rfl, by rw [← hws']⟩⟩
              · have : j = l.length := by omega
                subst this
                rw [List.drop_length, RV.walksN] at hws
                exact hlast a6 S1 q (fun sc => hq2 _ _ _ (by simp) ⟨a6, _, sc, rfl, h1, by rw [← hws]; exact h2, .inl ⟨rfl, by rw [← hws]⟩⟩))
          exact ⟨e, a6, j, sc, S', rfl, h1, h2, h3⟩
        have hstep' : ∀ (j : Nat) (hj : j < l.length) (m1 : Nat) (S1 : St), Same pm S S1 → m1 ≤ 20000 → S1.cells? pm = some [.int .i64 (m1 : Nat)] → ∃ S2, callS ED (sumOf cs) n (.fn 82) [.agg [.int .i64 l[j].kind, .int .i64 l[j].num, l[j].lst], .ptr pm 0, .ptr pw 0] ((S1.push (.cells [.int .i64 0, .int .i64 0, .nils])).put S1.n (.cells [.int .i64 l[j].kind, .int .i64 l[j].num, l[j].lst])) = some (.ret (.bool (l[j].walkN m1).2), S2) ∧ Same pm S S2 ∧ S2.cells? pm = some [.int .i64 ((l[j].walkN m1).1 : Nat)] := by
          intro j hj m1 S1 h1 hm1 h2
          obtain ⟨k1, k2, k3⟩ := hkd j hj
          have hpw := cells_box (o := .cells [.int .i64 0, .int .i64 0, .nils]) (o' := .cells [.int .i64 l[j].kind, .int .i64 l[j].num, l[j].lst]) (h1.cells _ _ (Ne.symm hne) hw)
          have hpm := cells_box (o := .cells [.int .i64 0, .int .i64 0, .nils]) (o' := .cells [.int .i64 l[j].kind, .int .i64 l[j].num, l[j].lst]) h2
          obtain ⟨S2, hcall, hsm2, hm2'⟩ := ih l[j] k1 k2 n pm pw m1 _ k3 hne hm1 hpm hpw
          rw [l[j].look] at hcall
          exact ⟨S2, hcall, (h1.trans Same.box).trans hsm2, hm2'⟩
        by_cases hk : k = 4
        · have hb4 : ¬ 4096 < l.length := fun h => hbig ⟨hk, h⟩
          have hb5 : ¬ (4096 : Int) < (l.length : Int) := by omega
          subst hk
          simp [vmS, hc1, hm1, hw1, hm2, hgt, hb, hlen, hb4, hb5]
          generalize hc : iter _ _ _ _ = c
          obtain ⟨e, a6, j, sc, S2, rfl, h1, h2, h3⟩ := hfin n _ _ _ _ _ _ _ hc (by omega) hsm (by rw [hm2]; rfl)
            (by
              intro j hj a6 m1 S1 h1 hm1 h2 q hq1 hq2
              have hwj : IntKind.i64.wrap ((j : Int) + 1) = ((j : Int) + 1) := wrap_id (by omega) (by omega)
              have hix := hidx j hj
              obtain ⟨S2, hcall, k1, k2⟩ := hstep' j hj m1 S1 h1 hm1 h2
              have hpw := cells_box (o := .cells [.int .i64 0, .int .i64 0, .nils]) (o' := .cells [.int .i64 l[j].kind, .int .i64 l[j].num, l[j].lst]) (h1.cells _ _ (Ne.symm hne) hw)
              rw [l[j].look] at hix
              obtain ⟨y1, y2, y3⟩ := l[j].cell
              cases hb2 : (l[j].walkN m1).2 with
              | true =>
                rw [hb2] at hcall
                simp [vmS, vloc, hj, hix, y1, y2, y3, hpw, hcall, unA, hwj]
                exact hq1 _ _ _ k1 k2 hb2
              | false =>
                rw [hb2] at hcall
                simp [vmS, vloc, hj, hix, y1, y2, y3, hpw, hcall, unA]
                exact hq2 _ _ _ k1 k2 hb2)
            (by
              intro a6 S1 q hq
              simp [vmS, vloc]
              exact hq _)
          rcases h3 with ⟨rfl, h3⟩ | ⟨rfl, h3⟩
          · rw [h3] at hp
            simp [vmS, vloc]
            exact hp _ h1 h2
          · rw [h3] at hp
            simp [vmS, vloc]
            exact hp _ h1 h2
        · simp [vmS, hc1, hm1, hw1, hm2, hgt, hb, hlen, hk]
          generalize hc : iter _ _ _ _ = c
          obtain ⟨e, a6, j, sc, S2, rfl, h1, h2, h3⟩ := hfin n _ _ _ _ _ _ _ hc (by omega) hsm (by rw [hm2]; rfl)
            (by
              intro j hj a6 m1 S1 h1 hm1 h2 q hq1 hq2
              have hwj : IntKind.i64.wrap ((j : Int) + 1) = ((j : Int) + 1) := wrap_id (by omega) (by omega)
              have hix := hidx j hj
              obtain ⟨S2, hcall, k1, k2⟩ := hstep' j hj m1 S1 h1 hm1 h2
              have hpw := cells_box (o := .cells [.int .i64 0, .int .i64 0, .nils]) (o' := .cells [.int .i64 l[j].kind, .int .i64 l[j].num, l[j].lst]) (h1.cells _ _ (Ne.symm hne) hw)
              rw [l[j].look] at hix
              obtain ⟨y1, y2, y3⟩ := l[j].cell
              cases hb2 : (l[j].walkN m1).2 with
              | true =>
                rw [hb2] at hcall
                simp [vmS, vloc, hj, hix, y1, y2, y3, hpw, hcall, unA, hwj]
                exact hq1 _ _ _ k1 k2 hb2
              | false =>
                rw [hb2] at hcall
                simp [vmS, vloc, hj, hix, y1, y2, y3, hpw, hcall, unA]
                exact hq2 _ _ _ k1 k2 hb2)
            (by
              intro a6 S1 q hq
              simp [vmS, vloc]
              exact hq _)
          rcases h3 with ⟨rfl, h3⟩ | ⟨rfl, h3⟩
          · rw [h3] at hp
            simp [vmS, vloc]
            exact hp _ h1 h2
          · rw [h3] at hp
            simp [vmS, vloc]
            exact hp _ h1 h2

def nsizeC : Con where
  f := 50
  X := RV
  dom v := v.fit
  enc v := [v.enc]
  res v := .ret (.tup [.int .i64 ((v.walkN 0).1 : Nat), .bool (v.walkN 0).2])

theorem nsize_ok : nsizeC.Ok Tryz.prog ED := by
  refine Con.ok_at ED_ok ED_pers [] (by simp) (fun (v : RV) _ => ⟨by show AV.persL [v.enc] = true; simp [AV.persL, RV.pers], rfl⟩) ?_
  intro (v : RV) hv
  replace hv : v.fit := hv
  show ∃ n, ∀ p : FRes → St → Prop, (∀ r S', r.melt S' = .ret (.tup [.int .i64 ((v.walkN 0).1 : Nat), .bool (v.walkN 0).2]) → p r S') → GotF (callS ED (sumOf []) n (.fn 50) [v.enc] S0) p
  refine ⟨v.fuel + 1, fun p hp => ?_⟩
  rw [callS_fn rfl]
  simp only [fnA, ED_fn50, fi50, Tryz.f50]
  have e := v.look
  obtain ⟨c1, c2, c3⟩ := v.cell
  obtain ⟨S', hcall, hsm, hm⟩ := walk_ev [] rfl (v.deep + 1) v (by omega) hv v.fuel 1 2 0
    (((((S0.push (.cells [.int .i64 v.kind, .int .i64 v.num, v.lst])).push (.cells [.int .i64 0])).put 1 (.cells [.int .i64 0])).push (.cells [.nilf])).put 2 (.cells [.fn 82 [] [.ptr 1 0, .ptr 2 0]]))
    (Nat.le_refl _) (by decide) (by omega) (by simp [push_at, put_at, n_push', n_put', cellsOf?]) (by simp [push_at, put_at, n_push', n_put', cellsOf?])
  rw [e] at hcall ⊢
  generalize v.lst = A at *
  generalize v.walkN 0 = w at *
  simp [vmS, lenA, indexAddrA, c1, c2, hcall, hm]
  exact hp _ _ rfl

theorem nsize_use {cs : List Con} (h : sumOf cs 50 = nsizeC.look) {n : Nat} {v : RV} {S : St} (hv : v.fit) : callS ED (sumOf cs) n (.fn 50) [v.enc] S = some (.ret (.tup [.int .i64 ((v.walkN 0).1 : Nat), .bool (v.walkN 0).2]), S) :=
  Con.use (c := nsizeC) (fun (x y : RV) hx hy h => by
    have h' : [x.enc] = [y.enc] := h
    simp only [List.cons.injEq, and_true] at h'
    rw [RV.inj h']) h (v : RV) hv (by show [v.enc.dead] = [v.enc]; simp)

end Go.Proofs.YtpjcmiaanjcanaaGreatDoor

namespace Go.Proofs.YtpjcmiaanjcanaaGreatDoor
open Go Go.Vm Go.Vm.T
set_option maxRecDepth 100000
set_option linter.unusedSimpArgs false
set_option linter.unusedVariables false
attribute [local simp] inFrame startLoc startVals Loc.clear blockC Loc.putO Loc.put idx evO constV Loc.get Vm.look intA unwindA resultsA resultV actA pureA storeA loadA fillE repElems TI.zeroV fieldOf fieldAddrA fieldA elemsA retE cellsOf? setCells nowhere

/-! types, and how they lie in registers -/
inductive Ty where
  | num
  | pair (a b : Ty)
  | seq (a : Ty)
  deriving DecidableEq

def Ty.enc : Ty → AV
  | .num => .agg [.int .i64 1, .int .i64 0, .nils]
  | .pair a b => .agg [.int .i64 2, .int .i64 0, .slice [a.enc, b.enc] .dead]
  | .seq a => .agg [.int .i64 4, .int .i64 0, .slice [a.enc] .dead]

def Ty.regs : Ty → Int × Int
  | .num => (1, 0)
  | .pair a b => (a.regs.1 + b.regs.1, a.regs.2 + b.regs.2)
  | .seq a => (2, a.regs.1 + a.regs.2)

def Ty.kind : Ty → Int
  | .num => 1
  | .pair _ _ => 2
  | .seq _ => 4

def Ty.lay : Ty → AV
  | .num => .rptr [.int .i64 1, .int .i64 0, .int .i64 1, .nils]
  | .pair a b => .rptr [.int .i64 (a.regs.1 + b.regs.1), .int .i64 (a.regs.2 + b.regs.2), .int .i64 2, .slice [a.lay, b.lay] .dead]
  | .seq a => .rptr [.int .i64 2, .int .i64 (a.regs.1 + a.regs.2), .int .i64 4, .slice [a.lay] .dead]

theorem Ty.enc_inj : ∀ {a b : Ty}, a.enc = b.enc → a = b
  | .num, .num, _ => rfl
  | .pair a b, .pair c d, h => by
    simp only [Ty.enc, AV.agg.injEq, List.cons.injEq, AV.slice.injEq, true_and, and_true] at h
    rw [Ty.enc_inj h.1, Ty.enc_inj h.2]
  | .seq a, .seq c, h => by
    simp only [Ty.enc, AV.agg.injEq, List.cons.injEq, AV.slice.injEq, true_and, and_true] at h
    rw [Ty.enc_inj h]
  | .num, .pair _ _, h | .num, .seq _, h | .pair _ _, .num, h | .pair _ _, .seq _, h | .seq _, .num, h | .seq _, .pair _ _, h => by simp [Ty.enc] at h

theorem Ty.lay_inj : ∀ {a b : Ty}, a.lay = b.lay → a = b
  | .num, .num, _ => rfl
  | .pair a b, .pair c d, h => by
    simp only [Ty.lay, AV.rptr.injEq, List.cons.injEq, AV.slice.injEq, true_and, and_true] at h
    rw [Ty.lay_inj h.2.2.1, Ty.lay_inj h.2.2.2]
  | .seq a, .seq c, h => by
    simp only [Ty.lay, AV.rptr.injEq, List.cons.injEq, AV.slice.injEq, true_and, and_true] at h
    rw [Ty.lay_inj h.2]
  | .num, .pair _ _, h | .num, .seq _, h | .pair _ _, .num, h | .pair _ _, .seq _, h | .seq _, .num, h | .seq _, .pair _ _, h => by simp [Ty.lay] at h

theorem Ty.enc_pers : ∀ a : Ty, a.enc.pers = true
  | .num => rfl
  | .pair a b => by simp [Ty.enc, AV.pers, AV.persL, Ty.enc_pers a, Ty.enc_pers b]
  | .seq a => by simp [Ty.enc, AV.pers, AV.persL, Ty.enc_pers a]
theorem Ty.lay_pers : ∀ a : Ty, a.lay.pers = true
  | .num => rfl
  | .pair a b => by simp [Ty.lay, AV.pers, AV.persL, Ty.lay_pers a, Ty.lay_pers b]
  | .seq a => by simp [Ty.lay, AV.pers, AV.persL, Ty.lay_pers a]

def tDuos : Ty := .seq (.pair .num .num)
/-- the types that the programs take -/
def tComps : Ty := .pair .num tDuos
def tDist : Ty := .pair .num (.pair .num tDuos)
def tSpmv : Ty := .pair (.seq tDuos) (.seq .num)
def tWalk : Ty := .pair .num (.pair (.seq tDuos) (.seq .num))

def askedC : Con where
  f := 49
  X := Ty
  dom t := t = tComps ∨ t = tDist ∨ t = tSpmv ∨ t = tWalk ∨ t = tDuos
  enc t := [t.enc]
  res t := .ret t.lay

theorem asked_at (t : Ty) (h : (callS ED (sumOf []) 60 (.fn 49) [t.enc] S0).map (fun q => q.1.melt q.2) = some (.ret t.lay)) : ∃ n r S', callS ED (sumOf []) n (.fn 49) [t.enc] S0 = some (r, S') ∧ r.melt S' = .ret t.lay := by
  cases hq : callS ED (sumOf []) 60 (.fn 49) [t.enc] S0 with
  | none => rw [hq] at h; cases h
  | some q =>
    rw [hq] at h
    exact ⟨60, q.1, q.2, hq, Option.some.inj h⟩

theorem asked1 : (callS ED (sumOf []) 60 (.fn 49) [tComps.enc] S0).map (fun q => q.1.melt q.2) = some (.ret tComps.lay) := by kernel_rfl
theorem asked2 : (callS ED (sumOf []) 60 (.fn 49) [tDist.enc] S0).map (fun q => q.1.melt q.2) = some (.ret tDist.lay) := by kernel_rfl
theorem asked3 : (callS ED (sumOf []) 60 (.fn 49) [tSpmv.enc] S0).map (fun q => q.1.melt q.2) = some (.ret tSpmv.lay) := by kernel_rfl
theorem asked4 : (callS ED (sumOf []) 60 (.fn 49) [tWalk.enc] S0).map (fun q => q.1.melt q.2) = some (.ret tWalk.lay) := by kernel_rfl
theorem asked5 : (callS ED (sumOf []) 60 (.fn 49) [tDuos.enc] S0).map (fun q => q.1.melt q.2) = some (.ret tDuos.lay) := by kernel_rfl

theorem asked_ok : askedC.Ok Tryz.prog ED := by
  refine Con.ok_of (cs := []) ED_ok ED_pers (by simp) (fun (t : Ty) ht => ⟨by show AV.persL [t.enc] = true; simp [AV.persL, Ty.enc_pers], Ty.lay_pers t, ?_⟩)
  show ∃ n r S', callS ED (sumOf []) n (.fn 49) [t.enc] S0 = some (r, S') ∧ r.melt S' = .ret t.lay
  rcases ht with h | h | h | h | h
  · subst h; exact asked_at _ asked1
  · subst h; exact asked_at _ asked2
  · subst h; exact asked_at _ asked3
  · subst h; exact asked_at _ asked4
  · subst h; exact asked_at _ asked5

theorem asked_use {cs : List Con} (h : sumOf cs 49 = askedC.look) {n : Nat} {t : Ty} {S : St} (ht : t = tComps ∨ t = tDist ∨ t = tSpmv ∨ t = tWalk ∨ t = tDuos) :
    callS ED (sumOf cs) n (.fn 49) [t.enc] S = some (.ret t.lay, S) :=
  Con.use (c := askedC) (fun (x y : Ty) hx hy h => by
    have h' : [x.enc] = [y.enc] := h
    simp only [List.cons.injEq, and_true] at h'
    rw [Ty.enc_inj h']) h t ht (by show [t.enc.dead] = [t.enc]; rw [dead_of_pers _ (Ty.enc_pers t)])

theorem Ty.look (t : Ty) : ∃ k L, t.enc = .agg [.int .i64 k, .int .i64 0, L] ∧ L.isCell = true ∧ L.known = true := by cases t <;> exact ⟨_, _, rfl, rfl, rfl⟩

def wordB (n : Int) : Bool := decide (-2147483648 ≤ n) && decide (n ≤ 2147483647)
def isR : Ty → RV → Bool
  | .num, v => decide (v.kind = 1) && (decide (v.kids.length = 0) && wordB v.num)
  | .pair a b, v => decide (v.kind = 2) && (decide (v.num = 0) && (match v.kids with | [x, y] => isR a x && isR b y | _ => false))
  | .seq a, v => decide (v.kind = 4) && (decide (v.num = 0) && v.kids.all (isR a))

def isWordC : Con where
  f := 87
  X := Int
  dom _ := True
  enc z := [.int .i64 z]
  res z := .ret (.bool (wordB z))
theorem isWord_ok : isWordC.Ok Tryz.prog ED := by
  refine Con.ok_at ED_ok ED_pers [liesC] (by simpa using lies_ok) (fun x _ => ⟨rfl, rfl⟩) ?_
  intro (a : Int) _
  show ∃ n, ∀ p : FRes → St → Prop, (∀ r S', r.melt S' = .ret (.bool (wordB a)) → p r S') → GotF (callS ED (sumOf [liesC]) n (.fn 87) [.int .i64 a] S0) p
  refine ⟨1, fun p hp => ?_⟩
  rw [callS_fn rfl]
  have uY := fun (n : Nat) (a b c : Int) (S : St) => lies_use (cs := [liesC]) rfl (n := n) (a := a) (b := b) (c := c) (S := S)
  simp only [fnA, ED_fn87, fi87, Tryz.f87]
  simp only [wordB] at hp
  simp [vmS, lenA, indexAddrA, uY]
  exact hp _ _ (by simp [FRes.melt, AV.melt, AV.dead])
theorem isWord_use {cs : List Con} (h : sumOf cs 87 = isWordC.look) {n : Nat} {a : Int} {S : St} : callS ED (sumOf cs) n (.fn 87) [.int .i64 a] S = some (.ret (.bool (wordB a)), S) :=
  Con.use (c := isWordC) (fun (x : Int) (y : Int) _ _ h => by have h' : [AV.int .i64 x] = [AV.int .i64 y] := h; cases h'; rfl) h (a : Int) trivial rfl

/-! Is -/
def isC (ts : List Ty) : Con where
  f := 56
  X := Ty × RV
  dom x := x.1 ∈ ts ∧ x.2.fit
  enc x := [x.2.enc, x.1.enc]
  res x := .ret (.bool (isR x.1 x.2))

theorem is_cons {t : Ty} {ts : List Ty} (h : (isC [t]).Ok Tryz.prog ED) (k : (isC ts).Ok Tryz.prog ED) : (isC (t :: ts)).Ok Tryz.prog ED := by
  refine ⟨fun x hx => ?_, fun x hx => ?_⟩
  · rcases List.mem_cons.1 hx.1 with h1 | h1
    · exact h.pers x ⟨by simp [h1], hx.2⟩
    · exact k.pers x ⟨h1, hx.2⟩
  · rcases List.mem_cons.1 hx.1 with h1 | h1
    · exact h.sound x ⟨by simp [h1], hx.2⟩
    · exact k.sound x ⟨h1, hx.2⟩
theorem is_use {cs : List Con} {ts : List Ty} (h : sumOf cs 56 = (isC ts).look) {n : Nat} {t : Ty} {v : RV} {S : St} (ht : t ∈ ts) (hv : v.fit) : callS ED (sumOf cs) n (.fn 56) [v.enc, t.enc] S = some (.ret (.bool (isR t v)), S) :=
  Con.use (c := isC ts) (fun (x y : Ty × RV) _ _ h => by
    have h' : [x.2.enc, x.1.enc] = [y.2.enc, y.1.enc] := h
    simp only [List.cons.injEq, and_true] at h'
    show FRes.ret (.bool (isR x.1 x.2)) = .ret (.bool (isR y.1 y.2))
    rw [RV.inj h'.1, Ty.enc_inj h'.2]) h ((t, v) : Ty × RV) ⟨ht, hv⟩ (by show [v.enc.dead, t.enc.dead] = [v.enc, t.enc]; simp [dead_of_pers _ (Ty.enc_pers t)])
theorem is_not {ts : List Ty} {t : Ty} {v : RV} (ht : t ∉ ts) {cs : List Con} (h : sumOf cs 56 = (isC ts).look) : sumOf cs 56 ([v.enc, t.enc].map AV.dead) = none := by
  refine (congrFun h _).trans (Con.look_none fun (x : Ty × RV) hx e => ?_)
  have e' : [x.2.enc, x.1.enc] = [v.enc, t.enc] := by
    have : [v.enc, t.enc].map AV.dead = [v.enc, t.enc] := by simp [dead_of_pers _ (Ty.enc_pers t)]
    exact Eq.trans e this
  simp only [List.cons.injEq, and_true] at e'
  have hx1 : x.1 ∈ ts := hx.1
  rw [Ty.enc_inj e'.2] at hx1
  exact ht hx1
theorem is_pers {ts : List Ty} (x : Ty × RV) : AV.persL ((isC ts).enc x) = true ∧ ((isC ts).res x).pers = true :=
  ⟨by show AV.persL [x.2.enc, x.1.enc] = true; simp [AV.persL, Ty.enc_pers, RV.pers], rfl⟩

theorem is_num_ok : (isC [.num]).Ok Tryz.prog ED := by
  refine Con.ok_at ED_ok ED_pers [isWordC] (by simpa using isWord_ok) (fun x _ => is_pers x) ?_
  rintro ⟨t, v⟩ ⟨ht, hv⟩
  have ht' : t = .num := List.mem_singleton.1 ht
  subst ht'
  replace hv : v.fit := hv
  show ∃ n, ∀ p : FRes → St → Prop, (∀ r S', r.melt S' = .ret (.bool (isR .num v)) → p r S') → GotF (callS ED (sumOf [isWordC]) n (.fn 56) [v.enc, Ty.num.enc] S0) p
  refine ⟨3, fun p hp => ?_⟩
  rw [callS_fn rfl]
  have uW := fun (n : Nat) (a : Int) (S : St) => isWord_use (cs := [isWordC]) rfl (n := n) (a := a) (S := S)
  have e := v.look
  obtain ⟨c1, c2, c3⟩ := v.cell
  have hlen := v.len
  simp only [isR] at hp
  rw [e]
  generalize v.lst = A at *
  generalize v.kids.length = N at *
  simp only [Ty.enc]
  simp only [fnA, ED_fn56, fi56, Tryz.f56]
  by_cases hk : v.kind = 1
  · rw [hk] at hp ⊢
    by_cases hN : N = 0
    · subst hN
      simp [vmS, c1, hlen, uW]
      exact hp _ _ (by simp [FRes.melt, AV.melt, AV.dead])
    · simp [vmS, c1, hlen, hN]
      exact hp _ _ (by simp [FRes.melt, AV.melt, AV.dead, hN])
  · simp [vmS, c1, hk]
    exact hp _ _ (by simp [FRes.melt, AV.melt, AV.dead, hk])

end Go.Proofs.YtpjcmiaanjcanaaGreatDoor
