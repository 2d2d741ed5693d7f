/-
Rows, words, graphs and components of the program. No conditions.
-/
import Derived.Test.YtpjcmiaanjcanaaGreatDoorValD
set_option linter.all false

namespace Go.Proofs.YtpjcmiaanjcanaaGreatDoor
open Go Go.Vm Go.Vm.T
set_option maxRecDepth 100000
set_option linter.unusedSimpArgs false
set_option linter.unusedVariables false
attribute [local simp] inFrame startLoc startVals Loc.clear blockC Loc.putO Loc.put idx evO constV Loc.get Vm.look intA unwindA resultsA resultV actA pureA storeA loadA fillE repElems TI.zeroV fieldOf fieldAddrA fieldA elemsA retE cellsOf? setCells nowhere

set_option maxHeartbeats 4000000

/-! a function of one value -/
def rvC (f : FuncId) (dom : RV → Prop) (res : RV → FRes) : Con where
  f := f
  X := RV
  dom := dom
  enc v := [v.enc]
  res := res
theorem rv_use {cs : List Con} {f : FuncId} {dom : RV → Prop} {res : RV → FRes} (h : sumOf cs f = (rvC f dom res).look) {n : Nat} {v : RV} {S : St} (hv : dom v) : callS ED (sumOf cs) n (.fn f) [v.enc] S = some (res v, S) :=
  Con.use (c := rvC f dom res) (fun (x y : RV) hx hy h => by
    have h' : [x.enc] = [y.enc] := h
    simp only [List.cons.injEq, and_true] at h'
    rw [RV.inj h']) h (v : RV) hv (by show [v.enc.dead] = [v.enc]; simp)
theorem rv_pers (v : RV) : AV.persL [v.enc] = true := by simp [AV.persL, RV.pers]

theorem meltE_pers {v : AV} (h : v.pers = true) (S : St) : v.meltE S = v := by
  cases v with
  | rsl i o l c => cases h
  | _ => exact dead_of_pers _ h
theorem melt_pers {v : AV} (h : v.pers = true) (S : St) : v.melt S = v := by
  cases v with
  | tup vs =>
    have h' : AV.persL vs = true := h
    show AV.tup (vs.map (AV.meltE S)) = .tup vs
    congr 1
    have hk : ∀ l : List AV, (∀ x ∈ l, AV.meltE S x = x) → l.map (AV.meltE S) = l := fun l => by
      induction l with
      | nil => intro _; rfl
      | cons a r ih => intro h; rw [List.map_cons, h a (by simp), ih (fun y hy => h y (by simp [hy]))]
    exact hk vs (fun x hx => meltE_pers (AV.persL_iff.1 h' x hx) S)
  | ptr i o => cases h
  | rsl i o l c => cases h
  | _ => exact dead_of_pers _ h

def RV.rowsOk (v : RV) : Prop := v.kids.length ≤ 4096 ∧ ∀ k ∈ v.kids, (k.kids.length ≤ 4096 ∧ ∀ m ∈ k.kids, m.has2)
def RV.duosOk (v : RV) : Prop := v.kids.length ≤ 4096 ∧ ∀ k ∈ v.kids, k.has2
def rowsA (rs : List (List (Int × Int))) : AV := lst (rs.map rowA)
theorem rowsA_pers (rs : List (List (Int × Int))) : (rowsA rs).pers = true := lst_pers' (rowAs_pers rs)

def rowsC : Con := rvC 73 RV.rowsOk fun v => .ret (rowsA v.rows)
theorem rows_ok : rowsC.Ok Tryz.prog ED := by
  refine Con.ok_at ED_ok ED_pers [listRowC] (by simpa using listRow_ok) (fun (v : RV) _ => ⟨rv_pers v, rowsA_pers _⟩) ?_
  intro (v : RV) hv
  obtain ⟨h1, h2⟩ := (hv : v.rowsOk)
  show ∃ n, ∀ p : FRes → St → Prop, (∀ r S', r.melt S' = .ret (rowsA v.rows) → p r S') → GotF (callS ED (sumOf [listRowC]) n (.fn 73) [v.enc] S0) p
  refine ⟨1, fun p hp => ?_⟩
  rw [callS_fn rfl]
  have hli := fun (n : Nat) (S : St) => listRow_use (cs := [listRowC]) rfl (n := n) (S := S) h1 h2
  change ∀ n S, _ = some (FRes.ret (rowsA v.rows), S) at hli
  have hm := melt_pers (rowsA_pers v.rows)
  have e := v.look
  obtain ⟨c1, c2, c3⟩ := v.cell
  rw [e] at hli ⊢
  generalize rowsA v.rows = R at *
  generalize v.lst = A at *
  simp only [fnA, ED_fn73, fi73, Tryz.f73]
  simp [vmS, c1, hli]
  exact hp _ _ (congrArg FRes.ret (hm _))

def wordsC2 : Con := rvC 74 (fun v => v.kids.length ≤ 4096) fun v => .ret (lstI v.wds)
theorem words2_ok : wordsC2.Ok Tryz.prog ED := by
  refine Con.ok_at ED_ok ED_pers [listIntC] (by simpa using listInt_ok) (fun (v : RV) _ => ⟨rv_pers v, lstI_pers _⟩) ?_
  intro (v : RV) h1
  replace h1 : v.kids.length ≤ 4096 := h1
  show ∃ n, ∀ p : FRes → St → Prop, (∀ r S', r.melt S' = .ret (lstI v.wds) → p r S') → GotF (callS ED (sumOf [listIntC]) n (.fn 74) [v.enc] S0) p
  refine ⟨1, fun p hp => ?_⟩
  rw [callS_fn rfl]
  have hli := fun (n : Nat) (S : St) => listInt_use (cs := [listIntC]) rfl (n := n) (S := S) h1 (fun _ _ => trivial)
  change ∀ n S, _ = some (FRes.ret (lstI v.wds), S) at hli
  have hm := melt_pers (lstI_pers v.wds)
  have e := v.look
  obtain ⟨c1, c2, c3⟩ := v.cell
  rw [e] at hli ⊢
  generalize lstI v.wds = R at *
  generalize v.lst = A at *
  simp only [fnA, ED_fn74, fi74, Tryz.f74]
  simp [vmS, c1, hli]
  exact hp _ _ (congrArg FRes.ret (hm _))

/-! graphs -/
def duosA (es : List (Int × Int)) : AV := lst (es.map duoA)
theorem duosA_pers (es : List (Int × Int)) : (duosA es).pers = true := lst_pers' (duoAs_pers es)
def graphRes (n : Int) (es : List (Int × Int)) : FRes := if 0 ≤ n ∧ n ≤ 4096 then .ret (.agg [duosA es, .int .i64 n]) else .pan trapV
def graphC : Con where
  f := 66
  X := Int × RV
  dom x := x.2.duosOk
  enc x := [.int .i64 x.1, x.2.enc]
  res x := graphRes x.1 x.2.duos

theorem graphRes_pers (n : Int) (es : List (Int × Int)) : (graphRes n es).pers = true := by
  unfold graphRes
  split
  · have := duosA_pers es
    show (AV.agg [duosA es, .int .i64 n]).pers = true
    simp [AV.pers, AV.persL, this]
  · rfl

theorem graph_ok : graphC.Ok Tryz.prog ED := by
  refine Con.ok_at ED_ok ED_pers [needC, listDuoC] (by simpa using ⟨need_ok, listDuo_ok⟩) (fun (x : Int × RV) _ => ⟨by show AV.persL [.int .i64 x.1, x.2.enc] = true; simp [AV.persL, RV.pers, AV.pers], graphRes_pers _ _⟩) ?_
  rintro ⟨nn, v⟩ hv
  obtain ⟨h1, h2⟩ := (hv : v.duosOk)
  show ∃ n, ∀ p : FRes → St → Prop, (∀ r S', r.melt S' = graphRes nn v.duos → p r S') → GotF (callS ED (sumOf [needC, listDuoC]) n (.fn 66) [.int .i64 nn, v.enc] S0) p
  refine ⟨1, fun p hp => ?_⟩
  rw [callS_fn rfl]
  have hne := fun (n : Nat) (S : St) (b : Bool) => need_use (cs := [needC, listDuoC]) rfl (n := n) (S := S) (b := b)
  have hli := fun (n : Nat) (S : St) => listDuo_use (cs := [needC, listDuoC]) rfl (n := n) (S := S) h1 h2
  change ∀ n S, _ = some (FRes.ret (duosA v.duos), S) at hli
  have hlc : (duosA v.duos).isCell = true := (duoAs_cell v.duos).1
  have hb1 : buildA ED 90 [(0, duosA v.duos)] = some (.agg [duosA v.duos]) := by generalize v.duos = es; cases es <;> rfl
  have hb2 : buildA ED 92 [(0, .agg [duosA v.duos]), (1, .int .i64 nn)] = some (.agg [duosA v.duos, .int .i64 nn]) := by generalize v.duos = es; cases es <;> rfl
  have hm := melt_pers (duosA_pers v.duos)
  have hd := dead_of_pers _ (duosA_pers v.duos)
  have e := v.look
  obtain ⟨c1, c2, c3⟩ := v.cell
  unfold graphRes at hp
  rw [e] at hli ⊢
  generalize duosA v.duos = D at *
  generalize v.lst = A at *
  simp only [fnA, ED_fn66, fi66, Tryz.f66]
  by_cases h0 : 0 ≤ nn
  · by_cases h4 : nn ≤ 4096
    · rw [if_pos ⟨h0, h4⟩] at hp
      simp [vmS, c1, c2, h0, h4, hne, hli, hb1, hb2, hlc]
      exact hp _ _ (by simp [FRes.melt, AV.melt, AV.dead, AV.deadL, hd])
    · rw [if_neg (fun h => h4 h.2)] at hp
      simp [vmS, c1, c2, h0, h4, hne]
      exact hp _ _ rfl
  · rw [if_neg (fun h => h0 h.1)] at hp
    simp [vmS, c1, c2, h0, hne]
    exact hp _ _ rfl

theorem graph_use {cs : List Con} (h : sumOf cs 66 = graphC.look) {n : Nat} {m : Int} {v : RV} {S : St} (hv : v.duosOk) :
    callS ED (sumOf cs) n (.fn 66) [.int .i64 m, v.enc] S = some (graphRes m v.duos, S) :=
  Con.use (c := graphC) (fun (x y : Int × RV) hx hy h => by
    obtain ⟨a, b⟩ := x
    obtain ⟨c, d⟩ := y
    have h' : [AV.int .i64 a, b.enc] = [AV.int .i64 c, d.enc] := h
    simp only [List.cons.injEq, AV.int.injEq, true_and, and_true] at h'
    rw [h'.1, RV.inj h'.2]) h ((m, v) : Int × RV) hv (by show [AV.int .i64 m, v.enc.dead] = [AV.int .i64 m, v.enc]; simp)

end Go.Proofs.YtpjcmiaanjcanaaGreatDoor

namespace Go.Proofs.YtpjcmiaanjcanaaGreatDoor
open Go Go.Vm Go.Vm.T
set_option maxRecDepth 100000
set_option linter.unusedSimpArgs false
set_option linter.unusedVariables false
attribute [local simp] inFrame startLoc startVals Loc.clear blockC Loc.putO Loc.put idx evO constV Loc.get Vm.look intA unwindA resultsA resultV actA pureA storeA loadA fillE repElems TI.zeroV fieldOf fieldAddrA fieldA elemsA retE cellsOf? setCells nowhere

def nats (u : List Nat) : List AV := u.map fun k => .int .i64 (k : Nat)
@[simp] theorem nats_length (u : List Nat) : (nats u).length = u.length := by simp [nats]
@[simp] theorem nats_getElem {u : List Nat} {i : Nat} (h : i < (nats u).length) : (nats u)[i] = .int .i64 ((u[i]'(by simpa using h) : Nat) : Int) := by simp [nats]
@[simp] theorem nats_set (u : List Nat) (i r : Nat) : (nats u).set i (.int .i64 (r : Nat)) = nats (u.set i r) := by
  unfold nats
  rw [List.map_set]
@[simp] theorem nats_cell (u : List Nat) : (nats u).all AV.isCell = true := by simp [nats, AV.isCell]

/-- u leads from each node on to that of its component in R -/
structure Up (u R : List Nat) : Prop where
  len : R.length = u.length
  low : ∀ i (h : i < u.length), u[i] ≤ i
  lowR : ∀ i, R.getD i 0 ≤ i
  idem : ∀ i, i < u.length → R.getD (R.getD i 0) 0 = R.getD i 0
  step : ∀ i (h : i < u.length), R.getD u[i] 0 = R.getD i 0
  top : ∀ i (h : i < u.length), u[i] = i → R.getD i 0 = i

theorem Up.set {u R : List Nat} (h : Up u R) (i : Nat) : Up (u.set i (R.getD i 0)) R := by
  refine ⟨by simp [h.len], fun k hk => ?_, h.lowR, fun k hk => h.idem k (by simpa using hk), fun k hk => ?_, fun k hk => ?_⟩
  · rw [List.getElem_set]
    split
    · rename_i e; subst e; exact h.lowR _
    · exact h.low k (by simpa using hk)
  · rw [List.getElem_set]
    split
    · rename_i e; subst e; exact h.idem _ (by simpa using hk)
    · exact h.step k (by simpa using hk)
  · rw [List.getElem_set]
    split
    · rename_i e; subst e; exact id
    · exact h.top k (by simpa using hk)

theorem root_ev (cs : List Con) (hcs : sumOf cs 69 = fun _ => none) (N : Nat) (hN : N ≤ 4096) : ∀ (d i : Nat), i < d → ∀ (n : Nat) (u R : List Nat) (S : St), d + 1 ≤ n → i < N → u.length = N → Up u R →
    S.cells? 3 = some [.rsl 2 0 N N] → S.cells? 4 = some [.fn 69 [] [.ptr 3 0, .ptr 4 0]] → S.cells? 2 = some (nats u) →
    ∃ S' u', callS ED (sumOf cs) n (.fn 69) [.int .i64 i, .ptr 3 0, .ptr 4 0] S = some (.ret (.int .i64 (R.getD i 0 : Nat)), S') ∧ Up u' R ∧ u'.length = N ∧ Same 2 S S' ∧ S'.cells? 2 = some (nats u') ∧
      ∀ k, u.getD k 0 = R.getD k 0 → u'.getD k 0 = R.getD k 0 := by
  intro d
  induction d with
  | zero => intro i h; omega
  | succ d ih =>
    intro i hid n u R S hn hi hu hup h3 h4 h2
    obtain ⟨n, rfl⟩ : ∃ n', n = n' + 1 := ⟨n - 1, by omega⟩
    suffices hgot : ∀ p : FRes → St → Prop, (∀ S' u', Up u' R → u'.length = N → Same 2 S S' → S'.cells? 2 = some (nats u') → (∀ k, u.getD k 0 = R.getD k 0 → u'.getD k 0 = R.getD k 0) → p (.ret (.int .i64 (R.getD i 0 : Nat))) S') →
        GotF (callS ED (sumOf cs) (n + 1) (.fn 69) [.int .i64 i, .ptr 3 0, .ptr 4 0] S) p by
      obtain ⟨r, S', h1, rfl, u', k1, k2, k3, k4, k5⟩ := gotF_iff.1 (hgot (fun r S' => r = .ret (.int .i64 (R.getD i 0 : Nat)) ∧ ∃ u', Up u' R ∧ u'.length = N ∧ Same 2 S S' ∧ S'.cells? 2 = some (nats u') ∧ ∀ k, u.getD k 0 = R.getD k 0 → u'.getD k 0 = R.getD k 0)
        (fun S' u' k1 k2 k3 k4 k5 => ⟨rfl, u', k1, k2, k3, k4, k5⟩))
      exact ⟨S', u', h1, k1, k2, k3, k4, k5⟩
    intro p hp
    have d0 := @dr69_0
    simp only [drA, drawsOf, Option.getD_some, List.nil_append, List.append_nil, List.getD_cons_zero, List.getD_cons_succ, List.cons_append, Tryz.f69] at d0
    rw [callS_fn hcs]
    simp only [fnA, ED_fn69, fi69, Tryz.f69]
    have hiu : i < u.length := by omega
    by_cases he : u[i] = i
    · simp [vmS, lenA, indexAddrA, h3, h2, hi, hiu, he]
      have hr := hup.top i hiu he
      rw [hr] at hp
      exact hp _ u hup hu ⟨Nat.le_refl _, fun _ _ _ h => h⟩ h2 (fun _ h => h)
    · have hlow := hup.low i hiu
      have hj : u[i] < N := by omega
      obtain ⟨S', u', hcall, k1, k2, k3, k4, k5⟩ := ih u[i] (by omega) n u R S (by omega) hj hu hup h3 h4 h2
      rw [hup.step i hiu] at hcall
      have h3' := k3.cells _ _ (by decide) h3
      have hiu' : i < u'.length := by omega
      have hiu2 : i + 1 ≤ u'.length := by omega
      have hset := cells_put_self (ds := nats (u'.set i (R.getD i 0))) k4
      have h3'' := cells_put (o := .cells (nats (u'.set i (R.getD i 0)))) k4 h3' (by decide)
      have hne : ¬ ((u[i] : Nat) : Int) = (i : Int) := by omega
      have hg : R[i]?.getD 0 = R.getD i 0 := by simp [List.getD_eq_getElem?_getD]
      simp only [List.getD_eq_getElem?_getD] at hcall hset h3'' hp
      simp [vmS, lenA, indexAddrA, runC_nil, runC_cons, pickC_some, wantC_tt, wantC_tf, effC_val, ifC_true, checkC, inPairs, keepC, okC, readsC_load, readV_some, AV.beq_self, wantA_n, wantA_g, wantD_some, d0, h3, h2, h4, hi, hiu, he, hne, hcall, h3', k4, hiu', hiu2, hset, h3'']
      refine hp _ (u'.set i (R[i]?.getD 0)) (by simpa [List.getD_eq_getElem?_getD] using k1.set i) (by simp [k2]) (k3.trans (Same.put k4)) hset ?_
      intro k hk
      have := k5 k (by simpa [List.getD_eq_getElem?_getD] using hk)
      simp only [List.getD_eq_getElem?_getD] at this
      rw [List.getElem?_set]
      split
      · rename_i e
        subst e
        simp
      · exact this

def mergeR (R : List Nat) (e : Int × Int) : List Nat :=
  R.map fun r => if r = max (R.getD e.1.toNat 0) (R.getD e.2.toNat 0) then min (R.getD e.1.toNat 0) (R.getD e.2.toNat 0) else r

def compsL (n : Nat) (es : List (Int × Int)) : List Nat := es.foldl mergeR (List.range n)
def InGraph (n : Nat) (es : List (Int × Int)) : Prop := ∀ e ∈ es, (0 ≤ e.1 ∧ e.1 < n) ∧ (0 ≤ e.2 ∧ e.2 < n)

def ofN (u : List Nat) : List Int := u.map fun k : Nat => (k : Int)
theorem ints_ofN (u : List Nat) : ints (ofN u) = nats u := by simp [ints, ofN, nats]

/-! edges that are none -/
def inN (N : Nat) (z : Int) : Bool := decide (0 ≤ z ∧ z < N)
theorem inN_t {N : Nat} {z : Int} : inN N z = true ↔ 0 ≤ z ∧ z < N := by simp [inN]
def keptG (N : Nat) (es : List (Int × Int)) : List (Int × Int) := es.filter fun e => inN N e.1 && inN N e.2
def evenG (N : Nat) (es : List (Int × Int)) : Bool := es.all fun e => inN N e.1 == inN N e.2
theorem keptG_in (N : Nat) (es : List (Int × Int)) : InGraph N (keptG N es) := by
  intro e he
  have := (List.mem_filter.1 he).2
  simpa [inN] using this
theorem keptG_len (N : Nat) (es : List (Int × Int)) : (keptG N es).length ≤ es.length := List.length_filter_le _ _
theorem keptG_take {N : Nat} {es : List (Int × Int)} {j : Nat} (h : j < es.length) : keptG N (es.take (j + 1)) = keptG N (es.take j) ++ (if inN N es[j].1 && inN N es[j].2 then [es[j]] else []) := by
  unfold keptG
  rw [List.take_add_one, List.getElem?_eq_getElem h, List.filter_append]
  simp only [Option.toList_some, List.filter_cons, List.filter_nil]
theorem evenG_take {N : Nat} {es : List (Int × Int)} {j : Nat} (h : j < es.length) : evenG N (es.take (j + 1)) = (evenG N (es.take j) && (inN N es[j].1 == inN N es[j].2)) := by
  unfold evenG
  rw [List.take_add_one, List.getElem?_eq_getElem h, List.all_append]
  simp
theorem evenG_bad {N : Nat} {es : List (Int × Int)} {j : Nat} (h : j < es.length) (hb : inN N es[j].1 ≠ inN N es[j].2) : evenG N es = false := by
  rw [evenG, List.all_eq_false]
  exact ⟨es[j], List.getElem_mem h, by simpa using hb⟩

def slcI (zs : List Int) : AV := .slice (ints zs) .dead
theorem slcI_pers (zs : List Int) : (slcI zs).pers = true := by simp [slcI, AV.pers, ints_pers]
def optR (f : List Int → AV) : Option (List Int) → FRes
  | some zs => .ret (f zs)
  | none => .pan trapV
theorem optR_slc (o : Option (List Int)) : (optR slcI o).pers = true := by
  cases o with
  | none => rfl
  | some zs => exact slcI_pers zs
theorem optR_lst (o : Option (List Int)) : (optR lstI o).pers = true := by
  cases o with
  | none => rfl
  | some zs => exact lstI_pers zs

theorem mergeR_len (R : List Nat) (e : Int × Int) : (mergeR R e).length = R.length := by simp [mergeR]

theorem mergeR_get {R : List Nat} {e : Int × Int} {i : Nat} (hi : i < R.length) : (mergeR R e).getD i 0 =
    if R.getD i 0 = max (R.getD e.1.toNat 0) (R.getD e.2.toNat 0) then min (R.getD e.1.toNat 0) (R.getD e.2.toNat 0) else R.getD i 0 := by
  simp [mergeR, List.getD_eq_getElem?_getD, hi]

theorem Up.merge {u R : List Nat} {x y : Nat} {e : Int × Int} (h : Up u R) (hx : x < u.length) (hy : y < u.length) (ex : e.1.toNat = x) (ey : e.2.toNat = y) :
    Up (u.set (max (R.getD x 0) (R.getD y 0)) (min (R.getD x 0) (R.getD y 0))) (mergeR R e) := by
  have hlx := h.lowR x
  have hly := h.lowR y
  have ha := h.idem x hx
  have hb := h.idem y hy
  have hget : ∀ i, i < u.length → (mergeR R e).getD i 0 = if R.getD i 0 = max (R.getD x 0) (R.getD y 0) then min (R.getD x 0) (R.getD y 0) else R.getD i 0 := by
    intro i hi
    rw [mergeR_get (by rw [h.len]; exact hi), ex, ey]
  generalize hA : R.getD x 0 = A at *
  generalize hB : R.getD y 0 = B at *
  have hM : max A B < u.length := by omega
  have hmm : R.getD (min A B) 0 = min A B := by
    rcases Nat.le_total A B with k | k
    · rw [Nat.min_eq_left k]; exact ha
    · rw [Nat.min_eq_right k]; exact hb
  have hMM : R.getD (max A B) 0 = max A B := by
    rcases Nat.le_total A B with k | k
    · rw [Nat.max_eq_right k]; exact hb
    · rw [Nat.max_eq_left k]; exact ha
  have hm' : (mergeR R e).getD (min A B) 0 = min A B := by
    rw [hget _ (by omega), hmm]
    split <;> omega
  refine ⟨by simp [mergeR_len, h.len], fun i hi => ?_, fun i => ?_, fun i hi => ?_, fun i hi => ?_, fun i hi => ?_⟩
  · rw [List.getElem_set]
    split
    · rename_i e; subst e; omega
    · exact h.low i (by simpa using hi)
  · rcases Nat.lt_or_ge i u.length with hi | hi
    · rw [hget i hi]
      have := h.lowR i
      split <;> omega
    · simp [List.getD_eq_getElem?_getD, mergeR, List.getElem?_eq_none (show R.length ≤ i by rw [h.len]; exact hi)]
  · have hi' : i < u.length := by simpa using hi
    rw [hget i hi']
    have hli := h.lowR i
    split
    · exact hm'
    · rename_i hne
      rw [hget _ (by omega), h.idem i hi', if_neg hne]
  · have hi' : i < u.length := by simpa using hi
    rw [List.getElem_set]
    split
    · rename_i e; subst e
      rw [hm', hget _ hM, hMM, if_pos rfl]
    · have hlow := h.low i hi'
      rw [hget i hi', hget _ (by omega), h.step i hi']
  · have hi' : i < u.length := by simpa using hi
    rw [List.getElem_set]
    split
    · rename_i e; subst e
      intro e
      rw [hget _ hM, hMM, if_pos rfl, e]
    · rename_i hne
      intro e
      rw [hget i hi', h.top i hi' e, if_neg (fun e => hne e.symm)]

theorem up_range (n : Nat) : Up (List.range n) (List.range n) := by
  have hg : ∀ i, (List.range n).getD i 0 ≤ i := by
    intro i
    rw [List.getD_eq_getElem?_getD]
    rcases Nat.lt_or_ge i n with h | h
    · simp [h]
    · simp [List.getElem?_eq_none (show (List.range n).length ≤ i by simpa using h)]
  have hg' : ∀ i, i < n → (List.range n).getD i 0 = i := by
    intro i h
    rw [List.getD_eq_getElem?_getD]
    simp [h]
  refine ⟨rfl, fun i h => by simp, hg, fun i h => ?_, fun i h => ?_, fun i h _ => hg' i (by simpa using h)⟩
  · rw [hg' i (by simpa using h), hg' i (by simpa using h)]
  · simp

def fillU (n j : Nat) : List Nat := (List.range n).map fun k => if k < j then k else 0
theorem fillU_len (n j : Nat) : (fillU n j).length = n := by simp [fillU]
theorem fillU_set {n j : Nat} (hj : j < n) : (fillU n j).set j j = fillU n (j + 1) := by
  apply List.ext_getElem
  · simp [fillU]
  · intro i h1 h2
    rw [List.getElem_set]
    simp only [fillU, List.getElem_map, List.getElem_range]
    split
    · rename_i e; subst e; simp
    · rename_i hne
      by_cases h : i < j
      · rw [if_pos h, if_pos (by omega)]
      · rw [if_neg h, if_neg (by omega)]
theorem fillU_zero (n : Nat) : nats (fillU n 0) = List.replicate n (.int .i64 0) := by
  apply List.ext_getElem
  · simp [fillU]
  · intro i h1 h2
    simp [fillU]
theorem fillU_all (n : Nat) : fillU n n = List.range n := by
  apply List.ext_getElem
  · simp [fillU]
  · intro i h1 h2
    simp [fillU] at h1 ⊢
    omega

theorem compsL_len (N : Nat) (es : List (Int × Int)) : (compsL N es).length = N := by
  suffices h : ∀ (es : List (Int × Int)) (R : List Nat), (es.foldl mergeR R).length = R.length by
    rw [compsL, h]; simp
  intro es
  induction es with
  | nil => intro R; rfl
  | cons e r ih => intro R; rw [List.foldl_cons, ih, mergeR_len]
theorem merge_up {N : Nat} {R : List Nat} {e : Int × Int} (h : ∃ u, Up u R ∧ u.length = N) (he : (0 ≤ e.1 ∧ e.1 < N) ∧ (0 ≤ e.2 ∧ e.2 < N)) : ∃ u, Up u (mergeR R e) ∧ u.length = N := by
  obtain ⟨u, hu, hl⟩ := h
  exact ⟨_, hu.merge (x := e.1.toNat) (y := e.2.toNat) (by omega) (by omega) rfl rfl, by simp [hl]⟩

theorem fold_up {N : Nat} : ∀ (es : List (Int × Int)) (R : List Nat), (∃ u, Up u R ∧ u.length = N) → InGraph N es →
    (∃ u, Up u (es.foldl mergeR R) ∧ u.length = N) ∧ (∀ i k, i < N → k < N → R.getD i 0 = R.getD k 0 → (es.foldl mergeR R).getD i 0 = (es.foldl mergeR R).getD k 0) ∧
      ∀ e ∈ es, (es.foldl mergeR R).getD e.1.toNat 0 = (es.foldl mergeR R).getD e.2.toNat 0
  | [], R, h, _ => ⟨h, fun _ _ _ _ h => h, by simp⟩
  | e :: r, R, h, hg => by
    have he := hg e (by simp)
    obtain ⟨u, hu, hl⟩ := h
    have hRl : R.length = N := by rw [hu.len, hl]
    obtain ⟨h1, h2, h3⟩ := fold_up r (mergeR R e) (merge_up ⟨u, hu, hl⟩ he) (fun x hx => hg x (by simp [hx]))
    refine ⟨h1, fun i k hi hk heq => h2 i k hi hk ?_, fun x hx => ?_⟩
    · rw [mergeR_get (by omega), mergeR_get (by omega), heq]
    · rcases List.mem_cons.1 hx with rfl | hx
      · refine h2 _ _ (by omega) (by omega) ?_
        rw [mergeR_get (by omega), mergeR_get (by omega)]
        split <;> split <;> omega
      · exact h3 x hx

theorem comps_up {N : Nat} {es : List (Int × Int)} (hg : InGraph N es) : (∃ u, Up u (compsL N es) ∧ u.length = N) ∧ ∀ e ∈ es, (compsL N es).getD e.1.toNat 0 = (compsL N es).getD e.2.toNat 0 := by
  obtain ⟨h1, _, h3⟩ := fold_up es (List.range N) ⟨_, up_range N, by simp⟩ hg
  exact ⟨h1, h3⟩

def swapE (e : Int × Int) : Int × Int := (e.2, e.1)

theorem merge_swap (R : List Nat) (e : Int × Int) : mergeR R (swapE e) = mergeR R e := by
  simp only [mergeR, swapE, Nat.max_comm (R.getD e.2.toNat 0), Nat.min_comm (R.getD e.2.toNat 0)]

theorem comps_swap (N : Nat) (es : List (Int × Int)) : compsL N (es.map swapE) = compsL N es := by
  unfold compsL
  generalize List.range N = R
  induction es generalizing R with
  | nil => rfl
  | cons e r ih => rw [List.map_cons, List.foldl_cons, List.foldl_cons, merge_swap, ih]

theorem comps_more (N : Nat) (es : List (Int × Int)) (e : Int × Int) : compsL N (es ++ [e]) = mergeR (compsL N es) e := by
  unfold compsL
  rw [List.foldl_append]
  rfl

/-- what the law looks at -/
theorem comps_facts {N : Nat} {es : List (Int × Int)} {e : Int × Int} (hg : InGraph N es) (he : (0 ≤ e.1 ∧ e.1 < N) ∧ (0 ≤ e.2 ∧ e.2 < N)) (i : Nat) (hi : i < N) :
    (compsL N es).getD i 0 ≤ i ∧ (compsL N es).getD ((compsL N es).getD i 0) 0 = (compsL N es).getD i 0 ∧
      (compsL N (es ++ [e])).getD i 0 = if (compsL N es).getD i 0 = (compsL N es).getD e.1.toNat 0 ∨ (compsL N es).getD i 0 = (compsL N es).getD e.2.toNat 0 then
        min ((compsL N es).getD e.1.toNat 0) ((compsL N es).getD e.2.toNat 0) else (compsL N es).getD i 0 := by
  obtain ⟨⟨u, hu, hl⟩, _⟩ := comps_up hg
  refine ⟨hu.lowR i, hu.idem i (by omega), ?_⟩
  rw [comps_more, mergeR_get (by rw [compsL_len]; exact hi)]
  split <;> split <;> omega

end Go.Proofs.YtpjcmiaanjcanaaGreatDoor

namespace Go.Proofs.YtpjcmiaanjcanaaGreatDoor
open Go Go.Vm Go.Vm.T
set_option maxRecDepth 100000
set_option linter.unusedSimpArgs false
set_option linter.unusedVariables false
attribute [local simp] inFrame startLoc startVals Loc.clear blockC Loc.putO Loc.put idx evO constV Loc.get Vm.look intA unwindA resultsA resultV actA pureA storeA loadA fillE repElems TI.zeroV fieldOf fieldAddrA fieldA elemsA retE cellsOf? setCells nowhere

set_option maxHeartbeats 4000000

def compsOut (N : Nat) (es : List (Int × Int)) : Option (List Int) := if evenG N es then some (ofN (compsL N (keptG N es))) else none
def gN (v : RV) : Int := (v.kids.getD 0 dflt).num
def gE (v : RV) : List (Int × Int) := (v.kids.getD 1 dflt).duos
def graphR (n : Int) (f : List Int → AV) (o : Option (List Int)) : FRes := if 0 ≤ n ∧ n ≤ 4096 then optR f o else .pan trapV
def graphDom (v : RV) : Prop := v.has2 ∧ (v.kids.getD 1 dflt).duosOk
theorem graphR_slc (n : Int) (o : Option (List Int)) : (graphR n slcI o).pers = true := by
  unfold graphR
  split
  · exact optR_slc o
  · rfl
def compsC : Con := rvC 41 graphDom fun v => graphR (gN v) slcI (compsOut (gN v).toNat (gE v))

theorem eq_bool2 {x y : Operand} {a b : Bool} : binA ED .eql 4 x y (.bool a) (.bool b) = some (.bool (a == b)) := by
  cases x <;> cases y <;> cases a <;> cases b <;> rfl

theorem comps_ok : compsC.Ok Tryz.prog ED := by
  refine Con.ok_at ED_ok ED_pers [sideC 67 0, sideC 68 1, graphC, needC] (by simpa using ⟨first_ok, second_ok, graph_ok, need_ok⟩) (fun (v : RV) _ => ⟨rv_pers v, graphR_slc _ _⟩) ?_
  intro (v : RV) hv
  obtain ⟨hv2, hdu⟩ := (hv : graphDom v)
  show ∃ n, ∀ p : FRes → St → Prop, (∀ r S', r.melt S' = graphR (gN v) slcI (compsOut (gN v).toNat (gE v)) → p r S') → GotF (callS ED (sumOf [sideC 67 0, sideC 68 1, graphC, needC]) n (.fn 41) [v.enc] S0) p
  refine ⟨8000, fun p hp => ?_⟩
  have d0 := @dr41_0
  have d1 := @dr41_1
  have d2 := @dr41_2
  have d3 := @dr41_3
  simp only [drA, drawsOf, Option.getD_some, List.nil_append, List.append_nil, List.getD_cons_zero, List.getD_cons_succ, List.cons_append, Tryz.f41] at d0 d1 d2 d3
  rw [callS_fn rfl]
  have hf := fun (n : Nat) (S : St) => side_use (cs := [sideC 67 0, sideC 68 1, graphC, needC]) (f := 67) (i := 0) rfl (n := n) (S := S) hv2
  have hs := fun (n : Nat) (S : St) => side_use (cs := [sideC 67 0, sideC 68 1, graphC, needC]) (f := 68) (i := 1) (by funext a; rfl) (n := n) (S := S) hv2
  have hg := fun (n : Nat) (S : St) (m : Int) => graph_use (cs := [sideC 67 0, sideC 68 1, graphC, needC]) (by funext a; rfl) (n := n) (S := S) (m := m) hdu
  have hne := fun (n : Nat) (S : St) (b : Bool) => need_use (cs := [sideC 67 0, sideC 68 1, graphC, needC]) (by funext a; rfl) (n := n) (S := S) (b := b)
  have hes : (gE v).length ≤ 4096 := by have := hdu.1; simpa [gE, RV.duos] using this
  change ∀ n S m, _ = some (graphRes m (gE v), S) at hg
  unfold gN at hp
  have e := v.look
  obtain ⟨c1, c2, c3⟩ := v.cell
  have x0 := (v.kids.getD 0 dflt).look
  obtain ⟨x1, x2, x3⟩ := (v.kids.getD 0 dflt).cell
  have y0 := (v.kids.getD 1 dflt).look
  obtain ⟨y1, y2, y3⟩ := (v.kids.getD 1 dflt).cell
  rw [x0] at hf
  rw [y0] at hs hg
  rw [e] at hf hs ⊢
  generalize gE v = es at *
  generalize v.lst = A at *
  generalize v.kind = vk at *
  generalize v.num = vn at *
  generalize (v.kids.getD 0 dflt).num = nn at *
  generalize (v.kids.getD 0 dflt).kind = k0 at *
  generalize (v.kids.getD 0 dflt).lst = A0 at *
  generalize (v.kids.getD 1 dflt).num = n1 at *
  generalize (v.kids.getD 1 dflt).kind = k1 at *
  generalize (v.kids.getD 1 dflt).lst = A1 at *
  have hp1 : ∀ k z A, partA ED 3 [.int .i64 k, .int .i64 z, A] 1 = some (.int .i64 z) := fun _ _ _ => rfl
  by_cases hnn : 0 ≤ nn ∧ nn ≤ 4096
  rotate_left
  · have hg' := fun n S => hg n S nn
    simp only [graphRes, if_neg hnn] at hg'
    rw [graphR, if_neg hnn] at hp
    simp only [fnA, ED_fn41, fi41, Tryz.f41]
    simp [vmS, runC_nil, runC_cons, pickC_some, wantC_tt, wantC_tf, effC_val, ifC_true, checkC, inPairs, keepC, okC, readsC_load, readV_some, AV.beq_self, wantA_n, wantA_g, wantD_some, d0, hf, hs, hg', c1, c2, x1, x2, y1, y2, hp1, effC_pan]
    trace_state
    exact hp _ _ rfl
  rw [graphR, if_pos hnn] at hp
  obtain ⟨N, rfl⟩ := Int.eq_ofNat_of_zero_le hnn.1
  have hN : N ≤ 4096 := by omega
  have hg' := fun n S => hg n S N
  simp only [graphRes, if_pos hnn, duosA] at hg'
  rw [Int.toNat_natCast] at hp
  obtain ⟨hdc, hdk⟩ := duoAs_cell es
  have hdl : lenA ED 88 (lst (es.map duoA)) = some (.int .i64 es.length) := by rw [len73]; simp
  have hdx := fun (j : Nat) (hj : j < es.length) => duoAs_get hj
  generalize lst (es.map duoA) = D at *
  have hroom : (N : Int) * 9 ≤ (roomMost : Nat) := by unfold roomMost; omega
  simp only [fnA, ED_fn41, fi41, Tryz.f41]
  simp [vmS, runC_nil, runC_cons, pickC_some, wantC_tt, wantC_tf, effC_val, ifC_true, checkC, inPairs, keepC, okC, readsC_load, readV_some, AV.beq_self, wantA_n, wantA_g, wantD_some, d0, hf, hs, hg', c1, c2, x1, x2, y1, y2, hdc, hdk, hp1, len22, hroom, flat_rep]
  generalize hA : AV.agg [AV.int IntKind.i64 vk, AV.int IntKind.i64 vn, A] = B
  generalize hc : iter _ _ _ _ = c
  obtain ⟨e1, L1, S1, rfl, hq⟩ := loop_of hc
    (fun r L S => ∃ j sc a5, j + r = N ∧ L = vloc [B, .ptr 0 0, .nils, .ptr 1 0, .ptr 3 0, a5, .undef, .undef, .undef, .undef, .undef, .undef, .undef, .int .i64 N, .int .i64 (j : Nat), .undef, .undef, .undef, .undef, .undef] sc ∧
      S.cells? 1 = some [D, .int .i64 N] ∧ S.cells? 2 = some (nats (fillU N j)) ∧ S.cells? 3 = some [.rsl 2 0 N N] ∧ S.n = 4)
    (fun e L S => e = .exit 0 ∧ ∃ sc a5 a25, L = vloc [B, .ptr 0 0, .nils, .ptr 1 0, .ptr 3 0, a5, .undef, .undef, .undef, .undef, .undef, .undef, .undef, .int .i64 N, a25, .undef, .undef, .undef, .undef, .undef] sc ∧
      S.cells? 1 = some [D, .int .i64 N] ∧ S.cells? 2 = some (nats (List.range N)) ∧ S.cells? 3 = some [.rsl 2 0 N N] ∧ S.n = 4)
    N (by omega)
    (by
      refine ⟨0, _, _, by simp, rfl, ?_, ?_, ?_, ?_⟩
      · simp [push_at, put_at, n_push', n_put', cellsOf?]
      · rw [fillU_zero]; simp [push_at, put_at, n_push', n_put', cellsOf?]
      · simp [push_at, put_at, n_push', n_put', cellsOf?]
      · simp [n_push', n_put'])
    (by
      rintro r L S ⟨j, sc, a5, hjk, rfl, g1, g2, g3, g4⟩ q hq1 hq2
      by_cases hj : j < N
      · have hw : IntKind.i64.wrap ((j : Int) + 1) = ((j : Int) + 1) := wrap_id (by omega) (by omega)
        have hl := fillU_len N j
        have hj1 : j + 1 ≤ N := hj
        simp [vmS, vloc, hj, g2, g3, index22 hj, hw, hl, hj1]
        refine hq1 (r - 1) _ _ (by omega) ⟨j + 1, _, _, by omega, rfl, cells_put g2 g1 (by decide), ?_, cells_put g2 g3 (by decide), by rw [n_put']; exact g4⟩
        rw [fillU_set hj]
        exact cells_put_self g2
      · have hjl : j = N := by omega
        subst hjl
        simp [vmS, vloc]
        refine hq2 _ _ _ (by simp) ⟨rfl, _, a5, _, rfl, g1, by rw [← fillU_all]; exact g2, g3, g4⟩)
  obtain ⟨rfl, sc, a5, a25, rfl, g1, g2, g3, g4⟩ := hq
  simp [vmS, vloc, g1, g4, hdl]
  generalize hc : iter _ _ _ _ = c
  obtain ⟨e1, L1, S2, rfl, hq⟩ := loop_of hc
    (fun r L S => ∃ j sc a8 a9 a10 a11 a12 u, j + r = es.length ∧ L = vloc [B, .ptr 0 0, .nils, .ptr 1 0, .ptr 3 0, a5, .ptr 4 0, a8, a9, a10, a11, a12, .undef, .int .i64 N, a25, D, .int .i64 es.length, .int .i64 (j : Nat), .undef, .undef] sc ∧
      S.cells? 1 = some [D, .int .i64 N] ∧ S.cells? 3 = some [.rsl 2 0 N N] ∧ S.cells? 4 = some [.fn 69 [] [.ptr 3 0, .ptr 4 0]] ∧ S.cells? 2 = some (nats u) ∧ u.length = N ∧ Up u (compsL N (keptG N (es.take j))) ∧ evenG N (es.take j) = true)
    (fun e L S => (e = .pan trapV ∧ evenG N es = false ∧ ∃ vs sc, L = vloc vs sc) ∨ e = .exit 2 ∧ evenG N es = true ∧ ∃ sc a8 a9 a10 a11 a12 a38 u, L = vloc [B, .ptr 0 0, .nils, .ptr 1 0, .ptr 3 0, a5, .ptr 4 0, a8, a9, a10, a11, a12, .undef, .int .i64 N, a25, D, .int .i64 es.length, a38, .undef, .undef] sc ∧
      S.cells? 3 = some [.rsl 2 0 N N] ∧ S.cells? 4 = some [.fn 69 [] [.ptr 3 0, .ptr 4 0]] ∧ S.cells? 2 = some (nats u) ∧ u.length = N ∧ Up u (compsL N (keptG N es)))
    es.length (by omega)
    (by
      have b1 := cells_push (o := .cells [.nilf]) g1
      have b2 := cells_push (o := .cells [.nilf]) g2
      have b3 := cells_push (o := .cells [.nilf]) g3
      have b4 : (S1.push (.cells [.nilf])).cells? 4 = some [.nilf] := by rw [← g4]; exact cells?_push_self _ _
      refine ⟨0, _, _, _, _, _, _, List.range N, by simp, rfl, cells_put b4 b1 (by decide), cells_put b4 b3 (by decide), cells_put_self b4, cells_put b4 b2 (by decide), by simp, by simpa [keptG, compsL] using up_range N, by simp [evenG]⟩)
    (by
      rintro r L S ⟨j, sc, a8, a9, a10, a11, a12, u, hjk, rfl, i1, i3, i4, i2, hul, hup, hev⟩ q hq1 hq2
      by_cases hj : j < es.length
      · have hw : IntKind.i64.wrap ((j : Int) + 1) = ((j : Int) + 1) := wrap_id (by omega) (by omega)
        have hix := hdx j hj
        have hkt := keptG_take (N := N) hj
        have hvt := evenG_take (N := N) hj
        have hbad := evenG_bad (N := N) hj
        rw [hev] at hvt
        generalize hxe : es[j].1 = x at *
        generalize hye : es[j].2 = y at *
        have hlt3 := St.get_lt (cells?_inv i4)
        have j1 := cells_box (o := .cells [.int .i64 0, .int .i64 0]) (o' := .cells [.int .i64 x, .int .i64 y]) i1
        have j2 := cells_box (o := .cells [.int .i64 0, .int .i64 0]) (o' := .cells [.int .i64 x, .int .i64 y]) i2
        have j3 := cells_box (o := .cells [.int .i64 0, .int .i64 0]) (o' := .cells [.int .i64 x, .int .i64 y]) i3
        have j4 := cells_box (o := .cells [.int .i64 0, .int .i64 0]) (o' := .cells [.int .i64 x, .int .i64 y]) i4
        have j8 := cells?_put_push S (.cells [.int .i64 0, .int .i64 0]) [.int .i64 x, .int .i64 y]
        by_cases hb : inN N x = inN N y
        rotate_left
        · -- one end alone is a node
          have hbd := hbad hb
          clear hbad hkt hvt
          by_cases x0 : 0 ≤ x <;> by_cases xN : x < N <;> by_cases y0 : 0 ≤ y <;> by_cases yN : y < N <;>
            first
            | (exfalso; simp [inN, x0, xN, y0, yN] at hb; done)
            | (simp [vmS, runC_nil, runC_cons, pickC_some, wantC_tt, wantC_tf, effC_val, ifC_true, checkC, inPairs, keepC, okC, readsC_load, readV_some, AV.beq_self, wantA_n, wantA_g, wantD_some, d1, vloc, hj, hix, j8, j1, j4, x0, xN, y0, yN, eq_bool2, hne, stepE_pan]
               exact hq2 _ _ _ (by simp) (.inl ⟨rfl, hbd, _, _, rfl⟩))
        by_cases hin : inN N x = true
        rotate_left
        · -- neither is one
          have hiny : inN N y = false := by rw [← hb]; simpa using hin
          have hinx : inN N x = false := by simpa using hin
          rw [hinx] at hkt
          rw [hb, hiny] at hvt
          simp only [Bool.false_and, Bool.false_eq_true, if_false, List.append_nil, beq_self_eq_true, Bool.and_self] at hkt hvt
          clear hbad
          by_cases x0 : 0 ≤ x <;> by_cases xN : x < N <;> by_cases y0 : 0 ≤ y <;> by_cases yN : y < N <;>
            first
            | (exfalso; simp [inN, x0, xN] at hinx; done)
            | (exfalso; simp [inN, y0, yN] at hiny; done)
            | (simp [vmS, runC_nil, runC_cons, pickC_some, wantC_tt, wantC_tf, effC_val, ifC_true, checkC, inPairs, keepC, okC, readsC_load, readV_some, AV.beq_self, wantA_n, wantA_g, wantD_some, d1, vloc, hj, hix, j8, j1, j4, x0, xN, y0, yN, eq_bool2, hne, hw]
               exact hq1 (r - 1) _ _ (by omega) ⟨j + 1, _, _, _, _, _, _, u, by omega, rfl, j1, j3, j4, j2, hul, by rw [hkt]; exact hup, hvt⟩)
        have hiny : inN N y = true := by rw [← hb]; exact hin
        rw [hin, hiny] at hkt hvt
        simp only [Bool.and_self, if_true, beq_self_eq_true] at hkt hvt
        obtain ⟨hx0, hx1⟩ := inN_t.1 hin
        obtain ⟨hy0, hy1⟩ := inN_t.1 hiny
        have hfold : compsL N (keptG N (es.take (j + 1))) = mergeR (compsL N (keptG N (es.take j))) es[j] := by
          rw [hkt, compsL, List.foldl_append]
          rfl
        generalize hR : compsL N (keptG N (es.take j)) = R at *
        obtain ⟨x, rfl⟩ := Int.eq_ofNat_of_zero_le hx0
        obtain ⟨y', rfl⟩ := Int.eq_ofNat_of_zero_le hy0
        have hxN : x < N := by omega
        have hyN : y' < N := by omega
        obtain ⟨T1, u1, c1, p1, l1, s1, m1, _⟩ := root_ev [sideC 67 0, sideC 68 1, graphC, needC] rfl N (by omega) N x hxN 7999 u R _ (by omega) hxN hul hup j3 j4 j2
        have k1 := s1.cells _ _ (by decide) j1
        have k3 := s1.cells _ _ (by decide) j3
        have k4 := s1.cells _ _ (by decide) j4
        have k8 := s1.cells _ _ (by omega) j8
        obtain ⟨T2, u2, c2, p2, l2, s2, m2, _⟩ := root_ev [sideC 67 0, sideC 68 1, graphC, needC] rfl N (by omega) N y' hyN 7999 u1 R _ (by omega) hyN l1 p1 k3 k4 m1
        have n1 := s2.cells _ _ (by decide) k1
        have n3 := s2.cells _ _ (by decide) k3
        have n4 := s2.cells _ _ (by decide) k4
        have hmg2 := p2.merge (x := x) (y := y') (e := es[j]) (by omega) (by omega) (by omega) (by omega)
        have hlx := hup.lowR x
        have hly := hup.lowR y'
        have hmx := fold_max (R.getD x 0) (R.getD y' 0)
        have hmn := fold_min (R.getD x 0) (R.getD y' 0)
        generalize hMx : max (R.getD x 0) (R.getD y' 0) = M at *
        generalize hMn : min (R.getD x 0) (R.getD y' 0) = m at *
        generalize R.getD x 0 = Rx at *
        generalize R.getD y' 0 = Ry at *
        have hMN : M < N := by omega
        have hMl : M + 1 ≤ u2.length := by omega
        simp [vmS, runC_nil, runC_cons, pickC_some, wantC_tt, wantC_tf, effC_val, ifC_true, checkC, inPairs, keepC, okC, readsC_load, readV_some, AV.beq_self, wantA_n, wantA_g, wantD_some, d1, d2, vloc, hj, hix, j8, j1, j4, hxN, hyN, eq_bool2, hne, c1, c2, k4, k8, n3, m2, hmx, hmn, index22 hMN, hMl, hw]
        refine hq1 (r - 1) _ _ (by omega) ⟨j + 1, _, _, _, _, _, _, u2.set M m, by omega, rfl, cells_put m2 n1 (by decide), cells_put m2 n3 (by decide), cells_put m2 n4 (by decide), cells_put_self m2, by simp [l2], ?_, hvt⟩
        rw [hfold]
        exact hmg2
      · have hjl : j = es.length := by omega
        subst hjl
        simp [vmS, vloc]
        refine hq2 _ _ _ (by simp) (.inr ⟨rfl, by simpa using hev, _, a8, a9, a10, a11, a12, _, u, rfl, i3, i4, i2, hul, by simpa using hup⟩))
  rcases hq with ⟨rfl, hbd, vs, sc, rfl⟩ | ⟨rfl, hgd, sc, a8, a9, a10, a11, a12, a38, u, rfl, g3, g4, g2, hul, hup⟩
  · have ho : compsOut N es = none := by rw [compsOut, hbd]; rfl
    rw [ho] at hp
    simp [vmS, vloc]
    exact hp _ _ rfl
  have ho : compsOut N es = some (ofN (compsL N (keptG N es))) := by rw [compsOut, hgd]; rfl
  rw [ho] at hp
  have hRl : (compsL N (keptG N es)).length = N := by rw [hup.len, hul]
  generalize compsL N (keptG N es) = R at *
  simp [vmS, vloc, g3, len22]
  generalize hc : iter _ _ _ _ = c
  obtain ⟨e1, L1, S3, rfl, hq⟩ := loop_of hc
    (fun r L S => ∃ j sc a13 u, j + r = N ∧ L = vloc [B, .ptr 0 0, .nils, .ptr 1 0, .ptr 3 0, a5, .ptr 4 0, a8, a9, a10, a11, a12, a13, .int .i64 N, a25, D, .int .i64 es.length, a38, .int .i64 N, .int .i64 (j : Nat)] sc ∧
      S.cells? 3 = some [.rsl 2 0 N N] ∧ S.cells? 4 = some [.fn 69 [] [.ptr 3 0, .ptr 4 0]] ∧ S.cells? 2 = some (nats u) ∧ u.length = N ∧ Up u R ∧ ∀ k, k < j → u.getD k 0 = R.getD k 0)
    (fun e L S => e = .exit 4 ∧ ∃ sc a13 a86 u, L = vloc [B, .ptr 0 0, .nils, .ptr 1 0, .ptr 3 0, a5, .ptr 4 0, a8, a9, a10, a11, a12, a13, .int .i64 N, a25, D, .int .i64 es.length, a38, .int .i64 N, a86] sc ∧
      S.cells? 3 = some [.rsl 2 0 N N] ∧ S.cells? 2 = some (nats R))
    N (by omega)
    ⟨0, _, _, u, by simp, rfl, g3, g4, g2, hul, hup, fun k hk => by omega⟩
    (by
      rintro r L S ⟨j, sc, a13, u, hjk, rfl, i3, i4, i2, hul, hup, hdone⟩ q hq1 hq2
      by_cases hj : j < N
      · have hw : IntKind.i64.wrap ((j : Int) + 1) = ((j : Int) + 1) := wrap_id (by omega) (by omega)
        obtain ⟨T1, u1, c1, p1, l1, s1, m1, k1⟩ := root_ev [sideC 67 0, sideC 68 1, graphC, needC] rfl N (by omega) N j hj 7999 u R _ (by omega) hj hul hup i3 i4 i2
        have n3 := s1.cells _ _ (by decide) i3
        have n4 := s1.cells _ _ (by decide) i4
        have hj1 : j + 1 ≤ u1.length := by omega
        have hset := p1.set j
        have hself : (u1.set j (R.getD j 0)).getD j 0 = R.getD j 0 := by simp [List.getD_eq_getElem?_getD, List.getElem?_set, l1, hj]
        have hoth : ∀ k, k ≠ j → (u1.set j (R.getD j 0)).getD k 0 = u1.getD k 0 := fun k hk => by simp [List.getD_eq_getElem?_getD, List.getElem?_set, Ne.symm hk]
        generalize hr : R.getD j 0 = v at *
        simp [vmS, runC_nil, runC_cons, pickC_some, wantC_tt, wantC_tf, effC_val, ifC_true, checkC, inPairs, keepC, okC, readsC_load, readV_some, AV.beq_self, wantA_n, wantA_g, wantD_some, d3, vloc, hj, i3, i4, c1, n3, m1, index22 hj, hj1, hw]
        refine hq1 (r - 1) _ _ (by omega) ⟨j + 1, _, _, u1.set j v, by omega, rfl, cells_put m1 n3 (by decide), cells_put m1 n4 (by decide), cells_put_self m1, by simp [l1], hset, ?_⟩
        intro k hk
        by_cases hkj : k = j
        · subst hkj; rw [hself, hr]
        · rw [hoth k hkj]; exact k1 k (hdone k (by omega))
      · have hjl : j = N := by omega
        subst hjl
        have huR : u = R := by
          apply List.ext_getElem (by rw [hul, hRl])
          intro i h1 h2
          have := hdone i (by omega)
          simpa [List.getD_eq_getElem?_getD, h1, h2] using this
        simp [vmS, vloc]
        refine hq2 _ _ _ (by simp) ⟨rfl, _, a13, _, u, rfl, i3, by rw [← huR]; exact i2⟩)
  obtain ⟨rfl, sc, a13, a86, u, rfl, g3, g2⟩ := hq
  simp [vmS, vloc, g3]
  refine hp _ _ ?_
  have hd : AV.deadL (nats R) = nats R := by rw [← ints_ofN]; exact ints_dead _
  have htk : (nats R).take N = nats R := List.take_of_length_le (by simp [hRl])
  have hall : (∀ x ∈ nats R, x.isCell = true) := fun x hx => List.all_eq_true.1 (nats_cell R) x hx
  simp [FRes.melt, AV.melt, g2, hRl, optR, slcI, ints_ofN, htk, hd, hall]
theorem comps_use {cs : List Con} (h : sumOf cs 41 = compsC.look) {n : Nat} {v : RV} {S : St} (hv : graphDom v) : callS ED (sumOf cs) n (.fn 41) [v.enc] S = some (graphR (gN v) slcI (compsOut (gN v).toNat (gE v)), S) := rv_use h hv

end Go.Proofs.YtpjcmiaanjcanaaGreatDoor
