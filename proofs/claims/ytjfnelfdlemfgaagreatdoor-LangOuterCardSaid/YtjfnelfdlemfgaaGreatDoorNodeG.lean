/-
All nodes of a program are handed on, one by one. No conditions.
-/
import Derived.Test.YtjfnelfdlemfgaaGreatDoorNodeF
set_option linter.all false
set_option maxHeartbeats 4000000
namespace Go.Vm.L
open Go Go.Proofs Go.Vm
set_option maxRecDepth 100000
attribute [local simp] inFrame startLoc startVals Loc.clear blockC Loc.putO Loc.put idx evO constV Loc.get Vm.look intA unwindA resultsA resultV actA pureA storeA loadA fillE repElems TI.zeroV fieldOf fieldAddrA fieldA elemsA retE cellsOf? setCells nowhere mapHead headNext
structure Nd where
 fn : Int
 up : Int
 place : Int
 op : Int
def Nd.vals (x : Nd) : List AV := [.int .i64 x.fn, .int .i64 x.up, .int .i64 x.place, .int .i64 x.op]
mutual
def Ex.size : Ex → Nat
 | .leaf _ _ _ _ => 1
 | .node _ _ _ x l => x.size + Ex.sizes l + 1
def Ex.sizes : List Ex → Nat
 | [] => 0
 | a :: r => a.size + Ex.sizes r
end
theorem Ex.size_kids (v : Ex) : v.size = Ex.sizes v.kids + 1 := by cases v <;> simp [Ex.size, Ex.kids, Ex.sizes]
mutual
/-- the nodes of an expression, in preorder, from a number on -/
def Ex.pre (f : Int) : Ex → Int → Nd → List (Nd × Ex)
 | .leaf o n m e, _, at_ => [(at_, .leaf o n m e)]
 | .node o n m x l, num, at_ => (at_, .node o n m x l) :: (x.pre f (num + 1) ⟨f, num, 0, x.op⟩ ++ Ex.pres f l (num + 1 + x.size) num 1)
def Ex.pres (f : Int) : List Ex → Int → Int → Int → List (Nd × Ex)
 | [], _, _, _ => []
 | a :: r, num, own, i => a.pre f num ⟨f, own, i, a.op⟩ ++ Ex.pres f r (num + a.size) own (i + 1)
end
theorem Ex.pre_kids (f : Int) (v : Ex) (num : Int) (at_ : Nd) : v.pre f num at_ = (at_, v) :: Ex.pres f v.kids (num + 1) num 0 := by
 cases v with
 | leaf o n m e => simp [Ex.pre, Ex.kids, Ex.pres]
 | node o n m x l => simp [Ex.pre, Ex.kids, Ex.pres]
inductive YR (α : Type) where
 | go (a : α)
 | stop (a : α)
 | pan (v : AV)
def foldY {α β : Type} (step : α → β → YR α) : α → List β → YR α
 | a, [] => .go a
 | a, x :: l => match step a x with
  | .go a' => foldY step a' l
  | .stop a' => .stop a'
  | .pan v => .pan v
theorem foldY_app {α β : Type} (step : α → β → YR α) : ∀ (l m : List β) (a : α), foldY step a (l ++ m) = match foldY step a l with
  | .go a' => foldY step a' m
  | .stop a' => .stop a'
  | .pan v => .pan v
 | [], m, a => rfl
 | x :: l, m, a => by
  simp only [List.cons_append, foldY]
  cases step a x with
  | go a' => exact foldY_app step l m a'
  | stop a' => rfl
  | pan v => rfl
theorem foldY_wt {α β : Type} {step : α → β → YR α} {wt : α → Nat} (h : ∀ a y a', step a y = .go a' → wt a' ≤ wt a + 1) : ∀ (l : List β) {a a' : α}, foldY step a l = .go a' → wt a' ≤ wt a + l.length
 | [], a, a', e => by simp only [foldY, YR.go.injEq] at e; subst e; simp
 | x :: l, a, a', e => by
  simp only [foldY] at e
  cases hs : step a x with
  | go b =>
   rw [hs] at e
   have h1 := h _ _ _ hs
   have h2 := foldY_wt h l e
   simp only [List.length_cons]
   omega
  | stop b => rw [hs] at e; cases e
  | pan v => rw [hs] at e; cases e
mutual
theorem Ex.pre_length (f : Int) : ∀ (e : Ex) (num : Int) (x : Nd), (e.pre f num x).length = e.size
 | .leaf o n m e, _, _ => by simp [Ex.pre, Ex.size]
 | .node o n m x l, num, y => by
  simp only [Ex.pre, Ex.size, List.length_cons, List.length_append, Ex.pre_length f x, Ex.pres_length f l]
theorem Ex.pres_length (f : Int) : ∀ (l : List Ex) (num own i : Int), (Ex.pres f l num own i).length = Ex.sizes l
 | [], _, _, _ => rfl
 | a :: r, num, own, i => by
  simp only [Ex.pres, Ex.sizes, List.length_append, Ex.pre_length f a, Ex.pres_length f r]
end
section
variable {α : Type} {step : α → Nd × Ex → YR α} {J : α → St → Prop} {Z : List Nat} {i cn cy cw : Nat} {wt : α → Nat} {K : Nat}
/-- all but what is of the yield, and the counter, is as it was -/
structure OldZ (Z : List Nat) (cn : Nat) (S S' : St) : Prop where
 n : S.n ≤ S'.n
 get : ∀ k, k < S.n → k ∉ Z → k ≠ cn → (∀ b, S.get k ≠ some (.tok b)) → S'.get k = S.get k
theorem OldZ.refl (Z : List Nat) (cn : Nat) (S : St) : OldZ Z cn S S := ⟨Nat.le_refl _, fun _ _ _ _ _ => rfl⟩
theorem OldZ.trans {S S' S'' : St} (h : OldZ Z cn S S') (k : OldZ Z cn S' S'') : OldZ Z cn S S'' :=
 ⟨Nat.le_trans h.n k.n, fun j hj h1 h2 h3 => by
  have e := h.get j hj h1 h2 h3
  exact (k.get j (Nat.lt_of_lt_of_le hj h.n) h1 h2 (fun b => by rw [e]; exact h3 b)).trans e⟩
theorem not_tok {S : St} {k : Nat} {cs : List AV} (hc : S.cells? k = some cs) (b : Bool) : S.get k ≠ some (.tok b) := fun h => by
 have := cells?_inv hc
 rw [h] at this
 cases this
theorem OldZ.cells {S S' : St} (h : OldZ Z cn S S') {k : Nat} {cs : List AV} (h1 : k ∉ Z) (h2 : k ≠ cn) (hc : S.cells? k = some cs) : S'.cells? k = some cs := by
 rw [cells?_def, h.get k (St.get_lt (cells?_inv hc)) h1 h2 (not_tok hc), ← cells?_def]
 exact hc
/-- all but what is of the yield is as it was -/
def Keep (Z : List Nat) (S S' : St) : Prop := S.n ≤ S'.n ∧ ∀ k, k < S.n → k ∉ Z → (∀ b, S.get k ≠ some (.tok b)) → S'.get k = S.get k
theorem Keep.cells {S S' : St} (h : Keep Z S S') {k : Nat} {cs : List AV} (h1 : k ∉ Z) (hc : S.cells? k = some cs) : S'.cells? k = some cs := by
 rw [cells?_def, h.2 k (St.get_lt (cells?_inv hc)) h1 (not_tok hc), ← cells?_def]
 exact hc
theorem Keep.old {S S' : St} (h : Keep Z S S') : OldZ Z cn S S' := ⟨h.1, fun k hk hz _ ht => h.2 k hk hz ht⟩
/-- a yield, as it answers -/
def YOkQ (Q : Ex → Prop) (l : Sm) (step : α → Nd × Ex → YR α) (J : α → St → Prop) (Z : List Nat) (wt : α → Nat) (K i n : Nat) : Prop :=
 ∀ (S : St) (a : α) (x : Nd) (e : Ex), J a S → Cl S → Q e → wt a < K → ∀ p : FRes → St → Prop,
  (∀ S' a', step a (x, e) = .go a' → J a' S' → Cl S' → Keep Z S S' → p (.ret (.bool true)) S') →
  (∀ S' a', step a (x, e) = .stop a' → J a' S' → Cl S' → Keep Z S S' → p (.ret (.bool false)) S') →
  (∀ S' v, step a (x, e) = .pan v → Cl S' → Keep Z S S' → p (.pan v) S') →
  GotF (callS ED (sumG l) n (.yld i) [.agg x.vals, e.enc] S) p
def YOk (l : Sm) (step : α → Nd × Ex → YR α) (J : α → St → Prop) (Z : List Nat) (wt : α → Nat) (K i n : Nat) : Prop := YOkQ Ex.fit l step J Z wt K i n
structure W94 (J : α → St → Prop) (i cn cy cw : Nat) (S : St) (num : Int) (a : α) : Prop where
 cl : Cl S
 n1 : cn < S.n
 n2 : cy < S.n
 n3 : cw < S.n
 c1 : S.cells? cn = some [.int .i64 num]
 c2 : S.cells? cy = some [.yld i]
 c3 : S.cells? cw = some [.fn 94 [] [.ptr cn 0, .ptr cy 0, .ptr cw 0]]
 j : J a S
def Runs94 (l : Sm) (step : α → Nd × Ex → YR α) (J : α → St → Prop) (Z : List Nat) (wt : α → Nat) (K i cn cy cw : Nat) (e : Ex) (n : Nat) : Prop :=
 ∀ (S : St) (a : α) (num : Int) (x : Nd), W94 J i cn cy cw S num a → 0 ≤ num → num + e.size ≤ 1000000 → wt a + e.size ≤ K → ∀ p : FRes → St → Prop,
  (∀ S' a', foldY step a (e.pre x.fn num x) = .go a' → W94 J i cn cy cw S' (num + e.size) a' → OldZ Z cn S S' → p (.ret (.bool true)) S') →
  (∀ S' a', foldY step a (e.pre x.fn num x) = .stop a' → J a' S' → Cl S' → OldZ Z cn S S' → p (.ret (.bool false)) S') →
  (∀ S' v, foldY step a (e.pre x.fn num x) = .pan v → Cl S' → OldZ Z cn S S' → p (.pan v) S') →
  GotF (callS ED (sumG l) n (.fn 94) [e.enc, .agg x.vals, .ptr cn 0, .ptr cy 0, .ptr cw 0] S) p
theorem W94.grow {S S' : St} {num num' : Int} {a a' : α} (W : W94 J i cn cy cw S num a) (hz2 : cy ∉ Z) (hz3 : cw ∉ Z) (h12 : cn ≠ cy) (h13 : cn ≠ cw) (hO : OldZ Z cn S S') (hc : Cl S') (hn : S'.cells? cn = some [.int .i64 num']) (hj : J a' S') : W94 J i cn cy cw S' num' a' :=
 ⟨hc, Nat.lt_of_lt_of_le W.n1 hO.n, Nat.lt_of_lt_of_le W.n2 hO.n, Nat.lt_of_lt_of_le W.n3 hO.n, hn, hO.cells hz2 (fun e => h12 e.symm) W.c2, hO.cells hz3 (fun e => h13 e.symm) W.c3, hj⟩
/-- a new cell, written to at once -/
theorem W94.cell {S : St} {num : Int} {a : α} (W : W94 J i cn cy cw S num a) (hJ : ∀ a S S', J a S → S.n ≤ S'.n → (∀ k, k < S.n → (k ∈ Z ∨ ∃ b, S.get k = some (.tok b)) → S'.get k = S.get k) → J a S') (hZ : ∀ a S, J a S → ∀ k ∈ Z, k < S.n) (hz2 : cy ∉ Z) (hz3 : cw ∉ Z) (h12 : cn ≠ cy) (h13 : cn ≠ cw) (zs xs : List AV) :
  W94 J i cn cy cw ((S.push (.cells zs)).put S.n (.cells xs)) num a ∧ OldZ Z cn S ((S.push (.cells zs)).put S.n (.cells xs)) ∧ ((S.push (.cells zs)).put S.n (.cells xs)).n = S.n + 1 ∧ ((S.push (.cells zs)).put S.n (.cells xs)).cells? S.n = some xs := by
 have hget : ∀ k, k < S.n → ((S.push (.cells zs)).put S.n (.cells xs)).get k = S.get k := fun k hk => by
  rw [St.get_put_ne _ _ _ (by omega), get_push_lt _ _ hk]
 have hn : ((S.push (.cells zs)).put S.n (.cells xs)).n = S.n + 1 := by rw [n_put', n_push']
 have hO : OldZ Z cn S ((S.push (.cells zs)).put S.n (.cells xs)) := ⟨by omega, fun k hk _ _ _ => hget k hk⟩
 refine ⟨W.grow hz2 hz3 h12 h13 hO (Cl.put (Cl.push W.cl _) _ _) ?_ (hJ _ _ _ W.j (by omega) (fun k hk _ => hget k hk)), hO, hn, cells?_put_push _ _ _⟩
 rw [cells?_def, hget cn W.n1, ← cells?_def]
 exact W.c1
theorem nodes_step {l : Sm} (hl : sumG l 94 = fun _ => none) (hJ : ∀ a S S', J a S → S.n ≤ S'.n → (∀ k, k < S.n → (k ∈ Z ∨ ∃ b, S.get k = some (.tok b)) → S'.get k = S.get k) → J a S') (hz1 : cn ∉ Z) (hz2 : cy ∉ Z) (hz3 : cw ∉ Z) (h12 : cn ≠ cy) (h13 : cn ≠ cw) (hZ : ∀ a S, J a S → ∀ k ∈ Z, k < S.n)
  {Q : Ex → Prop} {e : Ex} (he : e.fit) (hq : Q e) {n : Nat} (hn : e.kids.length + 2 ≤ n) (hst' : ∀ a y a', step a y = .go a' → wt a' ≤ wt a + 1) (hy : YOkQ Q l step J Z wt K i n) (hkids : ∀ x ∈ e.kids, Runs94 l step J Z wt K i cn cy cw x n) : Runs94 l step J Z wt K i cn cy cw e (n + 1) := by
 intro S a num x W h0 hsz hwK p hp1 hp2 hp3
 rw [callS_go (by rw [hl])]
 have W0 := W
 obtain ⟨⟨hbad, hwb⟩, hn1, hn2, hn3, c1, c2, c3, hj⟩ := W
 have hlen := e.len
 have hidx := fun j (hj : j < e.kids.length) => e.index hj
 obtain ⟨hc1, hc2, hc3⟩ := e.cell
 have hmx := Ex.fit_len he
 have hpk := e.pre_kids x.fn num x
 have hsk := e.size_kids
 have el := e.look
 rw [hpk] at hp1 hp2 hp3
 simp only [foldY] at hp1 hp2 hp3
 simp only [el, Nd.vals]
 have hw1 : IntKind.i64.wrap (num + 1) = num + 1 := wrap_id (by omega) (by omega)
 have q1 : ∀ j, (cn = S.n + j) = False := fun j => by simp; omega
 have q2 : ∀ j, (cy = S.n + j) = False := fun j => by simp; omega
 have q3 : ∀ j, (cw = S.n + j) = False := fun j => by simp; omega
 have q1' : (cn = S.n) = False := by simp; omega
 have q2' : (cy = S.n) = False := by simp; omega
 have q3' : (cw = S.n) = False := by simp; omega
 have r1 : ∀ j, (S.n + j = cn) = False := fun j => by simp; omega
 have r1' : (S.n = cn) = False := by simp; omega
 have h12' : (cy = cn) = False := by simp; omega
 have h13' : (cw = cn) = False := by simp; omega
 have l1 : cn < S.n + 2 := by omega
 have l1' : ∀ j, cn < S.n + j := fun j => by omega
 simp only [fnA, ED_fn94, fi94, Tryz.f94]
 simp [vmS, hbad, hwb, c1, c2, c3, hw1, q1, q2, q3, q1', q2', q3', r1, r1', h12', h13', l1, l1', hc1, hn1]
 have hSn : (((S.push (.cells [.int .i64 e.op, .int .i64 e.num, .int .i64 e.mun, e.lst])).push (.cells [.int .i64 x.fn, .int .i64 x.up, .int .i64 x.place, .int .i64 x.op])).put cn (.cells [.int .i64 (num + 1)])).n = S.n + 2 := by rw [n_put', n_push', n_push']
 have hget : ∀ k, k < S.n → k ≠ cn → (((S.push (.cells [.int .i64 e.op, .int .i64 e.num, .int .i64 e.mun, e.lst])).push (.cells [.int .i64 x.fn, .int .i64 x.up, .int .i64 x.place, .int .i64 x.op])).put cn (.cells [.int .i64 (num + 1)])).get k = S.get k := fun k hk hne => by
  rw [St.get_put_ne _ _ _ hne, get_push_lt _ _ (by rw [n_push']; omega), get_push_lt _ _ hk]
 have hOT : OldZ Z cn S (((S.push (.cells [.int .i64 e.op, .int .i64 e.num, .int .i64 e.mun, e.lst])).push (.cells [.int .i64 x.fn, .int .i64 x.up, .int .i64 x.place, .int .i64 x.op])).put cn (.cells [.int .i64 (num + 1)])) := ⟨by omega, fun k hk _ h _ => hget k hk h⟩
 have hTc : (((S.push (.cells [.int .i64 e.op, .int .i64 e.num, .int .i64 e.mun, e.lst])).push (.cells [.int .i64 x.fn, .int .i64 x.up, .int .i64 x.place, .int .i64 x.op])).put cn (.cells [.int .i64 (num + 1)])).cells? cn = some [.int .i64 (num + 1)] := cells?_put_self _ _ _ (by rw [n_push', n_push']; omega)
 have hT0 : (((S.push (.cells [.int .i64 e.op, .int .i64 e.num, .int .i64 e.mun, e.lst])).push (.cells [.int .i64 x.fn, .int .i64 x.up, .int .i64 x.place, .int .i64 x.op])).put cn (.cells [.int .i64 (num + 1)])).cells? S.n = some [.int .i64 e.op, .int .i64 e.num, .int .i64 e.mun, e.lst] := by
  rw [cells?_put_ne _ _ _ (by omega), cells?_push_ne _ _ (by rw [n_push']; omega), cells?_push_self]
 have hT1 : (((S.push (.cells [.int .i64 e.op, .int .i64 e.num, .int .i64 e.mun, e.lst])).push (.cells [.int .i64 x.fn, .int .i64 x.up, .int .i64 x.place, .int .i64 x.op])).put cn (.cells [.int .i64 (num + 1)])).cells? (S.n + 1) = some [.int .i64 x.fn, .int .i64 x.up, .int .i64 x.place, .int .i64 x.op] := by
  rw [cells?_put_ne _ _ _ (by omega)]
  exact cells?_push_eq _ _ (by rw [n_push'])
 have WT := W0.grow (Z := Z) (num' := num + 1) (a' := a) hz2 hz3 h12 h13 hOT (Cl.put (Cl.push (Cl.push ⟨hbad, hwb⟩ _) _) _ _) hTc (hJ _ _ _ hj (by omega) (fun k hk h => hget k hk (fun e => by
  subst e
  rcases h with h | ⟨b, h⟩
  ·exact hz1 h
  ·exact not_tok c1 b h)))
 generalize (((S.push (.cells [.int .i64 e.op, .int .i64 e.num, .int .i64 e.mun, e.lst])).push (.cells [.int .i64 x.fn, .int .i64 x.up, .int .i64 x.place, .int .i64 x.op])).put cn (.cells [.int .i64 (num + 1)])) = T at *
 obtain ⟨r1, S1, hcall, hP⟩ := gotF_iff.1 (hy T a x e WT.j WT.cl hq (by omega)
  (fun r S1 => (∃ a', r = .ret (.bool true) ∧ step a (x, e) = .go a' ∧ J a' S1 ∧ Cl S1 ∧ Keep Z T S1) ∨
   (∃ a', r = .ret (.bool false) ∧ step a (x, e) = .stop a' ∧ J a' S1 ∧ Cl S1 ∧ Keep Z T S1) ∨ ∃ v, r = .pan v ∧ step a (x, e) = .pan v ∧ Cl S1 ∧ Keep Z T S1)
  (fun S' a' h1 h2 h3 h4 => .inl ⟨a', rfl, h1, h2, h3, h4⟩) (fun S' a' h1 h2 h3 h4 => .inr (.inl ⟨a', rfl, h1, h2, h3, h4⟩)) (fun S' v h h1 h2 => .inr (.inr ⟨v, rfl, h, h1, h2⟩)))
 simp only [el, Nd.vals] at hcall
 have hzn : S.n ∉ Z := fun h => by have := hZ _ _ hj _ h; omega
 have hzn1 : S.n + 1 ∉ Z := fun h => by have := hZ _ _ hj _ h; omega
 rcases hP with ⟨a', rfl, hst, j1, C1, hK⟩ | ⟨a', rfl, hst, j1, C1, hK⟩ | ⟨v, rfl, hst, C1, hK⟩
 ·rw [hst] at hp1 hp2 hp3
  simp only at hp1 hp2 hp3
  have hO1 : OldZ Z cn T S1 := hK.old
  have hc1' : S1.cells? cn = some [.int .i64 (num + 1)] := hK.cells hz1 hTc
  have W1 := WT.grow (a' := a') hz2 hz3 h12 h13 hO1 C1 hc1' j1
  have u0 := hO1.cells hzn (by omega) hT0
  have u1 := hO1.cells hzn1 (by omega) hT1
  simp [vmS, hcall, unA, C1.1, C1.2, u0, u1, hlen, hTc]
  have hwt1 := hst' _ _ _ hst
  generalize hc : iter _ _ _ _ = c
  generalize hR : foldY step a' (Ex.pres x.fn e.kids (num + 1) num 0) = R at hp1 hp2 hp3
  obtain ⟨ex, L1, S2, rfl, hq⟩ := loop_of hc
   (fun r L S' => ∃ (j : Nat) (nj : Int) (aj : α) (y z : AV) (sc : List (Tmp × AV)), j + r = e.kids.length ∧ foldY step aj (Ex.pres x.fn (e.kids.drop j) nj num (j : Nat)) = R ∧ nj + Ex.sizes (e.kids.drop j) = num + e.size ∧ 0 ≤ nj ∧ (wt aj : Int) + num ≤ wt a + nj ∧
    L = vloc [.agg [.int .i64 e.op, .int .i64 e.num, .int .i64 e.mun, e.lst], .agg [.int .i64 x.fn, .int .i64 x.up, .int .i64 x.place, .int .i64 x.op], .ptr cn 0, .ptr cy 0, .ptr cw 0, .ptr S.n 0, .ptr (S.n + 1) 0, .bool false, .int .i64 num, y, z, e.lst, .int .i64 e.kids.length, .int .i64 (j : Nat)] sc ∧
    W94 J i cn cy cw S' nj aj ∧ OldZ Z cn T S')
   (fun ex L S' => (ex = .exit 0 ∧ (∃ (y z t : AV) (sc : List (Tmp × AV)), L = vloc [.agg [.int .i64 e.op, .int .i64 e.num, .int .i64 e.mun, e.lst], .agg [.int .i64 x.fn, .int .i64 x.up, .int .i64 x.place, .int .i64 x.op], .ptr cn 0, .ptr cy 0, .ptr cw 0, .ptr S.n 0, .ptr (S.n + 1) 0, .bool false, .int .i64 num, y, z, e.lst, .int .i64 e.kids.length, t] sc) ∧
     ∃ af, R = .go af ∧ W94 J i cn cy cw S' (num + e.size) af ∧ OldZ Z cn T S') ∨
    (ex = .ret ∧ (∃ (y z t : AV) (sc : List (Tmp × AV)), L = vloc [.agg [.int .i64 e.op, .int .i64 e.num, .int .i64 e.mun, e.lst], .agg [.int .i64 x.fn, .int .i64 x.up, .int .i64 x.place, .int .i64 x.op], .ptr cn 0, .ptr cy 0, .ptr cw 0, .ptr S.n 0, .ptr (S.n + 1) 0, .bool false, .int .i64 num, y, z, e.lst, .int .i64 e.kids.length, t] sc) ∧
     ∃ af, R = .stop af ∧ J af S' ∧ Cl S' ∧ OldZ Z cn T S') ∨
    (∃ v, ex = .pan v ∧ R = .pan v ∧ Cl S' ∧ OldZ Z cn T S' ∧ ∃ vs sc, L = vloc vs sc))
   e.kids.length (by omega)
   ⟨0, num + 1, a', _, _, _, by simp, by simpa using hR, by rw [List.drop_zero]; omega, by omega, by omega, rfl, W1, hO1⟩
   (by
    rintro r L S' ⟨j, nj, aj, y, z, sc, hjk, hs, hnj, hnj0, hwt, rfl, W', O'⟩ q hq1 hq2
    have v0 := O'.cells hzn (by omega) hT0
    have v1 := O'.cells hzn1 (by omega) hT1
    have W'' := W'
    obtain ⟨⟨w1, w2⟩, wn1, wn2, wn3, x1, x2, x3, xj⟩ := W''
    have hTn := O'.n
    by_cases hj : j < e.kids.length
    ·have hwj : IntKind.i64.wrap ((j : Int) + 1) = ((j : Int) + 1) := wrap_id (by omega) (by unfold maxLen at hmx; omega)
     have hix := hidx j hj
     have hmem : e.kids[j] ∈ e.kids := List.getElem_mem hj
     have hrun := hkids _ hmem
     rw [drop_kid hj] at hs hnj
     simp only [Ex.pres, Ex.sizes] at hs hnj
     rw [foldY_app] at hs
     generalize e.kids[j] = xk at *
     have xl := xk.look
     obtain ⟨g1, g2, g3⟩ := xk.cell
     rw [xl] at hix
     obtain ⟨s1, s2, s3, s4⟩ := W94.cell W' hJ hZ hz2 hz3 h12 h13 [.int .i64 0, .int .i64 0, .int .i64 0, .nils] [.int .i64 xk.op, .int .i64 xk.num, .int .i64 xk.mun, xk.lst]
     have zz : S'.n ∉ Z := fun h => by have := hZ _ _ xj _ h; omega
     generalize hS2 : (S'.push (.cells [.int .i64 0, .int .i64 0, .int .i64 0, .nils])).put S'.n (.cells [.int .i64 xk.op, .int .i64 xk.num, .int .i64 xk.mun, xk.lst]) = S2 at *
     have t0 := s2.cells hzn (by omega) v0
     have t1 := s2.cells hzn1 (by omega) v1
     have hbd : buildA ED 61 [(0, .int .i64 x.fn), (1, .int .i64 num), (2, .int .i64 (j : Nat)), (3, .int .i64 xk.op)] = some (.agg [.int .i64 x.fn, .int .i64 num, .int .i64 (j : Nat), .int .i64 xk.op]) := rfl
     obtain ⟨r3, S3, hcall3, hP3⟩ := gotF_iff.1 (hrun S2 aj nj ⟨x.fn, num, (j : Nat), xk.op⟩ s1 hnj0 (by omega) (by omega)
      (fun r S3 => (∃ af, r = .ret (.bool true) ∧ foldY step aj (xk.pre x.fn nj ⟨x.fn, num, (j : Nat), xk.op⟩) = .go af ∧ W94 J i cn cy cw S3 (nj + xk.size) af ∧ OldZ Z cn S2 S3) ∨
       (∃ af, r = .ret (.bool false) ∧ foldY step aj (xk.pre x.fn nj ⟨x.fn, num, (j : Nat), xk.op⟩) = .stop af ∧ J af S3 ∧ Cl S3 ∧ OldZ Z cn S2 S3) ∨ ∃ v, r = .pan v ∧ foldY step aj (xk.pre x.fn nj ⟨x.fn, num, (j : Nat), xk.op⟩) = .pan v ∧ Cl S3 ∧ OldZ Z cn S2 S3)
      (fun S3 af h1 h2 h3 => .inl ⟨af, rfl, h1, h2, h3⟩) (fun S3 af h1 h2 h3 h4 => .inr (.inl ⟨af, rfl, h1, h2, h3, h4⟩)) (fun S3 v h h1 h2 => .inr (.inr ⟨v, rfl, h, h1, h2⟩)))
     simp only [xl, Nd.vals] at hcall3
     obtain ⟨⟨u1, u2⟩, _, _, _, _, _, uw, _⟩ := s1
     rcases hP3 with ⟨af, rfl, hf, W3, O3⟩ | ⟨af, rfl, hf, J3, C3, O3⟩ | ⟨v, rfl, hf, C3, O3⟩
     ·have hwf := foldY_wt hst' _ hf
      rw [Ex.pre_length] at hwf
      rw [hf] at hs
      simp only at hs
      simp [vmS, vloc, hj, w1, w2, hix, hwj, hS2, u1, u2, t0, t1, s4, uw, g1, g2, g3, hbd, hcall3, unA, W3.cl.1, W3.cl.2]
      exact hq1 (r - 1) _ _ (by omega) ⟨j + 1, _, af, _, _, _, by omega, by simpa using hs, by omega, by omega, by omega, rfl, W3, (O'.trans s2).trans O3⟩
     ·rw [hf] at hs
      simp only at hs
      simp [vmS, vloc, hj, w1, w2, hix, hwj, hS2, u1, u2, t0, t1, s4, uw, g1, g2, g3, hbd, hcall3, unA, C3.1, C3.2]
      exact hq2 _ _ _ (by simp) (.inr (.inl ⟨rfl, ⟨_, _, _, _, rfl⟩, af, hs.symm, J3, C3, (O'.trans s2).trans O3⟩))
     ·rw [hf] at hs
      simp only at hs
      simp [vmS, vloc, hj, w1, w2, hix, hwj, hS2, u1, u2, t0, t1, s4, uw, g1, g2, g3, hbd, hcall3, stepE_pan]
      exact hq2 _ _ _ (by simp) (.inr (.inr ⟨v, rfl, hs.symm, C3, (O'.trans s2).trans O3, _, _, rfl⟩))
    ·have hjl : j = e.kids.length := by omega
     subst hjl
     rw [List.drop_length] at hs hnj
     simp only [Ex.pres, Ex.sizes, foldY] at hs hnj
     simp [vmS, vloc, w1, w2]
     exact hq2 _ _ _ (by simp) (.inl ⟨rfl, ⟨_, _, _, _, rfl⟩, aj, hs.symm, by rw [show num + (e.size : Int) = nj by omega]; exact ⟨⟨w1, w2⟩, wn1, wn2, wn3, x1, x2, x3, xj⟩, O'⟩))
  rcases hq with ⟨rfl, ⟨y, z, t, sc, rfl⟩, af, hRf, W2, O2⟩ | ⟨rfl, ⟨y, z, t, sc, rfl⟩, af, hRf, J2, C2, O2⟩ | ⟨v, rfl, hRf, C2, O2, vs, sc, rfl⟩
  ·simp [vmS, vloc, W2.cl.1, W2.cl.2]
   exact hp1 _ af hRf W2 (hOT.trans O2)
  ·simp [vmS, vloc]
   exact hp2 _ af hRf J2 C2 (hOT.trans O2)
  ·simp [vmS, vloc]
   exact hp3 _ v hRf C2 (hOT.trans O2)
 ·rw [hst] at hp2
  simp [vmS, hcall, unA, C1.1, C1.2]
  exact hp2 _ a' rfl j1 C1 (hOT.trans hK.old)
 ·rw [hst] at hp3
  simp [vmS, hcall, stepE_pan]
  exact hp3 _ v rfl C1 (hOT.trans hK.old)
end
def allPre : List Fu → Int → Int → List (Nd × Ex)
 | [], _, _ => []
 | f :: r, num, i => f.body.pre i num ⟨i, -1, 0, f.body.op⟩ ++ allPre r (num + f.body.size) (i + 1)
def allSize : List Fu → Nat
 | [] => 0
 | f :: r => f.body.size + allSize r
section
variable {α : Type} {step : α → Nd × Ex → YR α} {J : α → St → Prop} {Z : List Nat} {i cn cy cw : Nat} {wt : α → Nat} {K : Nat}
def All94 (l : Sm) (step : α → Nd × Ex → YR α) (J : α → St → Prop) (Z : List Nat) (wt : α → Nat) (K i : Nat) (e : Ex) (n : Nat) : Prop :=
 ∀ cn cy cw, cn ∉ Z → cy ∉ Z → cw ∉ Z → cn ≠ cy → cn ≠ cw → Runs94 l step J Z wt K i cn cy cw e n
theorem nodes_run {l : Sm} (hl : sumG l 94 = fun _ => none) (hJ : ∀ a S S', J a S → S.n ≤ S'.n → (∀ k, k < S.n → (k ∈ Z ∨ ∃ b, S.get k = some (.tok b)) → S'.get k = S.get k) → J a S') (hZ : ∀ a S, J a S → ∀ k ∈ Z, k < S.n)
  (hst' : ∀ a y a', step a y = .go a' → wt a' ≤ wt a + 1) {Q : Ex → Prop} (hQ : ∀ e x, Q e → x ∈ Ex.kids e → Q x) {M : Nat} (hy : ∀ n, M ≤ n → YOkQ Q l step J Z wt K i n) : ∀ (d : Nat) (e : Ex), e.deep ≤ d → e.fit → Q e → ∃ N, ∀ n, N ≤ n → All94 l step J Z wt K i e n := by
 intro d
 induction d with
 | zero => intro e hd _ _; have := e.deep_pos; omega
 | succ d ih =>
  intro e hd he hq
  obtain ⟨N, hN⟩ := max_fuel (P := fun x n => All94 l step J Z wt K i x n) e.kids (fun x hx => ih x (by have := Ex.deep_kid hx; omega) (Ex.fit_kid he hx) (hQ e x hq hx))
  refine ⟨max (max N (e.kids.length + 2)) M + 1, fun n hn cn cy cw h1 h2 h3 h4 h5 => ?_⟩
  obtain ⟨m, rfl⟩ : ∃ m, n = m + 1 := ⟨n - 1, by omega⟩
  exact nodes_step hl hJ h1 h2 h3 h4 h5 hZ he hq (by omega) hst' (hy m (by omega)) (fun x hx => hN m (by omega) x hx cn cy cw h1 h2 h3 h4 h5)
/-- what the walk over all functions does -/
def Runs93 (l : Sm) (step : α → Nd × Ex → YR α) (J : α → St → Prop) (Z : List Nat) (wt : α → Nat) (K i pb : Nat) (P : Pr) (n : Nat) : Prop :=
 ∀ (S : St) (a : α), J a S → Cl S → wt a + allSize P.funs ≤ K → S.cells? pb = some [P.val, .int .i64 P.main] → ∀ p : FRes → St → Prop,
  (∀ S' a', foldY step a (allPre P.funs 0 0) = .go a' → J a' S' → Cl S' → Keep Z S S' → p (.ret (.tup [])) S') →
  (∀ S' a', foldY step a (allPre P.funs 0 0) = .stop a' → J a' S' → Cl S' → Keep Z S S' → p (.ret (.tup [])) S') →
  (∀ S' v, foldY step a (allPre P.funs 0 0) = .pan v → Cl S' → Keep Z S S' → p (.pan v) S') →
  GotF (callS ED (sumG l) n (.fn 93) [.yld i, .ptr pb 0] S) p
theorem nodes93_step {l : Sm} (hl : sumG l 93 = fun _ => none) (hJ : ∀ a S S', J a S → S.n ≤ S'.n → (∀ k, k < S.n → (k ∈ Z ∨ ∃ b, S.get k = some (.tok b)) → S'.get k = S.get k) → J a S') (hZ : ∀ a S, J a S → ∀ k ∈ Z, k < S.n)
  {P : Pr} (hfit : P.fit) {pb : Nat} (hsz : allSize P.funs ≤ 1000000) {n : Nat} (hn : P.funs.length + 2 ≤ n) (hst' : ∀ a y a', step a y = .go a' → wt a' ≤ wt a + 1) (hrun : ∀ cn cy cw, cn ∉ Z → cy ∉ Z → cw ∉ Z → cn ≠ cy → cn ≠ cw → ∀ f ∈ P.funs, Runs94 l step J Z wt K i cn cy cw f.body n) : Runs93 l step J Z wt K i pb P (n + 1) := by
 intro S a hj hcl hwK hpb p hp1 hp2 hp3
 rw [callS_go (by rw [hl])]
 obtain ⟨hbad, hwb⟩ := hcl
 obtain ⟨q1, q2, q3, q4, q5⟩ := lenV_len (P.lenV hfit) (t := 22) (e := 63) rfl
 have hlt := St.get_lt (cells?_inv hpb)
 have b1 : (pb = S.n) = False := by simp; omega
 have b2 : ∀ j, (pb = S.n + j) = False := fun j => by simp; omega
 simp only [fnA, ED_fn93, fi93, Tryz.f93]
 simp [vmS, hbad, hwb, hpb, b1, b2, q1, q2, q3, q4]
 have hTn : (((((S.push (.cells [.yld i])).push (.cells [.int .i64 0])).put (S.n + 1) (.cells [.int .i64 0])).push (.cells [.nilf])).put (S.n + 2) (.cells [.fn 94 [] [.ptr (S.n + 1) 0, .ptr S.n 0, .ptr (S.n + 2) 0]])).n = S.n + 3 := by rw [n_put', n_push', n_put', n_push', n_push']
 have hTg : ∀ k, k < S.n → (((((S.push (.cells [.yld i])).push (.cells [.int .i64 0])).put (S.n + 1) (.cells [.int .i64 0])).push (.cells [.nilf])).put (S.n + 2) (.cells [.fn 94 [] [.ptr (S.n + 1) 0, .ptr S.n 0, .ptr (S.n + 2) 0]])).get k = S.get k := fun k hk => by
  rw [St.get_put_ne _ _ _ (by omega), get_push_lt _ _ (by rw [n_put', n_push', n_push']; omega), St.get_put_ne _ _ _ (by omega), get_push_lt _ _ (by rw [n_push']; omega), get_push_lt _ _ hk]
 have hz0 : S.n ∉ Z := fun h => by have := hZ _ _ hj _ h; omega
 have hz1 : S.n + 1 ∉ Z := fun h => by have := hZ _ _ hj _ h; omega
 have hz2 : S.n + 2 ∉ Z := fun h => by have := hZ _ _ hj _ h; omega
 have WT : W94 J i (S.n + 1) S.n (S.n + 2) (((((S.push (.cells [.yld i])).push (.cells [.int .i64 0])).put (S.n + 1) (.cells [.int .i64 0])).push (.cells [.nilf])).put (S.n + 2) (.cells [.fn 94 [] [.ptr (S.n + 1) 0, .ptr S.n 0, .ptr (S.n + 2) 0]])) 0 a := by
  refine ⟨Cl.put (Cl.push (Cl.put (Cl.push (Cl.push ⟨hbad, hwb⟩ _) _) _ _) _) _ _, by omega, by omega, by omega, ?_, ?_, ?_, hJ _ _ _ hj (by omega) (fun k hk _ => hTg k hk)⟩
  ·rw [cells?_put_ne _ _ _ (by omega), cells?_push_ne _ _ (by rw [n_put', n_push', n_push']; omega)]
   exact cells?_put_self _ _ _ (by rw [n_push', n_push']; omega)
  ·rw [cells?_put_ne _ _ _ (by omega), cells?_push_ne _ _ (by rw [n_put', n_push', n_push']; omega), cells?_put_ne _ _ _ (by omega), cells?_push_ne _ _ (by rw [n_push']; omega), cells?_push_self]
  ·exact cells?_put_self _ _ _ (by rw [n_push', n_put', n_push', n_push']; omega)
 generalize (((((S.push (.cells [.yld i])).push (.cells [.int .i64 0])).put (S.n + 1) (.cells [.int .i64 0])).push (.cells [.nilf])).put (S.n + 2) (.cells [.fn 94 [] [.ptr (S.n + 1) 0, .ptr S.n 0, .ptr (S.n + 2) 0]])) = T at *
 generalize hc : iter _ _ _ _ = c
 generalize hR : foldY step a (allPre P.funs 0 0) = R at hp1 hp2 hp3
 have hout : ∀ S', OldZ Z (S.n + 1) T S' → Keep Z S S' := fun S' O =>
  ⟨by have := O.n; omega, fun k hk hz ht => (O.get k (by omega) hz (by omega) (fun b => by rw [hTg k hk]; exact ht b)).trans (hTg k hk)⟩
 obtain ⟨ex, L1, S2, rfl, hq⟩ := loop_of hc
  (fun r L S' => ∃ (j : Nat) (nj : Int) (aj : α) (y z : AV) (sc : List (Tmp × AV)), j + r = P.funs.length ∧ foldY step aj (allPre (P.funs.drop j) nj (j : Nat)) = R ∧ nj + allSize (P.funs.drop j) = allSize P.funs ∧ 0 ≤ nj ∧ (wt aj : Int) ≤ wt a + nj ∧
   L = vloc [.yld i, .ptr pb 0, .ptr S.n 0, .ptr (S.n + 1) 0, .ptr (S.n + 2) 0, y, z, P.val, .int .i64 P.funs.length, .int .i64 (j : Nat)] sc ∧
   W94 J i (S.n + 1) S.n (S.n + 2) S' nj aj ∧ OldZ Z (S.n + 1) T S')
  (fun ex L S' => ((ex = .exit 0 ∨ ex = .ret) ∧ (∃ vs sc, L = vloc vs sc) ∧ ∃ af, (R = .go af ∨ R = .stop af) ∧ J af S' ∧ Cl S' ∧ OldZ Z (S.n + 1) T S') ∨
   (∃ v, ex = .pan v ∧ R = .pan v ∧ Cl S' ∧ OldZ Z (S.n + 1) T S' ∧ ∃ vs sc, L = vloc vs sc))
  P.funs.length (by omega)
  ⟨0, 0, a, _, _, _, by simp, by simpa using hR, by rw [List.drop_zero]; omega, by omega, by omega, rfl, WT, OldZ.refl _ _ _⟩
  (by
   rintro r L S' ⟨j, nj, aj, y, z, sc, hjk, hs, hnj, hnj0, hwt, rfl, W', O'⟩ q hq1 hq2
   have W'' := W'
   obtain ⟨⟨w1, w2⟩, wn1, wn2, wn3, x1, x2, x3, xj⟩ := W''
   by_cases hj' : j < P.funs.length
   ·have hwj : IntKind.i64.wrap ((j : Int) + 1) = ((j : Int) + 1) := wrap_id (by omega) (by have := hfit.2; omega)
    have hix := index_fu (l := P.funs) (tk := .dead) hj'
    rw [← P.val_slice (by intro e; rw [e] at hj'; simp at hj')] at hix
    have hrun' := hrun (S.n + 1) S.n (S.n + 2) hz1 hz0 hz2 (by omega) (by omega) _ (List.getElem_mem hj')
    rw [List.drop_eq_getElem_cons hj'] at hs hnj
    simp only [allPre, allSize] at hs hnj
    rw [foldY_app] at hs
    generalize P.funs[j] = f at *
    have xl := f.body.look
    obtain ⟨g1, g2, g3⟩ := f.body.cell
    simp only [Fu.vals] at hix
    obtain ⟨s1, s2, s3, s4⟩ := W94.cell W' hJ hZ hz0 hz2 (by omega) (by omega) [.str [], .int .i64 0, .int .i64 0, .int .i64 0, .int .i64 0, .nils] [.str f.name, .int .i64 f.par, .int .i64 f.body.op, .int .i64 f.body.num, .int .i64 f.body.mun, f.body.lst]
    generalize hS2 : (S'.push (.cells [.str [], .int .i64 0, .int .i64 0, .int .i64 0, .int .i64 0, .nils])).put S'.n (.cells [.str f.name, .int .i64 f.par, .int .i64 f.body.op, .int .i64 f.body.num, .int .i64 f.body.mun, f.body.lst]) = S2 at *
    have hbd : buildA ED 61 [(0, .int .i64 (j : Nat)), (1, .int .i64 (-1)), (3, .int .i64 f.body.op)] = some (.agg [.int .i64 (j : Nat), .int .i64 (-1), .int .i64 0, .int .i64 f.body.op]) := rfl
    obtain ⟨r3, S3, hcall3, hP3⟩ := gotF_iff.1 (hrun' S2 aj nj ⟨(j : Nat), -1, 0, f.body.op⟩ s1 hnj0 (by omega) (by omega)
     (fun r S3 => (∃ af, r = .ret (.bool true) ∧ foldY step aj (f.body.pre (j : Nat) nj ⟨(j : Nat), -1, 0, f.body.op⟩) = .go af ∧ W94 J i (S.n + 1) S.n (S.n + 2) S3 (nj + f.body.size) af ∧ OldZ Z (S.n + 1) S2 S3) ∨
      (∃ af, r = .ret (.bool false) ∧ foldY step aj (f.body.pre (j : Nat) nj ⟨(j : Nat), -1, 0, f.body.op⟩) = .stop af ∧ J af S3 ∧ Cl S3 ∧ OldZ Z (S.n + 1) S2 S3) ∨ ∃ v, r = .pan v ∧ foldY step aj (f.body.pre (j : Nat) nj ⟨(j : Nat), -1, 0, f.body.op⟩) = .pan v ∧ Cl S3 ∧ OldZ Z (S.n + 1) S2 S3)
     (fun S3 af h1 h2 h3 => .inl ⟨af, rfl, h1, h2, h3⟩) (fun S3 af h1 h2 h3 h4 => .inr (.inl ⟨af, rfl, h1, h2, h3, h4⟩)) (fun S3 v h h1 h2 => .inr (.inr ⟨v, rfl, h, h1, h2⟩)))
    simp only [xl, Nd.vals] at hcall3
    obtain ⟨⟨u1, u2⟩, _, _, _, _, _, uw, _⟩ := s1
    rcases hP3 with ⟨af, rfl, hf, W3, O3⟩ | ⟨af, rfl, hf, J3, C3, O3⟩ | ⟨v, rfl, hf, C3, O3⟩
    ·have hwf := foldY_wt hst' _ hf
     rw [Ex.pre_length] at hwf
     rw [hf] at hs
     simp only at hs
     simp [vmS, vloc, hj', w1, w2, hix, hwj, hS2, u1, u2, s4, uw, g1, g2, g3, hbd, hcall3, unA, W3.cl.1, W3.cl.2]
     exact hq1 (r - 1) _ _ (by omega) ⟨j + 1, _, af, _, _, _, by omega, by simpa using hs, by omega, by omega, by omega, rfl, W3, (O'.trans s2).trans O3⟩
    ·rw [hf] at hs
     simp only at hs
     simp [vmS, vloc, hj', w1, w2, hix, hwj, hS2, u1, u2, s4, uw, g1, g2, g3, hbd, hcall3, unA, C3.1, C3.2]
     exact hq2 _ _ _ (by simp) (.inl ⟨.inr rfl, ⟨_, _, rfl⟩, af, .inr hs.symm, J3, C3, (O'.trans s2).trans O3⟩)
    ·rw [hf] at hs
     simp only at hs
     simp [vmS, vloc, hj', w1, w2, hix, hwj, hS2, u1, u2, s4, uw, g1, g2, g3, hbd, hcall3, stepE_pan]
     exact hq2 _ _ _ (by simp) (.inr ⟨v, rfl, hs.symm, C3, (O'.trans s2).trans O3, _, _, rfl⟩)
   ·have hjl : j = P.funs.length := by omega
    subst hjl
    rw [List.drop_length] at hs hnj
    simp only [allPre, foldY] at hs
    simp [vmS, vloc, w1, w2]
    exact hq2 _ _ _ (by simp) (.inl ⟨.inl rfl, ⟨_, _, rfl⟩, aj, .inl hs.symm, xj, ⟨w1, w2⟩, O'⟩))
 rcases hq with ⟨he, ⟨vs, sc, rfl⟩, af, hRf, J2, C2, O2⟩ | ⟨v, rfl, hRf, C2, O2, vs, sc, rfl⟩
 ·have hgo : p (.ret (.tup [])) S2 := by
   rcases hRf with h | h
   ·exact hp1 _ af h J2 C2 (hout _ O2)
   ·exact hp2 _ af h J2 C2 (hout _ O2)
  rcases he with rfl | rfl
  ·simp [vmS, vloc]
   exact hgo
  ·simp [vmS, vloc]
   exact hgo
 ·simp [vmS, vloc]
  exact hp3 _ v hRf C2 (hout _ O2)
theorem nodes93Q {l : Sm} (hl : sumG l 93 = fun _ => none) (hl' : sumG l 94 = fun _ => none) (hJ : ∀ a S S', J a S → S.n ≤ S'.n → (∀ k, k < S.n → (k ∈ Z ∨ ∃ b, S.get k = some (.tok b)) → S'.get k = S.get k) → J a S') (hZ : ∀ a S, J a S → ∀ k ∈ Z, k < S.n)
  {P : Pr} (hfit : P.fit) {pb : Nat} (hsz : allSize P.funs ≤ 1000000) (hst' : ∀ a y a', step a y = .go a' → wt a' ≤ wt a + 1) {Q : Ex → Prop} (hQ : ∀ e x, Q e → x ∈ Ex.kids e → Q x) (hqs : ∀ f ∈ P.funs, Q f.body) {M : Nat} (hy : ∀ n, M ≤ n → YOkQ Q l step J Z wt K i n) : ∃ N, ∀ n, N ≤ n → Runs93 l step J Z wt K i pb P n := by
 obtain ⟨N, hN⟩ := max_fuel (P := fun (f : Fu) n => All94 l step J Z wt K i f.body n) P.funs (fun f hf => nodes_run hl' hJ hZ hst' hQ hy f.body.deep f.body (Nat.le_refl _) (hfit.1 f hf).2 (hqs f hf))
 refine ⟨max N (P.funs.length + 2) + 1, fun n hn => ?_⟩
 obtain ⟨m, rfl⟩ : ∃ m, n = m + 1 := ⟨n - 1, by omega⟩
 exact nodes93_step hl hJ hZ hfit hsz (by omega) hst' (fun cn cy cw h1 h2 h3 h4 h5 f hf => hN m (by omega) f hf cn cy cw h1 h2 h3 h4 h5)
theorem nodes93 {l : Sm} (hl : sumG l 93 = fun _ => none) (hl' : sumG l 94 = fun _ => none) (hJ : ∀ a S S', J a S → S.n ≤ S'.n → (∀ k, k < S.n → (k ∈ Z ∨ ∃ b, S.get k = some (.tok b)) → S'.get k = S.get k) → J a S') (hZ : ∀ a S, J a S → ∀ k ∈ Z, k < S.n)
  {P : Pr} (hfit : P.fit) {pb : Nat} (hsz : allSize P.funs ≤ 1000000) (hst' : ∀ a y a', step a y = .go a' → wt a' ≤ wt a + 1) {M : Nat} (hy : ∀ n, M ≤ n → YOk l step J Z wt K i n) : ∃ N, ∀ n, N ≤ n → Runs93 l step J Z wt K i pb P n :=
 nodes93Q hl hl' hJ hZ hfit hsz hst' (fun _ _ h hx => Ex.fit_kid h hx) (fun f hf => (hfit.1 f hf).2) hy
end
def rangesOf : Code → List (Code × Code)
 | .rangeFunc _ _ a b => (a, b) :: (rangesOf a ++ rangesOf b)
 | .loop c => rangesOf c
 | .seq a b | .cond _ a b => rangesOf a ++ rangesOf b
 | .block _ c | .scope c => rangesOf c
 | _ => []
def rfA (f : Func) (k : Nat) : Code × Code := (rangesOf (f.body.getD .skip)).getD k (.skip, .skip)
def rangeC (X : Ctx) (params : Array Tmp) (asg body : Code) (L : Vm.Loc) (S : St) : AV → CRes
 | .fn g first cap => endC (S.n + 1) { L.clear with defers := .coll S.n :: L.defers } (X.call (.fn g) (first ++ [.yld (S.n + 1)] ++ cap) ((S.push (.dfr false)).push (.loop { state := .ready, pend := none, fid := X.fid, vals := L.vals, params, asg, body, dfr := S.n })))
 | _ => none
theorem evalC_range {X : Ctx} {f : Operand} {params : Array Tmp} {asg body : Code} {vals : List AV} {sc : List (Tmp × AV)} {d : List ADef} {r : RecS} {S : St} :
  evalC X (.rangeFunc f params asg body) { vals := vals, sc := sc, defers := d, recs := r, rnd := none } S =
   rangeC X params asg body { vals := vals, sc := sc, defers := d, recs := r, rnd := none } S (evO X.E X.vars { vals := vals, sc := sc, defers := d, recs := r, rnd := none } f) := by
 unfold evalC rangeC
 split <;> simp_all
theorem rangeC_fn {X : Ctx} {params : Array Tmp} {asg body : Code} {L : Vm.Loc} {S : St} {g : FuncId} {first cap : List AV} : rangeC X params asg body L S (.fn g first cap) =
  endC (S.n + 1) { L.clear with defers := .coll S.n :: L.defers } (X.call (.fn g) (first ++ [.yld (S.n + 1)] ++ cap) ((S.push (.dfr false)).push (.loop { state := .ready, pend := none, fid := X.fid, vals := L.vals, params, asg, body, dfr := S.n }))) := rfl
theorem endC_ok {l : Nat} {L : Vm.Loc} {S : St} {v : AV} {a : ALoop} (h : S.get l = some (.loop a)) (h1 : a.state = .ready) (h2 : a.pend = none) : endC l L (some (.ret v, S)) = some (.normal, L, S.put l (.loop { a with state := .exhausted })) := by
 simp only [endC, h, h1, h2]
theorem endC_pan {l : Nat} {L : Vm.Loc} {S : St} {v : AV} : endC l L (some (.pan v, S)) = some (.pan v, L, S) := rfl
theorem callS_yld {E : Env} {sum : FuncId → List AV → Option FRes} {n l : Nat} {args : List AV} {S : St} : callS E sum (n + 1) (.yld l) args S = yldA E (callS E sum n) (iter n) l args S := rfl
theorem get_put_self {S : St} {i : Nat} {o o' : AO} (h : S.get i = some o) : (S.put i o').get i = some o' := St.get_put_self _ _ _ (St.get_lt h)
theorem get_put_ne {S : St} {i j : Nat} {o : AO} (h : j ≠ i) : (S.put i o).get j = S.get j := St.get_put_ne _ _ _ h
theorem yld_round {E : Env} {call : CallF} {it : (Vm.Loc → St → CRes) → Vm.Loc → St → CRes} {l : Nat} {args : List AV} {S S1 S2 : St} {a a1 a2 : ALoop} {fi : FInfo} {L L1 L2 : Vm.Loc} (h1 : S.get l = some (.loop a)) (h2 : E.fn a.fid = some fi)
  (h3 : a.params.toList.all (fun t => decide (t < fi.fn.ntmps)) = true) (h4 : putAll fi.vars { vals := a.vals, sc := [], defers := [], recs := .no, rnd := some l } a.params.toList args = some L)
  (h5 : evalC { E, call, it, fid := a.fid, vars := fi.vars, nt := fi.fn.ntmps } a.asg L S = some (.normal, L1, S1)) (h6 : S1.get l = some (.loop a1)) (h7 : a1.state = .ready)
  (h8 : evalC { E, call, it, fid := a.fid, vars := fi.vars, nt := fi.fn.ntmps } a.body L1 (S1.put l (.loop { a1 with state := .busy })) = some (.normal, L2, S2)) (h9 : L2.defers = []) (h10 : S2.get l = some (.loop a2)) :
  yldA E call it l args S = some (.ret (.bool true), S2.put l (.loop { a2 with state := .ready, pend := none })) := by
 unfold yldA
 simp only [h1, h2, h3, if_true, h4, h5, h6, h7, h8, h9, h10]
theorem yld_pan {E : Env} {call : CallF} {it : (Vm.Loc → St → CRes) → Vm.Loc → St → CRes} {l : Nat} {args : List AV} {S S1 S2 : St} {a a1 a2 : ALoop} {fi : FInfo} {L L1 L2 : Vm.Loc} {v : AV} (h1 : S.get l = some (.loop a)) (h2 : E.fn a.fid = some fi)
  (h3 : a.params.toList.all (fun t => decide (t < fi.fn.ntmps)) = true) (h4 : putAll fi.vars { vals := a.vals, sc := [], defers := [], recs := .no, rnd := some l } a.params.toList args = some L)
  (h5 : evalC { E, call, it, fid := a.fid, vars := fi.vars, nt := fi.fn.ntmps } a.asg L S = some (.normal, L1, S1)) (h6 : S1.get l = some (.loop a1)) (h7 : a1.state = .ready)
  (h8 : evalC { E, call, it, fid := a.fid, vars := fi.vars, nt := fi.fn.ntmps } a.body L1 (S1.put l (.loop { a1 with state := .busy })) = some (.pan v, L2, S2)) (h9 : L2.defers = []) (h10 : S2.get l = some (.loop a2)) :
  yldA E call it l args S = some (.pan v, S2) := by
 unfold yldA
 simp only [h1, h2, h3, if_true, h4, h5, h6, h7, h8, h9, h10]
/-! sizes -/
theorem Ex.walk_size (k : Nat) : ∀ (d : Nat) (e : Ex), e.deep ≤ d → ∀ (left deep : Int) (vars : List Int) (l' : Int), e.walk k left deep vars = some l' → l' = left - e.size ∧ (e.size : Int) ≤ left := by
 intro d
 induction d with
 | zero => intro e hd; have := e.deep_pos; omega
 | succ d ih =>
  intro e hd left deep vars l' h
  rw [e.walk_kids] at h
  unfold Ex.check at h
  split at h
  ·rename_i hc
   split at h
   ·rename_i parts f b1 b2 hf
    split at h
    ·have hs := e.size_kids
     have key : ∀ (l : List Ex), (∀ x ∈ l, x ∈ e.kids) → ∀ (left : Int) (i : Nat) (l' : Int), 0 ≤ left → Ex.walks k l left (deep + 1) vars b1 b2 e.num e.mun i = some l' → l' = left - Ex.sizes l ∧ (Ex.sizes l : Int) ≤ left := by
      intro l
      induction l with
      | nil => intro _ left i l' h0 h; simp only [Ex.walks, Option.some.injEq] at h; subst h; simp [Ex.sizes, h0]
      | cons x r ihr =>
       intro hm left i l' h0 h
       simp only [Ex.walks] at h
       cases hx : x.walk k left (deep + 1) (boundL b1 b2 (i : Nat) vars e.num e.mun) with
       | none => rw [hx] at h; cases h
       | some l1 =>
        rw [hx] at h
        obtain ⟨h1, h2⟩ := ih x (by have := Ex.deep_kid (hm x (by simp)); omega) _ _ _ _ hx
        obtain ⟨h3, h4⟩ := ihr (fun y hy => hm y (by simp [hy])) _ _ _ (by omega) h
        simp only [Ex.sizes]
        omega
     obtain ⟨h1, h2⟩ := key e.kids (fun _ h => h) _ _ _ (by omega) h
     omega
    ·cases h
   ·cases h
  ·cases h
theorem bodyB_size {k : Nat} {e : Ex} {zs : List Int} (h : bodyB k e zs = true) : e.size ≤ 600 := by
 unfold bodyB at h
 cases hw : e.walk k 600 1 zs with
 | none => rw [hw] at h; cases h
 | some l' =>
  have := (Ex.walk_size k e.deep e (Nat.le_refl _) _ _ _ _ hw).2
  omega
theorem goodsB_size {k : Nat} : ∀ {fs prev : List Fu}, goodsB k prev fs = true → allSize fs ≤ 600 * fs.length
 | [], _, _ => by simp [allSize]
 | f :: r, prev, h => by
  simp only [goodsB, Bool.and_eq_true] at h
  have h1 := bodyB_size h.1.2
  have h2 := goodsB_size h.2
  simp only [allSize, List.length_cons]
  omega
theorem formedB_size {fs : List Fu} {main : Int} (h : formedB fs main = true) : allSize fs ≤ 24000 ∧ fs.length ≤ 40 := by
 simp only [formedB, Bool.and_eq_true, decide_eq_true_eq] at h
 have := goodsB_size h.2
 omega
end Go.Vm.L
