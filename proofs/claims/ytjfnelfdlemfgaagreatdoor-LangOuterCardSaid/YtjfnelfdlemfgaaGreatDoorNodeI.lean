/-
Whether a program is far too great. No conditions.
-/
import Derived.Test.YtjfnelfdlemfgaaGreatDoorNodeH
set_option linter.all false
set_option maxHeartbeats 4000000
namespace Go.Vm.L
open Go Go.Proofs Go.Vm
set_option maxRecDepth 100000
attribute [local simp] inFrame startLoc startVals Loc.clear blockC Loc.putO Loc.put idx evO constV Loc.get Vm.look intA unwindA resultsA resultV actA pureA storeA loadA fillE repElems TI.zeroV fieldOf fieldAddrA fieldA elemsA retE cellsOf? setCells nowhere mapHead headNext
mutual
def Ex.gr : Ex → Nat → Nat → Bool × Nat
 | .leaf _ _ _ _, n, d => if 3000 < n + 1 ∨ 100 < d then (true, n + 1) else (false, n + 1)
 | .node _ _ _ x l, n, d => if 3000 < n + 1 ∨ 100 < d then (true, n + 1) else
   match x.gr (n + 1) (d + 1) with
   | (true, m) => (true, m)
   | (false, m) => Ex.grs l m (d + 1)
def Ex.grs : List Ex → Nat → Nat → Bool × Nat
 | [], n, _ => (false, n)
 | x :: l, n, d => match x.gr n d with
  | (true, m) => (true, m)
  | (false, m) => Ex.grs l m d
end
theorem Ex.gr_kids (e : Ex) (n d : Nat) : e.gr n d = if 3000 < n + 1 ∨ 100 < d then (true, n + 1) else Ex.grs e.kids (n + 1) (d + 1) := by
 cases e with
 | leaf o a m z => simp only [Ex.gr, Ex.kids, Ex.grs]
 | node o a m x l => simp only [Ex.gr, Ex.kids, Ex.grs]
mutual
theorem Ex.gr_le : ∀ (e : Ex) (n d : Nat), n ≤ 3000 → (e.gr n d).2 ≤ 3001 ∧ ((e.gr n d).1 = false → (e.gr n d).2 ≤ 3000)
 | .leaf _ _ _ _, n, d, h => by
  simp only [Ex.gr]
  split
  ·exact ⟨by simp; omega, fun h => by cases h⟩
  ·rename_i hc
   exact ⟨by simp; omega, fun _ => by simp; omega⟩
 | .node _ _ _ x l, n, d, h => by
  simp only [Ex.gr]
  split
  ·exact ⟨by simp; omega, fun h => by cases h⟩
  ·rename_i hc
   have h1 := Ex.gr_le x (n + 1) (d + 1) (by omega)
   split
   ·rename_i m hm
    rw [hm] at h1
    exact ⟨h1.1, fun h => by cases h⟩
   ·rename_i m hm
    rw [hm] at h1
    exact Ex.grs_le l m (d + 1) (h1.2 rfl)
theorem Ex.grs_le : ∀ (l : List Ex) (n d : Nat), n ≤ 3000 → (Ex.grs l n d).2 ≤ 3001 ∧ ((Ex.grs l n d).1 = false → (Ex.grs l n d).2 ≤ 3000)
 | [], n, d, h => ⟨by simp only [Ex.grs]; omega, fun _ => by simp only [Ex.grs]; omega⟩
 | x :: l, n, d, h => by
  simp only [Ex.grs]
  have h1 := Ex.gr_le x n d h
  split
  ·rename_i m hm
   rw [hm] at h1
   exact ⟨h1.1, fun h => by cases h⟩
  ·rename_i m hm
   rw [hm] at h1
   exact Ex.grs_le l m d (h1.2 rfl)
end
structure WG (S : St) (n : Nat) : Prop where
 cl : Cl S
 h3 : 3 ≤ S.n
 c1 : S.cells? 1 = some [.int .i64 n]
 c2 : S.cells? 2 = some [.fn 44 [] [.ptr 1 0, .ptr 2 0]]
structure OldG (S S' : St) : Prop where
 n : S.n ≤ S'.n
 get : ∀ i, i < S.n → i ≠ 1 → S'.get i = S.get i
theorem OldG.trans {S S' S'' : St} (h : OldG S S') (k : OldG S' S'') : OldG S S'' :=
 ⟨Nat.le_trans h.n k.n, fun i hi h3 => (k.get i (Nat.lt_of_lt_of_le hi h.n) h3).trans (h.get i hi h3)⟩
theorem OldG.cells {S S' : St} (h : OldG S S') {i : Nat} {cs : List AV} (h3 : i ≠ 1) (hc : S.cells? i = some cs) : S'.cells? i = some cs := by
 rw [cells?_def, h.get i (St.get_lt (cells?_inv hc)) h3, ← cells?_def]
 exact hc
theorem WG.cell {S : St} {n : Nat} (W : WG S n) (zs xs : List AV) :
  WG ((S.push (.cells zs)).put S.n (.cells xs)) n ∧ OldG S ((S.push (.cells zs)).put S.n (.cells xs)) ∧ ((S.push (.cells zs)).put S.n (.cells xs)).n = S.n + 1 ∧ ((S.push (.cells zs)).put S.n (.cells xs)).cells? S.n = some xs := by
 obtain ⟨h1, h3, h4, h5⟩ := W
 have c : ∀ i cs, i < S.n → S.cells? i = some cs → ((S.push (.cells zs)).put S.n (.cells xs)).cells? i = some cs := fun i cs hi hc => by
  rw [cells?_put_ne _ _ _ (by omega), cells?_push_ne _ _ (by omega)]
  exact hc
 refine ⟨⟨Cl.put (Cl.push h1 _) _ _, by rw [n_put', n_push']; omega, c _ _ (by omega) h4, c _ _ (by omega) h5⟩, ⟨by rw [n_put', n_push']; omega, fun i hi _ => ?_⟩, by rw [n_put', n_push'], cells?_put_push _ _ _⟩
 rw [St.get_put_ne _ _ _ (by omega), get_push_lt _ _ hi]
def Runs44 (e : Ex) (fuel : Nat) : Prop :=
 ∀ (S : St) (n d : Nat), WG S n → n ≤ 3000 → d ≤ 101 → ∀ p : FRes → St → Prop, (∀ S', WG S' (e.gr n d).2 → OldG S S' → p (.ret (.bool (e.gr n d).1)) S') → GotF (callS ED (sumG []) fuel (.fn 44) [e.enc, .int .i64 (d : Nat), .ptr 1 0, .ptr 2 0] S) p
theorem great_step {e : Ex} (he : e.fit) {fuel : Nat} (hn : e.kids.length + 2 ≤ fuel) (hkids : ∀ x ∈ e.kids, Runs44 x fuel) : Runs44 e (fuel + 1) := by
 intro S n d W hn0 hd p hp
 rw [callS_go rfl]
 have W0 := W
 obtain ⟨⟨hbad, hwb⟩, hS3, c1, c2⟩ := W
 have hlen := e.len
 have hidx := fun j (hj : j < e.kids.length) => e.index hj
 obtain ⟨hc1, hc2, hc3⟩ := e.cell
 have hmx := Ex.fit_len he
 have hgk := e.gr_kids n d
 have el := e.look
 simp only [el]
 have hw1 : IntKind.i64.wrap ((n : Int) + 1) = (n : Int) + 1 := wrap_id (by omega) (by omega)
 have n1 : (1 = S.n) = False := by simp; omega
 have n2 : (2 = S.n) = False := by simp; omega
 have n3 : (S.n = 1) = False := by simp; omega
 have l1 : 1 < S.n + 1 := by omega
 have l1' : 1 < S.n := by omega
 rw [hgk] at hp
 have WT : WG ((S.push (.cells [.int .i64 e.op, .int .i64 e.num, .int .i64 e.mun, e.lst])).put 1 (.cells [.int .i64 ((n : Int) + 1)])) (n + 1) := by
  refine ⟨Cl.put (Cl.push ⟨hbad, hwb⟩ _) _ _, by rw [n_put', n_push']; omega, ?_, ?_⟩
  ·have := cells?_put_self (S.push (.cells [.int .i64 e.op, .int .i64 e.num, .int .i64 e.mun, e.lst])) 1 [.int .i64 ((n : Int) + 1)] (by rw [n_push']; omega)
   simpa using this
  ·rw [cells?_put_ne _ _ _ (by omega), cells?_push_ne _ _ (by omega)]
   exact c2
 have OT : OldG S ((S.push (.cells [.int .i64 e.op, .int .i64 e.num, .int .i64 e.mun, e.lst])).put 1 (.cells [.int .i64 ((n : Int) + 1)])) := by
  refine ⟨by rw [n_put', n_push']; omega, fun i hi h3 => ?_⟩
  rw [St.get_put_ne _ _ _ h3, get_push_lt _ _ hi]
 have hT0 : ((S.push (.cells [.int .i64 e.op, .int .i64 e.num, .int .i64 e.mun, e.lst])).put 1 (.cells [.int .i64 ((n : Int) + 1)])).cells? S.n = some [.int .i64 e.op, .int .i64 e.num, .int .i64 e.mun, e.lst] := by
  rw [cells?_put_ne _ _ _ (by omega), cells?_push_self]
 simp only [fnA, ED_fn44, fi44, Tryz.f44]
 by_cases d1 : 3000 < n + 1
 ·have d1' : (3000 : Int) < (n : Int) + 1 := by omega
  have hd1 : 3000 < n + 1 ∨ 100 < d := Or.inl d1
  rw [if_pos hd1] at hp
  simp [vmS, hbad, hwb, c1, c2, hw1, n1, n2, n3, l1, l1', d1', hc1]
  exact hp _ WT OT
 ·have d1' : ¬ (3000 : Int) < (n : Int) + 1 := by omega
  by_cases d2 : 100 < d
  ·have d2' : (100 : Int) < (d : Int) := by omega
   have hd1 : 3000 < n + 1 ∨ 100 < d := Or.inr d2
   rw [if_pos hd1] at hp
   simp [vmS, hbad, hwb, c1, c2, hw1, n1, n2, n3, l1, l1', d1', d2', hc1]
   exact hp _ WT OT
  ·have d2' : ¬ (100 : Int) < (d : Int) := by omega
   have hd1 : ¬ (3000 < n + 1 ∨ 100 < d) := by omega
   rw [if_neg hd1] at hp
   simp [vmS, hbad, hwb, c1, c2, hw1, n1, n2, n3, l1, l1', d1', d2', hc1, hlen]
   generalize (S.push (.cells [.int .i64 e.op, .int .i64 e.num, .int .i64 e.mun, e.lst])).put 1 (.cells [.int .i64 ((n : Int) + 1)]) = T at *
   generalize hc : iter _ _ _ _ = c
   have hwd : IntKind.i64.wrap ((d : Int) + 1) = (d : Int) + 1 := wrap_id (by omega) (by omega)
   generalize hR : Ex.grs e.kids (n + 1) (d + 1) = R at hp
   obtain ⟨ex, L1, S2, rfl, hq⟩ := loop_of hc
    (fun r L S' => ∃ (j m : Nat) (y : AV) (sc : List (Tmp × AV)), j + r = e.kids.length ∧ Ex.grs (e.kids.drop j) m (d + 1) = R ∧ m ≤ 3000 ∧
     L = vloc [.agg [.int .i64 e.op, .int .i64 e.num, .int .i64 e.mun, e.lst], .int .i64 (d : Nat), .ptr 1 0, .ptr 2 0, .ptr S.n 0, .bool false, y, e.lst, .int .i64 e.kids.length, .int .i64 (j : Nat)] sc ∧ WG S' m ∧ OldG T S')
    (fun ex L S' => WG S' R.2 ∧ OldG T S' ∧ ∃ (y z : AV) (sc : List (Tmp × AV)), (ex = .exit 0 ∧ R.1 = false ∧ L = vloc [.agg [.int .i64 e.op, .int .i64 e.num, .int .i64 e.mun, e.lst], .int .i64 (d : Nat), .ptr 1 0, .ptr 2 0, .ptr S.n 0, .bool false, y, e.lst, .int .i64 e.kids.length, z] sc) ∨
     (ex = .ret ∧ R.1 = true ∧ L = vloc [.agg [.int .i64 e.op, .int .i64 e.num, .int .i64 e.mun, e.lst], .int .i64 (d : Nat), .ptr 1 0, .ptr 2 0, .ptr S.n 0, .bool true, y, e.lst, .int .i64 e.kids.length, z] sc))
    e.kids.length (by omega)
    ⟨0, n + 1, _, _, by simp, by simpa using hR, by omega, rfl, WT, ⟨Nat.le_refl _, fun _ _ _ => rfl⟩⟩
    (by
     rintro r L S' ⟨j, m, y, sc, hjk, hs, hm, rfl, W', O'⟩ q hq1 hq2
     have W'' := W'
     obtain ⟨⟨w1, w2⟩, w3, x1, x2⟩ := W''
     by_cases hj : j < e.kids.length
     ·have hwj : IntKind.i64.wrap ((j : Int) + 1) = ((j : Int) + 1) := wrap_id (by omega) (by unfold maxLen at hmx; omega)
      have hix := hidx j hj
      have hrun := hkids _ (List.getElem_mem hj)
      rw [drop_kid hj] at hs
      simp only [Ex.grs] at hs
      generalize e.kids[j] = xk at *
      have xl := xk.look
      obtain ⟨g1, g2, g3⟩ := xk.cell
      rw [xl] at hix
      have hle := Ex.gr_le xk m (d + 1) hm
      obtain ⟨s1, s2, s3, s4⟩ := W'.cell [.int .i64 0, .int .i64 0, .int .i64 0, .nils] [.int .i64 xk.op, .int .i64 xk.num, .int .i64 xk.mun, xk.lst]
      generalize hS2 : (S'.push (.cells [.int .i64 0, .int .i64 0, .int .i64 0, .nils])).put S'.n (.cells [.int .i64 xk.op, .int .i64 xk.num, .int .i64 xk.mun, xk.lst]) = S2 at *
      obtain ⟨r3, S3, hcall3, hr3, W3, O3⟩ := gotF_iff.1 (hrun S2 m (d + 1) s1 hm (by omega)
       (fun r S3 => r = .ret (.bool (xk.gr m (d + 1)).1) ∧ WG S3 (xk.gr m (d + 1)).2 ∧ OldG S2 S3) (fun S3 h1 h2 => ⟨rfl, h1, h2⟩))
      subst hr3
      simp only [xl] at hcall3
      rw [show ((d + 1 : Nat) : Int) = (d : Int) + 1 by omega] at hcall3
      obtain ⟨⟨u1, u2⟩, _, _, u4⟩ := s1
      generalize hg : xk.gr m (d + 1) = g at *
      obtain ⟨gb, gm⟩ := g
      cases gb with
      | true =>
       simp only at hs hcall3 W3
       simp [vmS, vloc, hj, w1, w2, hix, hwj, hwd, hS2, u1, u2, s4, u4, g1, g2, g3, hcall3, W3.cl.1, W3.cl.2]
       exact hq2 _ _ _ (by simp) ⟨by rw [← hs]; exact W3, (O'.trans s2).trans O3, _, _, _, .inr ⟨rfl, by rw [← hs], rfl⟩⟩
      | false =>
       simp only at hs hcall3 W3
       have hgm := hle.2 rfl
       simp [vmS, vloc, hj, w1, w2, hix, hwj, hwd, hS2, u1, u2, s4, u4, g1, g2, g3, hcall3, W3.cl.1, W3.cl.2]
       exact hq1 (r - 1) _ _ (by omega) ⟨j + 1, gm, _, _, by omega, hs, hgm, rfl, W3, (O'.trans s2).trans O3⟩
     ·have hjl : j = e.kids.length := by omega
      subst hjl
      rw [List.drop_length] at hs
      simp only [Ex.grs] at hs
      simp [vmS, vloc, w1, w2]
      exact hq2 _ _ _ (by simp) ⟨by rw [← hs]; exact ⟨⟨w1, w2⟩, w3, x1, x2⟩, O', _, _, _, .inl ⟨rfl, by rw [← hs], rfl⟩⟩)
   obtain ⟨W2, O2, y, z, sc, ⟨rfl, hb, rfl⟩ | ⟨rfl, hb, rfl⟩⟩ := hq
   ·rw [hb] at hp
    simp [vmS, vloc, W2.cl.1, W2.cl.2]
    exact hp _ W2 (OT.trans O2)
   ·rw [hb] at hp
    simp [vmS, vloc]
    exact hp _ W2 (OT.trans O2)
theorem great_run : ∀ (d : Nat) (e : Ex), e.deep ≤ d → e.fit → ∃ N, ∀ n, N ≤ n → Runs44 e n := by
 intro d
 induction d with
 | zero => intro e hd _; have := e.deep_pos; omega
 | succ d ih =>
  intro e hd he
  obtain ⟨N, hN⟩ := max_fuel (P := fun x n => Runs44 x n) e.kids (fun x hx => ih x (by have := Ex.deep_kid hx; omega) (Ex.fit_kid he hx))
  refine ⟨max N (e.kids.length + 2) + 1, fun n hn => ?_⟩
  obtain ⟨m, rfl⟩ : ∃ m, n = m + 1 := ⟨n - 1, by omega⟩
  exact great_step he (by omega) (hN m (by omega))
def Pr.fit2 (p : Pr) : Prop := (∀ f ∈ p.funs, f.fit) ∧ p.funs.length ≤ maxLen
theorem Pr.val_len (p : Pr) : lenA ED 22 p.val = some (.int .i64 p.funs.length) ∧ p.val.isCell = true ∧ p.val.known = true ∧ p.val.cells = [p.val] := by
 obtain ⟨fs, z, m⟩ := p
 cases fs with
 | nil => cases z <;> exact ⟨rfl, rfl, rfl, rfl⟩
 | cons f l => exact ⟨by simp [Pr.val, lenA], rfl, rfl, rfl⟩
open Classical in
noncomputable def prOf2 (v : AV) : Option Pr := if h : ∃ p : Pr, p.fit2 ∧ p.enc = v then some h.choose else none
theorem prOf2_some {v : AV} {p : Pr} (h : prOf2 v = some p) : p.fit2 ∧ v = p.enc := by
 unfold prOf2 at h
 split at h
 ·rename_i hx
  cases h
  exact ⟨hx.choose_spec.1, hx.choose_spec.2.symm⟩
 ·cases h
theorem prOf2_enc {p : Pr} (h : p.fit2) : ∃ q, prOf2 p.enc = some q ∧ q.funs = p.funs ∧ q.main = p.main := by
 have hx : ∃ q : Pr, q.fit2 ∧ q.enc = p.enc := ⟨p, h, rfl⟩
 unfold prOf2
 rw [dif_pos hx]
 obtain ⟨h1, h2⟩ := Pr.inj hx.choose_spec.2
 exact ⟨_, rfl, h1, h2⟩
def greatF : List Fu → Nat → Bool
 | [], _ => false
 | f :: r, n => match f.body.gr n 0 with
  | (true, _) => true
  | (false, m) => decide (100 < f.name.length) || greatF r m
def greatB (fs : List Fu) : Bool := greatF fs 0 || decide (60 < fs.length)
noncomputable def greatG : List AV → Option FRes
 | [v] => match prOf2 v with
  | some p => some (.ret (.bool (greatB p.funs)))
  | none => none
 | _ => none
theorem great_ok : FOk 13 greatG := by
 refine fok [] (by simp) ?_
 intro a r h
 unfold greatG at h
 split at h
 ·rename_i v
  split at h
  ·rename_i P hP
   obtain ⟨⟨hff, hlm⟩, rfl⟩ := prOf2_some hP
   cases h
   obtain ⟨q1, q2, q3, q4⟩ := P.val_len
   obtain ⟨N, hN⟩ := max_fuel (P := fun (f : Fu) n => Runs44 f.body n) P.funs (fun f hf => great_run f.body.deep f.body (Nat.le_refl _) (hff f hf).2)
   refine ⟨by simp [AV.persL, P.pers], rfl, max N (P.funs.length + 2) + 1, fun p hp => ?_⟩
   have hn := hN (max N (P.funs.length + 2)) (by omega)
   generalize hn0 : max N (P.funs.length + 2) = n0 at *
   rw [callS_go rfl]
   simp only [Pr.enc]
   simp only [fnA, ED_fn13, fi13, Tryz.f13]
   simp [vmS, q1, q2, q3, q4]
   generalize hT : St.put _ 2 (AO.cells [AV.fn 44 [] [AV.ptr 1 0, AV.ptr 2 0]]) = T
   have W : WG T 0 := by
    subst hT
    refine ⟨Cl.put (Cl.push (Cl.put (Cl.push (Cl.push Cl.zero _) _) 1 _) _) 2 _, ?_, ?_, ?_⟩
    ·simp [n_push', n_put', n_S0]
    ·simp [push_at, put_at, n_push', n_put', n_S0, cellsOf?]
    ·simp [push_at, put_at, n_push', n_put', n_S0, cellsOf?]
   have t0 : T.cells? 0 = some [P.val, .int .i64 P.main] := by
    subst hT
    simp [push_at, put_at, n_push', n_put', n_S0, cellsOf?]
   clear hT
   have hix : ∀ (j : Nat) (h : j < P.funs.length), indexAddrA ED 22 P.val (.int .i64 (j : Nat)) = some (.rptr P.funs[j].vals) := fun j h => by
    rw [P.val_slice (fun e => by rw [e] at h; simp at h)]
    exact index_fu h
   generalize P.val = V at *
   generalize P.main = mn at *
   generalize P.funs = fs at *
   generalize hc : iter _ _ _ _ = c
   generalize hR : greatF fs 0 = R at *
   obtain ⟨ex, L1, S2, rfl, hq⟩ := loop_of hc
    (fun r L S' => ∃ (j m : Nat) (y : AV) (sc : List (Tmp × AV)), j + r = fs.length ∧ greatF (fs.drop j) m = R ∧ m ≤ 3000 ∧
     L = vloc [.agg [V, .int .i64 mn], .ptr 0 0, .bool false, .ptr 1 0, .ptr 2 0, y, V, .int .i64 fs.length, .int .i64 (j : Nat)] sc ∧ WG S' m ∧ S'.cells? 0 = some [V, .int .i64 mn])
    (fun ex L S' => ∃ (m : Nat) (y z : AV) (sc : List (Tmp × AV)), WG S' m ∧ S'.cells? 0 = some [V, .int .i64 mn] ∧ ((ex = .exit 0 ∧ R = false ∧ L = vloc [.agg [V, .int .i64 mn], .ptr 0 0, .bool false, .ptr 1 0, .ptr 2 0, y, V, .int .i64 fs.length, z] sc) ∨
     (ex = .ret ∧ R = true ∧ L = vloc [.agg [V, .int .i64 mn], .ptr 0 0, .bool true, .ptr 1 0, .ptr 2 0, y, V, .int .i64 fs.length, z] sc)))
    fs.length (by omega)
    ⟨0, 0, _, _, by simp, by simpa using hR, by omega, rfl, W, t0⟩
    (by
     rintro r L S' ⟨j, m, y, sc, hjk, hs, hm, rfl, W', u0⟩ q hq1 hq2
     have W'' := W'
     obtain ⟨⟨w1, w2⟩, w3, x1, x2⟩ := W''
     by_cases hj : j < fs.length
     ·have hwj : IntKind.i64.wrap ((j : Int) + 1) = ((j : Int) + 1) := wrap_id (by omega) (by unfold maxLen at hlm; omega)
      have hix := hix j hj
      have hrun := hn _ (List.getElem_mem hj)
      have hff := hff _ (List.getElem_mem hj)
      rw [List.drop_eq_getElem_cons hj] at hs
      simp only [greatF] at hs
      generalize fs[j] = f at *
      have xl := f.body.look
      obtain ⟨g1, g2, g3⟩ := f.body.cell
      have hle := Ex.gr_le f.body m 0 hm
      obtain ⟨s1, s2, s3, s4⟩ := W'.cell [.str [], .int .i64 0, .int .i64 0, .int .i64 0, .int .i64 0, .nils] f.vals
      generalize hS2 : (S'.push (.cells [.str [], .int .i64 0, .int .i64 0, .int .i64 0, .int .i64 0, .nils])).put S'.n (.cells f.vals) = S2 at *
      obtain ⟨r3, S3, hcall3, hr3, W3, O3⟩ := gotF_iff.1 (hrun S2 m 0 s1 hm (by omega)
       (fun r S3 => r = .ret (.bool (f.body.gr m 0).1) ∧ WG S3 (f.body.gr m 0).2 ∧ OldG S2 S3) (fun S3 h1 h2 => ⟨rfl, h1, h2⟩))
      subst hr3
      simp only [xl] at hcall3
      rw [show ((0 : Nat) : Int) = (0 : Int) from rfl] at hcall3
      have W2 := s1
      obtain ⟨⟨u1, u2⟩, _, _, u4⟩ := s1
      have s5 := O3.cells (by omega) s4
      have u0' := O3.cells (by omega) (s2.cells (by omega) u0)
      have ⟨z1, z2⟩ := W3.cl
      simp only [Fu.vals] at hS2 s4 s5 hix
      generalize hg : f.body.gr m 0 = g at *
      obtain ⟨gb, gm⟩ := g
      cases gb with
      | true =>
       simp only at hs hcall3 W3
       simp [vmS, vloc, hj, w1, w2, hix, hwj, hS2, u1, u2, s4, u4, g1, g2, g3, hcall3, z1, z2]
       exact hq2 _ _ _ (by simp) ⟨_, _, _, _, W3, u0', .inr ⟨rfl, hs.symm, rfl⟩⟩
      | false =>
       simp only at hs hcall3 W3
       have hgm := hle.2 rfl
       have ls : lenA ED 9 (.str f.name) = some (.int .i64 f.name.length) := rfl
       cases hln : decide (100 < f.name.length) with
       | true =>
        rw [hln, Bool.true_or] at hs
        have hln'' : 100 < f.name.length := of_decide_eq_true hln
        have hln' : (100 : Int) < (f.name.length : Int) := by omega
        simp [vmS, vloc, hj, w1, w2, hix, hwj, hS2, u1, u2, s4, s5, u4, g1, g2, g3, hcall3, z1, z2, hln', hln'', ls]
        exact hq2 _ _ _ (by simp) ⟨_, _, _, _, W3, u0', .inr ⟨rfl, hs.symm, rfl⟩⟩
       | false =>
        rw [hln, Bool.false_or] at hs
        have hln'' : ¬ 100 < f.name.length := of_decide_eq_false hln
        have hln' : ¬ (100 : Int) < (f.name.length : Int) := by omega
        simp [vmS, vloc, hj, w1, w2, hix, hwj, hS2, u1, u2, s4, s5, u4, g1, g2, g3, hcall3, z1, z2, hln', hln'', ls]
        exact hq1 (r - 1) _ _ (by omega) ⟨j + 1, gm, _, _, by omega, hs, hgm, rfl, W3, u0'⟩
     ·have hjl : j = fs.length := by omega
      subst hjl
      rw [List.drop_length] at hs
      simp only [greatF] at hs
      simp [vmS, vloc, w1, w2]
      exact hq2 _ _ _ (by simp) ⟨_, _, _, _, ⟨⟨w1, w2⟩, w3, x1, x2⟩, u0, .inl ⟨rfl, hs.symm, rfl⟩⟩)
   obtain ⟨m, y, z, sc, W2, u0, ⟨rfl, hb, rfl⟩ | ⟨rfl, hb, rfl⟩⟩ := hq
   ·subst hb
    simp [vmS, vloc, W2.cl.1, W2.cl.2, u0, q1, q2, q3, q4]
    refine hp _ _ ?_
    have hd : decide ((60 : Int) < (fs.length : Int)) = decide (60 < fs.length) := decide_eq_decide.2 (by omega)
    simp only [hd, FRes.melt, AV.melt, AV.dead, greatB, hR, Bool.false_or]
   ·subst hb
    simp [vmS, vloc]
    refine hp _ _ ?_
    simp only [FRes.melt, AV.melt, AV.dead, greatB, hR, Bool.true_or]
  ·cases h
 ·cases h
end Go.Vm.L
