/-
Whether a program is well formed. No conditions.
-/
import Derived.Test.YtjfnelfdlemfgaaGreatDoorNodeE
set_option linter.all false
set_option maxHeartbeats 4000000
namespace Go.Vm.L
open Go Go.Proofs Go.Vm
set_option maxRecDepth 100000
attribute [local simp] inFrame startLoc startVals Loc.clear blockC Loc.putO Loc.put idx evO constV Loc.get Vm.look intA unwindA resultsA resultV actA pureA storeA loadA fillE repElems TI.zeroV fieldOf fieldAddrA fieldA elemsA retE cellsOf? setCells nowhere mapHead headNext
open Classical in
/-- the expression that a value is, if it is one that is fit -/
noncomputable def exOf (v : AV) : Option Ex := if h : ∃ e : Ex, e.fit ∧ e.enc = v then some h.choose else none
theorem exOf_enc {e : Ex} (h : e.fit) : exOf e.enc = some e := by
 have hx : ∃ e' : Ex, e'.fit ∧ e'.enc = e.enc := ⟨e, h, rfl⟩
 unfold exOf
 rw [dif_pos hx]
 exact congrArg some (Ex.inj hx.choose_spec.2)
theorem exOf_some {v : AV} {e : Ex} (h : exOf v = some e) : e.fit ∧ v = e.enc := by
 unfold exOf at h
 split at h
 ·rename_i hx
  cases h
  exact ⟨hx.choose_spec.1, hx.choose_spec.2.symm⟩
 ·cases h
def bodyB (k : Nat) (e : Ex) (zs : List Int) : Bool := (e.walk k 600 1 zs).isSome
noncomputable def bodyG : List AV → Option FRes
 | [.agg [fs, .int .i64 main], v, .slice es .dead] => match lenV fs, exOf v, intsOf es with
  | some k, some e, some zs => if fs.pers = true ∧ zs.length ≤ 2 then some (if bodyB k e zs = true then .ret (.tup []) else .pan (wrongV 1 0)) else none
  | _, _, _ => none
 | _ => none
theorem set_forms {cs : List AV} (h : cs.length = 108) : Vm.setCells cs 0 formCells = formCells := by
 have := setCells_app formCells (xs := []) (ys := cs) (zs := []) (by rw [h, forms_length])
 simpa using this
theorem lenV_cell {v : AV} {k : Nat} (h : lenV v = some k) : v.isCell = true ∧ v.known = true ∧ v.cells = [v] := by
 obtain ⟨_, h1, h2, h3, _⟩ := lenV_len h (t := 22) (e := 63) rfl
 exact ⟨h1, h2, h3⟩
def Cl (S : St) : Prop := S.bad = false ∧ S.wb = 0
theorem Cl.put {S : St} (h : Cl S) (i : Nat) (o : AO) : Cl (S.put i o) := ⟨by rw [bad_put _ _ _ h.2]; exact h.1, by rw [wb_put]; exact h.2⟩
theorem Cl.push {S : St} (h : Cl S) (o : AO) : Cl (S.push o) := ⟨h.1, h.2⟩
theorem Cl.zero : Cl S0 := ⟨rfl, rfl⟩
theorem body_ok : FOk 92 bodyG := by
 refine fok L6 L6_ok ?_
 intro a r h
 unfold bodyG at h
 split at h
 ·rename_i fs main v es
  split at h
  ·rename_i k e zs hk hv hzs
   split at h
   ·rename_i hc
    obtain ⟨hfp, hzl⟩ := hc
    obtain ⟨he, rfl⟩ := exOf_some hv
    have := intsOf_eq hzs
    subst this
    cases h
    refine ⟨by simp [AV.persL, AV.pers, ints_pers, hfp, Ex.pers], by split <;> rfl, ?_⟩
    obtain ⟨N, hN⟩ := walk_run (main := main) hk hfp e.deep e (Nat.le_refl _) he
    refine ⟨N + 1, fun p hp => ?_⟩
    rw [callS_go rfl]
    have fu := fun m S => forms_use (l := L6) rfl (n := m) (S := S)
    obtain ⟨f1, f2, f3⟩ := lenV_cell hk
    obtain ⟨hc1, hc2, hc3⟩ := e.cell
    have el := e.look
    have hrun := hN N (Nat.le_refl _)
    unfold Runs139 at hrun
    rw [el] at hrun ⊢
    simp only [fnA, ED_fn92, fi92, Tryz.f92]
    simp [vmS, fu, f1, f2, f3, hc1, hc2, hc3, forms_length, forms_isCell, set_forms]
    generalize hT : St.put _ 4 (AO.cells [AV.fn 139 [] [AV.ptr 3 0, AV.ptr 2 0, AV.ptr 0 0, AV.ptr 4 0]]) = T
    have W : WS fs main T 600 := by
     subst hT
     refine ⟨(Cl.put (Cl.push (Cl.put (Cl.put (Cl.push (Cl.push (Cl.push (Cl.push Cl.zero _) _) _) _) 2 _) 3 _) _) 4 _).1, (Cl.put (Cl.push (Cl.put (Cl.put (Cl.push (Cl.push (Cl.push (Cl.push Cl.zero _) _) _) _) 2 _) 3 _) _) 4 _).2, ?_, ?_, ?_, ?_, ?_⟩
     ·simp [n_push', n_put', n_S0]
     ·simp [push_at, put_at, n_push', n_put', n_S0]
     ·simp [push_at, put_at, n_push', n_put', n_S0]
     ·simp [push_at, put_at, n_push', n_put', n_S0]
     ·simp [push_at, put_at, n_push', n_put', n_S0, wfn]
    obtain ⟨r3, S3, hcall, hP⟩ := gotF_iff.1 (hrun T 600 1 zs .dead W (by omega) (by omega) (by omega) (by omega) (by omega)
     (fun r S3 => (r = .pan (wrongV 1 0) ∧ bodyB k e zs = false) ∨ (r = .ret (.tup []) ∧ bodyB k e zs = true ∧ S3.bad = false ∧ S3.wb = 0))
     (fun S3 h => .inl ⟨rfl, by simp [bodyB, h]⟩) (fun S3 l' h1 h2 h3 h4 h5 => .inr ⟨rfl, by simp [bodyB, h1], h2.bad, h2.wb⟩))
    rcases hP with ⟨rfl, hb⟩ | ⟨rfl, hb, hb1, hb2⟩
    ·simp [vmS, hcall, stepE_pan]
     exact hp _ _ (by simp [hb, FRes.melt, wrongV, AV.melt, AV.dead, AV.deadL])
    ·simp [vmS, hcall, hb1, hb2]
     exact hp _ _ (by simp [hb, FRes.melt, AV.melt])
   ·cases h
  ·cases h
 ·cases h
structure Fu where
 name : List UInt8
 par : Int
 body : Ex
def Fu.vals (f : Fu) : List AV := [.str f.name, .int .i64 f.par, .int .i64 f.body.op, .int .i64 f.body.num, .int .i64 f.body.mun, f.body.lst]
def Fu.enc (f : Fu) : AV := .agg f.vals
def Fu.fit (f : Fu) : Prop := f.name.length ≤ maxLen ∧ f.body.fit
theorem Fu.pers (f : Fu) : f.enc.pers = true := by simp [Fu.enc, Fu.vals, AV.pers, AV.persL, f.body.lst_pers]
theorem Fu.perss : ∀ l : List Fu, AV.persL (l.map Fu.enc) = true
 | [] => rfl
 | f :: l => by simp [AV.persL, f.pers, Fu.perss l]
theorem Fu.enc_cells (f : Fu) : f.enc.cells = f.vals := rfl
theorem index_fu {l : List Fu} {tk : Tk} {j : Nat} (h : j < l.length) : indexAddrA ED 22 (.slice (l.map Fu.enc) tk) (.int .i64 (j : Nat)) = some (.rptr l[j].vals) := by
 have := index_slice (E := ED) (t := 22) (e := 63) (n := (j : Int)) (k := .i64) (es := l.map Fu.enc) (tk := tk) (v := l[j].enc) (s := 6) rfl rfl (by omega) (by simp; omega) (by simp) rfl
 exact this
theorem ext_cells {S S' : St} (h : Ext S S') {i : Nat} {cs : List AV} (hc : S.cells? i = some cs) : S'.cells? i = some cs := by
 have h1 := h.get i _ (cells?_inv hc)
 exact cells?_of_get h1
/-- a function has that name -/
theorem same_run {l : Sm} {n q : Nat} {g : Fu} {nm : List UInt8} {rest : List AV} {S : St} (hl : sumG l 91 = fun _ => none) (hcl : Cl S) (hq : S.cells? q = some (.str nm :: rest)) :
  callS ED (sumG l) (n + 1) (.fn 91) [g.enc, .ptr q 0] S = some (.ret (.bool (g.name == nm)), S.push (.cells g.vals)) := by
 rw [callS_go (by rw [hl])]
 obtain ⟨h1, h2⟩ := hcl
 have hlt := St.get_lt (cells?_inv hq)
 have hne : (q = S.n) = False := by simp; omega
 obtain ⟨hc1, hc2, hc3⟩ := g.body.cell
 simp only [fnA, ED_fn91, fi91, Tryz.f91, Fu.enc]
 simp [vmS, lenA, indexAddrA, h1, h2, hq, hne, Fu.vals, bin_str, strA]
theorem index_func {l : Sm} {n q : Nat} {fs : List Fu} {tk : Tk} {nm : List UInt8} {rest : List AV} {S : St} (hl : sumG l 91 = fun _ => none) (hl' : sumG l 138 = fun _ => none) (hcl : Cl S) (hq : S.cells? q = some (.str nm :: rest)) (hlen : fs.length ≤ 1000000) (hn : fs.length + 2 ≤ n) :
  ∃ (j : Int) (S' : St), callS ED (sumG l) (n + 1) (.fn 138) [.slice (fs.map Fu.enc) tk, .fn 91 [] [.ptr q 0]] S = some (.ret (.int .i64 j), S') ∧ Cl S' ∧ Ext S S' ∧ decide (0 ≤ j) = (fs.any fun g => g.name == nm) := by
 obtain ⟨m, rfl⟩ : ∃ m, n = m + 1 := ⟨n - 1, by omega⟩
 rw [callS_go (by rw [hl'])]
 have hml : (fs.map Fu.enc).length = fs.length := by simp
 obtain ⟨h1, h2⟩ := hcl
 simp only [fnA, ED_fn138, fi138, Tryz.f138]
 simp [vmS, lenA, indexAddrA, h1, h2, hml]
 generalize hc : iter _ _ _ _ = c
 obtain ⟨e1, L1, S1, rfl, hq'⟩ := loop_of hc
  (fun r L S' => ∃ (j : Nat) (x : AV) (sc : List (Tmp × AV)), j + r = fs.length ∧ ((fs.drop j).any fun g => g.name == nm) = (fs.any fun g => g.name == nm) ∧
   L = vloc [.slice (fs.map Fu.enc) tk, .fn 91 [] [.ptr q 0], .int .i64 0, x, .int .i64 fs.length, .int .i64 (j : Nat)] sc ∧ Cl S' ∧ Ext S S')
  (fun e L S' => Cl S' ∧ Ext S S' ∧ ∃ (i : Nat) (x y : AV) (sc : List (Tmp × AV)), (e = .ret ∧ (fs.any fun g => g.name == nm) = true ∧ L = vloc [.slice (fs.map Fu.enc) tk, .fn 91 [] [.ptr q 0], .int .i64 (i : Nat), x, .int .i64 fs.length, y] sc) ∨
   (e = .exit 0 ∧ (fs.any fun g => g.name == nm) = false ∧ L = vloc [.slice (fs.map Fu.enc) tk, .fn 91 [] [.ptr q 0], .int .i64 0, x, .int .i64 fs.length, y] sc))
  fs.length (by omega)
  ⟨0, _, _, by simp, by simp, rfl, ⟨h1, h2⟩, Ext.refl S⟩
  (by
   rintro r L S' ⟨j, x, sc, hjk, hs, rfl, C', X'⟩ p hq1 hq2
   obtain ⟨c1, c2⟩ := C'
   by_cases hj : j < fs.length
   ·have hw : IntKind.i64.wrap ((j : Int) + 1) = ((j : Int) + 1) := wrap_id (by omega) (by omega)
    have hix := index_fu (l := fs) (tk := tk) hj
    have hcall := same_run (l := l) (n := m) (g := fs[j]) hl ⟨c1, c2⟩ (ext_cells X' hq)
    rw [List.drop_eq_getElem_cons hj, List.any_cons] at hs
    generalize fs[j] = g at *
    simp only [Fu.enc] at hcall
    simp only [Fu.vals] at hix hcall
    cases hb : g.name == nm with
    | true =>
     rw [hb] at hs hcall
     simp [vmS, vloc, hj, hw, hix, hcall, c1, c2]
     exact hq2 _ _ _ (by simp) ⟨Cl.push ⟨c1, c2⟩ _, X'.trans (Ext.push _ _), j, _, _, _, .inl ⟨rfl, by rw [← hs]; rfl, rfl⟩⟩
    | false =>
     rw [hb] at hs hcall
     simp [vmS, vloc, hj, hw, hix, hcall, c1, c2]
     exact hq1 (r - 1) _ _ (by omega) ⟨j + 1, _, _, by omega, by simpa using hs, rfl, Cl.push ⟨c1, c2⟩ _, X'.trans (Ext.push _ _)⟩
   ·have hjl : j = fs.length := by omega
    subst hjl
    rw [List.drop_length] at hs
    simp [vmS, vloc, c1, c2]
    exact hq2 _ _ _ (by simp) ⟨⟨c1, c2⟩, X', 0, _, _, _, .inr ⟨rfl, hs.symm, rfl⟩⟩)
 obtain ⟨C1, X1, i, x, y, sc, ⟨rfl, ha, rfl⟩ | ⟨rfl, ha, rfl⟩⟩ := hq'
 ·refine ⟨(i : Nat), S1, ?_, C1, X1, by rw [ha]; simp⟩
  simp [vmS, vloc]
 ·refine ⟨-1, S1, ?_, C1, X1, by rw [ha]; rfl⟩
  simp [vmS, vloc, C1.1, C1.2]
theorem contains_func {l : Sm} {n q : Nat} {fs : List Fu} {tk : Tk} {nm : List UInt8} {rest : List AV} {S : St} (hl : sumG l 91 = fun _ => none) (hl' : sumG l 138 = fun _ => none) (hl2 : sumG l 90 = fun _ => none) (hcl : Cl S) (hq : S.cells? q = some (.str nm :: rest)) (hlen : fs.length ≤ 1000000) (hn : fs.length + 3 ≤ n) :
  ∃ S' : St, callS ED (sumG l) (n + 1) (.fn 90) [.slice (fs.map Fu.enc) tk, .fn 91 [] [.ptr q 0]] S = some (.ret (.bool (fs.any fun g => g.name == nm)), S') ∧ Cl S' ∧ Ext S S' := by
 obtain ⟨m, rfl⟩ : ∃ m, n = m + 1 := ⟨n - 1, by omega⟩
 rw [callS_go (by rw [hl2])]
 obtain ⟨j, S', hcall, C', X', hj⟩ := index_func (l := l) (n := m) (tk := tk) hl hl' hcl hq hlen (by omega)
 obtain ⟨h1, h2⟩ := hcl
 simp only [fnA, ED_fn90, fi90, Tryz.f90]
 simp [vmS, lenA, indexAddrA, h1, h2, hcall, C'.1, C'.2, hj]
 exact ⟨C', X'⟩
/-! programs -/
structure Pr where
 funs : List Fu
 z : Bool
 main : Int
def Pr.val (p : Pr) : AV := match p.funs with
 | [] => if p.z then .slice [] .dead else .nils
 | f :: l => .slice ((f :: l).map Fu.enc) .dead
def Pr.enc (p : Pr) : AV := .agg [p.val, .int .i64 p.main]
def Pr.fit (p : Pr) : Prop := (∀ f ∈ p.funs, f.fit) ∧ p.funs.length ≤ 1000000
theorem Pr.lenV (p : Pr) (h : p.fit) : lenV p.val = some p.funs.length := by
 obtain ⟨fs, z, m⟩ := p
 cases fs with
 | nil => cases z <;> rfl
 | cons f l =>
  have : (f :: l).length ≤ 1000000 := h.2
  have h' : ((f :: l).map Fu.enc).length ≤ 1000000 := by simpa using this
  simp only [Pr.val, L.lenV]
  rw [if_pos h']
  simp
theorem Pr.val_pers (p : Pr) : p.val.pers = true := by
 obtain ⟨fs, z, m⟩ := p
 cases fs with
 | nil => cases z <;> rfl
 | cons f l =>
  show (AV.persL ((f :: l).map Fu.enc) && true) = true
  rw [Fu.perss]
  rfl
theorem Pr.pers (p : Pr) : p.enc.pers = true := by simp [Pr.enc, AV.pers, AV.persL, p.val_pers]
theorem Pr.val_slice (p : Pr) (h : p.funs ≠ []) : p.val = .slice (p.funs.map Fu.enc) .dead := by
 obtain ⟨fs, z, m⟩ := p
 cases fs with
 | nil => exact absurd rfl h
 | cons f l => rfl
theorem fu_inj {f g : Fu} (h : f.enc = g.enc) : f = g := by
 obtain ⟨a, b, c⟩ := f
 obtain ⟨a', b', c'⟩ := g
 simp only [Fu.enc, Fu.vals, AV.agg.injEq, List.cons.injEq, AV.str.injEq, AV.int.injEq, true_and, and_true] at h
 obtain ⟨rfl, rfl, h1, h2, h3, h4⟩ := h
 have : c = c' := Ex.inj (by rw [c.look, c'.look, h1, h2, h3, h4])
 rw [this]
theorem fus_inj : ∀ {l m : List Fu}, l.map Fu.enc = m.map Fu.enc → l = m
 | [], [], _ => rfl
 | [], _ :: _, h => by simp at h
 | _ :: _, [], h => by simp at h
 | a :: l, b :: m, h => by
  simp only [List.map_cons, List.cons.injEq] at h
  rw [fu_inj h.1, fus_inj h.2]
theorem Pr.inj {p q : Pr} (h : p.enc = q.enc) : p.funs = q.funs ∧ p.main = q.main := by
 simp only [Pr.enc, AV.agg.injEq, List.cons.injEq, AV.int.injEq, true_and, and_true] at h
 refine ⟨?_, h.2⟩
 obtain ⟨fs, z, m⟩ := p
 obtain ⟨gs, z', m'⟩ := q
 have h1 := h.1
 cases fs with
 | nil =>
  cases gs with
  | nil => rfl
  | cons g l => cases z <;> simp [Pr.val] at h1
 | cons f l =>
  cases gs with
  | nil => cases z' <;> simp [Pr.val] at h1
  | cons g l' =>
   simp only [Pr.val, AV.slice.injEq, and_true] at h1
   exact fus_inj h1
open Classical in
/-- the program that a value is, if it is one that is fit -/
noncomputable def prOf (v : AV) : Option Pr := if h : ∃ p : Pr, p.fit ∧ p.enc = v then some h.choose else none
theorem prOf_some {v : AV} {p : Pr} (h : prOf v = some p) : p.fit ∧ v = p.enc := by
 unfold prOf at h
 split at h
 ·rename_i hx
  cases h
  exact ⟨hx.choose_spec.1, hx.choose_spec.2.symm⟩
 ·cases h
theorem prOf_enc {p : Pr} (h : p.fit) : ∃ q, prOf p.enc = some q ∧ q.funs = p.funs ∧ q.main = p.main ∧ q.enc = p.enc := by
 have hx : ∃ q : Pr, q.fit ∧ q.enc = p.enc := ⟨p, h, rfl⟩
 unfold prOf
 rw [dif_pos hx]
 obtain ⟨h1, h2⟩ := Pr.inj hx.choose_spec.2
 exact ⟨_, rfl, h1, h2, hx.choose_spec.2⟩
def goodsB (k : Nat) : List Fu → List Fu → Bool
 | _, [] => true
 | prev, f :: r => namedB f.name && isVarB f.par && !(prev.any fun g => g.name == f.name) && bodyB k f.body [f.par] && goodsB k (prev ++ [f]) r
/-- a program is well formed -/
def formedB (fs : List Fu) (main : Int) : Bool := decide (1 ≤ fs.length ∧ fs.length ≤ 40) && isFunB fs.length main && goodsB fs.length [] fs
noncomputable def formedG : List AV → Option FRes
 | [v] => match prOf v with
  | some p => some (if formedB p.funs p.main = true then .ret v else .pan (wrongV 1 0))
  | none => none
 | _ => none
def L8 : Sm := [(86, withinG), (87, lookG 87), (89, lookG 89), (53, mustG), (88, namedG)]
noncomputable def L8' : Sm := (92, bodyG) :: L8
theorem L8_ok : ∀ x ∈ L8', FOk x.1 x.2 := by
 intro x hx
 simp only [L8', L8, List.mem_cons, List.mem_nil_iff, or_false] at hx
 rcases hx with rfl | rfl | rfl | rfl | rfl | rfl
 ·exact body_ok
 ·exact within_ok
 ·exact look_ok 87 (by simp)
 ·exact look_ok 89 (by simp)
 ·exact must_ok
 ·exact named_ok
theorem named_use {l : Sm} (h : sumG l 88 = namedG) {n : Nat} {s : List UInt8} {S : St} (hs : s.length ≤ 9223372036854775807) : callS ED (sumG l) n (.fn 88) [.str s] S = some (.ret (.bool (namedB s)), S) :=
 callS_sum (by rw [h]; simp [AV.dead, namedG, hs])
theorem look_use {l : Sm} {f : FuncId} (h : sumG l f = lookG f) {fs : AV} {k : Nat} (hk : lenV fs = some k) (hp : fs.pers = true) {m : Nat} {main n : Int} {S : St} :
  callS ED (sumG l) m (.fn f) [.agg [fs, .int .i64 main], .int .i64 n] S = some (.ret (.bool (lookB k f n)), S) := by
 have hd : (AV.agg [fs, .int .i64 main]).dead = .agg [fs, .int .i64 main] := dead_of_pers _ (by simp [AV.pers, AV.persL, hp])
 refine callS_sum ?_
 rw [List.map_cons, List.map_cons, List.map_nil, hd, show (AV.int .i64 n).dead = .int .i64 n from rfl, h]
 simp only [lookG, hk, hp, if_true]
theorem body_use {l : Sm} (h : sumG l 92 = bodyG) {fs : AV} {k : Nat} (hk : lenV fs = some k) (hp : fs.pers = true) {e : Ex} (he : e.fit) {m : Nat} {main v : Int} {tk : Tk} {S : St} :
  callS ED (sumG l) m (.fn 92) [.agg [fs, .int .i64 main], .agg [.int .i64 e.op, .int .i64 e.num, .int .i64 e.mun, e.lst], .slice [.int .i64 v] tk] S = some (if bodyB k e [v] = true then .ret (.tup []) else .pan (wrongV 1 0), S) := by
 have hd : (AV.agg [fs, .int .i64 main]).dead = .agg [fs, .int .i64 main] := dead_of_pers _ (by simp [AV.pers, AV.persL, hp])
 refine callS_sum ?_
 rw [← e.look, List.map_cons, List.map_cons, List.map_cons, List.map_nil, hd, e.enc_dead, show (AV.slice [.int .i64 v] tk).dead = .slice [.int .i64 v] .dead from rfl, h]
 have hz : intsOf [.int .i64 v] = some [v] := rfl
 simp only [bodyG, hk, exOf_enc he, hz, hp]
 simp
theorem formed_ok : FOk 47 formedG := by
 refine fok L8' L8_ok ?_
 intro a r h
 unfold formedG at h
 split at h
 ·rename_i v
  split at h
  ·rename_i P hP
   obtain ⟨hfit, rfl⟩ := prOf_some hP
   cases h
   have hk := P.lenV hfit
   have hvp := P.val_pers
   refine ⟨by simp [AV.persL, P.pers], by split <;> simp [FRes.pers, P.pers, wrongV, AV.pers, AV.persL], P.funs.length + 8, fun p hp => ?_⟩
   rw [callS_go rfl]
   obtain ⟨q1, q2, q3, q4, q5⟩ := lenV_len hk (t := 22) (e := 63) rfl
   obtain ⟨hff, hfl⟩ := hfit
   have w := fun m x a b S => within_use (l := L8') rfl (n := m) (x := x) (a := a) (b := b) (S := S)
   have mu := fun m b x S => must_use (l := L8') rfl (n := m) (b := b) (e := x) (S := S)
   have lf := fun m n S => look_use (l := L8') (f := 87) rfl hk hvp (m := m) (main := P.main) (n := n) (S := S)
   have lv := fun m n S => look_use (l := L8') (f := 89) rfl hk hvp (m := m) (main := P.main) (n := n) (S := S)
   simp only [Pr.enc] at hp ⊢
   have hfb : ∀ n, lookB P.funs.length 87 n = isFunB P.funs.length n := fun n => rfl
   have hvb : ∀ n, lookB P.funs.length 89 n = isVarB n := fun n => rfl
   simp only [hfb] at lf
   simp only [hvb] at lv
   have hb : buildA ED 80 [(0, .agg [P.val, .int .i64 P.main])] = some (.agg [P.val, .int .i64 P.main]) := rfl
   simp only [fnA, ED_fn47, fi47, Tryz.f47]
   by_cases d1 : 1 ≤ P.funs.length
   ·have d1' : (1 : Int) ≤ (P.funs.length : Int) := by omega
    by_cases d2 : P.funs.length ≤ 40
    ·have d2' : (P.funs.length : Int) ≤ 40 := by omega
     cases d3 : isFunB P.funs.length P.main with
     | true =>
      simp [vmS, q1, q2, q3, q4, w, mu, lf, lv, d1', d2', d3, hb]
      have hF : formedB P.funs P.main = goodsB P.funs.length [] P.funs := by simp [formedB, d1, d2, d3]
      rw [hF] at hp
      generalize hG : goodsB P.funs.length [] P.funs = G at hp
      generalize hc : iter _ _ _ _ = c
      have hvs := P.val_slice (by intro e; rw [e] at d1; simp at d1)
      obtain ⟨e1, L1, S1, rfl, hq⟩ := loop_of hc
       (fun r L S' => ∃ (j : Nat) (x y : AV) (sc : List (Tmp × AV)), j + r = P.funs.length ∧ goodsB P.funs.length (P.funs.take j) (P.funs.drop j) = G ∧
        L = vloc [.agg [P.val, .int .i64 P.main], .ptr 0 0, .ptr 1 0, .ptr 2 0, x, y, P.val, .int .i64 P.funs.length, .int .i64 (j : Nat)] sc ∧ Cl S' ∧ 3 ≤ S'.n ∧
        S'.cells? 0 = some [P.val, .int .i64 P.main] ∧ S'.cells? 1 = some [.nils, .int .i64 0] ∧ S'.cells? 2 = some [P.val, .int .i64 P.main])
       (fun e L S' => (e = .exit 0 ∧ G = true ∧ (∃ (x y z : AV) (sc : List (Tmp × AV)), L = vloc [.agg [P.val, .int .i64 P.main], .ptr 0 0, .ptr 1 0, .ptr 2 0, x, y, P.val, .int .i64 P.funs.length, z] sc) ∧ Cl S' ∧
        S'.cells? 1 = some [.nils, .int .i64 0] ∧ S'.cells? 2 = some [P.val, .int .i64 P.main]) ∨ (e = .pan (wrongV 1 0) ∧ G = false ∧ ∃ vs sc, L = vloc vs sc))
       P.funs.length (by omega)
       ⟨0, _, _, _, by simp, by simpa using hG, rfl, Cl.put (Cl.push (Cl.push (Cl.push Cl.zero _) _) _) 2 _, by simp [n_push', n_put', n_S0], by simp [push_at, put_at, n_push', n_put', n_S0], by simp [push_at, put_at, n_push', n_put', n_S0], by simp [push_at, put_at, n_push', n_put', n_S0]⟩
       (by
        rintro r L S' ⟨j, x, y, sc, hjk, hs, rfl, C', hn3, k0, k1, k2⟩ q hq1 hq2
        by_cases hj : j < P.funs.length
        ·have hw : IntKind.i64.wrap ((j : Int) + 1) = ((j : Int) + 1) := wrap_id (by omega) (by omega)
         have hix := index_fu (l := P.funs) (tk := .dead) hj
         rw [← hvs] at hix
         have hsl : sliceA ED 22 P.val none (some (.int .i64 (j : Nat))) none = some (.slice ((P.funs.take j).map Fu.enc) .dead) := by
          rw [hvs]
          have hb1 : boundsA (P.funs.map Fu.enc).length (P.funs.map Fu.enc).length none (some (.int .i64 (j : Nat))) none = some (0, j, (P.funs.map Fu.enc).length) := by
           have : (j : Int) ≤ (P.funs.length : Int) := by omega
           simp [boundsA, boundMx, boundHi, boundLo, boundA, this]
          have hh : headSz 6 (P.funs.map Fu.enc) = true := by
           cases P.funs with
           | nil => rfl
           | cons f l => rfl
          have he : (P.funs.map Fu.enc).isEmpty = false := by
           cases hPf : P.funs with
           | nil => rw [hPf] at d1; simp at d1
           | cons f l => rfl
          simp only [sliceA, ED_desc22, ED_size63, hb1, hh, he]
          simp [List.map_take]
         have hffj := hff P.funs[j] (List.getElem_mem hj)
         have htk : P.funs.take (j + 1) = P.funs.take j ++ [P.funs[j]] := by rw [List.take_add_one, List.getElem?_eq_getElem hj]; rfl
         rw [List.drop_eq_getElem_cons hj] at hs
         simp only [goodsB] at hs
         rw [← htk] at hs
         generalize P.funs[j] = f at *
         obtain ⟨g1, g2, g3⟩ := f.body.cell
         have hS2c : Cl ((S'.push (.cells [.str [], .int .i64 0, .int .i64 0, .int .i64 0, .int .i64 0, .nils])).put S'.n (.cells f.vals)) := Cl.put (Cl.push C' _) _ _
         have hX2 : Ext S' ((S'.push (.cells [.str [], .int .i64 0, .int .i64 0, .int .i64 0, .int .i64 0, .nils])).put S'.n (.cells f.vals)) := Ext.put (Ext.push _ _) (Nat.le_refl _) _
         have hc2 : ((S'.push (.cells [.str [], .int .i64 0, .int .i64 0, .int .i64 0, .int .i64 0, .nils])).put S'.n (.cells f.vals)).cells? S'.n = some f.vals := cells?_put_push _ _ _
         have hn2 : ((S'.push (.cells [.str [], .int .i64 0, .int .i64 0, .int .i64 0, .int .i64 0, .nils])).put S'.n (.cells f.vals)).n = S'.n + 1 := by rw [n_put', n_push']
         simp only [Fu.vals] at hS2c hX2 hc2 hn2 hix
         generalize hS2 : ((S'.push (.cells [.str [], .int .i64 0, .int .i64 0, .int .i64 0, .int .i64 0, .nils])).put S'.n (.cells [.str f.name, .int .i64 f.par, .int .i64 f.body.op, .int .i64 f.body.num, .int .i64 f.body.mun, f.body.lst])) = S2 at *
         have k20 := ext_cells hX2 k0
         have k22 := ext_cells hX2 k2
         have nu := fun m S => named_use (l := L8') rfl (n := m) (s := f.name) (S := S) (by have := hffj.1; unfold maxLen at this; omega)
         obtain ⟨S3, hcall, C3, X3⟩ := contains_func (l := L8') (n := P.funs.length + 6) (fs := P.funs.take j) (tk := .dead) rfl rfl rfl hS2c hc2 (by simp; omega) (by simp; omega)
         have hcall' : callS ED (sumG L8') (P.funs.length + 7) (.fn 90) [.slice ((P.funs.take j).map Fu.enc) .dead, .fn 91 [] [.ptr S'.n 0]] S2 = some (.ret (.bool ((P.funs.take j).any fun g => g.name == f.name)), S3) := hcall
         rw [List.map_take] at hcall'
         have k3c := ext_cells X3 hc2
         have k30 := ext_cells X3 k20
         have k32 := ext_cells X3 k22
         have bu := fun m tk S => body_use (l := L8') rfl hk hvp hffj.2 (m := m) (main := P.main) (v := f.par) (tk := tk) (S := S)
         have X03 := hX2.trans X3
         cases a1 : namedB f.name with
         | false =>
          simp [vmS, vloc, C'.1, C'.2, hj, hix, hw, hS2, hS2c.1, hS2c.2, k20, k22, hc2, hn2, nu, lv, w, mu, hsl, unA, C3.1, C3.2, k3c, k30, k32, bu, g1, g2, g3, stepE_pan, a1]
          exact hq2 _ _ _ (by simp) (.inr ⟨rfl, by rw [← hs]; simp [a1], _, _, rfl⟩)
         | true =>
          cases a2 : isVarB f.par with
          | false =>
           simp [vmS, vloc, C'.1, C'.2, hj, hix, hw, hS2, hS2c.1, hS2c.2, k20, k22, hc2, hn2, nu, lv, w, mu, hsl, unA, C3.1, C3.2, k3c, k30, k32, bu, g1, g2, g3, stepE_pan, a1, a2]
           exact hq2 _ _ _ (by simp) (.inr ⟨rfl, by rw [← hs]; simp [a1, a2], _, _, rfl⟩)
          | true =>
           cases a3 : ((P.funs.take j).any fun g => g.name == f.name) with
           | true =>
            rw [a3] at hcall'
            simp [vmS, vloc, C'.1, C'.2, hj, hix, hw, hS2, hS2c.1, hS2c.2, k20, k22, hc2, hn2, nu, lv, w, mu, hsl, unA, C3.1, C3.2, k3c, k30, k32, bu, g1, g2, g3, stepE_pan, a1, a2, hcall', a3]
            exact hq2 _ _ _ (by simp) (.inr ⟨rfl, by rw [← hs]; simp [a1, a2, a3], _, _, rfl⟩)
           | false =>
            cases a4 : bodyB P.funs.length f.body [f.par] with
            | false =>
             rw [a3] at hcall'
             simp [vmS, vloc, C'.1, C'.2, hj, hix, hw, hS2, hS2c.1, hS2c.2, k20, k22, hc2, hn2, nu, lv, w, mu, hsl, unA, C3.1, C3.2, k3c, k30, k32, bu, g1, g2, g3, stepE_pan, a1, a2, hcall', a3, a4]
             exact hq2 _ _ _ (by simp) (.inr ⟨rfl, by rw [← hs]; simp [a1, a2, a3, a4], _, _, rfl⟩)
            | true =>
             rw [a3] at hcall'
             simp [vmS, vloc, C'.1, C'.2, hj, hix, hw, hS2, hS2c.1, hS2c.2, k20, k22, hc2, hn2, nu, lv, w, mu, hsl, unA, C3.1, C3.2, k3c, k30, k32, bu, g1, g2, g3, stepE_pan, a1, a2, hcall', a4]
             exact hq1 (r - 1) _ _ (by omega) ⟨j + 1, _, _, _, by omega, by rw [← hs]; simp [a1, a2, a3, a4], rfl, C3, by have := X03.n; omega, ext_cells X03 k0, ext_cells X03 k1, k32⟩
        ·have hjl : j = P.funs.length := by omega
         subst hjl
         rw [List.drop_length] at hs
         simp only [goodsB] at hs
         simp [vmS, vloc, C'.1, C'.2]
         exact hq2 _ _ _ (by simp) (.inl ⟨rfl, hs.symm, ⟨_, _, _, _, rfl⟩, C', k1, k2⟩))
      rcases hq with ⟨rfl, hGt, ⟨x, y, z, sc, rfl⟩, C1, k1, k2⟩ | ⟨rfl, hGf, vs, sc, rfl⟩
      ·have k1n := St.get_lt (cells?_inv k1)
       simp [vmS, vloc, C1.1, C1.2, k1, k2, q2, q3, q4, k1n]
       have hdp : (AV.agg [P.val, AV.int .i64 P.main]).dead = AV.agg [P.val, AV.int .i64 P.main] := dead_of_pers _ P.pers
       refine hp _ _ ?_
       rw [hGt]
       show FRes.ret (AV.agg [P.val, AV.int .i64 P.main]).dead = _
       rw [hdp]
       rfl
      ·simp [vmS, vloc]
       exact hp _ _ (by rw [hGf]; rfl)
     | false =>
      simp [vmS, q1, q2, q3, q4, w, mu, lf, lv, d1', d2', d3, hb, stepE_pan]
      exact hp _ _ (by simp [formedB, d3]; rfl)
    ·have d2' : ¬ (P.funs.length : Int) ≤ 40 := by omega
     simp [vmS, q1, q2, q3, q4, w, mu, lf, lv, d1', d2', hb, stepE_pan]
     exact hp _ _ (by simp [formedB, d2]; rfl)
   ·have d1' : ¬ (1 : Int) ≤ (P.funs.length : Int) := by omega
    simp [vmS, q1, q2, q3, q4, w, mu, lf, lv, d1', hb, stepE_pan]
    exact hp _ _ (by simp [formedB, d1]; rfl)
  ·cases h
 ·cases h
end Go.Vm.L
