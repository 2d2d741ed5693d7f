/-
What lang.Free returns. No conditions.
-/
import Derived.Test.YtjfnelfdlemfgaaGreatDoorFreeB
import Derived.Test.YtjfnelfdlemfgaaGreatDoorNodeH
import Derived.Test.YtjfnelfdlemfgaaGreatDoorSaidC
set_option linter.all false
set_option maxHeartbeats 4000000
namespace Go.Vm.L
open Go Go.Proofs Go.Vm
set_option maxRecDepth 100000
attribute [local simp] inFrame startLoc startVals Loc.clear blockC Loc.putO Loc.put idx evO constV Loc.get Vm.look intA unwindA resultsA resultV actA pureA storeA loadA fillE repElems TI.zeroV fieldOf fieldAddrA fieldA elemsA retE cellsOf? setCells nowhere mapHead headNext
theorem free_run : ∀ (d : Nat) (e : Ex), e.deep ≤ d → e.fit → e.fvOk → ∃ N, ∀ n, N ≤ n → Runs102 e n := by
 intro d
 induction d with
 | zero => intro e hd _ _; have := e.deep_pos; omega
 | succ d ih =>
  intro e hd he hok
  obtain ⟨N, hN⟩ := max_fuel (P := fun x n => Runs102 x n) e.kids (fun x hx => ih x (by have := Ex.deep_kid hx; omega) (Ex.fit_kid he hx) (Ex.fvOks_mem ((Ex.fvOk_kids e).1 hok).2 hx))
  refine ⟨max (max N (e.kids.length + 2)) 1000004 + 1, fun n hn => ?_⟩
  obtain ⟨m, rfl⟩ : ∃ m, n = m + 1 := ⟨n - 1, by omega⟩
  exact free_step he hok (by omega) (by omega) (hN m (by omega))
theorem numsOf_ints : ∀ zs : List Int, numsOf (ints zs) = some zs
 | [] => rfl
 | z :: zs => by
  have := numsOf_ints zs
  unfold ints at this ⊢
  simp [numsOf, this]
def upL (L : List Int) : List Int := L.mergeSort fun x y => decide (x ≤ y)
theorem upL_len (L : List Int) : (upL L).length = L.length := List.length_mergeSort _
theorem LV.put1 {S : St} {w u : AV} {L : List Int} (h : LV S w L) (h1 : S.cells? 1 = some [u]) (hu : ∀ zs, [u] ≠ ints zs) (o : AO) : LV (S.put 1 o) w L := by
 refine h.keep fun k _ hz => get_put_ne fun e => ?_
 subst e
 have g1 := cells?_inv h1
 rcases hz with ⟨zs, hz⟩ | ⟨b, hz⟩
 ·have e := Option.some.inj (g1.symm.trans hz)
  injection e with e
  exact hu zs e
 ·rw [g1] at hz
  cases hz
theorem LV.melt {S : St} {w : AV} {L : List Int} (h : LV S w L) : (FRes.ret w).melt S = .ret (ivV L) := by
 rcases h with ⟨rfl, rfl⟩ | ⟨id, rfl, h2, h3, h4⟩
 ·rfl
 ·rw [melt_ints0 h2 rfl]
  cases L with
  | nil => exact absurd rfl h4
  | cons z r => rfl
theorem LV.sort {l : Sm} (hl : ∀ a, sumG l 105 a = none) {S : St} {w u : AV} {L : List Int} (h : LV S w L) (hcl : Cl S) (hlen : L.length ≤ 1000000) (h1 : S.cells? 1 = some [u]) (hu : ∀ zs, [u] ≠ ints zs) {n : Nat} :
  ∃ S', callS ED (sumG l) (n + 1) (.fn 105) [w] S = some (.ret (.tup []), S') ∧ LV S' w (upL L) ∧ Cl S' ∧ S'.cells? 1 = some [u] := by
 rcases h with ⟨rfl, rfl⟩ | ⟨id, rfl, h2, h3, h4⟩
 ·refine ⟨S, ?_, .inl ⟨rfl, by simp [upL]⟩, hcl, h1⟩
  rw [callS_go (hl _)]
  simp only [fnA, ED_fn105, fi105, Tryz.f105, ED_lib105, ED_libS105]
  rfl
 ·have g2 := cells?_inv h2
  have hid : id ≠ 1 := fun e => by
   subst e
   exact hu L (Option.some.inj (h1.symm.trans h2))
  refine ⟨S.put id (.cells (ints (upL L))), ?_, .inr ⟨id, by rw [upL_len], cells?_put_self _ _ _ (St.get_lt g2), ?_, fun e => h4 (List.length_eq_zero_iff.1 (by rw [← upL_len, e]; rfl))⟩, Cl.put hcl _ _, ?_⟩
  ·rw [callS_go (hl _)]
   have hz : L.length ≠ 0 := fun e => h4 (List.length_eq_zero_iff.1 e)
   have hs : sortS S [.rsl id 0 L.length 0] = some (some (id, ints (upL L))) := by
    simp only [sortS, h2, numsOf_ints]
    rw [if_pos ⟨trivial, hz, by omega⟩]
    rfl
   simp only [fnA, ED_fn105, fi105, Tryz.f105, ED_lib105, ED_libS105, hs]
  ·rw [get_put_ne (by omega)]
   exact h3
  ·rw [cells?_put_ne _ _ _ (fun e => hid e.symm)]
   exact h1
open Classical in
noncomputable def fvG : List AV → Option FRes
 | [v] => match exOf v with
  | some e => if e.fvOk ∧ e.deep ≤ 100 ∧ e.size ≤ 100000 then some (.ret (ivV (insFs [] (e.occ [])))) else none
  | none => none
 | _ => none
theorem fv_ok : FOk 59 fvG := by
 refine fok LF LF_ok ?_
 intro a r h
 unfold fvG at h
 split at h
 ·rename_i v
  split at h
  ·rename_i e he
   split at h
   ·rename_i hc
    obtain ⟨hok, hdp, hsz⟩ := hc
    obtain ⟨hfit, rfl⟩ := exOf_some he
    cases h
    obtain ⟨N, hN⟩ := free_run e.deep e (Nat.le_refl _) hfit hok
    refine ⟨by simp [AV.persL, Ex.pers], ivV_pers _, N + 2, fun p hp => ?_⟩
    rw [callS_go rfl]
    have fu := fun m S => forms_use (l := LF) rfl (n := m) (S := S)
    obtain ⟨hc1, hc2, hc3⟩ := e.cell
    have el := e.look
    have hrun := hN (N + 1) (by omega)
    unfold Runs102 at hrun
    rw [el] at hrun ⊢
    simp only [fnA, ED_fn59, fi59, Tryz.f59]
    simp [vmS, fu, hc1, hc2, hc3, forms_length, forms_isCell, set_forms]
    generalize hT : St.put _ 3 (AO.cells [AV.fn 102 [] [AV.ptr 1 0, AV.ptr 3 0, AV.ptr 2 0]]) = T
    have W : WF T [] := by
     subst hT
     refine ⟨Cl.put (Cl.push (Cl.put (Cl.push (Cl.push (Cl.push Cl.zero _) _) _) 2 _) _) 3 _, ?_, ⟨.nils, ?_, .inl ⟨rfl, rfl⟩⟩, ?_, ?_⟩
     ·simp [n_push', n_put', n_S0]
     ·simp [push_at, put_at, n_push', n_put', n_S0, cellsOf?]
     ·simp [push_at, put_at, n_push', n_put', n_S0, cellsOf?]
     ·simp [push_at, put_at, n_push', n_put', n_S0, cellsOf?, ffn]
    have W0 := W
    obtain ⟨⟨a1, a2⟩, _, _, _, a5⟩ := W0
    have a6 : T.cells? 0 = some [.int .i64 e.op, .int .i64 e.num, .int .i64 e.mun, e.lst] := by
     subst hT
     simp [push_at, put_at, n_push', n_put', n_S0, cellsOf?]
    clear hT
    obtain ⟨r3, S3, hcall, rfl, W3⟩ := gotF_iff.1 (hrun T [] [] .nils W rfl (by simp; omega) (by simp; omega)
     (fun r S3 => r = .ret (.tup []) ∧ WF S3 (addsF [] (e.occ []))) (fun S3 h1 _ => ⟨rfl, h1⟩))
    have hll : (addsF [] (e.occ [])).length ≤ 1000000 := by
     have b1 := addsF_len (e.occ []) []
     have b2 := e.occ_len []
     simp at b1
     omega
    obtain ⟨⟨b1, b2⟩, _, ⟨w, b3, b4⟩, _, _⟩ := W3
    obtain ⟨S4, hsort, hl4, hc4, h14⟩ := b4.sort (l := LF) (fun _ => rfl) (n := N) ⟨b1, b2⟩ hll b3 (lv_not b4)
    have hl5 := hl4.put1 h14 (lv_not b4) (.cells [w])
    obtain ⟨w1, w2, w3⟩ := b4.cell
    have l1 := St.get_lt (cells?_inv h14)
    have h15 : (S4.put 1 (.cells [w])).cells? 1 = some [w] := cells?_put_self _ _ _ l1
    have hc5 := Cl.put hc4 1 (.cells [w])
    simp only [ffn] at a5
    simp [vmS, a1, a2, a5, a6, hcall, b1, b2, b3, hsort, hc4.1, hc4.2, h14, w1, w2, w3, h15, hc5.1, hc5.2]
    refine hp _ _ ?_
    rw [hl5.melt]
    show FRes.ret (ivV (upL (addsF [] (e.occ [])))) = _
    rw [upL, sort_ins]
   ·cases h
  ·cases h
 ·cases h
theorem fv_use {l : Sm} (h : sumG l 59 = fvG) {m : Nat} {e : Ex} {S : St} (he : e.fit) (hok : e.fvOk) (hd : e.deep ≤ 100) (hs : e.size ≤ 100000) :
  callS ED (sumG l) m (.fn 59) [.agg [.int .i64 e.op, .int .i64 e.num, .int .i64 e.mun, e.lst]] S = some (.ret (ivV (insFs [] (e.occ []))), S) := by
 rw [← e.look]
 refine callS_sum ?_
 rw [h]
 simp [fvG, exOf_enc he, hok, hd, hs]
/-! errors that are caught -/
def caughtE : List AV → Option FRes
 | [.iface 128 (.agg [.int .i64 e, .int .i64 0])] => if e = 1 ∨ e = 2 then some (.ret (.tup [.int .i64 0, .int .i64 e])) else none
 | _ => none
theorem caughtE_ok : FOk 63 caughtE := by
 intro a r h
 unfold caughtE at h
 split at h
 ·split at h
  ·rename_i he
   cases h
   refine ⟨rfl, rfl, ?_⟩
   rcases he with rfl | rfl
   ·exact fok_of_run (l := []) (by simp) (n := 40) (by kernel_rfl) rfl
   ·exact fok_of_run (l := []) (by simp) (n := 40) (by kernel_rfl) rfl
  ·cases h
 ·cases h
theorem caughtE_use {l : Sm} (h : sumG l 63 = caughtE) {n : Nat} {S : St} {e : Int} (he : e = 1 ∨ e = 2) : callS ED (sumG l) n (.fn 63) [wrongV e 0] S = some (.ret (.tup [.int .i64 0, .int .i64 e]), S) :=
 callS_sum (by rw [h]; exact if_pos he)
theorem eq_wrongE (e : Int) : binA ED .neq 20 (.tmp 4) (.const .nilIface) (wrongV e 0) .nili = some (.bool true) := rfl
theorem stopped_panE {l : Sm} (hl : sumG l 46 = fun _ => none) (hl' : sumG l 63 = caughtE) {n q : Nat} {S : St} {z e : Int} (he : e = 1 ∨ e = 2) (hcl : Cl S) (hq : S.cells? q = some [.int .i64 z]) : callS ED (sumG l) (n + 1) (.fn 46) [wrongV e 0, .ptr q 0] S = some (.ret (.tup []), S.put q (.cells [.int .i64 e])) := by
 rw [callS_go (by rw [hl])]
 have cu := fun m S => caughtE_use (l := l) hl' (n := m) (S := S) he
 have hlt := St.get_lt (cells?_inv hq)
 have hcl' := Cl.put hcl q (.cells [.int .i64 e])
 have eqw := eq_wrongE e
 simp only [fnA, ED_fn46, fi46, Tryz.f46]
 simp [vmS, lenA, indexAddrA, hcl.1, hcl.2, eqw, cu, hq, hcl'.1, hcl'.2]
theorem df_panE {l : Sm} (hl : sumG l 46 = fun _ => none) (hl' : sumG l 63 = caughtE) {n q : Nat} {S : St} {z e : Int} (he : e = 1 ∨ e = 2) (hcl : Cl S) (hq : S.cells? q = some [.int .i64 z]) (it : (Vm.Loc → St → CRes) → Vm.Loc → St → CRes) :
  dfA ED (callS ED (sumG l) (n + 1)) it 58 [.ptr q 0] (.pan (wrongV e 0)) S = some (.done, S.put q (.cells [.int .i64 e])) := by
 have hs := stopped_panE (l := l) hl hl' (n := n) he hcl hq
 have hcl' := Cl.put hcl q (.cells [.int .i64 e])
 simp only [dfA, ED_fn58, fi58, Tryz.f58]
 simp [vmS, lenA, indexAddrA, eff_recover, stepE_rcv_pan, hs, hcl.1, hcl.2, hcl'.1, hcl'.2]
/-! programs that are well formed -/
theorem heads_par : ∀ {l prev : List Fu} {f : Fu}, headsB prev l = true → f ∈ l → isVarB f.par = true
 | g :: l, prev, f, h, hf => by
  simp only [headsB, Bool.and_eq_true] at h
  rcases List.mem_cons.1 hf with rfl | hf
  ·exact h.1.1.2
  ·exact heads_par h.2 hf
theorem formed_fv {fs : List Fu} {main : Int} (h : formedB fs main = true) : ∀ f ∈ fs, f.body.fvOk ∧ f.body.deep ≤ 40 ∧ f.body.size ≤ 600 := by
 intro f hf
 rw [formed_same] at h
 simp only [headF, Bool.and_eq_true] at h
 have h1 := heads_par h.1.2 hf
 have h2 := List.all_eq_true.1 h.2 f hf
 simp only [okB, Bool.and_eq_true, decide_eq_true_eq] at h2
 obtain ⟨h3, h4⟩ := Ex.fvOk_shp fs.length f.body 40 [f.par] (by simp [h1]) h2.1
 exact ⟨h3, h4, h2.2⟩
/-! a return out of a range -/
theorem yld_ret {E : Env} {call : CallF} {it : (Vm.Loc → St → CRes) → Vm.Loc → St → CRes} {l : Nat} {args : List AV} {S S1 S2 : St} {a a1 a2 : ALoop} {fi : FInfo} {L L1 L2 : Vm.Loc} (h1 : S.get l = some (.loop a)) (h2 : E.fn a.fid = some fi)
  (h3 : a.params.toList.all (fun t => decide (t < fi.fn.ntmps)) = true) (h4 : putAll fi.vars { vals := a.vals, sc := [], defers := [], recs := .no, rnd := some l } a.params.toList args = some L)
  (h5 : evalC { E, call, it, fid := a.fid, vars := fi.vars, nt := fi.fn.ntmps } a.asg L S = some (.normal, L1, S1)) (h6 : S1.get l = some (.loop a1)) (h7 : a1.state = .ready)
  (h8 : evalC { E, call, it, fid := a.fid, vars := fi.vars, nt := fi.fn.ntmps } a.body L1 (S1.put l (.loop { a1 with state := .busy })) = some (.ret, L2, S2)) (h9 : L2.defers = []) (h10 : S2.get l = some (.loop a2)) :
  yldA E call it l args S = some (.ret (.bool false), S2.put l (.loop { a2 with state := .done, pend := some .ret })) := by
 unfold yldA
 simp only [h1, h2, h3, if_true, h4, h5, h6, h7, h8, h9, h10]
theorem endC_ret {l : Nat} {L : Vm.Loc} {S : St} {v : AV} {a : ALoop} (h : S.get l = some (.loop a)) (h1 : a.state = .done) (h2 : a.pend = some .ret) : endC l L (some (.ret v, S)) = some (.ret, L, S.put l (.loop { a with state := .exhausted })) := by
 simp only [endC, h, h1, h2]
theorem ivV_cell (L : List Int) : (ivV L).isCell = true ∧ (ivV L).known = true ∧ (ivV L).cells = [ivV L] := by
 obtain ⟨h1, h2, h3, _⟩ := iv_cell (ivV_of L)
 exact ⟨h1, h2, h3⟩
theorem ivV_meltE (S : St) (L : List Int) : AV.meltE S (ivV L) = ivV L := by
 cases L with
 | nil => rfl
 | cons z r => simp [ivV, AV.meltE, AV.dead, ints_dead]
/-! the range of Free -/
inductive A24 where
 | go (k : Nat)
 | fin (L : List Int)
def A24.wt : A24 → Nat
 | .go k => k
 | .fin _ => 1000000
def step24 (z : Int) : A24 → Nd × Ex → YR A24
 | .go k, y => if (k : Int) = z then .stop (.fin (insFs [] (y.2.occ []))) else .go (.go (k + 1))
 | .fin L, _ => .stop (.fin L)
noncomputable def loop24 (P : Pr) (z : Int) : ALoop := { state := .ready, pend := none, fid := 24, vals := [.agg [P.val, .int .i64 P.main], .int .i64 z, .ptr 0 0, .ptr 1 0, .ptr 2 0, .ptr 3 0, .ptr 4 0, .undef, .fn 93 [] [.ptr 5 0], .undef], params := #[13, 14], asg := (rfA Tryz.f24 0).1, body := (rfA Tryz.f24 0).2, dfr := 6 }
def J24 (P : Pr) (z : Int) : A24 → St → Prop
 | .go k, S => S.get 7 = some (.loop (loop24 P z)) ∧ S.cells? 1 = some [.int .i64 z] ∧ S.cells? 2 = some [.nils] ∧ S.cells? 3 = some [.int .i64 0] ∧ S.cells? 4 = some [.int .i64 (k : Nat)]
 | .fin L, S => S.get 7 = some (.loop { loop24 P z with state := .done, pend := some .ret }) ∧ S.cells? 1 = some [.int .i64 z] ∧ S.cells? 2 = some [ivV L] ∧ S.cells? 3 = some [.int .i64 0] ∧ ∃ k : Nat, S.cells? 4 = some [.int .i64 (k : Nat)]
def Q24 (e : Ex) : Prop := e.fit ∧ e.fvOk ∧ e.deep ≤ 100 ∧ e.size ≤ 100000
theorem sizes_mem' : ∀ {l : List Ex} {x : Ex}, x ∈ l → x.size ≤ Ex.sizes l
 | a :: l, x, hx => by
  simp only [Ex.sizes]
  rcases List.mem_cons.1 hx with rfl | hx
  ·omega
  ·have := sizes_mem' hx; omega
theorem Q24_kid (e x : Ex) (h : Q24 e) (hx : x ∈ e.kids) : Q24 x := by
 obtain ⟨h1, h2, h3, h4⟩ := h
 have := Ex.deep_kid hx
 have := sizes_mem' hx
 have := e.size_kids
 exact ⟨Ex.fit_kid h1 hx, Ex.fvOks_mem ((Ex.fvOk_kids e).1 h2).2 hx, by omega, by omega⟩
theorem J24_keep (P : Pr) (z : Int) (a : A24) (S S' : St) (h : J24 P z a S) (h2 : ∀ k, k < S.n → k ∈ [1, 2, 3, 4, 7] → S'.get k = S.get k) : J24 P z a S' := by
 have c : ∀ i cs, i ∈ [1, 2, 3, 4, 7] → S.cells? i = some cs → S'.cells? i = some cs := fun i cs hi hc => by
  rw [cells?_def, h2 i (St.get_lt (cells?_inv hc)) hi, ← cells?_def]
  exact hc
 cases a with
 | go k =>
  obtain ⟨a1, a2, a3, a4, a5⟩ := h
  exact ⟨(h2 7 (St.get_lt a1) (by simp)).trans a1, c _ _ (by simp) a2, c _ _ (by simp) a3, c _ _ (by simp) a4, c _ _ (by simp) a5⟩
 | fin L =>
  obtain ⟨a1, a2, a3, a4, k, a5⟩ := h
  exact ⟨(h2 7 (St.get_lt a1) (by simp)).trans a1, c _ _ (by simp) a2, c _ _ (by simp) a3, c _ _ (by simp) a4, k, c _ _ (by simp) a5⟩
theorem J24_lt (P : Pr) (z : Int) (a : A24) (S : St) (h : J24 P z a S) : ∀ k ∈ [1, 2, 3, 4, 7], k < S.n := by
 intro k hk
 cases a with
 | go k =>
  obtain ⟨a1, a2, a3, a4, a5⟩ := h
  simp only [List.mem_cons, List.mem_nil_iff, or_false] at hk
  rcases hk with rfl | rfl | rfl | rfl | rfl
  ·exact St.get_lt (cells?_inv a2)
  ·exact St.get_lt (cells?_inv a3)
  ·exact St.get_lt (cells?_inv a4)
  ·exact St.get_lt (cells?_inv a5)
  ·exact St.get_lt a1
 | fin L =>
  obtain ⟨a1, a2, a3, a4, k, a5⟩ := h
  simp only [List.mem_cons, List.mem_nil_iff, or_false] at hk
  rcases hk with rfl | rfl | rfl | rfl | rfl
  ·exact St.get_lt (cells?_inv a2)
  ·exact St.get_lt (cells?_inv a3)
  ·exact St.get_lt (cells?_inv a4)
  ·exact St.get_lt (cells?_inv a5)
  ·exact St.get_lt a1
noncomputable def L24 : Sm := [(47, formedG), (63, caughtE), (53, mustG), (59, fvG)]
theorem L24_ok : ∀ x ∈ L24, FOk x.1 x.2 := by
 intro x hx
 simp only [L24, List.mem_cons, List.mem_nil_iff, or_false] at hx
 rcases hx with rfl | rfl | rfl | rfl
 ·exact formed_ok
 ·exact caughtE_ok
 ·exact must_ok
 ·exact fv_ok
theorem yield24 (P : Pr) (z : Int) (n : Nat) : YOkQ Q24 L24 (step24 z) (J24 P z) [1, 2, 3, 4, 7] A24.wt 1000000 7 (n + 1) := by
 intro S a x e hj hcl he hwt p hp1 hp2 _
 cases a with
 | fin L => simp [A24.wt] at hwt
 | go k =>
 simp only [A24.wt] at hwt
 obtain ⟨hefit, heok, hed, hes⟩ := he
 obtain ⟨hj, hb1, hb2, hb3, hb4⟩ := hj
 have hlt := St.get_lt hj
 have el := e.look
 obtain ⟨hc1, hc2, hc3⟩ := e.cell
 have fu := fun m S => fv_use (l := L24) rfl (m := m) (e := e) (S := S) hefit heok hed hes
 obtain ⟨i1, i2, i3⟩ := ivV_cell (insFs [] (e.occ []))
 have hC1 : Cl ((S.push (.cells [.int .i64 0, .int .i64 0, .int .i64 0, .nils])).put S.n (.cells [.int .i64 e.op, .int .i64 e.num, .int .i64 e.mun, e.lst])) := Cl.put (Cl.push hcl _) _ _
 have hn1 : ((S.push (.cells [.int .i64 0, .int .i64 0, .int .i64 0, .nils])).put S.n (.cells [.int .i64 e.op, .int .i64 e.num, .int .i64 e.mun, e.lst])).n = S.n + 1 := by rw [n_put', n_push']
 have hcc : ((S.push (.cells [.int .i64 0, .int .i64 0, .int .i64 0, .nils])).put S.n (.cells [.int .i64 e.op, .int .i64 e.num, .int .i64 e.mun, e.lst])).cells? S.n = some [.int .i64 e.op, .int .i64 e.num, .int .i64 e.mun, e.lst] := cells?_put_push _ _ _
 have hk1 : ∀ k, k < S.n → ((S.push (.cells [.int .i64 0, .int .i64 0, .int .i64 0, .nils])).put S.n (.cells [.int .i64 e.op, .int .i64 e.num, .int .i64 e.mun, e.lst])).get k = S.get k := fun k hk => by
  rw [St.get_put_ne _ _ _ (by omega), get_push_lt _ _ hk]
 have hasg : evalC ⟨ED, callS ED (sumG L24) n, iter n, 24, fi24.vars, fi24.fn.ntmps⟩ (loop24 P z).asg { vals := [.agg [P.val, .int .i64 P.main], .int .i64 z, .ptr 0 0, .ptr 1 0, .ptr 2 0, .ptr 3 0, .ptr 4 0, .undef, .fn 93 [] [.ptr 5 0], .agg [.int .i64 e.op, .int .i64 e.num, .int .i64 e.mun, e.lst]], sc := [(13, .agg x.vals)], defers := [], recs := .no, rnd := some 7 } S =
   some (.normal, { vals := [.agg [P.val, .int .i64 P.main], .int .i64 z, .ptr 0 0, .ptr 1 0, .ptr 2 0, .ptr 3 0, .ptr 4 0, .ptr S.n 0, .fn 93 [] [.ptr 5 0], .agg [.int .i64 e.op, .int .i64 e.num, .int .i64 e.mun, e.lst]], sc := [], defers := [], recs := .no, rnd := some 7 }, (S.push (.cells [.int .i64 0, .int .i64 0, .int .i64 0, .nils])).put S.n (.cells [.int .i64 e.op, .int .i64 e.num, .int .i64 e.mun, e.lst])) := by
  simp only [loop24, rfA, rangesOf, drA, drawsOf, Option.getD_some, List.nil_append, List.append_nil, List.getD_cons_zero, List.getD_cons_succ, List.cons_append, Tryz.f24, fi24]
  simp [vmS, hcl.1, hcl.2, hc1, hc2, hc3]
 generalize hS1 : (S.push (.cells [.int .i64 0, .int .i64 0, .int .i64 0, .nils])).put S.n (.cells [.int .i64 e.op, .int .i64 e.num, .int .i64 e.mun, e.lst]) = S1 at *
 have hg1 : S1.get 7 = some (.loop (loop24 P z)) := (hk1 7 hlt).trans hj
 have hC2 : Cl (S1.put 7 (.loop { loop24 P z with state := .busy })) := Cl.put hC1 _ _
 have hcc2 : (S1.put 7 (.loop { loop24 P z with state := .busy })).cells? S.n = some [.int .i64 e.op, .int .i64 e.num, .int .i64 e.mun, e.lst] := by rw [cells?_put_ne _ _ _ (by omega)]; exact hcc
 have hg2 : (S1.put 7 (.loop { loop24 P z with state := .busy })).get 7 = some (.loop { loop24 P z with state := .busy }) := get_put_self hg1
 have hn2 : (S1.put 7 (.loop { loop24 P z with state := .busy })).n = S.n + 1 := by rw [n_put', hn1]
 have hk2 : ∀ k, k < S.n → k ≠ 7 → (S1.put 7 (.loop { loop24 P z with state := .busy })).get k = S.get k := fun k hk h5 => by rw [get_put_ne h5]; exact hk1 k hk
 have ck : ∀ i cs, i ≠ 7 → S.cells? i = some cs → (S1.put 7 (.loop { loop24 P z with state := .busy })).cells? i = some cs := fun i cs hi hc => by
  rw [cells?_def, hk2 i (St.get_lt (cells?_inv hc)) hi, ← cells?_def]
  exact hc
 have m1 := ck 1 _ (by decide) hb1
 have m2 := ck 2 _ (by decide) hb2
 have m3 := ck 3 _ (by decide) hb3
 have m4 := ck 4 _ (by decide) hb4
 rw [callS_yld, el]
 by_cases hz : (k : Int) = z
 ·have hst : step24 z (.go k) (x, e) = .stop (.fin (insFs [] (e.occ []))) := if_pos hz
  have hbody : ∃ L2, L2.defers = [] ∧ evalC ⟨ED, callS ED (sumG L24) n, iter n, 24, fi24.vars, fi24.fn.ntmps⟩ (loop24 P z).body { vals := [.agg [P.val, .int .i64 P.main], .int .i64 z, .ptr 0 0, .ptr 1 0, .ptr 2 0, .ptr 3 0, .ptr 4 0, .ptr S.n 0, .fn 93 [] [.ptr 5 0], .agg [.int .i64 e.op, .int .i64 e.num, .int .i64 e.mun, e.lst]], sc := [], defers := [], recs := .no, rnd := some 7 } (S1.put 7 (.loop { loop24 P z with state := .busy })) =
    some (.ret, L2, ((S1.put 7 (.loop { loop24 P z with state := .busy })).put 2 (.cells [ivV (insFs [] (e.occ []))])).put 3 (.cells [.int .i64 0])) := by
   have hC3 := Cl.put hC2 2 (.cells [ivV (insFs [] (e.occ []))])
   have hC4 := Cl.put hC3 3 (.cells [.int .i64 0])
   have m3' : ((S1.put 7 (.loop { loop24 P z with state := .busy })).put 2 (.cells [ivV (insFs [] (e.occ []))])).cells? 3 = some [.int .i64 0] := by rw [cells?_put_ne _ _ _ (by decide)]; exact m3
   generalize S1.put 7 (.loop { loop24 P z with state := .busy }) = SB at *
   simp only [loop24, rfA, rangesOf, drA, drawsOf, Option.getD_some, List.nil_append, List.append_nil, List.getD_cons_zero, List.getD_cons_succ, List.cons_append, Tryz.f24, fi24]
   simp [vmS, hC2.1, hC2.2, hcc2, m1, m2, m3, m4, m3', hz, fu, i1, i2, i3, hC3.1, hC3.2, hC4.1, hC4.2]
  obtain ⟨L2, hd, hbody⟩ := hbody
  have hg4 : (((S1.put 7 (.loop { loop24 P z with state := .busy })).put 2 (.cells [ivV (insFs [] (e.occ []))])).put 3 (.cells [.int .i64 0])).get 7 = some (.loop { loop24 P z with state := .busy }) := by rw [get_put_ne (by decide), get_put_ne (by decide)]; exact hg2
  rw [yld_ret (E := ED) (l := 7) (fi := fi24) hj rfl rfl rfl hasg hg1 rfl hbody hd hg4]
  have hlt2 := St.get_lt (cells?_inv m2)
  have hlt3 := St.get_lt (cells?_inv m3)
  refine hp2 _ _ hst ⟨get_put_self hg4, ?_, ?_, ?_, k, ?_⟩ (Cl.put (Cl.put (Cl.put hC2 _ _) _ _) _ _) ⟨by rw [n_put', n_put', n_put', hn2]; omega, fun k hk hzz ht => ?_⟩
  ·rw [cells?_put_ne _ _ _ (by decide), cells?_put_ne _ _ _ (by decide), cells?_put_ne _ _ _ (by decide)]
   exact m1
  ·rw [cells?_put_ne _ _ _ (by decide), cells?_put_ne _ _ _ (by decide)]
   exact cells?_put_self _ _ _ hlt2
  ·rw [cells?_put_ne _ _ _ (by decide)]
   exact cells?_put_self _ _ _ (by rw [n_put']; exact hlt3)
  ·rw [cells?_put_ne _ _ _ (by decide), cells?_put_ne _ _ _ (by decide), cells?_put_ne _ _ _ (by decide)]
   exact m4
  ·simp only [List.mem_cons, List.mem_nil_iff, or_false, not_or] at hzz
   rw [get_put_ne hzz.2.2.2.2, get_put_ne hzz.2.2.1, get_put_ne hzz.2.1]
   exact hk2 k hk hzz.2.2.2.2
 ·have hst : step24 z (.go k) (x, e) = .go (.go (k + 1)) := if_neg hz
  have hwk : IntKind.i64.wrap ((k : Int) + 1) = (k : Int) + 1 := wrap_id (by omega) (by omega)
  have hbody : ∃ L2, L2.defers = [] ∧ evalC ⟨ED, callS ED (sumG L24) n, iter n, 24, fi24.vars, fi24.fn.ntmps⟩ (loop24 P z).body { vals := [.agg [P.val, .int .i64 P.main], .int .i64 z, .ptr 0 0, .ptr 1 0, .ptr 2 0, .ptr 3 0, .ptr 4 0, .ptr S.n 0, .fn 93 [] [.ptr 5 0], .agg [.int .i64 e.op, .int .i64 e.num, .int .i64 e.mun, e.lst]], sc := [], defers := [], recs := .no, rnd := some 7 } (S1.put 7 (.loop { loop24 P z with state := .busy })) =
    some (.normal, L2, (S1.put 7 (.loop { loop24 P z with state := .busy })).put 4 (.cells [.int .i64 ((k + 1 : Nat) : Int)])) := by
   rw [show (((k + 1 : Nat) : Int)) = (k : Int) + 1 by omega]
   have hC3 := Cl.put hC2 4 (.cells [.int .i64 ((k : Int) + 1)])
   generalize S1.put 7 (.loop { loop24 P z with state := .busy }) = SB at *
   simp only [loop24, rfA, rangesOf, drA, drawsOf, Option.getD_some, List.nil_append, List.append_nil, List.getD_cons_zero, List.getD_cons_succ, List.cons_append, Tryz.f24, fi24]
   simp [vmS, hC2.1, hC2.2, hcc2, m1, m2, m3, m4, hz, hwk, hC3.1, hC3.2]
  obtain ⟨L2, hd, hbody⟩ := hbody
  have hg4 : ((S1.put 7 (.loop { loop24 P z with state := .busy })).put 4 (.cells [.int .i64 ((k + 1 : Nat) : Int)])).get 7 = some (.loop { loop24 P z with state := .busy }) := by rw [get_put_ne (by decide)]; exact hg2
  rw [yld_round (E := ED) (l := 7) (fi := fi24) hj rfl rfl rfl hasg hg1 rfl hbody hd hg4]
  have hlt4 := St.get_lt (cells?_inv m4)
  refine hp1 _ _ hst ⟨get_put_self hg4, ?_, ?_, ?_, ?_⟩ (Cl.put (Cl.put hC2 _ _) _ _) ⟨by rw [n_put', n_put', hn2]; omega, fun k hk hzz ht => ?_⟩
  ·rw [cells?_put_ne _ _ _ (by decide), cells?_put_ne _ _ _ (by decide)]
   exact m1
  ·rw [cells?_put_ne _ _ _ (by decide), cells?_put_ne _ _ _ (by decide)]
   exact m2
  ·rw [cells?_put_ne _ _ _ (by decide), cells?_put_ne _ _ _ (by decide)]
   exact m3
  ·rw [cells?_put_ne _ _ _ (by decide)]
   exact cells?_put_self _ _ _ hlt4
  ·simp only [List.mem_cons, List.mem_nil_iff, or_false, not_or] at hzz
   rw [get_put_ne hzz.2.2.2.2, get_put_ne hzz.2.2.2.1]
   exact hk2 k hk hzz.2.2.2.2
def nthZ {α : Type} (l : List α) (z : Int) : Option α := if 0 ≤ z then l[z.toNat]? else none
theorem fold24 (z : Int) : ∀ (l : List (Nd × Ex)) (k : Nat), (k : Int) ≤ z ∨ z < 0 →
  (∃ y, nthZ l (z - k) = some y ∧ 0 ≤ z ∧ foldY (step24 z) (.go k) l = .stop (.fin (insFs [] (y.2.occ [])))) ∨ (((z < 0 ∨ nthZ l (z - k) = none)) ∧ foldY (step24 z) (.go k) l = .go (.go (k + l.length)))
 | [], k, h => .inr ⟨.inr (by simp [nthZ]), rfl⟩
 | y :: l, k, h => by
  by_cases hz : (k : Int) = z
  ·refine .inl ⟨y, ?_, by omega, ?_⟩
   ·subst hz
    simp [nthZ]
   ·simp only [foldY, step24, if_pos hz]
  ·have h' : ((k + 1 : Nat) : Int) ≤ z ∨ z < 0 := by omega
   have e : foldY (step24 z) (.go k) (y :: l) = foldY (step24 z) (.go (k + 1)) l := by simp only [foldY, step24, if_neg hz]
   have hn : ¬ z < 0 → nthZ (y :: l) (z - k) = nthZ l (z - ((k + 1 : Nat) : Int)) := fun h0 => by
    have h1 : 0 ≤ z - (k : Int) := by omega
    have h2 : 0 ≤ z - ((k + 1 : Nat) : Int) := by omega
    unfold nthZ
    rw [if_pos h1, if_pos h2, show (z - (k : Int)).toNat = (z - ((k + 1 : Nat) : Int)).toNat + 1 by omega, List.getElem?_cons_succ]
   rw [e]
   rcases fold24 z l (k + 1) h' with ⟨y', h1, h0, h2⟩ | ⟨h1, h2⟩
   ·exact .inl ⟨y', by rw [hn (by omega)]; exact h1, h0, h2⟩
   ·refine .inr ⟨?_, by rw [h2, List.length_cons, Nat.add_assoc, Nat.add_comm 1]⟩
    by_cases h0 : z < 0
    ·exact .inl h0
    ·exact .inr (by rw [hn h0]; exact h1.resolve_left h0)
/-- what a walk that looks for a node comes to -/
theorem fold24_all (z : Int) (l : List (Nd × Ex)) : foldY (step24 z) (.go 0) l = match nthZ l z with
  | some y => .stop (.fin (insFs [] (y.2.occ [])))
  | none => .go (.go l.length) := by
 rcases fold24 z l 0 (by omega) with ⟨y, h1, h0, h2⟩ | ⟨h1, h2⟩
 ·have e : z - ((0 : Nat) : Int) = z := by omega
  rw [e] at h1
  rw [h1]
  exact h2
 ·have hn : nthZ l z = none := by
   rcases h1 with h1 | h1
   ·unfold nthZ
    rw [if_neg (by omega)]
   ·have e : z - ((0 : Nat) : Int) = z := by omega
    rw [e] at h1
    exact h1
  rw [hn, h2, Nat.zero_add]
/-- what lang.Free returns -/
def freeR (fs : List Fu) (main z : Int) : AV :=
 if formedB fs main = true then
  match nthZ (allPre fs 0 0) z with
  | some y => .tup [ivV (insFs [] (y.2.occ [])), .int .i64 0]
  | none => .tup [.nils, .int .i64 2]
 else .tup [.nils, .int .i64 1]
noncomputable def freeG : List AV → Option FRes
 | [v, .int .i64 z] => match prOf v with
  | some P => some (.ret (freeR P.funs P.main z))
  | none => none
 | _ => none
theorem freeR_pers (fs : List Fu) (main z : Int) : (FRes.ret (freeR fs main z)).pers = true := by
 unfold freeR
 split
 ·split
  ·simp [FRes.pers, AV.pers, AV.persL, ivV_pers]
  ·rfl
 ·rfl
theorem free_ok : FOk 24 freeG := by
 refine fok L24 L24_ok ?_
 intro a r h
 unfold freeG at h
 split at h
 ·rename_i v z
  split at h
  ·rename_i P hP
   obtain ⟨hfit, rfl⟩ := prOf_some hP
   cases h
   cases hF : formedB P.funs P.main with
   | true =>
    have hsz := formedB_size hF
    obtain ⟨N, hN⟩ := nodes93Q (l := L24) (step := step24 z) (J := J24 P z) (Z := [1, 2, 3, 4, 7]) (i := 7) (wt := A24.wt) (K := 1000000) rfl rfl (fun a S S' h h1 h2 => J24_keep P z a S S' h (fun k hk hz => h2 k hk (.inl hz))) (J24_lt P z) hfit (pb := 5) (by omega) (fun a y a' h => by
     cases a with
     | go k =>
      simp only [step24] at h
      split at h
      ·cases h
      ·cases h
       simp [A24.wt]
     | fin L => cases h) Q24_kid (fun f hf => by
     obtain ⟨h1, h2, h3⟩ := formed_fv hF f hf
     exact ⟨(hfit.1 f hf).2, h1, by omega, by omega⟩) (M := 1) (fun n hn => by
     obtain ⟨m, rfl⟩ : ∃ m, n = m + 1 := ⟨n - 1, by omega⟩
     exact yield24 P z m)
    refine ⟨by simp [AV.persL, AV.pers, P.pers], freeR_pers _ _ _, N + 4, fun p hp => ?_⟩
    rw [callS_go rfl]
    obtain ⟨q1, q2, q3, q4, q5⟩ := lenV_len (P.lenV hfit) (t := 22) (e := 63) rfl
    have fu := fun m S => formed_use (l := L24) rfl hfit (n := m) (S := S)
    have mu := fun m b x S => must_use (l := L24) rfl (n := m) (b := b) (e := x) (S := S)
    simp only [Pr.enc]
    simp only [fnA, ED_fn24, fi24, Tryz.f24]
    simp only [hF, if_true] at fu
    simp only [freeR, hF, if_true] at hp
    have nf := fun a b c d e f => nodes_fn (l := L24) rfl (n := N + 2) hfit (Cl.put (Cl.push (Cl.push (Cl.push (Cl.push (Cl.push Cl.zero a) b) c) d) e) 4 f)
    simp [vmS, eff_defer, stepE_dfr, fu, q2, q3, q4, nf, evalC_range, rangeC_fn]
    generalize hT : St.push (St.push _ (AO.dfr false)) _ = T
    have tj : T.get 7 = some (.loop (loop24 P z)) := by
     subst hT
     exact St.get_push_self _ _
    have t6 : T.get 6 = some (.dfr false) := by
     subst hT
     exact St.get_push_of _ _ (St.get_push_self _ _)
    have t1 : T.cells? 1 = some [.int .i64 z] := by
     subst hT
     simp [push_at, put_at, n_push', n_put', n_S0, cellsOf?]
    have t2 : T.cells? 2 = some [.nils] := by
     subst hT
     simp [push_at, put_at, n_push', n_put', n_S0, cellsOf?]
    have t3 : T.cells? 3 = some [.int .i64 0] := by
     subst hT
     simp [push_at, put_at, n_push', n_put', n_S0, cellsOf?]
    have t4 : T.cells? 4 = some [.int .i64 ((0 : Nat) : Int)] := by
     subst hT
     simp [push_at, put_at, n_push', n_put', n_S0, cellsOf?]
    have t5 : T.cells? 5 = some [P.val, .int .i64 P.main] := by
     subst hT
     simp [push_at, put_at, n_push', n_put', n_S0, cellsOf?]
    have tc : Cl T := by
     subst hT
     exact Cl.push (Cl.push (Cl.push (Cl.put (Cl.push (Cl.push (Cl.push (Cl.push (Cl.push Cl.zero _) _) _) _) _) 4 _) _) _) _
    clear hT
    obtain ⟨r3, S3, hcall, rfl, hP3⟩ := gotF_iff.1 (hN (N + 3) (by omega) T (.go 0) ⟨tj, t1, t2, t3, t4⟩ tc (by simp [A24.wt]; omega) t5
     (fun r S3 => r = .ret (.tup []) ∧ ((∃ L, foldY (step24 z) (.go 0) (allPre P.funs 0 0) = .stop (.fin L) ∧ J24 P z (.fin L) S3 ∧ Cl S3 ∧ Keep [1, 2, 3, 4, 7] T S3) ∨ ∃ k, foldY (step24 z) (.go 0) (allPre P.funs 0 0) = .go (.go k) ∧ J24 P z (.go k) S3 ∧ Cl S3 ∧ Keep [1, 2, 3, 4, 7] T S3))
     (fun S' a' h1 h2 h3 h4 => by
      refine ⟨rfl, ?_⟩
      have h1' := h1
      rw [fold24_all] at h1'
      split at h1'
      ·cases h1'
      ·cases h1'
       exact .inr ⟨_, h1, h2, h3, h4⟩)
     (fun S' a' h1 h2 h3 h4 => by
      refine ⟨rfl, ?_⟩
      have h1' := h1
      rw [fold24_all] at h1'
      split at h1'
      ·cases h1'
       exact .inl ⟨_, h1, h2, h3, h4⟩
      ·cases h1')
     (fun S' v h1 _ _ => by
      rw [fold24_all] at h1
      split at h1 <;> cases h1))
    rw [fold24_all] at hP3
    rcases hP3 with ⟨L, hf, ⟨hj3, k1, k2, k3, _⟩, hc3, hk3⟩ | ⟨k, hf, ⟨hj3, k1, k2, k3, k4⟩, hc3, hk3⟩
    ·have he := fun (L : Vm.Loc) (v : AV) => endC_ret (L := L) (v := v) hj3 rfl rfl
     have k6 : S3.get 6 = some (.dfr false) := by rw [hk3.2 6 (St.get_lt t6) (by simp) (fun b => by rw [t6]; simp)]; exact t6
     simp only [loop24] at he
     split at hf
     ·rename_i y hy
      cases hf
      simp only [hy] at hp
      obtain ⟨i1, i2, i3⟩ := ivV_cell (insFs [] (y.2.occ []))
      have imE := fun S => ivV_meltE S (insFs [] (y.2.occ []))
      generalize ivV (insFs [] (y.2.occ [])) = iv at *
      generalize hS4 : S3.put 7 _ = S4 at he
      have c4 : Cl S4 := by rw [← hS4]; exact Cl.put hc3 _ _
      have m2 : S4.cells? 2 = some [iv] := by rw [← hS4, cells?_put_ne _ _ _ (by decide)]; exact k2
      have m3 : S4.cells? 3 = some [.int .i64 0] := by rw [← hS4, cells?_put_ne _ _ _ (by decide)]; exact k3
      have m6 : S4.get 6 = some (.dfr false) := by rw [← hS4, get_put_ne (by decide)]; exact k6
      clear hS4
      have dn := fun it => df_no (l := L24) rfl (n := N + 2) (q := 3) (Cl.put c4 6 (.dfr true)) 58 (by simp) it
      have m2' : (S4.put 6 (.dfr true)).cells? 2 = some [iv] := by rw [cells?_put_ne _ _ _ (by decide)]; exact m2
      have m3' : (S4.put 6 (.dfr true)).cells? 3 = some [.int .i64 0] := by rw [cells?_put_ne _ _ _ (by decide)]; exact m3
      simp [vmS, hcall, he, c4.1, c4.2, m2, m3, m6, dn, m2', m3']
      refine hp _ _ ?_
      have mi : ∀ S x, AV.meltE S (.int .i64 x) = .int .i64 x := fun _ _ => rfl
      simp [FRes.melt, AV.melt, imE, mi]
     ·cases hf
    ·have he := fun (L : Vm.Loc) (v : AV) => endC_ok (L := L) (v := v) hj3 rfl rfl
     have k6 : S3.get 6 = some (.dfr false) := by rw [hk3.2 6 (St.get_lt t6) (by simp) (fun b => by rw [t6]; simp)]; exact t6
     simp only [loop24] at he
     split at hf
     ·cases hf
     ·rename_i hy
      cases hf
      simp only [hy] at hp
      generalize hS4 : S3.put 7 _ = S4 at he
      have c4 : Cl S4 := by rw [← hS4]; exact Cl.put hc3 _ _
      have m2 : S4.cells? 2 = some [.nils] := by rw [← hS4, cells?_put_ne _ _ _ (by decide)]; exact k2
      have m3 : S4.cells? 3 = some [.int .i64 0] := by rw [← hS4, cells?_put_ne _ _ _ (by decide)]; exact k3
      have m6 : S4.get 6 = some (.dfr false) := by rw [← hS4, get_put_ne (by decide)]; exact k6
      clear hS4
      have m3' : (S4.put 6 (.dfr true)).cells? 3 = some [.int .i64 0] := by rw [cells?_put_ne _ _ _ (by decide)]; exact m3
      have dp := fun it => df_panE (l := L24) rfl rfl (n := N + 2) (e := 2) (.inr rfl) (Cl.put c4 6 (.dfr true)) m3' it
      have m2'' : ((S4.put 6 (.dfr true)).put 3 (.cells [.int .i64 2])).cells? 2 = some [.nils] := by rw [cells?_put_ne _ _ _ (by decide), cells?_put_ne _ _ _ (by decide)]; exact m2
      have m3'' : ((S4.put 6 (.dfr true)).put 3 (.cells [.int .i64 2])).cells? 3 = some [.int .i64 2] := cells?_put_self _ _ _ (St.get_lt (cells?_inv m3'))
      simp [vmS, hcall, he, c4.1, c4.2, m2, m3, m6, mu, stepE_pan, dp, m2'', m3'']
      exact hp _ _ rfl
   | false =>
    refine ⟨by simp [AV.persL, AV.pers, P.pers], freeR_pers _ _ _, 13, fun p hp => ?_⟩
    rw [callS_go rfl]
    obtain ⟨q1, q2, q3, q4, q5⟩ := lenV_len (P.lenV hfit) (t := 22) (e := 63) rfl
    have fu := fun m S => formed_use (l := L24) rfl hfit (n := m) (S := S)
    simp only [Pr.enc]
    simp only [fnA, ED_fn24, fi24, Tryz.f24]
    simp only [hF] at fu
    simp only [freeR, hF] at hp
    have dp := fun a b c d e it => df_panE (l := L24) rfl rfl (n := 11) (q := 3) (z := 0) (e := 1) (.inl rfl) (Cl.put (Cl.push (Cl.push (Cl.push (Cl.push (Cl.push Cl.zero a) b) c) (.cells [.int .i64 0])) d) 4 e) (by simp [push_at, put_at, n_push', n_put', n_S0, cellsOf?]) it
    simp [vmS, eff_defer, stepE_dfr, fu, q2, q3, q4, stepE_pan, dp]
    exact hp _ _ rfl
  ·cases h
 ·cases h
theorem free_use {l : Sm} {P : Pr} {z : Int} (h : sumG l 24 = freeG) (hf : P.fit) {n : Nat} {S : St} : callS ED (sumG l) n (.fn 24) [.agg [P.val, .int .i64 P.main], .int .i64 z] S = some (.ret (freeR P.funs P.main z), S) := by
 have hd : (AV.agg [P.val, .int .i64 P.main]).dead = .agg [P.val, .int .i64 P.main] := dead_of_pers _ P.pers
 obtain ⟨Q, h1, h2, h3, _⟩ := prOf_enc hf
 refine callS_sum ?_
 rw [List.map_cons, List.map_cons, List.map_nil, hd, h]
 simp only [Pr.enc] at h1
 simp only [AV.dead, freeG, h1, h2, h3]
end Go.Vm.L
