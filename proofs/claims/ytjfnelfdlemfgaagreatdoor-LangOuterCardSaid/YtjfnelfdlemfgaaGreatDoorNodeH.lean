/-
What Check, Core and Nodes return. No conditions.
-/
import Derived.Test.YtjfnelfdlemfgaaGreatDoorNodeG
set_option linter.all false
set_option maxHeartbeats 4000000
namespace Go.Vm.L
open Go Go.Proofs Go.Vm
set_option maxRecDepth 100000
attribute [local simp] inFrame startLoc startVals Loc.clear blockC Loc.putO Loc.put idx evO constV Loc.get Vm.look intA unwindA resultsA resultV actA pureA storeA loadA fillE repElems TI.zeroV fieldOf fieldAddrA fieldA elemsA retE cellsOf? setCells nowhere mapHead headNext
def caughtG : List AV → Option FRes
 | [.iface 128 (.agg [.int .i64 1, .int .i64 0])] => some (.ret (.tup [.int .i64 0, .int .i64 1]))
 | _ => none
theorem caught_ok : FOk 63 caughtG := by
 intro a r h
 unfold caughtG at h
 split at h
 ·cases h
  exact ⟨rfl, rfl, fok_of_run (l := []) (by simp) (n := 40) (by kernel_rfl) rfl⟩
 ·cases h
theorem caught_use {l : Sm} (h : sumG l 63 = caughtG) {n : Nat} {S : St} : callS ED (sumG l) n (.fn 63) [wrongV 1 0] S = some (.ret (.tup [.int .i64 0, .int .i64 1]), S) :=
 callS_sum (by rw [h]; rfl)
theorem eq_nili : binA ED .neq 20 (.tmp 4) (.const .nilIface) .nili .nili = some (.bool false) := rfl
theorem eq_wrong : binA ED .neq 20 (.tmp 4) (.const .nilIface) (wrongV 1 0) .nili = some (.bool true) := rfl
theorem stopped_no {l : Sm} (hl : sumG l 46 = fun _ => none) {n q : Nat} {S : St} (hcl : Cl S) : callS ED (sumG l) (n + 1) (.fn 46) [.nili, .ptr q 0] S = some (.ret (.tup []), S) := by
 rw [callS_go (by rw [hl])]
 simp only [fnA, ED_fn46, fi46, Tryz.f46]
 simp [vmS, lenA, indexAddrA, hcl.1, hcl.2, eq_nili]
theorem stopped_pan {l : Sm} (hl : sumG l 46 = fun _ => none) (hl' : sumG l 63 = caughtG) {n q : Nat} {S : St} {z : Int} (hcl : Cl S) (hq : S.cells? q = some [.int .i64 z]) : callS ED (sumG l) (n + 1) (.fn 46) [wrongV 1 0, .ptr q 0] S = some (.ret (.tup []), S.put q (.cells [.int .i64 1])) := by
 rw [callS_go (by rw [hl])]
 have cu := fun m S => caught_use (l := l) hl' (n := m) (S := S)
 have hlt := St.get_lt (cells?_inv hq)
 have hcl' := Cl.put hcl q (.cells [.int .i64 1])
 simp only [fnA, ED_fn46, fi46, Tryz.f46]
 simp [vmS, lenA, indexAddrA, hcl.1, hcl.2, eq_wrong, cu, hq, hcl'.1, hcl'.2]
/-- what the three deferred functions do -/
theorem df_no {l : Sm} (hl : sumG l 46 = fun _ => none) {n q : Nat} {S : St} (hcl : Cl S) : ∀ f ∈ [45, 55, 56, 58], ∀ it, dfA ED (callS ED (sumG l) (n + 1)) it f [.ptr q 0] .no S = some (.no, S) := by
 intro f hf it
 have hs := fun q => stopped_no (l := l) hl (n := n) (q := q) hcl
 simp only [List.mem_cons, List.mem_nil_iff, or_false] at hf
 rcases hf with rfl | rfl | rfl | rfl
 ·simp only [dfA, ED_fn45, fi45, Tryz.f45]
  simp [vmS, lenA, indexAddrA, eff_recover, stepE_rcv_no, hs, hcl.1, hcl.2]
 ·simp only [dfA, ED_fn55, fi55, Tryz.f55]
  simp [vmS, lenA, indexAddrA, eff_recover, stepE_rcv_no, hs, hcl.1, hcl.2]
 ·simp only [dfA, ED_fn56, fi56, Tryz.f56]
  simp [vmS, lenA, indexAddrA, eff_recover, stepE_rcv_no, hs, hcl.1, hcl.2]
 ·simp only [dfA, ED_fn58, fi58, Tryz.f58]
  simp [vmS, lenA, indexAddrA, eff_recover, stepE_rcv_no, hs, hcl.1, hcl.2]
theorem df_pan {l : Sm} (hl : sumG l 46 = fun _ => none) (hl' : sumG l 63 = caughtG) {n q : Nat} {S : St} {z : Int} (hcl : Cl S) (hq : S.cells? q = some [.int .i64 z]) : ∀ f ∈ [45, 55, 56, 58], ∀ it,
  dfA ED (callS ED (sumG l) (n + 1)) it f [.ptr q 0] (.pan (wrongV 1 0)) S = some (.done, S.put q (.cells [.int .i64 1])) := by
 intro f hf it
 have hs := stopped_pan (l := l) hl hl' (n := n) hcl hq
 have hcl' := Cl.put hcl q (.cells [.int .i64 1])
 simp only [List.mem_cons, List.mem_nil_iff, or_false] at hf
 rcases hf with rfl | rfl | rfl | rfl
 ·simp only [dfA, ED_fn45, fi45, Tryz.f45]
  simp [vmS, lenA, indexAddrA, eff_recover, stepE_rcv_pan, hs, hcl.1, hcl.2, hcl'.1, hcl'.2]
 ·simp only [dfA, ED_fn55, fi55, Tryz.f55]
  simp [vmS, lenA, indexAddrA, eff_recover, stepE_rcv_pan, hs, hcl.1, hcl.2, hcl'.1, hcl'.2]
 ·simp only [dfA, ED_fn56, fi56, Tryz.f56]
  simp [vmS, lenA, indexAddrA, eff_recover, stepE_rcv_pan, hs, hcl.1, hcl.2, hcl'.1, hcl'.2]
 ·simp only [dfA, ED_fn58, fi58, Tryz.f58]
  simp [vmS, lenA, indexAddrA, eff_recover, stepE_rcv_pan, hs, hcl.1, hcl.2, hcl'.1, hcl'.2]
noncomputable def L13 : Sm := [(47, formedG), (63, caughtG), (53, mustG)]
theorem L13_ok : ∀ x ∈ L13, FOk x.1 x.2 := by
 intro x hx
 simp only [L13, List.mem_cons, List.mem_nil_iff, or_false] at hx
 rcases hx with rfl | rfl | rfl
 ·exact formed_ok
 ·exact caught_ok
 ·exact must_ok
theorem formed_use {l : Sm} (h : sumG l 47 = formedG) {P : Pr} (hf : P.fit) {n : Nat} {S : St} : callS ED (sumG l) n (.fn 47) [.agg [P.val, .int .i64 P.main]] S = some (if formedB P.funs P.main = true then .ret (.agg [P.val, .int .i64 P.main]) else .pan (wrongV 1 0), S) := by
 have hd : (AV.agg [P.val, .int .i64 P.main]).dead = .agg [P.val, .int .i64 P.main] := dead_of_pers _ P.pers
 obtain ⟨Q, h1, h2, h3, _⟩ := prOf_enc hf
 refine callS_sum ?_
 rw [List.map_cons, List.map_nil, hd, h]
 simp only [Pr.enc] at h1
 simp only [formedG, h1, h2, h3]
noncomputable def checkG : List AV → Option FRes
 | [v] => match prOf v with
  | some p => some (.ret (.int .i64 (if formedB p.funs p.main = true then 0 else 1)))
  | none => none
 | _ => none
theorem check_ok : FOk 19 checkG := by
 refine fok L13 L13_ok ?_
 intro a r h
 unfold checkG at h
 split at h
 ·rename_i v
  split at h
  ·rename_i P hP
   obtain ⟨hfit, rfl⟩ := prOf_some hP
   cases h
   refine ⟨by simp [AV.persL, P.pers], rfl, 3, fun p hp => ?_⟩
   rw [callS_go rfl]
   obtain ⟨q1, q2, q3, q4, q5⟩ := lenV_len (P.lenV hfit) (t := 22) (e := 63) rfl
   have fu := fun m S => formed_use (l := L13) rfl hfit (n := m) (S := S)
   simp only [Pr.enc]
   simp only [fnA, ED_fn19, fi19, Tryz.f19]
   cases hF : formedB P.funs P.main with
   | true =>
    rw [hF] at hp
    simp only [hF, if_true] at fu
    have dn := fun a b c it => df_no (l := L13) rfl (n := 1) (q := 1) (Cl.put (Cl.push (Cl.push Cl.zero a) b) 1 c) 55 (by simp) it
    simp [vmS, eff_defer, stepE_dfr, fu, q2, q3, q4, dn]
    exact hp _ _ rfl
   | false =>
    rw [hF] at hp
    simp only [hF] at fu
    have dp := fun a it => df_pan (l := L13) rfl rfl (n := 1) (q := 1) (z := 0) (Cl.push (Cl.push Cl.zero a) (.cells [.int .i64 0])) (cells?_push_eq _ _ rfl) 55 (by simp) it
    simp [vmS, eff_defer, stepE_dfr, fu, q2, q3, q4, stepE_pan, dp]
    exact hp _ _ rfl
  ·cases h
 ·cases h
theorem nodes_fn {l : Sm} (hl : sumG l 48 = fun _ => none) {n : Nat} {P : Pr} (hfit : P.fit) {S : St} (hcl : Cl S) : callS ED (sumG l) (n + 1) (.fn 48) [.agg [P.val, .int .i64 P.main]] S = some (.ret (.fn 93 [] [.ptr S.n 0]), S.push (.cells [P.val, .int .i64 P.main])) := by
 rw [callS_go (by rw [hl])]
 obtain ⟨q1, q2, q3, q4, q5⟩ := lenV_len (P.lenV hfit) (t := 22) (e := 63) rfl
 simp only [fnA, ED_fn48, fi48, Tryz.f48]
 simp [vmS, hcl.1, hcl.2, q2, q3, q4]
noncomputable def loop21 (P : Pr) : ALoop := { state := .ready, pend := none, fid := 21, vals := [.agg [P.val, .int .i64 P.main], .ptr 0 0, .ptr 1 0, .undef, .fn 93 [] [.ptr 2 0], .undef], params := #[8, 9], asg := (rfA Tryz.f21 0).1, body := (rfA Tryz.f21 0).2, dfr := 3 }
def J21 (P : Pr) (_ : Unit) (S : St) : Prop := S.get 4 = some (.loop (loop21 P))
def step21 (_ : Unit) (y : Nd × Ex) : YR Unit := if y.1.op ≠ 4 ∧ y.1.op ≠ 5 ∧ y.1.op ≠ 6 then .go () else .pan (wrongV 1 0)
theorem yield21 (P : Pr) (n : Nat) : YOk L13 step21 (J21 P) [4] (fun _ => 0) 1000000 4 (n + 1) := by
 intro S a x e hj hcl he _ p hp1 _ hp3
 have hlt := St.get_lt hj
 have mu := fun m b x S => must_use (l := L13) rfl (n := m) (b := b) (e := x) (S := S)
 have hn0 : (S.n = 4) = False := by simp; omega
 have hC1 : Cl ((S.push (.cells [.int .i64 0, .int .i64 0, .int .i64 0, .int .i64 0])).put S.n (.cells x.vals)) := Cl.put (Cl.push hcl _) _ _
 have hg1 : ((S.push (.cells [.int .i64 0, .int .i64 0, .int .i64 0, .int .i64 0])).put S.n (.cells x.vals)).get 4 = some (.loop (loop21 P)) := by
  rw [St.get_put_ne _ _ _ (by omega), get_push_lt _ _ hlt]
  exact hj
 have hn1 : ((S.push (.cells [.int .i64 0, .int .i64 0, .int .i64 0, .int .i64 0])).put S.n (.cells x.vals)).n = S.n + 1 := by rw [n_put', n_push']
 have hc1 : ((S.push (.cells [.int .i64 0, .int .i64 0, .int .i64 0, .int .i64 0])).put S.n (.cells x.vals)).cells? S.n = some x.vals := cells?_put_push _ _ _
 have hk1 : ∀ k, k < S.n → ((S.push (.cells [.int .i64 0, .int .i64 0, .int .i64 0, .int .i64 0])).put S.n (.cells x.vals)).get k = S.get k := fun k hk => by
  rw [St.get_put_ne _ _ _ (by omega), get_push_lt _ _ hk]
 have hasg : evalC ⟨ED, callS ED (sumG L13) n, iter n, 21, fi21.vars, fi21.fn.ntmps⟩ (loop21 P).asg { vals := [.agg [P.val, .int .i64 P.main], .ptr 0 0, .ptr 1 0, .undef, .fn 93 [] [.ptr 2 0], .agg x.vals], sc := [(9, e.enc)], defers := [], recs := .no, rnd := some 4 } S =
   some (.normal, { vals := [.agg [P.val, .int .i64 P.main], .ptr 0 0, .ptr 1 0, .ptr S.n 0, .fn 93 [] [.ptr 2 0], .agg x.vals], sc := [], defers := [], recs := .no, rnd := some 4 }, (S.push (.cells [.int .i64 0, .int .i64 0, .int .i64 0, .int .i64 0])).put S.n (.cells x.vals)) := by
  simp only [loop21, rfA, rangesOf, drA, drawsOf, Option.getD_some, List.nil_append, List.append_nil, List.getD_cons_zero, List.getD_cons_succ, List.cons_append, Tryz.f21, fi21]
  simp [vmS, hcl.1, hcl.2, Nd.vals]
 generalize hS1 : (S.push (.cells [.int .i64 0, .int .i64 0, .int .i64 0, .int .i64 0])).put S.n (.cells x.vals) = S1 at *
 have hC2 : Cl (S1.put 4 (.loop { loop21 P with state := .busy })) := Cl.put hC1 _ _
 have hc2 : (S1.put 4 (.loop { loop21 P with state := .busy })).cells? S.n = some x.vals := by rw [cells?_put_ne _ _ _ (by omega)]; exact hc1
 have hg2 : (S1.put 4 (.loop { loop21 P with state := .busy })).get 4 = some (.loop { loop21 P with state := .busy }) := get_put_self hg1
 have hn2 : (S1.put 4 (.loop { loop21 P with state := .busy })).n = S.n + 1 := by rw [n_put', hn1]
 rw [callS_yld]
 have hbody : ∃ L2, L2.defers = [] ∧ evalC ⟨ED, callS ED (sumG L13) n, iter n, 21, fi21.vars, fi21.fn.ntmps⟩ (loop21 P).body { vals := [.agg [P.val, .int .i64 P.main], .ptr 0 0, .ptr 1 0, .ptr S.n 0, .fn 93 [] [.ptr 2 0], .agg x.vals], sc := [], defers := [], recs := .no, rnd := some 4 } (S1.put 4 (.loop { loop21 P with state := .busy })) =
   some (if x.op ≠ 4 ∧ x.op ≠ 5 ∧ x.op ≠ 6 then .normal else .pan (wrongV 1 0), L2, S1.put 4 (.loop { loop21 P with state := .busy })) := by
  generalize S1.put 4 (.loop { loop21 P with state := .busy }) = SB at *
  simp only [Nd.vals] at hc2
  simp only [loop21, rfA, rangesOf, drA, drawsOf, Option.getD_some, List.nil_append, List.append_nil, List.getD_cons_zero, List.getD_cons_succ, List.cons_append, Tryz.f21, fi21]
  by_cases o4 : x.op = 4
  ·simp [vmS, hC2.1, hC2.2, hc2, mu, o4, stepE_pan]
  ·by_cases o5 : x.op = 5
   ·simp [vmS, hC2.1, hC2.2, hc2, mu, o4, o5, stepE_pan]
   ·by_cases o6 : x.op = 6
    ·simp [vmS, hC2.1, hC2.2, hc2, mu, o4, o5, o6, stepE_pan]
    ·simp [vmS, hC2.1, hC2.2, hc2, mu, o4, o5, o6]
 obtain ⟨L2, hd, hbody⟩ := hbody
 by_cases hop : x.op ≠ 4 ∧ x.op ≠ 5 ∧ x.op ≠ 6
 ·rw [if_pos hop] at hbody
  rw [yld_round (E := ED) (l := 4) (fi := fi21) hj rfl rfl rfl hasg hg1 rfl hbody hd hg2]
  refine hp1 _ () (by simp only [step21]; rw [if_pos hop]) (get_put_self hg2) (Cl.put hC2 _ _) ⟨by rw [n_put', hn2]; omega, fun k hk hz _ => ?_⟩
  have hk4 : k ≠ 4 := by simpa using hz
  rw [get_put_ne hk4, get_put_ne hk4, hk1 k hk]
 ·rw [if_neg hop] at hbody
  rw [yld_pan (E := ED) (l := 4) (fi := fi21) hj rfl rfl rfl hasg hg1 rfl hbody hd hg2]
  refine hp3 _ _ (by simp only [step21]; rw [if_neg hop]) hC2 ⟨by omega, fun k hk hz _ => ?_⟩
  have hk4 : k ≠ 4 := by simpa using hz
  rw [get_put_ne hk4, hk1 k hk]
noncomputable def coreG : List AV → Option FRes
 | [v] => match prOf v with
  | some p => some (.ret (.int .i64 (if formedB p.funs p.main = true ∧ (allPre p.funs 0 0).all (fun y => decide (y.1.op ≠ 4 ∧ y.1.op ≠ 5 ∧ y.1.op ≠ 6)) = true then 0 else 1)))
  | none => none
 | _ => none
def opB (o : Int) : Bool := decide (o ≠ 4 ∧ o ≠ 5 ∧ o ≠ 6)
theorem fold21 : ∀ l : List (Nd × Ex), foldY step21 () l = if l.all (fun y => decide (y.1.op ≠ 4 ∧ y.1.op ≠ 5 ∧ y.1.op ≠ 6)) = true then .go () else .pan (wrongV 1 0)
 | [] => rfl
 | y :: l => by
  simp only [foldY, step21, List.all_cons]
  by_cases h : y.1.op ≠ 4 ∧ y.1.op ≠ 5 ∧ y.1.op ≠ 6
  ·have hd : decide (y.1.op ≠ 4 ∧ y.1.op ≠ 5 ∧ y.1.op ≠ 6) = true := decide_eq_true h
   simp only [if_pos h, hd, Bool.true_and]
   exact fold21 l
  ·have hd : decide (y.1.op ≠ 4 ∧ y.1.op ≠ 5 ∧ y.1.op ≠ 6) = false := decide_eq_false h
   simp only [if_neg h, hd, Bool.false_and]
   rfl
theorem core_ok : FOk 21 coreG := by
 refine fok L13 L13_ok ?_
 intro a r h
 unfold coreG at h
 split at h
 ·rename_i v
  split at h
  ·rename_i P hP
   obtain ⟨hfit, rfl⟩ := prOf_some hP
   cases h
   cases hF : formedB P.funs P.main with
   | true =>
    have hsz := formedB_size hF
    obtain ⟨N, hN⟩ := nodes93 (l := L13) (step := step21) (J := J21 P) (Z := [4]) (i := 4) (wt := fun _ => 0) (K := 1000000) rfl rfl (fun a S S' h h1 h2 => by
     unfold J21 at h ⊢
     rw [h2 4 (St.get_lt h) (.inl (by simp))]
     exact h) (fun a S h k hk => by
     have : k = 4 := by simpa using hk
     subst this
     exact St.get_lt h) hfit (pb := 2) (by omega) (fun a y a' _ => by simp) (M := 1) (fun n hn => by
     obtain ⟨m, rfl⟩ : ∃ m, n = m + 1 := ⟨n - 1, by omega⟩
     exact yield21 P m)
    refine ⟨by simp [AV.persL, P.pers], rfl, N + 4, fun p hp => ?_⟩
    rw [callS_go rfl]
    obtain ⟨q1, q2, q3, q4, q5⟩ := lenV_len (P.lenV hfit) (t := 22) (e := 63) rfl
    have fu := fun m S => formed_use (l := L13) rfl hfit (n := m) (S := S)
    simp only [Pr.enc]
    simp only [fnA, ED_fn21, fi21, Tryz.f21]
    simp only [hF, if_true] at fu
    have nf := fun a b => nodes_fn (l := L13) rfl (n := N + 2) hfit (Cl.push (Cl.push Cl.zero a) b)
    simp [vmS, eff_defer, stepE_dfr, fu, q2, q3, q4, nf, evalC_range, rangeC_fn]
    generalize hT : St.push (St.push _ (AO.dfr false)) _ = T
    have tj : T.get 4 = some (.loop (loop21 P)) := by
     subst hT
     exact St.get_push_self _ _
    have t3 : T.get 3 = some (.dfr false) := by
     subst hT
     exact St.get_push_of _ _ (St.get_push_self _ _)
    have t1 : T.cells? 1 = some [.int .i64 0] := by
     subst hT
     simp [push_at, n_push', n_S0, cellsOf?]
    have t2 : T.cells? 2 = some [P.val, .int .i64 P.main] := by
     subst hT
     simp [push_at, n_push', n_S0, cellsOf?]
    have tc : Cl T := by
     subst hT
     exact Cl.push (Cl.push (Cl.push (Cl.push (Cl.push Cl.zero _) _) _) _) _
    clear hT
    obtain ⟨r3, S3, hcall, hP3⟩ := gotF_iff.1 (hN (N + 3) (by omega) T () tj tc (by simp; omega) t2
     (fun r S3 => (r = .ret (.tup []) ∧ foldY step21 () (allPre P.funs 0 0) = .go () ∧ J21 P () S3 ∧ Cl S3 ∧ Keep [4] T S3) ∨ (∃ v, r = .pan v ∧ foldY step21 () (allPre P.funs 0 0) = .pan v ∧ Cl S3 ∧ Keep [4] T S3))
     (fun S' a' h1 h2 h3 h4 => .inl ⟨rfl, h1, h2, h3, h4⟩) (fun S' a' h1 _ _ _ => by rw [fold21] at h1; split at h1 <;> cases h1) (fun S' v h1 h2 h3 => .inr ⟨v, rfl, h1, h2, h3⟩))
    rw [fold21] at hP3
    rcases hP3 with ⟨rfl, hf, hj3, hc3, hk3⟩ | ⟨v, rfl, hf, hc3, hk3⟩
    ·split at hf
     ·rename_i hall
      have he := fun (L : Vm.Loc) (v : AV) => endC_ok (L := L) (v := v) hj3 rfl rfl
      have k1 := hk3.cells (k := 1) (by simp) t1
      have k3 : S3.get 3 = some (.dfr false) := by rw [hk3.2 3 (St.get_lt t3) (by simp) (fun b => by rw [t3]; simp)]; exact t3
      generalize hS4 : S3.put 4 (.loop { loop21 P with state := .exhausted }) = S4 at he
      have c4 : Cl S4 := by rw [← hS4]; exact Cl.put hc3 _ _
      have m1 : S4.cells? 1 = some [.int .i64 0] := by rw [← hS4, cells?_put_ne _ _ _ (by decide)]; exact k1
      have m3 : S4.get 3 = some (.dfr false) := by rw [← hS4, get_put_ne (by decide)]; exact k3
      clear hS4
      have hlt1 := St.get_lt (cells?_inv m1)
      have m3' : (S4.put 1 (.cells [.int .i64 0])).get 3 = some (.dfr false) := by rw [get_put_ne (by decide)]; exact m3
      have dn := fun it => df_no (l := L13) rfl (n := N + 2) (q := 1) (Cl.put (Cl.put c4 1 (.cells [.int .i64 0])) 3 (.dfr true)) 56 (by simp) it
      have m1' : ((S4.put 1 (.cells [.int .i64 0])).put 3 (.dfr true)).cells? 1 = some [.int .i64 0] := by rw [cells?_put_ne _ _ _ (by decide)]; exact cells?_put_self _ _ _ hlt1
      simp [vmS, hcall, he, c4.1, c4.2, m1, m3', dn, m1']
      refine hp _ _ ?_
      simp only [hall]
      rfl
     ·cases hf
    ·split at hf
     ·cases hf
     ·rename_i hall
      cases hf
      have k1 := hk3.cells (k := 1) (by simp) t1
      have k3 : S3.get 3 = some (.dfr false) := by rw [hk3.2 3 (St.get_lt t3) (by simp) (fun b => by rw [t3]; simp)]; exact t3
      have c4 : Cl (S3.put 3 (.dfr true)) := Cl.put hc3 _ _
      have m1 : (S3.put 3 (.dfr true)).cells? 1 = some [.int .i64 0] := by rw [cells?_put_ne _ _ _ (by decide)]; exact k1
      have hlt1 := St.get_lt (cells?_inv m1)
      have dp := fun it => df_pan (l := L13) rfl rfl (n := N + 2) (q := 1) c4 m1 56 (by simp) it
      have m1' : ((S3.put 3 (.dfr true)).put 1 (.cells [.int .i64 1])).cells? 1 = some [.int .i64 1] := cells?_put_self _ _ _ hlt1
      simp [vmS, hcall, endC_pan, k3, dp, m1']
      refine hp _ _ ?_
      rw [if_neg (fun h => hall h.2)]
      rfl
   | false =>
    refine ⟨by simp [AV.persL, P.pers], rfl, 13, fun p hp => ?_⟩
    rw [callS_go rfl]
    obtain ⟨q1, q2, q3, q4, q5⟩ := lenV_len (P.lenV hfit) (t := 22) (e := 63) rfl
    have fu := fun m S => formed_use (l := L13) rfl hfit (n := m) (S := S)
    simp only [Pr.enc]
    simp only [fnA, ED_fn21, fi21, Tryz.f21]
    simp only [hF] at fu
    have dp := fun a it => df_pan (l := L13) rfl rfl (n := 11) (q := 1) (z := 0) (Cl.push (Cl.push Cl.zero a) (.cells [.int .i64 0])) (cells?_push_eq _ _ rfl) 56 (by simp) it
    simp [vmS, eff_defer, stepE_dfr, fu, q2, q3, q4, stepE_pan, dp]
    exact hp _ _ rfl
  ·cases h
 ·cases h
def ndv (x : Nd) : AV := .agg x.vals
theorem head4 (nds : List Nd) : headSz 4 (nds.map ndv) = true := by
 cases nds <;> rfl
theorem app61 {S : St} {v : AV} {nds : List Nd} {x : Nd} {T : Option Nat} (hl : LiveT S 4 v (nds.map ndv) T) (hlen : nds.length < 1000000) (hcl : Cl S) :
  ∃ v' S', appendA ED S 61 v [ndv x] = some (v', S') ∧ LiveT S' 4 v' ((nds ++ [x]).map ndv) (some S.n) ∧ S'.n = S.n + 1 ∧ (∀ k, k < S.n → T ≠ some k → S'.get k = S.get k) ∧ Cl S' := by
 have hr : ∀ k, k ≤ 1000000 → ∀ i : TI, i.bytes = 32 → roomOk i k = true := fun k hk i hi => by
  simp only [roomOk, roomMost, decide_eq_true_eq, hi]
  omega
 have hc : ([ndv x].flatMap AV.cells).all (·.isCell) = true ∧ [ndv x].all (fun v => v.cells.length = 4) = true ∧ (4 : Nat) ≠ 0 := ⟨rfl, rfl, by decide⟩
 unfold appendA
 simp only [ED_ti61]
 rw [if_pos hc]
 cases T with
 | none =>
  rcases hl with ⟨rfl, he⟩ | rfl
  ·have hn : nds = [] := by simpa using he
   subst hn
   refine ⟨.slice [ndv x] (.tok S.n 4), S.push (.tok false), ?_, ⟨rfl, St.get_push_self _ _⟩, n_push' _ _, fun k hk _ => get_push_lt _ _ hk, Cl.push hcl _⟩
   simp only []
   rw [if_neg (fun h => absurd h.2 (by decide)), if_pos (hr _ (by simp) _ rfl)]
  ·refine ⟨.slice (nds.map ndv ++ [ndv x]) (.tok S.n 4), S.push (.tok false), ?_, ⟨by simp, St.get_push_self _ _⟩, n_push' _ _, fun k hk _ => get_push_lt _ _ hk, Cl.push hcl _⟩
   simp only []
   rw [if_neg (by simp), if_pos ⟨head4 nds, hr _ (by simp; omega) _ rfl⟩]
   rfl
 | some j =>
  obtain ⟨rfl, hj⟩ := hl
  have hlt := St.get_lt hj
  refine ⟨.slice (nds.map ndv ++ [ndv x]) (.tok S.n 4), (S.put j (.tok true)).push (.tok false), ?_, ⟨by simp, ?_⟩, by rw [n_push', n_put'], fun k hk hne => ?_, Cl.push (Cl.put hcl _ _) _⟩
  ·simp only []
   rw [if_neg (by simp), if_pos ⟨head4 nds, hr _ (by simp; omega) _ rfl⟩]
   simp [spend, hj]
  ·exact St.get_push_self (S.put j (.tok true)) (.tok false)
  ·rw [get_push_lt _ _ (by rw [n_put']; exact hk), get_put_ne (fun e => hne (by rw [e]))]
theorem liveT_get {S S' : St} {sz : Nat} {v : AV} {es : List AV} {T : Option Nat} (h : LiveT S sz v es T) (hg : ∀ j, S.get j = some (.tok false) → S'.get j = S.get j) : LiveT S' sz v es T := by
 cases T with
 | none => exact h
 | some j => exact ⟨h.1, (hg j h.2).trans h.2⟩
noncomputable def loop15 (P : Pr) : ALoop := { state := .ready, pend := none, fid := 15, vals := [.agg [P.val, .int .i64 P.main], .ptr 0 0, .nils, .ptr 1 0, .ptr 2 0, .undef, .fn 93 [] [.ptr 3 0], .undef], params := #[10, 11], asg := (rfA Tryz.f15 0).1, body := (rfA Tryz.f15 0).2, dfr := 4 }
def J15 (P : Pr) (nds : List Nd) (S : St) : Prop := S.get 5 = some (.loop (loop15 P)) ∧ ∃ v T, S.cells? 2 = some [v] ∧ LiveT S 4 v (nds.map ndv) T
def step15 (nds : List Nd) (y : Nd × Ex) : YR (List Nd) := .go (nds ++ [y.1])
theorem liveT_cell {S : St} {v : AV} {nds : List Nd} {T : Option Nat} (h : LiveT S 4 v (nds.map ndv) T) : v.isCell = true ∧ v.known = true ∧ v.cells = [v] := by
 rcases h.cases with ⟨rfl, _⟩ | ⟨tk, rfl⟩ <;> exact ⟨rfl, rfl, rfl⟩
theorem yield15 (P : Pr) (n : Nat) : YOk L13 step15 (J15 P) [2, 5] List.length 1000000 5 (n + 1) := by
 intro S nds x e hj hcl he hwt p hp1 _ _
 obtain ⟨hj, v, T, hv, hlive⟩ := hj
 have hlt := St.get_lt hj
 have hC1 : Cl ((S.push (.cells [.int .i64 0, .int .i64 0, .int .i64 0, .int .i64 0])).put S.n (.cells x.vals)) := Cl.put (Cl.push hcl _) _ _
 have hn1 : ((S.push (.cells [.int .i64 0, .int .i64 0, .int .i64 0, .int .i64 0])).put S.n (.cells x.vals)).n = S.n + 1 := by rw [n_put', n_push']
 have hc1 : ((S.push (.cells [.int .i64 0, .int .i64 0, .int .i64 0, .int .i64 0])).put S.n (.cells x.vals)).cells? S.n = some x.vals := cells?_put_push _ _ _
 have hk1 : ∀ k, k < S.n → ((S.push (.cells [.int .i64 0, .int .i64 0, .int .i64 0, .int .i64 0])).put S.n (.cells x.vals)).get k = S.get k := fun k hk => by
  rw [St.get_put_ne _ _ _ (by omega), get_push_lt _ _ hk]
 have hasg : evalC ⟨ED, callS ED (sumG L13) n, iter n, 15, fi15.vars, fi15.fn.ntmps⟩ (loop15 P).asg { vals := [.agg [P.val, .int .i64 P.main], .ptr 0 0, .nils, .ptr 1 0, .ptr 2 0, .undef, .fn 93 [] [.ptr 3 0], .agg x.vals], sc := [(11, e.enc)], defers := [], recs := .no, rnd := some 5 } S =
   some (.normal, { vals := [.agg [P.val, .int .i64 P.main], .ptr 0 0, .nils, .ptr 1 0, .ptr 2 0, .ptr S.n 0, .fn 93 [] [.ptr 3 0], .agg x.vals], sc := [], defers := [], recs := .no, rnd := some 5 }, (S.push (.cells [.int .i64 0, .int .i64 0, .int .i64 0, .int .i64 0])).put S.n (.cells x.vals)) := by
  simp only [loop15, rfA, rangesOf, drA, drawsOf, Option.getD_some, List.nil_append, List.append_nil, List.getD_cons_zero, List.getD_cons_succ, List.cons_append, Tryz.f15, fi15]
  simp [vmS, hcl.1, hcl.2, Nd.vals]
 generalize hS1 : (S.push (.cells [.int .i64 0, .int .i64 0, .int .i64 0, .int .i64 0])).put S.n (.cells x.vals) = S1 at *
 have hg1 : S1.get 5 = some (.loop (loop15 P)) := (hk1 5 hlt).trans hj
 have hC2 : Cl (S1.put 5 (.loop { loop15 P with state := .busy })) := Cl.put hC1 _ _
 have hc2 : (S1.put 5 (.loop { loop15 P with state := .busy })).cells? S.n = some x.vals := by rw [cells?_put_ne _ _ _ (by omega)]; exact hc1
 have hg2 : (S1.put 5 (.loop { loop15 P with state := .busy })).get 5 = some (.loop { loop15 P with state := .busy }) := get_put_self hg1
 have hn2 : (S1.put 5 (.loop { loop15 P with state := .busy })).n = S.n + 1 := by rw [n_put', hn1]
 have hk2 : ∀ k, k < S.n → k ≠ 5 → (S1.put 5 (.loop { loop15 P with state := .busy })).get k = S.get k := fun k hk h5 => by rw [get_put_ne h5]; exact hk1 k hk
 have hv2 : (S1.put 5 (.loop { loop15 P with state := .busy })).cells? 2 = some [v] := by
  rw [cells?_def, hk2 2 (St.get_lt (cells?_inv hv)) (by decide), ← cells?_def]
  exact hv
 have hl2 : LiveT (S1.put 5 (.loop { loop15 P with state := .busy })) 4 v (nds.map ndv) T := liveT_get hlive (fun j hjt => hk2 j (St.get_lt hjt) (fun e => by rw [e, hj] at hjt; cases hjt))
 obtain ⟨v', S2, happ, hlive', hn3, hk3, hC3⟩ := app61 (x := x) hl2 hwt hC2
 obtain ⟨g1, g2, g3⟩ := liveT_cell hlive'
 have hT5 : T ≠ some 5 := fun h => by subst h; have := hl2.2; rw [hg2] at this; cases this
 have hT2 : T ≠ some 2 := fun h => by subst h; exact not_tok hv2 _ hl2.2
 have hg3 : S2.get 5 = some (.loop { loop15 P with state := .busy }) := by rw [hk3 5 (by omega) hT5]; exact hg2
 have hv3 : S2.cells? 2 = some [v] := by rw [cells?_def, hk3 2 (by have := St.get_lt (cells?_inv hv2); omega) hT2, ← cells?_def]; exact hv2
 have hv3lt := St.get_lt (cells?_inv hv3)
 rw [callS_yld]
 have hbody : ∃ L2, L2.defers = [] ∧ evalC ⟨ED, callS ED (sumG L13) n, iter n, 15, fi15.vars, fi15.fn.ntmps⟩ (loop15 P).body { vals := [.agg [P.val, .int .i64 P.main], .ptr 0 0, .nils, .ptr 1 0, .ptr 2 0, .ptr S.n 0, .fn 93 [] [.ptr 3 0], .agg x.vals], sc := [], defers := [], recs := .no, rnd := some 5 } (S1.put 5 (.loop { loop15 P with state := .busy })) =
   some (.normal, L2, S2.put 2 (.cells [v'])) := by
  generalize S1.put 5 (.loop { loop15 P with state := .busy }) = SB at *
  simp only [ndv, Nd.vals] at hc2 happ
  simp only [loop15, rfA, rangesOf, drA, drawsOf, Option.getD_some, List.nil_append, List.append_nil, List.getD_cons_zero, List.getD_cons_succ, List.cons_append, Tryz.f15, fi15]
  have hC4 := Cl.put hC3 2 (.cells [v'])
  simp [vmS, hC2.1, hC2.2, hc2, hv2, happ, hC3.1, hC3.2, hv3, g1, g2, g3, hC4.1, hC4.2]
 obtain ⟨L2, hd, hbody⟩ := hbody
 have hg4 : (S2.put 2 (.cells [v'])).get 5 = some (.loop { loop15 P with state := .busy }) := by rw [get_put_ne (by decide)]; exact hg3
 rw [yld_round (E := ED) (l := 5) (fi := fi15) hj rfl rfl rfl hasg hg1 rfl hbody hd hg4]
 refine hp1 _ (nds ++ [x]) rfl ⟨get_put_self hg4, v', _, by rw [cells?_put_ne _ _ _ (by decide)]; exact cells?_put_self _ _ _ hv3lt, liveT_get hlive' (fun j hjt => ?_)⟩ (Cl.put (Cl.put hC3 _ _) _ _) ⟨by rw [n_put', n_put', hn3, hn2]; omega, fun k hk hz ht => ?_⟩
 ·rw [get_put_ne (fun e => by rw [e, hg3] at hjt; cases hjt), get_put_ne (fun e => by rw [e] at hjt; exact not_tok hv3 _ hjt)]
 ·simp only [List.mem_cons, List.mem_nil_iff, or_false, not_or] at hz
  rw [get_put_ne hz.2, get_put_ne hz.1, hk3 k (by omega) (fun h => by
   subst h
   have h1 := hl2.2
   rw [hk2 k hk hz.2] at h1
   exact ht _ h1), hk2 k hk hz.2]
noncomputable def nodesG : List AV → Option FRes
 | [v] => match prOf v with
  | some p => some (.ret (if formedB p.funs p.main = true then .tup [.slice (((allPre p.funs 0 0).map (·.1)).map ndv) .dead, .int .i64 0] else .tup [.nils, .int .i64 1]))
  | none => none
 | _ => none
theorem fold15 : ∀ (l : List (Nd × Ex)) (nds : List Nd), foldY step15 nds l = .go (nds ++ l.map (·.1))
 | [], nds => by simp [foldY]
 | y :: l, nds => by
  simp only [foldY, step15]
  rw [fold15 l]
  simp
theorem ndv_pers : ∀ nds : List Nd, AV.persL (nds.map ndv) = true
 | [] => rfl
 | x :: nds => by
  have := ndv_pers nds
  simp [AV.persL, AV.pers, ndv, Nd.vals] at this ⊢
  exact this
theorem deadL_pers : ∀ l : List AV, AV.persL l = true → AV.deadL l = l
 | [], _ => rfl
 | a :: l, h => by
  simp only [AV.persL, Bool.and_eq_true] at h
  simp only [AV.deadL]
  rw [dead_of_pers _ h.1, deadL_pers l h.2]
theorem pre_ne {fs : List Fu} (h : fs ≠ []) : allPre fs 0 0 ≠ [] := by
 cases fs with
 | nil => exact absurd rfl h
 | cons f r =>
  simp only [allPre]
  rw [f.body.pre_kids]
  simp
theorem nodes_ok : FOk 15 nodesG := by
 refine fok L13 L13_ok ?_
 intro a r h
 unfold nodesG at h
 split at h
 ·rename_i v
  split at h
  ·rename_i P hP
   obtain ⟨hfit, rfl⟩ := prOf_some hP
   cases h
   cases hF : formedB P.funs P.main with
   | true =>
    have hsz := formedB_size hF
    have hne : P.funs ≠ [] := fun e => by rw [e] at hF; simp [formedB] at hF
    obtain ⟨N, hN⟩ := nodes93 (l := L13) (step := step15) (J := J15 P) (Z := [2, 5]) (i := 5) (wt := List.length) (K := 1000000) rfl rfl (fun a S S' h h1 h2 => by
     obtain ⟨h3, v, T, h4, h5⟩ := h
     refine ⟨(h2 5 (St.get_lt h3) (.inl (by simp))).trans h3, v, T, ?_, liveT_get h5 (fun j hj => h2 j (St.get_lt hj) (.inr ⟨_, hj⟩))⟩
     rw [cells?_def, h2 2 (St.get_lt (cells?_inv h4)) (.inl (by simp)), ← cells?_def]
     exact h4) (fun a S h k hk => by
     obtain ⟨h3, v, T, h4, h5⟩ := h
     simp only [List.mem_cons, List.mem_nil_iff, or_false] at hk
     rcases hk with rfl | rfl
     ·exact St.get_lt (cells?_inv h4)
     ·exact St.get_lt h3) hfit (pb := 3) (by omega) (fun a y a' h => by cases h; simp) (M := 1) (fun n hn => by
     obtain ⟨m, rfl⟩ : ∃ m, n = m + 1 := ⟨n - 1, by omega⟩
     exact yield15 P m)
    refine ⟨by simp [AV.persL, P.pers], by rw [if_pos rfl]; simp only [FRes.pers, AV.pers, AV.persL, ndv_pers]; rfl, N + 4, fun p hp => ?_⟩
    rw [callS_go rfl]
    obtain ⟨q1, q2, q3, q4, q5⟩ := lenV_len (P.lenV hfit) (t := 22) (e := 63) rfl
    have fu := fun m S => formed_use (l := L13) rfl hfit (n := m) (S := S)
    simp only [Pr.enc]
    simp only [fnA, ED_fn15, fi15, Tryz.f15]
    simp only [hF, if_true] at fu
    have nf := fun a b c => nodes_fn (l := L13) rfl (n := N + 2) hfit (Cl.push (Cl.push (Cl.push Cl.zero a) b) c)
    simp [vmS, eff_defer, stepE_dfr, fu, q2, q3, q4, nf, evalC_range, rangeC_fn]
    generalize hT : St.push (St.push _ (AO.dfr false)) _ = T
    have tj : T.get 5 = some (.loop (loop15 P)) := by
     subst hT
     exact St.get_push_self _ _
    have t4 : T.get 4 = some (.dfr false) := by
     subst hT
     exact St.get_push_of _ _ (St.get_push_self _ _)
    have t1 : T.cells? 1 = some [.int .i64 0] := by
     subst hT
     simp [push_at, n_push', n_S0, cellsOf?]
    have t2 : T.cells? 2 = some [.nils] := by
     subst hT
     simp [push_at, n_push', n_S0, cellsOf?]
    have t3 : T.cells? 3 = some [P.val, .int .i64 P.main] := by
     subst hT
     simp [push_at, n_push', n_S0, cellsOf?]
    have tc : Cl T := by
     subst hT
     exact Cl.push (Cl.push (Cl.push (Cl.push (Cl.push (Cl.push Cl.zero _) _) _) _) _) _
    clear hT
    obtain ⟨r3, S3, hcall, hP3⟩ := gotF_iff.1 (hN (N + 3) (by omega) T [] ⟨tj, .nils, none, t2, .inl ⟨rfl, rfl⟩⟩ tc (by simp; omega) t3
     (fun r S3 => r = .ret (.tup []) ∧ J15 P ((allPre P.funs 0 0).map (·.1)) S3 ∧ Cl S3 ∧ Keep [2, 5] T S3)
     (fun S' a' h1 h2 h3 h4 => by rw [fold15] at h1; cases h1; exact ⟨rfl, by simpa using h2, h3, h4⟩) (fun S' a' h1 _ _ _ => by rw [fold15] at h1; cases h1) (fun S' v h1 _ _ => by rw [fold15] at h1; cases h1))
    obtain ⟨rfl, ⟨hj3, v, T3, hv, hlive⟩, hc3, hk3⟩ := hP3
    obtain ⟨g1, g2, g3⟩ := liveT_cell hlive
    have hvs : ∃ tk, v = .slice (((allPre P.funs 0 0).map (·.1)).map ndv) tk := by
     rcases hlive.cases with ⟨_, he⟩ | h
     ·have := pre_ne hne
      simp at he
      exact absurd he this
     ·exact h
    obtain ⟨tk, rfl⟩ := hvs
    have he := fun (L : Vm.Loc) (v : AV) => endC_ok (L := L) (v := v) hj3 rfl rfl
    have k1 := hk3.cells (k := 1) (by simp) t1
    have k4 : S3.get 4 = some (.dfr false) := by rw [hk3.2 4 (St.get_lt t4) (by simp) (fun b => by rw [t4]; simp)]; exact t4
    generalize hS4 : S3.put 5 (.loop { loop15 P with state := .exhausted }) = S4 at he
    have c4 : Cl S4 := by rw [← hS4]; exact Cl.put hc3 _ _
    have m1 : S4.cells? 1 = some [.int .i64 0] := by rw [← hS4, cells?_put_ne _ _ _ (by decide)]; exact k1
    have m2 : S4.cells? 2 = some [.slice (((allPre P.funs 0 0).map (·.1)).map ndv) tk] := by rw [← hS4, cells?_put_ne _ _ _ (by decide)]; exact hv
    have m4 : S4.get 4 = some (.dfr false) := by rw [← hS4, get_put_ne (by decide)]; exact k4
    clear hS4
    generalize hnds : ((allPre P.funs 0 0).map (·.1)).map ndv = nv at *
    have hlt1 := St.get_lt (cells?_inv m1)
    have m4' : (S4.put 1 (.cells [.int .i64 0])).get 4 = some (.dfr false) := by rw [get_put_ne (by decide)]; exact m4
    have dn := fun it => df_no (l := L13) rfl (n := N + 2) (q := 1) (Cl.put (Cl.put c4 1 (.cells [.int .i64 0])) 4 (.dfr true)) 45 (by simp) it
    have m1' : ((S4.put 1 (.cells [.int .i64 0])).put 4 (.dfr true)).cells? 1 = some [.int .i64 0] := by rw [cells?_put_ne _ _ _ (by decide)]; exact cells?_put_self _ _ _ hlt1
    simp [vmS, hcall, he, c4.1, c4.2, m1, m2, m4', dn, m1']
    refine hp _ _ ?_
    have hdl : AV.deadL nv = nv := by rw [← hnds]; exact deadL_pers _ (ndv_pers _)
    simp [FRes.melt, AV.melt, AV.meltE, AV.dead, hdl]
   | false =>
    refine ⟨by simp [AV.persL, P.pers], rfl, 13, fun p hp => ?_⟩
    rw [callS_go rfl]
    obtain ⟨q1, q2, q3, q4, q5⟩ := lenV_len (P.lenV hfit) (t := 22) (e := 63) rfl
    have fu := fun m S => formed_use (l := L13) rfl hfit (n := m) (S := S)
    simp only [Pr.enc]
    simp only [fnA, ED_fn15, fi15, Tryz.f15]
    simp only [hF] at fu
    have dp := fun a b it => df_pan (l := L13) rfl rfl (n := 11) (q := 1) (z := 0) (Cl.push (Cl.push (Cl.push Cl.zero a) (.cells [.int .i64 0])) b) (by simp [push_at, n_push', n_S0, cellsOf?]) 45 (by simp) it
    simp [vmS, eff_defer, stepE_dfr, fu, q2, q3, q4, stepE_pan, dp]
    exact hp _ _ rfl
  ·cases h
 ·cases h
end Go.Vm.L
