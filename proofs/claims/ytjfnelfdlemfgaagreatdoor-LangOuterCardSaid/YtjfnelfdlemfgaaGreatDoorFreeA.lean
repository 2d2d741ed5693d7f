/-
Lists of numbers that are objects, and the variables that a node takes from outside. No conditions.
-/
import Derived.Test.YtjfnelfdlemfgaaGreatDoorSaidD
import Derived.Test.YtjfnelfdlemfgaaGreatDoorSaidB
set_option linter.all false
set_option maxHeartbeats 4000000
namespace Go.Vm.L
open Go Go.Proofs Go.Vm
set_option maxRecDepth 100000
attribute [local simp] inFrame startLoc startVals Loc.clear blockC Loc.putO Loc.put idx evO constV Loc.get Vm.look intA unwindA resultsA resultV actA pureA storeA loadA fillE repElems TI.zeroV fieldOf fieldAddrA fieldA elemsA retE cellsOf? setCells nowhere mapHead headNext
/-- a list of numbers, as it is handed over -/
def ivOf : AV → Option (List Int)
 | .nils => some []
 | .slice es .dead => intsOf es
 | _ => none
def ivV : List Int → AV
 | [] => .nils
 | z :: zs => .slice (ints (z :: zs)) .dead
theorem ivV_of (zs : List Int) : ivOf (ivV zs) = some zs := by
 cases zs with
 | nil => rfl
 | cons z r => exact intsOf_ints (z :: r)
theorem ivV_pers (zs : List Int) : (ivV zs).pers = true := by
 cases zs with
 | nil => rfl
 | cons z r => simp [ivV, AV.pers, ints_pers]
/-! a list that is an object -/
/-- the value, and what is told of it -/
def LV (S : St) (v : AV) (L : List Int) : Prop := (v = .nils ∧ L = []) ∨ ∃ id, v = .rsl id 0 L.length 0 ∧ S.cells? id = some (ints L) ∧ S.get (id + 1) = some (.tok false) ∧ L ≠ []
theorem LV.cell {S : St} {v : AV} {L : List Int} (h : LV S v L) : v.isCell = true ∧ v.known = true ∧ v.cells = [v] := by
 rcases h with ⟨rfl, _⟩ | ⟨id, rfl, _⟩ <;> exact ⟨rfl, rfl, rfl⟩
/-- one more -/
theorem LV.app {S : St} {v : AV} {L : List Int} (h : LV S v L) (hlen : L.length ≤ 1000000) (hcl : Cl S) (x : Int) :
  ∃ v' S', appendA ED S 3 v [.int .i64 x] = some (v', S') ∧ LV S' v' (L ++ [x]) ∧ S.n ≤ S'.n ∧ Cl S' ∧
   (∀ k, k < S.n → (∀ b, S.get k ≠ some (.tok b)) → (∀ zs, S.get k ≠ some (.cells (ints zs))) → S'.get k = S.get k) := by
 rcases h with ⟨rfl, rfl⟩ | ⟨id, rfl, hc, ht, hne⟩
 ·refine ⟨.rsl S.n 0 1 0, (S.push (.cells [.int .i64 x])).push (.tok false), ?_, .inr ⟨S.n, rfl, ?_, ?_, by simp⟩, ?_, Cl.push (Cl.push hcl _) _, fun k hk _ _ => ?_⟩
  ·unfold appendA
   simp only [ED_ti3]
   rw [if_pos ⟨rfl, rfl, by decide⟩]
   try simp only []
   rw [if_pos ⟨rfl, by first | rfl | trivial⟩, if_pos (by simp [roomOk, roomMost])]
   rfl
  ·rw [cells?_push_ne _ _ (by rw [n_push']; omega), cells?_push_self]
   rfl
  ·have := St.get_push_self (S.push (.cells [.int .i64 x])) (.tok false)
   rwa [n_push'] at this
  ·rw [n_push', n_push']; omega
  ·rw [get_push_lt _ _ (by rw [n_push']; omega), get_push_lt _ _ hk]
 ·have hidlt := St.get_lt (cells?_inv hc)
  have htlt := St.get_lt ht
  refine ⟨_, _, app_rsl (x := x) hlen hne hc ht, .inr ⟨S.n, by simp, ?_, ?_, by simp⟩, ?_, ?_, fun k hk h1 h2 => ?_⟩
  ·rw [cells?_push_ne _ _ (by rw [n_push', n_put', n_put']; omega), show S.n = ((S.put id (.cells [])).put (id + 1) (.tok true)).n by rw [n_put', n_put'], cells?_push_self]
  ·have := St.get_push_self ((((S.put id (.cells [])).put (id + 1) (.tok true)).push (.cells (ints (L ++ [x]))))) (.tok false)
   rwa [n_push', n_put', n_put'] at this
  ·rw [n_push', n_push', n_put', n_put']; omega
  ·exact Cl.push (Cl.push (Cl.put (Cl.put hcl _ _) _ _) _) _
  ·rw [get_push_lt _ _ (by rw [n_push', n_put', n_put']; omega), get_push_lt _ _ (by rw [n_put', n_put']; omega), get_put_ne (fun e => h1 false (by rw [e]; exact ht)), get_put_ne (fun e => h2 L (by rw [e]; exact cells?_inv hc))]
theorem index_obj {l : Sm} (hl : ∀ id k z, sumG l 153 [.rsl id 0 k 0, .int .i64 z] = none) {n id : Nat} {zs : List Int} {z : Int} {S : St} (hcl : Cl S) (hc : S.cells? id = some (ints zs)) (hlen : zs.length ≤ 1000000) (hn : zs.length + 2 ≤ n) :
  callS ED (sumG l) (n + 1) (.fn 153) [.rsl id 0 zs.length 0, .int .i64 z] S = some (.ret (.int .i64 (ixOf z zs 0)), S) := by
 have key : GotF (callS ED (sumG l) (n + 1) (.fn 153) [.rsl id 0 zs.length 0, .int .i64 z] S) (fun r S' => r = .ret (.int .i64 (ixOf z zs 0)) ∧ S' = S) := by
  rw [callS_go (hl _ _ _)]
  have hml : (ints zs).length = zs.length := by simp [ints]
  have hat : ∀ j (h : j < zs.length), (ints zs)[j]? = some (.int .i64 zs[j]) := fun j h => by
   unfold ints
   rw [List.getElem?_map, List.getElem?_eq_getElem h]
   rfl
  obtain ⟨h1, h2⟩ := hcl
  simp only [fnA, ED_fn153, fi153, Tryz.f153]
  have ls : lenA ED 35 (.rsl id 0 zs.length 0) = some (.int .i64 zs.length) := rfl
  simp [vmS, ls, h1, h2]
  generalize hc' : iter _ _ _ _ = c
  obtain ⟨e1, L1, S1, rfl, hq⟩ := loop_of hc'
   (fun r L S' => ∃ j : Nat, ∃ x sc, j + r = zs.length ∧ ixOf z (zs.drop j) (j : Nat) = ixOf z zs 0 ∧ L = vloc [.rsl id 0 zs.length 0, .int .i64 z, .int .i64 0, x, .int .i64 zs.length, .int .i64 (j : Nat)] sc ∧ S' = S)
   (fun e L S' => S' = S ∧ ∃ x y sc, (e = .ret ∧ L = vloc [.rsl id 0 zs.length 0, .int .i64 z, .int .i64 (ixOf z zs 0), x, .int .i64 zs.length, y] sc) ∨ (e = .exit 0 ∧ ixOf z zs 0 = -1 ∧ L = vloc [.rsl id 0 zs.length 0, .int .i64 z, .int .i64 0, x, .int .i64 zs.length, y] sc))
   zs.length (by omega)
   ⟨0, _, _, by simp, by simp, rfl, rfl⟩
   (by
    rintro r L S' ⟨j, x, sc, hjk, hs, rfl, rfl⟩ q hq1 hq2
    by_cases hj : j < zs.length
    ·have hw : IntKind.i64.wrap ((j : Int) + 1) = ((j : Int) + 1) := wrap_id (by omega) (by omega)
     have hix : indexAddrA ED 35 (.rsl id 0 zs.length 0) (.int .i64 (j : Nat)) = some (.ptr id j) := by
      have : (0 : Int) ≤ (j : Int) ∧ (j : Int) < ((zs.length : Nat) : Int) := by omega
      simp [indexAddrA, this]
     have hatj := hat j hj
     rw [List.drop_eq_getElem_cons hj] at hs
     simp only [ixOf] at hs
     generalize zs[j] = y at *
     by_cases hz : z = y
     ·rw [if_pos hz.symm] at hs
      simp [vmS, vloc, hj, hw, hix, hc, hatj, hz, h1, h2]
      exact hq2 _ _ _ (by simp) ⟨rfl, _, _, _, .inl ⟨rfl, by rw [← hs, ← hz]; rfl⟩⟩
     ·rw [if_neg (fun e => hz e.symm)] at hs
      simp [vmS, vloc, hj, hw, hix, hc, hatj, hz, h1, h2]
      exact hq1 (r - 1) _ _ (by omega) ⟨j + 1, _, _, by omega, by simpa using hs, rfl, rfl⟩
    ·have hjl : j = zs.length := by omega
     subst hjl
     rw [List.drop_length] at hs
     simp only [ixOf] at hs
     simp [vmS, vloc, h1, h2]
     exact hq2 _ _ _ (by simp) ⟨rfl, _, _, _, .inr ⟨rfl, hs.symm, rfl⟩⟩)
  obtain ⟨rfl, x, y, sc, ⟨rfl, rfl⟩ | ⟨rfl, hm, rfl⟩⟩ := hq
  ·simp [vmS, vloc, h1, h2]
  ·simp [vmS, vloc, h1, h2, hm]
 obtain ⟨r, S', h1, rfl, rfl⟩ := gotF_iff.1 key
 exact h1
theorem contains_obj {l : Sm} (hl : ∀ id k z, sumG l 153 [.rsl id 0 k 0, .int .i64 z] = none) (hl2 : ∀ id k z, sumG l 103 [.rsl id 0 k 0, .int .i64 z] = none) {n id : Nat} {zs : List Int} {z : Int} {S : St} (hcl : Cl S) (hc : S.cells? id = some (ints zs)) (hlen : zs.length ≤ 1000000) (hn : zs.length + 4 ≤ n) :
  callS ED (sumG l) n (.fn 103) [.rsl id 0 zs.length 0, .int .i64 z] S = some (.ret (.bool (zs.contains z)), S) := by
 obtain ⟨m, rfl⟩ : ∃ m, n = m + 2 := ⟨n - 2, by omega⟩
 have hi := index_obj (z := z) hl hcl hc hlen (n := m) (by omega)
 obtain ⟨h1, h2⟩ := hcl
 rw [callS_go (hl2 _ _ _)]
 simp only [fnA, ED_fn103, fi103, Tryz.f103]
 simp [vmS, hi, h1, h2, ixOf_has]
def containsN : List AV → Option FRes
 | [.nils, .int .i64 _] => some (.ret (.bool false))
 | _ => none
theorem containsN_ok : FOk 103 containsN := by
 refine fok [] (by simp) ?_
 intro a r h
 unfold containsN at h
 split at h
 ·rename_i z
  cases h
  refine ⟨rfl, rfl, 4, fun p hp => ?_⟩
  have hi : callS ED (sumG []) 3 (.fn 153) [.nils, .int .i64 z] S0 = some (.ret (.int .i64 (-1)), S0) := by
   have key : GotF (callS ED (sumG []) 3 (.fn 153) [.nils, .int .i64 z] S0) (fun r S' => r = .ret (.int .i64 (-1)) ∧ S' = S0) := by
    rw [callS_go rfl]
    simp only [fnA, ED_fn153, fi153, Tryz.f153]
    have ls : lenA ED 35 .nils = some (.int .i64 0) := rfl
    simp [vmS, ls]
    generalize hc' : iter _ _ _ _ = c
    obtain ⟨e1, L1, S1, rfl, hq⟩ := loop_of hc'
     (fun r L S' => ∃ x sc, L = vloc [.nils, .int .i64 z, .int .i64 0, x, .int .i64 0, .int .i64 0] sc ∧ S' = S0)
     (fun e L S' => S' = S0 ∧ e = .exit 0 ∧ ∃ x sc, L = vloc [.nils, .int .i64 z, .int .i64 0, x, .int .i64 0, .int .i64 0] sc)
     0 (by omega)
     ⟨_, _, rfl, rfl⟩
     (by
      rintro r L S' ⟨x, sc, rfl, rfl⟩ q hq1 hq2
      simp [vmS, vloc]
      exact hq2 _ _ _ (by simp) ⟨rfl, rfl, _, _, rfl⟩)
    obtain ⟨rfl, rfl, x, sc, rfl⟩ := hq
    simp [vmS, vloc]
   obtain ⟨r, S', h1, rfl, rfl⟩ := gotF_iff.1 key
   exact h1
  rw [callS_go rfl]
  simp only [fnA, ED_fn103, fi103, Tryz.f103]
  simp [vmS, hi]
  exact hp _ _ rfl
 ·cases h
def contains2G (a : List AV) : Option FRes := match containsN a with
 | some r => some r
 | none => containsG a
theorem or_ok {f : FuncId} {g1 g2 : List AV → Option FRes} (h1 : FOk f g1) (h2 : FOk f g2) : FOk f (fun a => match g1 a with
  | some r => some r
  | none => g2 a) := fun a r h => by
 cases hg : g1 a with
 | some r' => simp only [hg] at h; cases h; exact h1 a _ hg
 | none => simp only [hg] at h; exact h2 a r h
theorem contains2_ok : FOk 103 contains2G := or_ok containsN_ok contains_ok
theorem contains2_use {l : Sm} (h : sumG l 103 = contains2G) {n : Nat} {v : AV} {zs : List Int} {z : Int} {S : St} (hv : ivOf v.dead = some zs) (hl : zs.length ≤ 1000000) :
  callS ED (sumG l) n (.fn 103) [v, .int .i64 z] S = some (.ret (.bool (zs.contains z)), S) := by
 refine callS_sum ?_
 rw [h, List.map_cons, List.map_cons, List.map_nil]
 unfold ivOf at hv
 split at hv
 ·rename_i hd
  cases hv
  rw [hd]
  rfl
 ·rename_i es hd
  rw [hd]
  simp only [contains2G, containsN, AV.dead, containsG, hv, hl, if_true]
 ·cases hv
def boundN : List AV → Option FRes
 | [.agg [.int .i64 _, .fn _ [] [], .int .i64 b1, .int .i64 b2], .nils, .agg [.int .i64 _, .int .i64 n, .int .i64 m, x], .int .i64 p'] => if 0 ≤ p' ∧ x.pers = true ∧ x.isCell = true then some (.ret (.slice (ints (boundL b1 b2 p' [] n m)) .dead)) else none
 | _ => none
theorem boundN_ok : FOk 104 boundN := by
 refine fok [] (by simp) ?_
 intro a r h
 unfold boundN at h
 split at h
 ·rename_i p0 f b1 b2 op n m x p'
  split at h
  ·rename_i hc
   cases h
   obtain ⟨hp0, hxp, hxc⟩ := hc
   refine ⟨by simp [AV.persL, AV.pers, hxp], by simp [FRes.pers, AV.pers, ints_pers], 2, fun p hp => ?_⟩
   rw [callS_go rfl]
   have hil : ([] : List AV).length = 0 := by simp [ints]
   simp only [fnA, ED_fn104, fi104, Tryz.f104]
   have hw : IntKind.i64.wrap 2 = 2 := wrap_id (by omega) (by omega)
   have hr : (2 : Int) * 9 ≤ ((roomMost : Nat) : Int) := by unfold roomMost; omega
   have hr' : (18 : Int) ≤ ((roomMost : Nat) : Int) := by unfold roomMost; omega
   have hrep : repeatL 2 [AV.int .i64 0] = ints [0, 0] := rfl
   generalize hT : ((S0.push (AO.cells [AV.int IntKind.i64 p0, AV.fn f [] [], AV.int IntKind.i64 b1, AV.int IntKind.i64 b2])).push (AO.cells [AV.int IntKind.i64 op, AV.int IntKind.i64 n, AV.int IntKind.i64 m, x])) = T
   have hTn : T.n = 2 := by subst hT; rfl
   have hTb : T.bad = false := by subst hT; rfl
   have hTw : T.wb = 0 := by subst hT; rfl
   have hT0 : T.cells? 0 = some [AV.int IntKind.i64 p0, AV.fn f [] [], AV.int IntKind.i64 b1, AV.int IntKind.i64 b2] := by subst hT; simp [push_at, n_push', n_S0, cellsOf?]
   have hT1 : T.cells? 1 = some [AV.int IntKind.i64 op, AV.int IntKind.i64 n, AV.int IntKind.i64 m, x] := by subst hT; simp [push_at, n_push', n_S0, cellsOf?]
   have c1 : copyA ED (T.push (.cells (ints [0, 0]))) 3 (.rsl 2 0 0 2) [] = some ((T.push (.cells (ints [0, 0]))).put 2 (.cells (ints [0, 0]))) := copy_ints (S := T.push (.cells (ints [0, 0]))) (id := 2) (cap := 2) (zs := []) (ws := []) (us := [0, 0]) (cells?_push_eq _ _ hTn.symm) (by simp)
   generalize hS2 : ((T.push (.cells (ints [0, 0]))).put 2 (.cells (ints [0, 0]))) = S2 at c1
   have h2c : S2.cells? 2 = some (ints [0, 0]) := by subst hS2; exact cells?_put_eq _ _ rfl (by rw [n_push', hTn]; omega)
   have h2n : S2.n = 3 := by subst hS2; simp [n_push', n_put', hTn]
   have h2b : S2.bad = false := by subst hS2; simp [bad_push, bad_put, wb_push, hTb, hTw]
   have h2w : S2.wb = 0 := by subst hS2; simp [wb_put, wb_push, hTw]
   have h20 : S2.cells? 0 = some [AV.int IntKind.i64 p0, AV.fn f [] [], AV.int IntKind.i64 b1, AV.int IntKind.i64 b2] := by subst hS2; simp [push_at, put_at, n_push', n_put', hTn, hT0]
   have h21 : S2.cells? 1 = some [AV.int IntKind.i64 op, AV.int IntKind.i64 n, AV.int IntKind.i64 m, x] := by subst hS2; simp [push_at, put_at, n_push', n_put', hTn, hT1]
   have a1 : appendA ED S2 3 (.rsl 2 0 0 2) [.int .i64 n] = some (.rsl 2 0 1 2, S2.put 2 (.cells (ints [n, 0]))) := app_ints (S := S2) (id := 2) (cap := 2) (k := 0) (xs := []) (w := 0) (x := n) (us := [0]) h2c rfl (by omega)
   have a2 : appendA ED S2 3 (.rsl 2 0 0 2) [.int .i64 m] = some (.rsl 2 0 1 2, S2.put 2 (.cells (ints [m, 0]))) := app_ints (S := S2) (id := 2) (cap := 2) (k := 0) (xs := []) (w := 0) (x := m) (us := [0]) h2c rfl (by omega)
   have h3c : (S2.put 2 (.cells (ints [n, 0]))).cells? 2 = some (ints ([n] ++ 0 :: [])) := by rw [cells?_put_eq _ _ rfl (by omega)]; simp
   have a3 : appendA ED (S2.put 2 (.cells (ints [n, 0]))) 3 (.rsl 2 0 1 2) [.int .i64 m] = some (.rsl 2 0 2 2, (S2.put 2 (.cells (ints [n, 0]))).put 2 (.cells (ints [n, m]))) := app_ints (S := S2.put 2 (.cells (ints [n, 0]))) (id := 2) (cap := 2) (k := 1) (xs := [n]) (w := 0) (x := m) (us := []) h3c (by simp) (by omega)
   have sb1 : shiftA .shr .i64 b1 p' = _ := shift_bit hp0
   have sb2 : shiftA .shr .i64 b2 p' = _ := shift_bit hp0
   have hd : ∀ ws : List Int, AV.deadL (ints ws) = ints ws := ints_dead
   have h3c' : ∀ y, (S2.put 2 (.cells (ints [y, 0]))).cells? 2 = some (ints [y, 0]) := fun y => cells?_put_eq _ _ rfl (by omega)
   by_cases d1 : bitI b1 p' = 1
   ·by_cases d2 : bitI b2 p' = 1
    ·have e1 : bitB b1 p' = true := by simp [bitB, d1]
     have e2 : bitB b2 p' = true := by simp [bitB, d2]
     unfold bitI at d1 d2
     simp [vmS, hil, bin_shr, eff_copy2, ↓and_one, sb1, sb2, lenA, hw, hr, hr', hrep, hT, hTn, hTb, hTw, hT0, hT1, c1, h2c, h2n, h2b, h2w, h20, h21, a1, a2, a3, d1, d2]
     refine hp _ _ ((melt_ints (cells?_put_eq _ _ rfl (by rw [n_put', h2n]; omega)) (by simp) (by omega)).trans ?_)
     simp [boundL, e1, e2, List.take_length_add_append]
    ·have e1 : bitB b1 p' = true := by simp [bitB, d1]
     have e2 : bitB b2 p' = false := by simp [bitB, d2]
     unfold bitI at d1 d2
     simp [vmS, hil, bin_shr, eff_copy2, ↓and_one, sb1, sb2, lenA, hw, hr, hr', hrep, hT, hTn, hTb, hTw, hT0, hT1, c1, h2c, h2n, h2b, h2w, h20, h21, a1, a2, a3, d1, d2]
     refine hp _ _ ((melt_ints (h3c' n) (by simp) (by omega)).trans ?_)
     simp [boundL, e1, e2, List.take_length_add_append]
   ·by_cases d2 : bitI b2 p' = 1
    ·have e1 : bitB b1 p' = false := by simp [bitB, d1]
     have e2 : bitB b2 p' = true := by simp [bitB, d2]
     unfold bitI at d1 d2
     simp [vmS, hil, bin_shr, eff_copy2, ↓and_one, sb1, sb2, lenA, hw, hr, hr', hrep, hT, hTn, hTb, hTw, hT0, hT1, c1, h2c, h2n, h2b, h2w, h20, h21, a1, a2, a3, d1, d2]
     refine hp _ _ ((melt_ints (h3c' m) (by simp) (by omega)).trans ?_)
     simp [boundL, e1, e2, List.take_length_add_append]
    ·have e1 : bitB b1 p' = false := by simp [bitB, d1]
     have e2 : bitB b2 p' = false := by simp [bitB, d2]
     unfold bitI at d1 d2
     simp [vmS, hil, bin_shr, eff_copy2, ↓and_one, sb1, sb2, lenA, hw, hr, hr', hrep, hT, hTn, hTb, hTw, hT0, hT1, c1, h2c, h2n, h2b, h2w, h20, h21, a1, a2, a3, d1, d2]
     refine hp _ _ ((melt_ints (h2c) (by simp) (by omega)).trans ?_)
     simp [boundL, e1, e2, List.take_length_add_append]
  ·cases h
 ·cases h
theorem bnd_any {b1 b2 p n m b : Int} {zs : List Int} (h : boundL b1 b2 p zs n m = withL zs b) (ws : List Int) : boundL b1 b2 p ws n m = withL ws b := by
 unfold boundL withL at *
 rw [List.append_assoc] at h ⊢
 generalize (if bitB b1 p = true then [n] else []) ++ (if bitB b2 p = true then [m] else []) = A at *
 by_cases hb : b = -1
 ·rw [if_pos hb] at h ⊢
  have h2 : zs ++ A = zs ++ [] := by rw [h, List.append_nil]
  rw [List.append_cancel_left h2, List.append_nil]
 ·rw [if_neg hb] at h ⊢
  rw [List.append_cancel_left h]
/-- what is asked of a node -/
def fvHead (o n m : Int) (len : Nat) : Prop := (0 ≤ o ∧ o ≤ 26) ∧ (o = 0 → isVarB n = true) ∧ ∃ x, formT[o.toNat]? = some x ∧ ∀ (p : Nat) (zs : List Int), p < len → boundL x.2.2.1 x.2.2.2 (p : Nat) zs n m = withL zs (binderI o n m (p : Nat))
mutual
def Ex.fvOk : Ex → Prop
 | .leaf o n m _ => fvHead o n m 0
 | .node o n m x l => fvHead o n m (l.length + 1) ∧ x.fvOk ∧ Ex.fvOks l
def Ex.fvOks : List Ex → Prop
 | [] => True
 | x :: l => x.fvOk ∧ Ex.fvOks l
end
theorem Ex.fvOk_kids (e : Ex) : e.fvOk ↔ fvHead e.op e.num e.mun e.kids.length ∧ Ex.fvOks e.kids := by
 cases e with
 | leaf o n m z => simp [Ex.fvOk, Ex.kids, Ex.fvOks, Ex.op, Ex.num, Ex.mun]
 | node o n m x l => simp [Ex.fvOk, Ex.kids, Ex.fvOks, Ex.op, Ex.num, Ex.mun]
theorem Ex.fvOks_mem : ∀ {l : List Ex} {x : Ex}, Ex.fvOks l → x ∈ l → x.fvOk
 | a :: l, x, h, hx => by
  rcases List.mem_cons.1 hx with rfl | hx
  ·exact h.1
  ·exact Ex.fvOks_mem h.2 hx
theorem fv_head {k : Nat} {o n m : Int} {len : Nat} {zs : List Int} {d : Nat} (hz : zs.all isVarB = true) (h : headB k o n m len zs d = true) :
  fvHead o n m len ∧ d ≠ 0 ∧ ∀ p : Nat, p < len → (withL zs (binderI o n m (p : Nat))).all isVarB = true := by
 have hd : d ≠ 0 := fun e => by
  subst e
  rw [head_zero] at h
  cases h
 have ho : 0 ≤ o ∧ o ≤ 26 := Classical.byContradiction fun q => by
  rw [head_out q] at h
  cases h
 rw [head_deep hd] at h
 obtain ⟨oN, rfl⟩ : ∃ oN : Nat, o = oN := ⟨o.toNat, by omega⟩
 obtain ⟨x, hx, hs1, hs2⟩ := same_all (k := k) (o := oN) (by omega) (n := n) (m := m) (len := len) hz
 have hg := hs2 h
 refine ⟨⟨ho, fun h0 => ?_, x, by rw [Int.toNat_natCast]; exact hx, fun p ws hp => bnd_any (hg p hp).1 ws⟩, hd, fun p hp => (hg p hp).2⟩
 have h3 := (hs1.1 h).2.2.1.resolve_left (fun q => q h0)
 have := List.contains_iff_mem.1 h3
 exact List.all_eq_true.1 hz _ this
mutual
theorem Ex.fvOk_shp (k : Nat) : ∀ (e : Ex) (d : Nat) (zs : List Int), zs.all isVarB = true → e.shp k zs d = true → e.fvOk ∧ e.deep ≤ d
 | .leaf o n m _, d, zs, hz, h => by
  simp only [Ex.shp] at h
  obtain ⟨h1, h2, _⟩ := fv_head hz h
  refine ⟨h1, ?_⟩
  simp only [Ex.deep]
  omega
 | .node o n m x l, d, zs, hz, h => by
  simp only [Ex.shp, Bool.and_eq_true] at h
  obtain ⟨h1, h2, h3⟩ := fv_head hz h.1
  obtain ⟨a1, a2⟩ := Ex.fvOk_shp k x (d - 1) _ (h3 0 (by omega)) h.2.1
  obtain ⟨b1, b2⟩ := Ex.fvOks_shps k l (d - 1) zs o n m 1 (fun p _ hp => h3 p (by omega)) h.2.2
  refine ⟨⟨h1, a1, b1⟩, ?_⟩
  simp only [Ex.deep]
  omega
theorem Ex.fvOks_shps (k : Nat) : ∀ (l : List Ex) (d : Nat) (zs : List Int) (o n m : Int) (i : Nat), (∀ p : Nat, i ≤ p → p < i + l.length → (withL zs (binderI o n m (p : Nat))).all isVarB = true) → Ex.shps k o n m l i zs d = true → Ex.fvOks l ∧ Ex.deeps l ≤ d
 | [], d, zs, o, n, m, i, _, _ => ⟨trivial, by simp [Ex.deeps]⟩
 | x :: l, d, zs, o, n, m, i, hz, h => by
  simp only [Ex.shps, Bool.and_eq_true] at h
  obtain ⟨a1, a2⟩ := Ex.fvOk_shp k x d _ (hz i (Nat.le_refl _) (by simp)) h.1
  obtain ⟨b1, b2⟩ := Ex.fvOks_shps k l d zs o n m (i + 1) (fun p h1 h2 => hz p (by omega) (by simp; omega)) h.2
  refine ⟨⟨a1, b1⟩, ?_⟩
  simp only [Ex.deeps]
  omega
end
/-! where a variable from outside stands -/
mutual
def Ex.occ : Ex → List Int → List Int
 | .leaf o n _ _, zs => if o = 0 ∧ zs.contains n = false then [n] else []
 | .node o n m x l, zs => (if o = 0 ∧ zs.contains n = false then [n] else []) ++ (x.occ (withL zs (binderI o n m (0 : Nat))) ++ Ex.occs o n m l 1 zs)
def Ex.occs (o n m : Int) : List Ex → Nat → List Int → List Int
 | [], _, _ => []
 | x :: l, i, zs => x.occ (withL zs (binderI o n m (i : Nat))) ++ Ex.occs o n m l (i + 1) zs
end
theorem Ex.occ_kids (v : Ex) (zs : List Int) : v.occ zs = (if v.op = 0 ∧ zs.contains v.num = false then [v.num] else []) ++ Ex.occs v.op v.num v.mun v.kids 0 zs := by
 cases v with
 | leaf o n m e =>
  simp only [Ex.occ, Ex.kids, Ex.occs, Ex.op, Ex.num, Ex.mun, List.append_nil]
  rfl
 | node o n m x l =>
  simp only [Ex.occ, Ex.kids, Ex.occs, Ex.op, Ex.num, Ex.mun]
  rfl
mutual
theorem Ex.occ_len : ∀ (v : Ex) (zs : List Int), (v.occ zs).length ≤ v.size
 | .leaf o n m e, zs => by
  simp only [Ex.occ, Ex.size]
  split <;> simp
 | .node o n m x l, zs => by
  simp only [Ex.occ, Ex.size, List.length_append]
  have h1 := Ex.occ_len x (withL zs (binderI o n m (0 : Nat)))
  have h2 := Ex.occs_len o n m l 1 zs
  split <;> simp only [List.length_cons, List.length_nil] <;> omega
theorem Ex.occs_len (o n m : Int) : ∀ (l : List Ex) (i : Nat) (zs : List Int), (Ex.occs o n m l i zs).length ≤ Ex.sizes l
 | [], _, _ => by simp [Ex.occs]
 | x :: l, i, zs => by
  simp only [Ex.occs, Ex.sizes, List.length_append]
  have h1 := Ex.occ_len x (withL zs (binderI o n m (i : Nat)))
  have h2 := Ex.occs_len o n m l (i + 1) zs
  omega
end
def addF (L : List Int) (z : Int) : List Int := if L.contains z then L else L ++ [z]
def addsF (L l : List Int) : List Int := l.foldl addF L
theorem addsF_app (L l m : List Int) : addsF L (l ++ m) = addsF (addsF L l) m := List.foldl_append ..
theorem addsF_len : ∀ (l L : List Int), (addsF L l).length ≤ L.length + l.length
 | [], L => by simp [addsF]
 | z :: l, L => by
  have h := addsF_len l (addF L z)
  have : (addF L z).length ≤ L.length + 1 := by
   unfold addF
   split <;> simp
  have e : addsF L (z :: l) = addsF (addF L z) l := rfl
  rw [e, List.length_cons]
  omega
/-! what is put in, rising -/
def insF : List Int → Int → List Int
 | [], z => [z]
 | a :: l, z => if z < a then z :: a :: l else if z = a then a :: l else a :: insF l z
def insFs (L l : List Int) : List Int := l.foldl insF L
theorem insFs_app (L l m : List Int) : insFs L (l ++ m) = insFs (insFs L l) m := List.foldl_append ..
def Up : List Int → Prop := List.Pairwise (· < ·)
theorem ins_mem : ∀ (l : List Int) (z x : Int), x ∈ insF l z ↔ x = z ∨ x ∈ l
 | [], z, x => by simp [insF]
 | a :: l, z, x => by
  unfold insF
  split
  ·simp
  ·split
   ·rename_i h
    subst h
    simp
   ·simp only [List.mem_cons, ins_mem l z x]
    constructor
    ·rintro (h | h | h)
     ·exact .inr (.inl h)
     ·exact .inl h
     ·exact .inr (.inr h)
    ·rintro (h | h | h)
     ·exact .inr (.inl h)
     ·exact .inl h
     ·exact .inr (.inr h)
theorem ins_up : ∀ {l : List Int} {z : Int}, Up l → Up (insF l z)
 | [], z, _ => List.pairwise_singleton _ _
 | a :: l, z, h => by
  have h' := List.pairwise_cons.1 h
  unfold insF
  split
  ·rename_i hz
   refine List.pairwise_cons.2 ⟨fun x hx => ?_, h⟩
   rcases List.mem_cons.1 hx with rfl | hx
   ·exact hz
   ·have := h'.1 x hx
    omega
  ·split
   ·exact h
   ·refine List.pairwise_cons.2 ⟨fun x hx => ?_, ins_up h'.2⟩
    rcases (ins_mem l z x).1 hx with rfl | hx
    ·omega
    ·exact h'.1 x hx
theorem insFs_mem : ∀ (l L : List Int) (x : Int), x ∈ insFs L l ↔ x ∈ L ∨ x ∈ l
 | [], L, x => by simp [insFs]
 | z :: l, L, x => by
  have e : insFs L (z :: l) = insFs (insF L z) l := rfl
  rw [e, insFs_mem l, ins_mem, List.mem_cons]
  constructor
  ·rintro ((h | h) | h)
   ·exact .inr (.inl h)
   ·exact .inl h
   ·exact .inr (.inr h)
  ·rintro (h | h | h)
   ·exact .inl (.inr h)
   ·exact .inl (.inl h)
   ·exact .inr h
theorem insFs_up : ∀ (l : List Int) {L : List Int}, Up L → Up (insFs L l)
 | [], L, h => h
 | z :: l, L, h => insFs_up l (ins_up h)
theorem addF_mem (L : List Int) (z x : Int) : x ∈ addF L z ↔ x ∈ L ∨ x = z := by
 unfold addF
 split
 ·rename_i h
  have := List.contains_iff_mem.1 h
  constructor
  ·exact .inl
  ·rintro (h | rfl)
   ·exact h
   ·exact this
 ·simp
theorem addsF_mem : ∀ (l L : List Int) (x : Int), x ∈ addsF L l ↔ x ∈ L ∨ x ∈ l
 | [], L, x => by simp [addsF]
 | z :: l, L, x => by
  have e : addsF L (z :: l) = addsF (addF L z) l := rfl
  rw [e, addsF_mem l, addF_mem, List.mem_cons, or_assoc]
theorem addF_nodup {L : List Int} {z : Int} (h : L.Nodup) : (addF L z).Nodup := by
 unfold addF
 split
 ·exact h
 ·rename_i hz
  have hz' : z ∉ L := fun q => hz (List.contains_iff_mem.2 q)
  rw [List.nodup_append]
  refine ⟨h, by simp, fun a ha b hb => ?_⟩
  simp only [List.mem_singleton] at hb
  subst hb
  exact fun e => hz' (e ▸ ha)
theorem addsF_nodup : ∀ (l : List Int) {L : List Int}, L.Nodup → (addsF L l).Nodup
 | [], L, h => h
 | z :: l, L, h => addsF_nodup l (addF_nodup h)
theorem up_eq : ∀ {l m : List Int}, Up l → Up m → (∀ x, x ∈ l ↔ x ∈ m) → l = m
 | [], [], _, _, _ => rfl
 | [], b :: m, _, _, h => absurd ((h b).2 (by simp)) (by simp)
 | a :: l, [], _, _, h => absurd ((h a).1 (by simp)) (by simp)
 | a :: l, b :: m, h1, h2, h => by
  obtain ⟨p1, p2⟩ := List.pairwise_cons.1 h1
  obtain ⟨q1, q2⟩ := List.pairwise_cons.1 h2
  have hab : a = b := by
   rcases List.mem_cons.1 ((h a).1 (by simp)) with e | e
   ·exact e
   ·rcases List.mem_cons.1 ((h b).2 (by simp)) with e' | e'
    ·exact e'.symm
    ·have := q1 a e
     have := p1 b e'
     omega
  subst hab
  congr 1
  refine up_eq p2 q2 fun x => ⟨fun hx => ?_, fun hx => ?_⟩
  ·rcases List.mem_cons.1 ((h x).1 (by simp [hx])) with e | e
   ·have := p1 x hx
    omega
   ·exact e
  ·rcases List.mem_cons.1 ((h x).2 (by simp [hx])) with e | e
   ·have := q1 x hx
    omega
   ·exact e
theorem sort_up {L : List Int} (h : L.Nodup) : Up (L.mergeSort fun x y => decide (x ≤ y)) := by
 have hs : (L.mergeSort fun x y => decide (x ≤ y)).Pairwise (fun x y => decide (x ≤ y) = true) := List.pairwise_mergeSort (fun a b c h1 h2 => by simp only [decide_eq_true_eq] at *; omega) (fun a b => by simp only [Bool.or_eq_true, decide_eq_true_eq]; omega) L
 have hn : (L.mergeSort fun x y => decide (x ≤ y)).Nodup := (List.mergeSort_perm L _).nodup_iff.2 h
 refine List.Pairwise.imp₂ (fun a b h1 h2 => ?_) hs hn
 simp only [decide_eq_true_eq] at h1
 omega
/-- what is found, sorted, is what is put in, rising -/
theorem sort_ins (l : List Int) : (addsF [] l).mergeSort (fun x y => decide (x ≤ y)) = insFs [] l :=
 up_eq (sort_up (addsF_nodup l List.nodup_nil)) (insFs_up l List.Pairwise.nil) fun x => by
  rw [List.mem_mergeSort, addsF_mem, insFs_mem]
end Go.Vm.L
