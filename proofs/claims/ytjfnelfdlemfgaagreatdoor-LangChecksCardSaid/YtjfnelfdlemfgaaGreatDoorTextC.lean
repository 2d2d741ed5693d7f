/-
The program's texts of parts. No conditions.
-/
import Derived.Test.YtjfnelfdlemfgaaGreatDoorTextB
import Derived.Test.YtjfnelfdlemfgaaGreatDoorSaidD
set_option linter.all false
set_option maxHeartbeats 4000000
namespace Go.Vm.L
open Go Go.Proofs Go.Vm
set_option maxRecDepth 100000
attribute [local simp] inFrame startLoc startVals Loc.clear blockC Loc.putO Loc.put idx evO constV Loc.get Vm.look intA unwindA resultsA resultV actA pureA storeA loadA fillE repElems TI.zeroV fieldOf fieldAddrA fieldA elemsA retE cellsOf? setCells nowhere mapHead headNext
theorem eff_invoke {E : Env} {call : CallF} {ρ : Operand → AV} {S : St} {r : Operand} {nm : String} {args : Array Operand} {ts : Array TypeId} : effA E call ρ (.call { callee := .invoke r nm, args := args, argTypes := ts }) S = actA E call ρ S (.call { callee := .invoke r nm, args := args, argTypes := ts }) := rfl
/-- the level of an operation, as the program has it -/
def lev7 (n : Int) : Int := if opLev n = 0 then 7 else opLev n
theorem glob_lev : ∃ GL, ED.glob 0 = some GL ∧ ∀ n, isOpB n = true → ∃ r, indexAddrA ED 122 (.rptr GL) (.int .i64 n) = some (.rptr (.int .i64 (lev7 n) :: r)) := by
 refine ⟨_, rfl, fun n h => ?_⟩
 unfold isOpB at h
 simp only [decide_eq_true_eq] at h
 have h12 : n = 0 ∨ n = 1 ∨ n = 2 ∨ n = 3 ∨ n = 4 ∨ n = 5 ∨ n = 6 ∨ n = 7 ∨ n = 8 ∨ n = 9 ∨ n = 10 ∨ n = 11 := by omega
 rcases h12 with rfl | rfl | rfl | rfl | rfl | rfl | rfl | rfl | rfl | rfl | rfl | rfl <;> exact ⟨_, rfl⟩
theorem glob_words : ∃ GW, ED.glob 7 = some GW ∧ ∀ n, isOpB n = true → ∃ r, indexAddrA ED 305 (.rptr GW) (.int .i64 n) = some (.rptr (.str (signT n) :: r)) := by
 refine ⟨_, rfl, fun n h => ?_⟩
 unfold isOpB at h
 simp only [decide_eq_true_eq] at h
 have h12 : n = 0 ∨ n = 1 ∨ n = 2 ∨ n = 3 ∨ n = 4 ∨ n = 5 ∨ n = 6 ∨ n = 7 ∨ n = 8 ∨ n = 9 ∨ n = 10 ∨ n = 11 := by omega
 rcases h12 with rfl | rfl | rfl | rfl | rfl | rfl | rfl | rfl | rfl | rfl | rfl | rfl <;> exact ⟨_, rfl⟩
def okA (pv A : AV) : Prop := (pv.pers = true ∧ pv.isCell = true) ∧ A.pers = true ∧ A.isCell = true
instance (pv A : AV) : Decidable (okA pv A) := by unfold okA; infer_instance
/-- is it written with an operation between its parts? -/
def infB (o n : Int) : Bool := decide (o = 15) && !decide (opLev n = 0)
def ofG : List AV → Option FRes
 | [.agg [pv, .int .i64 main], .agg [.int .i64 o, .int .i64 n, .int .i64 m, A]] => if okA pv A ∧ (o = 15 → isOpB n = true) then some (.ret (.iface (if infB o n = true then 126 else 124) (.agg [pv, .int .i64 main, .int .i64 o, .int .i64 n, .int .i64 m, A]))) else none
 | _ => none
theorem of_ok : FOk 51 ofG := by
 refine fok [] (by simp) ?_
 intro a r h
 unfold ofG at h
 split at h
 ·rename_i pv main o n m A
  split at h
  ·rename_i hc
   obtain ⟨⟨⟨p1, p2⟩, p3, p4⟩, hn⟩ := hc
   cases h
   refine ⟨by simp [AV.persL, AV.pers, p1, p3], by simp [FRes.pers, AV.pers, AV.persL, p1, p3], 2, fun p hp => ?_⟩
   rw [callS_go rfl]
   obtain ⟨GL, g0, gl⟩ := glob_lev
   have hb1 : buildA ED 124 [(0, .agg [pv, .int .i64 main]), (1, .agg [.int .i64 o, .int .i64 n, .int .i64 m, A])] = some (.agg [pv, .int .i64 main, .int .i64 o, .int .i64 n, .int .i64 m, A]) := rfl
   have hb2 : buildA ED 126 [(0, .agg [pv, .int .i64 main, .int .i64 o, .int .i64 n, .int .i64 m, A])] = some (.agg [pv, .int .i64 main, .int .i64 o, .int .i64 n, .int .i64 m, A]) := rfl
   have hd : (AV.agg [pv, .int .i64 main, .int .i64 o, .int .i64 n, .int .i64 m, A]).dead = .agg [pv, .int .i64 main, .int .i64 o, .int .i64 n, .int .i64 m, A] := dead_of_pers _ (by simp [AV.pers, AV.persL, p1, p3])
   simp only [fnA, ED_fn51, fi51, Tryz.f51]
   by_cases ho : o = 15
   ·subst ho
    obtain ⟨r, hr⟩ := gl n (hn rfl)
    by_cases hl : opLev n = 0
    ·have h7 : lev7 n = 7 := by unfold lev7; rw [if_pos hl]
     rw [h7] at hr
     simp [vmS, g0, hr, hb1, hb2, p2, p4]
     exact hp _ _ (by simp [FRes.melt, AV.melt, AV.dead, infB, hl] at hd ⊢; exact hd)
    ·have h7 : lev7 n = opLev n := by unfold lev7; rw [if_neg hl]
     rw [h7] at hr
     have hlt : (opLev n < 7) = True := eq_true (by have := (opLev_pos n).2; omega)
     simp [vmS, g0, hr, hb1, hb2, p2, p4, hlt]
     exact hp _ _ (by simp [FRes.melt, AV.melt, AV.dead, infB, hl] at hd ⊢; exact hd)
   ·simp [vmS, g0, hb1, hb2, p2, p4, ho]
    exact hp _ _ (by simp [FRes.melt, AV.melt, AV.dead, infB, ho] at hd ⊢; exact hd)
  ·cases h
 ·cases h
def levP (o : Int) : Int := if o = 3 ∨ o = 4 ∨ o = 13 ∨ o = 14 then 0 else if o = 5 ∨ o = 21 then 6 else 7
def plevG : List AV → Option FRes
 | [.agg [pv, .int .i64 _, .int .i64 o, .int .i64 _, .int .i64 _, A]] => if okA pv A then some (.ret (.int .i64 (levP o))) else none
 | _ => none
theorem plev_ok : FOk 290 plevG := by
 refine fok [] (by simp) ?_
 intro a r h
 unfold plevG at h
 split at h
 ·rename_i pv main o n m A
  split at h
  ·rename_i hc
   obtain ⟨⟨p1, p2⟩, p3, p4⟩ := hc
   cases h
   refine ⟨by simp [AV.persL, AV.pers, p1, p3], rfl, 2, fun p hp => ?_⟩
   rw [callS_go rfl]
   simp only [fnA, ED_fn290, fi290, Tryz.f290]
   by_cases ho : o = 3 ∨ o = 4 ∨ o = 13 ∨ o = 14 ∨ o = 5 ∨ o = 21
   ·rcases ho with rfl | rfl | rfl | rfl | rfl | rfl <;> (simp [vmS, lenA, indexAddrA, p2, p4]; exact hp _ _ rfl)
   ·simp only [not_or] at ho
    obtain ⟨h3, h4, h13, h14, h5, h21⟩ := ho
    simp [vmS, lenA, indexAddrA, p2, p4, h3, h4, h5, h13, h14, h21]
    exact hp _ _ (by simp [FRes.melt, AV.melt, AV.dead, levP, h3, h4, h5, h13, h14, h21])
  ·cases h
 ·cases h
def ilevG : List AV → Option FRes
 | [.agg [pv, .int .i64 _, .int .i64 _, .int .i64 n, .int .i64 _, A]] => if okA pv A ∧ isOpB n = true then some (.ret (.int .i64 (lev7 n))) else none
 | _ => none
theorem ilev_ok : FOk 296 ilevG := by
 refine fok [] (by simp) ?_
 intro a r h
 unfold ilevG at h
 split at h
 ·rename_i pv main o n m A
  split at h
  ·rename_i hc
   obtain ⟨⟨⟨p1, p2⟩, p3, p4⟩, hn⟩ := hc
   cases h
   refine ⟨by simp [AV.persL, AV.pers, p1, p3], rfl, 2, fun p hp => ?_⟩
   rw [callS_go rfl]
   obtain ⟨GL, g0, gl⟩ := glob_lev
   obtain ⟨r, hr⟩ := gl n hn
   simp only [fnA, ED_fn296, fi296, Tryz.f296]
   simp [vmS, g0, hr, p2, p4]
   exact hp _ _ rfl
  ·cases h
 ·cases h
theorem name52_ok : FOk 52 varTG := by
 refine fok [] (by simp) ?_
 intro a r h
 unfold varTG at h
 split at h
 ·rename_i n
  split at h
  ·rename_i hn
   cases h
   refine ⟨rfl, rfl, 3, fun p hp => ?_⟩
   rw [callS_go rfl]
   unfold inI at hn
   have iu := fun m S => itoa_use (l := []) rfl (n := m) (x := n) (S := S) (by omega)
   have iu1 := iu 1
   have hl := itoa_length (n := n) (by omega)
   have hc := cat_ok (a := [120]) (b := Lib.itoa n) (by simp only [List.length_cons, List.length_nil]; omega)
   simp only [fnA, ED_fn52, fi52, Tryz.f52]
   simp [vmS, lenA, indexAddrA, iu, iu1, bin_str, hc]
   exact hp _ _ rfl
  ·cases h
 ·cases h
/-! a name with something in parentheses behind it -/
theorem strsOf_map : ∀ ts : List (List UInt8), strsOf (ts.map .str) = some ts
 | [] => rfl
 | t :: ts => by simp [strsOf, strsOf_map ts]
def strsV (v : AV) : Option (List (List UInt8)) := match v with
 | .nils => some []
 | .slice es .dead => strsOf es
 | _ => none
def callT2 (nm : List UInt8) (ts : List (List UInt8)) : List UInt8 := catS nm [[40], Lib.join ts [44, 32], [41]]
def calledG : List AV → Option FRes
 | [.str nm, v] => match strsV v with
  | some ts => if nm.length ≤ 100000000 ∧ ts.length ≤ 1000 ∧ (Lib.join ts [44, 32]).length ≤ 100000000 then some (.ret (.str (callT2 nm ts))) else none
  | none => none
 | _ => none
theorem join_use {l : Sm} (h : sumG l 295 = fun _ => none) {n : Nat} {v : AV} {ts : List (List UInt8)} {S : St} (hv : strsV v = some ts) (h1 : ts.length ≤ 1000) (h2 : (Lib.join ts [44, 32]).length ≤ 100000000) :
  callS ED (sumG l) (n + 1) (.fn 295) [v, .str [44, 32]] S = some (.ret (.str (Lib.join ts [44, 32])), S) := by
 rw [callS_go (by rw [h])]
 simp only [fnA, ED_fn295, fi295, Tryz.f295, ED_lib295]
 unfold strsV at hv
 split at hv
 ·cases hv
  rfl
 ·simp only [libJoin, hv]
  rw [if_pos ⟨by omega, by omega⟩]
 ·cases hv
theorem strsOf_pers : ∀ {es : List AV} {ts : List (List UInt8)}, strsOf es = some ts → AV.persL es = true
 | [], _, _ => rfl
 | a :: r, ts, h => by
  cases a <;> simp only [strsOf] at h <;> try (exact absurd h (by simp))
  rename_i s
  cases hr : strsOf r with
  | none => rw [hr] at h; cases h
  | some q => simp [AV.persL, AV.pers, strsOf_pers hr]
theorem strsV_cell {v : AV} {ts : List (List UInt8)} (h : strsV v = some ts) : v.pers = true ∧ v.isCell = true ∧ v.known = true ∧ v.cells = [v] ∧ v.dead = v := by
 unfold strsV at h
 split at h
 ·exact ⟨rfl, rfl, rfl, rfl, rfl⟩
 ·rename_i es
  have hp : AV.persL es = true := strsOf_pers h
  have hp2 : (AV.slice es .dead).pers = true := by simp [AV.pers, hp]
  exact ⟨hp2, rfl, rfl, rfl, dead_of_pers _ hp2⟩
 ·cases h
theorem called_ok : FOk 294 calledG := by
 refine fok [] (by simp) ?_
 intro a r h
 unfold calledG at h
 split at h
 ·rename_i nm v
  split at h
  ·rename_i ts hv
   split at h
   ·rename_i hc
    obtain ⟨h1, h2, h3⟩ := hc
    cases h
    obtain ⟨p1, p2, p3, p4, p5⟩ := strsV_cell hv
    refine ⟨by simp [AV.persL, AV.pers, p1], rfl, 3, fun p hp => ?_⟩
    rw [callS_go rfl]
    have ju := fun m S => join_use (l := []) rfl (n := m) (S := S) hv h2 h3
    have ju1 := ju 1
    have K := cats_ok [[40], Lib.join ts [44, 32], [41]] nm (by simp only [lensL, List.length_cons, List.length_nil]; omega)
    simp only [CatsOk] at K
    unfold callT2 at hp
    simp only [catS] at hp
    generalize Lib.join ts [44, 32] = J at *
    simp only [fnA, ED_fn294, fi294, Tryz.f294]
    simp [vmS, ju, ju1, bin_str, K, p2, p3, p4]
    exact hp _ _ rfl
   ·cases h
  ·cases h
 ·cases h
theorem called_use {l : Sm} (h : sumG l 294 = calledG) {n : Nat} {nm : List UInt8} {v : AV} {ts : List (List UInt8)} {S : St} (hv : strsV v.dead = some ts) (h1 : nm.length ≤ 100000000) (h2 : ts.length ≤ 1000) (h3 : (Lib.join ts [44, 32]).length ≤ 100000000) :
  callS ED (sumG l) n (.fn 294) [.str nm, v] S = some (.ret (.str (callT2 nm ts)), S) :=
 callS_sum (by rw [h]; simp only [List.map_cons, List.map_nil, show (AV.str nm).dead = .str nm from rfl, calledG, hv]; rw [if_pos ⟨h1, h2, h3⟩])
open Classical in
noncomputable def strG (D : Nat) (b : Bool) : List AV → Option FRes
 | [.agg [pv, .int .i64 main, .int .i64 o, .int .i64 n, .int .i64 m, A]] => match prOf (.agg [pv, .int .i64 main]), exOf (.agg [.int .i64 o, .int .i64 n, .int .i64 m, A]) with
  | some P, some e => if (∀ f ∈ P.funs, f.name.length ≤ 12) ∧ e.deep ≤ D ∧ (e.okN P.funs.length ∧ e.size ≤ 100000) ∧ infB o n = b then some (.ret (.str (e.txt (P.funs.map Fu.name)))) else none
  | _, _ => none
 | _ => none
section
variable {l : Sm} {D : Nat} {P : Pr} {e : Ex}
theorem pl_pers : (AV.agg [P.val, .int .i64 P.main, .int .i64 e.op, .int .i64 e.num, .int .i64 e.mun, e.lst]).pers = true := by
 simp [AV.pers, AV.persL, P.val_pers, e.lst_pers]
theorem pl_dead : (AV.agg [P.val, .int .i64 P.main, .int .i64 e.op, .int .i64 e.num, .int .i64 e.mun, e.lst]).dead = .agg [P.val, .int .i64 P.main, .int .i64 e.op, .int .i64 e.num, .int .i64 e.mun, e.lst] := dead_of_pers _ pl_pers
theorem str_use {f : FuncId} {b : Bool} (h : sumG l f = strG D b) (hP : P.fit) (hs : P.short) (he : e.fit) (hd : e.deep ≤ D) (ho : e.okN P.funs.length) (hz : e.size ≤ 100000) (hb : infB e.op e.num = b) {m : Nat} {S : St} :
  callS ED (sumG l) m (.fn f) [.agg [P.val, .int .i64 P.main, .int .i64 e.op, .int .i64 e.num, .int .i64 e.mun, e.lst]] S = some (.ret (.str (e.txt P.nms)), S) := by
 refine callS_sum ?_
 obtain ⟨q, h1, h2, h3, h4⟩ := prOf_enc hP
 have h1' : prOf (.agg [P.val, .int .i64 P.main]) = some q := h1
 have h5 : exOf (.agg [.int .i64 e.op, .int .i64 e.num, .int .i64 e.mun, e.lst]) = some e := by rw [← e.look]; exact exOf_enc he
 rw [List.map_cons, List.map_nil, pl_dead, h]
 simp only [strG, h1', h2, h5]
 rw [if_pos ⟨by rw [h2]; exact hs, hd, ⟨by rw [h2]; exact ho, hz⟩, hb⟩]
 rfl
theorem of_use (h : sumG l 51 = ofG) (hn : e.op = 15 → isOpB e.num = true) {m : Nat} {S : St} :
  callS ED (sumG l) m (.fn 51) [.agg [P.val, .int .i64 P.main], .agg [.int .i64 e.op, .int .i64 e.num, .int .i64 e.mun, e.lst]] S =
   some (.ret (.iface (if infB e.op e.num = true then 126 else 124) (.agg [P.val, .int .i64 P.main, .int .i64 e.op, .int .i64 e.num, .int .i64 e.mun, e.lst])), S) := by
 have hv : P.val.isCell = true := (P.val_len).2.1
 have hd : (AV.agg [P.val, .int .i64 P.main]).dead = .agg [P.val, .int .i64 P.main] := dead_of_pers _ P.pers
 refine callS_sum ?_
 rw [← e.look, List.map_cons, List.map_cons, List.map_nil, hd, e.enc_dead, e.look, h]
 simp only [ofG]
 rw [if_pos ⟨⟨⟨P.val_pers, hv⟩, e.lst_pers, e.cell.1⟩, hn⟩]
theorem plev_use (h : sumG l 290 = plevG) {m : Nat} {S : St} : callS ED (sumG l) m (.fn 290) [.agg [P.val, .int .i64 P.main, .int .i64 e.op, .int .i64 e.num, .int .i64 e.mun, e.lst]] S = some (.ret (.int .i64 (levP e.op)), S) := by
 have hv : P.val.isCell = true := (P.val_len).2.1
 refine callS_sum ?_
 rw [List.map_cons, List.map_nil, pl_dead, h]
 simp only [plevG]
 rw [if_pos ⟨⟨P.val_pers, hv⟩, e.lst_pers, e.cell.1⟩]
theorem ilev_use (h : sumG l 296 = ilevG) (hn : isOpB e.num = true) {m : Nat} {S : St} : callS ED (sumG l) m (.fn 296) [.agg [P.val, .int .i64 P.main, .int .i64 e.op, .int .i64 e.num, .int .i64 e.mun, e.lst]] S = some (.ret (.int .i64 (lev7 e.num)), S) := by
 have hv : P.val.isCell = true := (P.val_len).2.1
 refine callS_sum ?_
 rw [List.map_cons, List.map_nil, pl_dead, h]
 simp only [ilevG]
 rw [if_pos ⟨⟨⟨P.val_pers, hv⟩, e.lst_pers, e.cell.1⟩, hn⟩]
end
theorem levI_range (o n : Int) : 0 ≤ levI o n ∧ levI o n ≤ 7 := by
 have := opLev_pos n
 unfold levI
 split
 ·omega
 ·split
  ·omega
  ·split
   ·split <;> omega
   ·omega
open Classical in
noncomputable def atG (D : Nat) : List AV → Option FRes
 | [.agg [pv, .int .i64 main, .int .i64 o, .int .i64 n, .int .i64 m, A], .int .i64 part, .int .i64 level] => match prOf (.agg [pv, .int .i64 main]), exOf (.agg [.int .i64 o, .int .i64 n, .int .i64 m, A]) with
  | some P, some e => match e.kids[part.toNat]? with
   | some x => if (∀ f ∈ P.funs, f.name.length ≤ 12) ∧ x.deep ≤ D ∧ (x.okN P.funs.length ∧ x.size ≤ 100000) ∧ 0 ≤ part ∧ level ≤ 6 then some (.ret (.str ((kidOf (P.funs.map Fu.name) x).at level))) else none
   | none => none
  | _, _ => none
 | _ => none
noncomputable def LT8 (D : Nat) : Sm := [(51, ofG), (291, strG D false), (297, strG D true), (290, plevG), (296, ilevG)]
theorem LT8_ok {D : Nat} (h1 : FOk 291 (strG D false)) (h2 : FOk 297 (strG D true)) : ∀ x ∈ LT8 D, FOk x.1 x.2 := by
 intro x hx
 simp only [LT8, List.mem_cons, List.mem_nil_iff, or_false] at hx
 rcases hx with rfl | rfl | rfl | rfl | rfl
 ·exact of_ok
 ·exact h1
 ·exact h2
 ·exact plev_ok
 ·exact ilev_ok
theorem ask_op15 {k : Nat} {e : Ex} (h : e.okN k) (ho : e.op = 15) : isOpB e.num = true := op15 ((Ex.okN_kids k e).1 h).1 ho
theorem at_ok {D : Nat} (h1 : FOk 291 (strG D false)) (h2 : FOk 297 (strG D true)) : FOk 293 (atG D) := by
 refine fok (LT8 D) (LT8_ok h1 h2) ?_
 intro a r h
 unfold atG at h
 split at h
 ·rename_i pv main o n m A part level
  split at h
  ·rename_i P e hP he
   split at h
   ·rename_i x hx
    split at h
    ·rename_i hc
     obtain ⟨hs, hd, ⟨ho, hz⟩, hp0, hlv⟩ := hc
     obtain ⟨hfit, hPe⟩ := prOf_some hP
     obtain ⟨hef, hee⟩ := exOf_some he
     simp only [Pr.enc, AV.agg.injEq, List.cons.injEq, AV.int.injEq, true_and, and_true] at hPe
     rw [e.look] at hee
     simp only [AV.agg.injEq, List.cons.injEq, AV.int.injEq, true_and, and_true] at hee
     obtain ⟨rfl, rfl⟩ := hPe
     obtain ⟨rfl, rfl, rfl, rfl⟩ := hee
     cases h
     obtain ⟨j, rfl⟩ : ∃ j : Nat, part = j := ⟨part.toNat, by omega⟩
     rw [Int.toNat_natCast] at hx
     obtain ⟨q1, q2, q3, q4, q5⟩ := lenV_len (P.lenV hfit) (t := 22) (e := 63) rfl
     obtain ⟨hc1, hc2, hc3⟩ := e.cell
     obtain ⟨g1, g2, g3⟩ := x.cell
     have hix := e.index' hx
     have hxf := Ex.fit_kid hef (List.mem_of_getElem? hx)
     have ou := fun m S => of_use (l := LT8 D) (P := P) (e := x) rfl (ask_op15 ho) (m := m) (S := S)
     have m1 : ED.mth 124 "sheafworks/lang.level" = some 290 := rfl
     have m2 : ED.mth 124 "sheafworks/lang.string" = some 291 := rfl
     have m3 : ED.mth 126 "sheafworks/lang.level" = some 296 := rfl
     have m4 : ED.mth 126 "sheafworks/lang.string" = some 297 := rfl
     have hlen := txt_le hs ho hz
     have K := cats_ok [x.txt P.nms, [41]] [40] (by simp only [lensL, List.length_cons, List.length_nil]; omega)
     simp only [CatsOk] at K
     refine ⟨by simp [AV.persL, AV.pers, P.val_pers, e.lst_pers], rfl, 3, fun p hp => ?_⟩
     rw [callS_go rfl]
     have hk : (kidOf (P.funs.map Fu.name) x).at level = if levI x.op x.num < level then catS [40] [x.txt P.nms, [41]] else x.txt P.nms := rfl
     rw [hk] at hp
     simp only [catS] at hp
     have d0 := @dr293_0
     simp only [drA, drawsOf, Option.getD_some, List.nil_append, List.append_nil, List.getD_cons_zero, List.getD_cons_succ, List.cons_append, Tryz.f293] at d0
     simp only [fnA, ED_fn293, fi293, Tryz.f293]
     cases hb : infB x.op x.num with
     | true =>
      have h15 : x.op = 15 ∧ opLev x.num ≠ 0 := by
       unfold infB at hb
       simpa using hb
      have hlev : levI x.op x.num = lev7 x.num := by
       have := (opLev_pos x.num).1
       unfold levI lev7
       rw [h15.1, if_neg h15.2]
       simp
       omega
      have su := fun m S => str_use (l := LT8 D) (f := 297) (b := true) rfl hfit hs hxf hd ho hz hb (m := m) (S := S)
      have lu := fun m S => ilev_use (l := LT8 D) (P := P) (e := x) rfl (ask_op15 ho h15.1) (m := m) (S := S)
      rw [hlev] at hp
      rw [hb] at ou
      simp only [if_true] at ou
      generalize x.txt P.nms = X at *
      by_cases hl : lev7 x.num < level
      ·rw [if_pos hl] at hp
       simp [vmS, runC_nil, runC_cons, pickC_some, wantC_tt, wantC_tf, effC_val, ifC_true, checkC, inPairs, keepC, okC, readsC_load, readV_some, AV.beq_self, wantA_n, wantA_g, wantD_some, d0, q1, q2, q3, q4, hc1, hc2, hc3, g1, g2, g3, hix, ou, eff_invoke, m1, m2, m3, m4, su, lu, hl, bin_str, K]
       exact hp _ _ rfl
      ·rw [if_neg hl] at hp
       simp [vmS, runC_nil, runC_cons, pickC_some, wantC_tt, wantC_tf, effC_val, ifC_true, checkC, inPairs, keepC, okC, readsC_load, readV_some, AV.beq_self, wantA_n, wantA_g, wantD_some, d0, q1, q2, q3, q4, hc1, hc2, hc3, g1, g2, g3, hix, ou, eff_invoke, m1, m2, m3, m4, su, lu, hl, bin_str, K]
       exact hp _ _ rfl
     | false =>
      have hlev : (levI x.op x.num < level) = (levP x.op < level) := by
       have hz : ¬ (x.op = 15 ∧ opLev x.num ≠ 0) := by
        unfold infB at hb
        simpa using hb
       have := opLev_pos x.num
       apply propext
       unfold levI levP
       by_cases a1 : x.op = 3 ∨ x.op = 4 ∨ x.op = 13 ∨ x.op = 14
       ·rw [if_pos a1, if_pos a1]
       ·rw [if_neg a1, if_neg a1]
        by_cases a2 : x.op = 5 ∨ x.op = 21
        ·rw [if_pos a2, if_pos (by omega)]
        ·rw [if_neg a2]
         by_cases a3 : x.op = 7
         ·rw [if_pos (by omega)]
          omega
         ·rw [if_neg (by omega)]
          by_cases a4 : x.op = 15
          ·rw [if_pos a4, if_neg (by omega)]
          ·rw [if_neg a4]
      have su := fun m S => str_use (l := LT8 D) (f := 291) (b := false) rfl hfit hs hxf hd ho hz hb (m := m) (S := S)
      have lu := fun m S => plev_use (l := LT8 D) (P := P) (e := x) rfl (m := m) (S := S)
      simp only [hlev] at hp
      rw [hb] at ou
      simp only [if_false, Bool.false_eq_true] at ou
      generalize x.txt P.nms = X at *
      by_cases hl : levP x.op < level
      ·rw [if_pos hl] at hp
       simp [vmS, runC_nil, runC_cons, pickC_some, wantC_tt, wantC_tf, effC_val, ifC_true, checkC, inPairs, keepC, okC, readsC_load, readV_some, AV.beq_self, wantA_n, wantA_g, wantD_some, d0, q1, q2, q3, q4, hc1, hc2, hc3, g1, g2, g3, hix, ou, eff_invoke, m1, m2, m3, m4, su, lu, hl, bin_str, K]
       exact hp _ _ rfl
      ·rw [if_neg hl] at hp
       simp [vmS, runC_nil, runC_cons, pickC_some, wantC_tt, wantC_tf, effC_val, ifC_true, checkC, inPairs, keepC, okC, readsC_load, readV_some, AV.beq_self, wantA_n, wantA_g, wantD_some, d0, q1, q2, q3, q4, hc1, hc2, hc3, g1, g2, g3, hix, ou, eff_invoke, m1, m2, m3, m4, su, lu, hl, bin_str, K]
       exact hp _ _ rfl
    ·cases h
   ·cases h
  ·cases h
 ·cases h
theorem head1 (ts : List (List UInt8)) : headSz 1 (ts.map AV.str) = true := by cases ts <;> rfl
theorem app9 {S : St} {v : AV} {ts : List (List UInt8)} {t : List UInt8} {T : Option Nat} (hl : LiveT S 1 v (ts.map .str) T) (hlen : ts.length < 1000000) (hcl : Cl S) :
  ∃ v' S', appendA ED S 9 v [.str t] = some (v', S') ∧ LiveT S' 1 v' ((ts ++ [t]).map .str) (some S.n) ∧ S'.n = S.n + 1 ∧ (∀ k, k < S.n → T ≠ some k → S'.get k = S.get k) ∧ Cl S' := by
 have hr : ∀ k, k ≤ 1000000 → ∀ i : TI, i.bytes = 16 → roomOk i k = true := fun k hk i hi => by
  simp only [roomOk, roomMost, decide_eq_true_eq, hi]
  omega
 have hc : ([AV.str t].flatMap AV.cells).all (·.isCell) = true ∧ [AV.str t].all (fun v => v.cells.length = 1) = true ∧ (1 : Nat) ≠ 0 := ⟨rfl, rfl, by decide⟩
 unfold appendA
 simp only [ED_ti9]
 rw [if_pos hc]
 cases T with
 | none =>
  rcases hl with ⟨rfl, he⟩ | rfl
  ·have hn : ts = [] := by simpa using he
   subst hn
   refine ⟨.slice [.str t] (.tok S.n 1), S.push (.tok false), ?_, ⟨rfl, St.get_push_self _ _⟩, n_push' _ _, fun k hk _ => get_push_lt _ _ hk, Cl.push hcl _⟩
   simp only []
   rw [if_pos (hr _ (by simp) _ rfl)]
  ·refine ⟨.slice (ts.map .str ++ [.str t]) (.tok S.n 1), S.push (.tok false), ?_, ⟨by simp, St.get_push_self _ _⟩, n_push' _ _, fun k hk _ => get_push_lt _ _ hk, Cl.push hcl _⟩
   simp only []
   rw [if_neg (by simp), if_pos ⟨head1 ts, hr _ (by simp; omega) _ rfl⟩]
   rfl
 | some j =>
  obtain ⟨rfl, hj⟩ := hl
  have hlt := St.get_lt hj
  refine ⟨.slice (ts.map .str ++ [.str t]) (.tok S.n 1), (S.put j (.tok true)).push (.tok false), ?_, ⟨by simp, ?_⟩, by rw [n_push', n_put'], fun k hk hne => ?_, Cl.push (Cl.put hcl _ _) _⟩
  ·simp only []
   rw [if_neg (by simp), if_pos ⟨head1 ts, hr _ (by simp; omega) _ rfl⟩]
   simp [spend, hj]
  ·exact St.get_push_self (S.put j (.tok true)) (.tok false)
  ·rw [get_push_lt _ _ (by rw [n_put']; exact hk), get_put_ne (fun e => hne (by rw [e]))]
def wholeV (ts : List (List UInt8)) : AV := match ts with
 | [] => .nils
 | t :: r => .slice ((t :: r).map .str) .dead
theorem wholeV_strs (ts : List (List UInt8)) : strsV (wholeV ts) = some ts := by
 cases ts with
 | nil => rfl
 | cons t r => exact strsOf_map (t :: r)
open Classical in
noncomputable def wholeG (D : Nat) : List AV → Option FRes
 | [.agg [pv, .int .i64 main, .int .i64 o, .int .i64 n, .int .i64 m, A]] => match prOf (.agg [pv, .int .i64 main]), exOf (.agg [.int .i64 o, .int .i64 n, .int .i64 m, A]) with
  | some P, some e => if (∀ f ∈ P.funs, f.name.length ≤ 12) ∧ (∀ x ∈ e.kids, x.deep ≤ D) ∧ (Ex.okNs P.funs.length e.kids ∧ e.size ≤ 100000) then some (.ret (wholeV (e.kids.map fun x => x.txt (P.funs.map Fu.name)))) else none
  | _, _ => none
 | _ => none
section
variable {l : Sm} {D : Nat} {P : Pr} {e : Ex}
theorem at_use (h : sumG l 293 = atG D) (hP : P.fit) (hs : P.short) (he : e.fit) {j : Nat} {x : Ex} (hx : e.kids[j]? = some x) (hd : x.deep ≤ D) (ho : x.okN P.funs.length) (hz : x.size ≤ 100000) {level : Int} (hl : level ≤ 6) {m : Nat} {S : St} :
  callS ED (sumG l) m (.fn 293) [.agg [P.val, .int .i64 P.main, .int .i64 e.op, .int .i64 e.num, .int .i64 e.mun, e.lst], .int .i64 (j : Nat), .int .i64 level] S = some (.ret (.str ((kidOf P.nms x).at level)), S) := by
 refine callS_sum ?_
 obtain ⟨q, h1, h2, h3, h4⟩ := prOf_enc hP
 have h1' : prOf (.agg [P.val, .int .i64 P.main]) = some q := h1
 have h5 : exOf (.agg [.int .i64 e.op, .int .i64 e.num, .int .i64 e.mun, e.lst]) = some e := by rw [← e.look]; exact exOf_enc he
 rw [List.map_cons, List.map_cons, List.map_cons, List.map_nil, pl_dead, h]
 simp only [atG, AV.dead, h1', h2, h5, Int.toNat_natCast, hx]
 rw [if_pos ⟨by rw [h2]; exact hs, hd, ⟨by rw [h2]; exact ho, hz⟩, by omega, hl⟩]
 rfl
theorem whole_use (h : sumG l 292 = wholeG D) (hP : P.fit) (hs : P.short) (he : e.fit) (hd : ∀ x ∈ e.kids, x.deep ≤ D) (ho : Ex.okNs P.funs.length e.kids) (hz : e.size ≤ 100000) {m : Nat} {S : St} :
  callS ED (sumG l) m (.fn 292) [.agg [P.val, .int .i64 P.main, .int .i64 e.op, .int .i64 e.num, .int .i64 e.mun, e.lst]] S = some (.ret (wholeV (e.kids.map fun x => x.txt P.nms)), S) := by
 refine callS_sum ?_
 obtain ⟨q, h1, h2, h3, h4⟩ := prOf_enc hP
 have h1' : prOf (.agg [P.val, .int .i64 P.main]) = some q := h1
 have h5 : exOf (.agg [.int .i64 e.op, .int .i64 e.num, .int .i64 e.mun, e.lst]) = some e := by rw [← e.look]; exact exOf_enc he
 rw [List.map_cons, List.map_nil, pl_dead, h]
 simp only [wholeG, h1', h2, h5]
 rw [if_pos ⟨by rw [h2]; exact hs, hd, by rw [h2]; exact ho, hz⟩]
 rfl
end
theorem at_zero (nm : List (List UInt8)) (x : Ex) : (kidOf nm x).at 0 = x.txt nm := by
 have := (levI_range x.op x.num).1
 unfold Kid.at kidOf
 rw [if_neg (by show ¬ levI x.op x.num < 0; omega)]
theorem live1_cell {S : St} {v : AV} {ts : List (List UInt8)} {T : Option Nat} (h : LiveT S 1 v (ts.map .str) T) : v.isCell = true ∧ v.known = true ∧ v.cells = [v] := by
 rcases h.cases with ⟨rfl, he⟩ | ⟨tk, rfl⟩ <;> exact ⟨rfl, rfl, rfl⟩
theorem strs_dead : ∀ ts : List (List UInt8), AV.deadL (ts.map .str) = ts.map .str
 | [] => rfl
 | t :: ts => by simp [AV.deadL, AV.dead, strs_dead ts]
theorem live1_melt {S : St} {v : AV} {ts : List (List UInt8)} {T : Option Nat} (h : LiveT S 1 v (ts.map .str) T) (hn : v = .nils ∨ ts ≠ []) : (FRes.ret v).melt S = .ret (wholeV ts) := by
 rcases h.cases with ⟨rfl, he⟩ | ⟨tk, rfl⟩
 ·have : ts = [] := by simpa using he
  subst this
  rfl
 ·cases ts with
  | nil => rcases hn with h | h; cases h; exact absurd rfl h
  | cons t r =>
   have := strs_dead (t :: r)
   simp only [FRes.melt, AV.melt, AV.dead, this]
   rfl
theorem whole_ok {D : Nat} (hat : FOk 293 (atG D)) : FOk 292 (wholeG D) := by
 refine fok [(293, atG D)] (by simp; exact hat) ?_
 intro a r h
 unfold wholeG at h
 split at h
 ·rename_i pv main o n m A
  split at h
  ·rename_i P e hP he
   split at h
   ·rename_i hc
    obtain ⟨hs, hd, ho, hz⟩ := hc
    obtain ⟨hfit, hPe⟩ := prOf_some hP
    obtain ⟨hef, hee⟩ := exOf_some he
    simp only [Pr.enc, AV.agg.injEq, List.cons.injEq, AV.int.injEq, true_and, and_true] at hPe
    rw [e.look] at hee
    simp only [AV.agg.injEq, List.cons.injEq, AV.int.injEq, true_and, and_true] at hee
    obtain ⟨rfl, rfl⟩ := hPe
    obtain ⟨rfl, rfl, rfl, rfl⟩ := hee
    cases h
    obtain ⟨q1, q2, q3, q4, q5⟩ := lenV_len (P.lenV hfit) (t := 22) (e := 63) rfl
    obtain ⟨hc1, hc2, hc3⟩ := e.cell
    have hlen := e.len
    have hsl := sizes_len e.kids
    have hsk := e.size_kids
    refine ⟨by simp [AV.persL, AV.pers, P.val_pers, e.lst_pers], (strsV_cell (wholeV_strs _)).1, e.kids.length + 3, fun p hp => ?_⟩
    have hp : ∀ r' S', FRes.melt S' r' = .ret (wholeV (e.kids.map fun x => x.txt P.nms)) → p r' S' := hp
    rw [callS_go rfl]
    simp only [fnA, ED_fn292, fi292, Tryz.f292]
    simp [vmS, q1, q2, q3, q4, hc1, hc2, hc3, hlen]
    generalize hT : S0.push (.cells [P.val, .int .i64 P.main, .int .i64 e.op, .int .i64 e.num, .int .i64 e.mun, e.lst]) = T
    have tc : Cl T := by subst hT; exact Cl.push Cl.zero _
    have t0 : T.cells? 0 = some [P.val, .int .i64 P.main, .int .i64 e.op, .int .i64 e.num, .int .i64 e.mun, e.lst] := by subst hT; simp [push_at, n_push', n_S0, cellsOf?]
    obtain ⟨ts, hts⟩ : ∃ ts, ts = e.kids.map fun x => x.txt P.nms := ⟨_, rfl⟩
    rw [← hts] at hp
    have htl : ts.length = e.kids.length := by rw [hts]; simp
    generalize hc : iter _ _ _ _ = c
    obtain ⟨ex, L1, S2, rfl, hq⟩ := loop_of hc
     (fun r L S' => ∃ (j : Nat) (w x : AV) (U : Option Nat) (sc : List (Tmp × AV)), j + r = e.kids.length ∧ LiveT S' 1 w ((ts.take j).map .str) U ∧ (j = 0 → w = .nils) ∧
      L = vloc [.agg [P.val, .int .i64 P.main, .int .i64 e.op, .int .i64 e.num, .int .i64 e.mun, e.lst], .ptr 0 0, w, x, .int .i64 e.kids.length, .int .i64 (j : Nat)] sc ∧ Cl S' ∧ S'.cells? 0 = some [P.val, .int .i64 P.main, .int .i64 e.op, .int .i64 e.num, .int .i64 e.mun, e.lst])
     (fun ex L S' => ex = .exit 0 ∧ ∃ (w x y : AV) (U : Option Nat) (sc : List (Tmp × AV)), LiveT S' 1 w (ts.map .str) U ∧ (w = .nils ∨ ts ≠ []) ∧
      L = vloc [.agg [P.val, .int .i64 P.main, .int .i64 e.op, .int .i64 e.num, .int .i64 e.mun, e.lst], .ptr 0 0, w, x, .int .i64 e.kids.length, y] sc ∧ Cl S')
     e.kids.length (by omega)
     ⟨0, .nils, _, none, _, by simp, .inl ⟨rfl, rfl⟩, fun _ => rfl, rfl, tc, t0⟩
     (by
      rintro r L S' ⟨j, w, x, U, sc, hjk, hlw, hw0, rfl, hcl', x0⟩ q hq1 hq2
      obtain ⟨z1, z2, z3⟩ := live1_cell hlw
      by_cases hj : j < e.kids.length
      ·have hwj : IntKind.i64.wrap ((j : Int) + 1) = ((j : Int) + 1) := wrap_id (by omega) (by omega)
       have hx := List.getElem?_eq_getElem hj
       have hxm := List.getElem_mem hj
       have hjt : j < ts.length := by omega
       have htj : ts[j] = e.kids[j].txt P.nms := by simp [hts]
       have htk : ts.take (j + 1) = ts.take j ++ [ts[j]] := by rw [List.take_add_one, List.getElem?_eq_getElem hjt]; rfl
       have au := fun m S => at_use (l := [(293, atG D)]) rfl hfit hs hef hx (hd _ hxm) (Ex.okNs_mem ho hxm) (by have := sizes_mem hxm; omega) (level := 0) (by decide) (m := m) (S := S)
       rw [at_zero, ← htj] at au
       obtain ⟨w3, S3, happ, hl3, hn3, hk3, hc3'⟩ := app9 (t := ts[j]) hlw (by rw [List.length_take]; omega) hcl'
       have hl3' : LiveT S3 1 w3 ((ts.take (j + 1)).map .str) (some S'.n) := by rw [htk]; exact hl3
       have hU : U ≠ some 0 := fun h => by subst h; exact not_tok x0 _ hlw.2
       have x3 : S3.cells? 0 = some [P.val, .int .i64 P.main, .int .i64 e.op, .int .i64 e.num, .int .i64 e.mun, e.lst] := by
        rw [cells?_def, hk3 0 (St.get_lt (cells?_inv x0)) hU, ← cells?_def]
        exact x0
       generalize ts[j] = X at *
       obtain ⟨y1, y2, y3⟩ := live1_cell hl3'
       simp [vmS, vloc, hj, hcl'.1, hcl'.2, x0, q2, q3, q4, hc1, hc2, hc3, hwj, z1, z2, z3, au, happ, hc3'.1, hc3'.2]
       exact hq1 (r - 1) _ _ (by omega) ⟨j + 1, w3, _, _, _, by omega, hl3', fun h => by omega, rfl, hc3', x3⟩
      ·have hjl : j = e.kids.length := by omega
       subst hjl
       rw [List.take_of_length_le (by omega)] at hlw
       simp [vmS, vloc, hcl'.1, hcl'.2]
       refine hq2 _ _ _ (by simp) ⟨rfl, w, _, _, U, _, hlw, ?_, rfl, hcl'⟩
       by_cases h0 : e.kids.length = 0
       ·exact .inl (hw0 h0)
       ·exact .inr fun h => h0 (by rw [← htl, h]; rfl))
    obtain ⟨rfl, w, x, y, U, sc, hlw, hwn, rfl, hcl'⟩ := hq
    obtain ⟨z1, z2, z3⟩ := live1_cell hlw
    simp [vmS, vloc, hcl'.1, hcl'.2, z1, z2, z3]
    exact hp _ _ (live1_melt hlw hwn)
   ·cases h
  ·cases h
 ·cases h
end Go.Vm.L
