/-
What the laws share. No conditions.
-/
import Derived.Test.YtjfnelfdlemfgaaGreatDoorNodeI
import Derived.Test.YtjfnelfdlemfgaaGreatDoorKnown
set_option linter.all false
set_option maxHeartbeats 4000000
namespace Go.Vm.L
open Go Go.Proofs Go.Vm
set_option maxRecDepth 100000
attribute [local simp] inFrame startLoc startVals Loc.clear blockC Loc.putO Loc.put idx evO constV Loc.get Vm.look intA unwindA resultsA resultV actA pureA storeA loadA fillE repElems TI.zeroV fieldOf fieldAddrA fieldA elemsA retE cellsOf? setCells nowhere mapHead headNext
def opsB (l : List (Nd × Ex)) : Bool := l.all fun y => opB y.1.op
theorem opsB_cons (y : Nd × Ex) (l : List (Nd × Ex)) : opsB (y :: l) = (opB y.1.op && opsB l) := rfl
theorem opsB_app (l m : List (Nd × Ex)) : opsB (l ++ m) = (opsB l && opsB m) := List.all_append ..
theorem index_nd {l : List Nd} {tk : Tk} {j : Nat} (h : j < l.length) : indexAddrA ED 27 (.slice (l.map ndv) tk) (.int .i64 (j : Nat)) = some (.rptr l[j].vals) := by
 have := index_slice (E := ED) (t := 27) (e := 61) (n := (j : Int)) (k := .i64) (es := l.map ndv) (tk := tk) (v := ndv l[j]) (s := 4) rfl rfl (by omega) (by simp; omega) (by simp) rfl
 exact this
def aliveG : List AV → Option FRes
 | [] => some (.ret (.bool true))
 | _ => none
theorem alive_ok : FOk 14 aliveG := by
 intro a r h
 unfold aliveG at h
 split at h
 ·cases h
  exact ⟨rfl, rfl, alive_sound⟩
 ·cases h
theorem alive_use {l : Sm} (h : sumG l 14 = aliveG) {n : Nat} {S : St} : callS ED (sumG l) n (.fn 14) [] S = some (.ret (.bool true), S) :=
 callS_sum (by rw [h]; rfl)
theorem greatF_len {fs : List Fu} (h : greatB fs = false) : fs.length ≤ 60 := by
 unfold greatB at h
 rw [Bool.or_eq_false_iff] at h
 have := of_decide_eq_false h.2
 omega
theorem allPre_length : ∀ (fs : List Fu) (num i : Int), (allPre fs num i).length = allSize fs
 | [], _, _ => rfl
 | f :: r, num, i => by simp only [allPre, allSize, List.length_append, Ex.pre_length, allPre_length r]
section
variable {l : Sm} {P : Pr}
theorem pdead : ([AV.agg [P.val, .int .i64 P.main]] : List AV).map AV.dead = [P.enc] := by
 rw [List.map_cons, List.map_nil]
 exact congrArg (fun v => [v]) (dead_of_pers _ P.pers)
theorem great_use (h : sumG l 13 = greatG) (hf : P.fit2) {n : Nat} {S : St} : callS ED (sumG l) n (.fn 13) [.agg [P.val, .int .i64 P.main]] S = some (.ret (.bool (greatB P.funs)), S) := by
 obtain ⟨Q, h1, h2, h3⟩ := prOf2_enc hf
 refine callS_sum ?_
 rw [pdead, h]
 simp only [greatG, h1, h2]
theorem check_use (h : sumG l 19 = checkG) (hf : P.fit) {n : Nat} {S : St} : callS ED (sumG l) n (.fn 19) [.agg [P.val, .int .i64 P.main]] S =
  some (.ret (.int .i64 (if formedB P.funs P.main = true then 0 else 1)), S) := by
 obtain ⟨Q, h1, h2, h3, _⟩ := prOf_enc hf
 refine callS_sum ?_
 rw [pdead, h]
 simp only [checkG, h1, h2, h3]
end
end Go.Vm.L
