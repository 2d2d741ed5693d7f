/-
The chapter's examples hold. No conditions.
-/
import Derived.Test.YtpjcmiaanjcanaaGreatDoorValA
import Derived.KernelRfl
set_option linter.all false

namespace Go.Proofs.YtpjcmiaanjcanaaGreatDoor
open Go Go.Vm Go.Vm.T
set_option maxRecDepth 100000
set_option linter.unusedSimpArgs false
set_option linter.unusedVariables false
attribute [local simp] inFrame startLoc startVals Loc.clear blockC Loc.putO Loc.put idx evO constV Loc.get Vm.look intA unwindA resultsA resultV actA pureA storeA loadA fillE repElems TI.zeroV fieldOf fieldAddrA fieldA elemsA retE cellsOf? setCells nowhere

/-! the examples, one by one -/
def nm1 : List UInt8 := [99, 111, 109, 112, 115]
def nm2 : List UInt8 := [100, 105, 115, 116]
def nm3 : List UInt8 := [108, 101, 118, 101, 108]
def nm4 : List UInt8 := [115, 112, 109, 118]
def nm5 : List UInt8 := [119, 97, 108, 107]
def nm6 : List UInt8 := [104, 117, 108, 108]

def exArg (nm : List UInt8) (g : GV) (zs : List Int) : List AV := [.str nm, g.enc, .slice (ints zs) .dead]
def exIs : List (List AV) :=
  [exArg nm1 (.pair (.num 5) (duosV [(3, 1), (4, 3)])) [0, 1, 2, 1, 1],
   exArg nm1 (.pair (.num 2) (duosV [(7, 9)])) [0, 1],
   exArg nm2 (.pair (.num 4) (.pair (.num 1) (duosV [(1, 2), (2, 0), (1, 0), (0, 1)]))) [1, 0, 1, -1],
   exArg nm2 (.pair (.num 2) (.pair (.num 0) (duosV [(5, 0)]))) [0, -1],
   exArg nm3 (.pair (.num 4) (duosV [(0, 1), (1, 2), (0, 2)])) [0, 1, 2, 0],
   exArg nm4 (.pair (.seq [duosV [(0, 2), (2, 1)], .seq []]) (nums [5, 6, 7])) [17, 0],
   exArg nm5 (.pair (.num 10) (.pair (.seq [duosV [(0, 1), (1, 1)], duosV [(0, 1)]]) (nums [1, 0]))) [89, 55],
   exArg nm6 (duosV [(0, 0), (2, 2), (4, 0), (2, 0), (4, 4), (0, 4), (0, 0), (2, 4)]) [0, 2, 4, 5],
   exArg nm6 (duosV [(1, 1), (3, 3), (2, 2)]) [0, 1],
   exArg nm6 (duosV [(5, 5), (5, 5)]) [0]]
def exTraps : List (List AV) :=
  [[.str nm1, (GV.pair (.num 2) (duosV [(0, 2)])).enc],
   [.str nm2, (GV.pair (.num 2) (.pair (.num 0) (duosV [(5, 1)]))).enc],
   [.str nm3, (GV.pair (.num 2) (duosV [(0, 1), (1, 0)])).enc],
   [.str nm5, (GV.pair (.num 31) (.pair (.seq []) (.seq []))).enc]]

def exRun (f : FuncId) (a : List AV) : Prop := (callS ED (sumOf []) 300 (.fn f) a S0).map (fun q => q.1) = some (.ret (.bool true))

theorem ex1 : exRun 20 (exIs.getD 0 []) := by
  unfold exRun
  kernel_rfl
theorem ex2 : exRun 20 (exIs.getD 1 []) := by
  unfold exRun
  kernel_rfl
theorem ex3 : exRun 20 (exIs.getD 2 []) := by
  unfold exRun
  kernel_rfl
theorem ex4 : exRun 20 (exIs.getD 3 []) := by
  unfold exRun
  kernel_rfl
theorem ex5 : exRun 20 (exIs.getD 4 []) := by
  unfold exRun
  kernel_rfl
theorem ex6 : exRun 20 (exIs.getD 5 []) := by
  unfold exRun
  kernel_rfl
theorem ex7 : exRun 20 (exIs.getD 6 []) := by
  unfold exRun
  kernel_rfl
theorem ex8 : exRun 20 (exIs.getD 7 []) := by
  unfold exRun
  kernel_rfl
theorem ex9 : exRun 20 (exIs.getD 8 []) := by
  unfold exRun
  kernel_rfl
theorem ex10 : exRun 20 (exIs.getD 9 []) := by
  unfold exRun
  kernel_rfl
theorem ex11 : exRun 23 (exTraps.getD 0 []) := by
  unfold exRun
  kernel_rfl
theorem ex12 : exRun 23 (exTraps.getD 1 []) := by
  unfold exRun
  kernel_rfl
theorem ex13 : exRun 23 (exTraps.getD 2 []) := by
  unfold exRun
  kernel_rfl
theorem ex14 : exRun 23 (exTraps.getD 3 []) := by
  unfold exRun
  kernel_rfl

theorem ex_sound {f : FuncId} {a : List AV} (h : exRun f a) : Sound Tryz.prog ED f a (.ret (.bool true)) := by
  unfold exRun at h
  cases hq : callS ED (sumOf []) 300 (.fn f) a S0 with
  | none => rw [hq] at h; cases h
  | some q =>
    rw [hq] at h
    obtain ⟨r, S'⟩ := q
    simp only [Option.map_some, Option.some.injEq] at h
    subst h
    exact sound_of ED_ok ED_pers (sumOf_ok (cs := []) (by simp)) hq rfl

def sumEx : FuncId → List AV → Option FRes
  | 20, a => if exIs.any (AV.beqL a) then some (.ret (.bool true)) else none
  | 23, a => if exTraps.any (AV.beqL a) then some (.ret (.bool true)) else none
  | _, _ => none

theorem exIs_pers : (exIs.all AV.persL) = true := by kernel_rfl
theorem exTraps_pers : (exTraps.all AV.persL) = true := by kernel_rfl

theorem sumEx_ok : SumOk Tryz.prog ED sumEx := by
  intro f a r h
  unfold sumEx at h
  split at h
  · split at h
    · rename_i hc
      cases h
      obtain ⟨b, hb, hab⟩ := List.any_eq_true.1 hc
      have := AV.beqL_eq _ _ hab
      subst this
      refine ⟨List.all_eq_true.1 exIs_pers _ hb, rfl, ?_⟩
      have h1 := ex1; have h2 := ex2; have h3 := ex3; have h4 := ex4; have h5 := ex5; have h6 := ex6; have h7 := ex7; have h8 := ex8; have h9 := ex9; have h10 := ex10
      unfold exIs at hb h1 h2 h3 h4 h5 h6 h7 h8 h9 h10
      simp only [List.mem_cons, List.not_mem_nil, or_false] at hb
      rcases hb with hb | hb | hb | hb | hb | hb | hb | hb | hb | hb <;> subst hb
      · exact ex_sound h1
      · exact ex_sound h2
      · exact ex_sound h3
      · exact ex_sound h4
      · exact ex_sound h5
      · exact ex_sound h6
      · exact ex_sound h7
      · exact ex_sound h8
      · exact ex_sound h9
      · exact ex_sound h10
    · cases h
  · split at h
    · rename_i hc
      cases h
      obtain ⟨b, hb, hab⟩ := List.any_eq_true.1 hc
      have := AV.beqL_eq _ _ hab
      subst this
      refine ⟨List.all_eq_true.1 exTraps_pers _ hb, rfl, ?_⟩
      have h1 := ex11; have h2 := ex12; have h3 := ex13; have h4 := ex14
      unfold exTraps at hb h1 h2 h3 h4
      simp only [List.mem_cons, List.not_mem_nil, or_false] at hb
      rcases hb with hb | hb | hb | hb <;> subst hb
      · exact ex_sound h1
      · exact ex_sound h2
      · exact ex_sound h3
      · exact ex_sound h4
    · cases h
  · cases h

theorem graphed_run : (callS ED sumEx 100 (.fn 5) [] S0).map (fun q => q.1) = some (.ret (.bool true)) := by kernel_rfl

def graphedC : Con where
  f := 5
  X := Unit
  dom _ := True
  enc _ := []
  res _ := .ret (.bool true)

theorem graphed_ok : graphedC.Ok Tryz.prog ED := by
  refine ⟨fun _ _ => ⟨rfl, rfl⟩, fun _ _ => ?_⟩
  show Sound Tryz.prog ED 5 [] (.ret (.bool true))
  have h := graphed_run
  cases hq : callS ED sumEx 100 (.fn 5) [] S0 with
  | none => rw [hq] at h; cases h
  | some q =>
    rw [hq] at h
    obtain ⟨r, S'⟩ := q
    simp only [Option.map_some, Option.some.injEq] at h
    subst h
    exact sound_of ED_ok ED_pers sumEx_ok hq rfl

theorem graphed_use {cs : List Con} (h : sumOf cs 5 = graphedC.look) {n : Nat} {S : St} : callS ED (sumOf cs) n (.fn 5) [] S = some (.ret (.bool true), S) :=
  Con.use (c := graphedC) (fun _ _ _ _ _ => rfl) h () trivial rfl

end Go.Proofs.YtpjcmiaanjcanaaGreatDoor
