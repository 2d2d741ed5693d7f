/-
What strings.Fields returns for the words that are kept. No conditions.
-/
import Derived.Test.YtjfnelfdlemfgaaGreatDoorLib
import Derived.Test.YtjfnelfdlemfgaaGreatDoorVmI
import Derived.KernelRfl
set_option linter.all false
set_option maxHeartbeats 4000000
namespace Go.Vm.L
open Go Go.Proofs Go.Vm
set_option maxRecDepth 100000
def kept : List UInt8 := [108, 101, 116, 32, 105, 110, 32, 102, 110, 32, 105, 102, 32, 116, 104, 101, 110, 32, 101, 108, 115, 101, 32, 99, 97, 115, 101, 32, 111, 102, 32, 108, 101, 102, 116, 32, 114, 105, 103, 104, 116, 32, 111, 114, 32, 102, 111, 114, 32, 102, 115, 116, 32, 115, 110, 100, 32, 105, 111, 116, 97, 32, 108, 101, 110, 32, 102, 108, 97, 116, 32, 102, 111, 108, 100, 32, 115, 99, 97, 110, 32, 110, 101, 115, 116, 32, 112, 117, 116, 32, 109, 105, 110, 32, 109, 97, 120, 32, 102, 117, 110, 32, 109, 97, 105, 110]
def keptW : List (List UInt8) := [[108, 101, 116], [105, 110], [102, 110], [105, 102], [116, 104, 101, 110], [101, 108, 115, 101], [99, 97, 115, 101], [111, 102], [108, 101, 102, 116], [114, 105, 103, 104, 116], [111, 114], [102, 111, 114], [102, 115, 116], [115, 110, 100], [105, 111, 116, 97], [108, 101, 110], [102, 108, 97, 116], [102, 111, 108, 100], [115, 99, 97, 110], [110, 101, 115, 116], [112, 117, 116], [109, 105, 110], [109, 97, 120], [102, 117, 110], [109, 97, 105, 110]]
theorem globPers : GlobPers ED := by
 intro g cs h
 have h' : gl g = some cs := h
 unfold gl at h'
 split at h' <;> cases h' <;> decide +kernel
theorem fields_run : (callS ED (sumC []) 200 (.fn 156) [.str kept] S0).map (fun q => q.1.melt q.2) = some (.ret (.slice (keptW.map .str) .dead)) := by
 kernel_rfl
theorem fields_sound : Sound Tryz.prog ED 156 [.str kept] (.ret (.slice (keptW.map .str) .dead)) := by
 have h := fields_run
 cases hc : callS ED (sumC []) 200 (.fn 156) [.str kept] S0 with
 | none => rw [hc] at h; cases h
 | some q =>
  obtain ⟨r, S'⟩ := q
  rw [hc] at h
  have h2 : r.melt S' = .ret (.slice (keptW.map .str) .dead) := Option.some.inj h
  have := sound_of ED_ok globPers (sumC_ok (l := []) (by simp)) hc (by rw [h2]; decide +kernel)
  rw [h2] at this
  exact this
def kFields : List (FuncId × List AV × FRes) := [(156, [.str kept], .ret (.slice (keptW.map .str) .dead))]
theorem kFields_ok : SumOk Tryz.prog ED (sumC kFields) := sumC_ok (by
 intro x hx
 simp only [kFields, List.mem_singleton] at hx
 subst hx
 exact ⟨by decide +kernel, by decide +kernel, fields_sound⟩)
theorem sound_at {sum : FuncId → List AV → Option FRes} (hs : SumOk Tryz.prog ED sum) {n : Nat} {f : FuncId} {a : List AV} {v : FRes} (h : (callS ED sum n (.fn f) a S0).map (fun q => q.1.melt q.2) = some v) (hp : v.pers = true) : Sound Tryz.prog ED f a v := by
 cases hc : callS ED sum n (.fn f) a S0 with
 | none => rw [hc] at h; cases h
 | some q =>
  obtain ⟨r, S'⟩ := q
  rw [hc] at h
  have h2 : r.melt S' = v := Option.some.inj h
  have := sound_of ED_ok globPers hs hc (by rw [h2]; exact hp)
  rw [h2] at this
  exact this
end Go.Vm.L
