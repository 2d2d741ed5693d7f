/-
What the law's own functions return, and the law. No conditions.
-/
import Derived.Test.YtjgigcaelcapdaaDoorLawD
import Derived.Test.YtjgigcaelcapdaaDoorCardD
set_option linter.all false

namespace Go.Proofs.YtjgigcaelcapdaaDoor
open Go Go.Vm Go.Vm.T

theorem intsD_of {l : AV} {zs : List Int} (h : IntsV l zs) : IntsD l zs := by
  cases h with
  | nil => exact .inl ⟨rfl, rfl⟩
  | slice => exact .inr rfl

theorem graphLevels_proved : Rows.GraphLevelsCardSaid :=
  graphLevels_card fun l zs n hl _ hlen hn => law5.sound ⟨l, zs, n⟩ ⟨intsD_of hl, hlen, hn⟩

end Go.Proofs.YtjgigcaelcapdaaDoor
