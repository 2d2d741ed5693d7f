/-
What the law's own functions return, and the law. No conditions.
-/
import Derived.Test.YtjgigcaelcapdaaDoorLawB
import Derived.Test.YtjgigcaelcapdaaDoorCardB
set_option linter.all false

namespace Go.Proofs.YtjgigcaelcapdaaDoor
open Go Go.Vm Go.Vm.T

theorem intsD_of {l : AV} {zs : List Int} (h : IntsV l zs) : IntsD l zs := by
  cases h with
  | nil => exact .inl ⟨rfl, rfl⟩
  | slice => exact .inr rfl

theorem graphSums_proved : Rows.GraphSumsCardSaid :=
  graphSums_card fun l zs m ys n hl _ hlen hm _ hmen hn => law6.sound ⟨l, zs, m, ys, n⟩ ⟨intsD_of hl, hlen, intsD_of hm, hmen, hn⟩

end Go.Proofs.YtjgigcaelcapdaaDoor
