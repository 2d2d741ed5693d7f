/-
What the law's own functions return, and the law. No conditions.
-/
import Derived.Test.YtjgigcaelcapdaaDoorLawE
import Derived.Test.YtjgigcaelcapdaaDoorCardE
set_option linter.all false

namespace Go.Proofs.YtjgigcaelcapdaaDoor
open Go Go.Vm Go.Vm.T

theorem intsD_of {l : AV} {zs : List Int} (h : IntsV l zs) : IntsD l zs := by
  cases h with
  | nil => exact .inl ⟨rfl, rfl⟩
  | slice => exact .inr rfl

theorem graphHull_proved : Rows.GraphHullCardSaid :=
  graphHull_card fun l zs n hl _ hlen hn => law7.sound ⟨l, zs, n⟩ ⟨intsD_of hl, hlen, hn⟩

end Go.Proofs.YtjgigcaelcapdaaDoor
