/-
  DERIVED. GIVEN WITH THE SEED: THE PROGRAM's TIES (one call each: nine closed facts by the kernel) AND EACH ROW's TIE, after the 31st guide's Derived/Test/Toyas{Tie, Card}.lean. No idea stands in it: it is a product of the set-up. Laid BY PROGRAM, IN A SANDBOX (cutbox-door.mjs). By AI agents, Wed Nov 11 2026. No macro, syntax, notation, axiom, sorry.
-/
import Derived.Test.YtjgigcaelcapdaaDoorRows
import Derived.LaidByTextLater
import Derived.SevenTiedAt
import Derived.LaidSub
import Derived.LaidOnce
namespace Go.Proofs.YtjgigcaelcapdaaDoor
open Go
set_option maxRecDepth 100000
theorem seatTie1 : Tryd.prog.laidByTextLater [("sheafworks/nest.counters", Rows.laid_sheafworks_nest_counters), ("sheafworks/nest.arity", Rows.laid_sheafworks_nest_arity), ("sheafworks/nest.kinds", Rows.laid_sheafworks_nest_kinds), ("sheafworks/libg.nobody", Rows.laid_sheafworks_libg_nobody)] [.funcs, .data, .data, .data] true :=
  Program.laidByTextLater_by_one 29 8 6 (by kernel_rfl) (by kernel_rfl) (by kernel_rfl) (by kernel_rfl) (by kernel_rfl) (by kernel_rfl) (fun _ _ => by kernel_rfl)
theorem noOwnUnsafe : Tryd.pinned.checked.prog.headLifts.contains "ownunsafe" = false := by kernel_rfl
theorem tie : Tryd.prog.laidByTextLater [("sheafworks/nest.counters", Rows.laid_sheafworks_nest_counters), ("sheafworks/nest.arity", Rows.laid_sheafworks_nest_arity), ("sheafworks/nest.kinds", Rows.laid_sheafworks_nest_kinds), ("sheafworks/libg.nobody", Rows.laid_sheafworks_libg_nobody)] [.funcs, .data, .data, .data] true :=
  Program.laidByTextLater.sub seatTie1 ["sheafworks/nest.counters", "sheafworks/nest.arity", "sheafworks/nest.kinds", "sheafworks/libg.nobody"] (by kernel_rfl) (by kernel_rfl)
theorem graphComps_row_tie : Rows.graphCompsRow.laidByTextAt .later Tryd.pinned [.funcs, .data, .data, .data] true :=
  OpenClaim.laidByTextAt_later rfl rfl tie noOwnUnsafe
theorem graphDists_row_tie : Rows.graphDistsRow.laidByTextAt .later Tryd.pinned [.funcs, .data, .data, .data] true :=
  OpenClaim.laidByTextAt_later rfl rfl tie noOwnUnsafe
theorem graphLevels_row_tie : Rows.graphLevelsRow.laidByTextAt .later Tryd.pinned [.funcs, .data, .data, .data] true :=
  OpenClaim.laidByTextAt_later rfl rfl tie noOwnUnsafe
theorem graphSums_row_tie : Rows.graphSumsRow.laidByTextAt .later Tryd.pinned [.funcs, .data, .data, .data] true :=
  OpenClaim.laidByTextAt_later rfl rfl tie noOwnUnsafe
theorem graphHull_row_tie : Rows.graphHullRow.laidByTextAt .later Tryd.pinned [.funcs, .data, .data, .data] true :=
  OpenClaim.laidByTextAt_later rfl rfl tie noOwnUnsafe
theorem graphCompsUpto_row_tie : Rows.graphCompsUptoRow.laidByTextAt .later Tryd.pinned [.funcs, .data, .data, .data] true :=
  OpenClaim.laidByTextAt_later rfl rfl tie noOwnUnsafe
theorem graphDistsUpto_row_tie : Rows.graphDistsUptoRow.laidByTextAt .later Tryd.pinned [.funcs, .data, .data, .data] true :=
  OpenClaim.laidByTextAt_later rfl rfl tie noOwnUnsafe
theorem graphLevelsUpto_row_tie : Rows.graphLevelsUptoRow.laidByTextAt .later Tryd.pinned [.funcs, .data, .data, .data] true :=
  OpenClaim.laidByTextAt_later rfl rfl tie noOwnUnsafe
theorem graphSumsUpto_row_tie : Rows.graphSumsUptoRow.laidByTextAt .later Tryd.pinned [.funcs, .data, .data, .data] true :=
  OpenClaim.laidByTextAt_later rfl rfl tie noOwnUnsafe
theorem graphHullUpto_row_tie : Rows.graphHullUptoRow.laidByTextAt .later Tryd.pinned [.funcs, .data, .data, .data] true :=
  OpenClaim.laidByTextAt_later rfl rfl tie noOwnUnsafe
end Go.Proofs.YtjgigcaelcapdaaDoor
