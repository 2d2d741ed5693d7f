/-
  DERIVED. GIVEN WITH THE SEED: THE PROGRAM's TIES (one call each: nine closed facts by the kernel) AND EACH ROW's TIE, after the 31st guide's Derived/Test/Toyas{Tie, Card}.lean. No idea stands in it: it is a product of the set-up. Laid BY PROGRAM, IN A SANDBOX (cutbox-door.mjs). By AI agents, Wed Nov 11 2026. No macro, syntax, notation, axiom, sorry.
-/
import Derived.Test.YtpjcmiaanjcanaaGreatDoorRows
import Derived.LaidByTextLater
import Derived.SevenTiedAt
import Derived.LaidSub
import Derived.LaidOnce
namespace Go.Proofs.YtpjcmiaanjcanaaGreatDoor
open Go
set_option maxRecDepth 100000
theorem seatTie1 : Tryz.prog.laidByTextLater [("sheafworks/nest.counters", Rows.laid_sheafworks_nest_counters), ("sheafworks/nest.arity", Rows.laid_sheafworks_nest_arity), ("sheafworks/nest.kinds", Rows.laid_sheafworks_nest_kinds), ("sheafworks/libg.nobody", Rows.laid_sheafworks_libg_nobody), ("sheafworks/libg.names", Rows.laid_sheafworks_libg_names)] [.funcs, .data, .data, .data, .widerDeep] true :=
  Program.laidByTextLater_by_one 34 8 7 (by kernel_rfl) (by kernel_rfl) (by kernel_rfl) (by kernel_rfl) (by kernel_rfl) (by kernel_rfl) (fun _ _ => by kernel_rfl)
theorem noOwnUnsafe : Tryz.pinned.checked.prog.headLifts.contains "ownunsafe" = false := by kernel_rfl
theorem tie : Tryz.prog.laidByTextLater [("sheafworks/nest.counters", Rows.laid_sheafworks_nest_counters), ("sheafworks/nest.arity", Rows.laid_sheafworks_nest_arity), ("sheafworks/nest.kinds", Rows.laid_sheafworks_nest_kinds), ("sheafworks/libg.nobody", Rows.laid_sheafworks_libg_nobody), ("sheafworks/libg.names", Rows.laid_sheafworks_libg_names)] [.funcs, .data, .data, .data, .widerDeep] true :=
  Program.laidByTextLater.sub seatTie1 ["sheafworks/nest.counters", "sheafworks/nest.arity", "sheafworks/nest.kinds", "sheafworks/libg.nobody", "sheafworks/libg.names"] (by kernel_rfl) (by kernel_rfl)
theorem graphDefines_row_tie : Rows.graphDefinesRow.laidByTextAt .later Tryz.pinned [.funcs, .data, .data, .data, .widerDeep] true :=
  OpenClaim.laidByTextAt_later rfl rfl tie noOwnUnsafe
theorem graphDefinesUpto_row_tie : Rows.graphDefinesUptoRow.laidByTextAt .later Tryz.pinned [.funcs, .data, .data, .data, .widerDeep] true :=
  OpenClaim.laidByTextAt_later rfl rfl tie noOwnUnsafe
end Go.Proofs.YtpjcmiaanjcanaaGreatDoor
