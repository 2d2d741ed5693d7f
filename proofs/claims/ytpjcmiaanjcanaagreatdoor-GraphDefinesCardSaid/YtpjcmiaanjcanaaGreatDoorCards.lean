/-
  DERIVED. GIVEN WITH THE SEED: THE CARDS: each row of YtpjcmiaanjcanaaGreatDoorRows.lean that lists a variable, with what it lists TIED to the program's text (the seventh form; the later family's looks); each row that meets fmt, with fmt's text TOLD by the authors' own Lean function (tested against real Go, not proved from fmt's source: count such statements apart). THE CARD IS WHAT COUNTS. Prove the row's statement (the work); the ties are given (YtpjcmiaanjcanaaGreatDoorTie.lean); close each card by the builder's one call (the guide's Derived/Test/ToyasCard.lean, 'card_holds'). Laid BY PROGRAM, IN A SANDBOX (cutbox-door.mjs). By AI agents, Wed Nov 11 2026. No macro, syntax, notation, axiom, sorry.
-/
import Derived.Test.YtpjcmiaanjcanaaGreatDoorRows
import GoSem.ClaimSeven
namespace Go.Proofs.YtpjcmiaanjcanaaGreatDoor
namespace Rows

/-- THE TIED CARD OF 'sheafworkslaw35.GraphDefines'. -/
def graphDefinesCard : Claim7 := { stood := { row := graphDefinesRow, standIns := [], harness := (true, "d39936ba3ac4a81401911802ada0275a5cacf86162a65f51dce1e57a38d805f7"), looks := true }, kinds := [], alts := [], laidByText := true, laidKinds := [.funcs, .data, .data, .data, .widerDeep], laidTests := true, laidLooks := .later }
def GraphDefinesCardSaid : Prop := Claim7.holds Tryz.pinned (.plain (OpenSpec.ofChange graphDefinesSpec)) graphDefinesCard

/-- THE SECOND FORM's CARD OF 'sheafworkslaw35.GraphDefines'. -/
def graphDefinesUptoCard : Claim7 := { stood := { row := graphDefinesUptoRow, standIns := [], harness := (true, "d39936ba3ac4a81401911802ada0275a5cacf86162a65f51dce1e57a38d805f7"), looks := true }, kinds := [], alts := [], laidByText := true, laidKinds := [.funcs, .data, .data, .data, .widerDeep], laidTests := true, laidLooks := .later }
def GraphDefinesUptoCardSaid : Prop := Claim7.holds Tryz.pinned (.plain (OpenSpec.upto graphDefinesSpec)) graphDefinesUptoCard
end Rows
end Go.Proofs.YtpjcmiaanjcanaaGreatDoor
