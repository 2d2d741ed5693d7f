/-
  DERIVED. GIVEN WITH THE SEED: THE CARDS: each row of YtjgigcaelcapdaaDoorRows.lean that lists a variable, with what it lists TIED to the program's text (the seventh form; the later family's looks); each row that meets fmt, with fmt's text TOLD by the authors' own Lean function (tested against real Go, not proved from fmt's source: count such statements apart). THE CARD IS WHAT COUNTS. Prove the row's statement (the work); the ties are given (YtjgigcaelcapdaaDoorTie.lean); close each card by the builder's one call (the guide's Derived/Test/ToyasCard.lean, 'card_holds'). Laid BY PROGRAM, IN A SANDBOX (cutbox-door.mjs). By AI agents, Wed Nov 11 2026. No macro, syntax, notation, axiom, sorry.
-/
import Derived.Test.YtjgigcaelcapdaaDoorRows
import GoSem.ClaimSeven
namespace Go.Proofs.YtjgigcaelcapdaaDoor
namespace Rows

/-- THE TIED CARD OF 'sheafworkslaw35.GraphComps'. -/
def graphCompsCard : Claim7 := { stood := { row := graphCompsRow, standIns := [], harness := (true, "7447e3d5c69697ab014cb9b358f884af5fe9e8f8d72c9ad8b1fb05639d925d2b"), looks := true }, kinds := [], alts := [], laidByText := true, laidKinds := [.funcs, .data, .data, .data], laidTests := true, laidLooks := .later }
def GraphCompsCardSaid : Prop := Claim7.holds Tryd.pinned (.plain (OpenSpec.ofChange graphCompsSpec)) graphCompsCard

/-- THE TIED CARD OF 'sheafworkslaw35.GraphDists'. -/
def graphDistsCard : Claim7 := { stood := { row := graphDistsRow, standIns := [], harness := (true, "7447e3d5c69697ab014cb9b358f884af5fe9e8f8d72c9ad8b1fb05639d925d2b"), looks := true }, kinds := [], alts := [], laidByText := true, laidKinds := [.funcs, .data, .data, .data], laidTests := true, laidLooks := .later }
def GraphDistsCardSaid : Prop := Claim7.holds Tryd.pinned (.plain (OpenSpec.ofChange graphDistsSpec)) graphDistsCard

/-- THE TIED CARD OF 'sheafworkslaw35.GraphLevels'. -/
def graphLevelsCard : Claim7 := { stood := { row := graphLevelsRow, standIns := [], harness := (true, "7447e3d5c69697ab014cb9b358f884af5fe9e8f8d72c9ad8b1fb05639d925d2b"), looks := true }, kinds := [], alts := [], laidByText := true, laidKinds := [.funcs, .data, .data, .data], laidTests := true, laidLooks := .later }
def GraphLevelsCardSaid : Prop := Claim7.holds Tryd.pinned (.plain (OpenSpec.ofChange graphLevelsSpec)) graphLevelsCard

/-- THE TIED CARD OF 'sheafworkslaw35.GraphSums'. -/
def graphSumsCard : Claim7 := { stood := { row := graphSumsRow, standIns := [], harness := (true, "7447e3d5c69697ab014cb9b358f884af5fe9e8f8d72c9ad8b1fb05639d925d2b"), looks := true }, kinds := [], alts := [], laidByText := true, laidKinds := [.funcs, .data, .data, .data], laidTests := true, laidLooks := .later }
def GraphSumsCardSaid : Prop := Claim7.holds Tryd.pinned (.plain (OpenSpec.ofChange graphSumsSpec)) graphSumsCard

/-- THE TIED CARD OF 'sheafworkslaw35.GraphHull'. -/
def graphHullCard : Claim7 := { stood := { row := graphHullRow, standIns := [], harness := (true, "7447e3d5c69697ab014cb9b358f884af5fe9e8f8d72c9ad8b1fb05639d925d2b"), looks := true }, kinds := [], alts := [], laidByText := true, laidKinds := [.funcs, .data, .data, .data], laidTests := true, laidLooks := .later }
def GraphHullCardSaid : Prop := Claim7.holds Tryd.pinned (.plain (OpenSpec.ofChange graphHullSpec)) graphHullCard

/-- THE SECOND FORM's CARD OF 'sheafworkslaw35.GraphComps'. -/
def graphCompsUptoCard : Claim7 := { stood := { row := graphCompsUptoRow, standIns := [], harness := (true, "7447e3d5c69697ab014cb9b358f884af5fe9e8f8d72c9ad8b1fb05639d925d2b"), looks := true }, kinds := [], alts := [], laidByText := true, laidKinds := [.funcs, .data, .data, .data], laidTests := true, laidLooks := .later }
def GraphCompsUptoCardSaid : Prop := Claim7.holds Tryd.pinned (.plain (OpenSpec.upto graphCompsSpec)) graphCompsUptoCard

/-- THE SECOND FORM's CARD OF 'sheafworkslaw35.GraphDists'. -/
def graphDistsUptoCard : Claim7 := { stood := { row := graphDistsUptoRow, standIns := [], harness := (true, "7447e3d5c69697ab014cb9b358f884af5fe9e8f8d72c9ad8b1fb05639d925d2b"), looks := true }, kinds := [], alts := [], laidByText := true, laidKinds := [.funcs, .data, .data, .data], laidTests := true, laidLooks := .later }
def GraphDistsUptoCardSaid : Prop := Claim7.holds Tryd.pinned (.plain (OpenSpec.upto graphDistsSpec)) graphDistsUptoCard

/-- THE SECOND FORM's CARD OF 'sheafworkslaw35.GraphLevels'. -/
def graphLevelsUptoCard : Claim7 := { stood := { row := graphLevelsUptoRow, standIns := [], harness := (true, "7447e3d5c69697ab014cb9b358f884af5fe9e8f8d72c9ad8b1fb05639d925d2b"), looks := true }, kinds := [], alts := [], laidByText := true, laidKinds := [.funcs, .data, .data, .data], laidTests := true, laidLooks := .later }
def GraphLevelsUptoCardSaid : Prop := Claim7.holds Tryd.pinned (.plain (OpenSpec.upto graphLevelsSpec)) graphLevelsUptoCard

/-- THE SECOND FORM's CARD OF 'sheafworkslaw35.GraphSums'. -/
def graphSumsUptoCard : Claim7 := { stood := { row := graphSumsUptoRow, standIns := [], harness := (true, "7447e3d5c69697ab014cb9b358f884af5fe9e8f8d72c9ad8b1fb05639d925d2b"), looks := true }, kinds := [], alts := [], laidByText := true, laidKinds := [.funcs, .data, .data, .data], laidTests := true, laidLooks := .later }
def GraphSumsUptoCardSaid : Prop := Claim7.holds Tryd.pinned (.plain (OpenSpec.upto graphSumsSpec)) graphSumsUptoCard

/-- THE SECOND FORM's CARD OF 'sheafworkslaw35.GraphHull'. -/
def graphHullUptoCard : Claim7 := { stood := { row := graphHullUptoRow, standIns := [], harness := (true, "7447e3d5c69697ab014cb9b358f884af5fe9e8f8d72c9ad8b1fb05639d925d2b"), looks := true }, kinds := [], alts := [], laidByText := true, laidKinds := [.funcs, .data, .data, .data], laidTests := true, laidLooks := .later }
def GraphHullUptoCardSaid : Prop := Claim7.holds Tryd.pinned (.plain (OpenSpec.upto graphHullSpec)) graphHullUptoCard
end Rows
end Go.Proofs.YtjgigcaelcapdaaDoor
