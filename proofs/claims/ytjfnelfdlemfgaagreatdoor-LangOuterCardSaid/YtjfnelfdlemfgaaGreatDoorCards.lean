/-
  DERIVED. GIVEN WITH THE SEED: THE CARDS: each row of YtjfnelfdlemfgaaGreatDoorRows.lean that lists a variable, with what it lists TIED to the program's text (the seventh form; the later family's looks); each row that meets fmt, with fmt's text TOLD by the authors' own Lean function (tested against real Go, not proved from fmt's source: count such statements apart). THE CARD IS WHAT COUNTS. Prove the row's statement (the work); the ties are given (YtjfnelfdlemfgaaGreatDoorTie.lean); close each card by the builder's one call (the guide's Derived/Test/ToyasCard.lean, 'card_holds'). Laid BY PROGRAM, IN A SANDBOX (cutbox-door.mjs). By AI agents, Wed Nov 11 2026. No macro, syntax, notation, axiom, sorry.
-/
import Derived.Test.YtjfnelfdlemfgaaGreatDoorRows
import GoSem.ClaimSeven
namespace Go.Proofs.YtjfnelfdlemfgaaGreatDoor
namespace Rows

/-- THE TIED CARD OF 'sheafworkslaw09.LangChecks'. -/
def langChecksCard : Claim7 := { stood := { row := langChecksRow, standIns := [], harness := (true, "cd97829217f7168146ea04598df032a5c6efc60a1b4e3f11a61465349e44886a"), looks := true }, kinds := [], alts := [], laidByText := true, laidKinds := [.data, .data, .data, .data, .sentinel, .sentinel, .listed, .data, .widerDeep, .data, .mapped, .pinned], laidTests := true, laidLooks := .later }
def LangChecksCardSaid : Prop := Claim7.holds Tryz.pinned (.plain (OpenSpec.ofChange langChecksSpec)) langChecksCard

/-- THE TIED CARD OF 'sheafworkslaw09.LangFrees'. -/
def langFreesCard : Claim7 := { stood := { row := langFreesRow, standIns := [], harness := (true, "cd97829217f7168146ea04598df032a5c6efc60a1b4e3f11a61465349e44886a"), looks := true }, kinds := [], alts := [], laidByText := true, laidKinds := [.data, .data, .data, .data, .sentinel, .sentinel, .listed, .data, .widerDeep, .data, .mapped, .pinned], laidTests := true, laidLooks := .later }
def LangFreesCardSaid : Prop := Claim7.holds Tryz.pinned (.plain (OpenSpec.ofChange langFreesSpec)) langFreesCard

/-- THE TIED CARD OF 'sheafworkslaw09.LangReads'. -/
def langReadsCard : Claim7 := { stood := { row := langReadsRow, standIns := [], harness := (true, "cd97829217f7168146ea04598df032a5c6efc60a1b4e3f11a61465349e44886a"), looks := true }, kinds := [], alts := [], laidByText := true, laidKinds := [.data, .data, .data, .data, .sentinel, .sentinel, .listed, .data, .widerDeep, .data, .mapped, .pinned], laidTests := true, laidLooks := .later }
def LangReadsCardSaid : Prop := Claim7.holds Tryz.pinned (.plain (OpenSpec.ofChange langReadsSpec)) langReadsCard

/-- THE TIED CARD OF 'sheafworkslaw09.LangNames'. -/
def langNamesCard : Claim7 := { stood := { row := langNamesRow, standIns := [], harness := (true, "cd97829217f7168146ea04598df032a5c6efc60a1b4e3f11a61465349e44886a"), looks := true }, kinds := [], alts := [], laidByText := true, laidKinds := [.data, .data, .data, .data, .sentinel, .sentinel, .listed, .data, .widerDeep, .data, .mapped, .pinned], laidTests := true, laidLooks := .later }
def LangNamesCardSaid : Prop := Claim7.holds Tryz.pinned (.plain (OpenSpec.ofChange langNamesSpec)) langNamesCard

/-- THE TIED CARD OF 'sheafworkslaw09.LangParens'. -/
def langParensCard : Claim7 := { stood := { row := langParensRow, standIns := [], harness := (true, "cd97829217f7168146ea04598df032a5c6efc60a1b4e3f11a61465349e44886a"), looks := true }, kinds := [], alts := [], laidByText := true, laidKinds := [.data, .data, .data, .data, .sentinel, .sentinel, .listed, .data, .widerDeep, .data, .mapped, .pinned], laidTests := true, laidLooks := .later }
def LangParensCardSaid : Prop := Claim7.holds Tryz.pinned (.plain (OpenSpec.ofChange langParensSpec)) langParensCard

/-- THE TIED CARD OF 'sheafworkslaw09.LangCut'. -/
def langCutCard : Claim7 := { stood := { row := langCutRow, standIns := [], harness := (true, "cd97829217f7168146ea04598df032a5c6efc60a1b4e3f11a61465349e44886a"), looks := true }, kinds := [], alts := [], laidByText := true, laidKinds := [.data, .data, .data, .data, .sentinel, .sentinel, .listed, .data, .widerDeep, .data, .mapped, .pinned], laidTests := true, laidLooks := .later }
def LangCutCardSaid : Prop := Claim7.holds Tryz.pinned (.plain (OpenSpec.ofChange langCutSpec)) langCutCard

/-- THE TIED CARD OF 'sheafworkslaw09.LangNodes'. -/
def langNodesCard : Claim7 := { stood := { row := langNodesRow, standIns := [], harness := (true, "cd97829217f7168146ea04598df032a5c6efc60a1b4e3f11a61465349e44886a"), looks := true }, kinds := [], alts := [], laidByText := true, laidKinds := [.data, .data, .data, .data, .sentinel, .sentinel, .listed, .data, .widerDeep, .data, .mapped, .pinned], laidTests := true, laidLooks := .later }
def LangNodesCardSaid : Prop := Claim7.holds Tryz.pinned (.plain (OpenSpec.ofChange langNodesSpec)) langNodesCard

/-- THE TIED CARD OF 'sheafworkslaw09.LangOuter'. -/
def langOuterCard : Claim7 := { stood := { row := langOuterRow, standIns := [], harness := (true, "cd97829217f7168146ea04598df032a5c6efc60a1b4e3f11a61465349e44886a"), looks := true }, kinds := [], alts := [], laidByText := true, laidKinds := [.data, .data, .data, .data, .sentinel, .sentinel, .listed, .data, .widerDeep, .data, .mapped, .pinned], laidTests := true, laidLooks := .later }
def LangOuterCardSaid : Prop := Claim7.holds Tryz.pinned (.plain (OpenSpec.ofChange langOuterSpec)) langOuterCard

/-- THE TIED CARD OF 'sheafworkslaw09.LangSpots'. -/
def langSpotsCard : Claim7 := { stood := { row := langSpotsRow, standIns := [], harness := (true, "cd97829217f7168146ea04598df032a5c6efc60a1b4e3f11a61465349e44886a"), looks := true }, kinds := [], alts := [], laidByText := true, laidKinds := [.data, .data, .data, .data, .sentinel, .sentinel, .listed, .data, .widerDeep, .data, .mapped, .pinned], laidTests := true, laidLooks := .later }
def LangSpotsCardSaid : Prop := Claim7.holds Tryz.pinned (.plain (OpenSpec.ofChange langSpotsSpec)) langSpotsCard

/-- THE TIED CARD OF 'sheafworkslaw09.LangTexts'. -/
def langTextsCard : Claim7 := { stood := { row := langTextsRow, standIns := [], harness := (true, "cd97829217f7168146ea04598df032a5c6efc60a1b4e3f11a61465349e44886a"), looks := true }, kinds := [], alts := [], laidByText := true, laidKinds := [.data, .data, .data, .data, .sentinel, .sentinel, .listed, .data, .widerDeep, .data, .mapped, .pinned], laidTests := true, laidLooks := .later }
def LangTextsCardSaid : Prop := Claim7.holds Tryz.pinned (.plain (OpenSpec.ofChange langTextsSpec)) langTextsCard

/-- THE SECOND FORM's CARD OF 'sheafworkslaw09.LangChecks'. -/
def langChecksUptoCard : Claim7 := { stood := { row := langChecksUptoRow, standIns := [], harness := (true, "cd97829217f7168146ea04598df032a5c6efc60a1b4e3f11a61465349e44886a"), looks := true }, kinds := [], alts := [], laidByText := true, laidKinds := [.data, .data, .data, .data, .sentinel, .sentinel, .listed, .data, .widerDeep, .data, .mapped, .pinned], laidTests := true, laidLooks := .later }
def LangChecksUptoCardSaid : Prop := Claim7.holds Tryz.pinned (.plain (OpenSpec.upto langChecksSpec)) langChecksUptoCard

/-- THE SECOND FORM's CARD OF 'sheafworkslaw09.LangFrees'. -/
def langFreesUptoCard : Claim7 := { stood := { row := langFreesUptoRow, standIns := [], harness := (true, "cd97829217f7168146ea04598df032a5c6efc60a1b4e3f11a61465349e44886a"), looks := true }, kinds := [], alts := [], laidByText := true, laidKinds := [.data, .data, .data, .data, .sentinel, .sentinel, .listed, .data, .widerDeep, .data, .mapped, .pinned], laidTests := true, laidLooks := .later }
def LangFreesUptoCardSaid : Prop := Claim7.holds Tryz.pinned (.plain (OpenSpec.upto langFreesSpec)) langFreesUptoCard

/-- THE SECOND FORM's CARD OF 'sheafworkslaw09.LangReads'. -/
def langReadsUptoCard : Claim7 := { stood := { row := langReadsUptoRow, standIns := [], harness := (true, "cd97829217f7168146ea04598df032a5c6efc60a1b4e3f11a61465349e44886a"), looks := true }, kinds := [], alts := [], laidByText := true, laidKinds := [.data, .data, .data, .data, .sentinel, .sentinel, .listed, .data, .widerDeep, .data, .mapped, .pinned], laidTests := true, laidLooks := .later }
def LangReadsUptoCardSaid : Prop := Claim7.holds Tryz.pinned (.plain (OpenSpec.upto langReadsSpec)) langReadsUptoCard

/-- THE SECOND FORM's CARD OF 'sheafworkslaw09.LangNames'. -/
def langNamesUptoCard : Claim7 := { stood := { row := langNamesUptoRow, standIns := [], harness := (true, "cd97829217f7168146ea04598df032a5c6efc60a1b4e3f11a61465349e44886a"), looks := true }, kinds := [], alts := [], laidByText := true, laidKinds := [.data, .data, .data, .data, .sentinel, .sentinel, .listed, .data, .widerDeep, .data, .mapped, .pinned], laidTests := true, laidLooks := .later }
def LangNamesUptoCardSaid : Prop := Claim7.holds Tryz.pinned (.plain (OpenSpec.upto langNamesSpec)) langNamesUptoCard

/-- THE SECOND FORM's CARD OF 'sheafworkslaw09.LangParens'. -/
def langParensUptoCard : Claim7 := { stood := { row := langParensUptoRow, standIns := [], harness := (true, "cd97829217f7168146ea04598df032a5c6efc60a1b4e3f11a61465349e44886a"), looks := true }, kinds := [], alts := [], laidByText := true, laidKinds := [.data, .data, .data, .data, .sentinel, .sentinel, .listed, .data, .widerDeep, .data, .mapped, .pinned], laidTests := true, laidLooks := .later }
def LangParensUptoCardSaid : Prop := Claim7.holds Tryz.pinned (.plain (OpenSpec.upto langParensSpec)) langParensUptoCard

/-- THE SECOND FORM's CARD OF 'sheafworkslaw09.LangCut'. -/
def langCutUptoCard : Claim7 := { stood := { row := langCutUptoRow, standIns := [], harness := (true, "cd97829217f7168146ea04598df032a5c6efc60a1b4e3f11a61465349e44886a"), looks := true }, kinds := [], alts := [], laidByText := true, laidKinds := [.data, .data, .data, .data, .sentinel, .sentinel, .listed, .data, .widerDeep, .data, .mapped, .pinned], laidTests := true, laidLooks := .later }
def LangCutUptoCardSaid : Prop := Claim7.holds Tryz.pinned (.plain (OpenSpec.upto langCutSpec)) langCutUptoCard

/-- THE SECOND FORM's CARD OF 'sheafworkslaw09.LangNodes'. -/
def langNodesUptoCard : Claim7 := { stood := { row := langNodesUptoRow, standIns := [], harness := (true, "cd97829217f7168146ea04598df032a5c6efc60a1b4e3f11a61465349e44886a"), looks := true }, kinds := [], alts := [], laidByText := true, laidKinds := [.data, .data, .data, .data, .sentinel, .sentinel, .listed, .data, .widerDeep, .data, .mapped, .pinned], laidTests := true, laidLooks := .later }
def LangNodesUptoCardSaid : Prop := Claim7.holds Tryz.pinned (.plain (OpenSpec.upto langNodesSpec)) langNodesUptoCard

/-- THE SECOND FORM's CARD OF 'sheafworkslaw09.LangOuter'. -/
def langOuterUptoCard : Claim7 := { stood := { row := langOuterUptoRow, standIns := [], harness := (true, "cd97829217f7168146ea04598df032a5c6efc60a1b4e3f11a61465349e44886a"), looks := true }, kinds := [], alts := [], laidByText := true, laidKinds := [.data, .data, .data, .data, .sentinel, .sentinel, .listed, .data, .widerDeep, .data, .mapped, .pinned], laidTests := true, laidLooks := .later }
def LangOuterUptoCardSaid : Prop := Claim7.holds Tryz.pinned (.plain (OpenSpec.upto langOuterSpec)) langOuterUptoCard

/-- THE SECOND FORM's CARD OF 'sheafworkslaw09.LangSpots'. -/
def langSpotsUptoCard : Claim7 := { stood := { row := langSpotsUptoRow, standIns := [], harness := (true, "cd97829217f7168146ea04598df032a5c6efc60a1b4e3f11a61465349e44886a"), looks := true }, kinds := [], alts := [], laidByText := true, laidKinds := [.data, .data, .data, .data, .sentinel, .sentinel, .listed, .data, .widerDeep, .data, .mapped, .pinned], laidTests := true, laidLooks := .later }
def LangSpotsUptoCardSaid : Prop := Claim7.holds Tryz.pinned (.plain (OpenSpec.upto langSpotsSpec)) langSpotsUptoCard

/-- THE SECOND FORM's CARD OF 'sheafworkslaw09.LangTexts'. -/
def langTextsUptoCard : Claim7 := { stood := { row := langTextsUptoRow, standIns := [], harness := (true, "cd97829217f7168146ea04598df032a5c6efc60a1b4e3f11a61465349e44886a"), looks := true }, kinds := [], alts := [], laidByText := true, laidKinds := [.data, .data, .data, .data, .sentinel, .sentinel, .listed, .data, .widerDeep, .data, .mapped, .pinned], laidTests := true, laidLooks := .later }
def LangTextsUptoCardSaid : Prop := Claim7.holds Tryz.pinned (.plain (OpenSpec.upto langTextsSpec)) langTextsUptoCard
end Rows
end Go.Proofs.YtjfnelfdlemfgaaGreatDoor
