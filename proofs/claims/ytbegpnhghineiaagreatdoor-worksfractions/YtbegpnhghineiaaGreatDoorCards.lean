/-
  DERIVED. GIVEN WITH THE SEED: THE CARDS: each row of YtbegpnhghineiaaGreatDoorRows.lean that lists a variable, with what it lists TIED to the program's text (the seventh form; the later family's looks); each row that meets fmt, with fmt's text TOLD by the authors' own Lean function (tested against real Go, not proved from fmt's source: count such statements apart). THE CARD IS WHAT COUNTS. Prove the row's statement (the work); the ties are given (YtbegpnhghineiaaGreatDoorTie.lean); close each card by the builder's one call (the guide's Derived/Test/ToyasCard.lean, 'card_holds'). Laid BY PROGRAM, IN A SANDBOX (cutbox-door.mjs). By AI agents, Wed Nov 11 2026. No macro, syntax, notation, axiom, sorry.
-/
import Derived.Test.YtbegpnhghineiaaGreatDoorRows
import GoSem.ClaimSeven
namespace Go.Proofs.YtbegpnhghineiaaGreatDoor
namespace Rows

/-- THE TIED CARD OF 'becketlaw09.WorksFractions'. -/
def worksFractionsCard : Claim7 := { stood := { row := worksFractionsRow, standIns := [], harness := (true, "aada9c87f6fc7b0fdad198ff0773f0132bfb91ffa35871dfdd3e0eda72f2def4"), looks := true }, kinds := [], alts := [], laidByText := true, laidKinds := [.data, .data, .data, .data, .sentinel, .sentinel, .pinned], laidTests := true, laidLooks := .later }
def WorksFractionsCardSaid : Prop := Claim7.holds Tryz.pinned (.plain (OpenSpec.ofChange worksFractionsSpec)) worksFractionsCard

/-- THE SECOND FORM's CARD OF 'becketlaw09.WorksFractions'. -/
def worksFractionsUptoCard : Claim7 := { stood := { row := worksFractionsUptoRow, standIns := [], harness := (true, "aada9c87f6fc7b0fdad198ff0773f0132bfb91ffa35871dfdd3e0eda72f2def4"), looks := true }, kinds := [], alts := [], laidByText := true, laidKinds := [.data, .data, .data, .data, .sentinel, .sentinel, .pinned], laidTests := true, laidLooks := .later }
def WorksFractionsUptoCardSaid : Prop := Claim7.holds Tryz.pinned (.plain (OpenSpec.upto worksFractionsSpec)) worksFractionsUptoCard
end Rows
end Go.Proofs.YtbegpnhghineiaaGreatDoor
