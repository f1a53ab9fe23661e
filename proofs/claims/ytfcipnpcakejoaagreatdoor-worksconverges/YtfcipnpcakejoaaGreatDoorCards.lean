/-
  DERIVED. GIVEN WITH THE SEED: THE CARDS: each row of YtfcipnpcakejoaaGreatDoorRows.lean that lists a variable, with what it lists TIED to the program's text (the seventh form; the later family's looks); each row that meets fmt, with fmt's text TOLD by the authors' own Lean function (tested against real Go, not proved from fmt's source: count such statements apart). THE CARD IS WHAT COUNTS. Prove the row's statement (the work); the ties are given (YtfcipnpcakejoaaGreatDoorTie.lean); close each card by the builder's one call (the guide's Derived/Test/ToyasCard.lean, 'card_holds'). Laid BY PROGRAM, IN A SANDBOX (cutbox-door.mjs). By AI agents, Wed Nov 11 2026. No macro, syntax, notation, axiom, sorry.
-/
import Derived.Test.YtfcipnpcakejoaaGreatDoorRows
import GoSem.ClaimSeven
namespace Go.Proofs.YtfcipnpcakejoaaGreatDoor
namespace Rows

/-- THE TIED CARD OF 'becketlaw09.WorksConverges'. -/
def worksConvergesCard : Claim7 := { stood := { row := worksConvergesRow, standIns := [], harness := (true, "0f40e2c5db95ba31a9263788e04c0ec389751c8c6a52a8dff789c0c1f0db4141"), looks := true }, kinds := [], alts := [], laidByText := true, laidKinds := [.data, .data, .data, .data, .sentinel, .sentinel, .pinned], laidTests := true, laidLooks := .later }
def WorksConvergesCardSaid : Prop := Claim7.holds Tryz.pinned (.plain (OpenSpec.ofChange worksConvergesSpec)) worksConvergesCard

/-- THE SECOND FORM's CARD OF 'becketlaw09.WorksConverges'. -/
def worksConvergesUptoCard : Claim7 := { stood := { row := worksConvergesUptoRow, standIns := [], harness := (true, "0f40e2c5db95ba31a9263788e04c0ec389751c8c6a52a8dff789c0c1f0db4141"), looks := true }, kinds := [], alts := [], laidByText := true, laidKinds := [.data, .data, .data, .data, .sentinel, .sentinel, .pinned], laidTests := true, laidLooks := .later }
def WorksConvergesUptoCardSaid : Prop := Claim7.holds Tryz.pinned (.plain (OpenSpec.upto worksConvergesSpec)) worksConvergesUptoCard
end Rows
end Go.Proofs.YtfcipnpcakejoaaGreatDoor
