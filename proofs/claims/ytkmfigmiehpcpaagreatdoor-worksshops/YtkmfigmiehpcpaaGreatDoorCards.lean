/-
  DERIVED. GIVEN WITH THE SEED: THE CARDS: each row of YtkmfigmiehpcpaaGreatDoorRows.lean that lists a variable, with what it lists TIED to the program's text (the seventh form; the later family's looks); each row that meets fmt, with fmt's text TOLD by the authors' own Lean function (tested against real Go, not proved from fmt's source: count such statements apart). THE CARD IS WHAT COUNTS. Prove the row's statement (the work); the ties are given (YtkmfigmiehpcpaaGreatDoorTie.lean); close each card by the builder's one call (the guide's Derived/Test/ToyasCard.lean, 'card_holds'). Laid BY PROGRAM, IN A SANDBOX (cutbox-door.mjs). By AI agents, Wed Nov 11 2026. No macro, syntax, notation, axiom, sorry.
-/
import Derived.Test.YtkmfigmiehpcpaaGreatDoorRows
import GoSem.ClaimSeven
namespace Go.Proofs.YtkmfigmiehpcpaaGreatDoor
namespace Rows

/-- THE TIED CARD OF 'becketlaw09.WorksShops'. -/
def worksShopsCard : Claim7 := { stood := { row := worksShopsRow, standIns := [], harness := (true, "f81f591c06d290832ef1c3103192a463225f688a4f008fea90de614dc2e001e6"), looks := true }, kinds := [], alts := [], laidByText := true, laidKinds := [.data, .data, .data, .data, .sentinel, .sentinel, .pinned], laidTests := true, laidLooks := .later }
def WorksShopsCardSaid : Prop := Claim7.holds Tryz.pinned (.plain (OpenSpec.ofChange worksShopsSpec)) worksShopsCard

/-- THE SECOND FORM's CARD OF 'becketlaw09.WorksShops'. -/
def worksShopsUptoCard : Claim7 := { stood := { row := worksShopsUptoRow, standIns := [], harness := (true, "f81f591c06d290832ef1c3103192a463225f688a4f008fea90de614dc2e001e6"), looks := true }, kinds := [], alts := [], laidByText := true, laidKinds := [.data, .data, .data, .data, .sentinel, .sentinel, .pinned], laidTests := true, laidLooks := .later }
def WorksShopsUptoCardSaid : Prop := Claim7.holds Tryz.pinned (.plain (OpenSpec.upto worksShopsSpec)) worksShopsUptoCard
end Rows
end Go.Proofs.YtkmfigmiehpcpaaGreatDoor
