/-
  DERIVED. GIVEN WITH THE SEED: THE CARDS: each row of YtjcflcpjglpicaaGreatDoorRows.lean that lists a variable, with what it lists TIED to the program's text (the seventh form; the later family's looks); each row that meets fmt, with fmt's text TOLD by the authors' own Lean function (tested against real Go, not proved from fmt's source: count such statements apart). THE CARD IS WHAT COUNTS. Prove the row's statement (the work); the ties are given (YtjcflcpjglpicaaGreatDoorTie.lean); close each card by the builder's one call (the guide's Derived/Test/ToyasCard.lean, 'card_holds'). Laid BY PROGRAM, IN A SANDBOX (cutbox-door.mjs). By AI agents, Wed Nov 11 2026. No macro, syntax, notation, axiom, sorry.
-/
import Derived.Test.YtjcflcpjglpicaaGreatDoorRows
import GoSem.ClaimSeven
namespace Go.Proofs.YtjcflcpjglpicaaGreatDoor
namespace Rows

/-- THE TIED CARD OF 'becketlaw09.WorksCuts'. -/
def worksCutsCard : Claim7 := { stood := { row := worksCutsRow, standIns := [], harness := (true, "f00d98c362e3e9d9d8b3235d898f57a31eca9e88ea26e4eadb3e0538bfd23158"), looks := true }, kinds := [], alts := [], laidByText := true, laidKinds := [.data, .data, .data, .data, .sentinel, .sentinel, .pinned], laidTests := true, laidLooks := .later }
def WorksCutsCardSaid : Prop := Claim7.holds Tryz.pinned (.plain (OpenSpec.ofChange worksCutsSpec)) worksCutsCard

/-- THE SECOND FORM's CARD OF 'becketlaw09.WorksCuts'. -/
def worksCutsUptoCard : Claim7 := { stood := { row := worksCutsUptoRow, standIns := [], harness := (true, "f00d98c362e3e9d9d8b3235d898f57a31eca9e88ea26e4eadb3e0538bfd23158"), looks := true }, kinds := [], alts := [], laidByText := true, laidKinds := [.data, .data, .data, .data, .sentinel, .sentinel, .pinned], laidTests := true, laidLooks := .later }
def WorksCutsUptoCardSaid : Prop := Claim7.holds Tryz.pinned (.plain (OpenSpec.upto worksCutsSpec)) worksCutsUptoCard
end Rows
end Go.Proofs.YtjcflcpjglpicaaGreatDoor
