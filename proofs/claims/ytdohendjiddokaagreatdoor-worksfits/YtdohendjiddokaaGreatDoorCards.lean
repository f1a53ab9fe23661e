/-
  DERIVED. GIVEN WITH THE SEED: THE CARDS: each row of YtdohendjiddokaaGreatDoorRows.lean that lists a variable, with what it lists TIED to the program's text (the seventh form; the later family's looks); each row that meets fmt, with fmt's text TOLD by the authors' own Lean function (tested against real Go, not proved from fmt's source: count such statements apart). THE CARD IS WHAT COUNTS. Prove the row's statement (the work); the ties are given (YtdohendjiddokaaGreatDoorTie.lean); close each card by the builder's one call (the guide's Derived/Test/ToyasCard.lean, 'card_holds'). Laid BY PROGRAM, IN A SANDBOX (cutbox-door.mjs). By AI agents, Wed Nov 11 2026. No macro, syntax, notation, axiom, sorry.
-/
import Derived.Test.YtdohendjiddokaaGreatDoorRows
import GoSem.ClaimSeven
namespace Go.Proofs.YtdohendjiddokaaGreatDoor
namespace Rows

/-- THE TIED CARD OF 'becketlaw09.WorksFits'. -/
def worksFitsCard : Claim7 := { stood := { row := worksFitsRow, standIns := [], harness := (true, "d611f698a129bbdddd3e2fecd8c9d712bfe3ca3a300370af29654910aa6413de"), looks := true }, kinds := [], alts := [], laidByText := true, laidKinds := [.data, .data, .data, .data, .sentinel, .sentinel, .pinned], laidTests := true, laidLooks := .later }
def WorksFitsCardSaid : Prop := Claim7.holds Tryz.pinned (.plain (OpenSpec.ofChange worksFitsSpec)) worksFitsCard

/-- THE SECOND FORM's CARD OF 'becketlaw09.WorksFits'. -/
def worksFitsUptoCard : Claim7 := { stood := { row := worksFitsUptoRow, standIns := [], harness := (true, "d611f698a129bbdddd3e2fecd8c9d712bfe3ca3a300370af29654910aa6413de"), looks := true }, kinds := [], alts := [], laidByText := true, laidKinds := [.data, .data, .data, .data, .sentinel, .sentinel, .pinned], laidTests := true, laidLooks := .later }
def WorksFitsUptoCardSaid : Prop := Claim7.holds Tryz.pinned (.plain (OpenSpec.upto worksFitsSpec)) worksFitsUptoCard
end Rows
end Go.Proofs.YtdohendjiddokaaGreatDoor
