/-
  DERIVED. GIVEN WITH THE SEED: THE CARDS: each row of YtpegkendiefkaaaGreatDoorRows.lean that lists a variable, with what it lists TIED to the program's text (the seventh form; the later family's looks); each row that meets fmt, with fmt's text TOLD by the authors' own Lean function (tested against real Go, not proved from fmt's source: count such statements apart). THE CARD IS WHAT COUNTS. Prove the row's statement (the work); the ties are given (YtpegkendiefkaaaGreatDoorTie.lean); close each card by the builder's one call (the guide's Derived/Test/ToyasCard.lean, 'card_holds'). Laid BY PROGRAM, IN A SANDBOX (cutbox-door.mjs). By AI agents, Wed Nov 11 2026. No macro, syntax, notation, axiom, sorry.
-/
import Derived.Test.YtpegkendiefkaaaGreatDoorRows
import GoSem.ClaimSeven
namespace Go.Proofs.YtpegkendiefkaaaGreatDoor
namespace Rows

/-- THE TIED CARD OF 'becketlaw06.PatternClasses'. -/
def patternClassesCard : Claim7 := { stood := { row := patternClassesRow, standIns := [], harness := (true, "1d60964e2849f12eacdfb618f6052f3bef09cfb9c06ce760a488b9f69e24fca8"), looks := false }, kinds := [], alts := [], laidByText := true, laidKinds := [.data, .pinned], laidTests := true, laidLooks := .later }
def PatternClassesCardSaid : Prop := Claim7.holds Tryz.pinned (.plain (OpenSpec.ofChange patternClassesSpec)) patternClassesCard

/-- THE SECOND FORM's CARD OF 'becketlaw06.PatternClasses'. -/
def patternClassesUptoCard : Claim7 := { stood := { row := patternClassesUptoRow, standIns := [], harness := (true, "1d60964e2849f12eacdfb618f6052f3bef09cfb9c06ce760a488b9f69e24fca8"), looks := false }, kinds := [], alts := [], laidByText := true, laidKinds := [.data, .pinned], laidTests := true, laidLooks := .later }
def PatternClassesUptoCardSaid : Prop := Claim7.holds Tryz.pinned (.plain (OpenSpec.upto patternClassesSpec)) patternClassesUptoCard
end Rows
end Go.Proofs.YtpegkendiefkaaaGreatDoor
