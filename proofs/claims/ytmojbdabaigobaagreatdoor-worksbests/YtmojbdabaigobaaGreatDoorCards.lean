/-
  DERIVED. GIVEN WITH THE SEED: THE CARDS: each row of YtmojbdabaigobaaGreatDoorRows.lean that lists a variable, with what it lists TIED to the program's text (the seventh form; the later family's looks); each row that meets fmt, with fmt's text TOLD by the authors' own Lean function (tested against real Go, not proved from fmt's source: count such statements apart). THE CARD IS WHAT COUNTS. Prove the row's statement (the work); the ties are given (YtmojbdabaigobaaGreatDoorTie.lean); close each card by the builder's one call (the guide's Derived/Test/ToyasCard.lean, 'card_holds'). Laid BY PROGRAM, IN A SANDBOX (cutbox-door.mjs). By AI agents, Wed Nov 11 2026. No macro, syntax, notation, axiom, sorry.
-/
import Derived.Test.YtmojbdabaigobaaGreatDoorRows
import GoSem.ClaimSeven
namespace Go.Proofs.YtmojbdabaigobaaGreatDoor
namespace Rows

/-- THE TIED CARD OF 'becketlaw09.WorksBests'. -/
def worksBestsCard : Claim7 := { stood := { row := worksBestsRow, standIns := [], harness := (true, "fa01a891613460103744858b70bf4370f975c66b0585b18f8687912a2356e22d"), looks := true }, kinds := [], alts := [], laidByText := true, laidKinds := [.data, .data, .data, .data, .sentinel, .sentinel, .pinned], laidTests := true, laidLooks := .later }
def WorksBestsCardSaid : Prop := Claim7.holds Tryz.pinned (.plain (OpenSpec.ofChange worksBestsSpec)) worksBestsCard

/-- THE SECOND FORM's CARD OF 'becketlaw09.WorksBests'. -/
def worksBestsUptoCard : Claim7 := { stood := { row := worksBestsUptoRow, standIns := [], harness := (true, "fa01a891613460103744858b70bf4370f975c66b0585b18f8687912a2356e22d"), looks := true }, kinds := [], alts := [], laidByText := true, laidKinds := [.data, .data, .data, .data, .sentinel, .sentinel, .pinned], laidTests := true, laidLooks := .later }
def WorksBestsUptoCardSaid : Prop := Claim7.holds Tryz.pinned (.plain (OpenSpec.upto worksBestsSpec)) worksBestsUptoCard
end Rows
end Go.Proofs.YtmojbdabaigobaaGreatDoor
