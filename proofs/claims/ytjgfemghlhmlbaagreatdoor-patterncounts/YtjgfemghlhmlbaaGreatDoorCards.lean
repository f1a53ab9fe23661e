/-
  DERIVED. GIVEN WITH THE SEED: THE CARDS: each row of YtjgfemghlhmlbaaGreatDoorRows.lean that lists a variable, with what it lists TIED to the program's text (the seventh form; the later family's looks); each row that meets fmt, with fmt's text TOLD by the authors' own Lean function (tested against real Go, not proved from fmt's source: count such statements apart). THE CARD IS WHAT COUNTS. Prove the row's statement (the work); the ties are given (YtjgfemghlhmlbaaGreatDoorTie.lean); close each card by the builder's one call (the guide's Derived/Test/ToyasCard.lean, 'card_holds'). Laid BY PROGRAM, IN A SANDBOX (cutbox-door.mjs). By AI agents, Wed Nov 11 2026. No macro, syntax, notation, axiom, sorry.
-/
import Derived.Test.YtjgfemghlhmlbaaGreatDoorRows
import GoSem.ClaimSeven
namespace Go.Proofs.YtjgfemghlhmlbaaGreatDoor
namespace Rows

/-- THE TIED CARD OF 'becketlaw06.PatternCounts'. -/
def patternCountsCard : Claim7 := { stood := { row := patternCountsRow, standIns := [], harness := (true, "2323d67ca9a778ab6c281275aa21c3235cc8bb3c784b5b0788a8221f370d7305"), looks := false }, kinds := [], alts := [], laidByText := true, laidKinds := [.data, .pinned], laidTests := true, laidLooks := .later }
def PatternCountsCardSaid : Prop := Claim7.holds Tryz.pinned (.plain (OpenSpec.ofChange patternCountsSpec)) patternCountsCard

/-- THE SECOND FORM's CARD OF 'becketlaw06.PatternCounts'. -/
def patternCountsUptoCard : Claim7 := { stood := { row := patternCountsUptoRow, standIns := [], harness := (true, "2323d67ca9a778ab6c281275aa21c3235cc8bb3c784b5b0788a8221f370d7305"), looks := false }, kinds := [], alts := [], laidByText := true, laidKinds := [.data, .pinned], laidTests := true, laidLooks := .later }
def PatternCountsUptoCardSaid : Prop := Claim7.holds Tryz.pinned (.plain (OpenSpec.upto patternCountsSpec)) patternCountsUptoCard
end Rows
end Go.Proofs.YtjgfemghlhmlbaaGreatDoor
