/-
  DERIVED. GIVEN WITH THE SEED: THE CARDS: each row of YtjboddididohgaaGreatDoorRows.lean that lists a variable, with what it lists TIED to the program's text (the seventh form; the later family's looks); each row that meets fmt, with fmt's text TOLD by the authors' own Lean function (tested against real Go, not proved from fmt's source: count such statements apart). THE CARD IS WHAT COUNTS. Prove the row's statement (the work); the ties are given (YtjboddididohgaaGreatDoorTie.lean); close each card by the builder's one call (the guide's Derived/Test/ToyasCard.lean, 'card_holds'). Laid BY PROGRAM, IN A SANDBOX (cutbox-door.mjs). By AI agents, Wed Nov 11 2026. No macro, syntax, notation, axiom, sorry.
-/
import Derived.Test.YtjboddididohgaaGreatDoorRows
import GoSem.ClaimSeven
namespace Go.Proofs.YtjboddididohgaaGreatDoor
namespace Rows

/-- THE TIED CARD OF 'becketlaw08.SpliceReplays'. -/
def spliceReplaysCard : Claim7 := { stood := { row := spliceReplaysRow, standIns := [], harness := (true, "e09449654110e315fba83886668e26c2f24c07eeb51687b58c3408dc13e9ab3b"), looks := true }, kinds := [], alts := [], laidByText := true, laidKinds := [.data, .data, .data, .data, .sentinel, .sentinel, .pinned], laidTests := true, laidLooks := .later }
def SpliceReplaysCardSaid : Prop := Claim7.holds Tryz.pinned (.plain (OpenSpec.ofChange spliceReplaysSpec)) spliceReplaysCard

/-- THE TIED CARD OF 'becketlaw08.SpliceTucks'. -/
def spliceTucksCard : Claim7 := { stood := { row := spliceTucksRow, standIns := [], harness := (true, "e09449654110e315fba83886668e26c2f24c07eeb51687b58c3408dc13e9ab3b"), looks := true }, kinds := [], alts := [], laidByText := true, laidKinds := [.data, .data, .data, .data, .sentinel, .sentinel, .pinned], laidTests := true, laidLooks := .later }
def SpliceTucksCardSaid : Prop := Claim7.holds Tryz.pinned (.plain (OpenSpec.ofChange spliceTucksSpec)) spliceTucksCard

/-- THE TIED CARD OF 'becketlaw08.SpliceKeeps'. -/
def spliceKeepsCard : Claim7 := { stood := { row := spliceKeepsRow, standIns := [], harness := (true, "e09449654110e315fba83886668e26c2f24c07eeb51687b58c3408dc13e9ab3b"), looks := true }, kinds := [], alts := [], laidByText := true, laidKinds := [.data, .data, .data, .data, .sentinel, .sentinel, .pinned], laidTests := true, laidLooks := .later }
def SpliceKeepsCardSaid : Prop := Claim7.holds Tryz.pinned (.plain (OpenSpec.ofChange spliceKeepsSpec)) spliceKeepsCard

/-- THE SECOND FORM's CARD OF 'becketlaw08.SpliceReplays'. -/
def spliceReplaysUptoCard : Claim7 := { stood := { row := spliceReplaysUptoRow, standIns := [], harness := (true, "e09449654110e315fba83886668e26c2f24c07eeb51687b58c3408dc13e9ab3b"), looks := true }, kinds := [], alts := [], laidByText := true, laidKinds := [.data, .data, .data, .data, .sentinel, .sentinel, .pinned], laidTests := true, laidLooks := .later }
def SpliceReplaysUptoCardSaid : Prop := Claim7.holds Tryz.pinned (.plain (OpenSpec.upto spliceReplaysSpec)) spliceReplaysUptoCard

/-- THE SECOND FORM's CARD OF 'becketlaw08.SpliceTucks'. -/
def spliceTucksUptoCard : Claim7 := { stood := { row := spliceTucksUptoRow, standIns := [], harness := (true, "e09449654110e315fba83886668e26c2f24c07eeb51687b58c3408dc13e9ab3b"), looks := true }, kinds := [], alts := [], laidByText := true, laidKinds := [.data, .data, .data, .data, .sentinel, .sentinel, .pinned], laidTests := true, laidLooks := .later }
def SpliceTucksUptoCardSaid : Prop := Claim7.holds Tryz.pinned (.plain (OpenSpec.upto spliceTucksSpec)) spliceTucksUptoCard

/-- THE SECOND FORM's CARD OF 'becketlaw08.SpliceKeeps'. -/
def spliceKeepsUptoCard : Claim7 := { stood := { row := spliceKeepsUptoRow, standIns := [], harness := (true, "e09449654110e315fba83886668e26c2f24c07eeb51687b58c3408dc13e9ab3b"), looks := true }, kinds := [], alts := [], laidByText := true, laidKinds := [.data, .data, .data, .data, .sentinel, .sentinel, .pinned], laidTests := true, laidLooks := .later }
def SpliceKeepsUptoCardSaid : Prop := Claim7.holds Tryz.pinned (.plain (OpenSpec.upto spliceKeepsSpec)) spliceKeepsUptoCard
end Rows
end Go.Proofs.YtjboddididohgaaGreatDoor
