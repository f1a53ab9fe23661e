/-
  DERIVED. GIVEN WITH THE SEED: THE CARDS: each row of YtpnecffgnjijjaaGreatDoorRows.lean that lists a variable, with what it lists TIED to the program's text (the seventh form; the later family's looks); each row that meets fmt, with fmt's text TOLD by the authors' own Lean function (tested against real Go, not proved from fmt's source: count such statements apart). THE CARD IS WHAT COUNTS. Prove the row's statement (the work); the ties are given (YtpnecffgnjijjaaGreatDoorTie.lean); close each card by the builder's one call (the guide's Derived/Test/ToyasCard.lean, 'card_holds'). Laid BY PROGRAM, IN A SANDBOX (cutbox-door.mjs). By AI agents, Wed Nov 11 2026. No macro, syntax, notation, axiom, sorry.
-/
import Derived.Test.YtpnecffgnjijjaaGreatDoorRows
import GoSem.ClaimSeven
namespace Go.Proofs.YtpnecffgnjijjaaGreatDoor
namespace Rows

/-- THE TIED CARD OF 'beckettop.TopHawserOrders'. -/
def topHawserOrdersCard : Claim7 := { stood := { row := topHawserOrdersRow, standIns := [], harness := (true, "c0eabaac8e179302475514b80d4c4592d3d19c68184491c495fcee3b63386137"), looks := true }, kinds := [], alts := [], laidByText := true, laidKinds := [.data, .data, .data, .data, .sentinel, .sentinel, .pinned], laidTests := true, laidLooks := .later }
def TopHawserOrdersCardSaid : Prop := Claim7.holds Tryz.pinned (.plain (OpenSpec.ofChange topHawserOrdersSpec)) topHawserOrdersCard

/-- THE SECOND FORM's CARD OF 'beckettop.TopHawserOrders'. -/
def topHawserOrdersUptoCard : Claim7 := { stood := { row := topHawserOrdersUptoRow, standIns := [], harness := (true, "c0eabaac8e179302475514b80d4c4592d3d19c68184491c495fcee3b63386137"), looks := true }, kinds := [], alts := [], laidByText := true, laidKinds := [.data, .data, .data, .data, .sentinel, .sentinel, .pinned], laidTests := true, laidLooks := .later }
def TopHawserOrdersUptoCardSaid : Prop := Claim7.holds Tryz.pinned (.plain (OpenSpec.upto topHawserOrdersSpec)) topHawserOrdersUptoCard
end Rows
end Go.Proofs.YtpnecffgnjijjaaGreatDoor
