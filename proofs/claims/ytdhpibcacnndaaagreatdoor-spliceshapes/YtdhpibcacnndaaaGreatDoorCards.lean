/-
  DERIVED. GIVEN WITH THE SEED: THE CARDS: each row of YtdhpibcacnndaaaGreatDoorRows.lean that lists a variable, with what it lists TIED to the program's text (the seventh form; the later family's looks); each row that meets fmt, with fmt's text TOLD by the authors' own Lean function (tested against real Go, not proved from fmt's source: count such statements apart). THE CARD IS WHAT COUNTS. Prove the row's statement (the work); the ties are given (YtdhpibcacnndaaaGreatDoorTie.lean); close each card by the builder's one call (the guide's Derived/Test/ToyasCard.lean, 'card_holds'). Laid BY PROGRAM, IN A SANDBOX (cutbox-door.mjs). By AI agents, Wed Nov 11 2026. No macro, syntax, notation, axiom, sorry.
-/
import Derived.Test.YtdhpibcacnndaaaGreatDoorRows
import GoSem.ClaimSeven
namespace Go.Proofs.YtdhpibcacnndaaaGreatDoor
namespace Rows

/-- THE TIED CARD OF 'becketlaw08.SpliceReplays'. -/
def spliceReplaysCard : Claim7 := { stood := { row := spliceReplaysRow, standIns := [], harness := (true, "45b23b177fe33ce17c1f36998cf9e14c90bdfdd22ce380e67ad76d96d2fb3c48"), looks := true }, kinds := [], alts := [], laidByText := true, laidKinds := [.data, .data, .data, .data, .sentinel, .sentinel, .pinned], laidTests := true, laidLooks := .later }
def SpliceReplaysCardSaid : Prop := Claim7.holds Tryz.pinned (.plain (OpenSpec.ofChange spliceReplaysSpec)) spliceReplaysCard

/-- THE TIED CARD OF 'becketlaw08.SpliceHolds'. -/
def spliceHoldsCard : Claim7 := { stood := { row := spliceHoldsRow, standIns := [], harness := (true, "45b23b177fe33ce17c1f36998cf9e14c90bdfdd22ce380e67ad76d96d2fb3c48"), looks := true }, kinds := [], alts := [], laidByText := true, laidKinds := [.data, .data, .data, .data, .sentinel, .sentinel, .pinned], laidTests := true, laidLooks := .later }
def SpliceHoldsCardSaid : Prop := Claim7.holds Tryz.pinned (.plain (OpenSpec.ofChange spliceHoldsSpec)) spliceHoldsCard

/-- THE TIED CARD OF 'becketlaw08.SpliceStrengths'. -/
def spliceStrengthsCard : Claim7 := { stood := { row := spliceStrengthsRow, standIns := [], harness := (true, "45b23b177fe33ce17c1f36998cf9e14c90bdfdd22ce380e67ad76d96d2fb3c48"), looks := true }, kinds := [], alts := [], laidByText := true, laidKinds := [.data, .data, .data, .data, .sentinel, .sentinel, .pinned], laidTests := true, laidLooks := .later }
def SpliceStrengthsCardSaid : Prop := Claim7.holds Tryz.pinned (.plain (OpenSpec.ofChange spliceStrengthsSpec)) spliceStrengthsCard

/-- THE TIED CARD OF 'becketlaw08.SpliceSlings'. -/
def spliceSlingsCard : Claim7 := { stood := { row := spliceSlingsRow, standIns := [], harness := (true, "45b23b177fe33ce17c1f36998cf9e14c90bdfdd22ce380e67ad76d96d2fb3c48"), looks := true }, kinds := [], alts := [], laidByText := true, laidKinds := [.data, .data, .data, .data, .sentinel, .sentinel, .pinned], laidTests := true, laidLooks := .later }
def SpliceSlingsCardSaid : Prop := Claim7.holds Tryz.pinned (.plain (OpenSpec.ofChange spliceSlingsSpec)) spliceSlingsCard

/-- THE TIED CARD OF 'becketlaw08.SpliceNets'. -/
def spliceNetsCard : Claim7 := { stood := { row := spliceNetsRow, standIns := [], harness := (true, "45b23b177fe33ce17c1f36998cf9e14c90bdfdd22ce380e67ad76d96d2fb3c48"), looks := true }, kinds := [], alts := [], laidByText := true, laidKinds := [.data, .data, .data, .data, .sentinel, .sentinel, .pinned], laidTests := true, laidLooks := .later }
def SpliceNetsCardSaid : Prop := Claim7.holds Tryz.pinned (.plain (OpenSpec.ofChange spliceNetsSpec)) spliceNetsCard

/-- THE TIED CARD OF 'becketlaw08.SpliceShapes'. -/
def spliceShapesCard : Claim7 := { stood := { row := spliceShapesRow, standIns := [], harness := (true, "45b23b177fe33ce17c1f36998cf9e14c90bdfdd22ce380e67ad76d96d2fb3c48"), looks := true }, kinds := [], alts := [], laidByText := true, laidKinds := [.data, .data, .data, .data, .sentinel, .sentinel, .pinned], laidTests := true, laidLooks := .later }
def SpliceShapesCardSaid : Prop := Claim7.holds Tryz.pinned (.plain (OpenSpec.ofChange spliceShapesSpec)) spliceShapesCard

/-- THE TIED CARD OF 'becketlaw08.SpliceWhole'. -/
def spliceWholeCard : Claim7 := { stood := { row := spliceWholeRow, standIns := [], harness := (true, "45b23b177fe33ce17c1f36998cf9e14c90bdfdd22ce380e67ad76d96d2fb3c48"), looks := true }, kinds := [], alts := [], laidByText := true, laidKinds := [.data, .data, .data, .data, .sentinel, .sentinel, .pinned], laidTests := true, laidLooks := .later }
def SpliceWholeCardSaid : Prop := Claim7.holds Tryz.pinned (.plain (OpenSpec.ofChange spliceWholeSpec)) spliceWholeCard

/-- THE TIED CARD OF 'becketlaw08.SpliceReduces'. -/
def spliceReducesCard : Claim7 := { stood := { row := spliceReducesRow, standIns := [], harness := (true, "45b23b177fe33ce17c1f36998cf9e14c90bdfdd22ce380e67ad76d96d2fb3c48"), looks := true }, kinds := [], alts := [], laidByText := true, laidKinds := [.data, .data, .data, .data, .sentinel, .sentinel, .pinned], laidTests := true, laidLooks := .later }
def SpliceReducesCardSaid : Prop := Claim7.holds Tryz.pinned (.plain (OpenSpec.ofChange spliceReducesSpec)) spliceReducesCard

/-- THE TIED CARD OF 'becketlaw08.SpliceCarries'. -/
def spliceCarriesCard : Claim7 := { stood := { row := spliceCarriesRow, standIns := [], harness := (true, "45b23b177fe33ce17c1f36998cf9e14c90bdfdd22ce380e67ad76d96d2fb3c48"), looks := true }, kinds := [], alts := [], laidByText := true, laidKinds := [.data, .data, .data, .data, .sentinel, .sentinel, .pinned], laidTests := true, laidLooks := .later }
def SpliceCarriesCardSaid : Prop := Claim7.holds Tryz.pinned (.plain (OpenSpec.ofChange spliceCarriesSpec)) spliceCarriesCard

/-- THE TIED CARD OF 'becketlaw08.SpliceCounts'. -/
def spliceCountsCard : Claim7 := { stood := { row := spliceCountsRow, standIns := [], harness := (true, "45b23b177fe33ce17c1f36998cf9e14c90bdfdd22ce380e67ad76d96d2fb3c48"), looks := true }, kinds := [], alts := [], laidByText := true, laidKinds := [.data, .data, .data, .data, .sentinel, .sentinel, .pinned], laidTests := true, laidLooks := .later }
def SpliceCountsCardSaid : Prop := Claim7.holds Tryz.pinned (.plain (OpenSpec.ofChange spliceCountsSpec)) spliceCountsCard

/-- THE TIED CARD OF 'becketlaw08.SpliceTucks'. -/
def spliceTucksCard : Claim7 := { stood := { row := spliceTucksRow, standIns := [], harness := (true, "45b23b177fe33ce17c1f36998cf9e14c90bdfdd22ce380e67ad76d96d2fb3c48"), looks := true }, kinds := [], alts := [], laidByText := true, laidKinds := [.data, .data, .data, .data, .sentinel, .sentinel, .pinned], laidTests := true, laidLooks := .later }
def SpliceTucksCardSaid : Prop := Claim7.holds Tryz.pinned (.plain (OpenSpec.ofChange spliceTucksSpec)) spliceTucksCard

/-- THE TIED CARD OF 'becketlaw08.SpliceKeeps'. -/
def spliceKeepsCard : Claim7 := { stood := { row := spliceKeepsRow, standIns := [], harness := (true, "45b23b177fe33ce17c1f36998cf9e14c90bdfdd22ce380e67ad76d96d2fb3c48"), looks := true }, kinds := [], alts := [], laidByText := true, laidKinds := [.data, .data, .data, .data, .sentinel, .sentinel, .pinned], laidTests := true, laidLooks := .later }
def SpliceKeepsCardSaid : Prop := Claim7.holds Tryz.pinned (.plain (OpenSpec.ofChange spliceKeepsSpec)) spliceKeepsCard

/-- THE SECOND FORM's CARD OF 'becketlaw08.SpliceReplays'. -/
def spliceReplaysUptoCard : Claim7 := { stood := { row := spliceReplaysUptoRow, standIns := [], harness := (true, "45b23b177fe33ce17c1f36998cf9e14c90bdfdd22ce380e67ad76d96d2fb3c48"), looks := true }, kinds := [], alts := [], laidByText := true, laidKinds := [.data, .data, .data, .data, .sentinel, .sentinel, .pinned], laidTests := true, laidLooks := .later }
def SpliceReplaysUptoCardSaid : Prop := Claim7.holds Tryz.pinned (.plain (OpenSpec.upto spliceReplaysSpec)) spliceReplaysUptoCard

/-- THE SECOND FORM's CARD OF 'becketlaw08.SpliceHolds'. -/
def spliceHoldsUptoCard : Claim7 := { stood := { row := spliceHoldsUptoRow, standIns := [], harness := (true, "45b23b177fe33ce17c1f36998cf9e14c90bdfdd22ce380e67ad76d96d2fb3c48"), looks := true }, kinds := [], alts := [], laidByText := true, laidKinds := [.data, .data, .data, .data, .sentinel, .sentinel, .pinned], laidTests := true, laidLooks := .later }
def SpliceHoldsUptoCardSaid : Prop := Claim7.holds Tryz.pinned (.plain (OpenSpec.upto spliceHoldsSpec)) spliceHoldsUptoCard

/-- THE SECOND FORM's CARD OF 'becketlaw08.SpliceStrengths'. -/
def spliceStrengthsUptoCard : Claim7 := { stood := { row := spliceStrengthsUptoRow, standIns := [], harness := (true, "45b23b177fe33ce17c1f36998cf9e14c90bdfdd22ce380e67ad76d96d2fb3c48"), looks := true }, kinds := [], alts := [], laidByText := true, laidKinds := [.data, .data, .data, .data, .sentinel, .sentinel, .pinned], laidTests := true, laidLooks := .later }
def SpliceStrengthsUptoCardSaid : Prop := Claim7.holds Tryz.pinned (.plain (OpenSpec.upto spliceStrengthsSpec)) spliceStrengthsUptoCard

/-- THE SECOND FORM's CARD OF 'becketlaw08.SpliceSlings'. -/
def spliceSlingsUptoCard : Claim7 := { stood := { row := spliceSlingsUptoRow, standIns := [], harness := (true, "45b23b177fe33ce17c1f36998cf9e14c90bdfdd22ce380e67ad76d96d2fb3c48"), looks := true }, kinds := [], alts := [], laidByText := true, laidKinds := [.data, .data, .data, .data, .sentinel, .sentinel, .pinned], laidTests := true, laidLooks := .later }
def SpliceSlingsUptoCardSaid : Prop := Claim7.holds Tryz.pinned (.plain (OpenSpec.upto spliceSlingsSpec)) spliceSlingsUptoCard

/-- THE SECOND FORM's CARD OF 'becketlaw08.SpliceNets'. -/
def spliceNetsUptoCard : Claim7 := { stood := { row := spliceNetsUptoRow, standIns := [], harness := (true, "45b23b177fe33ce17c1f36998cf9e14c90bdfdd22ce380e67ad76d96d2fb3c48"), looks := true }, kinds := [], alts := [], laidByText := true, laidKinds := [.data, .data, .data, .data, .sentinel, .sentinel, .pinned], laidTests := true, laidLooks := .later }
def SpliceNetsUptoCardSaid : Prop := Claim7.holds Tryz.pinned (.plain (OpenSpec.upto spliceNetsSpec)) spliceNetsUptoCard

/-- THE SECOND FORM's CARD OF 'becketlaw08.SpliceShapes'. -/
def spliceShapesUptoCard : Claim7 := { stood := { row := spliceShapesUptoRow, standIns := [], harness := (true, "45b23b177fe33ce17c1f36998cf9e14c90bdfdd22ce380e67ad76d96d2fb3c48"), looks := true }, kinds := [], alts := [], laidByText := true, laidKinds := [.data, .data, .data, .data, .sentinel, .sentinel, .pinned], laidTests := true, laidLooks := .later }
def SpliceShapesUptoCardSaid : Prop := Claim7.holds Tryz.pinned (.plain (OpenSpec.upto spliceShapesSpec)) spliceShapesUptoCard

/-- THE SECOND FORM's CARD OF 'becketlaw08.SpliceWhole'. -/
def spliceWholeUptoCard : Claim7 := { stood := { row := spliceWholeUptoRow, standIns := [], harness := (true, "45b23b177fe33ce17c1f36998cf9e14c90bdfdd22ce380e67ad76d96d2fb3c48"), looks := true }, kinds := [], alts := [], laidByText := true, laidKinds := [.data, .data, .data, .data, .sentinel, .sentinel, .pinned], laidTests := true, laidLooks := .later }
def SpliceWholeUptoCardSaid : Prop := Claim7.holds Tryz.pinned (.plain (OpenSpec.upto spliceWholeSpec)) spliceWholeUptoCard

/-- THE SECOND FORM's CARD OF 'becketlaw08.SpliceReduces'. -/
def spliceReducesUptoCard : Claim7 := { stood := { row := spliceReducesUptoRow, standIns := [], harness := (true, "45b23b177fe33ce17c1f36998cf9e14c90bdfdd22ce380e67ad76d96d2fb3c48"), looks := true }, kinds := [], alts := [], laidByText := true, laidKinds := [.data, .data, .data, .data, .sentinel, .sentinel, .pinned], laidTests := true, laidLooks := .later }
def SpliceReducesUptoCardSaid : Prop := Claim7.holds Tryz.pinned (.plain (OpenSpec.upto spliceReducesSpec)) spliceReducesUptoCard

/-- THE SECOND FORM's CARD OF 'becketlaw08.SpliceCarries'. -/
def spliceCarriesUptoCard : Claim7 := { stood := { row := spliceCarriesUptoRow, standIns := [], harness := (true, "45b23b177fe33ce17c1f36998cf9e14c90bdfdd22ce380e67ad76d96d2fb3c48"), looks := true }, kinds := [], alts := [], laidByText := true, laidKinds := [.data, .data, .data, .data, .sentinel, .sentinel, .pinned], laidTests := true, laidLooks := .later }
def SpliceCarriesUptoCardSaid : Prop := Claim7.holds Tryz.pinned (.plain (OpenSpec.upto spliceCarriesSpec)) spliceCarriesUptoCard

/-- THE SECOND FORM's CARD OF 'becketlaw08.SpliceCounts'. -/
def spliceCountsUptoCard : Claim7 := { stood := { row := spliceCountsUptoRow, standIns := [], harness := (true, "45b23b177fe33ce17c1f36998cf9e14c90bdfdd22ce380e67ad76d96d2fb3c48"), looks := true }, kinds := [], alts := [], laidByText := true, laidKinds := [.data, .data, .data, .data, .sentinel, .sentinel, .pinned], laidTests := true, laidLooks := .later }
def SpliceCountsUptoCardSaid : Prop := Claim7.holds Tryz.pinned (.plain (OpenSpec.upto spliceCountsSpec)) spliceCountsUptoCard

/-- THE SECOND FORM's CARD OF 'becketlaw08.SpliceTucks'. -/
def spliceTucksUptoCard : Claim7 := { stood := { row := spliceTucksUptoRow, standIns := [], harness := (true, "45b23b177fe33ce17c1f36998cf9e14c90bdfdd22ce380e67ad76d96d2fb3c48"), looks := true }, kinds := [], alts := [], laidByText := true, laidKinds := [.data, .data, .data, .data, .sentinel, .sentinel, .pinned], laidTests := true, laidLooks := .later }
def SpliceTucksUptoCardSaid : Prop := Claim7.holds Tryz.pinned (.plain (OpenSpec.upto spliceTucksSpec)) spliceTucksUptoCard

/-- THE SECOND FORM's CARD OF 'becketlaw08.SpliceKeeps'. -/
def spliceKeepsUptoCard : Claim7 := { stood := { row := spliceKeepsUptoRow, standIns := [], harness := (true, "45b23b177fe33ce17c1f36998cf9e14c90bdfdd22ce380e67ad76d96d2fb3c48"), looks := true }, kinds := [], alts := [], laidByText := true, laidKinds := [.data, .data, .data, .data, .sentinel, .sentinel, .pinned], laidTests := true, laidLooks := .later }
def SpliceKeepsUptoCardSaid : Prop := Claim7.holds Tryz.pinned (.plain (OpenSpec.upto spliceKeepsSpec)) spliceKeepsUptoCard
end Rows
end Go.Proofs.YtdhpibcacnndaaaGreatDoor
