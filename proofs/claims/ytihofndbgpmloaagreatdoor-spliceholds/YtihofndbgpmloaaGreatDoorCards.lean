/-
  DERIVED. GIVEN WITH THE SEED: THE CARDS: each row of YtihofndbgpmloaaGreatDoorRows.lean that lists a variable, with what it lists TIED to the program's text (the seventh form; the later family's looks); each row that meets fmt, with fmt's text TOLD by the authors' own Lean function (tested against real Go, not proved from fmt's source: count such statements apart). THE CARD IS WHAT COUNTS. Prove the row's statement (the work); the ties are given (YtihofndbgpmloaaGreatDoorTie.lean); close each card by the builder's one call (the guide's Derived/Test/ToyasCard.lean, 'card_holds'). Laid BY PROGRAM, IN A SANDBOX (cutbox-door.mjs). By AI agents, Wed Nov 11 2026. No macro, syntax, notation, axiom, sorry.
-/
import Derived.Test.YtihofndbgpmloaaGreatDoorRows
import GoSem.ClaimSeven
namespace Go.Proofs.YtihofndbgpmloaaGreatDoor
namespace Rows

/-- THE TIED CARD OF 'becketlaw08.SpliceHolds'. -/
def spliceHoldsCard : Claim7 := { stood := { row := spliceHoldsRow, standIns := [], harness := (true, "dd5d882a392de26b1298e0df5996c927e6316437059a1c69354dae85f0a10cd4"), looks := true }, kinds := [], alts := [], laidByText := true, laidKinds := [.data, .data, .data, .data, .sentinel, .sentinel, .pinned], laidTests := true, laidLooks := .later }
def SpliceHoldsCardSaid : Prop := Claim7.holds Tryz.pinned (.plain (OpenSpec.ofChange spliceHoldsSpec)) spliceHoldsCard

/-- THE TIED CARD OF 'becketlaw08.SpliceStrengths'. -/
def spliceStrengthsCard : Claim7 := { stood := { row := spliceStrengthsRow, standIns := [], harness := (true, "dd5d882a392de26b1298e0df5996c927e6316437059a1c69354dae85f0a10cd4"), looks := true }, kinds := [], alts := [], laidByText := true, laidKinds := [.data, .data, .data, .data, .sentinel, .sentinel, .pinned], laidTests := true, laidLooks := .later }
def SpliceStrengthsCardSaid : Prop := Claim7.holds Tryz.pinned (.plain (OpenSpec.ofChange spliceStrengthsSpec)) spliceStrengthsCard

/-- THE TIED CARD OF 'becketlaw08.SpliceSlings'. -/
def spliceSlingsCard : Claim7 := { stood := { row := spliceSlingsRow, standIns := [], harness := (true, "dd5d882a392de26b1298e0df5996c927e6316437059a1c69354dae85f0a10cd4"), looks := true }, kinds := [], alts := [], laidByText := true, laidKinds := [.data, .data, .data, .data, .sentinel, .sentinel, .pinned], laidTests := true, laidLooks := .later }
def SpliceSlingsCardSaid : Prop := Claim7.holds Tryz.pinned (.plain (OpenSpec.ofChange spliceSlingsSpec)) spliceSlingsCard

/-- THE TIED CARD OF 'becketlaw08.SpliceNets'. -/
def spliceNetsCard : Claim7 := { stood := { row := spliceNetsRow, standIns := [], harness := (true, "dd5d882a392de26b1298e0df5996c927e6316437059a1c69354dae85f0a10cd4"), looks := true }, kinds := [], alts := [], laidByText := true, laidKinds := [.data, .data, .data, .data, .sentinel, .sentinel, .pinned], laidTests := true, laidLooks := .later }
def SpliceNetsCardSaid : Prop := Claim7.holds Tryz.pinned (.plain (OpenSpec.ofChange spliceNetsSpec)) spliceNetsCard

/-- THE TIED CARD OF 'becketlaw08.SpliceWhole'. -/
def spliceWholeCard : Claim7 := { stood := { row := spliceWholeRow, standIns := [], harness := (true, "dd5d882a392de26b1298e0df5996c927e6316437059a1c69354dae85f0a10cd4"), looks := true }, kinds := [], alts := [], laidByText := true, laidKinds := [.data, .data, .data, .data, .sentinel, .sentinel, .pinned], laidTests := true, laidLooks := .later }
def SpliceWholeCardSaid : Prop := Claim7.holds Tryz.pinned (.plain (OpenSpec.ofChange spliceWholeSpec)) spliceWholeCard

/-- THE TIED CARD OF 'becketlaw08.SpliceReduces'. -/
def spliceReducesCard : Claim7 := { stood := { row := spliceReducesRow, standIns := [], harness := (true, "dd5d882a392de26b1298e0df5996c927e6316437059a1c69354dae85f0a10cd4"), looks := true }, kinds := [], alts := [], laidByText := true, laidKinds := [.data, .data, .data, .data, .sentinel, .sentinel, .pinned], laidTests := true, laidLooks := .later }
def SpliceReducesCardSaid : Prop := Claim7.holds Tryz.pinned (.plain (OpenSpec.ofChange spliceReducesSpec)) spliceReducesCard

/-- THE TIED CARD OF 'becketlaw08.SpliceCarries'. -/
def spliceCarriesCard : Claim7 := { stood := { row := spliceCarriesRow, standIns := [], harness := (true, "dd5d882a392de26b1298e0df5996c927e6316437059a1c69354dae85f0a10cd4"), looks := true }, kinds := [], alts := [], laidByText := true, laidKinds := [.data, .data, .data, .data, .sentinel, .sentinel, .pinned], laidTests := true, laidLooks := .later }
def SpliceCarriesCardSaid : Prop := Claim7.holds Tryz.pinned (.plain (OpenSpec.ofChange spliceCarriesSpec)) spliceCarriesCard

/-- THE TIED CARD OF 'becketlaw08.SpliceCounts'. -/
def spliceCountsCard : Claim7 := { stood := { row := spliceCountsRow, standIns := [], harness := (true, "dd5d882a392de26b1298e0df5996c927e6316437059a1c69354dae85f0a10cd4"), looks := true }, kinds := [], alts := [], laidByText := true, laidKinds := [.data, .data, .data, .data, .sentinel, .sentinel, .pinned], laidTests := true, laidLooks := .later }
def SpliceCountsCardSaid : Prop := Claim7.holds Tryz.pinned (.plain (OpenSpec.ofChange spliceCountsSpec)) spliceCountsCard

/-- THE SECOND FORM's CARD OF 'becketlaw08.SpliceHolds'. -/
def spliceHoldsUptoCard : Claim7 := { stood := { row := spliceHoldsUptoRow, standIns := [], harness := (true, "dd5d882a392de26b1298e0df5996c927e6316437059a1c69354dae85f0a10cd4"), looks := true }, kinds := [], alts := [], laidByText := true, laidKinds := [.data, .data, .data, .data, .sentinel, .sentinel, .pinned], laidTests := true, laidLooks := .later }
def SpliceHoldsUptoCardSaid : Prop := Claim7.holds Tryz.pinned (.plain (OpenSpec.upto spliceHoldsSpec)) spliceHoldsUptoCard

/-- THE SECOND FORM's CARD OF 'becketlaw08.SpliceStrengths'. -/
def spliceStrengthsUptoCard : Claim7 := { stood := { row := spliceStrengthsUptoRow, standIns := [], harness := (true, "dd5d882a392de26b1298e0df5996c927e6316437059a1c69354dae85f0a10cd4"), looks := true }, kinds := [], alts := [], laidByText := true, laidKinds := [.data, .data, .data, .data, .sentinel, .sentinel, .pinned], laidTests := true, laidLooks := .later }
def SpliceStrengthsUptoCardSaid : Prop := Claim7.holds Tryz.pinned (.plain (OpenSpec.upto spliceStrengthsSpec)) spliceStrengthsUptoCard

/-- THE SECOND FORM's CARD OF 'becketlaw08.SpliceSlings'. -/
def spliceSlingsUptoCard : Claim7 := { stood := { row := spliceSlingsUptoRow, standIns := [], harness := (true, "dd5d882a392de26b1298e0df5996c927e6316437059a1c69354dae85f0a10cd4"), looks := true }, kinds := [], alts := [], laidByText := true, laidKinds := [.data, .data, .data, .data, .sentinel, .sentinel, .pinned], laidTests := true, laidLooks := .later }
def SpliceSlingsUptoCardSaid : Prop := Claim7.holds Tryz.pinned (.plain (OpenSpec.upto spliceSlingsSpec)) spliceSlingsUptoCard

/-- THE SECOND FORM's CARD OF 'becketlaw08.SpliceNets'. -/
def spliceNetsUptoCard : Claim7 := { stood := { row := spliceNetsUptoRow, standIns := [], harness := (true, "dd5d882a392de26b1298e0df5996c927e6316437059a1c69354dae85f0a10cd4"), looks := true }, kinds := [], alts := [], laidByText := true, laidKinds := [.data, .data, .data, .data, .sentinel, .sentinel, .pinned], laidTests := true, laidLooks := .later }
def SpliceNetsUptoCardSaid : Prop := Claim7.holds Tryz.pinned (.plain (OpenSpec.upto spliceNetsSpec)) spliceNetsUptoCard

/-- THE SECOND FORM's CARD OF 'becketlaw08.SpliceWhole'. -/
def spliceWholeUptoCard : Claim7 := { stood := { row := spliceWholeUptoRow, standIns := [], harness := (true, "dd5d882a392de26b1298e0df5996c927e6316437059a1c69354dae85f0a10cd4"), looks := true }, kinds := [], alts := [], laidByText := true, laidKinds := [.data, .data, .data, .data, .sentinel, .sentinel, .pinned], laidTests := true, laidLooks := .later }
def SpliceWholeUptoCardSaid : Prop := Claim7.holds Tryz.pinned (.plain (OpenSpec.upto spliceWholeSpec)) spliceWholeUptoCard

/-- THE SECOND FORM's CARD OF 'becketlaw08.SpliceReduces'. -/
def spliceReducesUptoCard : Claim7 := { stood := { row := spliceReducesUptoRow, standIns := [], harness := (true, "dd5d882a392de26b1298e0df5996c927e6316437059a1c69354dae85f0a10cd4"), looks := true }, kinds := [], alts := [], laidByText := true, laidKinds := [.data, .data, .data, .data, .sentinel, .sentinel, .pinned], laidTests := true, laidLooks := .later }
def SpliceReducesUptoCardSaid : Prop := Claim7.holds Tryz.pinned (.plain (OpenSpec.upto spliceReducesSpec)) spliceReducesUptoCard

/-- THE SECOND FORM's CARD OF 'becketlaw08.SpliceCarries'. -/
def spliceCarriesUptoCard : Claim7 := { stood := { row := spliceCarriesUptoRow, standIns := [], harness := (true, "dd5d882a392de26b1298e0df5996c927e6316437059a1c69354dae85f0a10cd4"), looks := true }, kinds := [], alts := [], laidByText := true, laidKinds := [.data, .data, .data, .data, .sentinel, .sentinel, .pinned], laidTests := true, laidLooks := .later }
def SpliceCarriesUptoCardSaid : Prop := Claim7.holds Tryz.pinned (.plain (OpenSpec.upto spliceCarriesSpec)) spliceCarriesUptoCard

/-- THE SECOND FORM's CARD OF 'becketlaw08.SpliceCounts'. -/
def spliceCountsUptoCard : Claim7 := { stood := { row := spliceCountsUptoRow, standIns := [], harness := (true, "dd5d882a392de26b1298e0df5996c927e6316437059a1c69354dae85f0a10cd4"), looks := true }, kinds := [], alts := [], laidByText := true, laidKinds := [.data, .data, .data, .data, .sentinel, .sentinel, .pinned], laidTests := true, laidLooks := .later }
def SpliceCountsUptoCardSaid : Prop := Claim7.holds Tryz.pinned (.plain (OpenSpec.upto spliceCountsSpec)) spliceCountsUptoCard
end Rows
end Go.Proofs.YtihofndbgpmloaaGreatDoor
