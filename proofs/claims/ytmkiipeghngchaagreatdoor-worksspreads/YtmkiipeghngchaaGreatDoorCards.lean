/-
  DERIVED. GIVEN WITH THE SEED: THE CARDS: each row of YtmkiipeghngchaaGreatDoorRows.lean that lists a variable, with what it lists TIED to the program's text (the seventh form; the later family's looks); each row that meets fmt, with fmt's text TOLD by the authors' own Lean function (tested against real Go, not proved from fmt's source: count such statements apart). THE CARD IS WHAT COUNTS. Prove the row's statement (the work); the ties are given (YtmkiipeghngchaaGreatDoorTie.lean); close each card by the builder's one call (the guide's Derived/Test/ToyasCard.lean, 'card_holds'). Laid BY PROGRAM, IN A SANDBOX (cutbox-door.mjs). By AI agents, Wed Nov 11 2026. No macro, syntax, notation, axiom, sorry.
-/
import Derived.Test.YtmkiipeghngchaaGreatDoorRows
import GoSem.ClaimSeven
namespace Go.Proofs.YtmkiipeghngchaaGreatDoor
namespace Rows

/-- THE TIED CARD OF 'becketlaw09.WorksCuts'. -/
def worksCutsCard : Claim7 := { stood := { row := worksCutsRow, standIns := [], harness := (true, "431cc6411de75b26e0b7f0409b017e58d92c315387fe7908564893b2b2c35668"), looks := true }, kinds := [], alts := [], laidByText := true, laidKinds := [.data, .data, .data, .data, .sentinel, .sentinel, .pinned], laidTests := true, laidLooks := .later }
def WorksCutsCardSaid : Prop := Claim7.holds Tryz.pinned (.plain (OpenSpec.ofChange worksCutsSpec)) worksCutsCard

/-- THE TIED CARD OF 'becketlaw09.WorksShops'. -/
def worksShopsCard : Claim7 := { stood := { row := worksShopsRow, standIns := [], harness := (true, "431cc6411de75b26e0b7f0409b017e58d92c315387fe7908564893b2b2c35668"), looks := true }, kinds := [], alts := [], laidByText := true, laidKinds := [.data, .data, .data, .data, .sentinel, .sentinel, .pinned], laidTests := true, laidLooks := .later }
def WorksShopsCardSaid : Prop := Claim7.holds Tryz.pinned (.plain (OpenSpec.ofChange worksShopsSpec)) worksShopsCard

/-- THE TIED CARD OF 'becketlaw09.WorksLoads'. -/
def worksLoadsCard : Claim7 := { stood := { row := worksLoadsRow, standIns := [], harness := (true, "431cc6411de75b26e0b7f0409b017e58d92c315387fe7908564893b2b2c35668"), looks := true }, kinds := [], alts := [], laidByText := true, laidKinds := [.data, .data, .data, .data, .sentinel, .sentinel, .pinned], laidTests := true, laidLooks := .later }
def WorksLoadsCardSaid : Prop := Claim7.holds Tryz.pinned (.plain (OpenSpec.ofChange worksLoadsSpec)) worksLoadsCard

/-- THE TIED CARD OF 'becketlaw09.WorksFits'. -/
def worksFitsCard : Claim7 := { stood := { row := worksFitsRow, standIns := [], harness := (true, "431cc6411de75b26e0b7f0409b017e58d92c315387fe7908564893b2b2c35668"), looks := true }, kinds := [], alts := [], laidByText := true, laidKinds := [.data, .data, .data, .data, .sentinel, .sentinel, .pinned], laidTests := true, laidLooks := .later }
def WorksFitsCardSaid : Prop := Claim7.holds Tryz.pinned (.plain (OpenSpec.ofChange worksFitsSpec)) worksFitsCard

/-- THE TIED CARD OF 'becketlaw09.WorksBests'. -/
def worksBestsCard : Claim7 := { stood := { row := worksBestsRow, standIns := [], harness := (true, "431cc6411de75b26e0b7f0409b017e58d92c315387fe7908564893b2b2c35668"), looks := true }, kinds := [], alts := [], laidByText := true, laidKinds := [.data, .data, .data, .data, .sentinel, .sentinel, .pinned], laidTests := true, laidLooks := .later }
def WorksBestsCardSaid : Prop := Claim7.holds Tryz.pinned (.plain (OpenSpec.ofChange worksBestsSpec)) worksBestsCard

/-- THE TIED CARD OF 'becketlaw09.WorksSpreads'. -/
def worksSpreadsCard : Claim7 := { stood := { row := worksSpreadsRow, standIns := [], harness := (true, "431cc6411de75b26e0b7f0409b017e58d92c315387fe7908564893b2b2c35668"), looks := true }, kinds := [], alts := [], laidByText := true, laidKinds := [.data, .data, .data, .data, .sentinel, .sentinel, .pinned], laidTests := true, laidLooks := .later }
def WorksSpreadsCardSaid : Prop := Claim7.holds Tryz.pinned (.plain (OpenSpec.ofChange worksSpreadsSpec)) worksSpreadsCard

/-- THE SECOND FORM's CARD OF 'becketlaw09.WorksCuts'. -/
def worksCutsUptoCard : Claim7 := { stood := { row := worksCutsUptoRow, standIns := [], harness := (true, "431cc6411de75b26e0b7f0409b017e58d92c315387fe7908564893b2b2c35668"), looks := true }, kinds := [], alts := [], laidByText := true, laidKinds := [.data, .data, .data, .data, .sentinel, .sentinel, .pinned], laidTests := true, laidLooks := .later }
def WorksCutsUptoCardSaid : Prop := Claim7.holds Tryz.pinned (.plain (OpenSpec.upto worksCutsSpec)) worksCutsUptoCard

/-- THE SECOND FORM's CARD OF 'becketlaw09.WorksShops'. -/
def worksShopsUptoCard : Claim7 := { stood := { row := worksShopsUptoRow, standIns := [], harness := (true, "431cc6411de75b26e0b7f0409b017e58d92c315387fe7908564893b2b2c35668"), looks := true }, kinds := [], alts := [], laidByText := true, laidKinds := [.data, .data, .data, .data, .sentinel, .sentinel, .pinned], laidTests := true, laidLooks := .later }
def WorksShopsUptoCardSaid : Prop := Claim7.holds Tryz.pinned (.plain (OpenSpec.upto worksShopsSpec)) worksShopsUptoCard

/-- THE SECOND FORM's CARD OF 'becketlaw09.WorksLoads'. -/
def worksLoadsUptoCard : Claim7 := { stood := { row := worksLoadsUptoRow, standIns := [], harness := (true, "431cc6411de75b26e0b7f0409b017e58d92c315387fe7908564893b2b2c35668"), looks := true }, kinds := [], alts := [], laidByText := true, laidKinds := [.data, .data, .data, .data, .sentinel, .sentinel, .pinned], laidTests := true, laidLooks := .later }
def WorksLoadsUptoCardSaid : Prop := Claim7.holds Tryz.pinned (.plain (OpenSpec.upto worksLoadsSpec)) worksLoadsUptoCard

/-- THE SECOND FORM's CARD OF 'becketlaw09.WorksFits'. -/
def worksFitsUptoCard : Claim7 := { stood := { row := worksFitsUptoRow, standIns := [], harness := (true, "431cc6411de75b26e0b7f0409b017e58d92c315387fe7908564893b2b2c35668"), looks := true }, kinds := [], alts := [], laidByText := true, laidKinds := [.data, .data, .data, .data, .sentinel, .sentinel, .pinned], laidTests := true, laidLooks := .later }
def WorksFitsUptoCardSaid : Prop := Claim7.holds Tryz.pinned (.plain (OpenSpec.upto worksFitsSpec)) worksFitsUptoCard

/-- THE SECOND FORM's CARD OF 'becketlaw09.WorksBests'. -/
def worksBestsUptoCard : Claim7 := { stood := { row := worksBestsUptoRow, standIns := [], harness := (true, "431cc6411de75b26e0b7f0409b017e58d92c315387fe7908564893b2b2c35668"), looks := true }, kinds := [], alts := [], laidByText := true, laidKinds := [.data, .data, .data, .data, .sentinel, .sentinel, .pinned], laidTests := true, laidLooks := .later }
def WorksBestsUptoCardSaid : Prop := Claim7.holds Tryz.pinned (.plain (OpenSpec.upto worksBestsSpec)) worksBestsUptoCard

/-- THE SECOND FORM's CARD OF 'becketlaw09.WorksSpreads'. -/
def worksSpreadsUptoCard : Claim7 := { stood := { row := worksSpreadsUptoRow, standIns := [], harness := (true, "431cc6411de75b26e0b7f0409b017e58d92c315387fe7908564893b2b2c35668"), looks := true }, kinds := [], alts := [], laidByText := true, laidKinds := [.data, .data, .data, .data, .sentinel, .sentinel, .pinned], laidTests := true, laidLooks := .later }
def WorksSpreadsUptoCardSaid : Prop := Claim7.holds Tryz.pinned (.plain (OpenSpec.upto worksSpreadsSpec)) worksSpreadsUptoCard
end Rows
end Go.Proofs.YtmkiipeghngchaaGreatDoor
