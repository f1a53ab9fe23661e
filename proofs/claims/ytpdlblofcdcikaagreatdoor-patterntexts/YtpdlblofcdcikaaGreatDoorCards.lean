/-
  DERIVED. GIVEN WITH THE SEED: THE CARDS: each row of YtpdlblofcdcikaaGreatDoorRows.lean that lists a variable, with what it lists TIED to the program's text (the seventh form; the later family's looks); each row that meets fmt, with fmt's text TOLD by the authors' own Lean function (tested against real Go, not proved from fmt's source: count such statements apart). THE CARD IS WHAT COUNTS. Prove the row's statement (the work); the ties are given (YtpdlblofcdcikaaGreatDoorTie.lean); close each card by the builder's one call (the guide's Derived/Test/ToyasCard.lean, 'card_holds'). Laid BY PROGRAM, IN A SANDBOX (cutbox-door.mjs). By AI agents, Wed Nov 11 2026. No macro, syntax, notation, axiom, sorry.
-/
import Derived.Test.YtpdlblofcdcikaaGreatDoorRows
import GoSem.ClaimSeven
namespace Go.Proofs.YtpdlblofcdcikaaGreatDoor
namespace Rows

/-- THE TIED CARD OF 'becketlaw06.PatternForms'. -/
def patternFormsCard : Claim7 := { stood := { row := patternFormsRow, standIns := [], harness := (true, "2575bc1b8b046c40adaea068baf19e406db46c03f0a8e6ad882e11867557fe38"), looks := false }, kinds := [], alts := [], laidByText := true, laidKinds := [.data, .pinned], laidTests := true, laidLooks := .later }
def PatternFormsCardSaid : Prop := Claim7.holds Tryz.pinned (.plain (OpenSpec.ofChange patternFormsSpec)) patternFormsCard

/-- THE TIED CARD OF 'becketlaw06.PatternPlacings'. -/
def patternPlacingsCard : Claim7 := { stood := { row := patternPlacingsRow, standIns := [], harness := (true, "2575bc1b8b046c40adaea068baf19e406db46c03f0a8e6ad882e11867557fe38"), looks := false }, kinds := [], alts := [], laidByText := true, laidKinds := [.data, .pinned], laidTests := true, laidLooks := .later }
def PatternPlacingsCardSaid : Prop := Claim7.holds Tryz.pinned (.plain (OpenSpec.ofChange patternPlacingsSpec)) patternPlacingsCard

/-- THE TIED CARD OF 'becketlaw06.PatternClasses'. -/
def patternClassesCard : Claim7 := { stood := { row := patternClassesRow, standIns := [], harness := (true, "2575bc1b8b046c40adaea068baf19e406db46c03f0a8e6ad882e11867557fe38"), looks := false }, kinds := [], alts := [], laidByText := true, laidKinds := [.data, .pinned], laidTests := true, laidLooks := .later }
def PatternClassesCardSaid : Prop := Claim7.holds Tryz.pinned (.plain (OpenSpec.ofChange patternClassesSpec)) patternClassesCard

/-- THE TIED CARD OF 'becketlaw06.PatternListed'. -/
def patternListedCard : Claim7 := { stood := { row := patternListedRow, standIns := [], harness := (true, "2575bc1b8b046c40adaea068baf19e406db46c03f0a8e6ad882e11867557fe38"), looks := false }, kinds := [], alts := [], laidByText := true, laidKinds := [.data, .pinned], laidTests := true, laidLooks := .later }
def PatternListedCardSaid : Prop := Claim7.holds Tryz.pinned (.plain (OpenSpec.ofChange patternListedSpec)) patternListedCard

/-- THE TIED CARD OF 'becketlaw06.PatternTexts'. -/
def patternTextsCard : Claim7 := { stood := { row := patternTextsRow, standIns := [], harness := (true, "2575bc1b8b046c40adaea068baf19e406db46c03f0a8e6ad882e11867557fe38"), looks := false }, kinds := [], alts := [], laidByText := true, laidKinds := [.data, .pinned], laidTests := true, laidLooks := .later }
def PatternTextsCardSaid : Prop := Claim7.holds Tryz.pinned (.plain (OpenSpec.ofChange patternTextsSpec)) patternTextsCard

/-- THE TIED CARD OF 'becketlaw06.PatternCounts'. -/
def patternCountsCard : Claim7 := { stood := { row := patternCountsRow, standIns := [], harness := (true, "2575bc1b8b046c40adaea068baf19e406db46c03f0a8e6ad882e11867557fe38"), looks := false }, kinds := [], alts := [], laidByText := true, laidKinds := [.data, .pinned], laidTests := true, laidLooks := .later }
def PatternCountsCardSaid : Prop := Claim7.holds Tryz.pinned (.plain (OpenSpec.ofChange patternCountsSpec)) patternCountsCard

/-- THE TIED CARD OF 'becketlaw06.PatternReads'. -/
def patternReadsCard : Claim7 := { stood := { row := patternReadsRow, standIns := [], harness := (true, "2575bc1b8b046c40adaea068baf19e406db46c03f0a8e6ad882e11867557fe38"), looks := false }, kinds := [], alts := [], laidByText := true, laidKinds := [.data, .pinned], laidTests := true, laidLooks := .later }
def PatternReadsCardSaid : Prop := Claim7.holds Tryz.pinned (.plain (OpenSpec.ofChange patternReadsSpec)) patternReadsCard

/-- THE TIED CARD OF 'becketlaw06.PatternNormals'. -/
def patternNormalsCard : Claim7 := { stood := { row := patternNormalsRow, standIns := [], harness := (true, "2575bc1b8b046c40adaea068baf19e406db46c03f0a8e6ad882e11867557fe38"), looks := false }, kinds := [], alts := [], laidByText := true, laidKinds := [.data, .pinned], laidTests := true, laidLooks := .later }
def PatternNormalsCardSaid : Prop := Claim7.holds Tryz.pinned (.plain (OpenSpec.ofChange patternNormalsSpec)) patternNormalsCard

/-- THE TIED CARD OF 'becketlaw06.PatternSeen'. -/
def patternSeenCard : Claim7 := { stood := { row := patternSeenRow, standIns := [], harness := (true, "2575bc1b8b046c40adaea068baf19e406db46c03f0a8e6ad882e11867557fe38"), looks := false }, kinds := [], alts := [], laidByText := true, laidKinds := [.data, .pinned], laidTests := true, laidLooks := .later }
def PatternSeenCardSaid : Prop := Claim7.holds Tryz.pinned (.plain (OpenSpec.ofChange patternSeenSpec)) patternSeenCard

/-- THE TIED CARD OF 'becketlaw06.PatternClashes'. -/
def patternClashesCard : Claim7 := { stood := { row := patternClashesRow, standIns := [], harness := (true, "2575bc1b8b046c40adaea068baf19e406db46c03f0a8e6ad882e11867557fe38"), looks := false }, kinds := [], alts := [], laidByText := true, laidKinds := [.data, .pinned], laidTests := true, laidLooks := .later }
def PatternClashesCardSaid : Prop := Claim7.holds Tryz.pinned (.plain (OpenSpec.ofChange patternClashesSpec)) patternClashesCard

/-- THE TIED CARD OF 'becketlaw06.PatternShifts'. -/
def patternShiftsCard : Claim7 := { stood := { row := patternShiftsRow, standIns := [], harness := (true, "2575bc1b8b046c40adaea068baf19e406db46c03f0a8e6ad882e11867557fe38"), looks := false }, kinds := [], alts := [], laidByText := true, laidKinds := [.data, .pinned], laidTests := true, laidLooks := .later }
def PatternShiftsCardSaid : Prop := Claim7.holds Tryz.pinned (.plain (OpenSpec.ofChange patternShiftsSpec)) patternShiftsCard

/-- THE TIED CARD OF 'becketlaw06.PatternMakes'. -/
def patternMakesCard : Claim7 := { stood := { row := patternMakesRow, standIns := [], harness := (true, "2575bc1b8b046c40adaea068baf19e406db46c03f0a8e6ad882e11867557fe38"), looks := false }, kinds := [], alts := [], laidByText := true, laidKinds := [.data, .pinned], laidTests := true, laidLooks := .later }
def PatternMakesCardSaid : Prop := Claim7.holds Tryz.pinned (.plain (OpenSpec.ofChange patternMakesSpec)) patternMakesCard

/-- THE TIED CARD OF 'becketlaw06.PatternTurns'. -/
def patternTurnsCard : Claim7 := { stood := { row := patternTurnsRow, standIns := [], harness := (true, "2575bc1b8b046c40adaea068baf19e406db46c03f0a8e6ad882e11867557fe38"), looks := false }, kinds := [], alts := [], laidByText := true, laidKinds := [.data, .pinned], laidTests := true, laidLooks := .later }
def PatternTurnsCardSaid : Prop := Claim7.holds Tryz.pinned (.plain (OpenSpec.ofChange patternTurnsSpec)) patternTurnsCard

/-- THE SECOND FORM's CARD OF 'becketlaw06.PatternForms'. -/
def patternFormsUptoCard : Claim7 := { stood := { row := patternFormsUptoRow, standIns := [], harness := (true, "2575bc1b8b046c40adaea068baf19e406db46c03f0a8e6ad882e11867557fe38"), looks := false }, kinds := [], alts := [], laidByText := true, laidKinds := [.data, .pinned], laidTests := true, laidLooks := .later }
def PatternFormsUptoCardSaid : Prop := Claim7.holds Tryz.pinned (.plain (OpenSpec.upto patternFormsSpec)) patternFormsUptoCard

/-- THE SECOND FORM's CARD OF 'becketlaw06.PatternPlacings'. -/
def patternPlacingsUptoCard : Claim7 := { stood := { row := patternPlacingsUptoRow, standIns := [], harness := (true, "2575bc1b8b046c40adaea068baf19e406db46c03f0a8e6ad882e11867557fe38"), looks := false }, kinds := [], alts := [], laidByText := true, laidKinds := [.data, .pinned], laidTests := true, laidLooks := .later }
def PatternPlacingsUptoCardSaid : Prop := Claim7.holds Tryz.pinned (.plain (OpenSpec.upto patternPlacingsSpec)) patternPlacingsUptoCard

/-- THE SECOND FORM's CARD OF 'becketlaw06.PatternClasses'. -/
def patternClassesUptoCard : Claim7 := { stood := { row := patternClassesUptoRow, standIns := [], harness := (true, "2575bc1b8b046c40adaea068baf19e406db46c03f0a8e6ad882e11867557fe38"), looks := false }, kinds := [], alts := [], laidByText := true, laidKinds := [.data, .pinned], laidTests := true, laidLooks := .later }
def PatternClassesUptoCardSaid : Prop := Claim7.holds Tryz.pinned (.plain (OpenSpec.upto patternClassesSpec)) patternClassesUptoCard

/-- THE SECOND FORM's CARD OF 'becketlaw06.PatternListed'. -/
def patternListedUptoCard : Claim7 := { stood := { row := patternListedUptoRow, standIns := [], harness := (true, "2575bc1b8b046c40adaea068baf19e406db46c03f0a8e6ad882e11867557fe38"), looks := false }, kinds := [], alts := [], laidByText := true, laidKinds := [.data, .pinned], laidTests := true, laidLooks := .later }
def PatternListedUptoCardSaid : Prop := Claim7.holds Tryz.pinned (.plain (OpenSpec.upto patternListedSpec)) patternListedUptoCard

/-- THE SECOND FORM's CARD OF 'becketlaw06.PatternTexts'. -/
def patternTextsUptoCard : Claim7 := { stood := { row := patternTextsUptoRow, standIns := [], harness := (true, "2575bc1b8b046c40adaea068baf19e406db46c03f0a8e6ad882e11867557fe38"), looks := false }, kinds := [], alts := [], laidByText := true, laidKinds := [.data, .pinned], laidTests := true, laidLooks := .later }
def PatternTextsUptoCardSaid : Prop := Claim7.holds Tryz.pinned (.plain (OpenSpec.upto patternTextsSpec)) patternTextsUptoCard

/-- THE SECOND FORM's CARD OF 'becketlaw06.PatternCounts'. -/
def patternCountsUptoCard : Claim7 := { stood := { row := patternCountsUptoRow, standIns := [], harness := (true, "2575bc1b8b046c40adaea068baf19e406db46c03f0a8e6ad882e11867557fe38"), looks := false }, kinds := [], alts := [], laidByText := true, laidKinds := [.data, .pinned], laidTests := true, laidLooks := .later }
def PatternCountsUptoCardSaid : Prop := Claim7.holds Tryz.pinned (.plain (OpenSpec.upto patternCountsSpec)) patternCountsUptoCard

/-- THE SECOND FORM's CARD OF 'becketlaw06.PatternReads'. -/
def patternReadsUptoCard : Claim7 := { stood := { row := patternReadsUptoRow, standIns := [], harness := (true, "2575bc1b8b046c40adaea068baf19e406db46c03f0a8e6ad882e11867557fe38"), looks := false }, kinds := [], alts := [], laidByText := true, laidKinds := [.data, .pinned], laidTests := true, laidLooks := .later }
def PatternReadsUptoCardSaid : Prop := Claim7.holds Tryz.pinned (.plain (OpenSpec.upto patternReadsSpec)) patternReadsUptoCard

/-- THE SECOND FORM's CARD OF 'becketlaw06.PatternNormals'. -/
def patternNormalsUptoCard : Claim7 := { stood := { row := patternNormalsUptoRow, standIns := [], harness := (true, "2575bc1b8b046c40adaea068baf19e406db46c03f0a8e6ad882e11867557fe38"), looks := false }, kinds := [], alts := [], laidByText := true, laidKinds := [.data, .pinned], laidTests := true, laidLooks := .later }
def PatternNormalsUptoCardSaid : Prop := Claim7.holds Tryz.pinned (.plain (OpenSpec.upto patternNormalsSpec)) patternNormalsUptoCard

/-- THE SECOND FORM's CARD OF 'becketlaw06.PatternSeen'. -/
def patternSeenUptoCard : Claim7 := { stood := { row := patternSeenUptoRow, standIns := [], harness := (true, "2575bc1b8b046c40adaea068baf19e406db46c03f0a8e6ad882e11867557fe38"), looks := false }, kinds := [], alts := [], laidByText := true, laidKinds := [.data, .pinned], laidTests := true, laidLooks := .later }
def PatternSeenUptoCardSaid : Prop := Claim7.holds Tryz.pinned (.plain (OpenSpec.upto patternSeenSpec)) patternSeenUptoCard

/-- THE SECOND FORM's CARD OF 'becketlaw06.PatternClashes'. -/
def patternClashesUptoCard : Claim7 := { stood := { row := patternClashesUptoRow, standIns := [], harness := (true, "2575bc1b8b046c40adaea068baf19e406db46c03f0a8e6ad882e11867557fe38"), looks := false }, kinds := [], alts := [], laidByText := true, laidKinds := [.data, .pinned], laidTests := true, laidLooks := .later }
def PatternClashesUptoCardSaid : Prop := Claim7.holds Tryz.pinned (.plain (OpenSpec.upto patternClashesSpec)) patternClashesUptoCard

/-- THE SECOND FORM's CARD OF 'becketlaw06.PatternShifts'. -/
def patternShiftsUptoCard : Claim7 := { stood := { row := patternShiftsUptoRow, standIns := [], harness := (true, "2575bc1b8b046c40adaea068baf19e406db46c03f0a8e6ad882e11867557fe38"), looks := false }, kinds := [], alts := [], laidByText := true, laidKinds := [.data, .pinned], laidTests := true, laidLooks := .later }
def PatternShiftsUptoCardSaid : Prop := Claim7.holds Tryz.pinned (.plain (OpenSpec.upto patternShiftsSpec)) patternShiftsUptoCard

/-- THE SECOND FORM's CARD OF 'becketlaw06.PatternMakes'. -/
def patternMakesUptoCard : Claim7 := { stood := { row := patternMakesUptoRow, standIns := [], harness := (true, "2575bc1b8b046c40adaea068baf19e406db46c03f0a8e6ad882e11867557fe38"), looks := false }, kinds := [], alts := [], laidByText := true, laidKinds := [.data, .pinned], laidTests := true, laidLooks := .later }
def PatternMakesUptoCardSaid : Prop := Claim7.holds Tryz.pinned (.plain (OpenSpec.upto patternMakesSpec)) patternMakesUptoCard

/-- THE SECOND FORM's CARD OF 'becketlaw06.PatternTurns'. -/
def patternTurnsUptoCard : Claim7 := { stood := { row := patternTurnsUptoRow, standIns := [], harness := (true, "2575bc1b8b046c40adaea068baf19e406db46c03f0a8e6ad882e11867557fe38"), looks := false }, kinds := [], alts := [], laidByText := true, laidKinds := [.data, .pinned], laidTests := true, laidLooks := .later }
def PatternTurnsUptoCardSaid : Prop := Claim7.holds Tryz.pinned (.plain (OpenSpec.upto patternTurnsSpec)) patternTurnsUptoCard
end Rows
end Go.Proofs.YtpdlblofcdcikaaGreatDoor
