/-
  NARROWER THAN 'FOR EVERY INPUT', by the rows' own cells (each row's printed sentence says how): PatternForms: laid · PatternPlacings: laid · PatternClasses: laid · PatternListed: laid · PatternTexts: laid · PatternCounts: laid · PatternReads: laid · PatternNormals: laid · PatternSeen: laid · PatternClashes: laid · PatternShifts: laid · PatternMakes: laid · PatternTurns: laid.
  DERIVED. THE GIVEN ROWS OF THIS SEAT. 13 by the template 'for every input the law returns true; each argument reads behind the call as it read before'; 0 by the template 'total and deterministic' (their statements: YtpdlblofcdcikaaGreatDoorTotals.lean).
  GIVEN WITH THE SEED: the statements are not yours to turn. If you find one false, say at which input.
  Laid BY PROGRAM, IN A SANDBOX (cutbox-rows.mjs): the forced cells as the released guide's own fill.sh prints them over the translation 1e05ad1e964a22d2… (all of the seat's roots in one cut). By AI agents, Wed Nov 11 2026. No macro, syntax, notation, axiom, sorry.
-/
import Derived.Test.YtpdlblofcdcikaaGreatDoorChecked
import GoSem.PinnedTables
import GoSem.Claim
import GoSem.ClaimJoined
import GoSem.ClaimMapViews
import Derived.JoinedTies
import Derived.KernelRfl
namespace Go.Proofs.YtpdlblofcdcikaaGreatDoor
/- THE CELL 'sum', in the pinned program and in every row, IS THE sha256 OF THE DUMP (.gsa) THAT YtpdlblofcdcikaaGreatDoorProg.lean LOADS. Nothing in Lean hashes anything: it is a label: what it is worth is what the hold of that sum in a sandbox is worth. -/
noncomputable def Tryz.pinned : Pinned := { name := "ytpdlblofcdcikaagreatdoor", sum := "1e05ad1e964a22d20eea567abdcd939f3ff091a0ca7addb943ba8759a957749a", checked := Tryz.checked }
namespace Rows
def none {H : Type} : Left H := { results := [], args := [] }

/- WHAT THE LISTED PACKAGE-LEVEL VARIABLES READ AS WHEN THE CALL BEGINS. Each datum BY PROGRAM (the guide's laid-datum.mjs) off the statement by which the dump's own 'gosem.cut.vars' lays the variable. In a bare row this is a premise. The card (YtpdlblofcdcikaaGreatDoorCards.lean) ties it to the program's text. -/
def laid_unicode_utf8_acceptRanges {H : Type} : DataW H := .agg [.agg [.lit (.int .u8 128), .lit (.int .u8 191)], .agg [.lit (.int .u8 160), .lit (.int .u8 191)], .agg [.lit (.int .u8 128), .lit (.int .u8 159)], .agg [.lit (.int .u8 144), .lit (.int .u8 191)], .agg [.lit (.int .u8 128), .lit (.int .u8 143)], .agg [.lit (.int .u8 0), .lit (.int .u8 0)], .agg [.lit (.int .u8 0), .lit (.int .u8 0)], .agg [.lit (.int .u8 0), .lit (.int .u8 0)], .agg [.lit (.int .u8 0), .lit (.int .u8 0)], .agg [.lit (.int .u8 0), .lit (.int .u8 0)], .agg [.lit (.int .u8 0), .lit (.int .u8 0)], .agg [.lit (.int .u8 0), .lit (.int .u8 0)], .agg [.lit (.int .u8 0), .lit (.int .u8 0)], .agg [.lit (.int .u8 0), .lit (.int .u8 0)], .agg [.lit (.int .u8 0), .lit (.int .u8 0)], .agg [.lit (.int .u8 0), .lit (.int .u8 0)]]
/-- One of Go's own tables, pinned by name: the form's constant. -/
def laid_unicode_utf8_first : DataW Unit := Go.Pinned.utf8First

/-- 'becketlaw06.PatternForms': WHATEVER THE INPUT: true; the input reads as it did. -/
def patternFormsSpec : ChangeSpec := { name := "patternForms", fn := fun _ => fun
  | [d1, d2, d3] => { results := [.lit (.bool true)], args := [d1, d2, d3] }
  | _ => none }
def patternFormsRow : OpenClaim := { program := "ytpdlblofcdcikaagreatdoor", sum := "1e05ad1e964a22d20eea567abdcd939f3ff091a0ca7addb943ba8759a957749a", func := "becket/becketlaw06.PatternForms", spec := "patternForms", inPlace := ["internal/abi.NoEscape", "internal/bytealg.CountString", "internal/bytealg.IndexByteString", "internal/bytealg.IndexString"], unfollowed := true, recurses := true, named := ["unicode/utf8.first", "unicode/utf8.acceptRanges", "internal/bytealg.MaxLen"], plainKeys := false, apart := false, laid := [("unicode/utf8.acceptRanges", laid_unicode_utf8_acceptRanges), ("unicode/utf8.first", laid_unicode_utf8_first)] }
def PatternFormsSaid : Prop := patternFormsRow.holds Tryz.pinned (OpenSpec.ofChange patternFormsSpec)

/-- ITS FALSE NEIGHBOUR: 'it returns false'. Refute it at one input. -/
def patternFormsWrong : ChangeSpec := { name := "patternForms", fn := fun _ => fun
  | [d1, d2, d3] => { results := [.lit (.bool false)], args := [d1, d2, d3] }
  | _ => none }
def PatternFormsWrongFalsely : Prop := patternFormsRow.holds Tryz.pinned (OpenSpec.ofChange patternFormsWrong)

/-- 'becketlaw06.PatternPlacings': WHATEVER THE INPUT: true; the input reads as it did. -/
def patternPlacingsSpec : ChangeSpec := { name := "patternPlacings", fn := fun _ => fun
  | [d1, d2] => { results := [.lit (.bool true)], args := [d1, d2] }
  | _ => none }
def patternPlacingsRow : OpenClaim := { program := "ytpdlblofcdcikaagreatdoor", sum := "1e05ad1e964a22d20eea567abdcd939f3ff091a0ca7addb943ba8759a957749a", func := "becket/becketlaw06.PatternPlacings", spec := "patternPlacings", inPlace := ["internal/abi.NoEscape", "internal/bytealg.CountString", "internal/bytealg.IndexByteString", "internal/bytealg.IndexString"], unfollowed := true, recurses := true, named := ["unicode/utf8.first", "unicode/utf8.acceptRanges", "internal/bytealg.MaxLen"], plainKeys := false, apart := false, laid := [("unicode/utf8.acceptRanges", laid_unicode_utf8_acceptRanges), ("unicode/utf8.first", laid_unicode_utf8_first)] }
def PatternPlacingsSaid : Prop := patternPlacingsRow.holds Tryz.pinned (OpenSpec.ofChange patternPlacingsSpec)

/-- ITS FALSE NEIGHBOUR: 'it returns false'. Refute it at one input. -/
def patternPlacingsWrong : ChangeSpec := { name := "patternPlacings", fn := fun _ => fun
  | [d1, d2] => { results := [.lit (.bool false)], args := [d1, d2] }
  | _ => none }
def PatternPlacingsWrongFalsely : Prop := patternPlacingsRow.holds Tryz.pinned (OpenSpec.ofChange patternPlacingsWrong)

/-- 'becketlaw06.PatternClasses': WHATEVER THE INPUT: true; the input reads as it did. -/
def patternClassesSpec : ChangeSpec := { name := "patternClasses", fn := fun _ => fun
  | [d1, d2, d3] => { results := [.lit (.bool true)], args := [d1, d2, d3] }
  | _ => none }
def patternClassesRow : OpenClaim := { program := "ytpdlblofcdcikaagreatdoor", sum := "1e05ad1e964a22d20eea567abdcd939f3ff091a0ca7addb943ba8759a957749a", func := "becket/becketlaw06.PatternClasses", spec := "patternClasses", inPlace := ["internal/abi.NoEscape", "internal/bytealg.CountString", "internal/bytealg.IndexByteString", "internal/bytealg.IndexString"], unfollowed := true, recurses := true, named := ["unicode/utf8.first", "unicode/utf8.acceptRanges", "internal/bytealg.MaxLen"], plainKeys := false, apart := false, laid := [("unicode/utf8.acceptRanges", laid_unicode_utf8_acceptRanges), ("unicode/utf8.first", laid_unicode_utf8_first)] }
def PatternClassesSaid : Prop := patternClassesRow.holds Tryz.pinned (OpenSpec.ofChange patternClassesSpec)

/-- ITS FALSE NEIGHBOUR: 'it returns false'. Refute it at one input. -/
def patternClassesWrong : ChangeSpec := { name := "patternClasses", fn := fun _ => fun
  | [d1, d2, d3] => { results := [.lit (.bool false)], args := [d1, d2, d3] }
  | _ => none }
def PatternClassesWrongFalsely : Prop := patternClassesRow.holds Tryz.pinned (OpenSpec.ofChange patternClassesWrong)

/-- 'becketlaw06.PatternListed': WHATEVER THE INPUT: true; the input reads as it did. -/
def patternListedSpec : ChangeSpec := { name := "patternListed", fn := fun _ => fun
  | [d1, d2] => { results := [.lit (.bool true)], args := [d1, d2] }
  | _ => none }
def patternListedRow : OpenClaim := { program := "ytpdlblofcdcikaagreatdoor", sum := "1e05ad1e964a22d20eea567abdcd939f3ff091a0ca7addb943ba8759a957749a", func := "becket/becketlaw06.PatternListed", spec := "patternListed", inPlace := ["internal/abi.NoEscape", "internal/bytealg.CountString", "internal/bytealg.IndexByteString", "internal/bytealg.IndexString"], unfollowed := true, recurses := true, named := ["unicode/utf8.first", "unicode/utf8.acceptRanges", "internal/bytealg.MaxLen"], plainKeys := false, apart := false, laid := [("unicode/utf8.acceptRanges", laid_unicode_utf8_acceptRanges), ("unicode/utf8.first", laid_unicode_utf8_first)] }
def PatternListedSaid : Prop := patternListedRow.holds Tryz.pinned (OpenSpec.ofChange patternListedSpec)

/-- ITS FALSE NEIGHBOUR: 'it returns false'. Refute it at one input. -/
def patternListedWrong : ChangeSpec := { name := "patternListed", fn := fun _ => fun
  | [d1, d2] => { results := [.lit (.bool false)], args := [d1, d2] }
  | _ => none }
def PatternListedWrongFalsely : Prop := patternListedRow.holds Tryz.pinned (OpenSpec.ofChange patternListedWrong)

/-- 'becketlaw06.PatternTexts': WHATEVER THE INPUT: true; the input reads as it did. -/
def patternTextsSpec : ChangeSpec := { name := "patternTexts", fn := fun _ => fun
  | [d1, d2] => { results := [.lit (.bool true)], args := [d1, d2] }
  | _ => none }
def patternTextsRow : OpenClaim := { program := "ytpdlblofcdcikaagreatdoor", sum := "1e05ad1e964a22d20eea567abdcd939f3ff091a0ca7addb943ba8759a957749a", func := "becket/becketlaw06.PatternTexts", spec := "patternTexts", inPlace := ["internal/abi.NoEscape", "internal/bytealg.CountString", "internal/bytealg.IndexByteString", "internal/bytealg.IndexString"], unfollowed := true, recurses := true, named := ["unicode/utf8.first", "unicode/utf8.acceptRanges", "internal/bytealg.MaxLen"], plainKeys := false, apart := false, laid := [("unicode/utf8.acceptRanges", laid_unicode_utf8_acceptRanges), ("unicode/utf8.first", laid_unicode_utf8_first)] }
def PatternTextsSaid : Prop := patternTextsRow.holds Tryz.pinned (OpenSpec.ofChange patternTextsSpec)

/-- ITS FALSE NEIGHBOUR: 'it returns false'. Refute it at one input. -/
def patternTextsWrong : ChangeSpec := { name := "patternTexts", fn := fun _ => fun
  | [d1, d2] => { results := [.lit (.bool false)], args := [d1, d2] }
  | _ => none }
def PatternTextsWrongFalsely : Prop := patternTextsRow.holds Tryz.pinned (OpenSpec.ofChange patternTextsWrong)

/-- 'becketlaw06.PatternCounts': WHATEVER THE INPUT: true; the input reads as it did. -/
def patternCountsSpec : ChangeSpec := { name := "patternCounts", fn := fun _ => fun
  | [d1, d2] => { results := [.lit (.bool true)], args := [d1, d2] }
  | _ => none }
def patternCountsRow : OpenClaim := { program := "ytpdlblofcdcikaagreatdoor", sum := "1e05ad1e964a22d20eea567abdcd939f3ff091a0ca7addb943ba8759a957749a", func := "becket/becketlaw06.PatternCounts", spec := "patternCounts", inPlace := ["internal/abi.NoEscape", "internal/bytealg.CountString", "internal/bytealg.IndexByteString", "internal/bytealg.IndexString"], unfollowed := true, recurses := true, named := ["unicode/utf8.first", "unicode/utf8.acceptRanges", "internal/bytealg.MaxLen"], plainKeys := false, apart := false, laid := [("unicode/utf8.acceptRanges", laid_unicode_utf8_acceptRanges), ("unicode/utf8.first", laid_unicode_utf8_first)] }
def PatternCountsSaid : Prop := patternCountsRow.holds Tryz.pinned (OpenSpec.ofChange patternCountsSpec)

/-- ITS FALSE NEIGHBOUR: 'it returns false'. Refute it at one input. -/
def patternCountsWrong : ChangeSpec := { name := "patternCounts", fn := fun _ => fun
  | [d1, d2] => { results := [.lit (.bool false)], args := [d1, d2] }
  | _ => none }
def PatternCountsWrongFalsely : Prop := patternCountsRow.holds Tryz.pinned (OpenSpec.ofChange patternCountsWrong)

/-- 'becketlaw06.PatternReads': WHATEVER THE INPUT: true; the input reads as it did. -/
def patternReadsSpec : ChangeSpec := { name := "patternReads", fn := fun _ => fun
  | [d1, d2] => { results := [.lit (.bool true)], args := [d1, d2] }
  | _ => none }
def patternReadsRow : OpenClaim := { program := "ytpdlblofcdcikaagreatdoor", sum := "1e05ad1e964a22d20eea567abdcd939f3ff091a0ca7addb943ba8759a957749a", func := "becket/becketlaw06.PatternReads", spec := "patternReads", inPlace := ["internal/abi.NoEscape", "internal/bytealg.CountString", "internal/bytealg.IndexByteString", "internal/bytealg.IndexString"], unfollowed := true, recurses := true, named := ["unicode/utf8.first", "unicode/utf8.acceptRanges", "internal/bytealg.MaxLen"], plainKeys := false, apart := false, laid := [("unicode/utf8.acceptRanges", laid_unicode_utf8_acceptRanges), ("unicode/utf8.first", laid_unicode_utf8_first)] }
def PatternReadsSaid : Prop := patternReadsRow.holds Tryz.pinned (OpenSpec.ofChange patternReadsSpec)

/-- ITS FALSE NEIGHBOUR: 'it returns false'. Refute it at one input. -/
def patternReadsWrong : ChangeSpec := { name := "patternReads", fn := fun _ => fun
  | [d1, d2] => { results := [.lit (.bool false)], args := [d1, d2] }
  | _ => none }
def PatternReadsWrongFalsely : Prop := patternReadsRow.holds Tryz.pinned (OpenSpec.ofChange patternReadsWrong)

/-- 'becketlaw06.PatternNormals': WHATEVER THE INPUT: true; the input reads as it did. -/
def patternNormalsSpec : ChangeSpec := { name := "patternNormals", fn := fun _ => fun
  | [d1, d2] => { results := [.lit (.bool true)], args := [d1, d2] }
  | _ => none }
def patternNormalsRow : OpenClaim := { program := "ytpdlblofcdcikaagreatdoor", sum := "1e05ad1e964a22d20eea567abdcd939f3ff091a0ca7addb943ba8759a957749a", func := "becket/becketlaw06.PatternNormals", spec := "patternNormals", inPlace := ["internal/abi.NoEscape", "internal/bytealg.CountString", "internal/bytealg.IndexByteString", "internal/bytealg.IndexString"], unfollowed := true, recurses := true, named := ["unicode/utf8.first", "unicode/utf8.acceptRanges", "internal/bytealg.MaxLen"], plainKeys := false, apart := false, laid := [("unicode/utf8.acceptRanges", laid_unicode_utf8_acceptRanges), ("unicode/utf8.first", laid_unicode_utf8_first)] }
def PatternNormalsSaid : Prop := patternNormalsRow.holds Tryz.pinned (OpenSpec.ofChange patternNormalsSpec)

/-- ITS FALSE NEIGHBOUR: 'it returns false'. Refute it at one input. -/
def patternNormalsWrong : ChangeSpec := { name := "patternNormals", fn := fun _ => fun
  | [d1, d2] => { results := [.lit (.bool false)], args := [d1, d2] }
  | _ => none }
def PatternNormalsWrongFalsely : Prop := patternNormalsRow.holds Tryz.pinned (OpenSpec.ofChange patternNormalsWrong)

/-- 'becketlaw06.PatternSeen': WHATEVER THE INPUT: true; the input reads as it did. -/
def patternSeenSpec : ChangeSpec := { name := "patternSeen", fn := fun _ => fun
  | [d1, d2, d3] => { results := [.lit (.bool true)], args := [d1, d2, d3] }
  | _ => none }
def patternSeenRow : OpenClaim := { program := "ytpdlblofcdcikaagreatdoor", sum := "1e05ad1e964a22d20eea567abdcd939f3ff091a0ca7addb943ba8759a957749a", func := "becket/becketlaw06.PatternSeen", spec := "patternSeen", inPlace := ["internal/abi.NoEscape", "internal/bytealg.CountString", "internal/bytealg.IndexByteString", "internal/bytealg.IndexString"], unfollowed := true, recurses := true, named := ["unicode/utf8.first", "unicode/utf8.acceptRanges", "internal/bytealg.MaxLen"], plainKeys := false, apart := false, laid := [("unicode/utf8.acceptRanges", laid_unicode_utf8_acceptRanges), ("unicode/utf8.first", laid_unicode_utf8_first)] }
def PatternSeenSaid : Prop := patternSeenRow.holds Tryz.pinned (OpenSpec.ofChange patternSeenSpec)

/-- ITS FALSE NEIGHBOUR: 'it returns false'. Refute it at one input. -/
def patternSeenWrong : ChangeSpec := { name := "patternSeen", fn := fun _ => fun
  | [d1, d2, d3] => { results := [.lit (.bool false)], args := [d1, d2, d3] }
  | _ => none }
def PatternSeenWrongFalsely : Prop := patternSeenRow.holds Tryz.pinned (OpenSpec.ofChange patternSeenWrong)

/-- 'becketlaw06.PatternClashes': WHATEVER THE INPUT: true; the input reads as it did. -/
def patternClashesSpec : ChangeSpec := { name := "patternClashes", fn := fun _ => fun
  | [d1, d2, d3] => { results := [.lit (.bool true)], args := [d1, d2, d3] }
  | _ => none }
def patternClashesRow : OpenClaim := { program := "ytpdlblofcdcikaagreatdoor", sum := "1e05ad1e964a22d20eea567abdcd939f3ff091a0ca7addb943ba8759a957749a", func := "becket/becketlaw06.PatternClashes", spec := "patternClashes", inPlace := ["internal/abi.NoEscape", "internal/bytealg.CountString", "internal/bytealg.IndexByteString", "internal/bytealg.IndexString"], unfollowed := true, recurses := true, named := ["unicode/utf8.first", "unicode/utf8.acceptRanges", "internal/bytealg.MaxLen"], plainKeys := false, apart := false, laid := [("unicode/utf8.acceptRanges", laid_unicode_utf8_acceptRanges), ("unicode/utf8.first", laid_unicode_utf8_first)] }
def PatternClashesSaid : Prop := patternClashesRow.holds Tryz.pinned (OpenSpec.ofChange patternClashesSpec)

/-- ITS FALSE NEIGHBOUR: 'it returns false'. Refute it at one input. -/
def patternClashesWrong : ChangeSpec := { name := "patternClashes", fn := fun _ => fun
  | [d1, d2, d3] => { results := [.lit (.bool false)], args := [d1, d2, d3] }
  | _ => none }
def PatternClashesWrongFalsely : Prop := patternClashesRow.holds Tryz.pinned (OpenSpec.ofChange patternClashesWrong)

/-- 'becketlaw06.PatternShifts': WHATEVER THE INPUT: true; the input reads as it did. -/
def patternShiftsSpec : ChangeSpec := { name := "patternShifts", fn := fun _ => fun
  | [d1, d2, d3] => { results := [.lit (.bool true)], args := [d1, d2, d3] }
  | _ => none }
def patternShiftsRow : OpenClaim := { program := "ytpdlblofcdcikaagreatdoor", sum := "1e05ad1e964a22d20eea567abdcd939f3ff091a0ca7addb943ba8759a957749a", func := "becket/becketlaw06.PatternShifts", spec := "patternShifts", inPlace := ["internal/abi.NoEscape", "internal/bytealg.CountString", "internal/bytealg.IndexByteString", "internal/bytealg.IndexString"], unfollowed := true, recurses := true, named := ["unicode/utf8.first", "unicode/utf8.acceptRanges", "internal/bytealg.MaxLen"], plainKeys := false, apart := false, laid := [("unicode/utf8.acceptRanges", laid_unicode_utf8_acceptRanges), ("unicode/utf8.first", laid_unicode_utf8_first)] }
def PatternShiftsSaid : Prop := patternShiftsRow.holds Tryz.pinned (OpenSpec.ofChange patternShiftsSpec)

/-- ITS FALSE NEIGHBOUR: 'it returns false'. Refute it at one input. -/
def patternShiftsWrong : ChangeSpec := { name := "patternShifts", fn := fun _ => fun
  | [d1, d2, d3] => { results := [.lit (.bool false)], args := [d1, d2, d3] }
  | _ => none }
def PatternShiftsWrongFalsely : Prop := patternShiftsRow.holds Tryz.pinned (OpenSpec.ofChange patternShiftsWrong)

/-- 'becketlaw06.PatternMakes': WHATEVER THE INPUT: true; the input reads as it did. -/
def patternMakesSpec : ChangeSpec := { name := "patternMakes", fn := fun _ => fun
  | [d1, d2] => { results := [.lit (.bool true)], args := [d1, d2] }
  | _ => none }
def patternMakesRow : OpenClaim := { program := "ytpdlblofcdcikaagreatdoor", sum := "1e05ad1e964a22d20eea567abdcd939f3ff091a0ca7addb943ba8759a957749a", func := "becket/becketlaw06.PatternMakes", spec := "patternMakes", inPlace := ["internal/abi.NoEscape", "internal/bytealg.CountString", "internal/bytealg.IndexByteString", "internal/bytealg.IndexString"], unfollowed := true, recurses := true, named := ["unicode/utf8.first", "unicode/utf8.acceptRanges", "internal/bytealg.MaxLen"], plainKeys := false, apart := false, laid := [("unicode/utf8.acceptRanges", laid_unicode_utf8_acceptRanges), ("unicode/utf8.first", laid_unicode_utf8_first)] }
def PatternMakesSaid : Prop := patternMakesRow.holds Tryz.pinned (OpenSpec.ofChange patternMakesSpec)

/-- ITS FALSE NEIGHBOUR: 'it returns false'. Refute it at one input. -/
def patternMakesWrong : ChangeSpec := { name := "patternMakes", fn := fun _ => fun
  | [d1, d2] => { results := [.lit (.bool false)], args := [d1, d2] }
  | _ => none }
def PatternMakesWrongFalsely : Prop := patternMakesRow.holds Tryz.pinned (OpenSpec.ofChange patternMakesWrong)

/-- 'becketlaw06.PatternTurns': WHATEVER THE INPUT: true; the input reads as it did. -/
def patternTurnsSpec : ChangeSpec := { name := "patternTurns", fn := fun _ => fun
  | [d1, d2, d3] => { results := [.lit (.bool true)], args := [d1, d2, d3] }
  | _ => none }
def patternTurnsRow : OpenClaim := { program := "ytpdlblofcdcikaagreatdoor", sum := "1e05ad1e964a22d20eea567abdcd939f3ff091a0ca7addb943ba8759a957749a", func := "becket/becketlaw06.PatternTurns", spec := "patternTurns", inPlace := ["internal/abi.NoEscape", "internal/bytealg.CountString", "internal/bytealg.IndexByteString", "internal/bytealg.IndexString"], unfollowed := true, recurses := true, named := ["unicode/utf8.first", "unicode/utf8.acceptRanges", "internal/bytealg.MaxLen"], plainKeys := false, apart := false, laid := [("unicode/utf8.acceptRanges", laid_unicode_utf8_acceptRanges), ("unicode/utf8.first", laid_unicode_utf8_first)] }
def PatternTurnsSaid : Prop := patternTurnsRow.holds Tryz.pinned (OpenSpec.ofChange patternTurnsSpec)

/-- ITS FALSE NEIGHBOUR: 'it returns false'. Refute it at one input. -/
def patternTurnsWrong : ChangeSpec := { name := "patternTurns", fn := fun _ => fun
  | [d1, d2, d3] => { results := [.lit (.bool false)], args := [d1, d2, d3] }
  | _ => none }
def PatternTurnsWrongFalsely : Prop := patternTurnsRow.holds Tryz.pinned (OpenSpec.ofChange patternTurnsWrong)

/- THE SECOND FORM. 'bulk': how many values and letters a reading holds, each counted each time it is reached (what is shared counts as often as it is met; a slice's spare places count too). A statement '..UptoSaid' is the law's where the arguments, and the package variables that the reading takes, are together of bulk at most 1048576: NARROWER than '..Said'. Prove '..Said' where nothing that the law and all that it calls make is longer than what came in: it says more and counts as full. Else prove '..UptoSaid'. A law counts once. -/
mutual
def uptoBulk {H : Type} : DataW H → Nat
  | .lit (.string bytes) => bytes.length + 1
  | .lit _ => 1
  | .nil => 1
  | .ptr d => uptoBulk d + 1
  | .slice elems spare => uptoBulkAll elems + uptoBulkAll spare + 1
  | .agg parts => uptoBulkAll parts + 1
  | .iface _ d => uptoBulk d + 1
  | .map entries => uptoBulkEntries entries + 1
  | .held _ => 1
def uptoBulkAll {H : Type} : List (DataW H) → Nat
  | [] => 0
  | d :: r => uptoBulk d + uptoBulkAll r
def uptoBulkEntries {H : Type} : List (Lit × DataW H) → Nat
  | [] => 0
  | x :: r => uptoBulkEntry x + uptoBulkEntries r
def uptoBulkEntry {H : Type} : Lit × DataW H → Nat
  | (.string bytes, d) => bytes.length + uptoBulk d + 1
  | (_, d) => uptoBulk d + 1
 end
def uptoSmall : (H : Type) → List (DataW H) → Bool := fun _ ds => decide (uptoBulkAll ds ≤ 1048576)
def OpenSpec.upto (s : _root_.Go.ChangeSpec) : _root_.Go.OpenSpec := { _root_.Go.OpenSpec.ofChange s with cond := some uptoSmall }

/-- 'becketlaw06.PatternForms', WHERE WHAT IT READS IS OF BULK AT MOST 1048576: true; the input reads as it did. -/
def patternFormsUptoRow : OpenClaim := { program := "ytpdlblofcdcikaagreatdoor", sum := "1e05ad1e964a22d20eea567abdcd939f3ff091a0ca7addb943ba8759a957749a", func := "becket/becketlaw06.PatternForms", spec := "patternForms", inPlace := ["internal/abi.NoEscape", "internal/bytealg.CountString", "internal/bytealg.IndexByteString", "internal/bytealg.IndexString"], unfollowed := true, recurses := true, named := ["unicode/utf8.first", "unicode/utf8.acceptRanges", "internal/bytealg.MaxLen"], plainKeys := false, apart := false, laid := [("unicode/utf8.acceptRanges", laid_unicode_utf8_acceptRanges), ("unicode/utf8.first", laid_unicode_utf8_first)], narrowed := true }
def PatternFormsUptoSaid : Prop := patternFormsUptoRow.holds Tryz.pinned (OpenSpec.upto patternFormsSpec)

/-- 'becketlaw06.PatternPlacings', WHERE WHAT IT READS IS OF BULK AT MOST 1048576: true; the input reads as it did. -/
def patternPlacingsUptoRow : OpenClaim := { program := "ytpdlblofcdcikaagreatdoor", sum := "1e05ad1e964a22d20eea567abdcd939f3ff091a0ca7addb943ba8759a957749a", func := "becket/becketlaw06.PatternPlacings", spec := "patternPlacings", inPlace := ["internal/abi.NoEscape", "internal/bytealg.CountString", "internal/bytealg.IndexByteString", "internal/bytealg.IndexString"], unfollowed := true, recurses := true, named := ["unicode/utf8.first", "unicode/utf8.acceptRanges", "internal/bytealg.MaxLen"], plainKeys := false, apart := false, laid := [("unicode/utf8.acceptRanges", laid_unicode_utf8_acceptRanges), ("unicode/utf8.first", laid_unicode_utf8_first)], narrowed := true }
def PatternPlacingsUptoSaid : Prop := patternPlacingsUptoRow.holds Tryz.pinned (OpenSpec.upto patternPlacingsSpec)

/-- 'becketlaw06.PatternClasses', WHERE WHAT IT READS IS OF BULK AT MOST 1048576: true; the input reads as it did. -/
def patternClassesUptoRow : OpenClaim := { program := "ytpdlblofcdcikaagreatdoor", sum := "1e05ad1e964a22d20eea567abdcd939f3ff091a0ca7addb943ba8759a957749a", func := "becket/becketlaw06.PatternClasses", spec := "patternClasses", inPlace := ["internal/abi.NoEscape", "internal/bytealg.CountString", "internal/bytealg.IndexByteString", "internal/bytealg.IndexString"], unfollowed := true, recurses := true, named := ["unicode/utf8.first", "unicode/utf8.acceptRanges", "internal/bytealg.MaxLen"], plainKeys := false, apart := false, laid := [("unicode/utf8.acceptRanges", laid_unicode_utf8_acceptRanges), ("unicode/utf8.first", laid_unicode_utf8_first)], narrowed := true }
def PatternClassesUptoSaid : Prop := patternClassesUptoRow.holds Tryz.pinned (OpenSpec.upto patternClassesSpec)

/-- 'becketlaw06.PatternListed', WHERE WHAT IT READS IS OF BULK AT MOST 1048576: true; the input reads as it did. -/
def patternListedUptoRow : OpenClaim := { program := "ytpdlblofcdcikaagreatdoor", sum := "1e05ad1e964a22d20eea567abdcd939f3ff091a0ca7addb943ba8759a957749a", func := "becket/becketlaw06.PatternListed", spec := "patternListed", inPlace := ["internal/abi.NoEscape", "internal/bytealg.CountString", "internal/bytealg.IndexByteString", "internal/bytealg.IndexString"], unfollowed := true, recurses := true, named := ["unicode/utf8.first", "unicode/utf8.acceptRanges", "internal/bytealg.MaxLen"], plainKeys := false, apart := false, laid := [("unicode/utf8.acceptRanges", laid_unicode_utf8_acceptRanges), ("unicode/utf8.first", laid_unicode_utf8_first)], narrowed := true }
def PatternListedUptoSaid : Prop := patternListedUptoRow.holds Tryz.pinned (OpenSpec.upto patternListedSpec)

/-- 'becketlaw06.PatternTexts', WHERE WHAT IT READS IS OF BULK AT MOST 1048576: true; the input reads as it did. -/
def patternTextsUptoRow : OpenClaim := { program := "ytpdlblofcdcikaagreatdoor", sum := "1e05ad1e964a22d20eea567abdcd939f3ff091a0ca7addb943ba8759a957749a", func := "becket/becketlaw06.PatternTexts", spec := "patternTexts", inPlace := ["internal/abi.NoEscape", "internal/bytealg.CountString", "internal/bytealg.IndexByteString", "internal/bytealg.IndexString"], unfollowed := true, recurses := true, named := ["unicode/utf8.first", "unicode/utf8.acceptRanges", "internal/bytealg.MaxLen"], plainKeys := false, apart := false, laid := [("unicode/utf8.acceptRanges", laid_unicode_utf8_acceptRanges), ("unicode/utf8.first", laid_unicode_utf8_first)], narrowed := true }
def PatternTextsUptoSaid : Prop := patternTextsUptoRow.holds Tryz.pinned (OpenSpec.upto patternTextsSpec)

/-- 'becketlaw06.PatternCounts', WHERE WHAT IT READS IS OF BULK AT MOST 1048576: true; the input reads as it did. -/
def patternCountsUptoRow : OpenClaim := { program := "ytpdlblofcdcikaagreatdoor", sum := "1e05ad1e964a22d20eea567abdcd939f3ff091a0ca7addb943ba8759a957749a", func := "becket/becketlaw06.PatternCounts", spec := "patternCounts", inPlace := ["internal/abi.NoEscape", "internal/bytealg.CountString", "internal/bytealg.IndexByteString", "internal/bytealg.IndexString"], unfollowed := true, recurses := true, named := ["unicode/utf8.first", "unicode/utf8.acceptRanges", "internal/bytealg.MaxLen"], plainKeys := false, apart := false, laid := [("unicode/utf8.acceptRanges", laid_unicode_utf8_acceptRanges), ("unicode/utf8.first", laid_unicode_utf8_first)], narrowed := true }
def PatternCountsUptoSaid : Prop := patternCountsUptoRow.holds Tryz.pinned (OpenSpec.upto patternCountsSpec)

/-- 'becketlaw06.PatternReads', WHERE WHAT IT READS IS OF BULK AT MOST 1048576: true; the input reads as it did. -/
def patternReadsUptoRow : OpenClaim := { program := "ytpdlblofcdcikaagreatdoor", sum := "1e05ad1e964a22d20eea567abdcd939f3ff091a0ca7addb943ba8759a957749a", func := "becket/becketlaw06.PatternReads", spec := "patternReads", inPlace := ["internal/abi.NoEscape", "internal/bytealg.CountString", "internal/bytealg.IndexByteString", "internal/bytealg.IndexString"], unfollowed := true, recurses := true, named := ["unicode/utf8.first", "unicode/utf8.acceptRanges", "internal/bytealg.MaxLen"], plainKeys := false, apart := false, laid := [("unicode/utf8.acceptRanges", laid_unicode_utf8_acceptRanges), ("unicode/utf8.first", laid_unicode_utf8_first)], narrowed := true }
def PatternReadsUptoSaid : Prop := patternReadsUptoRow.holds Tryz.pinned (OpenSpec.upto patternReadsSpec)

/-- 'becketlaw06.PatternNormals', WHERE WHAT IT READS IS OF BULK AT MOST 1048576: true; the input reads as it did. -/
def patternNormalsUptoRow : OpenClaim := { program := "ytpdlblofcdcikaagreatdoor", sum := "1e05ad1e964a22d20eea567abdcd939f3ff091a0ca7addb943ba8759a957749a", func := "becket/becketlaw06.PatternNormals", spec := "patternNormals", inPlace := ["internal/abi.NoEscape", "internal/bytealg.CountString", "internal/bytealg.IndexByteString", "internal/bytealg.IndexString"], unfollowed := true, recurses := true, named := ["unicode/utf8.first", "unicode/utf8.acceptRanges", "internal/bytealg.MaxLen"], plainKeys := false, apart := false, laid := [("unicode/utf8.acceptRanges", laid_unicode_utf8_acceptRanges), ("unicode/utf8.first", laid_unicode_utf8_first)], narrowed := true }
def PatternNormalsUptoSaid : Prop := patternNormalsUptoRow.holds Tryz.pinned (OpenSpec.upto patternNormalsSpec)

/-- 'becketlaw06.PatternSeen', WHERE WHAT IT READS IS OF BULK AT MOST 1048576: true; the input reads as it did. -/
def patternSeenUptoRow : OpenClaim := { program := "ytpdlblofcdcikaagreatdoor", sum := "1e05ad1e964a22d20eea567abdcd939f3ff091a0ca7addb943ba8759a957749a", func := "becket/becketlaw06.PatternSeen", spec := "patternSeen", inPlace := ["internal/abi.NoEscape", "internal/bytealg.CountString", "internal/bytealg.IndexByteString", "internal/bytealg.IndexString"], unfollowed := true, recurses := true, named := ["unicode/utf8.first", "unicode/utf8.acceptRanges", "internal/bytealg.MaxLen"], plainKeys := false, apart := false, laid := [("unicode/utf8.acceptRanges", laid_unicode_utf8_acceptRanges), ("unicode/utf8.first", laid_unicode_utf8_first)], narrowed := true }
def PatternSeenUptoSaid : Prop := patternSeenUptoRow.holds Tryz.pinned (OpenSpec.upto patternSeenSpec)

/-- 'becketlaw06.PatternClashes', WHERE WHAT IT READS IS OF BULK AT MOST 1048576: true; the input reads as it did. -/
def patternClashesUptoRow : OpenClaim := { program := "ytpdlblofcdcikaagreatdoor", sum := "1e05ad1e964a22d20eea567abdcd939f3ff091a0ca7addb943ba8759a957749a", func := "becket/becketlaw06.PatternClashes", spec := "patternClashes", inPlace := ["internal/abi.NoEscape", "internal/bytealg.CountString", "internal/bytealg.IndexByteString", "internal/bytealg.IndexString"], unfollowed := true, recurses := true, named := ["unicode/utf8.first", "unicode/utf8.acceptRanges", "internal/bytealg.MaxLen"], plainKeys := false, apart := false, laid := [("unicode/utf8.acceptRanges", laid_unicode_utf8_acceptRanges), ("unicode/utf8.first", laid_unicode_utf8_first)], narrowed := true }
def PatternClashesUptoSaid : Prop := patternClashesUptoRow.holds Tryz.pinned (OpenSpec.upto patternClashesSpec)

/-- 'becketlaw06.PatternShifts', WHERE WHAT IT READS IS OF BULK AT MOST 1048576: true; the input reads as it did. -/
def patternShiftsUptoRow : OpenClaim := { program := "ytpdlblofcdcikaagreatdoor", sum := "1e05ad1e964a22d20eea567abdcd939f3ff091a0ca7addb943ba8759a957749a", func := "becket/becketlaw06.PatternShifts", spec := "patternShifts", inPlace := ["internal/abi.NoEscape", "internal/bytealg.CountString", "internal/bytealg.IndexByteString", "internal/bytealg.IndexString"], unfollowed := true, recurses := true, named := ["unicode/utf8.first", "unicode/utf8.acceptRanges", "internal/bytealg.MaxLen"], plainKeys := false, apart := false, laid := [("unicode/utf8.acceptRanges", laid_unicode_utf8_acceptRanges), ("unicode/utf8.first", laid_unicode_utf8_first)], narrowed := true }
def PatternShiftsUptoSaid : Prop := patternShiftsUptoRow.holds Tryz.pinned (OpenSpec.upto patternShiftsSpec)

/-- 'becketlaw06.PatternMakes', WHERE WHAT IT READS IS OF BULK AT MOST 1048576: true; the input reads as it did. -/
def patternMakesUptoRow : OpenClaim := { program := "ytpdlblofcdcikaagreatdoor", sum := "1e05ad1e964a22d20eea567abdcd939f3ff091a0ca7addb943ba8759a957749a", func := "becket/becketlaw06.PatternMakes", spec := "patternMakes", inPlace := ["internal/abi.NoEscape", "internal/bytealg.CountString", "internal/bytealg.IndexByteString", "internal/bytealg.IndexString"], unfollowed := true, recurses := true, named := ["unicode/utf8.first", "unicode/utf8.acceptRanges", "internal/bytealg.MaxLen"], plainKeys := false, apart := false, laid := [("unicode/utf8.acceptRanges", laid_unicode_utf8_acceptRanges), ("unicode/utf8.first", laid_unicode_utf8_first)], narrowed := true }
def PatternMakesUptoSaid : Prop := patternMakesUptoRow.holds Tryz.pinned (OpenSpec.upto patternMakesSpec)

/-- 'becketlaw06.PatternTurns', WHERE WHAT IT READS IS OF BULK AT MOST 1048576: true; the input reads as it did. -/
def patternTurnsUptoRow : OpenClaim := { program := "ytpdlblofcdcikaagreatdoor", sum := "1e05ad1e964a22d20eea567abdcd939f3ff091a0ca7addb943ba8759a957749a", func := "becket/becketlaw06.PatternTurns", spec := "patternTurns", inPlace := ["internal/abi.NoEscape", "internal/bytealg.CountString", "internal/bytealg.IndexByteString", "internal/bytealg.IndexString"], unfollowed := true, recurses := true, named := ["unicode/utf8.first", "unicode/utf8.acceptRanges", "internal/bytealg.MaxLen"], plainKeys := false, apart := false, laid := [("unicode/utf8.acceptRanges", laid_unicode_utf8_acceptRanges), ("unicode/utf8.first", laid_unicode_utf8_first)], narrowed := true }
def PatternTurnsUptoSaid : Prop := patternTurnsUptoRow.holds Tryz.pinned (OpenSpec.upto patternTurnsSpec)

end Rows
end Go.Proofs.YtpdlblofcdcikaaGreatDoor
