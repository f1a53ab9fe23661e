/- The fixed examples of the chapter hold. Conditions: none. -/
import Derived.Test.YtpdlblofcdcikaaGreatDoorAw1
import Derived.Test.YtpdlblofcdcikaaGreatDoorAw2
import Derived.Test.YtpdlblofcdcikaaGreatDoorAw3
import Derived.Test.YtpdlblofcdcikaaGreatDoorAw4
set_option linter.unusedSimpArgs false
set_option linter.unusedVariables false
namespace Go.Proofs.YtpdlblofcdcikaaGreatDoor
open Go.Idl
theorem awLast : retAs Tryz.prog Tryz.f18 (iex Tryz.prog good noNat 10000 (.code (dropS 20 c18) (mkEnv 266 [(0, .bool true)])) (mkIH [] 1055)) (.bool true) = true := by kernel_rfl
theorem awLastOk : codeOk (globG 3) false (dropS 20 c18) = true := by kernel_rfl
theorem awake_holds : Holds Tryz.prog (globG 3) false c18 (List.replicate 266 undef) (mkIH [] 3) fun o => (o.e = .normal ∨ o.e = .ret) ∧ iresults Tryz.prog Tryz.f18 o.env o.H = some (.bool true) :=
  setup0.step 10000 awc0 awo0 aw0 (
  setup0.step 10000 awc1 awo1 aw1 (
  setup0.step 10000 awc2 awo2 aw2 (
  setup0.step 10000 awc3 awo3 aw3 (
  setup0.step 10000 awc4 awo4 aw4 (
  setup0.step 10000 awc5 awo5 aw5 (
  setup0.step 10000 awc6 awo6 aw6 (
  setup0.step 10000 awc7 awo7 aw7 (
  setup0.step 10000 awc8 awo8 aw8 (
  setup0.step 10000 awc9 awo9 aw9 (
  setup0.step 10000 awc10 awo10 aw10 (
  setup0.step 10000 awc11 awo11 aw11 (
  setup0.step 10000 awc12 awo12 aw12 (
  setup0.step 10000 awc13 awo13 aw13 (
  setup0.step 10000 awc14 awo14 aw14 (
  setup0.step 10000 awc15 awo15 aw15 (
  setup0.step 10000 awc16 awo16 aw16 (
  setup0.step 10000 awc17 awo17 aw17 (
  setup0.step 10000 awc18 awo18 aw18 (
  setup0.step 10000 awc19 awo19 aw19 (
  setup0.last 10000 awLastOk awLast))))))))))))))))))))
end Go.Proofs.YtpdlblofcdcikaaGreatDoor
