/- The fixed examples of the chapter hold. Conditions: none. -/
import Derived.Test.YtpdlblofcdcikaaGreatDoorAw1
import Derived.Test.YtpdlblofcdcikaaGreatDoorAw2
import Derived.Test.YtpdlblofcdcikaaGreatDoorAw3
import Derived.Test.YtpdlblofcdcikaaGreatDoorAw4
set_option linter.unusedSimpArgs false
set_option linter.unusedVariables false
namespace Go.Proofs.YtpdlblofcdcikaaGreatDoor
open Go.Idl
theorem q1V : qVJ Tryz.prog Tryz.f18 (iex Tryz.prog good vX 10000 (.code (qH 20 c18) (xN 266 [(0, .bool true)])) (dD [] 1055)) (.bool true) = true := by kernel_rfl
theorem qU6 : codeOk (qO 3) false (qH 20 c18) = true := by kernel_rfl
theorem qKW : Holds Tryz.prog (qO 3) false c18 (List.replicate 266 undef) (dD [] 3) fun o => (o.e = .normal ∨ o.e = .ret) ∧ yX Tryz.prog Tryz.f18 o.env o.H = some (.bool true) :=
 kY.step 10000 q5G q4T aw0 (
 kY.step 10000 q5I q5U aw1 (
 kY.step 10000 q5B q5S aw2 (
 kY.step 10000 q5J q5P aw3 (
 kY.step 10000 q4Z q4M aw4 (
 kY.step 10000 q4S q4U aw5 (
 kY.step 10000 q43 q4X aw6 (
 kY.step 10000 q4V q5F aw7 (
 kY.step 10000 q4N q4Q aw8 (
 kY.step 10000 q4P q5A aw9 (
 kY.step 10000 q23 q2K q5C (
 kY.step 10000 q2Z q2W q40 (
 kY.step 10000 q2L q2N q5T (
 kY.step 10000 q3Q q3M q5Z (
 kY.step 10000 q3N q3F q4O (
 kY.step 10000 q3P q2M q4Y (
 kY.step 10000 q27 q3L q49 (
 kY.step 10000 q3H q3Z q5Q (
 kY.step 10000 q2R q30 q46 (
 kY.step 10000 q2Q q2Y q5R (
 kY.last 10000 qU6 q1V))))))))))))))))))))
end Go.Proofs.YtpdlblofcdcikaaGreatDoor
