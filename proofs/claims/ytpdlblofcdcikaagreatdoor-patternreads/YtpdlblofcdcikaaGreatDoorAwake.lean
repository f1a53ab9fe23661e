/- The fixed examples of the chapter hold. Conditions: none. -/
import Derived.Test.YtpdlblofcdcikaaGreatDoorAw1
import Derived.Test.YtpdlblofcdcikaaGreatDoorAw2
import Derived.Test.YtpdlblofcdcikaaGreatDoorAw3
import Derived.Test.YtpdlblofcdcikaaGreatDoorAw4
set_option linter.all false
namespace Go.Proofs.YtpdlblofcdcikaaGreatDoor
open Go.Idl
theorem q54 : qYA Tryz.prog Tryz.f18 (iex Tryz.prog good jB 10000 (.code (qI 20 c18) (yM 266 [(0, .bool true)])) (dY [] 1055)) (.bool true) = true := by kernel_rfl
theorem qW9 : codeOk (zM 3) false (qI 20 c18) = true := by kernel_rfl
theorem qLU : Holds Tryz.prog (zM 3) false c18 (List.replicate 266 undef) (dY [] 3) fun o => (o.e = .normal ∨ o.e = .ret) ∧ yB Tryz.prog Tryz.f18 o.env o.H = some (.bool true) :=
 yN.step 10000 q87 q8U aw0 (
 yN.step 10000 q9Q q9A aw1 (
 yN.step 10000 q8W q89 aw2 (
 yN.step 10000 q9J q9E aw3 (
 yN.step 10000 q8V q8Y aw4 (
 yN.step 10000 q9R q8X aw5 (
 yN.step 10000 q9G q9O aw6 (
 yN.step 10000 q94 q91 aw7 (
 yN.step 10000 q88 q83 aw8 (
 yN.step 10000 q8Z q9U aw9 (
 yN.step 10000 q62 q7E q9T (
 yN.step 10000 q7Q q60 q8S (
 yN.step 10000 q6Y q7G q82 (
 yN.step 10000 q7U q6J q86 (
 yN.step 10000 q6Z q6O q9H (
 yN.step 10000 q7F q71 q9D (
 yN.step 10000 q69 q6R q80 (
 yN.step 10000 q7X q6I q9I (
 yN.step 10000 q6P q6U q8R (
 yN.step 10000 q7C q6T q9K (
 yN.last 10000 qW9 q54))))))))))))))))))))
end Go.Proofs.YtpdlblofcdcikaaGreatDoor
