/- The fixed examples of the chapter hold. Conditions: none. -/
import Derived.Test.YtpdlblofcdcikaaGreatDoorAw1
import Derived.Test.YtpdlblofcdcikaaGreatDoorAw2
import Derived.Test.YtpdlblofcdcikaaGreatDoorAw3
import Derived.Test.YtpdlblofcdcikaaGreatDoorAw4
set_option linter.all false
namespace Go.Proofs.YtpdlblofcdcikaaGreatDoor
open Go.Idl
theorem q33 : qW1 Tryz.prog Tryz.f18 (iex Tryz.prog good jD 10000 (.code (qI 20 c18) (yN 266 [(0, .bool true)])) (eO [] 1055)) (.bool true) = true := by kernel_rfl
theorem qXO : codeOk (zL 3) false (qI 20 c18) = true := by kernel_rfl
theorem qLR : Holds Tryz.prog (zL 3) false c18 (List.replicate 266 undef) (eO [] 3) fun o => (o.e = .normal ∨ o.e = .ret) ∧ yC Tryz.prog Tryz.f18 o.env o.H = some (.bool true) :=
 yP.step 10000 q9N q9L aw0 (
 yP.step 10000 q9X q8S aw1 (
 yP.step 10000 q9G q9V aw2 (
 yP.step 10000 q9Z q9R aw3 (
 yP.step 10000 q89 q9B aw4 (
 yP.step 10000 q85 q93 aw5 (
 yP.step 10000 q92 q9C aw6 (
 yP.step 10000 q84 q9P aw7 (
 yP.step 10000 q83 q9S aw8 (
 yP.step 10000 q95 q82 aw9 (
 yP.step 10000 q71 q7N q8W (
 yP.step 10000 q6O q7T q9A (
 yP.step 10000 q7V q7D q91 (
 yP.step 10000 q7M q68 q9I (
 yP.step 10000 q7F q69 q8X (
 yP.step 10000 q6K q7K q9E (
 yP.step 10000 q6P q6W q81 (
 yP.step 10000 q65 q6M q9T (
 yP.step 10000 q6H q6L q8Q (
 yP.step 10000 q61 q7J q9J (
 yP.last 10000 qXO q33))))))))))))))))))))
end Go.Proofs.YtpdlblofcdcikaaGreatDoor
