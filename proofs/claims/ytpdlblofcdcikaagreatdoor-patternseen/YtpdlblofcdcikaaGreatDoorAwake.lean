/- The fixed examples of the chapter hold. Conditions: none. -/
import Derived.Test.YtpdlblofcdcikaaGreatDoorAw1
import Derived.Test.YtpdlblofcdcikaaGreatDoorAw2
import Derived.Test.YtpdlblofcdcikaaGreatDoorAw3
import Derived.Test.YtpdlblofcdcikaaGreatDoorAw4
set_option linter.all false
namespace Go.Proofs.YtpdlblofcdcikaaGreatDoor
open Go.Idl
theorem q4G : qZD Tryz.prog Tryz.f18 (iex Tryz.prog good jI 10000 (.code (qK 20 c18) (yK 266 [(0, .bool true)])) (bL [] 1055)) (.bool true) = true := by kernel_rfl
theorem qZT : codeOk (zZ 3) false (qK 20 c18) = true := by kernel_rfl
theorem qKX : Holds Tryz.prog (zZ 3) false c18 (List.replicate 266 undef) (bL [] 3) fun o => (o.e = .normal ∨ o.e = .ret) ∧ yB Tryz.prog Tryz.f18 o.env o.H = some (.bool true) :=
 xH.step 10000 q9L q9K aw0 (
 xH.step 10000 q9E q91 aw1 (
 xH.step 10000 q9G q92 aw2 (
 xH.step 10000 q90 q9Y aw3 (
 xH.step 10000 q9M zAA aw4 (
 xH.step 10000 q9F q9D aw5 (
 xH.step 10000 zAD q96 aw6 (
 xH.step 10000 q9R q9Z aw7 (
 xH.step 10000 q9P q9S aw8 (
 xH.step 10000 q9U q98 aw9 (
 xH.step 10000 q69 q7E q95 (
 xH.step 10000 q8Q q64 zAJ (
 xH.step 10000 q8R q8I q9T (
 xH.step 10000 q75 q8A q9I (
 xH.step 10000 q6Y q6W zAI (
 xH.step 10000 q7J q7H zAE (
 xH.step 10000 q63 q79 zAG (
 xH.step 10000 q7R q70 q97 (
 xH.step 10000 q7V q73 q9C (
 xH.step 10000 q7X q77 q9Q (
 xH.last 10000 qZT q4G))))))))))))))))))))
end Go.Proofs.YtpdlblofcdcikaaGreatDoor
