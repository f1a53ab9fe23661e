/- The fixed examples of the chapter hold. Conditions: none. -/
import Derived.Test.YtjgfemghlhmlbaaGreatDoorAw1
import Derived.Test.YtjgfemghlhmlbaaGreatDoorAw2
import Derived.Test.YtjgfemghlhmlbaaGreatDoorAw3
import Derived.Test.YtjgfemghlhmlbaaGreatDoorAw4
set_option linter.all false
namespace Go.Proofs.YtjgfemghlhmlbaaGreatDoor
open Go.Idl
theorem zCY : q31 Tryz.prog Tryz.f8 (iex Tryz.prog good qSZ 10000 (.code (jS 20 c18) (nE zGH)) (qP6 zF6 1055)) (.bool true) = true := by kernel_rfl
theorem q1W : codeOk (wP 3) false (jS 20 c18) = true := by kernel_rfl
theorem qOJ : Holds Tryz.prog (wP 3) false c18 (List.replicate 266 undef) (qP6 [] 3) fun o => (o.e = .normal ∨ o.e = .ret) ∧ yR Tryz.prog Tryz.f8 o.env o.H = some (.bool true) :=
 xU.step 10000 zHP zGY aw0 (
 xU.step 10000 zG2 zG3 aw1 (
 xU.step 10000 zGW zHF aw2 (
 xU.step 10000 zHG zG5 aw3 (
 xU.step 10000 zH8 zG6 aw4 (
 xU.step 10000 zH4 zH0 aw5 (
 xU.step 10000 zHS zH9 aw6 (
 xU.step 10000 zHJ zH1 aw7 (
 xU.step 10000 zG8 zG1 aw8 (
 xU.step 10000 zHQ zHM aw9 (
 xU.step 10000 zED zEZ zGZ (
 xU.step 10000 zEJ zE2 zH7 (
 xU.step 10000 zFZ zD7 zHE (
 xU.step 10000 zD6 zEC zHH (
 xU.step 10000 zEQ zFB zHB (
 xU.step 10000 zEX zD4 zH5 (
 xU.step 10000 zFO zFT zHV (
 xU.step 10000 zF0 zE6 zH2 (
 xU.step 10000 zD5 zE0 zGV (
 xU.step 10000 zEV zFU zG4 (
 xU.last 10000 q1W zCY))))))))))))))))))))
end Go.Proofs.YtjgfemghlhmlbaaGreatDoor
