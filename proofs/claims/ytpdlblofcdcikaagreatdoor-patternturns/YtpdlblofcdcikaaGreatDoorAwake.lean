/- The fixed examples of the chapter hold. Conditions: none. -/
import Derived.Test.YtpdlblofcdcikaaGreatDoorAw1
import Derived.Test.YtpdlblofcdcikaaGreatDoorAw2
import Derived.Test.YtpdlblofcdcikaaGreatDoorAw3
import Derived.Test.YtpdlblofcdcikaaGreatDoorAw4
set_option linter.all false
namespace Go.Proofs.YtpdlblofcdcikaaGreatDoor
open Go.Idl
theorem q7H : qX6 Tryz.prog Tryz.f18 (iex Tryz.prog good vM 10000 (.code (qH 20 c18) (y9 266 [(0, .bool true)])) (bZ [] 1055)) (.bool true) = true := by kernel_rfl
theorem qYF : codeOk (zW 3) false (qH 20 c18) = true := by kernel_rfl
theorem qKH : Holds Tryz.prog (zW 3) false c18 (List.replicate 266 undef) (bZ [] 3) fun o => (o.e = .normal ∨ o.e = .ret) ∧ yE Tryz.prog Tryz.f18 o.env o.H = some (.bool true) :=
 kJ.step 10000 zB7 zCH aw0 (
 kJ.step 10000 zB4 zBE aw1 (
 kJ.step 10000 zBX zB8 aw2 (
 kJ.step 10000 zCK zBT aw3 (
 kJ.step 10000 zCF zB2 aw4 (
 kJ.step 10000 zB6 zCA aw5 (
 kJ.step 10000 zB0 zB5 aw6 (
 kJ.step 10000 zBW zCI aw7 (
 kJ.step 10000 zCC zCL aw8 (
 kJ.step 10000 zBM zA8 aw9 (
 kJ.step 10000 q88 q9M zCJ (
 kJ.step 10000 zAF q83 zCD (
 kJ.step 10000 q9K zAL zBR (
 kJ.step 10000 q9P q95 zBO (
 kJ.step 10000 q90 q92 zBH (
 kJ.step 10000 zAA zAB zBD (
 kJ.step 10000 q8X q9H zBI (
 kJ.step 10000 zAG q8Q zB3 (
 kJ.step 10000 q80 q8W zBQ (
 kJ.step 10000 q9I q8S zBY (
 kJ.last 10000 qYF q7H))))))))))))))))))))
end Go.Proofs.YtpdlblofcdcikaaGreatDoor
