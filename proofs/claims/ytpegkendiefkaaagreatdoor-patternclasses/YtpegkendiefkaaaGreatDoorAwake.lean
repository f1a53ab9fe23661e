/- The fixed examples of the chapter hold. Conditions: none. -/
import Derived.Test.YtpegkendiefkaaaGreatDoorAw1
import Derived.Test.YtpegkendiefkaaaGreatDoorAw2
import Derived.Test.YtpegkendiefkaaaGreatDoorAw3
import Derived.Test.YtpegkendiefkaaaGreatDoorAw4
set_option linter.all false
namespace Go.Proofs.YtpegkendiefkaaaGreatDoor
open Go.Idl
theorem zAN : q1U Tryz.prog Tryz.f5 (iex Tryz.prog good qSG 10000 (.code (jG 20 c18) (nE zFU)) (qO7 zFR 1055)) (.bool true) = true := by kernel_rfl
theorem q3G : codeOk (vD 3) false (jG 20 c18) = true := by kernel_rfl
theorem qNP : Holds Tryz.prog (vD 3) false c18 (List.replicate 266 undef) (qO7 [] 3) fun o => (o.e = .normal ∨ o.e = .ret) ∧ yU Tryz.prog Tryz.f5 o.env o.H = some (.bool true) :=
 xW.step 10000 zHG zG4 aw0 (
 xW.step 10000 zGY zHA aw1 (
 xW.step 10000 zGR zG5 aw2 (
 xW.step 10000 zGG zGM aw3 (
 xW.step 10000 zG0 zHK aw4 (
 xW.step 10000 zGS zG3 aw5 (
 xW.step 10000 zG6 zHE aw6 (
 xW.step 10000 zGP zGJ aw7 (
 xW.step 10000 zHM zGF aw8 (
 xW.step 10000 zGB zGC aw9 (
 xW.step 10000 zDN zE2 zGU (
 xW.step 10000 zDL zDZ zGZ (
 xW.step 10000 zD7 zEI zGL (
 xW.step 10000 zEY zE7 zHC (
 xW.step 10000 zDE zET zGH (
 xW.step 10000 zEM zD9 zG2 (
 xW.step 10000 zDI zDM zG1 (
 xW.step 10000 zDW zFA zG8 (
 xW.step 10000 zEG zDQ zF8 (
 xW.step 10000 zC3 zDF zGN (
 xW.last 10000 q3G zAN))))))))))))))))))))
end Go.Proofs.YtpegkendiefkaaaGreatDoor
