/- The fixed examples of the chapter, run in pieces. Conditions: none. -/
import Derived.Test.YtpegkendiefkaaaGreatDoorAw0
set_option linter.all false
namespace Go.Proofs.YtpegkendiefkaaaGreatDoor
open Go.Idl
theorem zGL : xA 12 (nE zEW) zDA 826 (nE zD5) zDP 907 = true := by kernel_rfl
theorem zD7 : jG 12 c18 = xC 12 := by kernel_rfl
theorem zEI : xO 12 = true := by kernel_rfl
theorem zHC : xA 13 (nE zD5) zDP 907 (nE zC1) zEP 974 = true := by kernel_rfl
theorem zEY : jG 13 c18 = xC 13 := by kernel_rfl
theorem zE7 : xO 13 = true := by kernel_rfl
theorem zGH : xA 14 (nE zC1) zEP 974 (nE zDR) zD1 987 = true := by kernel_rfl
theorem zDE : jG 14 c18 = xC 14 := by kernel_rfl
theorem zET : xO 14 = true := by kernel_rfl
theorem zG2 : xA 15 (nE zDR) zD1 987 (nE zE0) zDS 1004 = true := by kernel_rfl
theorem zEM : jG 15 c18 = xC 15 := by kernel_rfl
theorem zD9 : xO 15 = true := by kernel_rfl
theorem zG1 : xA 16 (nE zE0) zDS 1004 (nE zE1) zC6 1014 = true := by kernel_rfl
theorem zDI : jG 16 c18 = xC 16 := by kernel_rfl
theorem zDM : xO 16 = true := by kernel_rfl
theorem zG8 : xA 17 (nE zE1) zC6 1014 (nE zEB) zE9 1041 = true := by kernel_rfl
theorem zDW : jG 17 c18 = xC 17 := by kernel_rfl
theorem zFA : xO 17 = true := by kernel_rfl
theorem zF8 : xA 18 (nE zEB) zE9 1041 (nE zFV) zF4 1053 = true := by kernel_rfl
theorem zEG : jG 18 c18 = xC 18 := by kernel_rfl
theorem zDQ : xO 18 = true := by kernel_rfl
theorem zGN : xA 19 (nE zFV) zF4 1053 (nE zFU) zFR 1055 = true := by kernel_rfl
theorem zC3 : jG 19 c18 = xC 19 := by kernel_rfl
theorem zDF : xO 19 = true := by kernel_rfl
end Go.Proofs.YtpegkendiefkaaaGreatDoor
