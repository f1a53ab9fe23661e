/- The fixed examples of the chapter, run in pieces. Conditions: none. -/
import Derived.Test.YtjgfemghlhmlbaaGreatDoorAw0
set_option linter.all false
namespace Go.Proofs.YtjgfemghlhmlbaaGreatDoor
open Go.Idl
theorem zHE : xA 12 (nE zFI) zFH 826 (nE zFC) zFJ 907 = true := by kernel_rfl
theorem zFZ : jS 12 c18 = xC 12 := by kernel_rfl
theorem zD7 : xO 12 = true := by kernel_rfl
theorem zHH : xA 13 (nE zFC) zFJ 907 (nE zFW) zEN 974 = true := by kernel_rfl
theorem zD6 : jS 13 c18 = xC 13 := by kernel_rfl
theorem zEC : xO 13 = true := by kernel_rfl
theorem zHB : xA 14 (nE zFW) zEN 974 (nE zFN) zD1 987 = true := by kernel_rfl
theorem zEQ : jS 14 c18 = xC 14 := by kernel_rfl
theorem zFB : xO 14 = true := by kernel_rfl
theorem zH5 : xA 15 (nE zFN) zD1 987 (nE zES) zDZ 1004 = true := by kernel_rfl
theorem zEX : jS 15 c18 = xC 15 := by kernel_rfl
theorem zD4 : xO 15 = true := by kernel_rfl
theorem zHV : xA 16 (nE zES) zDZ 1004 (nE zFY) zFM 1014 = true := by kernel_rfl
theorem zFO : jS 16 c18 = xC 16 := by kernel_rfl
theorem zFT : xO 16 = true := by kernel_rfl
theorem zH2 : xA 17 (nE zFY) zFM 1014 (nE zFV) zEH 1041 = true := by kernel_rfl
theorem zF0 : jS 17 c18 = xC 17 := by kernel_rfl
theorem zE6 : xO 17 = true := by kernel_rfl
theorem zGV : xA 18 (nE zFV) zEH 1041 (nE zGE) zF8 1053 = true := by kernel_rfl
theorem zD5 : jS 18 c18 = xC 18 := by kernel_rfl
theorem zE0 : xO 18 = true := by kernel_rfl
theorem zG4 : xA 19 (nE zGE) zF8 1053 (nE zGH) zF6 1055 = true := by kernel_rfl
theorem zEV : jS 19 c18 = xC 19 := by kernel_rfl
theorem zFU : xO 19 = true := by kernel_rfl
end Go.Proofs.YtjgfemghlhmlbaaGreatDoor
