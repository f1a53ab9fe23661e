/- The fixed examples of the chapter, run in pieces. Conditions: none. -/
import Derived.Test.YtpegkendiefkaaaGreatDoorAw0
set_option linter.all false
namespace Go.Proofs.YtpegkendiefkaaaGreatDoor
open Go.Idl
theorem aw7 : xA 7 (nE lE7) lH7 613 (nE lE8) lH8 672 = true := by kernel_rfl
theorem zGP : jG 7 c18 = xC 7 := by kernel_rfl
theorem zGJ : xO 7 = true := by kernel_rfl
theorem aw8 : xA 8 (nE lE8) lH8 672 (nE lE9) lH9 738 = true := by kernel_rfl
theorem zHM : jG 8 c18 = xC 8 := by kernel_rfl
theorem zGF : xO 8 = true := by kernel_rfl
theorem aw9 : xA 9 (nE lE9) lH9 738 (nE zD4) zF7 756 = true := by kernel_rfl
theorem zGB : jG 9 c18 = xC 9 := by kernel_rfl
theorem zGC : xO 9 = true := by kernel_rfl
theorem zGU : xA 10 (nE zD4) zF7 756 (nE zE5) zC4 776 = true := by kernel_rfl
theorem zDN : jG 10 c18 = xC 10 := by kernel_rfl
theorem zE2 : xO 10 = true := by kernel_rfl
theorem zGZ : xA 11 (nE zE5) zC4 776 (nE zEW) zDA 826 = true := by kernel_rfl
theorem zDL : jG 11 c18 = xC 11 := by kernel_rfl
theorem zDZ : xO 11 = true := by kernel_rfl
end Go.Proofs.YtpegkendiefkaaaGreatDoor
