/- The fixed examples of the chapter, run in pieces. Conditions: none. -/
import Derived.Test.YtjgfemghlhmlbaaGreatDoorAw0
set_option linter.all false
namespace Go.Proofs.YtjgfemghlhmlbaaGreatDoor
open Go.Idl
theorem aw7 : xA 7 (nE lE7) lH7 613 (nE lE8) lH8 672 = true := by kernel_rfl
theorem zHJ : jS 7 c18 = xC 7 := by kernel_rfl
theorem zH1 : xO 7 = true := by kernel_rfl
theorem aw8 : xA 8 (nE lE8) lH8 672 (nE lE9) lH9 738 = true := by kernel_rfl
theorem zG8 : jS 8 c18 = xC 8 := by kernel_rfl
theorem zG1 : xO 8 = true := by kernel_rfl
theorem aw9 : xA 9 (nE lE9) lH9 738 (nE zFQ) zGT 756 = true := by kernel_rfl
theorem zHQ : jS 9 c18 = xC 9 := by kernel_rfl
theorem zHM : xO 9 = true := by kernel_rfl
theorem zGZ : xA 10 (nE zFQ) zGT 756 (nE zER) zFP 776 = true := by kernel_rfl
theorem zED : jS 10 c18 = xC 10 := by kernel_rfl
theorem zEZ : xO 10 = true := by kernel_rfl
theorem zH7 : xA 11 (nE zER) zFP 776 (nE zFI) zFH 826 = true := by kernel_rfl
theorem zEJ : jS 11 c18 = xC 11 := by kernel_rfl
theorem zE2 : xO 11 = true := by kernel_rfl
end Go.Proofs.YtjgfemghlhmlbaaGreatDoor
