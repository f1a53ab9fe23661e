/- The fixed examples of the chapter, run in pieces. Conditions: none. -/
import Derived.Test.YtjgfemghlhmlbaaGreatDoorAw0
set_option linter.all false
namespace Go.Proofs.YtjgfemghlhmlbaaGreatDoor
open Go.Idl
theorem aw0 : xA 0 (List.replicate 266 undef) lH0 3 (nE lE1) lH1 3 = true := by kernel_rfl
theorem zHP : jS 0 c18 = xC 0 := by kernel_rfl
theorem zGY : xO 0 = true := by kernel_rfl
theorem aw1 : xA 1 (nE lE1) lH1 3 (nE lE2) lH2 53 = true := by kernel_rfl
theorem zG2 : jS 1 c18 = xC 1 := by kernel_rfl
theorem zG3 : xO 1 = true := by kernel_rfl
theorem aw2 : xA 2 (nE lE2) lH2 53 (nE lE3) lH3 71 = true := by kernel_rfl
theorem zGW : jS 2 c18 = xC 2 := by kernel_rfl
theorem zHF : xO 2 = true := by kernel_rfl
theorem aw3 : xA 3 (nE lE3) lH3 71 (nE lE4) lH4 130 = true := by kernel_rfl
theorem zHG : jS 3 c18 = xC 3 := by kernel_rfl
theorem zG5 : xO 3 = true := by kernel_rfl
theorem aw4 : xA 4 (nE lE4) lH4 130 (nE lE5) lH5 200 = true := by kernel_rfl
theorem zH8 : jS 4 c18 = xC 4 := by kernel_rfl
theorem zG6 : xO 4 = true := by kernel_rfl
theorem aw5 : xA 5 (nE lE5) lH5 200 (nE lE6) lH6 274 = true := by kernel_rfl
theorem zH4 : jS 5 c18 = xC 5 := by kernel_rfl
theorem zH0 : xO 5 = true := by kernel_rfl
end Go.Proofs.YtjgfemghlhmlbaaGreatDoor
