/- The fixed examples of the chapter, run in pieces. Conditions: none. -/
import Derived.Test.YtjgfemghlhmlbaaGreatDoorAw0
set_option linter.all false
namespace Go.Proofs.YtjgfemghlhmlbaaGreatDoor
open Go.Idl
theorem aw6 : xA 6 (nE lE6) lH6 274 (nE lE7) lH7 613 = true := by kernel_rfl
theorem zHS : jS 6 c18 = xC 6 := by kernel_rfl
theorem zH9 : xO 6 = true := by kernel_rfl
end Go.Proofs.YtjgfemghlhmlbaaGreatDoor
