/- The fixed examples. Conditions: none. -/
import Derived.Test.YtjboddididohgaaGreatDoorPT8b
set_option linter.all false
set_option maxRecDepth 1000000
namespace Go.Proofs.YtjboddididohgaaGreatDoor
open Go Go.Idl Go.Sv Go.Proofs
theorem awake : H16 () = some true := by kernel_rfl
end Go.Proofs.YtjboddididohgaaGreatDoor
