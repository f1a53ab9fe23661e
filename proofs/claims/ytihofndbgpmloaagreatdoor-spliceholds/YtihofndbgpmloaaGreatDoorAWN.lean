/- The fixed examples. Conditions: none. -/
import Derived.Test.YtihofndbgpmloaaGreatDoorP8A
set_option linter.all false
set_option maxRecDepth 1000000
set_option maxHeartbeats 100000000
namespace Go.Proofs.YtihofndbgpmloaaGreatDoor
open Go Go.Idl Go.Sv Go.Proofs
theorem awake:gb ()=some true:=by kernel_rfl
end Go.Proofs.YtihofndbgpmloaaGreatDoor
