/- The fixed examples. Conditions: none. -/
import Derived.Test.YtpnecffgnjijjaaGreatDoorPB9
set_option linter.all false
set_option maxRecDepth 1000000
set_option maxHeartbeats 100000000
namespace Go.Proofs.YtpnecffgnjijjaaGreatDoor
open Go Go.Idl Go.Sv Go.Proofs
theorem awake:H6 ()=some true:=by kernel_rfl
end Go.Proofs.YtpnecffgnjijjaaGreatDoor
