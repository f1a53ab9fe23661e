/- The fixed examples. Conditions: none. -/
import Derived.Test.YtmojbdabaigobaaGreatDoorPB9
set_option linter.all false
set_option maxRecDepth 1000000
set_option maxHeartbeats 100000000
namespace Go.Proofs.YtmojbdabaigobaaGreatDoor
open Go Go.Idl Go.Sv Go.Proofs
theorem awake:H9 ()=some true:=by kernel_rfl
end Go.Proofs.YtmojbdabaigobaaGreatDoor
