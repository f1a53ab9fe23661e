/- The fixed examples hold. Conditions: none. -/
import Derived.Test.YtbegpnhghineiaaGreatDoorPBN
set_option linter.all false
set_option maxRecDepth 1000000
namespace Go.Proofs.YtbegpnhghineiaaGreatDoor
open Go Go.Idl Go.Sv Go.Proofs
theorem awake:H4 ()=some true:=by kernel_rfl
end Go.Proofs.YtbegpnhghineiaaGreatDoor
