/- The fixed examples hold. Conditions: none. -/
import Derived.Test.YtfcipnpcakejoaaGreatDoorPBN
set_option linter.all false
set_option maxRecDepth 1000000
namespace Go.Proofs.YtfcipnpcakejoaaGreatDoor
open Go Go.Idl Go.Sv Go.Proofs
theorem awake:H4 ()=some true:=by kernel_rfl
end Go.Proofs.YtfcipnpcakejoaaGreatDoor
