/- Plain laws of chapter 8: states are checked alike, by the reference. Conditions: none. -/
import Derived.Test.YtjboddididohgaaGreatDoorPR5
set_option linter.all false
set_option maxRecDepth 10000
namespace Go.Proofs.YtjboddididohgaaGreatDoor
open Go Go.Idl Go.Sv Go.Proofs
end Go.Proofs.YtjboddididohgaaGreatDoor
