/- Plain laws of chapter 8: states are checked alike. Conditions: none. -/
import Derived.Test.YtjboddididohgaaGreatDoorPR2
import Derived.Test.YtjboddididohgaaGreatDoorPQ2
set_option linter.all false
set_option maxRecDepth 10000
namespace Go.Proofs.YtjboddididohgaaGreatDoor
open Go Go.Idl Go.Sv Go.Proofs
def kv (p : Int × Int) : Value := .agg #[.int .i64 p.1, .int .i64 p.2]
end Go.Proofs.YtjboddididohgaaGreatDoor
