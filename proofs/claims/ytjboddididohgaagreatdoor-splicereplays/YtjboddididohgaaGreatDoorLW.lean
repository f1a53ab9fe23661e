/- A contract that says less, in other words. Conditions: none. -/
import Derived.Test.YtjboddididohgaaGreatDoorSvB
set_option linter.all false
namespace Go.Sv
open Go.Idl
noncomputable section
variable [Gc]
variable {P : Program} {good : FuncId -> Bool} {G : Nat -> Bool} {T : kS} {IT : List (FuncId × zAV)}
end
end Go.Sv
