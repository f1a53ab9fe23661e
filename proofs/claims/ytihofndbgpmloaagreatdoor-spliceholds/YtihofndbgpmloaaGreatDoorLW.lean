/- A contract that says less, in other words. Conditions: none. -/
import Derived.Test.YtihofndbgpmloaaGreatDoorSvB
set_option linter.all false
namespace Go.Sv
open Go.Idl
noncomputable section
variable[Gc]
variable{P:Program}{good:FuncId->Bool}{G:Nat->Bool}{T:zM}{IT:List (FuncId×yq)}
end
end Go.Sv
