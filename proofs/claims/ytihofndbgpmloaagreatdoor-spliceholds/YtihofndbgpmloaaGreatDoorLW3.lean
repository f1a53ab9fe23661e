/- A contract at a few arguments. Conditions: none. -/
import Derived.Test.YtihofndbgpmloaaGreatDoorLW2
set_option linter.all false
namespace Go.Sv
open Go.Idl
section
variable[Gc]
variable{P:Program}{good:FuncId->Bool}{G:Nat->Bool}{T:zM}{IT:List (FuncId×yq)}
end
end Go.Sv
