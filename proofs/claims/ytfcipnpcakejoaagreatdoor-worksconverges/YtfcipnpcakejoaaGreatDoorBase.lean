/- What the texts of this seat share. Conditions: none. -/
import Derived.Test.YtfcipnpcakejoaaGreatDoorSvB
import Derived.Test.YtfcipnpcakejoaaGreatDoorProg
import Derived.KernelRfl
set_option linter.all false
namespace Go.Proofs.YtfcipnpcakejoaaGreatDoor
open Go.Idl
def good:FuncId->Bool:=λ_=>false
theorem mix:Tryz.prog.follows .mixedOrders=true:=by kernel_rfl
theorem qAh:Zr Tryz.prog good (qV 10):=λf fn c h=>by cases h
theorem pf:Setup Tryz.prog good di (qV 10):=⟨mix,Si,Rn,qAh⟩
end Go.Proofs.YtfcipnpcakejoaaGreatDoor
