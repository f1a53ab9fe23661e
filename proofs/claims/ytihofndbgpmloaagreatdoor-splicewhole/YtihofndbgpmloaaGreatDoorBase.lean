/- What the texts of this seat share. Conditions: none. -/
import Derived.Test.YtihofndbgpmloaaGreatDoorSvB
import Derived.Test.YtihofndbgpmloaaGreatDoorProg
import Derived.KernelRfl
set_option linter.all false
namespace Go.Proofs.YtihofndbgpmloaaGreatDoor
open Go.Idl
def good:FuncId->Bool:=λ_=>false
theorem mix:Tryz.prog.follows .mixedOrders=true:=by kernel_rfl
theorem qBy:Y3 Tryz.prog good (qk 10):=λf fn c h=>by cases h
theorem rh:Setup Tryz.prog good eL (qk 10):=⟨mix,lM,Td,qBy⟩
end Go.Proofs.YtihofndbgpmloaaGreatDoor
