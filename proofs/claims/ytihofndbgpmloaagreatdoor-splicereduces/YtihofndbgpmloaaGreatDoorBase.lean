/- What the texts of this seat share. Conditions: none. -/
import Derived.Test.YtihofndbgpmloaaGreatDoorSvB
import Derived.Test.YtihofndbgpmloaaGreatDoorProg
import Derived.KernelRfl
set_option linter.all false
namespace Go.Proofs.YtihofndbgpmloaaGreatDoor
open Go.Idl
def good:FuncId->Bool:=λ_=>false
theorem mix:Tryz.prog.follows .mixedOrders=true:=by kernel_rfl
theorem ir:ZN Tryz.prog good (qo 10):=λf fn c h=>by cases h
theorem pQ:Setup Tryz.prog good dL (qo 10):=⟨mix,S5,R6,ir⟩
end Go.Proofs.YtihofndbgpmloaaGreatDoor
