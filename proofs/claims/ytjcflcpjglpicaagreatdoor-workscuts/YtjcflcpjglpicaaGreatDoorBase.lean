/- What the texts of this seat share. Conditions: none. -/
import Derived.Test.YtjcflcpjglpicaaGreatDoorSvB
import Derived.Test.YtjcflcpjglpicaaGreatDoorProg
import Derived.KernelRfl
set_option linter.all false
namespace Go.Proofs.YtjcflcpjglpicaaGreatDoor
open Go.Idl
def good:FuncId->Bool:=fun _=>false
theorem mix:Tryz.prog.follows .mixedOrders=true:=by kernel_rfl
theorem zDX:q14 Tryz.prog good (qH 10):=fun f fn c h=>by cases h
theorem zCK:Setup Tryz.prog good q3O (qH 10):=⟨mix,qYE,qS0,zDX⟩
end Go.Proofs.YtjcflcpjglpicaaGreatDoor
