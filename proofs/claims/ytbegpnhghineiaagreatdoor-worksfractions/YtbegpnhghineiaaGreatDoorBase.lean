/- What the texts of this seat share. Conditions: none. -/
import Derived.Test.YtbegpnhghineiaaGreatDoorSvB
import Derived.Test.YtbegpnhghineiaaGreatDoorProg
import Derived.KernelRfl
set_option linter.all false
namespace Go.Proofs.YtbegpnhghineiaaGreatDoor
open Go.Idl
def good:FuncId->Bool:=λ_=>false
theorem mix:Tryz.prog.follows .mixedOrders=true:=by kernel_rfl
theorem Im:ZC Tryz.prog good (qT 10):=λf fn c h=>by cases h
theorem pB:Setup Tryz.prog good cw (qT 10):=⟨mix,RQ,Pq,Im⟩
end Go.Proofs.YtbegpnhghineiaaGreatDoor
