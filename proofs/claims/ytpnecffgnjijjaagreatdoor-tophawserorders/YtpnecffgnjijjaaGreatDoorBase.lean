/- What the texts of this seat share. Conditions: none. -/
import Derived.Test.YtpnecffgnjijjaaGreatDoorSvB
import Derived.Test.YtpnecffgnjijjaaGreatDoorProg
import Derived.KernelRfl
set_option linter.all false
namespace Go.Proofs.YtpnecffgnjijjaaGreatDoor
open Go.Idl
def good:FuncId->Bool:=fun _=>false
theorem mix:Tryz.prog.follows .mixedOrders=true:=by kernel_rfl
theorem zDC:qZD Tryz.prog good (qW 10):=fun f fn c h=>by cases h
theorem zAY:Setup Tryz.prog good q0H (qW 10):=⟨mix,qUN,qRB,zDC⟩
end Go.Proofs.YtpnecffgnjijjaaGreatDoor
