/- What the texts of this seat share. Conditions: none. -/
import Derived.Test.YtmojbdabaigobaaGreatDoorSvB
import Derived.Test.YtmojbdabaigobaaGreatDoorProg
import Derived.KernelRfl
set_option linter.all false
namespace Go.Proofs.YtmojbdabaigobaaGreatDoor
open Go.Idl
def good:FuncId->Bool:=fun _=>false
theorem mix:Tryz.prog.follows .mixedOrders=true:=by kernel_rfl
theorem zC5:qY4 Tryz.prog good (qJ 10):=fun f fn c h=>by cases h
theorem zBO:Setup Tryz.prog good qZ7 (qJ 10):=⟨mix,qVA,qRO,zC5⟩
end Go.Proofs.YtmojbdabaigobaaGreatDoor
