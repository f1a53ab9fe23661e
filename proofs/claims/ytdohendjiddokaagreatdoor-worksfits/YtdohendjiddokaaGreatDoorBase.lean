/- What the texts of this seat share. Conditions: none. -/
import Derived.Test.YtdohendjiddokaaGreatDoorSvB
import Derived.Test.YtdohendjiddokaaGreatDoorProg
import Derived.KernelRfl
set_option linter.all false
namespace Go.Proofs.YtdohendjiddokaaGreatDoor
open Go.Idl
def good:FuncId->Bool:=fun _=>false
theorem mix:Tryz.prog.follows .mixedOrders=true:=by kernel_rfl
theorem zFD:q4F Tryz.prog good (qG 10):=fun f fn c h=>by cases h
theorem zB9:Setup Tryz.prog good q2S (qG 10):=⟨mix,qV7,qSQ,zFD⟩
end Go.Proofs.YtdohendjiddokaaGreatDoor
