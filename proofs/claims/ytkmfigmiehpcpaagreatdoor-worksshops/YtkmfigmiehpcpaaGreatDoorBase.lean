/- What the texts of this seat share. Conditions: none. -/
import Derived.Test.YtkmfigmiehpcpaaGreatDoorSvB
import Derived.Test.YtkmfigmiehpcpaaGreatDoorProg
import Derived.KernelRfl
set_option linter.all false
namespace Go.Proofs.YtkmfigmiehpcpaaGreatDoor
open Go.Idl
def good:FuncId->Bool:=fun _=>false
theorem mix:Tryz.prog.follows .mixedOrders=true:=by kernel_rfl
theorem zCF:q2B Tryz.prog good (qJ 10):=fun f fn c h=>by cases h
theorem q84:Setup Tryz.prog good q1U (qJ 10):=⟨mix,qW2,qSN,zCF⟩
end Go.Proofs.YtkmfigmiehpcpaaGreatDoor
