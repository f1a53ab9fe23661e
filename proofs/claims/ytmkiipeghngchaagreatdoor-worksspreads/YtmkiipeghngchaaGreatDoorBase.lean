/- What the texts of this seat share. Conditions: none. -/
import Derived.Test.YtmkiipeghngchaaGreatDoorSvB
import Derived.Test.YtmkiipeghngchaaGreatDoorProg
import Derived.KernelRfl
set_option linter.all false
namespace Go.Proofs.YtmkiipeghngchaaGreatDoor
open Go.Idl
def good:FuncId->Bool:=fun _=>false
theorem mix:Tryz.prog.follows .mixedOrders=true:=by kernel_rfl
theorem zDD:q1K Tryz.prog good (qG 10):=fun f fn c h=>by cases h
theorem q9T:Setup Tryz.prog good q2M (qG 10):=⟨mix,qT4,qSW,zDD⟩
end Go.Proofs.YtmkiipeghngchaaGreatDoor
