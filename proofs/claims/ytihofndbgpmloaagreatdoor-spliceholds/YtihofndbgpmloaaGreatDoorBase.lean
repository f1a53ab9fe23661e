/- What the texts of this seat share. Conditions: none. -/
import Derived.Test.YtihofndbgpmloaaGreatDoorSvB
import Derived.Test.YtihofndbgpmloaaGreatDoorProg
import Derived.KernelRfl
set_option linter.all false
namespace Go.Proofs.YtihofndbgpmloaaGreatDoor
open Go.Idl
def good:FuncId->Bool:=λ_=>false
theorem mix:Tryz.prog.follows .mixedOrders=true:=by kernel_rfl
theorem qCR:Yb Tryz.prog good (qn 10):=λf fn c h=>by cases h
theorem ri:Setup Tryz.prog good eH (qn 10):=⟨mix,l9,T8,qCR⟩
end Go.Proofs.YtihofndbgpmloaaGreatDoor
