/- What the texts of this seat share. Conditions: none. -/
import Derived.Test.YtjboddididohgaaGreatDoorSvB
import Derived.Test.YtjboddididohgaaGreatDoorProg
import Derived.KernelRfl
set_option linter.all false
namespace Go.Proofs.YtjboddididohgaaGreatDoor
open Go.Idl
def good : FuncId -> Bool := fun _ => false
theorem mix : Tryz.prog.follows .mixedOrders = true := by kernel_rfl
theorem q8Z : q0C Tryz.prog good (y7 10) := fun f fn c h => by cases h
theorem q65 : Setup Tryz.prog good qYR (y7 10) := ⟨mix, qVL, qRI, q8Z⟩
end Go.Proofs.YtjboddididohgaaGreatDoor
