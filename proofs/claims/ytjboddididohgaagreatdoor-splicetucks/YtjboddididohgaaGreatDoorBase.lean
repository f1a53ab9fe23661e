/- What the texts of this seat share. Conditions: none. -/
import Derived.Test.YtjboddididohgaaGreatDoorSvB
import Derived.Test.YtjboddididohgaaGreatDoorProg
import Derived.KernelRfl
set_option linter.all false
namespace Go.Proofs.YtjboddididohgaaGreatDoor
open Go.Idl
def good : FuncId -> Bool := fun _ => false
theorem mix : Tryz.prog.follows .mixedOrders = true := by kernel_rfl
theorem q8C : qZG Tryz.prog good (yY 10) := fun f fn c h => by cases h
theorem q5R : Setup Tryz.prog good qX2 (yY 10) := ⟨mix, qTH, qQX, q8C⟩
end Go.Proofs.YtjboddididohgaaGreatDoor
