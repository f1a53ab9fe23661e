/- What the texts of this seat share. Conditions: none. -/
import Derived.Test.YtjboddididohgaaGreatDoorSvB
import Derived.Test.YtjboddididohgaaGreatDoorProg
import Derived.KernelRfl
set_option linter.all false
namespace Go.Proofs.YtjboddididohgaaGreatDoor
open Go.Idl
def good : FuncId -> Bool := fun _ => false
theorem mix : Tryz.prog.follows .mixedOrders = true := by kernel_rfl
theorem q8X : qZI Tryz.prog good (yY 10) := fun f fn c h => by cases h
theorem q6R : Setup Tryz.prog good qW5 (yY 10) := ⟨mix, qVW, qPI, q8X⟩
end Go.Proofs.YtjboddididohgaaGreatDoor
