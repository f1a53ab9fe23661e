/- What the texts of this seat share. Conditions: none. -/
import Derived.Test.YtdhpibcacnndaaaGreatDoorSvB
import Derived.Test.YtdhpibcacnndaaaGreatDoorProg
import Derived.KernelRfl
set_option linter.all false
namespace Go.Proofs.YtdhpibcacnndaaaGreatDoor
open Go.Idl
def good : FuncId -> Bool := fun _ => false
theorem mix : Tryz.prog.follows .mixedOrders = true := by kernel_rfl
theorem q7M : qXE Tryz.prog good (yS 10) := fun f fn c h => by cases h
theorem q4W : Setup Tryz.prog good qYD (yS 10) := ⟨mix, qVC, qPU, q7M⟩
end Go.Proofs.YtdhpibcacnndaaaGreatDoor
