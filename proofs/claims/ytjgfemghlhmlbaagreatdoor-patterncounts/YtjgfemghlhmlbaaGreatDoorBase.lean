/- What the texts of this seat share. Conditions: none. -/
import Derived.Test.YtjgfemghlhmlbaaGreatDoorIdlI
import Derived.Test.YtjgfemghlhmlbaaGreatDoorProg
import Derived.KernelRfl
set_option linter.all false
namespace Go.Proofs.YtjgfemghlhmlbaaGreatDoor
open Go.Idl
noncomputable def good : FuncId -> Bool := fun _ => true
noncomputable def c18 : Code := Tryz.f8.body.getD .skip
theorem mix : Tryz.prog.follows .mixedOrders = true := by kernel_rfl
theorem qS1 : Tryz.prog.funcs.size = 153 := by kernel_rfl
theorem ok1 : qE0 Tryz.prog (wP 3) 0 60 = true := by kernel_rfl
theorem ok2 : qE0 Tryz.prog (wP 3) 60 60 = true := by kernel_rfl
theorem ok3 : qE0 Tryz.prog (wP 3) 120 33 = true := by kernel_rfl
theorem zEM : qY1 Tryz.prog good (wP 3) := q02 fun f hf => by
 rw [qS1] at hf;by_cases h1 : f < 60
 ·exact nV 60 0 f ok1 (by omega) (by omega)
 ·by_cases h2 : f < 120
  ·exact nV 60 60 f ok2 (by omega) (by omega)
  ·exact nV 33 120 f ok3 (by omega) (by omega)
theorem xU : Setup Tryz.prog good qSZ (wP 3) := ⟨mix, qWP, qS5, zEM⟩
end Go.Proofs.YtjgfemghlhmlbaaGreatDoor
