/- What the texts of this seat share. Conditions: none. -/
import Derived.Test.YtpdlblofcdcikaaGreatDoorIdlI
import Derived.Test.YtpdlblofcdcikaaGreatDoorProg
import Derived.KernelRfl
set_option linter.all false
namespace Go.Proofs.YtpdlblofcdcikaaGreatDoor
open Go.Idl
noncomputable def good : FuncId -> Bool := fun _ => true
noncomputable def c18 : Code := Tryz.f18.body.getD .skip
theorem mix : Tryz.prog.follows .mixedOrders = true := by kernel_rfl
theorem qQE : Tryz.prog.funcs.size = 246 := by kernel_rfl
theorem ok1 : qBS Tryz.prog (zL 3) 0 60 = true := by kernel_rfl
theorem ok2 : qBS Tryz.prog (zL 3) 60 60 = true := by kernel_rfl
theorem ok3 : qBS Tryz.prog (zL 3) 120 60 = true := by kernel_rfl
theorem ok4 : qBS Tryz.prog (zL 3) 180 66 = true := by kernel_rfl
theorem q7I : qRZ Tryz.prog good (zL 3) := qYR fun f hf => by
 rw [qQE] at hf;by_cases h1 : f < 60
 ·exact bD 60 0 f ok1 (by omega) (by omega)
 ·by_cases h2 : f < 120
  ·exact bD 60 60 f ok2 (by omega) (by omega)
  ·by_cases h3 : f < 180
   ·exact bD 60 120 f ok3 (by omega) (by omega)
   ·exact bD 66 180 f ok4 (by omega) (by omega)
theorem yP : Setup Tryz.prog good jD (zL 3) := ⟨mix, qUT, qQU, q7I⟩
end Go.Proofs.YtpdlblofcdcikaaGreatDoor
