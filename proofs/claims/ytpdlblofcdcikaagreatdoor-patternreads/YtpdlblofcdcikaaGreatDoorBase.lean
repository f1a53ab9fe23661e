/- What the texts of this seat share. Conditions: none. -/
import Derived.Test.YtpdlblofcdcikaaGreatDoorIdlI
import Derived.Test.YtpdlblofcdcikaaGreatDoorProg
import Derived.KernelRfl
set_option linter.all false
namespace Go.Proofs.YtpdlblofcdcikaaGreatDoor
open Go.Idl
noncomputable def good : FuncId -> Bool := fun _ => true
noncomputable def c18 : Code := Tryz.f18.body.getD .skip
theorem mix : Tryz.prog.follows .mixedOrders = true := by kernel_rfl
theorem qP8 : Tryz.prog.funcs.size = 246 := by kernel_rfl
theorem ok1 : qB6 Tryz.prog (zM 3) 0 60 = true := by kernel_rfl
theorem ok2 : qB6 Tryz.prog (zM 3) 60 60 = true := by kernel_rfl
theorem ok3 : qB6 Tryz.prog (zM 3) 120 60 = true := by kernel_rfl
theorem ok4 : qB6 Tryz.prog (zM 3) 180 66 = true := by kernel_rfl
theorem q7L : qR9 Tryz.prog good (zM 3) := qW1 fun f hf => by
 rw [qP8] at hf;by_cases h1 : f < 60
 ·exact bC 60 0 f ok1 (by omega) (by omega)
 ·by_cases h2 : f < 120
  ·exact bC 60 60 f ok2 (by omega) (by omega)
  ·by_cases h3 : f < 180
   ·exact bC 60 120 f ok3 (by omega) (by omega)
   ·exact bC 66 180 f ok4 (by omega) (by omega)
theorem yN : Setup Tryz.prog good jB (zM 3) := ⟨mix, qVM, qQA, q7L⟩
end Go.Proofs.YtpdlblofcdcikaaGreatDoor
