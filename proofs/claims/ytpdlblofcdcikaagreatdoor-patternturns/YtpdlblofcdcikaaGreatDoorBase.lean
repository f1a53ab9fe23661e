/- What the texts of this seat share. Conditions: none. -/
import Derived.Test.YtpdlblofcdcikaaGreatDoorIdlI
import Derived.Test.YtpdlblofcdcikaaGreatDoorProg
import Derived.KernelRfl
set_option linter.all false
namespace Go.Proofs.YtpdlblofcdcikaaGreatDoor
open Go.Idl
noncomputable def good : FuncId -> Bool := fun _ => true
noncomputable def c18 : Code := Tryz.f18.body.getD .skip
theorem mix : Tryz.prog.follows .mixedOrders = true := by kernel_rfl
theorem qQX : Tryz.prog.funcs.size = 246 := by kernel_rfl
theorem ok1 : qBP Tryz.prog (zW 3) 0 60 = true := by kernel_rfl
theorem ok2 : qBP Tryz.prog (zW 3) 60 60 = true := by kernel_rfl
theorem ok3 : qBP Tryz.prog (zW 3) 120 60 = true := by kernel_rfl
theorem ok4 : qBP Tryz.prog (zW 3) 180 66 = true := by kernel_rfl
theorem q91 : qRV Tryz.prog good (zW 3) := qYT fun f hf => by
 rw [qQX] at hf;by_cases h1 : f < 60
 ·exact aD 60 0 f ok1 (by omega) (by omega)
 ·by_cases h2 : f < 120
  ·exact aD 60 60 f ok2 (by omega) (by omega)
  ·by_cases h3 : f < 180
   ·exact aD 60 120 f ok3 (by omega) (by omega)
   ·exact aD 66 180 f ok4 (by omega) (by omega)
theorem kJ : Setup Tryz.prog good vM (zW 3) := ⟨mix, qVS, qQJ, q91⟩
end Go.Proofs.YtpdlblofcdcikaaGreatDoor
