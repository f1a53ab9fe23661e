/- What the texts of this seat share. Conditions: none. -/
import Derived.Test.YtpdlblofcdcikaaGreatDoorIdlI
import Derived.Test.YtpdlblofcdcikaaGreatDoorProg
import Derived.KernelRfl
set_option linter.unusedSimpArgs false
set_option linter.unusedVariables false
namespace Go.Proofs.YtpdlblofcdcikaaGreatDoor
open Go.Idl
noncomputable def good : FuncId -> Bool := fun _ => true
noncomputable def c18 : Code := Tryz.f18.body.getD .skip
theorem mix : Tryz.prog.follows .mixedOrders = true := by kernel_rfl
theorem qOA : Tryz.prog.funcs.size = 246 := by kernel_rfl
theorem ok1 : sZ Tryz.prog (qO 3) 0 60 = true := by kernel_rfl
theorem ok2 : sZ Tryz.prog (qO 3) 60 60 = true := by kernel_rfl
theorem ok3 : sZ Tryz.prog (qO 3) 120 60 = true := by kernel_rfl
theorem ok4 : sZ Tryz.prog (qO 3) 180 66 = true := by kernel_rfl
theorem q3J : qQW Tryz.prog good (qO 3) := qUO fun f hf => by
 rw [qOA] at hf
 by_cases h1 : f < 60
 ·exact aH 60 0 f ok1 (by omega) (by omega)
 ·by_cases h2 : f < 120
  ·exact aH 60 60 f ok2 (by omega) (by omega)
  ·by_cases h3 : f < 180
   ·exact aH 60 120 f ok3 (by omega) (by omega)
   ·exact aH 66 180 f ok4 (by omega) (by omega)
theorem kY : Setup Tryz.prog good vX (qO 3) := ⟨mix, qO1, qNT, q3J⟩
end Go.Proofs.YtpdlblofcdcikaaGreatDoor
