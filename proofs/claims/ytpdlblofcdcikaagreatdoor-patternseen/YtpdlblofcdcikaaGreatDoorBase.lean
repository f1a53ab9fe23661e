/- What the texts of this seat share. Conditions: none. -/
import Derived.Test.YtpdlblofcdcikaaGreatDoorIdlI
import Derived.Test.YtpdlblofcdcikaaGreatDoorProg
import Derived.KernelRfl
set_option linter.all false
namespace Go.Proofs.YtpdlblofcdcikaaGreatDoor
open Go.Idl
noncomputable def good : FuncId -> Bool := fun _ => true
noncomputable def c18 : Code := Tryz.f18.body.getD .skip
theorem mix : Tryz.prog.follows .mixedOrders = true := by kernel_rfl
theorem qPD : Tryz.prog.funcs.size = 246 := by kernel_rfl
theorem ok1 : qBG Tryz.prog (zZ 3) 0 60 = true := by kernel_rfl
theorem ok2 : qBG Tryz.prog (zZ 3) 60 60 = true := by kernel_rfl
theorem ok3 : qBG Tryz.prog (zZ 3) 120 60 = true := by kernel_rfl
theorem ok4 : qBG Tryz.prog (zZ 3) 180 66 = true := by kernel_rfl
theorem q8P : qRF Tryz.prog good (zZ 3) := qYP fun f hf => by
 rw [qPD] at hf
 by_cases h1 : f < 60
 ·exact fC 60 0 f ok1 (by omega) (by omega)
 ·by_cases h2 : f < 120
  ·exact fC 60 60 f ok2 (by omega) (by omega)
  ·by_cases h3 : f < 180
   ·exact fC 60 120 f ok3 (by omega) (by omega)
   ·exact fC 66 180 f ok4 (by omega) (by omega)
theorem xH : Setup Tryz.prog good jI (zZ 3) := ⟨mix, qT5, qP4, q8P⟩
end Go.Proofs.YtpdlblofcdcikaaGreatDoor
