/- What the texts of this seat share. Conditions: none. -/
import Derived.Test.YtpegkendiefkaaaGreatDoorIdlI
import Derived.Test.YtpegkendiefkaaaGreatDoorProg
import Derived.KernelRfl
set_option linter.all false
namespace Go.Proofs.YtpegkendiefkaaaGreatDoor
open Go.Idl
noncomputable def good : FuncId -> Bool := fun _ => true
noncomputable def c18 : Code := Tryz.f5.body.getD .skip
theorem mix : Tryz.prog.follows .mixedOrders = true := by kernel_rfl
theorem qTP : Tryz.prog.funcs.size = 196 := by kernel_rfl
theorem ok1 : qBT Tryz.prog (vD 3) 0 60 = true := by kernel_rfl
theorem ok2 : qBT Tryz.prog (vD 3) 60 60 = true := by kernel_rfl
theorem ok3 : qBT Tryz.prog (vD 3) 120 60 = true := by kernel_rfl
theorem ok4 : qBT Tryz.prog (vD 3) 180 16 = true := by kernel_rfl
theorem zDJ : qXA Tryz.prog good (vD 3) := q3E fun f hf => by
 rw [qTP] at hf;by_cases h1 : f < 60
 ·exact bD 60 0 f ok1 (by omega) (by omega)
 ·by_cases h2 : f < 120
  ·exact bD 60 60 f ok2 (by omega) (by omega)
  ·by_cases h3 : f < 180
   ·exact bD 60 120 f ok3 (by omega) (by omega)
   ·exact bD 16 180 f ok4 (by omega) (by omega)
theorem xW : Setup Tryz.prog good qSG (vD 3) := ⟨mix, qVN, qR6, zDJ⟩
end Go.Proofs.YtpegkendiefkaaaGreatDoor
