/- What the texts of this seat share. Conditions: none. -/
import Derived.Test.YtpdlblofcdcikaaGreatDoorIdlI
import Derived.Test.YtpdlblofcdcikaaGreatDoorProg
import Derived.KernelRfl
set_option linter.unusedSimpArgs false
set_option linter.unusedVariables false
namespace Go.Proofs.YtpdlblofcdcikaaGreatDoor
open Go.Idl
noncomputable def good : FuncId → Bool := fun _ => true
noncomputable def c18 : Code := Tryz.f18.body.getD .skip
theorem mix : Tryz.prog.follows .mixedOrders = true := by kernel_rfl
theorem funcs_size : Tryz.prog.funcs.size = 246 := by kernel_rfl
theorem ok1 : okFrom Tryz.prog (globG 3) 0 60 = true := by kernel_rfl
theorem ok2 : okFrom Tryz.prog (globG 3) 60 60 = true := by kernel_rfl
theorem ok3 : okFrom Tryz.prog (globG 3) 120 60 = true := by kernel_rfl
theorem ok4 : okFrom Tryz.prog (globG 3) 180 66 = true := by kernel_rfl
theorem goods : Goods Tryz.prog good (globG 3) := goods_of fun f hf => by
  rw [funcs_size] at hf
  by_cases h1 : f < 60
  · exact okFrom_at 60 0 f ok1 (by omega) (by omega)
  · by_cases h2 : f < 120
    · exact okFrom_at 60 60 f ok2 (by omega) (by omega)
    · by_cases h3 : f < 180
      · exact okFrom_at 60 120 f ok3 (by omega) (by omega)
      · exact okFrom_at 66 180 f ok4 (by omega) (by omega)
theorem setup0 : Setup Tryz.prog good noNat (globG 3) := ⟨mix, noNat_ext, noNat_spec, goods⟩
end Go.Proofs.YtpdlblofcdcikaaGreatDoor
