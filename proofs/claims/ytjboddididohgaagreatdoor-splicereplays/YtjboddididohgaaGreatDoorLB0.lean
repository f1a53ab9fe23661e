/- The library of contracts to begin with: none. Conditions: none. -/
import Derived.Test.YtjboddididohgaaGreatDoorBase
import Derived.Lib.ItoaNum
set_option linter.all false
namespace Go.Proofs.YtjboddididohgaaGreatDoor
open Go.Idl Go.Sv
noncomputable section
def uU : Obj := .cells (Lib.pow10Tab.map fun z => Value.int .u64 z).toArray 0 (0, 1)
instance : Gc := { gc := fun b => cond (Nat.beq b 3) (some uU) none, ol := fun t => Nat.beq t 117 }
instance : Frs := ⟨fun g => cond (Nat.beq g 87) (some 3) none, .i64⟩
def TB0 : kS := []
theorem LB0 : Lib Tryz.prog good (yY 10) TB0 [] := by
 refine ⟨qW5, fun _ _ => none, ⟨q6R, fun g args r h => by cases h⟩, ?_, fun f ent h => by cases h⟩;intro _ g ent h;cases h
end
end Go.Proofs.YtjboddididohgaaGreatDoor
