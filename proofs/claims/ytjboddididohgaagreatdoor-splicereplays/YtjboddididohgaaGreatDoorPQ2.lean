/- Plain laws of chapter 8: nets, copied and compared. Conditions: none. -/
import Derived.Test.YtjboddididohgaaGreatDoorPQ1
set_option linter.all false
set_option maxRecDepth 10000
namespace Go.Proofs.YtjboddididohgaaGreatDoor
open Go Go.Idl Go.Sv Go.Proofs
theorem du3 : yE Tryz.prog (underlying 3) = some (.int .i64) := by kernel_rfl
theorem q8D : yE Tryz.prog program = some Tryz.prog := rfl
theorem dp0 (a b : Value) : yE Tryz.prog (part 3 #[a, b] 0) = some a := by kernel_rfl
theorem dp1 (a b : Value) : yE Tryz.prog (part 3 #[a, b] 1) = some b := by kernel_rfl
theorem qV5 {α : Type} (a : α) : yE Tryz.prog (pure a : Sem α) = some a := rfl
theorem dB {α β : Type} (s : Sem α) (g : α -> Sem β) : yE Tryz.prog (s >>= g) = (yE Tryz.prog s).bind fun a => yE Tryz.prog (g a) := kI g s
theorem eqI (e : Nat) (a c : Int) : yE Tryz.prog (Op.equalIn (e + 1) 3 (.int .i64 a) (.int .i64 c)) = some (a == c) := by
 simp [Op.equalIn, dB, du3, qV5]
theorem r2 : List.range' 0 2 = [0, 1] := rfl
theorem q09 {v : Array Value} : pl (fvv (.agg v)) = some (.agg v) := rfl
end Go.Proofs.YtjboddididohgaaGreatDoor
