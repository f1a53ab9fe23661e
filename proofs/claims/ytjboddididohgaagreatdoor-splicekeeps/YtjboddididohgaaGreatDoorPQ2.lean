/- Plain laws of chapter 8: nets, copied and compared. Conditions: none. -/
import Derived.Test.YtjboddididohgaaGreatDoorPQ1
set_option linter.all false
set_option maxRecDepth 10000
namespace Go.Proofs.YtjboddididohgaaGreatDoor
open Go Go.Idl Go.Sv Go.Proofs
theorem du3 : zX Tryz.prog (underlying 3) = some (.int .i64) := by kernel_rfl
theorem ds3 : zX Tryz.prog (sizeOf 3) = some 1 := by kernel_rfl
theorem dp0 (a b : Value) : zX Tryz.prog (part 3 #[a, b] 0) = some a := by kernel_rfl
theorem dp1 (a b : Value) : zX Tryz.prog (part 3 #[a, b] 1) = some b := by kernel_rfl
theorem qRY {α : Type} (a : α) : zX Tryz.prog (pure a : Sem α) = some a := rfl
theorem dB {α β : Type} (s : Sem α) (g : α -> Sem β) : zX Tryz.prog (s >>= g) = (zX Tryz.prog s).bind fun a => zX Tryz.prog (g a) := kN g s
theorem eqI (e : Nat) (a c : Int) : zX Tryz.prog (Op.equalIn (e + 1) 3 (.int .i64 a) (.int .i64 c)) = some (a == c) := by
 simp [Op.equalIn, dB, du3, qRY]
theorem r2 : List.range' 0 2 = [0, 1] := rfl
end Go.Proofs.YtjboddididohgaaGreatDoor
