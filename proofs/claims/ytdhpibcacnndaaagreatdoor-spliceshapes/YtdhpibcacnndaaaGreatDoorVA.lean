/- Permutations, cycles, ways, plainly. Conditions: none. -/
import Derived.Test.YtdhpibcacnndaaaGreatDoorSvB
set_option linter.all false
namespace Go.Sv
open Go.Idl
section
variable {R α β : Type}
theorem fB {x y : q9D R} : q9D.ite true x y = x := rfl
theorem sU {x y : q9D R} : q9D.ite false x y = y := rfl
theorem yH {a : α} {k : α -> q9D R} : q9D.bind (some a) k = k a := rfl
end
theorem qHK {n k : Nat} (h : k < n) : idx n (k : Int) = some k := by
 unfold idx;rw [if_pos ⟨by omega, by omega⟩];simp
theorem qXW {k : Nat} (h : k < 2 ^ 62) : IntKind.i64.wrap ((k : Int) + 1) = ((k + 1 : Nat) : Int) := by
 rw [wrap_i64 (by omega) (by omega)];omega
variable [Gc]
theorem q41 {a b : Int} (h : a < b) : decide (a < b) = true := decide_eq_true h
theorem q6S {a b : Int} (h : ¬ a < b) : decide (a < b) = false := decide_eq_false h
end Go.Sv
