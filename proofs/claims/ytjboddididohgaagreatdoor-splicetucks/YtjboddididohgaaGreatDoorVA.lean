/- Permutations, cycles, ways, plainly. Conditions: none. -/
import Derived.Test.YtjboddididohgaaGreatDoorSvB
set_option linter.all false
namespace Go.Sv
open Go.Idl
section
variable {R α β : Type}
theorem q0Q {x y : q97 R} : q97.ite true x y = x := rfl
theorem q34 {x y : q97 R} : q97.ite false x y = y := rfl
theorem tO {a : α} {k : α -> q97 R} : q97.bind (some a) k = k a := rfl
end
theorem qUM {n k : Nat} (h : k < n) : idx n (k : Int) = some k := by
 unfold idx;rw [if_pos ⟨by omega, by omega⟩];simp
theorem qA2 {k : Nat} (h : k < 2 ^ 62) : IntKind.i64.wrap ((k : Int) + 1) = ((k + 1 : Nat) : Int) := by
 rw [wrap_i64 (by omega) (by omega)];omega
variable [Gc]
theorem qQ3 {a b : Int} (h : a < b) : decide (a < b) = true := decide_eq_true h
theorem qV3 {a b : Int} (h : ¬ a < b) : decide (a < b) = false := decide_eq_false h
end Go.Sv
