/- Permutations, cycles, ways, plainly. Conditions: none. -/
import Derived.Test.YtjboddididohgaaGreatDoorSvB
set_option linter.all false
namespace Go.Sv
open Go.Idl
section
variable {R α β : Type}
theorem q02 {x y : q98 R} : q98.ite true x y = x := rfl
theorem q28 {x y : q98 R} : q98.ite false x y = y := rfl
theorem qAU {a : α} {k : α -> q98 R} : q98.bind (some a) k = k a := rfl
end
theorem qUG {n k : Nat} (h : k < n) : idx n (k : Int) = some k := by
 unfold idx;rw [if_pos ⟨by omega, by omega⟩];simp
theorem nW {k : Nat} (h : k < 2 ^ 62) : IntKind.i64.wrap ((k : Int) + 1) = ((k + 1 : Nat) : Int) := by
 rw [wrap_i64 (by omega) (by omega)];omega
variable [Gc]
theorem qMT {a b : Int} (h : a < b) : decide (a < b) = true := decide_eq_true h
theorem qOU {a b : Int} (h : ¬ a < b) : decide (a < b) = false := decide_eq_false h
end Go.Sv
