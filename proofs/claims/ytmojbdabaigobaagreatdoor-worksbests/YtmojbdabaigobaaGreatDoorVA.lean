/- Permutations, cycles, ways, plainly. Conditions: none. -/
import Derived.Test.YtmojbdabaigobaaGreatDoorSvB
set_option linter.all false
namespace Go.Sv
open Go.Idl
section
variable {R α β:Type}
theorem q4P {x y:zEY R}:zEY.ite true x y=x:=rfl
theorem q7P {x y:zEY R}:zEY.ite false x y=y:=rfl
theorem qPD {a:α}{k:α->zEY R}:zEY.bind (some a) k=k a:=rfl
end
theorem qUG {n k:Nat}(h:k < n):idx n (k:Int)=some k:=by
 unfold idx;rw[if_pos ⟨by omega,by omega⟩];simp
theorem qUX {n k:Nat}(h:k<=n):qUN n (k:Int)=some k:=by
 unfold qUN;rw[if_pos ⟨by omega,by omega⟩];simp
theorem kU {k:Nat}(h:k < 2 ^ 62):IntKind.i64.wrap ((k:Int)+1)=((k+1:Nat):Int):=by
 rw[wrap_i64 (by omega) (by omega)];omega
variable [Gc]
theorem pG {a b:Int}(h:a < b):decide (a < b)=true:=decide_eq_true h
theorem sM {a b:Int}(h:¬ a < b):decide (a < b)=false:=decide_eq_false h
end Go.Sv
