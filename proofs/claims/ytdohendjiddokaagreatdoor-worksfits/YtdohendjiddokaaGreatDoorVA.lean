/- Permutations, cycles, ways, plainly. Conditions: none. -/
import Derived.Test.YtdohendjiddokaaGreatDoorSvB
set_option linter.all false
namespace Go.Sv
open Go.Idl
section
variable {R α β:Type}
theorem q5V {x y:zGM R}:zGM.ite true x y=x:=rfl
theorem q8X {x y:zGM R}:zGM.ite false x y=y:=rfl
theorem qPV {a:α}{k:α->zGM R}:zGM.bind (some a) k=k a:=rfl
end
theorem qXP {n k:Nat}(h:k < n):idx n (k:Int)=some k:=by
 unfold idx;rw[if_pos ⟨by omega,by omega⟩];simp
theorem qIC {n k:Nat}(h:k<=n):qT7 n (k:Int)=some k:=by
 unfold qT7;rw[if_pos ⟨by omega,by omega⟩];simp
theorem qAH {k:Nat}(h:k < 2 ^ 62):IntKind.i64.wrap ((k:Int)+1)=((k+1:Nat):Int):=by
 rw[wrap_i64 (by omega) (by omega)];omega
variable [Gc]
theorem qT5 {a b:Int}(h:a < b):decide (a < b)=true:=decide_eq_true h
theorem qWQ {a b:Int}(h:¬ a < b):decide (a < b)=false:=decide_eq_false h
end Go.Sv
