/- Permutations, cycles, ways, plainly. Conditions: none. -/
import Derived.Test.YtkmfigmiehpcpaaGreatDoorSvB
set_option linter.all false
namespace Go.Sv
open Go.Idl
section
variable {R α β:Type}
theorem q3Y {x y:zED R}:zED.ite true x y=x:=rfl
theorem q6F {x y:zED R}:zED.ite false x y=y:=rfl
theorem qPE {a:α}{k:α->zED R}:zED.bind (some a) k=k a:=rfl
end
theorem qW0 {n k:Nat}(h:k < n):idx n (k:Int)=some k:=by
 unfold idx;rw[if_pos ⟨by omega,by omega⟩];simp
theorem q5W {n k:Nat}(h:k<=n):q3K n (k:Int)=some k:=by
 unfold q3K;rw[if_pos ⟨by omega,by omega⟩];simp
theorem xO {k:Nat}(h:k < 2 ^ 62):IntKind.i64.wrap ((k:Int)+1)=((k+1:Nat):Int):=by
 rw[wrap_i64 (by omega) (by omega)];omega
variable [Gc]
theorem dW {a b:Int}(h:a < b):decide (a < b)=true:=decide_eq_true h
theorem mX {a b:Int}(h:¬ a < b):decide (a < b)=false:=decide_eq_false h
end Go.Sv
