/- Permutations, cycles, ways, plainly. Conditions: none. -/
import Derived.Test.YtjcflcpjglpicaaGreatDoorSvB
set_option linter.all false
namespace Go.Sv
open Go.Idl
section
variable {R α β:Type}
theorem q4Q {x y:zF6 R}:zF6.ite true x y=x:=rfl
theorem q8D {x y:zF6 R}:zF6.ite false x y=y:=rfl
theorem qO9 {a:α}{k:α->zF6 R}:zF6.bind (some a) k=k a:=rfl
end
theorem qT7 {n k:Nat}(h:k < n):idx n (k:Int)=some k:=by
 unfold idx;rw[if_pos ⟨by omega,by omega⟩];simp
theorem qNT {n k:Nat}(h:k<=n):q3S n (k:Int)=some k:=by
 unfold q3S;rw[if_pos ⟨by omega,by omega⟩];simp
theorem aB {k:Nat}(h:k < 2 ^ 62):IntKind.i64.wrap ((k:Int)+1)=((k+1:Nat):Int):=by
 rw[wrap_i64 (by omega) (by omega)];omega
variable [Gc]
theorem qK9 {a b:Int}(h:a < b):decide (a < b)=true:=decide_eq_true h
theorem qMG {a b:Int}(h:¬ a < b):decide (a < b)=false:=decide_eq_false h
end Go.Sv
