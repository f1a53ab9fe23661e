/- Permutations, cycles, ways, plainly. Conditions: none. -/
import Derived.Test.YtpnecffgnjijjaaGreatDoorSvB
set_option linter.all false
namespace Go.Sv
open Go.Idl
section
variable {R α β:Type}
theorem q4K {x y:zE9 R}:zE9.ite true x y=x:=rfl
theorem q6H {x y:zE9 R}:zE9.ite false x y=y:=rfl
theorem qP6 {a:α}{k:α->zE9 R}:zE9.bind (some a) k=k a:=rfl
end
theorem qYJ {n k:Nat}(h:k < n):idx n (k:Int)=some k:=by
 unfold idx;rw[if_pos ⟨by omega,by omega⟩];simp
theorem q45 {n k:Nat}(h:k<=n):zBC n (k:Int)=some k:=by
 unfold zBC;rw[if_pos ⟨by omega,by omega⟩];simp
theorem jC {k:Nat}(h:k < 2 ^ 62):IntKind.i64.wrap ((k:Int)+1)=((k+1:Nat):Int):=by
 rw[wrap_i64 (by omega) (by omega)];omega
variable [Gc]
theorem qAG {a b:Int}(h:a < b):decide (a < b)=true:=decide_eq_true h
theorem qCY {a b:Int}(h:¬ a < b):decide (a < b)=false:=decide_eq_false h
end Go.Sv
