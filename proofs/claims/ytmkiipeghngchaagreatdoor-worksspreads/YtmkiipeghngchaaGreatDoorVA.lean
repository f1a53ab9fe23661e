/- Permutations, cycles, ways, plainly. Conditions: none. -/
import Derived.Test.YtmkiipeghngchaaGreatDoorSvB
set_option linter.all false
namespace Go.Sv
open Go.Idl
section
variable {R α β:Type}
theorem q4Z {x y:zFC R}:zFC.ite true x y=x:=rfl
theorem q8V {x y:zFC R}:zFC.ite false x y=y:=rfl
theorem qRV {a:α}{k:α->zFC R}:zFC.bind (some a) k=k a:=rfl
end
theorem qX8 {n k:Nat}(h:k < n):idx n (k:Int)=some k:=by
 unfold idx;rw[if_pos ⟨by omega,by omega⟩];simp
theorem q5N {n k:Nat}(h:k<=n):q5E n (k:Int)=some k:=by
 unfold q5E;rw[if_pos ⟨by omega,by omega⟩];simp
theorem sV {k:Nat}(h:k < 2 ^ 62):IntKind.i64.wrap ((k:Int)+1)=((k+1:Nat):Int):=by
 rw[wrap_i64 (by omega) (by omega)];omega
variable [Gc]
theorem qTR {a b:Int}(h:a < b):decide (a < b)=true:=decide_eq_true h
theorem qYM {a b:Int}(h:¬ a < b):decide (a < b)=false:=decide_eq_false h
end Go.Sv
