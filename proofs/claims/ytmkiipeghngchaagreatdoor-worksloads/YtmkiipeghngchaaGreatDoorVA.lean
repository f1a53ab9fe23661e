/- Permutations, cycles, ways, plainly. Conditions: none. -/
import Derived.Test.YtmkiipeghngchaaGreatDoorSvB
set_option linter.all false
namespace Go.Sv
open Go.Idl
section
variable {R α β:Type}
theorem q3K {x y:zEP R}:zEP.ite true x y=x:=rfl
theorem q6J {x y:zEP R}:zEP.ite false x y=y:=rfl
theorem qRN {a:α}{k:α->zEP R}:zEP.bind (some a) k=k a:=rfl
end
theorem qTX {n k:Nat}(h:k < n):idx n (k:Int)=some k:=by
 unfold idx;rw[if_pos ⟨by omega,by omega⟩];simp
theorem q7O {n k:Nat}(h:k<=n):q4F n (k:Int)=some k:=by
 unfold q4F;rw[if_pos ⟨by omega,by omega⟩];simp
theorem eB {k:Nat}(h:k < 2 ^ 62):IntKind.i64.wrap ((k:Int)+1)=((k+1:Nat):Int):=by
 rw[wrap_i64 (by omega) (by omega)];omega
variable [Gc]
theorem qN3 {a b:Int}(h:a < b):decide (a < b)=true:=decide_eq_true h
theorem qRG {a b:Int}(h:¬ a < b):decide (a < b)=false:=decide_eq_false h
end Go.Sv
