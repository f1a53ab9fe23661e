/- Permutations, cycles, ways, plainly. Conditions: none. -/
import Derived.Test.YtihofndbgpmloaaGreatDoorSvB
set_option linter.all false
namespace Go.Sv
open Go.Idl
section
variable{R α β:Type}
theorem EV{x y:qA R}:qA.ite true x y=x:=rfl
theorem qAy{x y:qA R}:qA.ite false x y=y:=rfl
theorem r_{a}{k:α->qA R}:qA.bind (some a) k=k a:=rfl
theorem MI{a}{f:α->qA R}{g:β->qA R}:qA.sum (.inl a) f g=f a:=rfl
end
theorem WI{n k}(h:k<n):idx n k=some k:=by unfold idx;rw[if_pos ⟨by omega,by omega⟩];simp
theorem VS{n k}(h:k<=n):zH n k=some k:=by unfold zH;rw[if_pos ⟨by omega,by omega⟩];simp
theorem bV{k:Nat}(h:k<2^62):IntKind.i64.wrap (k+1)=((k+1:Nat)):=by rw[wrap_i64 (by omega) (by omega)];omega
variable[Gc]
theorem cK{a b:Int}(h:a<b):decide (a<b)=true:=decide_eq_true h
theorem eU{a b:Int}(h:¬a<b):decide (a<b)=false:=decide_eq_false h
end Go.Sv
