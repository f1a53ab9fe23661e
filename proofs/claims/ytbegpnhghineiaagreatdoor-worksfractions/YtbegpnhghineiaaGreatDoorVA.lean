/- Permutations, cycles, ways, plainly. Conditions: none. -/
import Derived.Test.YtbegpnhghineiaaGreatDoorSvB
set_option linter.all false
namespace Go.Sv
open Go.Idl
section
variable{R α β:Type}
theorem Cg{a}{f:α->qA R}{g:β->qA R}:qA.sum (.inl a) f g=f a:=rfl
end
theorem IU{n k}(h:k<n):idx n k=some k:=by unfold idx;rw[if_pos ⟨by omega,by omega⟩];simp
theorem Kh{n k}(h:k<=n):zQ n k=some k:=by unfold zQ;rw[if_pos ⟨by omega,by omega⟩];simp
variable[Gc]
end Go.Sv
