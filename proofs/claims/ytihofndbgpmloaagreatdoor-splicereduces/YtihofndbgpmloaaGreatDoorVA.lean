/- Permutations, cycles, ways, plainly. Conditions: none. -/
import Derived.Test.YtihofndbgpmloaaGreatDoorSvB
set_option linter.all false
namespace Go.Sv
open Go.Idl
section
variable{R α β:Type}
theorem DU{a}{f:α->qA R}{g:β->qA R}:qA.sum (.inl a) f g=f a:=rfl
end
theorem Iy{n k}(h:k<n):idx n k=some k:=by unfold idx;rw[if_pos ⟨by omega,by omega⟩];simp
theorem JM{n k}(h:k<=n):zA n k=some k:=by unfold zA;rw[if_pos ⟨by omega,by omega⟩];simp
variable[Gc]
end Go.Sv
