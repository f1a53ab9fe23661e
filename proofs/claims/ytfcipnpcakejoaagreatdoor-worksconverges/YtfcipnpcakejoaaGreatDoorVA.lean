/- Permutations, cycles, ways, plainly. Conditions: none. -/
import Derived.Test.YtfcipnpcakejoaaGreatDoorSvB
set_option linter.all false
namespace Go.Sv
open Go.Idl
section
variable{R α β:Type}
theorem Du{a}{f:α->qA R}{g:β->qA R}:qA.sum (.inl a) f g=f a:=rfl
end
theorem qAF{n k}(h:k<n):idx n k=some k:=by unfold idx;rw[if_pos ⟨by omega,by omega⟩];simp
theorem JL{n k}(h:k<=n):zK n k=some k:=by unfold zK;rw[if_pos ⟨by omega,by omega⟩];simp
variable[Gc]
end Go.Sv
