/- Further functions of the reference by their values. Conditions: none. -/
import Derived.Test.YtihofndbgpmloaaGreatDoorNB
import Derived.Test.YtihofndbgpmloaaGreatDoorWV2
set_option linter.all false
set_option maxRecDepth 10000
set_option maxHeartbeats 100000000
namespace Go.Proofs.YtihofndbgpmloaaGreatDoor
open Go Go.Idl Go.Sv Go.Proofs
noncomputable section
theorem qCg{a b:Rat}(ha:Sm a)(hb:Sm b):vj (rt a,rt b)=some (sgR (a-b)):=by refine OkT.eq ?_;show OkT (Ha (rt a) (rt b)) _;unfold Ha;exact qK (h48 ha hb) (qK (Yp _) (qC rfl))
theorem qCR{n:Int}(n0:-9223372036854775808<=n)(n1:n<9223372036854775808):Xh n=some (rt (n:Rat)):=by refine OkT.eq ?_;show OkT (Hb n) _;unfold Hb;refine qU (Wv n0 n1) λs hs=>qK (Yn (Rr.eta hs) ?_) (qC ?_);{have:=Eo;omega};rw[Vu]
end
end Go.Proofs.YtihofndbgpmloaaGreatDoor
