/- SpliceKeeps, plainly: the law. Conditions: none. -/
import Derived.Test.YtjboddididohgaaGreatDoorAW8
import Derived.Test.YtjboddididohgaaGreatDoorPR9
set_option linter.all false
set_option maxRecDepth 10000
set_option maxHeartbeats 100000000
namespace Go.Proofs.YtjboddididohgaaGreatDoor
open Go Go.Idl Go.Sv Go.Proofs
noncomputable section
theorem h15 {l : List Tk} (hl : l.length <= 1048576) : H15 l = some l := by
 refine OkT.eq ?_;show OkT (G15 l) _;unfold G15;refine qAT l.length (fun k (_ : Unit) => ((k : Int), l.take k)) (fun _ _ => True) () (by simp) trivial (fun k _ hk _ => ?_) fun _ _ => ?_
 ·refine bS (qMT (by simp only; omega)) (zX k rfl hk (zZ hk (bS (zKN (by simp only [zLG, zKO, zM9]; omega)) (qE ⟨(), ?_, trivial⟩))));simp only [nW (show k < 2 ^ 62 by omega), zNY hk]
 ·exact eZ (qOU (by simp only; omega)) (qE ⟨_, rfl, qE (by simp)⟩)
end
end Go.Proofs.YtjboddididohgaaGreatDoor
