/- SpliceKeeps, plainly. Conditions: none. -/
import Derived.Test.YtjboddididohgaaGreatDoorPR8
set_option linter.all false
set_option maxRecDepth 10000
namespace Go.Proofs.YtjboddididohgaaGreatDoor
open Go Go.Idl Go.Sv Go.Proofs
noncomputable section
theorem CsR.of {r : Rl} {n : Nat} {s : St} (hs : SOk s n) (h1 : RgS r s n) (h2 : ¬ CfS s n) {v : Int} (h : CsR r s n v) : v = 0 :=
 h.uniq (.inr ⟨⟨hs.t, hs.g⟩, .inr (.inr ⟨rfl, h1, h2⟩)⟩)
end
end Go.Proofs.YtjboddididohgaaGreatDoor
