/- What the cards' proofs share. Conditions: none. -/
import Derived.Test.YtjgfemghlhmlbaaGreatDoorLB0
import Derived.Test.YtjgfemghlhmlbaaGreatDoorBG1
import Derived.Test.YtjgfemghlhmlbaaGreatDoorCards
import Derived.Test.YtjgfemghlhmlbaaGreatDoorTie
import Derived.ProofKit
import Derived.LaidMore
import Derived.Lay
import Derived.OpenShut
import Derived.Stop.Joined
import Derived.Lib.SmallJoins
import Derived.Carry
import Derived.SevenTiedAt
set_option linter.all false
namespace Go.Proofs.YtjgfemghlhmlbaaGreatDoor
open Go.ChangeShapes Go.WideShapes Go.ChangeAt Go.RowKit Go.Joins Go.Deep
theorem own : ownKnob Tryz.prog.godebug = none := by kernel_rfl
theorem laidOut : laidOutB Tryz.prog = true := by kernel_rfl
abbrev zCS := Rows.patternCountsRow.laid
theorem zGL : Tryz.prog.globalNamed "unicode/utf8.acceptRanges" = some 2 := by kernel_rfl
theorem qK4 {W : World} (h : laidMetH Tryz.prog zCS W) : 3 <= W.heap.size := by
 rw [MakeChecks.laidMetH_plain _ _ _ (by kernel_rfl)] at h;obtain ⟨ps, ⟨g0, t0, cs0, f0, p0, q0, hg0, ht0, hv0, hd0, _⟩, _, _⟩ := h;obtain rfl := Option.some.inj (zGL.symm.trans hg0);unfold World.var? at hv0;rw [zGL] at hv0;simp only [Option.bind_some] at hv0;split at hv0
 ·rename_i hc;have := (Array.getElem?_eq_some_iff.1 hc).1;omega
 ·cases hv0
end Go.Proofs.YtjgfemghlhmlbaaGreatDoor
