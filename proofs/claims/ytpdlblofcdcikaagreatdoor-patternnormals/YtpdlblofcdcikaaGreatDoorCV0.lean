/- What the cards' proofs share. Conditions: none. -/
import Derived.Test.YtpdlblofcdcikaaGreatDoorLB0
import Derived.Test.YtpdlblofcdcikaaGreatDoorBR1
import Derived.Test.YtpdlblofcdcikaaGreatDoorCards
import Derived.Test.YtpdlblofcdcikaaGreatDoorTie
import Derived.ProofKit
import Derived.LaidMore
import Derived.Lay
import Derived.OpenShut
import Derived.Stop.Joined
import Derived.Lib.SmallJoins
import Derived.Deep.Matrix
import Derived.Carry
import Derived.SevenTiedAt
set_option linter.unusedSimpArgs false
set_option linter.unusedVariables false
namespace Go.Proofs.YtpdlblofcdcikaaGreatDoor
open Go.Idl (RInts)
open Go.Sv (RRows)
open Go.ChangeShapes Go.WideShapes Go.ChangeAt Go.RowKit Go.Joins Go.Deep

theorem own : ownKnob Tryz.prog.godebug = none := by kernel_rfl
theorem laidOut : laidOutB Tryz.prog = true := by kernel_rfl
theorem ce3 : Tryz.prog.cellsOf 3 = 1 := by kernel_rfl
theorem ce22 : Tryz.prog.cellsOf 22 = 1 := by kernel_rfl
section
variable {H : Type} {enc : TypeId × Value → H} {W : World} {held : Bool}
theorem picture_of {fuel : Nat} {c : Value} {x : DataW H × List MemPlace} (h : DataW.trod enc Tryz.prog W 0 (fun _ => true) held fuel 25 [c] = some x) :
    ∃ A n cp RA L C Z, c = .slice A n cp ∧ RRows W A n cp RA L C Z := by
  rcases open_int_rows Tryz.underlying25 Tryz.underlying22 Tryz.underlying3 ce22 ce3 h with ⟨hcs, _⟩ | ⟨a, len, cap, A, L, C, Z, hcs, _, hl, _, _, hrow⟩
  · have : c = .slice none 0 0 := by simpa using hcs
    exact ⟨none, 0, 0, fun _ => none, fun _ => 0, fun _ => 0, fun _ => [], this, .inl ⟨rfl, rfl, rfl⟩⟩
  · have : c = .slice (some a) len cap := by simpa using hcs
    refine ⟨some a, len, cap, A, L, C, Z, this, .inr ⟨a, rfl, hl, fun r hr => (hrow r hr).1, fun r hr => ?_⟩⟩
    obtain ⟨_, h1, _, h2, _, h3, h4⟩ := hrow r hr
    cases hA : A r with
    | none =>
      have := h3 hA
      exact .inl ⟨rfl, by omega, this⟩
    | some a' => exact .inr ⟨a', rfl, h1, h2, (h4 a' hA).2⟩
end

theorem gAcc : Tryz.prog.globalNamed "unicode/utf8.acceptRanges" = some 2 := by kernel_rfl
theorem size_of_laid {W : World} (h : laidMetH Tryz.prog Rows.patternFormsRow.laid W) : 3 ≤ W.heap.size := by
  rw [MakeChecks.laidMetH_plain _ _ _ (by kernel_rfl)] at h
  obtain ⟨ps, ⟨g0, t0, cs0, f0, p0, q0, hg0, ht0, hv0, hd0, _⟩, _, _⟩ := h
  obtain rfl := Option.some.inj (gAcc.symm.trans hg0)
  unfold World.var? at hv0
  rw [gAcc] at hv0
  simp only [Option.bind_some] at hv0
  split at hv0
  · rename_i hc
    have := (Array.getElem?_eq_some_iff.1 hc).1
    omega
  · cases hv0

end Go.Proofs.YtpdlblofcdcikaaGreatDoor
