/- Slopes; the law PatternNormals in plain words. Conditions: none. -/
import Derived.Test.YtpdlblofcdcikaaGreatDoorPL5
set_option linter.unusedSimpArgs false
set_option linter.unusedVariables false
set_option linter.unusedVariables false
set_option linter.unusedSimpArgs false
namespace Go.Proofs.YtpdlblofcdcikaaGreatDoor
open Go.Idl Go.Sv
theorem q4D {a b : List (List Int)} {e f : Int} (ha : a.length < 2 ^ 62) (hr : ∀ r ∈ a, r.length < 2 ^ 62) (he : e = f) (hab : a = b) : H32 (a, e, b, f) = some true := by
 show (G32 a e b f).run = _
 unfold G32
 subst he hab
 have h1 : yE (e == e) true = true := by simp [yE]
 rw [h1, qP, q2B ha hr, qD, kT]
 simp
theorem Pic.lt {p : List (List Int)} {h n : Nat} (hp : Pic p h n) : p.length < 2 ^ 62 ∧ ∀ r ∈ p, r.length < 2 ^ 62 := by
 have h2 := hp.h2
 have n2 := hp.n2
 exact ⟨by rw [hp.len]; omega, fun r hr => by rw [hp.row r hr]; omega⟩
end Go.Proofs.YtpdlblofcdcikaaGreatDoor
