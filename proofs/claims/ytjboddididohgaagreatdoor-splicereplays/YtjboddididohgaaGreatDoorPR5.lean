/- Plain laws of chapter 8: states are checked alike. Conditions: none. -/
import Derived.Test.YtjboddididohgaaGreatDoorPR4
set_option linter.all false
set_option maxRecDepth 10000
namespace Go.Proofs.YtjboddididohgaaGreatDoor
open Go Go.Idl Go.Sv Go.Proofs
def prS (s : St) (i : Nat) : Int × Int := (s.1.getD i 0, s.2.getD i 0)
def inR (r : Rl) (s : St) (i : Nat) : Prop := outs (s.1.getD i 0) 0 (w64 (r.2.2.2.1 + r.2.2.2.2)) = false ∧ outs (s.2.getD i 0) 0 (w64 (r.1 - 1)) = false
def q8N (s : St) (n : Nat) : Prop := s.1.length = n ∧ s.2.length = n
def RgS (r : Rl) (s : St) (n : Nat) : Prop := ∀ i, i < n -> inR r s i
def CfS (s : St) (n : Nat) : Prop := ∃ i k, i < n ∧ k < n ∧ (s.1.getD k 0 + 1 < s.1.getD i 0 ∨ (i ≠ k ∧ prS s i = prS s k))
def CsR (r : Rl) (s : St) (n : Nat) (v : Int) : Prop := (v = 2 ∧ ¬ q8N s n) ∨ (q8N s n ∧ ((v = 3 ∧ ¬ RgS r s n) ∨ (v = 19 ∧ RgS r s n ∧ CfS s n) ∨ (v = 0 ∧ RgS r s n ∧ ¬ CfS s n)))
theorem CsR.uniq {r : Rl} {s : St} {n : Nat} {v w : Int} (h1 : CsR r s n v) (h2 : CsR r s n w) : v = w := by
 unfold CsR at h1 h2;by_cases a : q8N s n <;> by_cases b : RgS r s n <;> by_cases c : CfS s n <;> simp [a, b, c] at h1 h2 <;> rw [h1, h2]
theorem q5W (a b : Int) : fnz [a, b] = if a = 0 then b else a := by
 unfold fnz fnz fnz;by_cases h : a = 0
 ·subst h;by_cases h2 : b = 0
  ·subst h2; rfl
  ·have h3 : (b != 0) = true := bne_iff_ne.2 h2;rw [h3]; rfl
 ·have h3 : (a != 0) = true := bne_iff_ne.2 h;rw [h3, if_neg h]; rfl
end Go.Proofs.YtjboddididohgaaGreatDoor
