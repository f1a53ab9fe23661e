/- What the functions of PatternNormals compute, in plain words. Conditions: none. -/
import Derived.Test.YtpdlblofcdcikaaGreatDoorPLK
import Derived.Test.YtpdlblofcdcikaaGreatDoorPN1
set_option linter.unusedSimpArgs false
set_option linter.unusedVariables false
set_option linter.unusedVariables false
set_option linter.unusedSimpArgs false
namespace Go.Proofs.YtpdlblofcdcikaaGreatDoor
open Go.Idl Go.Sv
noncomputable def GE {α : Type} (H : α × α -> Option Bool) (x0 x1 : List α) : Tree Bool :=
 Tree.ite ((x0.length : Int) != (x1.length : Int)) (Tree.ret false)
  (Tree.bind
    (zZ
      (fun (s2 : Int) =>
        Tree.ite (decide (s2 < (x0.length : Int)))
         (Tree.bind (idx x0.length s2) fun (x3 : Nat) =>
           Tree.bind x0[x3]? fun (x4 : α) =>
            Tree.bind (idx x1.length s2) fun (x5 : Nat) =>
             Tree.bind x1[x5]? fun (x6 : α) =>
              Tree.bind (H (x4, x6)) fun (x7 : Bool) =>
               Tree.ite (!x7) (Tree.ret (Sum.inr (Sum.inr (Sum.inl false))))
                (Tree.ret (Sum.inl (IntKind.i64.wrap (s2 + 1)))))
         (Tree.ret (Sum.inr (Sum.inl s2))))
      0)
    fun (x2 : Int ⊕ Bool ⊕ Nat × Int) =>
    Tree.sum x2 (fun (s3 : Int) => Tree.ret true) fun (s3 : Bool ⊕ Nat × Int) =>
     Tree.sum s3 (fun (s4 : Bool) => Tree.ret s4) fun (s4 : Nat × Int) => Tree.fail)
theorem qXJ {α : Type} [DecidableEq α] {H : α × α -> Option Bool} {a b : List α} (ha : a.length < 2 ^ 62) (hH : ∀ x ∈ a, ∀ y ∈ b, H (x, y) = some (decide (x = y))) : (GE H a b).run = some (decide (a = b)) := by
 unfold GE
 by_cases hl : a.length = b.length
 ·have h0 : ((a.length : Int) != (b.length : Int)) = false := by simp [hl]
  rw [h0, qF]
  refine jR a.length (fun i => if a[i]? = b[i]? then none else some false) (fun x => Sum.inr (Sum.inl x)) (Sum.inl (a.length : Int)) (fun k hk => ?_) ?_ ?_
  ·obtain ⟨x, hx, mx⟩ := xH hk
   obtain ⟨y, hy, my⟩ := xH (show k < b.length by omega)
   have hk2 : k < b.length := by omega
   have hk3 : (k : Int) < (a.length : Int) := by omega
   simp only [rC hk3, qP, jF hk, qD, hx, jF hk2, hy, hH x mx y my, wH (show k < 2 ^ 62 by omega)]
   by_cases hxy : x = y
   ·simp [hxy, qF]; rfl
   ·simp [hxy, qP]; rfl
  ·simp only [pV (Int.lt_irrefl _), qF]
   rfl
  ·cases hs : scan (fun i => if a[i]? = b[i]? then none else some false) a.length 0 with
   | none =>
     have hab : a = b := List.ext_getElem? fun i => by
      by_cases hi : i < a.length
      ·have := wS.1 hs i (Nat.zero_le _) (by omega)
       by_cases h : a[i]? = b[i]?
       ·exact h
       ·rw [if_neg h] at this; cases this
      ·rw [List.getElem?_eq_none (by omega), List.getElem?_eq_none (by omega)]
     simp only [kZ, kT, hab, decide_true]
   | some r =>
     obtain ⟨i, _, _, hi, _⟩ := vM hs
     have hne : a ≠ b := fun e => by
      rw [e] at hi
      simp at hi
     have hr : r = false := by
      by_cases h : a[i]? = b[i]?
      ·rw [if_pos h] at hi; cases hi
      ·rw [if_neg h] at hi; cases hi; rfl
     subst hr
     simp only [qID, kZ, kT, hne, decide_false]
 ·have h0 : ((a.length : Int) != (b.length : Int)) = true := by simp; omega
  rw [h0, qP, kT]
  have : a ≠ b := fun e => hl (by rw [e])
  simp [this]
theorem q3S {a b : List Int} (ha : a.length < 2 ^ 62) : H52 (a, b) = some (decide (a = b)) := by
 have : H52 (a, b) = (GE (fun p : Int × Int => some (p.1 == p.2)) a b).run := rfl
 rw [this]
 exact qXJ ha fun x _ y _ => by
  by_cases h : x = y <;> simp [h]
theorem q5H {a b : List Int} (ha : a.length < 2 ^ 62) : H98 (a, b) = some (decide (a = b)) := (show H98 (a, b) = H52 (a, b) from rfl).trans (q3S ha)
theorem q29 {a b : List Int} (ha : a.length < 2 ^ 62) : H159 (a, b) = some (decide (a = b)) := by
 show (G159 a b).run = _
 unfold G159
 rw [q5H ha, qD, kT]
theorem q2B {a b : List (List Int)} (ha : a.length < 2 ^ 62) (hr : ∀ r ∈ a, r.length < 2 ^ 62) : H53 (a, b) = some (decide (a = b)) :=
 (show H53 (a, b) = (GE H52 a b).run from rfl).trans (qXJ ha fun x hx y _ => q3S (hr x hx))
theorem q0U {a b : List (List Int)} (ha : a.length < 2 ^ 62) (hr : ∀ r ∈ a, r.length < 2 ^ 62) : H127 (a, b) = some (decide (a = b)) :=
 (show H127 (a, b) = (GE H159 a b).run from rfl).trans (qXJ ha fun x hx y _ => q29 (hr x hx))
end Go.Proofs.YtpdlblofcdcikaaGreatDoor
