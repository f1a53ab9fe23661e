/- Pictures in order; normal forms. Conditions: none. -/
import Derived.Test.YtpdlblofcdcikaaGreatDoorPL4
set_option linter.unusedSimpArgs false
set_option linter.unusedVariables false
set_option linter.unusedVariables false
set_option linter.unusedSimpArgs false
namespace Go.Proofs.YtpdlblofcdcikaaGreatDoor
open Go.Idl Go.Sv
theorem Pic.at {p : List (List Int)} {h n k : Nat} (hp : Pic p h n) (hk : k < h) : ∃ x, p[k]? = some x ∧ x.length = n := by
 obtain ⟨x, hx, mx⟩ := xH (show k < p.length by rw [hp.len]; exact hk)
 exact ⟨x, hx, hp.row x mx⟩
theorem q3I {p : List (List Int)} {h n d r : Nat} (hp : Pic p h n) (hd : d < h) (hr : r < n) : H77 (p, (d : Int), (r : Int)) = some (shf p h d r) := by
 have h2 := hp.h2
 have n2 := hp.n2
 rw [q2G hp, mH hd, mH hr]
theorem qW4 {p : List (List Int)} {h n d r : Nat} (hp : Pic p h n) (hd : d < h) (hr : r < n) : H128 (p, (d : Int), (r : Int)) = some (shf p h d r) := by
 have h2 := hp.h2
 have n2 := hp.n2
 rw [q1J hp, mH hd, mH hr]
theorem q33 {p : List (List Int)} {h n : Nat} (hp : Pic p h n) {γ : Type} (I : γ -> Prop) {stp : γ -> (Int × Int) × List (List Int) -> Option (γ × Bool)} (f : Nat -> Nat -> γ -> γ)
 (hst : ∀ s d r, d < h -> r < n -> I s -> stp s (((d : Int), (r : Int)), shf p h d r) = some (f d r s, true) ∧ I (f d r s)) {g : γ} (hg : I g) : H141 p γ stp g = some (zP (fun d s => zP (fun r s => f d r s) n 0 s) h 0 g) ∧ I (zP (fun d s => zP (fun r s => f d r s) n 0 s) h 0 g) := by
 have hh1 := hp.h1
 have hh2 := hp.h2
 have hn2 := hp.n2
 obtain ⟨r0, hr0, hl0⟩ := hp.at (show 0 < h by omega)
 have hpl : 0 < p.length := by rw [hp.len]; omega
 have hfold : ∀ (d : Nat), d < h -> ∀ (m r : Nat) (t : γ), r + m = n -> I t -> I (zP (fun r s => f d r s) m r t) := by
  intro d hd m
  induction m with
  | zero => intro r t _ ht; exact ht
  | succ m ih => intro r t hm ht; exact ih (r + 1) _ (by omega) (hst t d r hd (by omega) ht).2
 have hall : ∀ (m d : Nat) (t : γ), d + m = h -> I t -> I (zP (fun d s => zP (fun r s => f d r s) n 0 s) m d t) := by
  intro m
  induction m with
  | zero => intro d t _ ht; exact ht
  | succ m ih => intro d t hm ht; exact ih (d + 1) _ (by omega) (hfold d (by omega) n 0 t (by omega) ht)
 refine ⟨?_, hall h 0 g (by omega) hg⟩
 show (G141 p γ stp g).run = _
 unfold G141
 refine yK h (fun k s => (s, (k : Int))) (fun k s => I s) (fun d s => zP (fun r s => f d r s) n 0 s) (fun s => Sum.inl (s, (h : Int))) g rfl hg (fun d s hd hI => ?_) (fun s hI => ?_) fun hI => ?_
 ·have hd3 : (d : Int) < (p.length : Int) := by rw [hp.len]; omega
  refine ⟨?_, hfold d hd n 0 s (by omega) hI⟩
  simp only [rC hd3, qP, rF hpl, qD, hr0]
  refine yK (R := (γ × Int) ⊕ _) n (fun r t => (t, (r : Int))) (fun r t => I t) (fun r t => f d r t) (fun t => Sum.inl (t, (n : Int))) s rfl hI (fun r t hr hJ => ?_) (fun t hJ => ?_) fun hJ => ?_
  ·have hr3 : (r : Int) < (r0.length : Int) := by omega
   obtain ⟨h1, h2⟩ := hst t d r hd hr hJ
   refine ⟨?_, h2⟩
   simp only [rC hr3, qP, qW4 hp hd hr, qD, h1, wH (show r < 2 ^ 62 by omega)]
   rfl
  ·have : ¬ (n : Int) < (r0.length : Int) := by omega
   simp only [pV this, qF]
   rfl
  ·simp only [kZ, wH (show d < 2 ^ 62 by omega)]
   rfl
 ·have : ¬ (h : Int) < (p.length : Int) := by rw [hp.len]; exact Int.lt_irrefl _
  simp only [pV this, qF]
  rfl
 ·simp only [kZ, kT]
theorem qZG {p : List (List Int)} {h n : Nat} (hp : Pic p h n) {R γ : Type} {K : γ -> Tree R} {v : Option R} (I : γ -> Prop) {stp : γ -> (Int × Int) × List (List Int) -> Option (γ × Bool)} (f : Nat -> Nat -> γ -> γ) {g : γ} (hg : I g)
 (hst : ∀ s d r, d < h -> r < n -> I s -> stp s (((d : Int), (r : Int)), shf p h d r) = some (f d r s, true) ∧ I (f d r s)) (hv : I (zP (fun d s => zP (fun r s => f d r s) n 0 s) h 0 g) -> (K (zP (fun d s => zP (fun r s => f d r s) n 0 s) h 0 g)).run = v) : (Tree.bind (H141 p γ stp g) K).run = v := by
 obtain ⟨h1, h2⟩ := q33 hp I f hst hg
 rw [h1, qD]
 exact hv h2
theorem qMJ {p : List (List Int)} {h n : Nat} (hp : Pic p h n) : shf p h 0 0 = p := by
 unfold shf
 apply List.ext_getElem?
 intro i
 by_cases hi : i < h
 ·rw [List.getElem?_map, List.getElem?_range hi]
  obtain ⟨x, hx, _⟩ := hp.at hi
  have e : ((i : Int) - ((0 : Nat) : Int)) = (i : Int) := by omega
  show some (rot (p.getD (mN ((i : Int) - ((0 : Nat) : Int)) h) []) 0) = _
  rw [e, mH hi, getD_at hx, qUH, hx]
 ·rw [List.getElem?_eq_none (by simp; omega), List.getElem?_eq_none (by rw [hp.len]; omega)]
end Go.Proofs.YtpdlblofcdcikaaGreatDoor
