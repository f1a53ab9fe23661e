/- Loops of told functions, round by round. Conditions: none. -/
import Derived.Test.YtpdlblofcdcikaaGreatDoorSvB
set_option linter.all false
namespace Go.Sv
open Go.Idl
section
variable {R α β : Type}
theorem qQ {x y : Tree R} : Tree.ite true x y = x := rfl
theorem qN {x y : Tree R} : Tree.ite false x y = y := rfl
theorem qK {a : α} {k : α -> Tree R} : Tree.bind (some a) k = k a := rfl
theorem wC {a : α} {f : α -> Tree R} {g : β -> Tree R} : Tree.sum (.inl a) f g = f a := rfl
theorem qKU {b : β} {f : α -> Tree R} {g : β -> Tree R} : Tree.sum (.inr b) f g = g b := rfl
theorem xI {r : R} : Tree.run (Tree.ret r) = some r := rfl
end
theorem jF {n k : Nat} (h : k < n) : idx n (k : Int) = some k := by
 unfold idx;rw [if_pos ⟨by omega, by omega⟩];simp
theorem q48 {n : Nat} (h : 0 < n) : idx n 0 = some 0 := jF (k := 0) h
theorem mX {n k : Nat} (h : k <= n) : qC5 n (k : Int) = some k := by
 unfold qC5;rw [if_pos ⟨by omega, by omega⟩];simp
theorem aP {k : Nat} (h : k < 2 ^ 62) : IntKind.i64.wrap ((k : Int) + 1) = ((k + 1 : Nat) : Int) := by
 rw [wrap_i64 (by omega) (by omega)];omega
def scan {ρ : Type} (f : Nat -> Option ρ) : Nat -> Nat -> Option ρ
 | 0, _ => none
 | m + 1, k => match f k with
   | some r => some r
   | none => scan f m (k + 1)
theorem fB {ρ : Type} {f : Nat -> Option ρ} : ∀ {m k : Nat}, scan f m k = none ↔ ∀ i, k <= i -> i < k + m -> f i = none
 | 0, k => by simp [scan]; intro i h1 h2; omega
 | m + 1, k => by
   unfold scan
   cases hf : f k with
   | some r =>
     simp only [reduceCtorEq, false_iff];intro h;rw [h k (Nat.le_refl _) (by omega)] at hf;cases hf
   | none =>
     simp only;rw [fB];constructor
     ·intro h i h1 h2;by_cases hk : i = k
      ·rw [hk]; exact hf
      ·exact h i (by omega) (by omega)
     ·intro h i h1 h2;exact h i (by omega) (by omega)
theorem vN {ρ : Type} {f : Nat -> Option ρ} {r : ρ} : ∀ {m k : Nat}, scan f m k = some r -> ∃ i, k <= i ∧ i < k + m ∧ f i = some r ∧ ∀ j, k <= j -> j < i -> f j = none
 | 0, k, h => by cases h
 | m + 1, k, h => by
   unfold scan at h
   cases hf : f k with
   | some r' =>
     rw [hf] at h;cases h;exact ⟨k, Nat.le_refl _, by omega, hf, fun j h1 h2 => by omega⟩
   | none =>
     rw [hf] at h;obtain ⟨i, h1, h2, h3, h4⟩ := vN h;refine ⟨i, by omega, by omega, h3, fun j h5 h6 => ?_⟩;by_cases hk : j = k
     ·rw [hk]; exact hf
     ·exact h4 j (by omega) h6
variable [Gc]
theorem qJ8 {ρ τ : Type} {F : Int -> Option (Int ⊕ τ)} (f : Nat -> Option ρ) (up : ρ -> τ) (dn : τ) {n : Nat} (hs : ∀ k, k < n -> F (k : Int) = match f k with
 | some r => some (.inr (up r))
 | none => some (.inl ((k + 1 : Nat) : Int))) (he : F (n : Int) = some (.inr dn)) : ∀ (m k : Nat), k + m = n -> yB F (k : Int) = some (match scan f m k with
 | some r => up r
 | none => dn)
 | 0, k, h => by
   have : k = n := by omega
   subst this;rw [vV, he];rfl
 | m + 1, k, h => by
   rw [vV, hs k (by omega)];unfold scan
   cases f k with
   | some r => rfl
   | none => exact qJ8 f up dn hs he m (k + 1) (by omega)
def qC9 {σ : Type} (g : Nat -> σ -> σ) : Nat -> Nat -> σ -> σ
 | 0, _, s => s
 | m + 1, k, s => qC9 g m (k + 1) (g k s)
theorem qKW {S σ τ : Type} {F : S -> Option (S ⊕ τ)} (E : Nat -> σ -> S) (I : Nat -> σ -> Prop) (g : Nat -> σ -> σ) (dn : σ -> τ) {n : Nat}
 (hs : ∀ k s, k < n -> I k s -> F (E k s) = some (.inl (E (k + 1) (g k s))) ∧ I (k + 1) (g k s)) (he : ∀ s, I n s -> F (E n s) = some (.inr (dn s))) :
 ∀ (m k : Nat) (s : σ), k + m = n -> I k s -> yB F (E k s) = some (dn (qC9 g m k s)) ∧ I n (qC9 g m k s)
 | 0, k, s, h, hI => by
   have : k = n := by omega
   subst this;rw [vV, he s hI];exact ⟨rfl, hI⟩
 | m + 1, k, s, h, hI => by
   obtain ⟨h1, h2⟩ := hs k s (by omega) hI;rw [vV, h1];exact qKW E I g dn hs he m (k + 1) (g k s) (by omega) h2
theorem wJ {R ρ τ : Type} {F : Int -> Option (Int ⊕ τ)} {K : τ -> Tree R} {v : Option R} (n : Nat) (f : Nat -> Option ρ) (up : ρ -> τ) (dn : τ) (hs : ∀ k : Nat, k < n -> F (k : Int) = match f k with
 | some r => some (.inr (up r))
 | none => some (.inl ((k + 1 : Nat) : Int))) (he : F (n : Int) = some (.inr dn)) (hv : (match scan f n 0 with
 | some r => K (up r)
 | none => K dn).run = v) : (Tree.bind (yB F 0) K).run = v := by
 have := qJ8 f up dn hs he n 0 (by omega);rw [show yB F 0 = _ from this, qK]
 cases h : scan f n 0 with
 | none => rw [h] at hv; exact hv
 | some r => rw [h] at hv; exact hv
theorem aX {R S σ τ : Type} {F : S -> Option (S ⊕ τ)} {K : τ -> Tree R} {v : Option R} {s0 : S} (n : Nat) (E : Nat -> σ -> S) (I : Nat -> σ -> Prop) (g : Nat -> σ -> σ) (dn : σ -> τ) (s : σ) (h0 : s0 = E 0 s) (hI : I 0 s)
 (hs : ∀ k s, k < n -> I k s -> F (E k s) = some (.inl (E (k + 1) (g k s))) ∧ I (k + 1) (g k s)) (he : ∀ s, I n s -> F (E n s) = some (.inr (dn s))) (hv : I n (qC9 g n 0 s) -> (K (dn (qC9 g n 0 s))).run = v) : (Tree.bind (yB F s0) K).run = v := by
 obtain ⟨h1, h2⟩ := qKW E I g dn hs he n 0 s (by omega) hI;rw [h0, h1, qK];exact hv h2
theorem qDO {a b : Int} (h : a < b) : decide (a < b) = true := decide_eq_true h
theorem qGD {a b : Int} (h : ¬ a < b) : decide (a < b) = false := decide_eq_false h
theorem jE {α : Type} {l : List α} {k : Nat} (h : k < l.length) : ∃ x, l[k]? = some x ∧ x ∈ l := ⟨l[k], List.getElem?_eq_getElem h, List.getElem_mem h⟩
end Go.Sv
