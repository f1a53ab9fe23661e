/- The first cell of a strand; the first clash, plainly. Conditions: none. -/
import Derived.Test.YtpdlblofcdcikaaGreatDoorH6
set_option linter.unusedSimpArgs false
set_option linter.unusedVariables false
namespace Go.Proofs.YtpdlblofcdcikaaGreatDoor
open Go.Idl

/-- the first of the places up to t that shows what place t shows -/
def fstT (k : Nat → Int) (t : Nat) : Nat → Nat
  | 0 => 0
  | s + 1 => if k (fstT k t s) = k t then fstT k t s else s + 1
theorem fstT_spec (k : Nat → Int) (t : Nat) : ∀ s, s ≤ t → fstT k t s ≤ s ∧ (∀ x, x < fstT k t s → k x ≠ k t) ∧ ((∃ x, x ≤ s ∧ k x = k t) → k (fstT k t s) = k t)
  | 0, _ => ⟨Nat.le_refl _, fun x hx => by simp [fstT] at hx, fun ⟨x, hx, h⟩ => by
      have : x = 0 := by omega
      subst this
      exact h⟩
  | s + 1, hs => by
    obtain ⟨h1, h2, h3⟩ := fstT_spec k t s (by omega)
    unfold fstT
    by_cases h : k (fstT k t s) = k t
    · rw [if_pos h]
      exact ⟨by omega, h2, fun _ => h⟩
    · rw [if_neg h]
      refine ⟨Nat.le_refl _, fun x hx e => h (h3 ⟨x, by omega, e⟩), fun ⟨x, hx, e⟩ => ?_⟩
      by_cases hx1 : x = s + 1
      · rw [← hx1]; exact e
      · exact absurd (h3 ⟨x, by omega, e⟩) h
def fstC (k : Nat → Int) (t : Nat) : Nat := fstT k t t
theorem fstC_le (k : Nat → Int) (t : Nat) : fstC k t ≤ t := (fstT_spec k t t (Nat.le_refl _)).1
theorem fstC_eq (k : Nat → Int) (t : Nat) : k (fstC k t) = k t := (fstT_spec k t t (Nat.le_refl _)).2.2 ⟨t, Nat.le_refl _, rfl⟩
theorem fstC_min (k : Nat → Int) (t : Nat) : ∀ x, x < fstC k t → k x ≠ k t := (fstT_spec k t t (Nat.le_refl _)).2.1
theorem fstC_unique {k : Nat → Int} {t s : Nat} (hs : k s = k t) (hm : ∀ x, x < s → k x ≠ k t) : fstC k t = s := by
  rcases Nat.lt_trichotomy (fstC k t) s with h | h | h
  · exact absurd (fstC_eq k t) (hm _ h)
  · exact h
  · exact absurd hs (fstC_min k t s h)
/-- which strands were seen, and where first -/
def seenM {α : Type} (k : Nat → Int) (at' : Nat → α) : Nat → List (Int × α)
  | 0 => []
  | t + 1 => if fstC k t = t then seenM k at' t ++ [(k t, at' t)] else seenM k at' t
theorem seenM_succ {α : Type} (k : Nat → Int) (at' : Nat → α) (t : Nat) : seenM k at' (t + 1) = if fstC k t = t then seenM k at' t ++ [(k t, at' t)] else seenM k at' t := rfl
theorem mfind_cons (k : Int) (p : Int × Value) (m : List (Int × Value)) (i : Nat) : mfind k (p :: m) i = if p.1 = k then some (i, p.2) else mfind k m (i + 1) := rfl
theorem mfind_none {k : Int} : ∀ (m : List (Int × Value)) (i : Nat), (∀ p ∈ m, p.1 ≠ k) → mfind k m i = none
  | [], _, _ => rfl
  | p :: m, i, h => by
    unfold mfind
    rw [if_neg (h p List.mem_cons_self)]
    exact mfind_none m _ fun q hq => h q (List.mem_cons_of_mem _ hq)
theorem mfind_app {k : Int} : ∀ (m m' : List (Int × Value)) (i : Nat), mfind k (m ++ m') i = match mfind k m i with
    | some r => some r
    | none => mfind k m' (i + m.length)
  | [], m', i => rfl
  | p :: m, m', i => by
    rw [List.cons_append, mfind_cons, mfind_cons]
    by_cases hk : p.1 = k
    · rw [if_pos hk, if_pos hk]
    · rw [if_neg hk, if_neg hk, mfind_app m m' (i + 1)]
      have : i + 1 + m.length = i + (p :: m).length := by simp; omega
      rw [this]
theorem seenM_find (k : Nat → Int) (at' : Nat → Value) (z : Int) : ∀ t, ((∃ s, s < t ∧ k s = z ∧ ∀ x, x < s → k x ≠ z) → ∃ s j, s < t ∧ k s = z ∧ (∀ x, x < s → k x ≠ z) ∧ mfind z (seenM k at' t) 0 = some (j, at' s)) ∧
    ((∀ s, s < t → k s ≠ z) → mfind z (seenM k at' t) 0 = none)
  | 0 => ⟨fun ⟨s, hs, _⟩ => by omega, fun _ => rfl⟩
  | t + 1 => by
    obtain ⟨h1, h2⟩ := seenM_find k at' z t
    constructor
    · rintro ⟨s, hs, hk, hm⟩
      by_cases hst : s < t
      · obtain ⟨s', j, a1, a2, a3, a4⟩ := h1 ⟨s, hst, hk, hm⟩
        refine ⟨s', j, by omega, a2, a3, ?_⟩
        unfold seenM
        split
        · rw [mfind_app, a4]
        · exact a4
      · have : s = t := by omega
        subst this
        have hf : fstC k s = s := fstC_unique rfl fun x hx e => hm x hx (e.trans hk)
        have hn : mfind z (seenM k at' s) 0 = none := h2 hm
        refine ⟨s, 0 + (seenM k at' s).length, by omega, hk, hm, ?_⟩
        rw [seenM_succ, if_pos hf, mfind_app, hn]
        show mfind z [(k s, at' s)] _ = _
        rw [mfind_cons, if_pos hk]
    · intro hall
      have hn := h2 fun s hs => hall s (by omega)
      unfold seenM
      split
      · rw [mfind_app, hn]
        show mfind z [(k t, at' t)] _ = _
        rw [mfind_cons, if_neg (hall t (by omega))]
        rfl
      · exact hn
/-- what a look at place t finds -/
theorem seenM_at (k : Nat → Int) (at' : Nat → Value) (t : Nat) : (fstC k t = t → mfind (k t) (seenM k at' t) 0 = none) ∧ (fstC k t ≠ t → ∃ j, mfind (k t) (seenM k at' t) 0 = some (j, at' (fstC k t))) := by
  obtain ⟨h1, h2⟩ := seenM_find k at' (k t) t
  constructor
  · intro hf
    exact h2 fun s hs => by have := fstC_min k t s; rw [hf] at this; exact this hs
  · intro hf
    obtain ⟨s, j, a1, a2, a3, a4⟩ := h1 ⟨fstC k t, by have := fstC_le k t; omega, fstC_eq k t, fstC_min k t⟩
    rw [fstC_unique a2 a3]
    exact ⟨j, a4⟩
end Go.Proofs.YtpdlblofcdcikaaGreatDoor
