/- Placings by number; the least ones of their classes. Conditions: none. -/
import Derived.Test.YtpdlblofcdcikaaGreatDoorL1
set_option linter.unusedSimpArgs false
set_option linter.unusedVariables false
namespace Go.Proofs.YtpdlblofcdcikaaGreatDoor
open Go.Idl

def digD (c n k j : Nat) : Int := ((k / c ^ (n - 1 - j) % c : Nat) : Int)
def digP (c n k t : Nat) : List Int := (List.range n).map fun (j : Nat) => if n - t ≤ j then digD c n k j else 0
def digs (c n k : Nat) : List Int := (List.range n).map fun (j : Nat) => digD c n k j
theorem digP_len (c n k t : Nat) : (digP c n k t).length = n := by simp [digP]
theorem digs_len (c n k : Nat) : (digs c n k).length = n := by simp [digs]
theorem digP_zero (c n k : Nat) : digP c n k 0 = List.replicate n 0 := by
  apply List.ext_getElem?
  intro i
  unfold digP
  by_cases hi : i < n
  · have : ¬ n ≤ i := by omega
    simp [hi, this]
  · simp [hi]
theorem digP_end (c n k : Nat) : digP c n k n = digs c n k := by
  unfold digP digs
  simp
theorem digP_set {c n k t : Nat} (h : t < n) : (digP c n k t).set (n - 1 - t) ((k / c ^ t % c : Nat) : Int) = digP c n k (t + 1) := by
  apply List.ext_getElem?
  intro i
  rw [List.getElem?_set, digP_len]
  unfold digP
  by_cases hi : n - 1 - t = i
  · subst hi
    have h1 : n - 1 - t < n := by omega
    have h2 : n - (t + 1) ≤ n - 1 - t := by omega
    have h3 : n - 1 - (n - 1 - t) = t := by omega
    have h4 : ¬ n - 1 - t + (t + 1) < n := by omega
    simp [h1, digD, h3, h4]
  · rw [if_neg hi]
    by_cases hi2 : i < n
    · have h1 : (n ≤ i + t) = (n ≤ i + (t + 1)) := by
        apply propext
        omega
      simp only [List.getElem?_map, List.getElem?_range hi2, Option.map_some]
      have h2 : (n - t ≤ i) = (n - (t + 1) ≤ i) := by
        apply propext
        omega
      simp only [h2]
    · simp [hi2]
def leastP (f x : List Int) : Prop := ∀ s, lessL (iterG f s x) x = false
open Classical in
noncomputable def leastB (f x : List Int) : Bool := decide (leastP f x)
noncomputable def listN (f : List Int) (c n : Nat) : Nat → List (List Int)
  | 0 => []
  | k + 1 => listN f c n k ++ cond (leastB f (digs c n k)) [digs c n k] []
theorem listN_len (f : List Int) (c n : Nat) : ∀ k, (listN f c n k).length ≤ k
  | 0 => Nat.le_refl _
  | k + 1 => by
    have := listN_len f c n k
    unfold listN
    cases leastB f (digs c n k) <;> simp <;> omega
theorem listN_row (f : List Int) (c n : Nat) : ∀ k, ∀ zs ∈ listN f c n k, zs.length = n
  | 0, zs, h => by cases h
  | k + 1, zs, h => by
    unfold listN at h
    rcases List.mem_append.1 h with h | h
    · exact listN_row f c n k zs h
    · cases hb : leastB f (digs c n k) with
      | true => rw [hb] at h; simp at h; rw [h]; exact digs_len c n k
      | false => rw [hb] at h; simp at h
theorem lessL_self : ∀ (x : List Int), lessL x x = false
  | [] => rfl
  | x :: l => by unfold lessL; rw [if_pos rfl]; exact lessL_self l
theorem iter_mod {f x : List Int} {t : Nat} (h : iterG f t x = x) (ht : 0 < t) : ∀ s, iterG f s x = iterG f (s % t) x := by
  have key : ∀ q, iterG f (t * q) x = x := by
    intro q
    induction q with
    | zero => rfl
    | succ q ih => rw [Nat.mul_succ, iterG_add, ih, h]
  intro s
  conv => lhs; rw [← Nat.div_add_mod s t, iterG_add, key]
theorem least_true {f x : List Int} {t : Nat} (ht : 0 < t) (h : iterG f t x = x) (hl : ∀ s, s < t → lessL (iterG f s x) x = false) : leastB f x = true :=
  @decide_eq_true _ (Classical.propDecidable _) (fun s => by rw [iter_mod h ht s]; exact hl _ (Nat.mod_lt _ ht))
theorem least_false {f x : List Int} {s : Nat} (h : lessL (iterG f s x) x = true) : leastB f x = false :=
  @decide_eq_false _ (Classical.propDecidable _) (fun hl => by rw [hl s] at h; cases h)
end Go.Proofs.YtpdlblofcdcikaaGreatDoor
