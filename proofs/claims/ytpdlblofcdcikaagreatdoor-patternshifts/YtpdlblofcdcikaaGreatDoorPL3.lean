/- Which pictures the law looks at. Conditions: none. -/
import Derived.Test.YtpdlblofcdcikaaGreatDoorPL2
set_option linter.unusedSimpArgs false
set_option linter.unusedVariables false
set_option linter.unusedVariables false
set_option linter.unusedSimpArgs false
namespace Go.Proofs.YtpdlblofcdcikaaGreatDoor
open Go.Idl Go.Sv
theorem q48 {p : List (List Int)} : ∃ b, H17 p = some b ∧ (b = true -> p.length <= 27 ∧ ∀ i r, i < 25 -> p[i]? = some r -> r.length <= 27) := by
 refine ⟨match scan (fun i => if 27 < (p.getD i []).length then some false else none) (min p.length 25) 0 with
  | some r => r
  | none => decide (p.length <= 27), ?_, ?_⟩
 ·show (G17 p).run = _
  unfold G17
  refine jR (min p.length 25) (fun i => if 27 < (p.getD i []).length then some false else none) (fun x => Sum.inr (Sum.inl x)) (Sum.inl ((min p.length 25 : Nat) : Int)) (fun k hk => ?_) ?_ ?_
  ·have hk1 : k < p.length := by omega
   obtain ⟨x, hx, mx⟩ := xH hk1
   have hk3 : (k : Int) < (p.length : Int) := by omega
   have hk4 : decide ((k : Int) <= 24) = true := decide_eq_true (by omega)
   have hw : yE true true = true := rfl
   simp only [rC hk3, hw, hk4, qP, jF hk1, qD, hx, getD_at hx, wH (show k < 2 ^ 62 by omega)]
   by_cases h : 27 < x.length
   ·have : decide ((27 : Int) < (x.length : Int)) = true := decide_eq_true (by omega)
    rw [this, qP, if_pos h]
    rfl
   ·have : decide ((27 : Int) < (x.length : Int)) = false := decide_eq_false (by omega)
    rw [this, qF, if_neg h]
    rfl
  ·by_cases h : p.length <= 25
   ·have e : min p.length 25 = p.length := by omega
    rw [e]
    have hw : yE false true = false := rfl
    simp only [pV (Int.lt_irrefl _), hw, qF]
    rfl
   ·have e : min p.length 25 = 25 := by omega
    rw [e]
    have h1 : decide (((25 : Nat) : Int) < (p.length : Int)) = true := decide_eq_true (by omega)
    have h2 : decide (((25 : Nat) : Int) <= 24) = false := rfl
    have hw : yE true true = true := rfl
    simp only [h1, h2, hw, qP, qF]
    rfl
  ·cases hs : scan (fun i => if 27 < (p.getD i []).length then some false else none) (min p.length 25) 0 with
   | none =>
     simp only [kZ, kT]
     congr 1
     by_cases h : p.length <= 27
     ·rw [decide_eq_true h, decide_eq_true (show (p.length : Int) <= 27 by omega)]
     ·rw [decide_eq_false h, decide_eq_false (show ¬ (p.length : Int) <= 27 by omega)]
   | some r => simp only [qID, kZ, kT]
 ·intro hb
  cases hs : scan (fun i => if 27 < (p.getD i []).length then some false else none) (min p.length 25) 0 with
  | none =>
    rw [hs] at hb
    have hb : p.length <= 27 := by simpa using hb
    refine ⟨hb, fun i r hi hr => ?_⟩
    have hlt := (List.getElem?_eq_some_iff.1 hr).1
    have := wS.1 hs i (Nat.zero_le _) (by omega)
    rw [getD_at hr] at this
    by_cases h : 27 < r.length
    ·rw [if_pos h] at this; cases this
    ·omega
  | some r =>
    rw [hs] at hb
    obtain ⟨i, _, _, hf, _⟩ := vM hs
    by_cases h : 27 < (p.getD i []).length
    ·rw [if_pos h] at hf; cases hf; cases hb
    ·rw [if_neg h] at hf; cases hf
theorem q5V {p : List (List Int)} : ∃ b, H25 p = some b ∧ (b = true -> p.length <= 27 ∧ ∀ i r, i < 25 -> p[i]? = some r -> r.length <= 27) := by
 obtain ⟨b1, h1, h2⟩ := q48 (p := p)
 have key : ∃ b, (G25 p).run = some b ∧ (b = true -> b1 = true) := by
  unfold G25
  rw [h1, qD]
  cases b1 with
  | false => exact ⟨false, rfl, fun h => by cases h⟩
  | true =>
    have hl := (h2 rfl).1
    have hnt : (!true) = false := rfl
    rw [hnt, qF]
    have loop : ∃ b, (Tree.bind (zZ (fun (s2 : Int) =>
     Tree.ite (decide (s2 < (p.length : Int)))
      (Tree.bind (idx (List.length p) s2) fun (x3 : Nat) =>
        Tree.bind p[x3]? fun (x4 : List Int) =>
         Tree.ite (yE (decide (10 < (x4.length : Int))) true)
          (Tree.ite (decide ((x4.length : Int) <= 24)) (Tree.ret (Sum.inr (Sum.inr (Sum.inl false))))
            (Tree.ret (Sum.inl (IntKind.i64.wrap (s2 + 1)))))
          (Tree.ret (Sum.inl (IntKind.i64.wrap (s2 + 1)))))
      (Tree.ret (Sum.inr (Sum.inl s2)))) 0) fun (x2 : Int ⊕ Bool ⊕ Nat × Int) =>
     Tree.sum x2 (fun (s3 : Int) => Tree.ret true) fun (s3 : Bool ⊕ Nat × Int) =>
      Tree.sum s3 (fun (s4 : Bool) => Tree.ret s4) fun (s4 : Nat × Int) => Tree.fail).run = some b := by
     refine ⟨match scan (fun i => if 10 < (p.getD i []).length ∧ (p.getD i []).length <= 24 then some false else none) p.length 0 with
      | some r => r
      | none => true, jR p.length (fun i => if 10 < (p.getD i []).length ∧ (p.getD i []).length <= 24 then some false else none) (fun x => Sum.inr (Sum.inl x)) (Sum.inl (p.length : Int)) (fun k hk => ?_) ?_ ?_⟩
     ·obtain ⟨x, hx, mx⟩ := xH hk
      have hk3 : (k : Int) < (p.length : Int) := by omega
      simp only [rC hk3, qP, jF hk, qD, hx, getD_at hx, wH (show k < 2 ^ 62 by omega)]
      by_cases q1 : 10 < x.length
      ·have e1 : decide ((10 : Int) < (x.length : Int)) = true := decide_eq_true (by omega)
       have hw : yE true true = true := rfl
       rw [e1, hw, qP]
       by_cases q2 : x.length <= 24
       ·rw [decide_eq_true (show (x.length : Int) <= 24 by omega), qP, if_pos ⟨q1, q2⟩]; rfl
       ·rw [decide_eq_false (show ¬ (x.length : Int) <= 24 by omega), qF, if_neg (fun h => q2 h.2)]; rfl
      ·have e1 : decide ((10 : Int) < (x.length : Int)) = false := decide_eq_false (by omega)
       have hw : yE false true = false := rfl
       rw [e1, hw, qF, if_neg (fun h => q1 h.1)]; rfl
     ·simp only [pV (Int.lt_irrefl _), qF]
      rfl
     ·cases scan (fun i => if 10 < (p.getD i []).length ∧ (p.getD i []).length <= 24 then some false else none) p.length 0 with
      | none => simp only [kZ, kT]
      | some r => simp only [qID, kZ, kT]
    obtain ⟨b, hb⟩ := loop
    by_cases q1 : 10 < p.length
    ·have e1 : decide ((10 : Int) < (p.length : Int)) = true := decide_eq_true (by omega)
     have hw : yE true true = true := rfl
     rw [e1, hw, qP]
     by_cases q2 : p.length <= 24
     ·rw [decide_eq_true (show (p.length : Int) <= 24 by omega), qP]
      exact ⟨false, rfl, fun _ => rfl⟩
     ·rw [decide_eq_false (show ¬ (p.length : Int) <= 24 by omega), qF]
      exact ⟨b, hb, fun _ => rfl⟩
    ·have e1 : decide ((10 : Int) < (p.length : Int)) = false := decide_eq_false (by omega)
     have hw : yE false true = false := rfl
     rw [e1, hw, qF]
     exact ⟨b, hb, fun _ => rfl⟩
 obtain ⟨b, hb, hb2⟩ := key
 exact ⟨b, hb, fun h => h2 (hb2 h)⟩
structure Pic (p : List (List Int)) (h n : Nat) : Prop where
 len : p.length = h
 row : ∀ r ∈ p, r.length = n
 h1 : 1 <= h
 h2 : h <= 24
 n1 : 1 <= n
 n2 : n <= 24
theorem qYE {p : List (List Int)} (h : chk p = 0) : ∃ n, Pic p p.length n := by
 unfold chk at h
 by_cases h0 : p.length = 0
 ·rw [if_pos h0] at h; cases h
 ·rw [if_neg h0] at h
  by_cases h1 : 24 < p.length
  ·rw [if_pos h1] at h; cases h
  ·rw [if_neg h1] at h
   obtain ⟨r0, hr0, m0⟩ := xH (show 0 < p.length by omega)
   have hall : ∀ r ∈ p, gG r0.length r = 0 := by
    intro r hr
    obtain ⟨i, hi, rfl⟩ := List.getElem_of_mem hr
    unfold q0R at h
    cases hs : scan (fun i => if gG (p.getD 0 []).length (p.getD i []) ≠ 0 then some (gG (p.getD 0 []).length (p.getD i [])) else none) p.length 0 with
    | none =>
      have := wS.1 hs i (Nat.zero_le _) (by omega)
      rw [getD_at hr0, getD_at (List.getElem?_eq_getElem hi)] at this
      by_cases hq : gG r0.length p[i] ≠ 0
      ·rw [if_pos hq] at this; cases this
      ·simpa using hq
    | some v =>
      rw [hs] at h
      have h : v = 0 := h
      obtain ⟨j, _, _, hf, _⟩ := vM hs
      by_cases hq : gG (p.getD 0 []).length (p.getD j []) ≠ 0
      ·rw [if_pos hq] at hf
       cases hf
       exact absurd h hq
      ·rw [if_neg hq] at hf; cases hf
   have hrow : ∀ r ∈ p, r.length = r0.length ∧ 1 <= r.length ∧ r.length <= 24 := by
    intro r hr
    have := hall r hr
    unfold gG at this
    by_cases a1 : r.length = 0
    ·rw [if_pos a1] at this; cases this
    ·rw [if_neg a1] at this
     by_cases a2 : 24 < r.length
     ·rw [if_pos a2] at this; cases this
     ·rw [if_neg a2] at this
      by_cases a3 : r.length ≠ r0.length
      ·rw [if_pos a3] at this; cases this
      ·exact ⟨by simpa using a3, by omega, by omega⟩
   have := hrow r0 m0
   exact ⟨r0.length, rfl, fun r hr => (hrow r hr).1, by omega, by omega, this.2.1, this.2.2⟩
end Go.Proofs.YtpdlblofcdcikaaGreatDoor
