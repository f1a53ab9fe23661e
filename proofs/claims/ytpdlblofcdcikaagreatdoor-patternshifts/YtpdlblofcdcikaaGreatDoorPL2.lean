/- What the checks of a picture compute, in plain words. Conditions: none. -/
import Derived.Test.YtpdlblofcdcikaaGreatDoorPL1
set_option linter.unusedSimpArgs false
set_option linter.unusedVariables false
set_option linter.unusedVariables false
set_option linter.unusedSimpArgs false
namespace Go.Proofs.YtpdlblofcdcikaaGreatDoor
open Go.Idl Go.Sv
theorem q5N (x : Int × Int × Int) : H38 x = some (decide (x.1 < x.2.1) || decide (x.2.2 < x.1)) := by
 obtain ⟨n, a, b⟩ := x
 show (G38 n a b).run = some (decide (n < a) || decide (b < n))
 unfold G38
 by_cases h : n < a
 ·simp only [h, decide_true]; rfl
 ·simp only [h, decide_false]; rfl
theorem q2J (x : Bool × Int) : H89 x = some (cond x.1 x.2 0) := by
 obtain ⟨b, e⟩ := x
 show (G89 b e).run = some (cond b e 0)
 unfold G89
 cases b <;> rfl
theorem q2T {c : Int} : H124 c = some (decide (0 <= c) && decide (c < 8)) := by
 show (G124 c).run = _
 unfold G124
 by_cases h : 0 <= c
 ·simp only [h, decide_true]; rfl
 ·simp only [h, decide_false]; rfl
theorem q2S {c : Int} : H140 c = some (!(decide (0 <= c) && decide (c < 8))) := by
 show (G140 c).run = _
 unfold G140
 rw [q2T, qD, kT]
def qIW : List Int -> Int
 | [] => 0
 | x :: l => if x ≠ 0 then x else qIW l
theorem qG2 (l : List Int) : ∀ (m k : Nat), k + m = l.length -> scan (fun i => if l.getD i 0 ≠ 0 then some (l.getD i 0) else none) m k = if qIW (l.drop k) = 0 then none else some (qIW (l.drop k))
 | 0, k, h => by
   rw [List.drop_eq_nil_of_le (by omega)]
   rfl
 | m + 1, k, h => by
   have hk : k < l.length := by omega
   rw [List.drop_eq_getElem_cons hk]
   unfold scan
   have e : l.getD k 0 = l[k] := by simp [List.getD, hk]
   rw [e]
   by_cases hx : l[k] = 0
   ·simp only [hx, ne_eq, not_true, if_false]
    rw [qG2 l m (k + 1) (by omega)]
    simp [qIW, hx]
   ·simp only [ne_eq, hx, not_false_iff, if_true]
    simp [qIW, hx]
theorem q5O {l : List Int} (hl : l.length < 2 ^ 62) : H37 l = some (qIW l) := by
 show (G37 l).run = _
 unfold G37
 refine jR l.length (fun i => if l.getD i 0 ≠ 0 then some (l.getD i 0) else none) (fun x => Sum.inr (Sum.inl x)) (Sum.inl (l.length : Int)) (fun k hk => ?_) ?_ ?_
 ·obtain ⟨x, hx, mx⟩ := xH hk
  have hk3 : (k : Int) < (l.length : Int) := by omega
  have hd : l.getD k 0 = x := by simp [List.getD, hx]
  simp only [rC hk3, qP, jF hk, qD, hx, hd, wH (show k < 2 ^ 62 by omega)]
  by_cases h0 : x = 0
  ·simp [h0, qF]; rfl
  ·have : (x != 0) = true := by simpa using h0
   rw [this, qP]
   simp [h0]; rfl
 ·simp only [pV (Int.lt_irrefl _), qF]
  rfl
 ·rw [qG2 l l.length 0 (by omega), List.drop_zero]
  by_cases h : qIW l = 0
  ·simp only [h, if_true, kZ, kT]
  ·simp only [h, if_false, qID, kZ, kT]
theorem q4C {l : List Int} (hl : l.length < 2 ^ 62) : H87 l = some (qIW l) := (show H87 l = H37 l from rfl).trans (q5O hl)
def qA3 (r : List Int) : Bool := r.all fun c => decide (0 <= c) && decide (c < 8)
theorem qLM (r : List Int) {ρ : Type} (v : Nat -> ρ) : (scan (fun i => if (decide (0 <= r.getD i 0) && decide (r.getD i 0 < 8)) = true then none else some (v i)) r.length 0).isSome = !qA3 r := by
 cases hs : scan (fun i => if (decide (0 <= r.getD i 0) && decide (r.getD i 0 < 8)) = true then none else some (v i)) r.length 0 with
 | none =>
   have : qA3 r = true := by
    unfold qA3
    rw [List.all_eq_true]
    intro c hc
    obtain ⟨i, hi, rfl⟩ := List.getElem_of_mem hc
    have := wS.1 hs i (Nat.zero_le _) (by omega)
    have e : r.getD i 0 = r[i] := by simp [List.getD, hi]
    rw [e] at this
    by_cases h : (decide (0 <= r[i]) && decide (r[i] < 8)) = true
    ·exact h
    ·rw [if_neg h] at this; cases this
   rw [this]; rfl
 | some x =>
   obtain ⟨i, _, hi, hf, _⟩ := vM hs
   have hi : i < r.length := by omega
   have e : r.getD i 0 = r[i] := by simp [List.getD, hi]
   have : qA3 r = false := by
    cases hc : qA3 r with
    | false => rfl
    | true =>
      unfold qA3 at hc
      have := List.all_eq_true.1 hc r[i] (List.getElem_mem hi)
      rw [e, if_pos this] at hf
      cases hf
   rw [this]; rfl
theorem q41 {r : List Int} (hr : r.length < 2 ^ 62) : H90 r = some (!qA3 r) := by
 show (G90 r).run = _
 unfold G90
 refine jR r.length (fun i => if (decide (0 <= r.getD i 0) && decide (r.getD i 0 < 8)) = true then none else some (i : Int)) (fun x => Sum.inr (Sum.inl x)) (Sum.inl (r.length : Int)) (fun k hk => ?_) ?_ ?_
 ·obtain ⟨x, hx, mx⟩ := xH hk
  have hk3 : (k : Int) < (r.length : Int) := by omega
  have hd : r.getD k 0 = x := by simp [List.getD, hx]
  simp only [rC hk3, qP, jF hk, qD, hx, hd, q2S, wH (show k < 2 ^ 62 by omega)]
  cases (decide (0 <= x) && decide (x < 8)) <;> rfl
 ·simp only [pV (Int.lt_irrefl _), qF]
  rfl
 ·have := qLM r (fun i => (i : Int))
  cases hs : scan (fun i => if (decide (0 <= r.getD i 0) && decide (r.getD i 0 < 8)) = true then none else some (i : Int)) r.length 0 with
  | none =>
    rw [hs] at this
    have hc : qA3 r = true := by simpa using this.symm
    simp only [kZ, kT, hc]
    rfl
  | some v =>
    rw [hs] at this
    have hc : qA3 r = false := by simpa using this.symm
    obtain ⟨i, _, hi, hf, _⟩ := vM hs
    have hv : 0 <= v := by
     by_cases h : (decide (0 <= r.getD i 0) && decide (r.getD i 0 < 8)) = true
     ·rw [if_pos h] at hf; cases hf
     ·rw [if_neg h] at hf; cases hf; omega
    simp only [qID, kZ, kT, hc, hv, decide_true]
    rfl
def gG (n : Nat) (r : List Int) : Int := if r.length = 0 then 12 else if 24 < r.length then 5 else if r.length ≠ n then 2 else if qA3 r then 0 else 3
def q0R (p : List (List Int)) (n : Nat) : Option Int := scan (fun i => if gG n (p.getD i []) ≠ 0 then some (gG n (p.getD i [])) else none) p.length 0
def chk (p : List (List Int)) : Int := if p.length = 0 then 12 else if 24 < p.length then 5 else (q0R p (p.getD 0 []).length).getD 0
theorem getD_at {α : Type} {l : List α} {k : Nat} {x d : α} (h : l[k]? = some x) : l.getD k d = x := by simp [List.getD, h]
theorem qW2 {p : List (List Int)} (hp : p.length <= 24 -> ∀ r ∈ p, r.length < 2 ^ 62) : H23 p = some (chk p) := by
 show (G23 p).run = _
 unfold G23 chk
 rw [q2J, qD, q2J, qD, q4C (by simp), qD]
 by_cases h0 : p.length = 0
 ·have e0 : ((p.length : Int) == 0) = true := by simp [h0]
  simp only [e0, cond_true, qIW, h0, if_true]
  rfl
 ·have e0 : ((p.length : Int) == 0) = false := by simpa using h0
  by_cases h1 : 24 < p.length
  ·have e1 : decide ((24 : Int) < (p.length : Int)) = true := decide_eq_true (by omega)
   simp only [e0, e1, cond_true, cond_false, qIW, h0, h1, if_true, if_false]
   rfl
  ·have e1 : decide ((24 : Int) < (p.length : Int)) = false := decide_eq_false (by omega)
   have hp := hp (by omega)
   simp only [e0, e1, cond_true, cond_false, qIW, h0, h1, if_true, if_false]
   have hz : ((if (0 : Int) ≠ 0 then (0 : Int) else if (0 : Int) ≠ 0 then 0 else 0) != 0) = false := rfl
   rw [hz, qF]
   obtain ⟨r0, hr0, m0⟩ := xH (show 0 < p.length by omega)
   refine jR p.length (fun i => if gG (p.getD 0 []).length (p.getD i []) ≠ 0 then some (gG (p.getD 0 []).length (p.getD i [])) else none) (fun x => Sum.inr (Sum.inl x)) (Sum.inl (p.length : Int)) (fun k hk => ?_) ?_ ?_
   ·obtain ⟨x, hx, mx⟩ := xH hk
    have hk3 : (k : Int) < (p.length : Int) := by omega
    simp only [rC hk3, qP, jF hk, qD, hx, q2J, rF (show 0 < p.length by omega), hr0, q41 (hp x mx), q4C (show [_, _, _, _].length < 2 ^ 62 by simp), getD_at hx, getD_at hr0, wH (show k < 2 ^ 62 by omega)]
    by_cases a1 : x.length = 0
    ·have b1 : ((x.length : Int) == 0) = true := by simp [a1]
     have hrow : gG r0.length x = 12 := by simp [gG, a1]
     simp only [b1, hrow, cond_true, qIW]
     rfl
    ·have b1 : ((x.length : Int) == 0) = false := by simpa using a1
     by_cases a2 : 24 < x.length
     ·have b2 : decide ((24 : Int) < (x.length : Int)) = true := decide_eq_true (by omega)
      have hrow : gG r0.length x = 5 := by simp [gG, a1, a2]
      simp only [b1, b2, hrow, cond_true, cond_false, qIW]
      rfl
     ·have b2 : decide ((24 : Int) < (x.length : Int)) = false := decide_eq_false (by omega)
      by_cases a3 : x.length = r0.length
      ·have b3 : ((x.length : Int) != (r0.length : Int)) = false := by simp [a3]
       cases hc : qA3 x
       ·have hrow : gG r0.length x = 3 := by rw [<- a3]; simp [gG, a1, a2, hc]
        simp only [b1, b2, b3, hrow, cond_true, cond_false, qIW, Bool.not_false, Bool.not_true]
        rfl
       ·have hrow : gG r0.length x = 0 := by rw [<- a3]; simp [gG, a1, a2, hc]
        simp only [b1, b2, b3, hrow, cond_true, cond_false, qIW, Bool.not_false, Bool.not_true]
        rfl
      ·have b3 : ((x.length : Int) != (r0.length : Int)) = true := by simp; omega
       have hrow : gG r0.length x = 2 := by simp [gG, a1, a2, a3]
       simp only [b1, b2, b3, hrow, cond_true, cond_false, qIW]
       rfl
   ·simp only [pV (Int.lt_irrefl _), qF]
    rfl
   ·unfold q0R
    cases scan (fun i => if gG (p.getD 0 []).length (p.getD i []) ≠ 0 then some (gG (p.getD 0 []).length (p.getD i [])) else none) p.length 0 with
    | none => simp only [kZ, kT, Option.getD]
    | some r => simp only [qID, kZ, kT, Option.getD]
theorem q37 {p : List (List Int)} : H24 p = some (chk p) := by
 show (G24 p).run = _
 unfold G24 chk
 by_cases h0 : p.length = 0
 ·have e0 : ((p.length : Int) == 0) = true := by simp [h0]
  rw [e0, qP, kT, if_pos h0]
 ·have e0 : ((p.length : Int) == 0) = false := by simpa using h0
  by_cases h1 : 24 < p.length
  ·have e1 : decide ((24 : Int) < (p.length : Int)) = true := decide_eq_true (by omega)
   rw [e0, qF, e1, qP, kT, if_neg h0, if_pos h1]
  ·have e1 : decide ((24 : Int) < (p.length : Int)) = false := decide_eq_false (by omega)
   rw [e0, qF, e1, qF, if_neg h0, if_neg h1]
   obtain ⟨r0, hr0, m0⟩ := xH (show 0 < p.length by omega)
   refine jR p.length (fun i => if gG (p.getD 0 []).length (p.getD i []) ≠ 0 then some (gG (p.getD 0 []).length (p.getD i [])) else none) (fun x => Sum.inr (Sum.inl x)) (Sum.inl (p.length : Int)) (fun k hk => ?_) ?_ ?_
   ·obtain ⟨x, hx, mx⟩ := xH hk
    have hk3 : (k : Int) < (p.length : Int) := by omega
    simp only [rC hk3, qP, jF hk, qD, hx, rF (show 0 < p.length by omega), hr0, getD_at hx, getD_at hr0, wH (show k < 2 ^ 62 by omega)]
    by_cases a1 : x.length = 0
    ·have b1 : ((x.length : Int) == 0) = true := by simp [a1]
     have hrow : gG r0.length x = 12 := by simp [gG, a1]
     simp only [b1, hrow, qP]
     rfl
    ·have b1 : ((x.length : Int) == 0) = false := by simpa using a1
     by_cases a2 : 24 < x.length
     ·have b2 : decide ((24 : Int) < (x.length : Int)) = true := decide_eq_true (by omega)
      have hrow : gG r0.length x = 5 := by simp [gG, a1, a2]
      simp only [b1, b2, hrow, qP, qF]
      rfl
     ·have b2 : decide ((24 : Int) < (x.length : Int)) = false := decide_eq_false (by omega)
      by_cases a3 : x.length = r0.length
      ·have b3 : ((x.length : Int) != (r0.length : Int)) = false := by simp [a3]
       simp only [b1, b2, b3, qP, qF]
       refine jR (R := Int ⊕ (Int ⊕ Int ⊕ Nat × Int)) x.length (fun i => if (decide (0 <= x.getD i 0) && decide (x.getD i 0 < 8)) = true then none else some (3 : Int)) (fun v => Sum.inr (Sum.inl v)) (Sum.inl (x.length : Int)) (fun j hj => ?_) ?_ ?_
       ·obtain ⟨c, hc, mc⟩ := xH hj
        have hj3 : (j : Int) < (x.length : Int) := by omega
        simp only [rC hj3, qP, jF hj, qD, hc, q5N, getD_at hc, wH (show j < 2 ^ 62 by omega)]
        have e : (decide (c < 0) || decide (7 < c)) = !(decide (0 <= c) && decide (c < 8)) := by
         by_cases q1 : c < 0
         ·have : ¬ 0 <= c := by omega
          simp [q1, this]
         ·have q2 : 0 <= c := by omega
          by_cases q3 : 7 < c
          ·have : ¬ c < 8 := by omega
           simp [q1, q2, q3, this]
          ·have : c < 8 := by omega
           simp [q1, q2, q3, this]
        rw [e]
        cases (decide (0 <= c) && decide (c < 8)) <;> rfl
       ·simp only [pV (Int.lt_irrefl _), qF]
        rfl
       ·have := qLM x (fun _ => (3 : Int))
        cases hs : scan (fun i => if (decide (0 <= x.getD i 0) && decide (x.getD i 0 < 8)) = true then none else some (3 : Int)) x.length 0 with
        | none =>
          rw [hs] at this
          have hc : qA3 x = true := by simpa using this.symm
          have hrow : gG r0.length x = 0 := by rw [<- a3]; simp [gG, a1, a2, hc]
          simp only [kZ, hrow]
          rfl
        | some v =>
          rw [hs] at this
          have hc : qA3 x = false := by simpa using this.symm
          obtain ⟨i, _, hi, hf, _⟩ := vM hs
          have hv : v = 3 := by
           by_cases h : (decide (0 <= x.getD i 0) && decide (x.getD i 0 < 8)) = true
           ·rw [if_pos h] at hf; cases hf
           ·rw [if_neg h] at hf; cases hf; rfl
          subst hv
          have hrow : gG r0.length x = 3 := by rw [<- a3]; simp [gG, a1, a2, hc]
          simp only [qID, kZ, hrow]
          rfl
      ·have b3 : ((x.length : Int) != (r0.length : Int)) = true := by simp; omega
       have hrow : gG r0.length x = 2 := by simp [gG, a1, a2, a3]
       simp only [b1, b2, b3, hrow, qP, qF]
       rfl
   ·simp only [pV (Int.lt_irrefl _), qF]
    rfl
   ·unfold q0R
    cases scan (fun i => if gG (p.getD 0 []).length (p.getD i []) ≠ 0 then some (gG (p.getD 0 []).length (p.getD i [])) else none) p.length 0 with
    | none => simp only [kZ, kT, Option.getD]
    | some r => simp only [qID, kZ, kT, Option.getD]
end Go.Proofs.YtpdlblofcdcikaaGreatDoor
