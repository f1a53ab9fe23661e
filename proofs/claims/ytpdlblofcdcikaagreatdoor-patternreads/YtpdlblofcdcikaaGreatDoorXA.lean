/- What the functions compute, plainly, and the law. Conditions: none. -/
import Derived.Test.YtpdlblofcdcikaaGreatDoorPX1
import Derived.Test.YtpdlblofcdcikaaGreatDoorPLK
set_option linter.all false
namespace Go.Proofs.YtpdlblofcdcikaaGreatDoor
open Go.Idl Go.Sv
theorem qE4 {n : Int} (h0 : -9223372036854775808 <= n) (h1 : n <= 9223372036854775807) : IntKind.i64.wrap n = n := by
 by_cases hn : 0 <= n
 ·have e : n % (18446744073709551616 : Int) = n := Int.emod_eq_of_lt hn (by omega);have hw : IntKind.i64.wrap n = if (true && decide (n % (18446744073709551616 : Int) ≥ 9223372036854775808)) = true then n % (18446744073709551616 : Int) - 18446744073709551616 else n % (18446744073709551616 : Int) := rfl;rw [hw];simp only [e];rw [if_neg (by simp; omega)]
 ·have e : n % (18446744073709551616 : Int) = n + 18446744073709551616 := by omega
  have hw : IntKind.i64.wrap n = if (true && decide (n % (18446744073709551616 : Int) ≥ 9223372036854775808)) = true then n % (18446744073709551616 : Int) - 18446744073709551616 else n % (18446744073709551616 : Int) := rfl;rw [hw];simp only [e];rw [if_pos (by simp; omega)];omega
noncomputable def GE {α : Type} (H : α × α -> Option Bool) (x0 x1 : List α) : Tree Bool :=
 Tree.ite ((x0.length : Int) != (x1.length : Int)) (Tree.ret false)
  (Tree.bind
    (zX
      (fun (s2 : Int) =>
        Tree.ite (decide (s2 < (x0.length : Int)))
         (Tree.bind (idx x0.length s2) fun (x3 : Nat) =>
           Tree.bind x0[x3]? fun (x4 : α) =>
            Tree.bind (idx x1.length s2) fun (x5 : Nat) =>
             Tree.bind x1[x5]? fun (x6 : α) =>
              Tree.bind (H (x4, x6)) fun (x7 : Bool) =>
               Tree.ite (!x7) (Tree.ret (Sum.inr (Sum.inr (Sum.inl false))))
                (Tree.ret (Sum.inl (IntKind.i64.wrap (s2 + 1)))))
         (Tree.ret (Sum.inr (Sum.inl s2))))
      0)
    fun (x2 : Int ⊕ Bool ⊕ Nat × Int) =>
    Tree.sum x2 (fun (s3 : Int) => Tree.ret true) fun (s3 : Bool ⊕ Nat × Int) =>
     Tree.sum s3 (fun (s4 : Bool) => Tree.ret s4) fun (s4 : Nat × Int) => Tree.fail)
theorem q4A {α : Type} [DecidableEq α] {H : α × α -> Option Bool} {a b : List α} (ha : a.length < 2 ^ 62) (hH : ∀ x ∈ a, ∀ y ∈ b, H (x, y) = some (decide (x = y))) : (GE H a b).run = some (decide (a = b)) := by
 unfold GE;by_cases hl : a.length = b.length
 ·have h0 : ((a.length : Int) != (b.length : Int)) = false := by simp [hl]
  rw [h0, qM];refine vB a.length (fun i => if a[i]? = b[i]? then none else some false) (fun x => Sum.inr (Sum.inl x)) (Sum.inl (a.length : Int)) (fun k hk => ?_) ?_ ?_
  ·obtain ⟨x, hx, mx⟩ := j3 hk;obtain ⟨y, hy, my⟩ := j3 (show k < b.length by omega);have hk2 : k < b.length := by omega
   have hk3 : (k : Int) < (a.length : Int) := by omega
   simp only [qNS hk3, qU, vS hk, qP, hx, vS hk2, hy, hH x mx y my, rA (show k < 2 ^ 62 by omega)];by_cases hxy : x = y
   ·simp [hxy, qM]; rfl
   ·simp [hxy, qU]; rfl
  ·simp only [qNW (Int.lt_irrefl _), qM];rfl
  ·cases hs : scan (fun i => if a[i]? = b[i]? then none else some false) a.length 0 with
   | none =>
     have hab : a = b := List.ext_getElem? fun i => by
      by_cases hi : i < a.length
      ·have := gP.1 hs i (Nat.zero_le _) (by omega);by_cases h : a[i]? = b[i]?
       ·exact h
       ·rw [if_neg h] at this; cases this
      ·rw [List.getElem?_eq_none (by omega), List.getElem?_eq_none (by omega)]
     simp only [w9, xN, hab, decide_true]
   | some r =>
     obtain ⟨i, _, _, hi, _⟩ := vH hs
     have hne : a ≠ b := fun e => by
      rw [e] at hi;simp at hi
     have hr : r = false := by
      by_cases h : a[i]? = b[i]?
      ·rw [if_pos h] at hi; cases hi
      ·rw [if_neg h] at hi; cases hi; rfl
     subst hr;simp only [qFQ, w9, xN, hne, decide_false]
 ·have h0 : ((a.length : Int) != (b.length : Int)) = true := by simp; omega
  rw [h0, qU, xN];have : a ≠ b := fun e => hl (by rw [e])
  simp [this]
theorem q9N {a b : List Int} (ha : a.length < 2 ^ 62) : H52 (a, b) = some (decide (a = b)) := by
 have : H52 (a, b) = (GE (fun p : Int × Int => some (p.1 == p.2)) a b).run := rfl;rw [this]
 exact q4A ha fun x _ y _ => by
  by_cases h : x = y <;> simp [h]
theorem q8T {a b : List (List Int)} (ha : a.length < 2 ^ 62) (hr : ∀ r ∈ a, r.length < 2 ^ 62) : H53 (a, b) = some (decide (a = b)) :=
 (show H53 (a, b) = (GE H52 a b).run from rfl).trans (q4A ha fun x hx y _ => q9N (hr x hx))
theorem q93 (x : Int × Int × Int) : H38 x = some (decide (x.1 < x.2.1) || decide (x.2.2 < x.1)) := by
 obtain ⟨n, a, b⟩ := x;show (G38 n a b).run = some (decide (n < a) || decide (b < n));unfold G38;by_cases h : n < a
 ·simp only [h, decide_true]; rfl
 ·simp only [h, decide_false]; rfl
theorem q6C (x : Bool × Int) : H89 x = some (cond x.1 x.2 0) := by
 obtain ⟨b, e⟩ := x;show (G89 b e).run = some (cond b e 0);unfold G89;cases b <;> rfl
theorem q1D {c : Int} : H124 c = some (decide (0 <= c) && decide (c < 8)) := by
 show (G124 c).run = _;unfold G124;by_cases h : 0 <= c
 ·simp only [h, decide_true]; rfl
 ·simp only [h, decide_false]; rfl
theorem q7A {c : Int} : H140 c = some (!(decide (0 <= c) && decide (c < 8))) := by
 show (G140 c).run = _;unfold G140;rw [q1D, qP, xN]
def qJX : List Int -> Int
 | [] => 0
 | x :: l => if x ≠ 0 then x else qJX l
theorem qI0 (l : List Int) : ∀ (m k : Nat), k + m = l.length -> scan (fun i => if l.getD i 0 ≠ 0 then some (l.getD i 0) else none) m k = if qJX (l.drop k) = 0 then none else some (qJX (l.drop k))
 | 0, k, h => by
   rw [List.drop_eq_nil_of_le (by omega)];rfl
 | m + 1, k, h => by
   have hk : k < l.length := by omega
   rw [List.drop_eq_getElem_cons hk];unfold scan;have e : l.getD k 0 = l[k] := by simp [List.getD, hk]
   rw [e];by_cases hx : l[k] = 0
   ·simp only [hx, ne_eq, not_true, if_false];rw [qI0 l m (k + 1) (by omega)];simp [qJX, hx]
   ·simp only [ne_eq, hx, not_false_iff, if_true];simp [qJX, hx]
theorem q6S {l : List Int} (hl : l.length < 2 ^ 62) : H87 l = some (qJX l) := by
 show (G87 l).run = _;unfold G87;refine vB l.length (fun i => if l.getD i 0 ≠ 0 then some (l.getD i 0) else none) (fun x => Sum.inr (Sum.inl x)) (Sum.inl (l.length : Int)) (fun k hk => ?_) ?_ ?_
 ·obtain ⟨x, hx, mx⟩ := j3 hk;have hk3 : (k : Int) < (l.length : Int) := by omega
  have hd : l.getD k 0 = x := by simp [List.getD, hx]
  simp only [qNS hk3, qU, vS hk, qP, hx, hd, rA (show k < 2 ^ 62 by omega)];by_cases h0 : x = 0
  ·simp [h0, qM]; rfl
  ·have : (x != 0) = true := by simpa using h0
   rw [this, qU];simp [h0]; rfl
 ·simp only [qNW (Int.lt_irrefl _), qM];rfl
 ·rw [qI0 l l.length 0 (by omega), List.drop_zero];by_cases h : qJX l = 0
  ·simp only [h, if_true, w9, xN]
  ·simp only [h, if_false, qFQ, w9, xN]
def tC (r : List Int) : Bool := r.all fun c => decide (0 <= c) && decide (c < 8)
theorem qPE (r : List Int) {ρ : Type} (v : Nat -> ρ) : (scan (fun i => if (decide (0 <= r.getD i 0) && decide (r.getD i 0 < 8)) = true then none else some (v i)) r.length 0).isSome = !tC r := by
 cases hs : scan (fun i => if (decide (0 <= r.getD i 0) && decide (r.getD i 0 < 8)) = true then none else some (v i)) r.length 0 with
 | none =>
   have : tC r = true := by
    unfold tC;rw [List.all_eq_true];intro c hc;obtain ⟨i, hi, rfl⟩ := List.getElem_of_mem hc;have := gP.1 hs i (Nat.zero_le _) (by omega);have e : r.getD i 0 = r[i] := by simp [List.getD, hi]
    rw [e] at this;by_cases h : (decide (0 <= r[i]) && decide (r[i] < 8)) = true
    ·exact h
    ·rw [if_neg h] at this; cases this
   rw [this]; rfl
 | some x =>
   obtain ⟨i, _, hi, hf, _⟩ := vH hs;have hi : i < r.length := by omega
   have e : r.getD i 0 = r[i] := by simp [List.getD, hi]
   have : tC r = false := by
    cases hc : tC r with
    | false => rfl
    | true =>
      unfold tC at hc;have := List.all_eq_true.1 hc r[i] (List.getElem_mem hi);rw [e, if_pos this] at hf;cases hf
   rw [this]; rfl
theorem q9X {r : List Int} (hr : r.length < 2 ^ 62) : H90 r = some (!tC r) := by
 show (G90 r).run = _;unfold G90;refine vB r.length (fun i => if (decide (0 <= r.getD i 0) && decide (r.getD i 0 < 8)) = true then none else some (i : Int)) (fun x => Sum.inr (Sum.inl x)) (Sum.inl (r.length : Int)) (fun k hk => ?_) ?_ ?_
 ·obtain ⟨x, hx, mx⟩ := j3 hk;have hk3 : (k : Int) < (r.length : Int) := by omega
  have hd : r.getD k 0 = x := by simp [List.getD, hx]
  simp only [qNS hk3, qU, vS hk, qP, hx, hd, q7A, rA (show k < 2 ^ 62 by omega)];cases (decide (0 <= x) && decide (x < 8)) <;> rfl
 ·simp only [qNW (Int.lt_irrefl _), qM];rfl
 ·have := qPE r (fun i => (i : Int))
  cases hs : scan (fun i => if (decide (0 <= r.getD i 0) && decide (r.getD i 0 < 8)) = true then none else some (i : Int)) r.length 0 with
  | none =>
    rw [hs] at this;have hc : tC r = true := by simpa using this.symm
    simp only [w9, xN, hc];rfl
  | some v =>
    rw [hs] at this;have hc : tC r = false := by simpa using this.symm
    obtain ⟨i, _, hi, hf, _⟩ := vH hs
    have hv : 0 <= v := by
     by_cases h : (decide (0 <= r.getD i 0) && decide (r.getD i 0 < 8)) = true
     ·rw [if_pos h] at hf; cases hf
     ·rw [if_neg h] at hf; cases hf; omega
    simp only [qFQ, w9, xN, hc, hv, decide_true];rfl
theorem getD_at {α : Type} {l : List α} {k : Nat} {x d : α} (h : l[k]? = some x) : l.getD k d = x := by simp [List.getD, h]
theorem qZY (b : Bool) : zK b false = !b := by cases b <;> rfl
theorem qSH (b : Bool) : zK b true = b := by cases b <;> rfl
theorem rd {l : List Int} {k : Nat} (h : k < l.length) : l[k]? = some (l.getD k 0) := by
 rw [List.getElem?_eq_getElem h];simp [List.getD, h]
theorem q7T {α : Type} {a : List α} {x : α} (h : a.length < 1048576) : (a.length + [x].length).ble 1048576 = true := Nat.ble_eq_true_of_le (by simp; omega)
theorem q81 {n : Nat} (h : n <= 65536) : mkN (n : Int) = some n := by
 unfold mkN;rw [if_pos ⟨by omega, by omega⟩, Int.toNat_natCast]
def gL (n : Nat) (r : List Int) : Int := if r.length = 0 then 12 else if 24 < r.length then 5 else if r.length ≠ n then 2 else if tC r then 0 else 3
def q50 (p : List (List Int)) (n : Nat) : Option Int := scan (fun i => if gL n (p.getD i []) ≠ 0 then some (gL n (p.getD i [])) else none) p.length 0
def chk (p : List (List Int)) : Int := if p.length = 0 then 12 else if 24 < p.length then 5 else (q50 p (p.getD 0 []).length).getD 0
theorem q8K {p : List (List Int)} (hp : p.length <= 24 -> ∀ r ∈ p, r.length < 2 ^ 62) : H23 p = some (chk p) := by
 show (G23 p).run = _;unfold G23 chk;rw [q6C, qP, q6C, qP, q6S (by simp), qP];by_cases h0 : p.length = 0
 ·have e0 : ((p.length : Int) == 0) = true := by simp [h0]
  simp only [e0, cond_true, qJX, h0, if_true];rfl
 ·have e0 : ((p.length : Int) == 0) = false := by simpa using h0
  by_cases h1 : 24 < p.length
  ·have e1 : decide ((24 : Int) < (p.length : Int)) = true := decide_eq_true (by omega);simp only [e0, e1, cond_true, cond_false, qJX, h0, h1, if_true, if_false];rfl
  ·have e1 : decide ((24 : Int) < (p.length : Int)) = false := decide_eq_false (by omega);have hp := hp (by omega);simp only [e0, e1, cond_true, cond_false, qJX, h0, h1, if_true, if_false];have hz : ((if (0 : Int) ≠ 0 then (0 : Int) else if (0 : Int) ≠ 0 then 0 else 0) != 0) = false := rfl;rw [hz, qM];obtain ⟨r0, hr0, m0⟩ := j3 (show 0 < p.length by omega);refine vB p.length (fun i => if gL (p.getD 0 []).length (p.getD i []) ≠ 0 then some (gL (p.getD 0 []).length (p.getD i [])) else none) (fun x => Sum.inr (Sum.inl x)) (Sum.inl (p.length : Int)) (fun k hk => ?_) ?_ ?_
   ·obtain ⟨x, hx, mx⟩ := j3 hk;have hk3 : (k : Int) < (p.length : Int) := by omega
    simp only [qNS hk3, qU, vS hk, qP, hx, q6C, q35 (show 0 < p.length by omega), hr0, q9X (hp x mx), q6S (show [_, _, _, _].length < 2 ^ 62 by simp), getD_at hx, getD_at hr0, rA (show k < 2 ^ 62 by omega)];by_cases a1 : x.length = 0
    ·have b1 : ((x.length : Int) == 0) = true := by simp [a1]
     have hrow : gL r0.length x = 12 := by simp [gL, a1]
     simp only [b1, hrow, cond_true, qJX];rfl
    ·have b1 : ((x.length : Int) == 0) = false := by simpa using a1
     by_cases a2 : 24 < x.length
     ·have b2 : decide ((24 : Int) < (x.length : Int)) = true := decide_eq_true (by omega);have hrow : gL r0.length x = 5 := by simp [gL, a1, a2]
      simp only [b1, b2, hrow, cond_true, cond_false, qJX];rfl
     ·have b2 : decide ((24 : Int) < (x.length : Int)) = false := decide_eq_false (by omega);by_cases a3 : x.length = r0.length
      ·have b3 : ((x.length : Int) != (r0.length : Int)) = false := by simp [a3]
       cases hc : tC x
       ·have hrow : gL r0.length x = 3 := by rw [<- a3]; simp [gL, a1, a2, hc]
        simp only [b1, b2, b3, hrow, cond_true, cond_false, qJX, Bool.not_false, Bool.not_true];rfl
       ·have hrow : gL r0.length x = 0 := by rw [<- a3]; simp [gL, a1, a2, hc]
        simp only [b1, b2, b3, hrow, cond_true, cond_false, qJX, Bool.not_false, Bool.not_true];rfl
      ·have b3 : ((x.length : Int) != (r0.length : Int)) = true := by simp; omega
       have hrow : gL r0.length x = 2 := by simp [gL, a1, a2, a3]
       simp only [b1, b2, b3, hrow, cond_true, cond_false, qJX];rfl
   ·simp only [qNW (Int.lt_irrefl _), qM];rfl
   ·unfold q50
    cases scan (fun i => if gL (p.getD 0 []).length (p.getD i []) ≠ 0 then some (gL (p.getD 0 []).length (p.getD i [])) else none) p.length 0 with
    | none => simp only [w9, xN, Option.getD]
    | some r => simp only [qFQ, w9, xN, Option.getD]
theorem q9Y {p : List (List Int)} : H24 p = some (chk p) := by
 show (G24 p).run = _;unfold G24 chk;by_cases h0 : p.length = 0
 ·have e0 : ((p.length : Int) == 0) = true := by simp [h0]
  rw [e0, qU, xN, if_pos h0]
 ·have e0 : ((p.length : Int) == 0) = false := by simpa using h0
  by_cases h1 : 24 < p.length
  ·have e1 : decide ((24 : Int) < (p.length : Int)) = true := decide_eq_true (by omega);rw [e0, qM, e1, qU, xN, if_neg h0, if_pos h1]
  ·have e1 : decide ((24 : Int) < (p.length : Int)) = false := decide_eq_false (by omega);rw [e0, qM, e1, qM, if_neg h0, if_neg h1];obtain ⟨r0, hr0, m0⟩ := j3 (show 0 < p.length by omega);refine vB p.length (fun i => if gL (p.getD 0 []).length (p.getD i []) ≠ 0 then some (gL (p.getD 0 []).length (p.getD i [])) else none) (fun x => Sum.inr (Sum.inl x)) (Sum.inl (p.length : Int)) (fun k hk => ?_) ?_ ?_
   ·obtain ⟨x, hx, mx⟩ := j3 hk;have hk3 : (k : Int) < (p.length : Int) := by omega
    simp only [qNS hk3, qU, vS hk, qP, hx, q35 (show 0 < p.length by omega), hr0, getD_at hx, getD_at hr0, rA (show k < 2 ^ 62 by omega)];by_cases a1 : x.length = 0
    ·have b1 : ((x.length : Int) == 0) = true := by simp [a1]
     have hrow : gL r0.length x = 12 := by simp [gL, a1]
     simp only [b1, hrow, qU];rfl
    ·have b1 : ((x.length : Int) == 0) = false := by simpa using a1
     by_cases a2 : 24 < x.length
     ·have b2 : decide ((24 : Int) < (x.length : Int)) = true := decide_eq_true (by omega);have hrow : gL r0.length x = 5 := by simp [gL, a1, a2]
      simp only [b1, b2, hrow, qU, qM];rfl
     ·have b2 : decide ((24 : Int) < (x.length : Int)) = false := decide_eq_false (by omega);by_cases a3 : x.length = r0.length
      ·have b3 : ((x.length : Int) != (r0.length : Int)) = false := by simp [a3]
       simp only [b1, b2, b3, qU, qM];refine vB (R := Int ⊕ (Int ⊕ Int ⊕ Nat × Int)) x.length (fun i => if (decide (0 <= x.getD i 0) && decide (x.getD i 0 < 8)) = true then none else some (3 : Int)) (fun v => Sum.inr (Sum.inl v)) (Sum.inl (x.length : Int)) (fun j hj => ?_) ?_ ?_
       ·obtain ⟨c, hc, mc⟩ := j3 hj;have hj3 : (j : Int) < (x.length : Int) := by omega
        simp only [qNS hj3, qU, vS hj, qP, hc, q93, getD_at hc, rA (show j < 2 ^ 62 by omega)]
        have e : (decide (c < 0) || decide (7 < c)) = !(decide (0 <= c) && decide (c < 8)) := by
         by_cases q1 : c < 0
         ·have : ¬ 0 <= c := by omega
          simp [q1, this]
         ·have q2 : 0 <= c := by omega
          by_cases q3 : 7 < c
          ·have : ¬ c < 8 := by omega
           simp [q1, q2, q3, this]
          ·have : c < 8 := by omega
           simp [q1, q2, q3, this]
        rw [e];cases (decide (0 <= c) && decide (c < 8)) <;> rfl
       ·simp only [qNW (Int.lt_irrefl _), qM];rfl
       ·have := qPE x (fun _ => (3 : Int))
        cases hs : scan (fun i => if (decide (0 <= x.getD i 0) && decide (x.getD i 0 < 8)) = true then none else some (3 : Int)) x.length 0 with
        | none =>
          rw [hs] at this;have hc : tC x = true := by simpa using this.symm
          have hrow : gL r0.length x = 0 := by rw [<- a3]; simp [gL, a1, a2, hc]
          simp only [w9, hrow];rfl
        | some v =>
          rw [hs] at this;have hc : tC x = false := by simpa using this.symm
          obtain ⟨i, _, hi, hf, _⟩ := vH hs
          have hv : v = 3 := by
           by_cases h : (decide (0 <= x.getD i 0) && decide (x.getD i 0 < 8)) = true
           ·rw [if_pos h] at hf; cases hf
           ·rw [if_neg h] at hf; cases hf; rfl
          subst hv;have hrow : gL r0.length x = 3 := by rw [<- a3]; simp [gL, a1, a2, hc]
          simp only [qFQ, w9, hrow];rfl
      ·have b3 : ((x.length : Int) != (r0.length : Int)) = true := by simp; omega
       have hrow : gL r0.length x = 2 := by simp [gL, a1, a2, a3]
       simp only [b1, b2, b3, hrow, qU, qM];rfl
   ·simp only [qNW (Int.lt_irrefl _), qM];rfl
   ·unfold q50
    cases scan (fun i => if gL (p.getD 0 []).length (p.getD i []) ≠ 0 then some (gL (p.getD 0 []).length (p.getD i [])) else none) p.length 0 with
    | none => simp only [w9, xN, Option.getD]
    | some r => simp only [qFQ, w9, xN, Option.getD]
theorem q9F {p : List (List Int)} : ∃ b, H17 p = some b ∧ (b = true -> p.length <= 27 ∧ ∀ i r, i < 25 -> p[i]? = some r -> r.length <= 27) := by
 refine ⟨match scan (fun i => if 27 < (p.getD i []).length then some false else none) (min p.length 25) 0 with
  | some r => r
  | none => decide (p.length <= 27), ?_, ?_⟩
 ·show (G17 p).run = _;unfold G17;refine vB (min p.length 25) (fun i => if 27 < (p.getD i []).length then some false else none) (fun x => Sum.inr (Sum.inl x)) (Sum.inl ((min p.length 25 : Nat) : Int)) (fun k hk => ?_) ?_ ?_
  ·have hk1 : k < p.length := by omega
   obtain ⟨x, hx, mx⟩ := j3 hk1;have hk3 : (k : Int) < (p.length : Int) := by omega
   have hk4 : decide ((k : Int) <= 24) = true := decide_eq_true (by omega);have hw : zK true true = true := rfl;simp only [qNS hk3, hw, hk4, qU, vS hk1, qP, hx, getD_at hx, rA (show k < 2 ^ 62 by omega)];by_cases h : 27 < x.length
   ·have : decide ((27 : Int) < (x.length : Int)) = true := decide_eq_true (by omega);rw [this, qU, if_pos h];rfl
   ·have : decide ((27 : Int) < (x.length : Int)) = false := decide_eq_false (by omega);rw [this, qM, if_neg h];rfl
  ·by_cases h : p.length <= 25
   ·have e : min p.length 25 = p.length := by omega
    rw [e];have hw : zK false true = false := rfl;simp only [qNW (Int.lt_irrefl _), hw, qM];rfl
   ·have e : min p.length 25 = 25 := by omega
    rw [e];have h1 : decide (((25 : Nat) : Int) < (p.length : Int)) = true := decide_eq_true (by omega);have h2 : decide (((25 : Nat) : Int) <= 24) = false := rfl;have hw : zK true true = true := rfl;simp only [h1, h2, hw, qU, qM];rfl
  ·cases hs : scan (fun i => if 27 < (p.getD i []).length then some false else none) (min p.length 25) 0 with
   | none =>
     simp only [w9, xN]
     congr 1
     by_cases h : p.length <= 27
     ·rw [decide_eq_true h, decide_eq_true (show (p.length : Int) <= 27 by omega)]
     ·rw [decide_eq_false h, decide_eq_false (show ¬ (p.length : Int) <= 27 by omega)]
   | some r => simp only [qFQ, w9, xN]
 ·intro hb
  cases hs : scan (fun i => if 27 < (p.getD i []).length then some false else none) (min p.length 25) 0 with
  | none =>
    rw [hs] at hb;have hb : p.length <= 27 := by simpa using hb
    refine ⟨hb, fun i r hi hr => ?_⟩;have hlt := (List.getElem?_eq_some_iff.1 hr).1;have := gP.1 hs i (Nat.zero_le _) (by omega);rw [getD_at hr] at this;by_cases h : 27 < r.length
    ·rw [if_pos h] at this; cases this
    ·omega
  | some r =>
    rw [hs] at hb;obtain ⟨i, _, _, hf, _⟩ := vH hs;by_cases h : 27 < (p.getD i []).length
    ·rw [if_pos h] at hf; cases hf; cases hb
    ·rw [if_neg h] at hf; cases hf
theorem q9Z {p : List (List Int)} : ∃ b, H25 p = some b ∧ (b = true -> p.length <= 27 ∧ ∀ i r, i < 25 -> p[i]? = some r -> r.length <= 27) := by
 obtain ⟨b1, h1, h2⟩ := q9F (p := p)
 have key : ∃ b, (G25 p).run = some b ∧ (b = true -> b1 = true) := by
  unfold G25;rw [h1, qP]
  cases b1 with
  | false => exact ⟨false, rfl, fun h => by cases h⟩
  | true =>
    have hl := (h2 rfl).1;have hnt : (!true) = false := rfl;rw [hnt, qM]
    have loop : ∃ b, (Tree.bind (zX (fun (s2 : Int) =>
     Tree.ite (decide (s2 < (p.length : Int)))
      (Tree.bind (idx (List.length p) s2) fun (x3 : Nat) =>
        Tree.bind p[x3]? fun (x4 : List Int) =>
         Tree.ite (zK (decide (10 < (x4.length : Int))) true)
          (Tree.ite (decide ((x4.length : Int) <= 24)) (Tree.ret (Sum.inr (Sum.inr (Sum.inl false))))
            (Tree.ret (Sum.inl (IntKind.i64.wrap (s2 + 1)))))
          (Tree.ret (Sum.inl (IntKind.i64.wrap (s2 + 1)))))
      (Tree.ret (Sum.inr (Sum.inl s2)))) 0) fun (x2 : Int ⊕ Bool ⊕ Nat × Int) =>
     Tree.sum x2 (fun (s3 : Int) => Tree.ret true) fun (s3 : Bool ⊕ Nat × Int) =>
      Tree.sum s3 (fun (s4 : Bool) => Tree.ret s4) fun (s4 : Nat × Int) => Tree.fail).run = some b := by
     refine ⟨match scan (fun i => if 10 < (p.getD i []).length ∧ (p.getD i []).length <= 24 then some false else none) p.length 0 with
      | some r => r
      | none => true, vB p.length (fun i => if 10 < (p.getD i []).length ∧ (p.getD i []).length <= 24 then some false else none) (fun x => Sum.inr (Sum.inl x)) (Sum.inl (p.length : Int)) (fun k hk => ?_) ?_ ?_⟩
     ·obtain ⟨x, hx, mx⟩ := j3 hk;have hk3 : (k : Int) < (p.length : Int) := by omega
      simp only [qNS hk3, qU, vS hk, qP, hx, getD_at hx, rA (show k < 2 ^ 62 by omega)];by_cases q1 : 10 < x.length
      ·have e1 : decide ((10 : Int) < (x.length : Int)) = true := decide_eq_true (by omega);have hw : zK true true = true := rfl;rw [e1, hw, qU];by_cases q2 : x.length <= 24
       ·rw [decide_eq_true (show (x.length : Int) <= 24 by omega), qU, if_pos ⟨q1, q2⟩]; rfl
       ·rw [decide_eq_false (show ¬ (x.length : Int) <= 24 by omega), qM, if_neg (fun h => q2 h.2)]; rfl
      ·have e1 : decide ((10 : Int) < (x.length : Int)) = false := decide_eq_false (by omega);have hw : zK false true = false := rfl;rw [e1, hw, qM, if_neg (fun h => q1 h.1)]; rfl
     ·simp only [qNW (Int.lt_irrefl _), qM];rfl
     ·cases scan (fun i => if 10 < (p.getD i []).length ∧ (p.getD i []).length <= 24 then some false else none) p.length 0 with
      | none => simp only [w9, xN]
      | some r => simp only [qFQ, w9, xN]
    obtain ⟨b, hb⟩ := loop;by_cases q1 : 10 < p.length
    ·have e1 : decide ((10 : Int) < (p.length : Int)) = true := decide_eq_true (by omega);have hw : zK true true = true := rfl;rw [e1, hw, qU];by_cases q2 : p.length <= 24
     ·rw [decide_eq_true (show (p.length : Int) <= 24 by omega), qU];exact ⟨false, rfl, fun _ => rfl⟩
     ·rw [decide_eq_false (show ¬ (p.length : Int) <= 24 by omega), qM];exact ⟨b, hb, fun _ => rfl⟩
    ·have e1 : decide ((10 : Int) < (p.length : Int)) = false := decide_eq_false (by omega);have hw : zK false true = false := rfl;rw [e1, hw, qM];exact ⟨b, hb, fun _ => rfl⟩
 obtain ⟨b, hb, hb2⟩ := key;exact ⟨b, hb, fun h => h2 (hb2 h)⟩
structure Pic (p : List (List Int)) (h n : Nat) : Prop where
 len : p.length = h
 row : ∀ r ∈ p, r.length = n
 h1 : 1 <= h
 h2 : h <= 24
 n1 : 1 <= n
 n2 : n <= 24
theorem qT3 {p : List (List Int)} (h : chk p = 0) : ∃ n, Pic p p.length n := by
 unfold chk at h;by_cases h0 : p.length = 0
 ·rw [if_pos h0] at h; cases h
 ·rw [if_neg h0] at h;by_cases h1 : 24 < p.length
  ·rw [if_pos h1] at h; cases h
  ·rw [if_neg h1] at h;obtain ⟨r0, hr0, m0⟩ := j3 (show 0 < p.length by omega)
   have hall : ∀ r ∈ p, gL r0.length r = 0 := by
    intro r hr;obtain ⟨i, hi, rfl⟩ := List.getElem_of_mem hr;unfold q50 at h
    cases hs : scan (fun i => if gL (p.getD 0 []).length (p.getD i []) ≠ 0 then some (gL (p.getD 0 []).length (p.getD i [])) else none) p.length 0 with
    | none =>
      have := gP.1 hs i (Nat.zero_le _) (by omega);rw [getD_at hr0, getD_at (List.getElem?_eq_getElem hi)] at this;by_cases hq : gL r0.length p[i] ≠ 0
      ·rw [if_pos hq] at this; cases this
      ·simpa using hq
    | some v =>
      rw [hs] at h;have h : v = 0 := h;obtain ⟨j, _, _, hf, _⟩ := vH hs;by_cases hq : gL (p.getD 0 []).length (p.getD j []) ≠ 0
      ·rw [if_pos hq] at hf;cases hf;exact absurd h hq
      ·rw [if_neg hq] at hf; cases hf
   have hrow : ∀ r ∈ p, r.length = r0.length ∧ 1 <= r.length ∧ r.length <= 24 := by
    intro r hr;have := hall r hr;unfold gL at this;by_cases a1 : r.length = 0
    ·rw [if_pos a1] at this; cases this
    ·rw [if_neg a1] at this;by_cases a2 : 24 < r.length
     ·rw [if_pos a2] at this; cases this
     ·rw [if_neg a2] at this;by_cases a3 : r.length ≠ r0.length
      ·rw [if_pos a3] at this; cases this
      ·exact ⟨by simpa using a3, by omega, by omega⟩
   have := hrow r0 m0;exact ⟨r0.length, rfl, fun r hr => (hrow r hr).1, by omega, by omega, this.2.1, this.2.2⟩
def bl (s : ByteArray) : List UInt8 := s.data.toList
theorem jC (s : ByteArray) : (bl s).length = s.size := rfl
theorem q43 {s t : ByteArray} (h : bl s = bl t) : s = t := ByteArray.ext (Array.toList_inj.1 h)
theorem qDG (s : ByteArray) (a b : Nat) : bl (s.extract a b) = ((bl s).drop a).take (b - a) := by
 unfold bl; rw [ByteArray.data_extract, Array.toList_extract]
theorem qZV {s : ByteArray} {i : Nat} (h : i < s.size) : s.get! i = (bl s)[i]'h := by
 have h' : i < s.data.size := h;show s.data[i]! = s.data.toList[i];rw [getElem!_pos s.data i h'];rfl
theorem q09 (s : ByteArray) : ∀ (m i : Nat) (r : List UInt8), s.size - i = m -> ByteArray.toList.loop s i r = r.reverse ++ (bl s).drop i := by
 intro m
 induction m with
 | zero =>
   intro i r h;rw [ByteArray.toList.loop, if_neg (by omega), List.drop_of_length_le (by rw [jC]; omega), List.append_nil]
 | succ m ih =>
   intro i r h;have hi : i < s.size := by omega
   rw [ByteArray.toList.loop, if_pos hi, ih (i + 1) _ (by omega), qZV hi];rw [List.drop_eq_getElem_cons (show i < (bl s).length from hi)];simp only [List.reverse_cons, List.append_assoc, List.singleton_append];rfl
theorem qKM (s : ByteArray) : s.toList = bl s := by
 show ByteArray.toList.loop s 0 [] = _;rw [q09 s _ 0 [] rfl]; rfl
theorem qOG (s t : ByteArray) : (s.toList == t.toList) = decide (bl s = bl t) := by
 rw [qKM, qKM];by_cases h : bl s = bl t <;> simp [h]
theorem qPL (s : ByteArray) (i : Nat) : nU s (i : Int) = ((bl s)[i]?).map fun b => (b.toNat : Int) := by
 unfold nU;rw [if_pos (by omega), Int.toNat_natCast];by_cases h : i < s.size
 ·rw [getElem?_pos s i h, List.getElem?_eq_getElem (show i < (bl s).length from h)];rfl
 ·rw [getElem?_neg s i h, List.getElem?_eq_none (by rw [jC]; omega)]
theorem foldl_loop {β : Type} (f : β -> UInt8 -> β) (s : ByteArray) : ∀ (m j : Nat) (b : β), j + m = s.size -> ByteArray.foldlM.loop (m := _root_.Id) (fun x y => pure (f x y)) s s.size (Nat.le_refl _) m j b = ((bl s).drop j).foldl f b
 | 0, j, b, h => by
   rw [List.drop_of_length_le (by rw [jC]; omega)];unfold ByteArray.foldlM.loop;split <;> rfl
 | m + 1, j, b, h => by
   have hj : j < s.size := by omega
   unfold ByteArray.foldlM.loop;rw [dif_pos hj, List.drop_eq_getElem_cons (show j < (bl s).length from hj), List.foldl_cons];exact foldl_loop f s m (j + 1) _ (by omega)
theorem q5W (s : ByteArray) (c : Int) : q3W s c = (((bl s).countP fun x => x == c.toNat.toUInt8 : Nat) : Int) := by
 have h1 : q3W s c = (bl s).foldl (fun (n : Int) x => if x == c.toNat.toUInt8 then n + 1 else n) ((0 : Nat) : Int) := by
  unfold q3W ByteArray.foldl ByteArray.foldlM;rw [dif_pos (Nat.le_refl _)];exact foldl_loop _ s s.size 0 _ (by omega)
 rw [h1]
 have key : ∀ (l : List UInt8) (n : Nat), l.foldl (fun (n : Int) x => if x == c.toNat.toUInt8 then n + 1 else n) (n : Int) = ((n + l.countP (fun x => x == c.toNat.toUInt8) : Nat) : Int) := by
  intro l
  induction l with
  | nil => intro n; simp
  | cons x l ih =>
    intro n;rw [List.foldl_cons, List.countP_cons];by_cases hx : (x == c.toNat.toUInt8) = true
    ·rw [if_pos hx, if_pos hx];have := ih (n + 1);rw [show ((n + 1 : Nat) : Int) = (n : Int) + 1 by omega] at this;rw [this];omega
    ·rw [if_neg hx, if_neg hx, ih n]; rfl
 rw [key _ 0, Nat.zero_add]
abbrev nl : UInt8 := 10
theorem q0Q (s : ByteArray) : (∃ m : Nat, qRB s 10 = (m : Int) ∧ m < s.size ∧ (bl s)[m]? = some nl ∧ ∀ j, j < m -> (bl s)[j]? ≠ some nl) ∨ (qRB s 10 = -1 ∧ nl ∉ bl s) := by
 have hc : (10 : Int).toNat.toUInt8 = nl := rfl
 have hg : ∀ i, i < s.size -> s[i]! = (bl s).getD i 0 := fun i hi => by
  rw [getElem!_pos s i hi];have : (bl s)[i]? = some s[i] := List.getElem?_eq_getElem (show i < (bl s).length from hi);simp [List.getD, this]
 unfold qRB;rw [hc]
 cases hf : (List.range s.size).find? (fun i => s[i]! == nl) with
 | some m =>
   refine .inl ⟨m, rfl, ?_⟩;have h1 := List.find?_some hf;have hm := List.mem_range.1 (List.mem_of_find?_eq_some hf);have h2 := List.find?_range_eq_some.1 hf;refine ⟨hm, ?_, fun j hj hb => ?_⟩
   ·have h1 : (s[m]! == nl) = true := h1;rw [hg m hm, beq_iff_eq] at h1;rw [<- h1];rw [List.getElem?_eq_getElem (show m < (bl s).length from hm)];simp [List.getD, List.getElem?_eq_getElem (show m < (bl s).length from hm)]
   ·have := h2.2.2 j hj;rw [hg j (by omega)] at this;simp [List.getD, hb] at this
 | none =>
   refine .inr ⟨rfl, fun hm => ?_⟩;obtain ⟨i, hi, e⟩ := List.getElem_of_mem hm;have := List.find?_eq_none.1 hf i (List.mem_range.2 hi);rw [hg i hi] at this;simp [List.getD, List.getElem?_eq_getElem hi, e] at this
def spl : List UInt8 -> List (List UInt8)
 | [] => [[]]
 | b :: l => if b = nl then [] :: spl l else match spl l with
   | x :: ls => (b :: x) :: ls
   | [] => [[b]]
theorem qI3 (b : UInt8) (l : List UInt8) : spl (b :: l) = if b = nl then [] :: spl l else match spl l with
 | x :: ls => (b :: x) :: ls
 | [] => [[b]] := rfl
theorem tY (l : List UInt8) : ∃ x ls, spl l = x :: ls := by
 cases l with
 | nil => exact ⟨_, _, rfl⟩
 | cons b l =>
   unfold spl;split
   ·exact ⟨_, _, rfl⟩
   ·split <;> exact ⟨_, _, rfl⟩
theorem qUS : ∀ {l : List UInt8}, nl ∉ l -> spl l = [l]
 | [], _ => rfl
 | b :: l, h => by
   rw [List.mem_cons, not_or] at h;rw [qI3];rw [if_neg (fun e => h.1 e.symm), qUS h.2]
theorem qV0 : ∀ {l : List UInt8} {m : Nat}, l[m]? = some nl -> (∀ j, j < m -> l[j]? ≠ some nl) -> spl l = l.take m :: spl (l.drop (m + 1))
 | [], m, h, _ => by simp at h
 | b :: l, 0, h, _ => by
   simp at h;rw [qI3, if_pos h]; rfl
 | b :: l, m + 1, h, hj => by
   have hb : b ≠ nl := fun e => hj 0 (by omega) (by simp [e])
   rw [qI3]
   rw [if_neg hb, qV0 (l := l) (m := m) (by simpa using h) fun j hjm => by
    have := hj (j + 1) (by omega)
    simpa using this]
   rfl
theorem qGH : ∀ l : List UInt8, (spl l).length = l.countP (fun x => x == nl) + 1
 | [] => rfl
 | b :: l => by
   have ih := qGH l;rw [qI3];rw [List.countP_cons];by_cases hb : b = nl
   ·rw [if_pos hb, if_pos (by simp [hb]), List.length_cons, ih]
   ·rw [if_neg hb, if_neg (by simpa using hb)];obtain ⟨x, ls, e⟩ := tY l;rw [e] at ih ⊢;exact ih
def joinL (ls : List (List UInt8)) : List UInt8 := ls.flatMap fun x => x ++ [nl]
theorem qO4 : ∀ l : List UInt8, joinL (spl l) = l ++ [nl]
 | [] => rfl
 | b :: l => by
   have ih := qO4 l;rw [qI3];by_cases hb : b = nl
   ·rw [if_pos hb];show [] ++ [nl] ++ joinL (spl l) = _;rw [ih, hb]; rfl
   ·rw [if_neg hb];obtain ⟨x, ls, e⟩ := tY l;rw [e] at ih ⊢;show (b :: x) ++ [nl] ++ joinL ls = _;have ih : x ++ [nl] ++ joinL ls = l ++ [nl] := ih;rw [List.cons_append, List.cons_append, ih]; rfl
theorem qUO : ∀ {x : List UInt8} (l : List UInt8), nl ∉ x -> spl (x ++ nl :: l) = x :: spl l
 | [], l, _ => by
   show (if nl = nl then [] :: spl l else _) = _;rw [if_pos rfl]
 | b :: x, l, h => by
   rw [List.mem_cons, not_or] at h
   show (if b = nl then _ else match spl (x ++ nl :: l) with
    | x :: ls => (b :: x) :: ls
    | [] => [[b]]) = _
   rw [if_neg (fun e => h.1 e.symm), qUO l h.2]
theorem qNT : ∀ {ls : List (List UInt8)}, ls ≠ [] -> (∀ x ∈ ls, nl ∉ x) -> ∃ b, joinL ls = b ++ [nl] ∧ spl b = ls
 | [], h, _ => absurd rfl h
 | [x], _, hx => ⟨x, by simp [joinL], qUS (hx x (by simp))⟩
 | x :: y :: ls, _, hx => by
   obtain ⟨b, h1, h2⟩ := qNT (ls := y :: ls) (by simp) fun z hz => hx z (List.mem_cons_of_mem _ hz)
   refine ⟨x ++ nl :: b, ?_, ?_⟩
   ·show x ++ [nl] ++ joinL (y :: ls) = _;rw [h1]; simp
   ·rw [qUO b (hx x (by simp)), h2]
def gd (b : UInt8) : Bool := decide (97 <= b.toNat) && decide (b.toNat <= 104)
def cl (b : UInt8) : Int := (b.toNat : Int) - 97
def rw1 (l : List UInt8) : Option (List Int) := if l.all gd = true then some (l.map cl) else none
inductive PRes where
 | ok (p : List (List Int))
 | er (n : Nat)
def lr : List (List UInt8) -> List (List Int) -> PRes
 | [], p => .ok p
 | l :: ls, p => match rw1 l with
   | some r => lr ls (p ++ [r])
   | none => .er (p.length + 1)
inductive BRes where
 | ok (p : List (List Int)) (r : List Int)
 | er (n : Nat)
def up : PRes -> BRes
 | .ok p => .ok p []
 | .er n => .er n
theorem q7I (l : List UInt8) (ls : List (List UInt8)) (p : List (List Int)) : lr (l :: ls) p = match rw1 l with
 | some r => lr ls (p ++ [r])
 | none => .er (p.length + 1) := rfl
theorem qQ9 {b : UInt8} {l : List UInt8} (h : gd b = true) : rw1 (b :: l) = (rw1 l).map (cl b :: ·) := by
 unfold rw1;rw [List.all_cons, h, Bool.true_and];by_cases hl : l.all gd = true
 ·rw [if_pos hl, if_pos hl]; rfl
 ·rw [if_neg hl, if_neg hl]; rfl
theorem qQN {b : UInt8} {l : List UInt8} (h : gd b = false) : rw1 (b :: l) = none := by
 unfold rw1;rw [List.all_cons, h, Bool.false_and, if_neg (by simp)]
theorem q5T : bl (⟨#[10]⟩ : ByteArray) = [nl] := rfl
theorem rR (s : ByteArray) : bl s = [] ∨ ∃ i a, bl s = i ++ [a] := by
 rcases List.eq_nil_or_concat (bl s) with h | ⟨i, a, h⟩
 ·exact .inl h
 ·exact .inr ⟨i, a, by simpa using h⟩
theorem q8C {n : Nat} (h1 : 1 <= n) (h : n < 2 ^ 62) : IntKind.i64.wrap ((n : Int) - ((1 : Nat) : Int)) = ((n - 1 : Nat) : Int) := by
 rw [qE4 (by omega) (by omega)]; omega
theorem q4H {s : ByteArray} (h : bl s = []) : H155 (s, ⟨#[10]⟩) = some false := by
 show (G155 s ⟨#[10]⟩).run = _;unfold G155;have hs : s.size = 0 := by rw [<- jC, h]; rfl
 have h1 : ByteArray.size ⟨#[10]⟩ = 1 := rfl;rw [qSH, hs, h1, decide_eq_false (by omega), qM, xN]
theorem q5Z {s : ByteArray} {i : List UInt8} {a : UInt8} (h : bl s = i ++ [a]) (hl : s.size < 2 ^ 62) : H155 (s, ⟨#[10]⟩) = some (decide (a = nl)) := by
 show (G155 s ⟨#[10]⟩).run = _;unfold G155;have hs : s.size = i.length + 1 := by rw [<- jC, h]; simp
 have h1 : ByteArray.size ⟨#[10]⟩ = 1 := rfl;have hb : qCZ s.size ((s.size - 1 : Nat) : Int) = some (s.size - 1) := rJ (by omega);rw [qSH, h1, decide_eq_true (by omega), qU, q8C (by omega) hl, hb, qP, xN, qOG, qDG, q5T, h, hs];have e1 : (i ++ [a]).drop (i.length + 1 - 1) = [a] := by simp
 rw [e1]
 have e2 : [a].take (i.length + 1 - (i.length + 1 - 1)) = [a] := by
  have : i.length + 1 - (i.length + 1 - 1) = 1 := by omega
  rw [this]; rfl
 rw [e2]
 congr 1
 by_cases q : a = nl <;> simp [q]
theorem q4I {s : ByteArray} (h : bl s = []) : H121 (s, ⟨#[10]⟩) = some false := by
 show (G121 s ⟨#[10]⟩).run = _;unfold G121;rw [q4H h, qP, xN]
theorem q6N {s : ByteArray} {i : List UInt8} {a : UInt8} (h : bl s = i ++ [a]) (hl : s.size < 2 ^ 62) : H121 (s, ⟨#[10]⟩) = some (decide (a = nl)) := by
 show (G121 s ⟨#[10]⟩).run = _;unfold G121;rw [q5Z h hl, qP, xN]
theorem q6Q {s : ByteArray} {i : List UInt8} (h : bl s = i ++ [nl]) (hl : s.size < 2 ^ 62) : ∃ t, H123 (s, ⟨#[10]⟩) = some t ∧ bl t = i := by
 refine ⟨s.extract 0 (s.size - 1), ?_, ?_⟩
 ·show (G123 s ⟨#[10]⟩).run = _;unfold G123
  have h2 : H157 (s, ⟨#[10]⟩) = some (s.extract 0 (s.size - 1)) := by
   show (G157 s ⟨#[10]⟩).run = _;unfold G157;have hs : s.size = i.length + 1 := by rw [<- jC, h]; simp
   have h1 : ByteArray.size ⟨#[10]⟩ = 1 := rfl;have hb : qCZ s.size ((s.size - 1 : Nat) : Int) = some (s.size - 1) := rJ (by omega);rw [q5Z h hl, qP, decide_eq_true rfl, qU, h1, q8C (by omega) hl, hb, qP, xN]
  rw [h2, qP, xN]
 ·have hs : s.size = i.length + 1 := by rw [<- jC, h]; simp
  rw [qDG, h, hs, List.drop_zero];simp
theorem q6K (s : ByteArray) : H185 (s, ⟨#[10]⟩) = some (qRB s 10) := by
 show (G185 s ⟨#[10]⟩).run = _;unfold G185
 have h : H205 (s, ⟨#[10]⟩) = some (qRB s 10) := by
  show (G205 s ⟨#[10]⟩).run = _;unfold G205;have h1 : ByteArray.size ⟨#[10]⟩ = 1 := rfl;have h2 : nU ⟨#[10]⟩ 0 = some 10 := (qPL ⟨#[10]⟩ 0).trans rfl;rw [h1, qZY, show (!(((1 : Nat) : Int) == 0)) = true from rfl, qU, qOG];by_cases q : bl ⟨#[10]⟩ = bl s
  ·rw [decide_eq_true q, qU, xN]
   rcases q0Q s with ⟨m, e1, e2, _, _⟩ | ⟨_, e2⟩
   ·have : s.size = 1 := by rw [<- jC, <- q]; rfl
    have : m = 0 := by omega
    rw [e1, this]; rfl
   ·rw [<- q, q5T] at e2;exact absurd (List.mem_singleton_self nl) e2
  ·rw [decide_eq_false q, qM, show (((1 : Nat) : Int) == 1) = true from rfl, qU, h2, qP, xN]
 rw [h, qP, xN]
theorem q72 (s : ByteArray) : H184 (s, ⟨#[10]⟩) = some (((bl s).countP fun x => x == nl : Nat) : Int) := by
 show (G184 s ⟨#[10]⟩).run = _;unfold G184;have h1 : ByteArray.size ⟨#[10]⟩ = 1 := rfl;have h2 : nU ⟨#[10]⟩ 0 = some 10 := (qPL ⟨#[10]⟩ 0).trans rfl;rw [h1, show (((1 : Nat) : Int) == 0) = false from rfl, qM, show (((1 : Nat) : Int) == 1) = true from rfl, qU, h2, qP, xN, q5W];rfl
theorem q0R (l : List UInt8) : l.countP (fun x => x == nl) <= l.length := List.countP_le_length
theorem q61 {s : ByteArray} (hs : s.size <= 60000) : ∃ ls, H122 (s, ⟨#[10]⟩) = some ls ∧ ls.map bl = spl (bl s) := by
 let c := (bl s).countP fun x => x == nl
 have hc : c <= s.size := q0R (bl s);have h1 : ByteArray.size ⟨#[10]⟩ = 1 := rfl;have e1 : IntKind.i64.wrap ((c : Int) + 1) = ((c + 1 : Nat) : Int) := by rw [qE4 (by omega) (by omega)]; omega
 have e2 : IntKind.i64.wrap ((s.size : Int) + 1) = ((s.size + 1 : Nat) : Int) := by rw [qE4 (by omega) (by omega)]; omega
 have e3 : (bif decide (((s.size + 1 : Nat) : Int) < ((c + 1 : Nat) : Int)) then ((s.size + 1 : Nat) : Int) else ((c + 1 : Nat) : Int)) = ((c + 1 : Nat) : Int) := by
  rw [decide_eq_false (by omega)]; rfl
 have e4 : IntKind.i64.wrap (((c + 1 : Nat) : Int) - 1) = (c : Int) := by rw [qE4 (by omega) (by omega)]; omega
 have main : ∃ ls, H156 (s, ⟨#[10]⟩, 0, -1) = some ls ∧ ls.map bl = spl (bl s) := by
  have q1 : ((-1 : Int) == 0) = false := rfl;have q2 : ((⟨#[10]⟩ : ByteArray).toList == (⟨#[]⟩ : ByteArray).toList) = false := by rw [qOG]; rfl
  have q3 : decide ((-1 : Int) < 0) = true := rfl
  have key : ∀ (v : Option (List ByteArray)), (∀ t d : _, (bl t).countP (fun x => x == nl) = 0 -> d.length = c -> spl (bl s) = d.map bl ++ spl (bl t) -> some (d ++ [t]) = v) -> H156 (s, ⟨#[10]⟩, 0, -1) = v := by
   intro v hv;show (G156 s ⟨#[10]⟩ 0 (-1)).run = v;unfold G156;rw [q1, qM, q2, qM, q3, qU, q72, qP];show (Tree.bind (mkN (bif decide (IntKind.i64.wrap ((s.size : Int) + 1) < IntKind.i64.wrap ((c : Int) + 1)) then IntKind.i64.wrap ((s.size : Int) + 1) else IntKind.i64.wrap ((c : Int) + 1))) _).run = v;rw [e1, e2, e3, q81 (show c + 1 <= 65536 by omega), qP]
   refine qBM c (fun (k : Nat) (x : ByteArray × List ByteArray) => (x.1, (k : Int), x.2)) (fun k x => ∃ d : List ByteArray, d.length = k ∧ x.2 = d ++ List.replicate (c + 1 - k) (⟨#[]⟩ : ByteArray) ∧ spl (bl s) = d.map bl ++ spl (bl x.1) ∧ (bl x.1).countP (fun x => x == nl) = c - k ∧ x.1.size <= 60000)
    (fun k x => (x.1.extract ((qRB x.1 10).toNat + 1) x.1.size, x.2.set k (x.1.extract 0 (qRB x.1 10).toNat))) (fun x => Sum.inl (x.1, (c : Int), x.2)) (s, List.replicate (c + 1) (⟨#[]⟩ : ByteArray)) rfl ⟨[], rfl, by simp, rfl, by simp [c], hs⟩ (fun k x hk hI => ?_) (fun x hI => ?_) (fun hI => ?_)
   ·obtain ⟨t, a⟩ := x;obtain ⟨d, d1, d2, d3, d4, d5⟩ := hI;simp only at d2 d3 d4 d5
    rcases q0Q t with ⟨m, i1, i2, i3, i4⟩ | ⟨i1, i2⟩
    ·have hk3 : (k : Int) < (c : Int) := by omega
     have a1 : ¬ ((m : Int) < 0) := by omega
     have a2 : IntKind.i64.wrap ((m : Int) + 0) = (m : Int) := by rw [qE4 (by omega) (by omega)]; omega
     have a3 : IntKind.i64.wrap ((m : Int) + ((1 : Nat) : Int)) = ((m + 1 : Nat) : Int) := by rw [qE4 (by omega) (by omega)]; omega
     have al : a.length = c + 1 := by rw [d2]; simp; omega
     have ak : k < a.length := by omega
     obtain ⟨y, hy, _⟩ := j3 ak;have r185 : H185 (t, ⟨#[10]⟩) = some (m : Int) := (q6K t).trans (by rw [i1]);have b1 : qCZ t.size (m : Int) = some m := rJ (by omega);have b2 : qCZ t.size ((m + 1 : Nat) : Int) = some (m + 1) := rJ (by omega);refine ⟨?_, d ++ [t.extract 0 m], by simp [d1], ?_, ?_, ?_, ?_⟩
     ·simp only [h1, e4, qNS hk3, qU, r185, qP, i1, qNW a1, qM, a2, b1, vS ak, hy, a3, b2, rA (show k < 2 ^ 62 by omega), Int.toNat_natCast];rfl
     ·simp only [i1, Int.toNat_natCast];rw [d2, List.set_append_right _ _ (by omega), d1, Nat.sub_self];have : c + 1 - k = (c + 1 - (k + 1)) + 1 := by omega
      rw [this, List.replicate_succ, List.set_cons_zero];simp
     ·simp only [i1, Int.toNat_natCast];rw [d3, qV0 i3 i4, List.map_append, List.append_assoc]
      congr 1
      show _ = [bl (t.extract 0 m)] ++ _;rw [qDG, qDG, List.drop_zero, Nat.sub_zero];have : ((bl t).drop (m + 1)).take (t.size - (m + 1)) = (bl t).drop (m + 1) := List.take_of_length_le (by rw [List.length_drop, jC]; omega);rw [this]; rfl
     ·simp only [i1, Int.toNat_natCast];have hh := qGH (bl t);rw [qV0 i3 i4, List.length_cons, qGH, d4] at hh;rw [qDG];have : ((bl t).drop (m + 1)).take (t.size - (m + 1)) = (bl t).drop (m + 1) := List.take_of_length_le (by rw [List.length_drop, jC]; omega);rw [this];omega
     ·simp only [i1, Int.toNat_natCast, ByteArray.size_extract]; omega
    ·exfalso;have : (bl t).countP (fun x => x == nl) = 0 := List.countP_eq_zero.2 fun x hx hq => i2 (by rw [beq_iff_eq] at hq; rw [<- hq]; exact hx)
     omega
   ·simp only [e4, qNW (Int.lt_irrefl _), qM];rfl
   ·obtain ⟨d, d1, d2, d3, d4, d5⟩ := hI;generalize qIK _ c 0 _ = x at d2 d3 d4 d5;obtain ⟨t, a⟩ := x;simp only at d2 d3 d4 d5;have al : a.length = c + 1 := by rw [d2]; simp; omega
    have ak : c < a.length := by omega
    obtain ⟨y, hy, _⟩ := j3 ak;have b1 : qCZ a.length ((c + 1 : Nat) : Int) = some (c + 1) := rJ (by omega)
    have hfin : List.take (c + 1) (List.drop 0 (a.set c t)) = d ++ [t] := by
     rw [List.drop_zero, d2, List.set_append_right _ _ (by omega), d1, Nat.sub_self];have : c + 1 - c = 1 := by omega
     rw [this, List.replicate_succ, List.set_cons_zero, List.replicate_zero];exact List.take_of_length_le (by simp; omega)
    simp only [w9, vS ak, qP, hy, e1, b1, xN, hfin];exact hv t d (by omega) d1 d3
  have hmk : ∀ d : List ByteArray, (d.map bl).map (fun l => (⟨l.toArray⟩ : ByteArray)) = d := fun d => by
   rw [List.map_map]
   conv => rhs; rw [<- List.map_id d]
   exact List.map_congr_left fun x _ => q43 rfl
  refine ⟨(spl (bl s)).map fun l => ⟨l.toArray⟩, key _ fun t d h0 hd hsp => ?_, ?_⟩
  ·rw [hsp, qUS (fun hm => List.countP_eq_zero.1 h0 nl hm (by simp)), List.map_append, hmk];rfl
  ·rw [List.map_map]
   conv => rhs; rw [<- List.map_id (spl (bl s))]
   exact List.map_congr_left fun x _ => rfl
 obtain ⟨ls, m1, m2⟩ := main;refine ⟨ls, ?_, m2⟩;show (G122 s ⟨#[10]⟩).run = _;unfold G122;rw [m1, qP, xN]
end Go.Proofs.YtpdlblofcdcikaaGreatDoor
namespace Go.Proofs.YtpdlblofcdcikaaGreatDoor
open Go Go.Idl Go.Sv
theorem q5I {s : ByteArray} {k : Nat} {b : UInt8} (h : (bl s)[k]? = some b) : (s.get! k).toNat = b.toNat := by
 obtain ⟨h1, h2⟩ := List.getElem?_eq_some_iff.1 h;rw [qZV (show k < s.size from h1)];exact congrArg UInt8.toNat h2
theorem qTF {b : UInt8} : gd b = true ↔ 97 <= b.toNat ∧ b.toNat <= 104 := by
 unfold gd; simp
theorem q2V {s : ByteArray} {k : Nat} {b : UInt8} (h : (bl s)[k]? = some b) (hb : b.toNat < 128) : Utf8.decode s k = (b.toNat, 1) := by
 unfold Utf8.decode;simp only [Nat.add_zero, q5I h];rw [if_pos hb]
theorem qNM {c : Nat} (h : Utf8.valid (c : Int) = true) : c <= 1114111 := by
 unfold Utf8.valid at h;simp at h;omega
theorem qWW {s : ByteArray} {k : Nat} {b : UInt8} (h : (bl s)[k]? = some b) (hb : 128 <= b.toNat) : 128 <= (Utf8.decode s k).1 ∧ (Utf8.decode s k).1 <= 1114111 := by
 unfold Utf8.decode;simp only [Nat.add_zero, q5I h];rw [if_neg (by omega)];split
 ·split
  ·have h1 : b.toNat % 32 < 32 := Nat.mod_lt _ (by omega);have h2 : (s.get! (k + 1)).toNat % 64 < 64 := Nat.mod_lt _ (by omega);constructor <;> omega
  ·exact ⟨by decide, by decide⟩
 ·split
  ·split
   ·rename_i hc;simp only [Bool.and_eq_true, decide_eq_true_eq] at hc;have := qNM hc.2;constructor <;> omega
   ·exact ⟨by decide, by decide⟩
  ·split
   ·split
    ·rename_i hc;simp only [Bool.and_eq_true, decide_eq_true_eq] at hc;have := qNM hc.2;constructor <;> omega
    ·exact ⟨by decide, by decide⟩
   ·exact ⟨by decide, by decide⟩
theorem wrap32 {n : Int} (h0 : -2147483648 <= n) (h1 : n <= 2147483647) : IntKind.i32.wrap n = n := by
 by_cases hn : 0 <= n
 ·have e : n % (4294967296 : Int) = n := Int.emod_eq_of_lt hn (by omega);have hw : IntKind.i32.wrap n = if (true && decide (n % (4294967296 : Int) ≥ 2147483648)) = true then n % (4294967296 : Int) - 4294967296 else n % (4294967296 : Int) := rfl;rw [hw];simp only [e];rw [if_neg (by simp; omega)]
 ·have e : n % (4294967296 : Int) = n + 4294967296 := by omega
  have hw : IntKind.i32.wrap n = if (true && decide (n % (4294967296 : Int) ≥ 2147483648)) = true then n % (4294967296 : Int) - 4294967296 else n % (4294967296 : Int) := rfl;rw [hw];simp only [e];rw [if_pos (by simp; omega)];omega
theorem q64 {s : ByteArray} {k : Nat} {b : UInt8} (h : (bl s)[k]? = some b) : H124 (IntKind.i64.wrap (IntKind.i32.wrap (((Utf8.decode s k).fst : Int) - 97))) = some (gd b) ∧ (gd b = true -> IntKind.i64.wrap (IntKind.i32.wrap (((Utf8.decode s k).fst : Int) - 97)) = cl b ∧ (Utf8.decode s k).snd = 1) := by
 by_cases hb : b.toNat < 128
 ·rw [q2V h hb]
  have e : IntKind.i64.wrap (IntKind.i32.wrap ((b.toNat : Int) - 97)) = cl b := by
   rw [wrap32 (by omega) (by omega), qE4 (by omega) (by omega)]; rfl
  refine ⟨?_, fun _ => ⟨e, rfl⟩⟩;show H124 (IntKind.i64.wrap (IntKind.i32.wrap ((b.toNat : Int) - 97))) = _;rw [e, q1D]
  congr 1
  unfold gd cl
  congr 1
  ·by_cases q : 97 <= b.toNat
   ·rw [decide_eq_true q, decide_eq_true (by omega)]
   ·rw [decide_eq_false q, decide_eq_false (by omega)]
  ·by_cases q : b.toNat <= 104
   ·rw [decide_eq_true q, decide_eq_true (by omega)]
   ·rw [decide_eq_false q, decide_eq_false (by omega)]
 ·obtain ⟨h1, h2⟩ := qWW h (by omega)
  have hg : gd b = false := by
   cases hq : gd b with
   | false => rfl
   | true => have := qTF.1 hq; omega
  rw [hg];refine ⟨?_, fun h => by cases h⟩;rw [wrap32 (by omega) (by omega), qE4 (by omega) (by omega), q1D]
  congr 1
  rw [decide_eq_true (by omega), decide_eq_false (by omega)]; rfl
noncomputable def F48 (e : Int) (s10 : List Int × ByteArray × Int) : Option ((List Int × ByteArray × Int) ⊕ ((List Int × ByteArray × Int) ⊕ (List (List Int) × Int × Int) ⊕ Nat × List Int × ByteArray × Int)) :=
 Tree.ite (decide (s10.snd.snd.toNat < s10.snd.fst.size)) (Tree.bind (H124 (IntKind.i64.wrap (IntKind.i32.wrap (((Utf8.decode s10.snd.fst s10.snd.snd.toNat).fst : Int) - 97)))) fun (x11 : Bool) => Tree.ite (!x11) (Tree.ret (Sum.inr (Sum.inr (Sum.inl ([], e, 25))))) (Tree.ite ((s10.fst.length + [IntKind.i64.wrap (IntKind.i32.wrap (((Utf8.decode s10.snd.fst s10.snd.snd.toNat).fst : Int) - 97))].length).ble 1048576) (Tree.ret (Sum.inl (s10.fst ++ [IntKind.i64.wrap (IntKind.i32.wrap (((Utf8.decode s10.snd.fst s10.snd.snd.toNat).fst : Int) - 97))], s10.snd.fst, ((s10.snd.snd.toNat + (Utf8.decode s10.snd.fst s10.snd.snd.toNat).snd : Nat) : Int)))) Tree.fail)) (Tree.ret (Sum.inr (Sum.inl (s10.fst, s10.snd.fst, (s10.snd.snd.toNat : Int)))))
theorem q0L {e : Int} {s : ByteArray} (hs : s.size <= 60000) : ∀ (m k : Nat) (r : List Int), k + m = s.size -> r.length = k -> zX (F48 e) (r, s, (k : Int)) = some (match rw1 ((bl s).drop k) with
 | some q => Sum.inl (r ++ q, s, (s.size : Int))
 | none => Sum.inr (Sum.inl ([], e, 25)))
 | 0, k, r, h, hr => by
   have hk : k = s.size := by omega
   rw [vW]
   have e1 : F48 e (r, s, (k : Int)) = some (Sum.inr (Sum.inl (r, s, (k : Int)))) := by
    unfold F48;simp only [Int.toNat_natCast];rw [decide_eq_false (by omega), qM]; rfl
   rw [e1, List.drop_of_length_le (by rw [jC]; omega)];simp only [rw1, List.all_nil, if_true, List.map_nil, List.append_nil, hk]
 | m + 1, k, r, h, hr => by
   have hk : k < (bl s).length := by rw [jC]; omega
   have hb : (bl s)[k]? = some (bl s)[k] := List.getElem?_eq_getElem hk;obtain ⟨c1, c2⟩ := q64 hb;rw [vW, List.drop_eq_getElem_cons hk];generalize (bl s)[k] = b at hb c1 c2;have hkd : decide (k < s.size) = true := decide_eq_true (by omega)
   cases hg : gd b with
   | false =>
     rw [hg] at c1
     have e1 : F48 e (r, s, (k : Int)) = some (Sum.inr (Sum.inr (Sum.inl ([], e, 25)))) := by
      unfold F48;simp only [Int.toNat_natCast];rw [hkd, qU, c1, qP, show (!false) = true from rfl, qU]; rfl
     rw [e1, qQN hg]
   | true =>
     rw [hg] at c1;obtain ⟨c3, c4⟩ := c2 hg
     have e1 : F48 e (r, s, (k : Int)) = some (Sum.inl (r ++ [cl b], s, ((k + 1 : Nat) : Int))) := by
      unfold F48;simp only [Int.toNat_natCast];rw [hkd, qU, c1, qP, show (!true) = false from rfl, qM, c3, c4, q7T (by omega), qU]; rfl
     rw [e1];simp only;rw [q0L hs m (k + 1) (r ++ [cl b]) (by omega) (by simp [hr]), qQ9 hg]
     cases rw1 ((bl s).drop (k + 1)) with
     | none => rfl
     | some q => simp
def q3P (l : List UInt8) : List (List Int) × Int × Int := match lr (spl l) [] with
 | .ok p => if chk p = 0 then (p, 0, 0) else ([], 0, chk p)
 | .er n => ([], (n : Int), 25)
theorem qSV {R S τ : Type} {F : S -> Option (S ⊕ τ)} {K : τ -> Tree R} {v : Option R} {s s' : S} (h : F s = some (.inl s')) (hv : (Tree.bind (zX F s') K).run = v) : (Tree.bind (zX F s) K).run = v := by
 rw [vW, h]; exact hv
theorem qIN {R S τ : Type} {F : S -> Option (S ⊕ τ)} {K : τ -> Tree R} {v : Option R} {s : S} {t : τ} (h : F s = some (.inr t)) (hv : (K t).run = v) : (Tree.bind (zX F s) K).run = v := by
 rw [vW, h]; exact hv
theorem q06 {l : List UInt8} {r : List Int} (h : rw1 l = some r) : r.length = l.length ∧ r = l.map cl ∧ l.all gd = true := by
 unfold rw1 at h;split at h
 ·rename_i hg; cases h; exact ⟨by simp, rfl, hg⟩
 ·cases h
theorem q1I : ∀ {ls : List (List UInt8)} {p q : List (List Int)}, lr ls p = .ok q -> q = p ++ ls.map (fun l => l.map cl) ∧ ∀ l ∈ ls, l.all gd = true
 | [], p, q, h => by cases h; exact ⟨by simp, fun l h => by cases h⟩
 | l :: ls, p, q, h => by
   rw [q7I] at h
   cases hr : rw1 l with
   | none => rw [hr] at h; cases h
   | some r =>
     rw [hr] at h;obtain ⟨h1, h2⟩ := q1I h;obtain ⟨_, h3, h4⟩ := q06 hr;refine ⟨by rw [h1, h3]; simp, fun x hx => ?_⟩;rcases List.mem_cons.1 hx with rfl | hx
     ·exact h4
     ·exact h2 x hx
theorem qI8 : ∀ {l x : List UInt8}, x ∈ spl l -> x.length <= l.length
 | [], x, h => by
   have : x = [] := by simpa [spl] using h
   rw [this]; exact Nat.le_refl _
 | b :: l, x, h => by
   rw [qI3] at h;by_cases hb : b = nl
   ·rw [if_pos hb] at h;rcases List.mem_cons.1 h with rfl | h
    ·exact Nat.zero_le _
    ·exact Nat.le_succ_of_le (qI8 h)
   ·rw [if_neg hb] at h;obtain ⟨y, ls, e⟩ := tY l;rw [e] at h;rcases List.mem_cons.1 h with rfl | h
    ·have := qI8 (l := l) (x := y) (by rw [e]; simp);simp; omega
    ·exact Nat.le_succ_of_le (qI8 (by rw [e]; exact List.mem_cons_of_mem _ h))
theorem q90 {s : ByteArray} (hs : s.size <= 5000) : H48 s = some (if 4096 < s.size then ([], 0, 26) else if (bl s).getLast? = some nl then q3P (bl s).dropLast else ([], 0, 28)) := by
 have p2 : ∀ a b : Int, H87 [a, b] = some (qJX [a, b]) := fun a b => q6S (by simp)
 have h89 : ∀ (a : Bool) (b : Int), H89 (a, b) = some (cond a b 0) := fun a b => q6C (a, b)
 have h121 : ∃ x, H121 (s, ⟨#[10]⟩) = some x ∧ x = decide ((bl s).getLast? = some nl) := by
  rcases rR s with h | ⟨i, a, h⟩
  ·exact ⟨_, q4I h, by rw [h]; rfl⟩
  ·refine ⟨_, q6N h (by omega), ?_⟩;rw [h];simp
 obtain ⟨x, hx, hxx⟩ := h121;show (G48 s).run = _;unfold G48;rw [h89, qP, hx, qP, h89, qP, p2, qP];by_cases h0 : 4096 < s.size
 ·have d0 : decide ((4096 : Int) < (s.size : Int)) = true := decide_eq_true (by omega);rw [d0, if_pos h0];rfl
 ·have d0 : decide ((4096 : Int) < (s.size : Int)) = false := decide_eq_false (by omega);rw [d0, if_neg h0];by_cases h1 : (bl s).getLast? = some nl
  ·rw [if_pos h1, hxx, decide_eq_true h1];have z1 : (qJX [cond false 26 0, cond (!true) 28 0] != 0) = false := rfl;rw [z1, qM]
   obtain ⟨i, hi⟩ : ∃ i, bl s = i ++ [nl] := by
    rcases rR s with h | ⟨i, a, h⟩
    ·rw [h] at h1; cases h1
    ·rw [h] at h1;simp at h1;exact ⟨i, by rw [h, h1]⟩
   obtain ⟨t, ht, hbt⟩ := q6Q hi (by omega);have hil : i.length < 5000 := by have := jC s; rw [hi] at this; simp at this; omega
   have hts : t.size <= 60000 := by rw [<- jC, hbt]; omega
   obtain ⟨ls, hls, hlm⟩ := q61 hts;have hdl : (bl s).dropLast = i := by rw [hi]; simp
   rw [ht, qP, hls, qP, hdl, <- hbt];rw [hbt] at hlm
   have hlen : ls.length <= 5001 := by
    have h1 := qGH i;rw [<- hlm, List.length_map] at h1;have := q0R i;omega
   have hsz : ∀ y ∈ ls, y.size <= 60000 := fun y hy => by
    have := qI8 (l := i) (x := bl y) (by rw [<- hlm]; exact List.mem_map_of_mem hy);rw [jC] at this; omega
   have key : ∀ (m k : Nat) (p : List (List Int)), k + m = ls.length -> p.length = k -> ∀ {K : ((Int × List (List Int)) ⊕ (List (List Int) × Int × Int) ⊕ Nat × Int × List (List Int)) -> Tree (List (List Int) × Int × Int)} {v : Option (List (List Int) × Int × Int)}, (match lr ((ls.map bl).drop k) p with
    | .ok q => (K (Sum.inl ((ls.length : Int), q))).run = v
    | .er n => (K (Sum.inr (Sum.inl ([], (n : Int), 25)))).run = v) ->
    (Tree.bind (zX (fun (s7 : Int × List (List Int)) => Tree.ite (decide (s7.fst < (ls.length : Int))) (Tree.bind (idx ls.length s7.fst) fun (x8 : Nat) => Tree.bind ls[x8]? fun (x9 : ByteArray) => Tree.bind (zX (F48 (IntKind.i64.wrap (s7.fst + 1))) ([], x9, ((0 : Nat) : Int))) fun (x10 : (List Int × ByteArray × Int) ⊕ (List (List Int) × Int × Int) ⊕ Nat × List Int × ByteArray × Int) => Tree.sum x10 (fun (s11 : List Int × ByteArray × Int) => Tree.ite ((s7.snd.length + [s11.fst].length).ble 1048576) (Tree.ret (Sum.inl (IntKind.i64.wrap (s7.fst + 1), s7.snd ++ [s11.fst]))) Tree.fail) fun (s11 : (List (List Int) × Int × Int) ⊕ Nat × List Int × ByteArray × Int) => Tree.sum s11 (fun (s12 : List (List Int) × Int × Int) => Tree.ret (Sum.inr (Sum.inr (Sum.inl (s12.fst, s12.snd.fst, s12.snd.snd))))) fun (s12 : Nat × List Int × ByteArray × Int) => Tree.fail) (Tree.ret (Sum.inr (Sum.inl (s7.fst, s7.snd))))) ((k : Int), p)) K).run = v := by
    intro m
    induction m with
    | zero =>
      intro k p h hp K v hv;have hk : k = ls.length := by omega
      rw [List.drop_of_length_le (by simp; omega)] at hv;subst hk;refine qIN (t := Sum.inl ((ls.length : Int), p)) ?_ hv;simp only [qNW (Int.lt_irrefl _), qM];rfl
    | succ m ih =>
      intro k p h hp K v hv;have hk : k < ls.length := by omega
      have hk3 : (k : Int) < (ls.length : Int) := by omega
      obtain ⟨y, hy, my⟩ := j3 hk;have hkm : k < (ls.map bl).length := by simp; exact hk
      have hlk : (ls.map bl)[k] = bl y := by
       have h1 : (ls.map bl)[k]? = some (bl y) := by rw [List.getElem?_map, hy]; rfl
       rw [List.getElem?_eq_getElem hkm] at h1;exact Option.some.inj h1
      rw [List.drop_eq_getElem_cons hkm, hlk, q7I] at hv;have hin := q0L (e := IntKind.i64.wrap ((k : Int) + 1)) (hsz y my) y.size 0 [] (by omega) rfl;rw [List.drop_zero] at hin
      cases hr : rw1 (bl y) with
      | none =>
        rw [hr] at hv hin;refine qIN (t := Sum.inr (Sum.inl ([], ((p.length + 1 : Nat) : Int), 25))) ?_ hv;simp only [qNS hk3, qU, vS hk, qP, hy];refine (congrArg (fun x => (Tree.bind x _ : Option _)) hin).trans ?_;simp only [qP, qFQ, w9];rw [show IntKind.i64.wrap ((k : Int) + 1) = ((p.length + 1 : Nat) : Int) by rw [rA (by omega), hp]];rfl
      | some q =>
        rw [hr] at hv hin;refine qSV (s' := (((k + 1 : Nat) : Int), p ++ [q])) ?_ (ih (k + 1) (p ++ [q]) (by omega) (by simp [hp]) hv);simp only [qNS hk3, qU, vS hk, qP, hy];refine (congrArg (fun x => (Tree.bind x _ : Option _)) hin).trans ?_;simp only [List.nil_append, qP, w9, q7T (show p.length < 1048576 by omega), qU, rA (show k < 2 ^ 62 by omega)];rfl
   refine key ls.length 0 [] (by omega) rfl ?_;rw [List.drop_zero, hlm, hbt];unfold q3P
   cases hl : lr (spl i) [] with
   | er n => rfl
   | ok q =>
     obtain ⟨hq, _⟩ := q1I hl
     have hrq : ∀ r ∈ q, r.length < 2 ^ 62 := fun r hr => by
      rw [hq, List.nil_append] at hr;obtain ⟨l, hl, rfl⟩ := List.mem_map.1 hr;have := qI8 hl;rw [List.length_map]; omega
     simp only [w9];rw [q8K (fun _ => hrq), qP];by_cases hc : chk q = 0
     ·rw [hc, if_pos rfl]; rfl
     ·have : (chk q != 0) = true := by simpa using hc
      rw [this, if_neg hc]; rfl
  ·rw [if_neg h1, hxx, decide_eq_false h1];rfl
theorem q47 {n : Int} (h0 : 0 <= n) (h1 : n < 256) : IntKind.u8.wrap n = n := by
 have hw : IntKind.u8.wrap n = if (false && decide (n % (256 : Int) ≥ 128)) = true then n % (256 : Int) - 256 else n % (256 : Int) := rfl;rw [hw];simp only [Bool.false_and, Bool.false_eq_true, if_false];exact Int.emod_eq_of_lt h0 h1
theorem q08 {n : Int} (h0 : 0 <= n) (h1 : n < 4294967296) : IntKind.u32.wrap n = n := by
 have hw : IntKind.u32.wrap n = if (false && decide (n % (4294967296 : Int) ≥ 2147483648)) = true then n % (4294967296 : Int) - 4294967296 else n % (4294967296 : Int) := rfl;rw [hw];simp only [Bool.false_and, Bool.false_eq_true, if_false];exact Int.emod_eq_of_lt h0 h1
def prs (s : ByteArray) : List (List Int) × Int × Int := if 4096 < s.size then ([], 0, 26) else if (bl s).getLast? = some nl then q3P (bl s).dropLast else ([], 0, 28)
theorem q1Y {s : ByteArray} (hs : s.size <= 5000) : H48 s = some (prs s) := q90 hs
def ltr (r : List Int) : List Int := r.map fun c => 97 + c
def LT (p : List (List Int)) : List Int := p.flatMap fun r => ltr r ++ [10]
def q59 (r : List Int) : Prop := ∀ c ∈ r, 0 <= c ∧ c < 8
theorem qJ5 {r : List Int} (h : tC r = true) : q59 r := fun c hc => by
 have := List.all_eq_true.1 h c hc;simpa using this
theorem qPF {p : List (List Int)} (h : chk p = 0) : ∀ r ∈ p, tC r = true := by
 unfold chk at h;by_cases h0 : p.length = 0
 ·rw [if_pos h0] at h; cases h
 ·rw [if_neg h0] at h;by_cases h1 : 24 < p.length
  ·rw [if_pos h1] at h; cases h
  ·rw [if_neg h1] at h;intro r hr
   have hall : gL (p.getD 0 []).length r = 0 := by
    obtain ⟨i, hi, rfl⟩ := List.getElem_of_mem hr;unfold q50 at h
    cases hs : scan (fun i => if gL (p.getD 0 []).length (p.getD i []) ≠ 0 then some (gL (p.getD 0 []).length (p.getD i [])) else none) p.length 0 with
    | none =>
      have := gP.1 hs i (Nat.zero_le _) (by omega);rw [getD_at (List.getElem?_eq_getElem hi)] at this;by_cases hq : gL (p.getD 0 []).length p[i] ≠ 0
      ·rw [if_pos hq] at this; cases this
      ·simpa using hq
    | some v =>
      rw [hs] at h;have h : v = 0 := h;obtain ⟨j, _, _, hf, _⟩ := vH hs;by_cases hq : gL (p.getD 0 []).length (p.getD j []) ≠ 0
      ·rw [if_pos hq] at hf;cases hf;exact absurd h hq
      ·rw [if_neg hq] at hf; cases hf
   unfold gL at hall;by_cases a1 : r.length = 0
   ·rw [if_pos a1] at hall; cases hall
   ·rw [if_neg a1] at hall;by_cases a2 : 24 < r.length
    ·rw [if_pos a2] at hall; cases hall
    ·rw [if_neg a2] at hall;by_cases a3 : r.length ≠ (p.getD 0 []).length
     ·rw [if_pos a3] at hall; cases hall
     ·rw [if_neg a3] at hall
      cases hb : tC r with
      | false => rw [hb] at hall; cases hall
      | true => rfl
theorem q12 {p : List (List Int)} {k : Nat} {r : List Int} (h : p[k]? = some r) : LT (p.take (k + 1)) = LT (p.take k) ++ (ltr r ++ [10]) := by
 unfold LT;rw [List.take_add_one, h, List.flatMap_append];simp
theorem qXY {r : List Int} {k : Nat} {c : Int} (h : r[k]? = some c) : ltr (r.take (k + 1)) = ltr (r.take k) ++ [97 + c] := by
 unfold ltr;rw [List.take_add_one, h, List.map_append];rfl
theorem qUA {p : List (List Int)} (h : ∀ r ∈ p, r.length <= 24) : (LT p).length <= p.length * 25 := by
 induction p with
 | nil => simp [LT]
 | cons r p ih =>
   have h1 := h r (by simp);have h2 := ih fun s hs => h s (by simp [hs])
   unfold LT at h2 ⊢;rw [List.flatMap_cons, List.length_append, List.length_append];have h3 : (r :: p).length * 25 = p.length * 25 + 25 := by rw [List.length_cons, Nat.succ_mul]
   have : (ltr r).length = r.length := by simp [ltr]
   simp only [List.length_cons, List.length_nil];omega
theorem qYN {c : Int} (h0 : 0 <= c) (h1 : c < 8) : IntKind.u8.wrap (IntKind.i32.wrap (97 + IntKind.i32.wrap c)) = 97 + c ∧ decide (IntKind.u32.wrap (IntKind.i32.wrap (97 + IntKind.i32.wrap c)) <= 127) = true := by
 rw [wrap32 (n := c) (by omega) (by omega), wrap32 (by omega) (by omega), q47 (by omega) (by omega), q08 (by omega) (by omega)];exact ⟨rfl, decide_eq_true (by omega)⟩
theorem q8B {p : List (List Int)} {h n : Nat} (hp : Pic p h n) (hc : chk p = 0) : H47 p = some (bText (LT p), 0) := by
 show (G47 p).run = _;unfold G47;have hz : ((0 : Int) != 0) = false := rfl;have h24 := hp.h2;have n24 := hp.n2;have hpl := hp.len;have hrow : ∀ r ∈ p, r.length <= 24 := fun r hr => by rw [hp.row r hr]; exact n24
 rw [q8K (fun _ r hr => by have := hrow r hr; omega), hc, qP, hz, qM];refine qBM p.length (fun (k : Nat) (s : List Int × Bool) => ((k : Int), s.1, s.2)) (fun k s => s.1 = LT (p.take k)) (fun k s => (LT (p.take (k + 1)), true)) (fun s => Sum.inl ((p.length : Int), s.1, s.2)) ([], false) rfl rfl (fun k s hk hs => ⟨?_, rfl⟩) (fun s hs => ?_) (fun hI => ?_)
 ·obtain ⟨r, hr, mr⟩ := j3 hk;have hk3 : (k : Int) < (p.length : Int) := by omega
  have hcr := qJ5 (qPF hc r mr);have hrl := hrow r mr
  have hlt : (LT (p.take k)).length <= 24 * 25 := by
   have := qUA (p := p.take k) fun r hr => hrow r (List.mem_of_mem_take hr)
   rw [List.length_take] at this;have h2 : min k p.length * 25 <= 24 * 25 := Nat.mul_le_mul_right _ (by have := hp.len; omega);omega
  simp only [qNS hk3, qU, vS hk, qP, hr];refine qBM r.length (fun (j : Nat) (x : List Int × Bool) => ((j : Int), x.1, x.2)) (fun j x => x.1 = LT (p.take k) ++ ltr (r.take j)) (fun j x => (LT (p.take k) ++ ltr (r.take (j + 1)), true)) (fun x => Sum.inl ((r.length : Int), x.1, x.2)) (s.1, s.2) rfl (by rw [hs]; simp [ltr]) (fun j x hj hx => ⟨?_, rfl⟩) (fun x hx => ?_) (fun hJ => ?_)
  ·obtain ⟨c, hcc, mc⟩ := j3 hj;have hj3 : (j : Int) < (r.length : Int) := by omega
   obtain ⟨c0, c1⟩ := hcr c mc;obtain ⟨w1, w2⟩ := qYN c0 c1;have hb : x.1.length < 1048576 := by rw [hx]; simp [ltr]; omega
   simp only [qNS hj3, qU, vS hj, qP, hcc, w2, w1, q7T hb, rA (show j < 2 ^ 62 by omega)];rw [qXY hcc, <- List.append_assoc, <- hx];rfl
  ·simp only [qNW (Int.lt_irrefl _), qM];rfl
  ·generalize qIK (fun j (x : List Int × Bool) => (LT (p.take k) ++ ltr (r.take (j + 1)), true)) r.length 0 (s.1, s.2) = x at hJ;have hJ : x.1 = LT (p.take k) ++ ltr (r.take r.length) := hJ;rw [List.take_length] at hJ;have hb : x.1.length < 1048576 := by rw [hJ]; simp [ltr]; omega
   have hb2 : ((x.1.length + ([10] : List Nat).length).ble 1048576) = true := Nat.ble_eq_true_of_le (by simp; omega);simp only [w9, rA (show k < 2 ^ 62 by omega)];rw [hb2, qU, q12 hr, <- List.append_assoc, hJ];rfl
 ·simp only [qNW (Int.lt_irrefl _), qM];rfl
 ·have hl : (LT p).length <= 24 * 25 := by
   have := qUA hrow;have h2 : p.length * 25 <= 24 * 25 := Nat.mul_le_mul_right _ (by rw [hp.len]; exact h24);omega
  have hb : ((LT p).length.ble 1048576) = true := Nat.ble_eq_true_of_le (by omega);have hI : (qIK (fun k (s : List Int × Bool) => (LT (p.take (k + 1)), true)) p.length 0 ([], false)).1 = LT (p.take p.length) := hI;rw [List.take_length] at hI;simp only [w9, hI, hb, qU, xN]
def LB (l : List Int) : List UInt8 := l.map fun z => UInt8.ofNat z.toNat
theorem qO7 (l : List Int) : bl (bText l) = LB l := rfl
theorem qZZ (a b : List Int) : LB (a ++ b) = LB a ++ LB b := by simp [LB]
theorem q5M (a : List Int) : (LB a).length = a.length := by simp [LB]
def lb (r : List Int) : List UInt8 := LB (ltr r)
theorem q1W (p : List (List Int)) : LB (LT p) = joinL (p.map lb) := by
 induction p with
 | nil => rfl
 | cons r p ih =>
   show LB ((ltr r ++ [10]) ++ LT p) = lb r ++ [nl] ++ joinL (p.map lb);rw [qZZ, qZZ, ih]; rfl
theorem qMG {k : Nat} (h : k < 256) : (UInt8.ofNat k).toNat = k := by
 rw [UInt8.toNat_ofNat']; exact Nat.mod_eq_of_lt h
theorem qZX {r : List Int} (h : q59 r) : rw1 (lb r) = some r ∧ nl ∉ lb r := by
 have key : ∀ c : Int, 0 <= c -> c < 8 -> (UInt8.ofNat (97 + c).toNat).toNat = (97 + c).toNat := fun c h0 h1 => qMG (by omega)
 have hg : (lb r).all gd = true := by
  rw [List.all_eq_true];intro b hb;unfold lb LB ltr at hb;rw [List.map_map] at hb;obtain ⟨c, hc, rfl⟩ := List.mem_map.1 hb;obtain ⟨c0, c1⟩ := h c hc;refine qTF.2 ?_;show 97 <= (UInt8.ofNat (97 + c).toNat).toNat ∧ (UInt8.ofNat (97 + c).toNat).toNat <= 104;rw [key c c0 c1];omega
 refine ⟨?_, fun hm => ?_⟩
 ·unfold rw1;rw [if_pos hg]
  congr 1
  unfold lb LB ltr;rw [List.map_map, List.map_map]
  conv => rhs; rw [<- List.map_id r]
  refine List.map_congr_left fun c hc => ?_
  obtain ⟨c0, c1⟩ := h c hc;show ((UInt8.ofNat (97 + c).toNat).toNat : Int) - 97 = c;rw [key c c0 c1];omega
 ·have := List.all_eq_true.1 hg nl hm;exact absurd this (by decide)
theorem qZR : ∀ (p q : List (List Int)), (∀ r ∈ p, q59 r) -> lr (p.map lb) q = .ok (q ++ p)
 | [], q, _ => by simp [lr]
 | r :: p, q, h => by
   rw [List.map_cons, q7I, (qZX (h r (by simp))).1];simp only;rw [qZR p (q ++ [r]) fun x hx => h x (List.mem_cons_of_mem _ hx)];simp
theorem qU8 : ∀ i : List UInt8, spl (i ++ [nl]) = spl i ++ [[]]
 | [] => rfl
 | b :: i => by
   have ih := qU8 i;rw [List.cons_append, qI3, qI3];by_cases hb : b = nl
   ·rw [if_pos hb, if_pos hb, ih]; rfl
   ·rw [if_neg hb, if_neg hb, ih];obtain ⟨x, ls, e⟩ := tY i;rw [e]; rfl
theorem back {l : List UInt8} (h : l.all gd = true) : lb (l.map cl) = l := by
 unfold lb LB ltr;rw [List.map_map, List.map_map]
 conv => rhs; rw [<- List.map_id l]
 refine List.map_congr_left fun b hb => ?_
 have hg := qTF.1 (List.all_eq_true.1 h b hb);show UInt8.ofNat (97 + cl b).toNat = b;have : (97 + cl b).toNat = b.toNat := by unfold cl; omega
 rw [this];exact UInt8.ofNat_toNat
theorem qWX {s : ByteArray} (h : (prs s).2.2 = 0) : chk (prs s).1 = 0 ∧ bl s = LB (LT (prs s).1) := by
 unfold prs at h ⊢;split at h
 ·cases h
 ·rename_i h0;rw [if_neg h0];split at h
  ·rename_i h1;rw [if_pos h1]
   obtain ⟨i, hi⟩ : ∃ i, bl s = i ++ [nl] := by
    rcases rR s with h | ⟨i, a, h⟩
    ·rw [h] at h1; cases h1
    ·rw [h] at h1;simp at h1;exact ⟨i, by rw [h, h1]⟩
   have hdl : (bl s).dropLast = i := by rw [hi]; simp
   rw [hdl] at h ⊢;unfold q3P at h ⊢
   cases hq : lr (spl i) [] with
   | er n => rw [hq] at h; cases h
   | ok q =>
     rw [hq] at h;simp only at h ⊢;by_cases hc : chk q = 0
     ·rw [if_pos hc];refine ⟨hc, ?_⟩;obtain ⟨e, hg⟩ := q1I hq;show bl s = LB (LT q);rw [q1W, e, List.nil_append, List.map_map, hi, <- qO4 i]
      congr 1
      conv => lhs; rw [<- List.map_id (spl i)]
      exact List.map_congr_left fun l hl => (back (hg l hl)).symm
     ·rw [if_neg hc] at h;exact absurd h hc
  ·cases h
theorem qZK {s : ByteArray} (h : (prs s).2.2 ≠ 0) : (prs s).1 = [] := by
 unfold prs at h ⊢;split
 ·rfl
 ·rename_i h0;rw [if_neg h0] at h;split
  ·rename_i h1;rw [if_pos h1] at h;unfold q3P at h ⊢
   cases hq : lr (spl (bl s).dropLast) [] with
   | er n => rfl
   | ok q =>
     rw [hq] at h;simp only at h ⊢;by_cases hc : chk q = 0
     ·rw [if_pos hc] at h; exact absurd rfl h
     ·rw [if_neg hc]
  ·rfl
theorem q9C (p : List (List Int)) (s : ByteArray) : H9 (p, s) = some true := by
 show (G9 p s).run = _;unfold G9;obtain ⟨b, e1, f1⟩ := q9Z (p := p);rw [e1, qP];simp only [qZY, qSH]
 cases b with
 | false => rfl
 | true =>
 rw [show (!(!true)) = true from rfl, qU];by_cases h3 : (300 : Int) < (s.size : Int)
 ·rw [qNS h3]; rfl
 rw [qNW h3, show (!false) = true from rfl, qU, q9Y, qP];by_cases hc : chk p = 0
 case neg =>
  have z1 : (chk p != 0) = true := by simpa using hc
  rw [z1]; rfl
 obtain ⟨n, hp⟩ := qT3 hc;have h24 := hp.h2;have n24 := hp.n2;have hcol : ∀ r ∈ p, q59 r := fun r hr => qJ5 (qPF hc r hr)
 have hrow : ∀ r ∈ p, r.length <= 24 := fun r hr => by rw [hp.row r hr]; exact n24
 have z0 : ((0 : Int) != 0) = false := rfl;have hne : p ≠ [] := fun e => by have := hp.h1; rw [e] at this; simp at this
 obtain ⟨t, ht, htb⟩ : ∃ t, H47 p = some (t, 0) ∧ bl t = joinL (p.map lb) := ⟨_, q8B hp hc, by rw [qO7, q1W]⟩
 obtain ⟨i, hi1, hi2⟩ := qNT (ls := p.map lb) (by simpa using hne) fun x hx => by
  obtain ⟨r, hr, rfl⟩ := List.mem_map.1 hx;exact (qZX (hcol r hr)).2
 have hti : bl t = i ++ [nl] := htb.trans hi1
 have htl : t.size <= 600 := by
  have h1 := qUA hrow;have h2 : p.length * 25 <= 24 * 25 := Nat.mul_le_mul_right _ h24;rw [<- jC, htb, <- q1W, q5M];omega
 have hts : t.size = i.length + 1 := by rw [<- jC, hti]; simp
 have hpt : prs t = (p, 0, 0) := by
  unfold prs;rw [if_neg (by omega), hti, if_pos (by simp)];have : (i ++ [nl]).dropLast = i := by simp
  rw [this];unfold q3P;rw [hi2, qZR p [] hcol, List.nil_append];simp only [hc, if_true]
 have hlast : i.getLast? ≠ some nl := fun hh => by
  obtain ⟨j, hj⟩ : ∃ j, i = j ++ [nl] := by
   rcases List.eq_nil_or_concat i with h | ⟨j, a, h⟩
   ·rw [h] at hh; cases hh
   ·rw [h] at hh;simp at hh;exact ⟨j, by rw [h, hh]; simp⟩
  rw [hj, qU8] at hi2;have hm : ([] : List UInt8) ∈ p.map lb := by rw [<- hi2]; simp
  obtain ⟨r, hr, he⟩ := List.mem_map.1 hm;have hl := hp.row r hr
  have : r.length = 0 := by
   have := congrArg List.length he;simpa [lb, LB, ltr] using this
  have := hp.n1;omega
 have q0 : ((t.size : Int) == 0) = false := beq_eq_false_iff_ne.2 (by omega);have hw : IntKind.i64.wrap ((t.size : Int) - 1) = ((t.size - 1 : Nat) : Int) := by rw [qE4 (by omega) (by omega)]; omega
 have hb : qCZ t.size ((t.size - 1 : Nat) : Int) = some (t.size - 1) := rJ (by omega)
 have hcut : bl (t.extract 0 (t.size - 1)) = i := by
  rw [qDG, hti, hts]; simp
 have hcs : (t.extract 0 (t.size - 1)).size <= 600 := by rw [<- jC, hcut]; omega
 have hpc : prs (t.extract 0 (t.size - 1)) = ([], 0, 28) := by
  unfold prs;rw [if_neg (by omega), hcut, if_neg hlast]
 have h53 : H53 (p, p) = some true := by
  rw [q8T (by omega) (fun r hr => by have := hrow r hr; omega)]; simp
 have e48 : H48 t = some (p, 0, 0) := (q1Y (by omega)).trans (by rw [hpt]);have e48c : H48 (t.extract 0 (t.size - 1)) = some ([], 0, 28) := (q1Y (by omega)).trans (by rw [hpc]);have e48s : H48 s = some (prs s) := q1Y (by omega);rw [hc, z0, qM, ht, qP, e48, qP];simp only [z0, Bool.not_false, qU];rw [h53, qP];simp only [Bool.not_true, Bool.not_false, qU];rw [q0, qM, hw, hb, qP, e48c, qP, e48s, qP];have z28 : ((28 : Int) != 28) = false := rfl;simp only [z28, qM];by_cases he : (prs s).2.2 = 0
 ·obtain ⟨k1, k2⟩ := qWX he;obtain ⟨m, hq⟩ := qT3 k1;have z1 : ((0 : Int) == 0) = true := rfl;have hbb : ((bText (LT (prs s).1)).toList == s.toList) = true := by rw [qOG, qO7, k2]; simp
  rw [he, z0, qM, q8B hq k1, qP];simp only [z1, qU, hbb, xN]
 ·have z1 : ((prs s).2.2 != 0) = true := by simpa using he
  rw [z1, qU, qZK he];rfl
theorem qL1 (x : List (List Int) × ByteArray) : H9 x = some true := q9C x.1 x.2
end Go.Proofs.YtpdlblofcdcikaaGreatDoor
