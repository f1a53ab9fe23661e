/- What the functions compute, plainly, and the law. Conditions: none. -/
import Derived.Test.YtpdlblofcdcikaaGreatDoorPX1
import Derived.Test.YtpdlblofcdcikaaGreatDoorPLK
set_option linter.all false
namespace Go.Proofs.YtpdlblofcdcikaaGreatDoor
open Go.Idl Go.Sv
theorem qDL {n : Int} (h0 : -9223372036854775808 <= n) (h1 : n <= 9223372036854775807) : IntKind.i64.wrap n = n := by
 by_cases hn : 0 <= n
 ·have e : n % (18446744073709551616 : Int) = n := Int.emod_eq_of_lt hn (by omega);have hw : IntKind.i64.wrap n = if (true && decide (n % (18446744073709551616 : Int) ≥ 9223372036854775808)) = true then n % (18446744073709551616 : Int) - 18446744073709551616 else n % (18446744073709551616 : Int) := rfl;rw [hw];simp only [e];rw [if_neg (by simp; omega)]
 ·have e : n % (18446744073709551616 : Int) = n + 18446744073709551616 := by omega
  have hw : IntKind.i64.wrap n = if (true && decide (n % (18446744073709551616 : Int) ≥ 9223372036854775808)) = true then n % (18446744073709551616 : Int) - 18446744073709551616 else n % (18446744073709551616 : Int) := rfl;rw [hw];simp only [e];rw [if_pos (by simp; omega)];omega
noncomputable def GE {α : Type} (H : α × α -> Option Bool) (x0 x1 : List α) : Tree Bool :=
 Tree.ite ((x0.length : Int) != (x1.length : Int)) (Tree.ret false)
  (Tree.bind
    (yB
      (fun (s2 : Int) =>
        Tree.ite (decide (s2 < (x0.length : Int)))
         (Tree.bind (idx x0.length s2) fun (x3 : Nat) =>
           Tree.bind x0[x3]? fun (x4 : α) =>
            Tree.bind (idx x1.length s2) fun (x5 : Nat) =>
             Tree.bind x1[x5]? fun (x6 : α) =>
              Tree.bind (H (x4, x6)) fun (x7 : Bool) =>
               Tree.ite (!x7) (Tree.ret (Sum.inr (Sum.inr (Sum.inl false))))
                (Tree.ret (Sum.inl (IntKind.i64.wrap (s2 + 1)))))
         (Tree.ret (Sum.inr (Sum.inl s2))))
      0)
    fun (x2 : Int ⊕ Bool ⊕ Nat × Int) =>
    Tree.sum x2 (fun (s3 : Int) => Tree.ret true) fun (s3 : Bool ⊕ Nat × Int) =>
     Tree.sum s3 (fun (s4 : Bool) => Tree.ret s4) fun (s4 : Nat × Int) => Tree.fail)
theorem q39 {α : Type} [DecidableEq α] {H : α × α -> Option Bool} {a b : List α} (ha : a.length < 2 ^ 62) (hH : ∀ x ∈ a, ∀ y ∈ b, H (x, y) = some (decide (x = y))) : (GE H a b).run = some (decide (a = b)) := by
 unfold GE;by_cases hl : a.length = b.length
 ·have h0 : ((a.length : Int) != (b.length : Int)) = false := by simp [hl]
  rw [h0, qN];refine wJ a.length (fun i => if a[i]? = b[i]? then none else some false) (fun x => Sum.inr (Sum.inl x)) (Sum.inl (a.length : Int)) (fun k hk => ?_) ?_ ?_
  ·obtain ⟨x, hx, mx⟩ := jE hk;obtain ⟨y, hy, my⟩ := jE (show k < b.length by omega);have hk2 : k < b.length := by omega
   have hk3 : (k : Int) < (a.length : Int) := by omega
   simp only [qDO hk3, qQ, jF hk, qK, hx, jF hk2, hy, hH x mx y my, aP (show k < 2 ^ 62 by omega)];by_cases hxy : x = y
   ·simp [hxy, qN]; rfl
   ·simp [hxy, qQ]; rfl
  ·simp only [qGD (Int.lt_irrefl _), qN];rfl
  ·cases hs : scan (fun i => if a[i]? = b[i]? then none else some false) a.length 0 with
   | none =>
     have hab : a = b := List.ext_getElem? fun i => by
      by_cases hi : i < a.length
      ·have := fB.1 hs i (Nat.zero_le _) (by omega);by_cases h : a[i]? = b[i]?
       ·exact h
       ·rw [if_neg h] at this; cases this
      ·rw [List.getElem?_eq_none (by omega), List.getElem?_eq_none (by omega)]
     simp only [wC, xI, hab, decide_true]
   | some r =>
     obtain ⟨i, _, _, hi, _⟩ := vN hs
     have hne : a ≠ b := fun e => by
      rw [e] at hi;simp at hi
     have hr : r = false := by
      by_cases h : a[i]? = b[i]?
      ·rw [if_pos h] at hi; cases hi
      ·rw [if_neg h] at hi; cases hi; rfl
     subst hr;simp only [qKU, wC, xI, hne, decide_false]
 ·have h0 : ((a.length : Int) != (b.length : Int)) = true := by simp; omega
  rw [h0, qQ, xI];have : a ≠ b := fun e => hl (by rw [e])
  simp [this]
theorem q8Z {a b : List Int} (ha : a.length < 2 ^ 62) : H52 (a, b) = some (decide (a = b)) := by
 have : H52 (a, b) = (GE (fun p : Int × Int => some (p.1 == p.2)) a b).run := rfl;rw [this]
 exact q39 ha fun x _ y _ => by
  by_cases h : x = y <;> simp [h]
theorem q9U {a b : List (List Int)} (ha : a.length < 2 ^ 62) (hr : ∀ r ∈ a, r.length < 2 ^ 62) : H53 (a, b) = some (decide (a = b)) :=
 (show H53 (a, b) = (GE H52 a b).run from rfl).trans (q39 ha fun x hx y _ => q8Z (hr x hx))
theorem q9Q (x : Int × Int × Int) : H38 x = some (decide (x.1 < x.2.1) || decide (x.2.2 < x.1)) := by
 obtain ⟨n, a, b⟩ := x;show (G38 n a b).run = some (decide (n < a) || decide (b < n));unfold G38;by_cases h : n < a
 ·simp only [h, decide_true]; rfl
 ·simp only [h, decide_false]; rfl
theorem q6D (x : Bool × Int) : H89 x = some (cond x.1 x.2 0) := by
 obtain ⟨b, e⟩ := x;show (G89 b e).run = some (cond b e 0);unfold G89;cases b <;> rfl
theorem q1I {c : Int} : H124 c = some (decide (0 <= c) && decide (c < 8)) := by
 show (G124 c).run = _;unfold G124;by_cases h : 0 <= c
 ·simp only [h, decide_true]; rfl
 ·simp only [h, decide_false]; rfl
theorem q7G {c : Int} : H140 c = some (!(decide (0 <= c) && decide (c < 8))) := by
 show (G140 c).run = _;unfold G140;rw [q1I, qK, xI]
def qH3 : List Int -> Int
 | [] => 0
 | x :: l => if x ≠ 0 then x else qH3 l
theorem qIR (l : List Int) : ∀ (m k : Nat), k + m = l.length -> scan (fun i => if l.getD i 0 ≠ 0 then some (l.getD i 0) else none) m k = if qH3 (l.drop k) = 0 then none else some (qH3 (l.drop k))
 | 0, k, h => by
   rw [List.drop_eq_nil_of_le (by omega)];rfl
 | m + 1, k, h => by
   have hk : k < l.length := by omega
   rw [List.drop_eq_getElem_cons hk];unfold scan;have e : l.getD k 0 = l[k] := by simp [List.getD, hk]
   rw [e];by_cases hx : l[k] = 0
   ·simp only [hx, ne_eq, not_true, if_false];rw [qIR l m (k + 1) (by omega)];simp [qH3, hx]
   ·simp only [ne_eq, hx, not_false_iff, if_true];simp [qH3, hx]
theorem q6R {l : List Int} (hl : l.length < 2 ^ 62) : H87 l = some (qH3 l) := by
 show (G87 l).run = _;unfold G87;refine wJ l.length (fun i => if l.getD i 0 ≠ 0 then some (l.getD i 0) else none) (fun x => Sum.inr (Sum.inl x)) (Sum.inl (l.length : Int)) (fun k hk => ?_) ?_ ?_
 ·obtain ⟨x, hx, mx⟩ := jE hk;have hk3 : (k : Int) < (l.length : Int) := by omega
  have hd : l.getD k 0 = x := by simp [List.getD, hx]
  simp only [qDO hk3, qQ, jF hk, qK, hx, hd, aP (show k < 2 ^ 62 by omega)];by_cases h0 : x = 0
  ·simp [h0, qN]; rfl
  ·have : (x != 0) = true := by simpa using h0
   rw [this, qQ];simp [h0]; rfl
 ·simp only [qGD (Int.lt_irrefl _), qN];rfl
 ·rw [qIR l l.length 0 (by omega), List.drop_zero];by_cases h : qH3 l = 0
  ·simp only [h, if_true, wC, xI]
  ·simp only [h, if_false, qKU, wC, xI]
def tF (r : List Int) : Bool := r.all fun c => decide (0 <= c) && decide (c < 8)
theorem qPL (r : List Int) {ρ : Type} (v : Nat -> ρ) : (scan (fun i => if (decide (0 <= r.getD i 0) && decide (r.getD i 0 < 8)) = true then none else some (v i)) r.length 0).isSome = !tF r := by
 cases hs : scan (fun i => if (decide (0 <= r.getD i 0) && decide (r.getD i 0 < 8)) = true then none else some (v i)) r.length 0 with
 | none =>
   have : tF r = true := by
    unfold tF;rw [List.all_eq_true];intro c hc;obtain ⟨i, hi, rfl⟩ := List.getElem_of_mem hc;have := fB.1 hs i (Nat.zero_le _) (by omega);have e : r.getD i 0 = r[i] := by simp [List.getD, hi]
    rw [e] at this;by_cases h : (decide (0 <= r[i]) && decide (r[i] < 8)) = true
    ·exact h
    ·rw [if_neg h] at this; cases this
   rw [this]; rfl
 | some x =>
   obtain ⟨i, _, hi, hf, _⟩ := vN hs;have hi : i < r.length := by omega
   have e : r.getD i 0 = r[i] := by simp [List.getD, hi]
   have : tF r = false := by
    cases hc : tF r with
    | false => rfl
    | true =>
      unfold tF at hc;have := List.all_eq_true.1 hc r[i] (List.getElem_mem hi);rw [e, if_pos this] at hf;cases hf
   rw [this]; rfl
theorem q87 {r : List Int} (hr : r.length < 2 ^ 62) : H90 r = some (!tF r) := by
 show (G90 r).run = _;unfold G90;refine wJ r.length (fun i => if (decide (0 <= r.getD i 0) && decide (r.getD i 0 < 8)) = true then none else some (i : Int)) (fun x => Sum.inr (Sum.inl x)) (Sum.inl (r.length : Int)) (fun k hk => ?_) ?_ ?_
 ·obtain ⟨x, hx, mx⟩ := jE hk;have hk3 : (k : Int) < (r.length : Int) := by omega
  have hd : r.getD k 0 = x := by simp [List.getD, hx]
  simp only [qDO hk3, qQ, jF hk, qK, hx, hd, q7G, aP (show k < 2 ^ 62 by omega)];cases (decide (0 <= x) && decide (x < 8)) <;> rfl
 ·simp only [qGD (Int.lt_irrefl _), qN];rfl
 ·have := qPL r (fun i => (i : Int))
  cases hs : scan (fun i => if (decide (0 <= r.getD i 0) && decide (r.getD i 0 < 8)) = true then none else some (i : Int)) r.length 0 with
  | none =>
    rw [hs] at this;have hc : tF r = true := by simpa using this.symm
    simp only [wC, xI, hc];rfl
  | some v =>
    rw [hs] at this;have hc : tF r = false := by simpa using this.symm
    obtain ⟨i, _, hi, hf, _⟩ := vN hs
    have hv : 0 <= v := by
     by_cases h : (decide (0 <= r.getD i 0) && decide (r.getD i 0 < 8)) = true
     ·rw [if_pos h] at hf; cases hf
     ·rw [if_neg h] at hf; cases hf; omega
    simp only [qKU, wC, xI, hc, hv, decide_true];rfl
theorem getD_at {α : Type} {l : List α} {k : Nat} {x d : α} (h : l[k]? = some x) : l.getD k d = x := by simp [List.getD, h]
theorem qBE (b : Bool) : zZ b false = !b := by cases b <;> rfl
theorem qE3 (b : Bool) : zZ b true = b := by cases b <;> rfl
theorem q90 {a b : List (List Int)} {e c : Int} (ha : a.length < 2 ^ 62) (hr : ∀ r ∈ a, r.length < 2 ^ 62) : H32 (a, e, b, c) = some (e == c && decide (a = b)) := by
 show (G32 a e b c).run = _;unfold G32;rw [qE3]
 cases e == c with
 | true => rw [qQ, q9U ha hr, qK, xI]; rfl
 | false => rfl
theorem rd {l : List Int} {k : Nat} (h : k < l.length) : l[k]? = some (l.getD k 0) := by
 rw [List.getElem?_eq_getElem h];simp [List.getD, h]
theorem q4A {α : Type} {a : List α} {x : α} (h : a.length < 1048576) : (a.length + [x].length).ble 1048576 = true := Nat.ble_eq_true_of_le (by simp; omega)
theorem q8T {n : Nat} (h : n <= 65536) : mkN (n : Int) = some n := by
 unfold mkN;rw [if_pos ⟨by omega, by omega⟩, Int.toNat_natCast]
def gM (n : Nat) (r : List Int) : Int := if r.length = 0 then 12 else if 24 < r.length then 5 else if r.length ≠ n then 2 else if tF r then 0 else 3
def q5R (p : List (List Int)) (n : Nat) : Option Int := scan (fun i => if gM n (p.getD i []) ≠ 0 then some (gM n (p.getD i [])) else none) p.length 0
def chk (p : List (List Int)) : Int := if p.length = 0 then 12 else if 24 < p.length then 5 else (q5R p (p.getD 0 []).length).getD 0
theorem q7A {p : List (List Int)} (hp : p.length <= 24 -> ∀ r ∈ p, r.length < 2 ^ 62) : H23 p = some (chk p) := by
 show (G23 p).run = _;unfold G23 chk;rw [q6D, qK, q6D, qK, q6R (by simp), qK];by_cases h0 : p.length = 0
 ·have e0 : ((p.length : Int) == 0) = true := by simp [h0]
  simp only [e0, cond_true, qH3, h0, if_true];rfl
 ·have e0 : ((p.length : Int) == 0) = false := by simpa using h0
  by_cases h1 : 24 < p.length
  ·have e1 : decide ((24 : Int) < (p.length : Int)) = true := decide_eq_true (by omega);simp only [e0, e1, cond_true, cond_false, qH3, h0, h1, if_true, if_false];rfl
  ·have e1 : decide ((24 : Int) < (p.length : Int)) = false := decide_eq_false (by omega);have hp := hp (by omega);simp only [e0, e1, cond_true, cond_false, qH3, h0, h1, if_true, if_false];have hz : ((if (0 : Int) ≠ 0 then (0 : Int) else if (0 : Int) ≠ 0 then 0 else 0) != 0) = false := rfl;rw [hz, qN];obtain ⟨r0, hr0, m0⟩ := jE (show 0 < p.length by omega);refine wJ p.length (fun i => if gM (p.getD 0 []).length (p.getD i []) ≠ 0 then some (gM (p.getD 0 []).length (p.getD i [])) else none) (fun x => Sum.inr (Sum.inl x)) (Sum.inl (p.length : Int)) (fun k hk => ?_) ?_ ?_
   ·obtain ⟨x, hx, mx⟩ := jE hk;have hk3 : (k : Int) < (p.length : Int) := by omega
    simp only [qDO hk3, qQ, jF hk, qK, hx, q6D, q48 (show 0 < p.length by omega), hr0, q87 (hp x mx), q6R (show [_, _, _, _].length < 2 ^ 62 by simp), getD_at hx, getD_at hr0, aP (show k < 2 ^ 62 by omega)];by_cases a1 : x.length = 0
    ·have b1 : ((x.length : Int) == 0) = true := by simp [a1]
     have hrow : gM r0.length x = 12 := by simp [gM, a1]
     simp only [b1, hrow, cond_true, qH3];rfl
    ·have b1 : ((x.length : Int) == 0) = false := by simpa using a1
     by_cases a2 : 24 < x.length
     ·have b2 : decide ((24 : Int) < (x.length : Int)) = true := decide_eq_true (by omega);have hrow : gM r0.length x = 5 := by simp [gM, a1, a2]
      simp only [b1, b2, hrow, cond_true, cond_false, qH3];rfl
     ·have b2 : decide ((24 : Int) < (x.length : Int)) = false := decide_eq_false (by omega);by_cases a3 : x.length = r0.length
      ·have b3 : ((x.length : Int) != (r0.length : Int)) = false := by simp [a3]
       cases hc : tF x
       ·have hrow : gM r0.length x = 3 := by rw [<- a3]; simp [gM, a1, a2, hc]
        simp only [b1, b2, b3, hrow, cond_true, cond_false, qH3, Bool.not_false, Bool.not_true];rfl
       ·have hrow : gM r0.length x = 0 := by rw [<- a3]; simp [gM, a1, a2, hc]
        simp only [b1, b2, b3, hrow, cond_true, cond_false, qH3, Bool.not_false, Bool.not_true];rfl
      ·have b3 : ((x.length : Int) != (r0.length : Int)) = true := by simp; omega
       have hrow : gM r0.length x = 2 := by simp [gM, a1, a2, a3]
       simp only [b1, b2, b3, hrow, cond_true, cond_false, qH3];rfl
   ·simp only [qGD (Int.lt_irrefl _), qN];rfl
   ·unfold q5R
    cases scan (fun i => if gM (p.getD 0 []).length (p.getD i []) ≠ 0 then some (gM (p.getD 0 []).length (p.getD i [])) else none) p.length 0 with
    | none => simp only [wC, xI, Option.getD]
    | some r => simp only [qKU, wC, xI, Option.getD]
theorem q62 {p : List (List Int)} : H24 p = some (chk p) := by
 show (G24 p).run = _;unfold G24 chk;by_cases h0 : p.length = 0
 ·have e0 : ((p.length : Int) == 0) = true := by simp [h0]
  rw [e0, qQ, xI, if_pos h0]
 ·have e0 : ((p.length : Int) == 0) = false := by simpa using h0
  by_cases h1 : 24 < p.length
  ·have e1 : decide ((24 : Int) < (p.length : Int)) = true := decide_eq_true (by omega);rw [e0, qN, e1, qQ, xI, if_neg h0, if_pos h1]
  ·have e1 : decide ((24 : Int) < (p.length : Int)) = false := decide_eq_false (by omega);rw [e0, qN, e1, qN, if_neg h0, if_neg h1];obtain ⟨r0, hr0, m0⟩ := jE (show 0 < p.length by omega);refine wJ p.length (fun i => if gM (p.getD 0 []).length (p.getD i []) ≠ 0 then some (gM (p.getD 0 []).length (p.getD i [])) else none) (fun x => Sum.inr (Sum.inl x)) (Sum.inl (p.length : Int)) (fun k hk => ?_) ?_ ?_
   ·obtain ⟨x, hx, mx⟩ := jE hk;have hk3 : (k : Int) < (p.length : Int) := by omega
    simp only [qDO hk3, qQ, jF hk, qK, hx, q48 (show 0 < p.length by omega), hr0, getD_at hx, getD_at hr0, aP (show k < 2 ^ 62 by omega)];by_cases a1 : x.length = 0
    ·have b1 : ((x.length : Int) == 0) = true := by simp [a1]
     have hrow : gM r0.length x = 12 := by simp [gM, a1]
     simp only [b1, hrow, qQ];rfl
    ·have b1 : ((x.length : Int) == 0) = false := by simpa using a1
     by_cases a2 : 24 < x.length
     ·have b2 : decide ((24 : Int) < (x.length : Int)) = true := decide_eq_true (by omega);have hrow : gM r0.length x = 5 := by simp [gM, a1, a2]
      simp only [b1, b2, hrow, qQ, qN];rfl
     ·have b2 : decide ((24 : Int) < (x.length : Int)) = false := decide_eq_false (by omega);by_cases a3 : x.length = r0.length
      ·have b3 : ((x.length : Int) != (r0.length : Int)) = false := by simp [a3]
       simp only [b1, b2, b3, qQ, qN];refine wJ (R := Int ⊕ (Int ⊕ Int ⊕ Nat × Int)) x.length (fun i => if (decide (0 <= x.getD i 0) && decide (x.getD i 0 < 8)) = true then none else some (3 : Int)) (fun v => Sum.inr (Sum.inl v)) (Sum.inl (x.length : Int)) (fun j hj => ?_) ?_ ?_
       ·obtain ⟨c, hc, mc⟩ := jE hj;have hj3 : (j : Int) < (x.length : Int) := by omega
        simp only [qDO hj3, qQ, jF hj, qK, hc, q9Q, getD_at hc, aP (show j < 2 ^ 62 by omega)]
        have e : (decide (c < 0) || decide (7 < c)) = !(decide (0 <= c) && decide (c < 8)) := by
         by_cases q1 : c < 0
         ·have : ¬ 0 <= c := by omega
          simp [q1, this]
         ·have q2 : 0 <= c := by omega
          by_cases q3 : 7 < c
          ·have : ¬ c < 8 := by omega
           simp [q1, q2, q3, this]
          ·have : c < 8 := by omega
           simp [q1, q2, q3, this]
        rw [e];cases (decide (0 <= c) && decide (c < 8)) <;> rfl
       ·simp only [qGD (Int.lt_irrefl _), qN];rfl
       ·have := qPL x (fun _ => (3 : Int))
        cases hs : scan (fun i => if (decide (0 <= x.getD i 0) && decide (x.getD i 0 < 8)) = true then none else some (3 : Int)) x.length 0 with
        | none =>
          rw [hs] at this;have hc : tF x = true := by simpa using this.symm
          have hrow : gM r0.length x = 0 := by rw [<- a3]; simp [gM, a1, a2, hc]
          simp only [wC, hrow];rfl
        | some v =>
          rw [hs] at this;have hc : tF x = false := by simpa using this.symm
          obtain ⟨i, _, hi, hf, _⟩ := vN hs
          have hv : v = 3 := by
           by_cases h : (decide (0 <= x.getD i 0) && decide (x.getD i 0 < 8)) = true
           ·rw [if_pos h] at hf; cases hf
           ·rw [if_neg h] at hf; cases hf; rfl
          subst hv;have hrow : gM r0.length x = 3 := by rw [<- a3]; simp [gM, a1, a2, hc]
          simp only [qKU, wC, hrow];rfl
      ·have b3 : ((x.length : Int) != (r0.length : Int)) = true := by simp; omega
       have hrow : gM r0.length x = 2 := by simp [gM, a1, a2, a3]
       simp only [b1, b2, b3, hrow, qQ, qN];rfl
   ·simp only [qGD (Int.lt_irrefl _), qN];rfl
   ·unfold q5R
    cases scan (fun i => if gM (p.getD 0 []).length (p.getD i []) ≠ 0 then some (gM (p.getD 0 []).length (p.getD i [])) else none) p.length 0 with
    | none => simp only [wC, xI, Option.getD]
    | some r => simp only [qKU, wC, xI, Option.getD]
theorem q88 {p : List (List Int)} : ∃ b, H17 p = some b ∧ (b = true -> p.length <= 27 ∧ ∀ i r, i < 25 -> p[i]? = some r -> r.length <= 27) := by
 refine ⟨match scan (fun i => if 27 < (p.getD i []).length then some false else none) (min p.length 25) 0 with
  | some r => r
  | none => decide (p.length <= 27), ?_, ?_⟩
 ·show (G17 p).run = _;unfold G17;refine wJ (min p.length 25) (fun i => if 27 < (p.getD i []).length then some false else none) (fun x => Sum.inr (Sum.inl x)) (Sum.inl ((min p.length 25 : Nat) : Int)) (fun k hk => ?_) ?_ ?_
  ·have hk1 : k < p.length := by omega
   obtain ⟨x, hx, mx⟩ := jE hk1;have hk3 : (k : Int) < (p.length : Int) := by omega
   have hk4 : decide ((k : Int) <= 24) = true := decide_eq_true (by omega);have hw : zZ true true = true := rfl;simp only [qDO hk3, hw, hk4, qQ, jF hk1, qK, hx, getD_at hx, aP (show k < 2 ^ 62 by omega)];by_cases h : 27 < x.length
   ·have : decide ((27 : Int) < (x.length : Int)) = true := decide_eq_true (by omega);rw [this, qQ, if_pos h];rfl
   ·have : decide ((27 : Int) < (x.length : Int)) = false := decide_eq_false (by omega);rw [this, qN, if_neg h];rfl
  ·by_cases h : p.length <= 25
   ·have e : min p.length 25 = p.length := by omega
    rw [e];have hw : zZ false true = false := rfl;simp only [qGD (Int.lt_irrefl _), hw, qN];rfl
   ·have e : min p.length 25 = 25 := by omega
    rw [e];have h1 : decide (((25 : Nat) : Int) < (p.length : Int)) = true := decide_eq_true (by omega);have h2 : decide (((25 : Nat) : Int) <= 24) = false := rfl;have hw : zZ true true = true := rfl;simp only [h1, h2, hw, qQ, qN];rfl
  ·cases hs : scan (fun i => if 27 < (p.getD i []).length then some false else none) (min p.length 25) 0 with
   | none =>
     simp only [wC, xI]
     congr 1
     by_cases h : p.length <= 27
     ·rw [decide_eq_true h, decide_eq_true (show (p.length : Int) <= 27 by omega)]
     ·rw [decide_eq_false h, decide_eq_false (show ¬ (p.length : Int) <= 27 by omega)]
   | some r => simp only [qKU, wC, xI]
 ·intro hb
  cases hs : scan (fun i => if 27 < (p.getD i []).length then some false else none) (min p.length 25) 0 with
  | none =>
    rw [hs] at hb;have hb : p.length <= 27 := by simpa using hb
    refine ⟨hb, fun i r hi hr => ?_⟩;have hlt := (List.getElem?_eq_some_iff.1 hr).1;have := fB.1 hs i (Nat.zero_le _) (by omega);rw [getD_at hr] at this;by_cases h : 27 < r.length
    ·rw [if_pos h] at this; cases this
    ·omega
  | some r =>
    rw [hs] at hb;obtain ⟨i, _, _, hf, _⟩ := vN hs;by_cases h : 27 < (p.getD i []).length
    ·rw [if_pos h] at hf; cases hf; cases hb
    ·rw [if_neg h] at hf; cases hf
structure Pic (p : List (List Int)) (h n : Nat) : Prop where
 len : p.length = h
 row : ∀ r ∈ p, r.length = n
 h1 : 1 <= h
 h2 : h <= 24
 n1 : 1 <= n
 n2 : n <= 24
theorem q2I {p : List (List Int)} (h : chk p = 0) : ∃ n, Pic p p.length n := by
 unfold chk at h;by_cases h0 : p.length = 0
 ·rw [if_pos h0] at h; cases h
 ·rw [if_neg h0] at h;by_cases h1 : 24 < p.length
  ·rw [if_pos h1] at h; cases h
  ·rw [if_neg h1] at h;obtain ⟨r0, hr0, m0⟩ := jE (show 0 < p.length by omega)
   have hall : ∀ r ∈ p, gM r0.length r = 0 := by
    intro r hr;obtain ⟨i, hi, rfl⟩ := List.getElem_of_mem hr;unfold q5R at h
    cases hs : scan (fun i => if gM (p.getD 0 []).length (p.getD i []) ≠ 0 then some (gM (p.getD 0 []).length (p.getD i [])) else none) p.length 0 with
    | none =>
      have := fB.1 hs i (Nat.zero_le _) (by omega);rw [getD_at hr0, getD_at (List.getElem?_eq_getElem hi)] at this;by_cases hq : gM r0.length p[i] ≠ 0
      ·rw [if_pos hq] at this; cases this
      ·simpa using hq
    | some v =>
      rw [hs] at h;have h : v = 0 := h;obtain ⟨j, _, _, hf, _⟩ := vN hs;by_cases hq : gM (p.getD 0 []).length (p.getD j []) ≠ 0
      ·rw [if_pos hq] at hf;cases hf;exact absurd h hq
      ·rw [if_neg hq] at hf; cases hf
   have hrow : ∀ r ∈ p, r.length = r0.length ∧ 1 <= r.length ∧ r.length <= 24 := by
    intro r hr;have := hall r hr;unfold gM at this;by_cases a1 : r.length = 0
    ·rw [if_pos a1] at this; cases this
    ·rw [if_neg a1] at this;by_cases a2 : 24 < r.length
     ·rw [if_pos a2] at this; cases this
     ·rw [if_neg a2] at this;by_cases a3 : r.length ≠ r0.length
      ·rw [if_pos a3] at this; cases this
      ·exact ⟨by simpa using a3, by omega, by omega⟩
   have := hrow r0 m0;exact ⟨r0.length, rfl, fun r hr => (hrow r hr).1, by omega, by omega, this.2.1, this.2.2⟩
def bl (s : ByteArray) : List UInt8 := s.data.toList
theorem xM (s : ByteArray) : (bl s).length = s.size := rfl
theorem qNS {s t : ByteArray} (h : bl s = bl t) : s = t := ByteArray.ext (Array.toList_inj.1 h)
theorem qZS (s t : ByteArray) : bl (s ++ t) = bl s ++ bl t := by unfold bl; rw [ByteArray.data_append, Array.toList_append]
theorem qEN (s : ByteArray) (a b : Nat) : bl (s.extract a b) = ((bl s).drop a).take (b - a) := by
 unfold bl; rw [ByteArray.data_extract, Array.toList_extract]
theorem q47 (l : List UInt8) : bl ⟨l.toArray⟩ = l := rfl
theorem q0J {s : ByteArray} {i : Nat} (h : i < s.size) : s.get! i = (bl s)[i]'h := by
 have h' : i < s.data.size := h;show s.data[i]! = s.data.toList[i];rw [getElem!_pos s.data i h'];rfl
theorem q14 (s : ByteArray) : ∀ (m i : Nat) (r : List UInt8), s.size - i = m -> ByteArray.toList.loop s i r = r.reverse ++ (bl s).drop i := by
 intro m
 induction m with
 | zero =>
   intro i r h;rw [ByteArray.toList.loop, if_neg (by omega), List.drop_of_length_le (by rw [xM]; omega), List.append_nil]
 | succ m ih =>
   intro i r h;have hi : i < s.size := by omega
   rw [ByteArray.toList.loop, if_pos hi, ih (i + 1) _ (by omega), q0J hi];rw [List.drop_eq_getElem_cons (show i < (bl s).length from hi)];simp only [List.reverse_cons, List.append_assoc, List.singleton_append];rfl
theorem qHO (s : ByteArray) : s.toList = bl s := by
 show ByteArray.toList.loop s 0 [] = _;rw [q14 s _ 0 [] rfl]; rfl
theorem qOY (s t : ByteArray) : (s.toList == t.toList) = decide (bl s = bl t) := by
 rw [qHO, qHO];by_cases h : bl s = bl t <;> simp [h]
theorem qAC (s : ByteArray) (i : Nat) : gU s (i : Int) = ((bl s)[i]?).map fun b => (b.toNat : Int) := by
 unfold gU;rw [if_pos (by omega), Int.toNat_natCast];by_cases h : i < s.size
 ·rw [getElem?_pos s i h, List.getElem?_eq_getElem (show i < (bl s).length from h)];rfl
 ·rw [getElem?_neg s i h, List.getElem?_eq_none (by rw [xM]; omega)]
theorem foldl_loop {β : Type} (f : β -> UInt8 -> β) (s : ByteArray) : ∀ (m j : Nat) (b : β), j + m = s.size -> ByteArray.foldlM.loop (m := _root_.Id) (fun x y => pure (f x y)) s s.size (Nat.le_refl _) m j b = ((bl s).drop j).foldl f b
 | 0, j, b, h => by
   rw [List.drop_of_length_le (by rw [xM]; omega)];unfold ByteArray.foldlM.loop;split <;> rfl
 | m + 1, j, b, h => by
   have hj : j < s.size := by omega
   unfold ByteArray.foldlM.loop;rw [dif_pos hj, List.drop_eq_getElem_cons (show j < (bl s).length from hj), List.foldl_cons];exact foldl_loop f s m (j + 1) _ (by omega)
theorem q5E (s : ByteArray) (c : Int) : q3Z s c = (((bl s).countP fun x => x == c.toNat.toUInt8 : Nat) : Int) := by
 have h1 : q3Z s c = (bl s).foldl (fun (n : Int) x => if x == c.toNat.toUInt8 then n + 1 else n) ((0 : Nat) : Int) := by
  unfold q3Z ByteArray.foldl ByteArray.foldlM;rw [dif_pos (Nat.le_refl _)];exact foldl_loop _ s s.size 0 _ (by omega)
 rw [h1]
 have key : ∀ (l : List UInt8) (n : Nat), l.foldl (fun (n : Int) x => if x == c.toNat.toUInt8 then n + 1 else n) (n : Int) = ((n + l.countP (fun x => x == c.toNat.toUInt8) : Nat) : Int) := by
  intro l
  induction l with
  | nil => intro n; simp
  | cons x l ih =>
    intro n;rw [List.foldl_cons, List.countP_cons];by_cases hx : (x == c.toNat.toUInt8) = true
    ·rw [if_pos hx, if_pos hx];have := ih (n + 1);rw [show ((n + 1 : Nat) : Int) = (n : Int) + 1 by omega] at this;rw [this];omega
    ·rw [if_neg hx, if_neg hx, ih n]; rfl
 rw [key _ 0, Nat.zero_add]
abbrev nl : UInt8 := 10
theorem qZ2 (s : ByteArray) : (∃ m : Nat, qRF s 10 = (m : Int) ∧ m < s.size ∧ (bl s)[m]? = some nl ∧ ∀ j, j < m -> (bl s)[j]? ≠ some nl) ∨ (qRF s 10 = -1 ∧ nl ∉ bl s) := by
 have hc : (10 : Int).toNat.toUInt8 = nl := rfl
 have hg : ∀ i, i < s.size -> s[i]! = (bl s).getD i 0 := fun i hi => by
  rw [getElem!_pos s i hi];have : (bl s)[i]? = some s[i] := List.getElem?_eq_getElem (show i < (bl s).length from hi);simp [List.getD, this]
 unfold qRF;rw [hc]
 cases hf : (List.range s.size).find? (fun i => s[i]! == nl) with
 | some m =>
   refine .inl ⟨m, rfl, ?_⟩;have h1 := List.find?_some hf;have hm := List.mem_range.1 (List.mem_of_find?_eq_some hf);have h2 := List.find?_range_eq_some.1 hf;refine ⟨hm, ?_, fun j hj hb => ?_⟩
   ·have h1 : (s[m]! == nl) = true := h1;rw [hg m hm, beq_iff_eq] at h1;rw [<- h1];rw [List.getElem?_eq_getElem (show m < (bl s).length from hm)];simp [List.getD, List.getElem?_eq_getElem (show m < (bl s).length from hm)]
   ·have := h2.2.2 j hj;rw [hg j (by omega)] at this;simp [List.getD, hb] at this
 | none =>
   refine .inr ⟨rfl, fun hm => ?_⟩;obtain ⟨i, hi, e⟩ := List.getElem_of_mem hm;have := List.find?_eq_none.1 hf i (List.mem_range.2 hi);rw [hg i hi] at this;simp [List.getD, List.getElem?_eq_getElem hi, e] at this
def spl : List UInt8 -> List (List UInt8)
 | [] => [[]]
 | b :: l => if b = nl then [] :: spl l else match spl l with
   | x :: ls => (b :: x) :: ls
   | [] => [[b]]
theorem qP8 (b : UInt8) (l : List UInt8) : spl (b :: l) = if b = nl then [] :: spl l else match spl l with
 | x :: ls => (b :: x) :: ls
 | [] => [[b]] := rfl
theorem tT (l : List UInt8) : ∃ x ls, spl l = x :: ls := by
 cases l with
 | nil => exact ⟨_, _, rfl⟩
 | cons b l =>
   unfold spl;split
   ·exact ⟨_, _, rfl⟩
   ·split <;> exact ⟨_, _, rfl⟩
theorem qZU : ∀ {l : List UInt8}, nl ∉ l -> spl l = [l]
 | [], _ => rfl
 | b :: l, h => by
   rw [List.mem_cons, not_or] at h;rw [qP8];rw [if_neg (fun e => h.1 e.symm), qZU h.2]
theorem qTO : ∀ {l : List UInt8} {m : Nat}, l[m]? = some nl -> (∀ j, j < m -> l[j]? ≠ some nl) -> spl l = l.take m :: spl (l.drop (m + 1))
 | [], m, h, _ => by simp at h
 | b :: l, 0, h, _ => by
   simp at h;rw [qP8, if_pos h]; rfl
 | b :: l, m + 1, h, hj => by
   have hb : b ≠ nl := fun e => hj 0 (by omega) (by simp [e])
   rw [qP8]
   rw [if_neg hb, qTO (l := l) (m := m) (by simpa using h) fun j hjm => by
    have := hj (j + 1) (by omega)
    simpa using this]
   rfl
theorem qAS : ∀ l : List UInt8, (spl l).length = l.countP (fun x => x == nl) + 1
 | [] => rfl
 | b :: l => by
   have ih := qAS l;rw [qP8];rw [List.countP_cons];by_cases hb : b = nl
   ·rw [if_pos hb, if_pos (by simp [hb]), List.length_cons, ih]
   ·rw [if_neg hb, if_neg (by simpa using hb)];obtain ⟨x, ls, e⟩ := tT l;rw [e] at ih ⊢;exact ih
def gd (b : UInt8) : Bool := decide (97 <= b.toNat) && decide (b.toNat <= 104)
def cl (b : UInt8) : Int := (b.toNat : Int) - 97
def rw1 (l : List UInt8) : Option (List Int) := if l.all gd = true then some (l.map cl) else none
inductive PRes where
 | ok (p : List (List Int))
 | er (n : Nat)
def lr : List (List UInt8) -> List (List Int) -> PRes
 | [], p => .ok p
 | l :: ls, p => match rw1 l with
   | some r => lr ls (p ++ [r])
   | none => .er (p.length + 1)
inductive BRes where
 | ok (p : List (List Int)) (r : List Int)
 | er (n : Nat)
def rp : List UInt8 -> List (List Int) -> List Int -> BRes
 | [], p, r => .ok p r
 | b :: l, p, r => if b = nl then rp l (p ++ [r]) [] else if gd b = true then rp l p (r ++ [cl b]) else .er (p.length + 1)
def up : PRes -> BRes
 | .ok p => .ok p []
 | .er n => .er n
theorem q6F (l : List UInt8) (ls : List (List UInt8)) (p : List (List Int)) : lr (l :: ls) p = match rw1 l with
 | some r => lr ls (p ++ [r])
 | none => .er (p.length + 1) := rfl
theorem qDS {b : UInt8} {l : List UInt8} (h : gd b = true) : rw1 (b :: l) = (rw1 l).map (cl b :: ·) := by
 unfold rw1;rw [List.all_cons, h, Bool.true_and];by_cases hl : l.all gd = true
 ·rw [if_pos hl, if_pos hl]; rfl
 ·rw [if_neg hl, if_neg hl]; rfl
theorem qEZ {b : UInt8} {l : List UInt8} (h : gd b = false) : rw1 (b :: l) = none := by
 unfold rw1;rw [List.all_cons, h, Bool.false_and, if_neg (by simp)]
theorem q2Z : ∀ (l : List UInt8) (p : List (List Int)) (r : List Int) (x : List UInt8) (ls : List (List UInt8)), spl l = x :: ls -> rp (l ++ [nl]) p r = (match rw1 x with | some q => up (lr ls (p ++ [r ++ q])) | none => .er (p.length + 1))
 | [], p, r, x, ls, h => by
   cases h;show (if nl = nl then rp [] (p ++ [r]) [] else _) = up (lr [] (p ++ [r ++ []]));rw [if_pos rfl, List.append_nil]; rfl
 | b :: l, p, r, x, ls, h => by
   show (if b = nl then rp (l ++ [nl]) (p ++ [r]) [] else if gd b = true then rp (l ++ [nl]) p (r ++ [cl b]) else .er (p.length + 1)) = _;obtain ⟨y, ms, e⟩ := tT l;rw [qP8] at h;by_cases hb : b = nl
   ·rw [if_pos hb] at h ⊢;cases h;rw [q2Z l _ _ y ms e, e];show _ = up (lr (y :: ms) (p ++ [r ++ []]));rw [List.append_nil, q6F]
    cases rw1 y with
    | none => simp [up]
    | some q => simp
   ·rw [if_neg hb] at h ⊢;rw [e] at h;simp only [List.cons.injEq] at h;obtain ⟨rfl, rfl⟩ := h
    cases hg : gd b with
    | true =>
      rw [if_pos rfl, q2Z l _ _ y ms e, qDS hg]
      cases rw1 y with
      | none => rfl
      | some q => simp
    | false => rw [if_neg (by simp), qEZ hg]
theorem q5H (l : List UInt8) : rp (l ++ [nl]) [] [] = up (lr (spl l) []) := by
 obtain ⟨x, ls, e⟩ := tT l;rw [q2Z l [] [] x ls e, e, q6F]
 cases rw1 x with
 | none => rfl
 | some q => simp
theorem q54 : bl (⟨#[10]⟩ : ByteArray) = [nl] := rfl
theorem pK (s : ByteArray) : bl s = [] ∨ ∃ i a, bl s = i ++ [a] := by
 rcases List.eq_nil_or_concat (bl s) with h | ⟨i, a, h⟩
 ·exact .inl h
 ·exact .inr ⟨i, a, by simpa using h⟩
theorem q8A {n : Nat} (h1 : 1 <= n) (h : n < 2 ^ 62) : IntKind.i64.wrap ((n : Int) - ((1 : Nat) : Int)) = ((n - 1 : Nat) : Int) := by
 rw [qDL (by omega) (by omega)]; omega
theorem q5X {s : ByteArray} (h : bl s = []) : H155 (s, ⟨#[10]⟩) = some false := by
 show (G155 s ⟨#[10]⟩).run = _;unfold G155;have hs : s.size = 0 := by rw [<- xM, h]; rfl
 have h1 : ByteArray.size ⟨#[10]⟩ = 1 := rfl;rw [qE3, hs, h1, decide_eq_false (by omega), qN, xI]
theorem q38 {s : ByteArray} {i : List UInt8} {a : UInt8} (h : bl s = i ++ [a]) (hl : s.size < 2 ^ 62) : H155 (s, ⟨#[10]⟩) = some (decide (a = nl)) := by
 show (G155 s ⟨#[10]⟩).run = _;unfold G155;have hs : s.size = i.length + 1 := by rw [<- xM, h]; simp
 have h1 : ByteArray.size ⟨#[10]⟩ = 1 := rfl;have hb : qC5 s.size ((s.size - 1 : Nat) : Int) = some (s.size - 1) := mX (by omega);rw [qE3, h1, decide_eq_true (by omega), qQ, q8A (by omega) hl, hb, qK, xI, qOY, qEN, q54, h, hs];have e1 : (i ++ [a]).drop (i.length + 1 - 1) = [a] := by simp
 rw [e1]
 have e2 : [a].take (i.length + 1 - (i.length + 1 - 1)) = [a] := by
  have : i.length + 1 - (i.length + 1 - 1) = 1 := by omega
  rw [this]; rfl
 rw [e2]
 congr 1
 by_cases q : a = nl <;> simp [q]
theorem q4M {s : ByteArray} (h : bl s = []) : H121 (s, ⟨#[10]⟩) = some false := by
 show (G121 s ⟨#[10]⟩).run = _;unfold G121;rw [q5X h, qK, xI]
theorem q6Z {s : ByteArray} {i : List UInt8} {a : UInt8} (h : bl s = i ++ [a]) (hl : s.size < 2 ^ 62) : H121 (s, ⟨#[10]⟩) = some (decide (a = nl)) := by
 show (G121 s ⟨#[10]⟩).run = _;unfold G121;rw [q38 h hl, qK, xI]
theorem q70 {s : ByteArray} {i : List UInt8} (h : bl s = i ++ [nl]) (hl : s.size < 2 ^ 62) : ∃ t, H123 (s, ⟨#[10]⟩) = some t ∧ bl t = i := by
 refine ⟨s.extract 0 (s.size - 1), ?_, ?_⟩
 ·show (G123 s ⟨#[10]⟩).run = _;unfold G123
  have h2 : H157 (s, ⟨#[10]⟩) = some (s.extract 0 (s.size - 1)) := by
   show (G157 s ⟨#[10]⟩).run = _;unfold G157;have hs : s.size = i.length + 1 := by rw [<- xM, h]; simp
   have h1 : ByteArray.size ⟨#[10]⟩ = 1 := rfl;have hb : qC5 s.size ((s.size - 1 : Nat) : Int) = some (s.size - 1) := mX (by omega);rw [q38 h hl, qK, decide_eq_true rfl, qQ, h1, q8A (by omega) hl, hb, qK, xI]
  rw [h2, qK, xI]
 ·have hs : s.size = i.length + 1 := by rw [<- xM, h]; simp
  rw [qEN, h, hs, List.drop_zero];simp
theorem q7H (s : ByteArray) : H185 (s, ⟨#[10]⟩) = some (qRF s 10) := by
 show (G185 s ⟨#[10]⟩).run = _;unfold G185
 have h : H205 (s, ⟨#[10]⟩) = some (qRF s 10) := by
  show (G205 s ⟨#[10]⟩).run = _;unfold G205;have h1 : ByteArray.size ⟨#[10]⟩ = 1 := rfl;have h2 : gU ⟨#[10]⟩ 0 = some 10 := (qAC ⟨#[10]⟩ 0).trans rfl;rw [h1, qBE, show (!(((1 : Nat) : Int) == 0)) = true from rfl, qQ, qOY];by_cases q : bl ⟨#[10]⟩ = bl s
  ·rw [decide_eq_true q, qQ, xI]
   rcases qZ2 s with ⟨m, e1, e2, _, _⟩ | ⟨_, e2⟩
   ·have : s.size = 1 := by rw [<- xM, <- q]; rfl
    have : m = 0 := by omega
    rw [e1, this]; rfl
   ·rw [<- q, q54] at e2;exact absurd (List.mem_singleton_self nl) e2
  ·rw [decide_eq_false q, qN, show (((1 : Nat) : Int) == 1) = true from rfl, qQ, h2, qK, xI]
 rw [h, qK, xI]
theorem q7Z (s : ByteArray) : H184 (s, ⟨#[10]⟩) = some (((bl s).countP fun x => x == nl : Nat) : Int) := by
 show (G184 s ⟨#[10]⟩).run = _;unfold G184;have h1 : ByteArray.size ⟨#[10]⟩ = 1 := rfl;have h2 : gU ⟨#[10]⟩ 0 = some 10 := (qAC ⟨#[10]⟩ 0).trans rfl;rw [h1, show (((1 : Nat) : Int) == 0) = false from rfl, qN, show (((1 : Nat) : Int) == 1) = true from rfl, qQ, h2, qK, xI, q5E];rfl
theorem qSF (l : List UInt8) : l.countP (fun x => x == nl) <= l.length := List.countP_le_length
theorem q72 {s : ByteArray} (hs : s.size <= 60000) : ∃ ls, H122 (s, ⟨#[10]⟩) = some ls ∧ ls.map bl = spl (bl s) := by
 let c := (bl s).countP fun x => x == nl
 have hc : c <= s.size := qSF (bl s);have h1 : ByteArray.size ⟨#[10]⟩ = 1 := rfl;have e1 : IntKind.i64.wrap ((c : Int) + 1) = ((c + 1 : Nat) : Int) := by rw [qDL (by omega) (by omega)]; omega
 have e2 : IntKind.i64.wrap ((s.size : Int) + 1) = ((s.size + 1 : Nat) : Int) := by rw [qDL (by omega) (by omega)]; omega
 have e3 : (bif decide (((s.size + 1 : Nat) : Int) < ((c + 1 : Nat) : Int)) then ((s.size + 1 : Nat) : Int) else ((c + 1 : Nat) : Int)) = ((c + 1 : Nat) : Int) := by
  rw [decide_eq_false (by omega)]; rfl
 have e4 : IntKind.i64.wrap (((c + 1 : Nat) : Int) - 1) = (c : Int) := by rw [qDL (by omega) (by omega)]; omega
 have main : ∃ ls, H156 (s, ⟨#[10]⟩, 0, -1) = some ls ∧ ls.map bl = spl (bl s) := by
  have q1 : ((-1 : Int) == 0) = false := rfl;have q2 : ((⟨#[10]⟩ : ByteArray).toList == (⟨#[]⟩ : ByteArray).toList) = false := by rw [qOY]; rfl
  have q3 : decide ((-1 : Int) < 0) = true := rfl
  have key : ∀ (v : Option (List ByteArray)), (∀ t d : _, (bl t).countP (fun x => x == nl) = 0 -> d.length = c -> spl (bl s) = d.map bl ++ spl (bl t) -> some (d ++ [t]) = v) -> H156 (s, ⟨#[10]⟩, 0, -1) = v := by
   intro v hv;show (G156 s ⟨#[10]⟩ 0 (-1)).run = v;unfold G156;rw [q1, qN, q2, qN, q3, qQ, q7Z, qK];show (Tree.bind (mkN (bif decide (IntKind.i64.wrap ((s.size : Int) + 1) < IntKind.i64.wrap ((c : Int) + 1)) then IntKind.i64.wrap ((s.size : Int) + 1) else IntKind.i64.wrap ((c : Int) + 1))) _).run = v;rw [e1, e2, e3, q8T (show c + 1 <= 65536 by omega), qK]
   refine aX c (fun (k : Nat) (x : ByteArray × List ByteArray) => (x.1, (k : Int), x.2)) (fun k x => ∃ d : List ByteArray, d.length = k ∧ x.2 = d ++ List.replicate (c + 1 - k) (⟨#[]⟩ : ByteArray) ∧ spl (bl s) = d.map bl ++ spl (bl x.1) ∧ (bl x.1).countP (fun x => x == nl) = c - k ∧ x.1.size <= 60000)
    (fun k x => (x.1.extract ((qRF x.1 10).toNat + 1) x.1.size, x.2.set k (x.1.extract 0 (qRF x.1 10).toNat))) (fun x => Sum.inl (x.1, (c : Int), x.2)) (s, List.replicate (c + 1) (⟨#[]⟩ : ByteArray)) rfl ⟨[], rfl, by simp, rfl, by simp [c], hs⟩ (fun k x hk hI => ?_) (fun x hI => ?_) (fun hI => ?_)
   ·obtain ⟨t, a⟩ := x;obtain ⟨d, d1, d2, d3, d4, d5⟩ := hI;simp only at d2 d3 d4 d5
    rcases qZ2 t with ⟨m, i1, i2, i3, i4⟩ | ⟨i1, i2⟩
    ·have hk3 : (k : Int) < (c : Int) := by omega
     have a1 : ¬ ((m : Int) < 0) := by omega
     have a2 : IntKind.i64.wrap ((m : Int) + 0) = (m : Int) := by rw [qDL (by omega) (by omega)]; omega
     have a3 : IntKind.i64.wrap ((m : Int) + ((1 : Nat) : Int)) = ((m + 1 : Nat) : Int) := by rw [qDL (by omega) (by omega)]; omega
     have al : a.length = c + 1 := by rw [d2]; simp; omega
     have ak : k < a.length := by omega
     obtain ⟨y, hy, _⟩ := jE ak;have r185 : H185 (t, ⟨#[10]⟩) = some (m : Int) := (q7H t).trans (by rw [i1]);have b1 : qC5 t.size (m : Int) = some m := mX (by omega);have b2 : qC5 t.size ((m + 1 : Nat) : Int) = some (m + 1) := mX (by omega);refine ⟨?_, d ++ [t.extract 0 m], by simp [d1], ?_, ?_, ?_, ?_⟩
     ·simp only [h1, e4, qDO hk3, qQ, r185, qK, i1, qGD a1, qN, a2, b1, jF ak, hy, a3, b2, aP (show k < 2 ^ 62 by omega), Int.toNat_natCast];rfl
     ·simp only [i1, Int.toNat_natCast];rw [d2, List.set_append_right _ _ (by omega), d1, Nat.sub_self];have : c + 1 - k = (c + 1 - (k + 1)) + 1 := by omega
      rw [this, List.replicate_succ, List.set_cons_zero];simp
     ·simp only [i1, Int.toNat_natCast];rw [d3, qTO i3 i4, List.map_append, List.append_assoc]
      congr 1
      show _ = [bl (t.extract 0 m)] ++ _;rw [qEN, qEN, List.drop_zero, Nat.sub_zero];have : ((bl t).drop (m + 1)).take (t.size - (m + 1)) = (bl t).drop (m + 1) := List.take_of_length_le (by rw [List.length_drop, xM]; omega);rw [this]; rfl
     ·simp only [i1, Int.toNat_natCast];have hh := qAS (bl t);rw [qTO i3 i4, List.length_cons, qAS, d4] at hh;rw [qEN];have : ((bl t).drop (m + 1)).take (t.size - (m + 1)) = (bl t).drop (m + 1) := List.take_of_length_le (by rw [List.length_drop, xM]; omega);rw [this];omega
     ·simp only [i1, Int.toNat_natCast, ByteArray.size_extract]; omega
    ·exfalso;have : (bl t).countP (fun x => x == nl) = 0 := List.countP_eq_zero.2 fun x hx hq => i2 (by rw [beq_iff_eq] at hq; rw [<- hq]; exact hx)
     omega
   ·simp only [e4, qGD (Int.lt_irrefl _), qN];rfl
   ·obtain ⟨d, d1, d2, d3, d4, d5⟩ := hI;generalize qC9 _ c 0 _ = x at d2 d3 d4 d5;obtain ⟨t, a⟩ := x;simp only at d2 d3 d4 d5;have al : a.length = c + 1 := by rw [d2]; simp; omega
    have ak : c < a.length := by omega
    obtain ⟨y, hy, _⟩ := jE ak;have b1 : qC5 a.length ((c + 1 : Nat) : Int) = some (c + 1) := mX (by omega)
    have hfin : List.take (c + 1) (List.drop 0 (a.set c t)) = d ++ [t] := by
     rw [List.drop_zero, d2, List.set_append_right _ _ (by omega), d1, Nat.sub_self];have : c + 1 - c = 1 := by omega
     rw [this, List.replicate_succ, List.set_cons_zero, List.replicate_zero];exact List.take_of_length_le (by simp; omega)
    simp only [wC, jF ak, qK, hy, e1, b1, xI, hfin];exact hv t d (by omega) d1 d3
  have hmk : ∀ d : List ByteArray, (d.map bl).map (fun l => (⟨l.toArray⟩ : ByteArray)) = d := fun d => by
   rw [List.map_map]
   conv => rhs; rw [<- List.map_id d]
   exact List.map_congr_left fun x _ => qNS rfl
  refine ⟨(spl (bl s)).map fun l => ⟨l.toArray⟩, key _ fun t d h0 hd hsp => ?_, ?_⟩
  ·rw [hsp, qZU (fun hm => List.countP_eq_zero.1 h0 nl hm (by simp)), List.map_append, hmk];rfl
  ·rw [List.map_map]
   conv => rhs; rw [<- List.map_id (spl (bl s))]
   exact List.map_congr_left fun x _ => rfl
 obtain ⟨ls, m1, m2⟩ := main;refine ⟨ls, ?_, m2⟩;show (G122 s ⟨#[10]⟩).run = _;unfold G122;rw [m1, qK, xI]
end Go.Proofs.YtpdlblofcdcikaaGreatDoor
namespace Go.Proofs.YtpdlblofcdcikaaGreatDoor
open Go Go.Idl Go.Sv
theorem q5F {s : ByteArray} {k : Nat} {b : UInt8} (h : (bl s)[k]? = some b) : (s.get! k).toNat = b.toNat := by
 obtain ⟨h1, h2⟩ := List.getElem?_eq_some_iff.1 h;rw [q0J (show k < s.size from h1)];exact congrArg UInt8.toNat h2
theorem qVV {b : UInt8} : gd b = true ↔ 97 <= b.toNat ∧ b.toNat <= 104 := by
 unfold gd; simp
theorem q12 {s : ByteArray} {k : Nat} {b : UInt8} (h : (bl s)[k]? = some b) (hb : b.toNat < 128) : Utf8.decode s k = (b.toNat, 1) := by
 unfold Utf8.decode;simp only [Nat.add_zero, q5F h];rw [if_pos hb]
theorem qPK {c : Nat} (h : Utf8.valid (c : Int) = true) : c <= 1114111 := by
 unfold Utf8.valid at h;simp at h;omega
theorem qYL {s : ByteArray} {k : Nat} {b : UInt8} (h : (bl s)[k]? = some b) (hb : 128 <= b.toNat) : 128 <= (Utf8.decode s k).1 ∧ (Utf8.decode s k).1 <= 1114111 := by
 unfold Utf8.decode;simp only [Nat.add_zero, q5F h];rw [if_neg (by omega)];split
 ·split
  ·have h1 : b.toNat % 32 < 32 := Nat.mod_lt _ (by omega);have h2 : (s.get! (k + 1)).toNat % 64 < 64 := Nat.mod_lt _ (by omega);constructor <;> omega
  ·exact ⟨by decide, by decide⟩
 ·split
  ·split
   ·rename_i hc;simp only [Bool.and_eq_true, decide_eq_true_eq] at hc;have := qPK hc.2;constructor <;> omega
   ·exact ⟨by decide, by decide⟩
  ·split
   ·split
    ·rename_i hc;simp only [Bool.and_eq_true, decide_eq_true_eq] at hc;have := qPK hc.2;constructor <;> omega
    ·exact ⟨by decide, by decide⟩
   ·exact ⟨by decide, by decide⟩
theorem wrap32 {n : Int} (h0 : -2147483648 <= n) (h1 : n <= 2147483647) : IntKind.i32.wrap n = n := by
 by_cases hn : 0 <= n
 ·have e : n % (4294967296 : Int) = n := Int.emod_eq_of_lt hn (by omega);have hw : IntKind.i32.wrap n = if (true && decide (n % (4294967296 : Int) ≥ 2147483648)) = true then n % (4294967296 : Int) - 4294967296 else n % (4294967296 : Int) := rfl;rw [hw];simp only [e];rw [if_neg (by simp; omega)]
 ·have e : n % (4294967296 : Int) = n + 4294967296 := by omega
  have hw : IntKind.i32.wrap n = if (true && decide (n % (4294967296 : Int) ≥ 2147483648)) = true then n % (4294967296 : Int) - 4294967296 else n % (4294967296 : Int) := rfl;rw [hw];simp only [e];rw [if_pos (by simp; omega)];omega
theorem q7Y {s : ByteArray} {k : Nat} {b : UInt8} (h : (bl s)[k]? = some b) : H124 (IntKind.i64.wrap (IntKind.i32.wrap (((Utf8.decode s k).fst : Int) - 97))) = some (gd b) ∧ (gd b = true -> IntKind.i64.wrap (IntKind.i32.wrap (((Utf8.decode s k).fst : Int) - 97)) = cl b ∧ (Utf8.decode s k).snd = 1) := by
 by_cases hb : b.toNat < 128
 ·rw [q12 h hb]
  have e : IntKind.i64.wrap (IntKind.i32.wrap ((b.toNat : Int) - 97)) = cl b := by
   rw [wrap32 (by omega) (by omega), qDL (by omega) (by omega)]; rfl
  refine ⟨?_, fun _ => ⟨e, rfl⟩⟩;show H124 (IntKind.i64.wrap (IntKind.i32.wrap ((b.toNat : Int) - 97))) = _;rw [e, q1I]
  congr 1
  unfold gd cl
  congr 1
  ·by_cases q : 97 <= b.toNat
   ·rw [decide_eq_true q, decide_eq_true (by omega)]
   ·rw [decide_eq_false q, decide_eq_false (by omega)]
  ·by_cases q : b.toNat <= 104
   ·rw [decide_eq_true q, decide_eq_true (by omega)]
   ·rw [decide_eq_false q, decide_eq_false (by omega)]
 ·obtain ⟨h1, h2⟩ := qYL h (by omega)
  have hg : gd b = false := by
   cases hq : gd b with
   | false => rfl
   | true => have := qVV.1 hq; omega
  rw [hg];refine ⟨?_, fun h => by cases h⟩;rw [wrap32 (by omega) (by omega), qDL (by omega) (by omega), q1I]
  congr 1
  rw [decide_eq_true (by omega), decide_eq_false (by omega)]; rfl
noncomputable def F48 (e : Int) (s10 : List Int × ByteArray × Int) : Option ((List Int × ByteArray × Int) ⊕ ((List Int × ByteArray × Int) ⊕ (List (List Int) × Int × Int) ⊕ Nat × List Int × ByteArray × Int)) :=
 Tree.ite (decide (s10.snd.snd.toNat < s10.snd.fst.size)) (Tree.bind (H124 (IntKind.i64.wrap (IntKind.i32.wrap (((Utf8.decode s10.snd.fst s10.snd.snd.toNat).fst : Int) - 97)))) fun (x11 : Bool) => Tree.ite (!x11) (Tree.ret (Sum.inr (Sum.inr (Sum.inl ([], e, 25))))) (Tree.ite ((s10.fst.length + [IntKind.i64.wrap (IntKind.i32.wrap (((Utf8.decode s10.snd.fst s10.snd.snd.toNat).fst : Int) - 97))].length).ble 1048576) (Tree.ret (Sum.inl (s10.fst ++ [IntKind.i64.wrap (IntKind.i32.wrap (((Utf8.decode s10.snd.fst s10.snd.snd.toNat).fst : Int) - 97))], s10.snd.fst, ((s10.snd.snd.toNat + (Utf8.decode s10.snd.fst s10.snd.snd.toNat).snd : Nat) : Int)))) Tree.fail)) (Tree.ret (Sum.inr (Sum.inl (s10.fst, s10.snd.fst, (s10.snd.snd.toNat : Int)))))
theorem q0Q {e : Int} {s : ByteArray} (hs : s.size <= 60000) : ∀ (m k : Nat) (r : List Int), k + m = s.size -> r.length = k -> yB (F48 e) (r, s, (k : Int)) = some (match rw1 ((bl s).drop k) with
 | some q => Sum.inl (r ++ q, s, (s.size : Int))
 | none => Sum.inr (Sum.inl ([], e, 25)))
 | 0, k, r, h, hr => by
   have hk : k = s.size := by omega
   rw [vV]
   have e1 : F48 e (r, s, (k : Int)) = some (Sum.inr (Sum.inl (r, s, (k : Int)))) := by
    unfold F48;simp only [Int.toNat_natCast];rw [decide_eq_false (by omega), qN]; rfl
   rw [e1, List.drop_of_length_le (by rw [xM]; omega)];simp only [rw1, List.all_nil, if_true, List.map_nil, List.append_nil, hk]
 | m + 1, k, r, h, hr => by
   have hk : k < (bl s).length := by rw [xM]; omega
   have hb : (bl s)[k]? = some (bl s)[k] := List.getElem?_eq_getElem hk;obtain ⟨c1, c2⟩ := q7Y hb;rw [vV, List.drop_eq_getElem_cons hk];generalize (bl s)[k] = b at hb c1 c2;have hkd : decide (k < s.size) = true := decide_eq_true (by omega)
   cases hg : gd b with
   | false =>
     rw [hg] at c1
     have e1 : F48 e (r, s, (k : Int)) = some (Sum.inr (Sum.inr (Sum.inl ([], e, 25)))) := by
      unfold F48;simp only [Int.toNat_natCast];rw [hkd, qQ, c1, qK, show (!false) = true from rfl, qQ]; rfl
     rw [e1, qEZ hg]
   | true =>
     rw [hg] at c1;obtain ⟨c3, c4⟩ := c2 hg
     have e1 : F48 e (r, s, (k : Int)) = some (Sum.inl (r ++ [cl b], s, ((k + 1 : Nat) : Int))) := by
      unfold F48;simp only [Int.toNat_natCast];rw [hkd, qQ, c1, qK, show (!true) = false from rfl, qN, c3, c4, q4A (by omega), qQ]; rfl
     rw [e1];simp only;rw [q0Q hs m (k + 1) (r ++ [cl b]) (by omega) (by simp [hr]), qDS hg]
     cases rw1 ((bl s).drop (k + 1)) with
     | none => rfl
     | some q => simp
def q41 (l : List UInt8) : List (List Int) × Int × Int := match lr (spl l) [] with
 | .ok p => if chk p = 0 then (p, 0, 0) else ([], 0, chk p)
 | .er n => ([], (n : Int), 25)
theorem qA5 {R S τ : Type} {F : S -> Option (S ⊕ τ)} {K : τ -> Tree R} {v : Option R} {s s' : S} (h : F s = some (.inl s')) (hv : (Tree.bind (yB F s') K).run = v) : (Tree.bind (yB F s) K).run = v := by
 rw [vV, h]; exact hv
theorem o6 {R S τ : Type} {F : S -> Option (S ⊕ τ)} {K : τ -> Tree R} {v : Option R} {s : S} {t : τ} (h : F s = some (.inr t)) (hv : (K t).run = v) : (Tree.bind (yB F s) K).run = v := by
 rw [vV, h]; exact hv
theorem q1X {l : List UInt8} {r : List Int} (h : rw1 l = some r) : r.length = l.length ∧ r = l.map cl ∧ l.all gd = true := by
 unfold rw1 at h;split at h
 ·rename_i hg; cases h; exact ⟨by simp, rfl, hg⟩
 ·cases h
theorem q1J : ∀ {ls : List (List UInt8)} {p q : List (List Int)}, lr ls p = .ok q -> q = p ++ ls.map (fun l => l.map cl) ∧ ∀ l ∈ ls, l.all gd = true
 | [], p, q, h => by cases h; exact ⟨by simp, fun l h => by cases h⟩
 | l :: ls, p, q, h => by
   rw [q6F] at h
   cases hr : rw1 l with
   | none => rw [hr] at h; cases h
   | some r =>
     rw [hr] at h;obtain ⟨h1, h2⟩ := q1J h;obtain ⟨_, h3, h4⟩ := q1X hr;refine ⟨by rw [h1, h3]; simp, fun x hx => ?_⟩;rcases List.mem_cons.1 hx with rfl | hx
     ·exact h4
     ·exact h2 x hx
theorem qEM : ∀ {l x : List UInt8}, x ∈ spl l -> x.length <= l.length
 | [], x, h => by
   have : x = [] := by simpa [spl] using h
   rw [this]; exact Nat.le_refl _
 | b :: l, x, h => by
   rw [qP8] at h;by_cases hb : b = nl
   ·rw [if_pos hb] at h;rcases List.mem_cons.1 h with rfl | h
    ·exact Nat.zero_le _
    ·exact Nat.le_succ_of_le (qEM h)
   ·rw [if_neg hb] at h;obtain ⟨y, ls, e⟩ := tT l;rw [e] at h;rcases List.mem_cons.1 h with rfl | h
    ·have := qEM (l := l) (x := y) (by rw [e]; simp);simp; omega
    ·exact Nat.le_succ_of_le (qEM (by rw [e]; exact List.mem_cons_of_mem _ h))
theorem q8U {s : ByteArray} (hs : s.size <= 5000) : H48 s = some (if 4096 < s.size then ([], 0, 26) else if (bl s).getLast? = some nl then q41 (bl s).dropLast else ([], 0, 28)) := by
 have p2 : ∀ a b : Int, H87 [a, b] = some (qH3 [a, b]) := fun a b => q6R (by simp)
 have h89 : ∀ (a : Bool) (b : Int), H89 (a, b) = some (cond a b 0) := fun a b => q6D (a, b)
 have h121 : ∃ x, H121 (s, ⟨#[10]⟩) = some x ∧ x = decide ((bl s).getLast? = some nl) := by
  rcases pK s with h | ⟨i, a, h⟩
  ·exact ⟨_, q4M h, by rw [h]; rfl⟩
  ·refine ⟨_, q6Z h (by omega), ?_⟩;rw [h];simp
 obtain ⟨x, hx, hxx⟩ := h121;show (G48 s).run = _;unfold G48;rw [h89, qK, hx, qK, h89, qK, p2, qK];by_cases h0 : 4096 < s.size
 ·have d0 : decide ((4096 : Int) < (s.size : Int)) = true := decide_eq_true (by omega);rw [d0, if_pos h0];rfl
 ·have d0 : decide ((4096 : Int) < (s.size : Int)) = false := decide_eq_false (by omega);rw [d0, if_neg h0];by_cases h1 : (bl s).getLast? = some nl
  ·rw [if_pos h1, hxx, decide_eq_true h1];have z1 : (qH3 [cond false 26 0, cond (!true) 28 0] != 0) = false := rfl;rw [z1, qN]
   obtain ⟨i, hi⟩ : ∃ i, bl s = i ++ [nl] := by
    rcases pK s with h | ⟨i, a, h⟩
    ·rw [h] at h1; cases h1
    ·rw [h] at h1;simp at h1;exact ⟨i, by rw [h, h1]⟩
   obtain ⟨t, ht, hbt⟩ := q70 hi (by omega);have hil : i.length < 5000 := by have := xM s; rw [hi] at this; simp at this; omega
   have hts : t.size <= 60000 := by rw [<- xM, hbt]; omega
   obtain ⟨ls, hls, hlm⟩ := q72 hts;have hdl : (bl s).dropLast = i := by rw [hi]; simp
   rw [ht, qK, hls, qK, hdl, <- hbt];rw [hbt] at hlm
   have hlen : ls.length <= 5001 := by
    have h1 := qAS i;rw [<- hlm, List.length_map] at h1;have := qSF i;omega
   have hsz : ∀ y ∈ ls, y.size <= 60000 := fun y hy => by
    have := qEM (l := i) (x := bl y) (by rw [<- hlm]; exact List.mem_map_of_mem hy);rw [xM] at this; omega
   have key : ∀ (m k : Nat) (p : List (List Int)), k + m = ls.length -> p.length = k -> ∀ {K : ((Int × List (List Int)) ⊕ (List (List Int) × Int × Int) ⊕ Nat × Int × List (List Int)) -> Tree (List (List Int) × Int × Int)} {v : Option (List (List Int) × Int × Int)}, (match lr ((ls.map bl).drop k) p with
    | .ok q => (K (Sum.inl ((ls.length : Int), q))).run = v
    | .er n => (K (Sum.inr (Sum.inl ([], (n : Int), 25)))).run = v) ->
    (Tree.bind (yB (fun (s7 : Int × List (List Int)) => Tree.ite (decide (s7.fst < (ls.length : Int))) (Tree.bind (idx ls.length s7.fst) fun (x8 : Nat) => Tree.bind ls[x8]? fun (x9 : ByteArray) => Tree.bind (yB (F48 (IntKind.i64.wrap (s7.fst + 1))) ([], x9, ((0 : Nat) : Int))) fun (x10 : (List Int × ByteArray × Int) ⊕ (List (List Int) × Int × Int) ⊕ Nat × List Int × ByteArray × Int) => Tree.sum x10 (fun (s11 : List Int × ByteArray × Int) => Tree.ite ((s7.snd.length + [s11.fst].length).ble 1048576) (Tree.ret (Sum.inl (IntKind.i64.wrap (s7.fst + 1), s7.snd ++ [s11.fst]))) Tree.fail) fun (s11 : (List (List Int) × Int × Int) ⊕ Nat × List Int × ByteArray × Int) => Tree.sum s11 (fun (s12 : List (List Int) × Int × Int) => Tree.ret (Sum.inr (Sum.inr (Sum.inl (s12.fst, s12.snd.fst, s12.snd.snd))))) fun (s12 : Nat × List Int × ByteArray × Int) => Tree.fail) (Tree.ret (Sum.inr (Sum.inl (s7.fst, s7.snd))))) ((k : Int), p)) K).run = v := by
    intro m
    induction m with
    | zero =>
      intro k p h hp K v hv;have hk : k = ls.length := by omega
      rw [List.drop_of_length_le (by simp; omega)] at hv;subst hk;refine o6 (t := Sum.inl ((ls.length : Int), p)) ?_ hv;simp only [qGD (Int.lt_irrefl _), qN];rfl
    | succ m ih =>
      intro k p h hp K v hv;have hk : k < ls.length := by omega
      have hk3 : (k : Int) < (ls.length : Int) := by omega
      obtain ⟨y, hy, my⟩ := jE hk;have hkm : k < (ls.map bl).length := by simp; exact hk
      have hlk : (ls.map bl)[k] = bl y := by
       have h1 : (ls.map bl)[k]? = some (bl y) := by rw [List.getElem?_map, hy]; rfl
       rw [List.getElem?_eq_getElem hkm] at h1;exact Option.some.inj h1
      rw [List.drop_eq_getElem_cons hkm, hlk, q6F] at hv;have hin := q0Q (e := IntKind.i64.wrap ((k : Int) + 1)) (hsz y my) y.size 0 [] (by omega) rfl;rw [List.drop_zero] at hin
      cases hr : rw1 (bl y) with
      | none =>
        rw [hr] at hv hin;refine o6 (t := Sum.inr (Sum.inl ([], ((p.length + 1 : Nat) : Int), 25))) ?_ hv;simp only [qDO hk3, qQ, jF hk, qK, hy];refine (congrArg (fun x => (Tree.bind x _ : Option _)) hin).trans ?_;simp only [qK, qKU, wC];rw [show IntKind.i64.wrap ((k : Int) + 1) = ((p.length + 1 : Nat) : Int) by rw [aP (by omega), hp]];rfl
      | some q =>
        rw [hr] at hv hin;refine qA5 (s' := (((k + 1 : Nat) : Int), p ++ [q])) ?_ (ih (k + 1) (p ++ [q]) (by omega) (by simp [hp]) hv);simp only [qDO hk3, qQ, jF hk, qK, hy];refine (congrArg (fun x => (Tree.bind x _ : Option _)) hin).trans ?_;simp only [List.nil_append, qK, wC, q4A (show p.length < 1048576 by omega), qQ, aP (show k < 2 ^ 62 by omega)];rfl
   refine key ls.length 0 [] (by omega) rfl ?_;rw [List.drop_zero, hlm, hbt];unfold q41
   cases hl : lr (spl i) [] with
   | er n => rfl
   | ok q =>
     obtain ⟨hq, _⟩ := q1J hl
     have hrq : ∀ r ∈ q, r.length < 2 ^ 62 := fun r hr => by
      rw [hq, List.nil_append] at hr;obtain ⟨l, hl, rfl⟩ := List.mem_map.1 hr;have := qEM hl;rw [List.length_map]; omega
     simp only [wC];rw [q7A (fun _ => hrq), qK];by_cases hc : chk q = 0
     ·rw [hc, if_pos rfl]; rfl
     ·have : (chk q != 0) = true := by simpa using hc
      rw [this, if_neg hc]; rfl
  ·rw [if_neg h1, hxx, decide_eq_false h1];rfl
theorem q0S {n : Int} (h0 : 0 <= n) (h1 : n < 256) : IntKind.u8.wrap n = n := by
 have hw : IntKind.u8.wrap n = if (false && decide (n % (256 : Int) ≥ 128)) = true then n % (256 : Int) - 256 else n % (256 : Int) := rfl;rw [hw];simp only [Bool.false_and, Bool.false_eq_true, if_false];exact Int.emod_eq_of_lt h0 h1
theorem q0U {n : Int} (h0 : 0 <= n) (h1 : n < 4294967296) : IntKind.u32.wrap n = n := by
 have hw : IntKind.u32.wrap n = if (false && decide (n % (4294967296 : Int) ≥ 2147483648)) = true then n % (4294967296 : Int) - 4294967296 else n % (4294967296 : Int) := rfl;rw [hw];simp only [Bool.false_and, Bool.false_eq_true, if_false];exact Int.emod_eq_of_lt h0 h1
theorem qI4 {b : UInt8} : ((b.toNat : Int) == 10) = decide (b = nl) := by
 by_cases h : b = nl
 ·rw [h]; rfl
 ·rw [decide_eq_false h];refine beq_eq_false_iff_ne.2 fun e => h ?_
  have : b.toNat = 10 := by omega
  exact UInt8.toNat_inj.1 this
def prs (s : ByteArray) : List (List Int) × Int × Int := if 4096 < s.size then ([], 0, 26) else if (bl s).getLast? = some nl then q41 (bl s).dropLast else ([], 0, 28)
theorem q74 {s : ByteArray} (hs : s.size <= 5000) : H50 s = some (prs s) := by
 show (G50 s).run = _;unfold G50 prs;by_cases h0 : 4096 < s.size
 ·rw [decide_eq_true (by omega), qQ, if_pos h0, xI]
 ·rw [decide_eq_false (by omega), qN, if_neg h0, qBE]
  rcases pK s with he | ⟨i, a, he⟩
  ·have hs0 : s.size = 0 := by rw [<- xM, he]; rfl
   rw [he, hs0];rfl
  ·have hsz : s.size = i.length + 1 := by rw [<- xM, he]; simp
   have q0 : ((s.size : Int) == 0) = false := beq_eq_false_iff_ne.2 (by omega);have hw : IntKind.i64.wrap ((s.size : Int) - 1) = ((i.length : Nat) : Int) := by rw [qDL (by omega) (by omega)]; omega
   have hat : gU s ((i.length : Nat) : Int) = some (a.toNat : Int) := by
    rw [qAC, he]; simp
   rw [q0, show (!false) = true from rfl, qQ, hw, hat, qK]
   have hnl : ((a.toNat : Int) != 10) = !decide (a = nl) := by
    show (!((a.toNat : Int) == 10)) = _;rw [qI4]
   rw [hnl, he];by_cases ha : a = nl
   ·subst ha;have hl : (i ++ [nl]).getLast? = some nl := by simp
    have hd : (i ++ [nl]).dropLast = i := by simp
    rw [decide_eq_true rfl, show (!true) = false from rfl, qN, if_pos hl, hd]
    have key : ∀ (m k : Nat) (p : List (List Int)) (r : List Int), k + m = s.size -> p.length <= k -> r.length <= k -> ∀ {K : ((Int × List (List Int) × List Int) ⊕ (List (List Int) × Int × Int) ⊕ Nat × Int × List (List Int) × List Int) -> Tree (List (List Int) × Int × Int)} {v : Option (List (List Int) × Int × Int)}, (match rp ((bl s).drop k) p r with
     | .ok q t => (K (Sum.inl ((s.size : Int), q, t))).run = v
     | .er n => (K (Sum.inr (Sum.inl ([], (n : Int), 25)))).run = v) ->
     (Tree.bind (yB (fun (s2 : Int × List (List Int) × List Int) => Tree.ite (decide (s2.fst < (s.size : Int))) (Tree.bind (gU s s2.fst) fun (x3 : Int) => Tree.ite (x3 == 10) (Tree.ite ((s2.snd.fst.length + [s2.snd.snd].length).ble 1048576) (Tree.ret (Sum.inl (IntKind.i64.wrap (s2.fst + 1), s2.snd.fst ++ [s2.snd.snd], []))) Tree.fail) (Tree.bind (gU s s2.fst) fun (x4 : Int) => Tree.ite (zZ (decide (x4 < 97)) false) (Tree.bind (gU s s2.fst) fun (x5 : Int) => Tree.ite (decide (104 < x5)) (Tree.ret (Sum.inr (Sum.inr (Sum.inl ([], IntKind.i64.wrap ((s2.snd.fst.length : Int) + 1), 25))))) (Tree.bind (gU s s2.fst) fun (x6 : Int) => Tree.ite ((s2.snd.snd.length + [IntKind.i64.wrap (IntKind.u8.wrap (x6 - 97))].length).ble 1048576) (Tree.ret (Sum.inl (IntKind.i64.wrap (s2.fst + 1), s2.snd.fst, s2.snd.snd ++ [IntKind.i64.wrap (IntKind.u8.wrap (x6 - 97))]))) Tree.fail)) (Tree.ret (Sum.inr (Sum.inr (Sum.inl ([], IntKind.i64.wrap ((s2.snd.fst.length : Int) + 1), 25))))))) (Tree.ret (Sum.inr (Sum.inl (s2.fst, s2.snd.fst, s2.snd.snd))))) ((k : Int), p, r)) K).run = v := by
     intro m
     induction m with
     | zero =>
       intro k p r h hp hr K v hv;have hk : k = s.size := by omega
       rw [List.drop_of_length_le (by rw [xM]; omega)] at hv;subst hk;refine o6 (t := Sum.inl ((s.size : Int), p, r)) ?_ hv;simp only [qGD (Int.lt_irrefl _), qN];rfl
     | succ m ih =>
       intro k p r h hp hr K v hv;have hk : k < (bl s).length := by rw [xM]; omega
       have hk3 : (k : Int) < (s.size : Int) := by omega
       have hb : gU s (k : Int) = some (((bl s)[k].toNat : Nat) : Int) := by rw [qAC, List.getElem?_eq_getElem hk]; rfl
       rw [List.drop_eq_getElem_cons hk] at hv;generalize (bl s)[k] = b at hb hv
       have hv : (match (if b = nl then rp ((bl s).drop (k + 1)) (p ++ [r]) [] else if gd b = true then rp ((bl s).drop (k + 1)) p (r ++ [cl b]) else .er (p.length + 1)) with
        | .ok q t => (K (Sum.inl ((s.size : Int), q, t))).run = v
        | .er n => (K (Sum.inr (Sum.inl ([], (n : Int), 25)))).run = v) := hv
       have hpl : IntKind.i64.wrap ((p.length : Int) + 1) = ((p.length + 1 : Nat) : Int) := aP (by omega);by_cases hbn : b = nl
       ·rw [if_pos hbn] at hv;refine qA5 (s' := (((k + 1 : Nat) : Int), p ++ [r], [])) ?_ (ih (k + 1) (p ++ [r]) [] (by omega) (by simp; omega) (by simp) hv);simp only [qDO hk3, qQ, hb, qK, qI4, decide_eq_true hbn, q4A (show p.length < 1048576 by omega), aP (show k < 2 ^ 62 by omega)];rfl
       ·rw [if_neg hbn] at hv
        cases hg : gd b with
        | true =>
          rw [hg, if_pos rfl] at hv;obtain ⟨g1, g2⟩ := qVV.1 hg;have e : IntKind.i64.wrap (IntKind.u8.wrap ((b.toNat : Int) - 97)) = cl b := by rw [q0S (by omega) (by omega), qDL (by omega) (by omega)]; rfl
          refine qA5 (s' := (((k + 1 : Nat) : Int), p, r ++ [cl b])) ?_ (ih (k + 1) p (r ++ [cl b]) (by omega) (by omega) (by simp; omega) hv);simp only [qDO hk3, qQ, hb, qK, qI4, decide_eq_false hbn, qN, qBE, qGD (show ¬ (b.toNat : Int) < 97 by omega), qGD (show ¬ (104 : Int) < (b.toNat : Int) by omega), Bool.not_false, e, q4A (show r.length < 1048576 by omega), aP (show k < 2 ^ 62 by omega)];rfl
        | false =>
          rw [hg, if_neg (by simp)] at hv;refine o6 (t := Sum.inr (Sum.inl ([], ((p.length + 1 : Nat) : Int), 25))) ?_ hv;by_cases g1 : (b.toNat : Int) < 97
          ·simp only [qDO hk3, qQ, hb, qK, qI4, decide_eq_false hbn, qN, qBE, qDO g1, Bool.not_true, hpl];rfl
          ·have g2 : (104 : Int) < (b.toNat : Int) := by
            have : ¬ (97 <= b.toNat ∧ b.toNat <= 104) := fun h => by rw [qVV.2 h] at hg; cases hg
            omega
           simp only [qDO hk3, qQ, hb, qK, qI4, decide_eq_false hbn, qN, qBE, qGD g1, qDO g2, Bool.not_false, hpl];rfl
    refine key s.size 0 [] [] (by omega) (by simp) (by simp) ?_;rw [List.drop_zero, he, q5H];unfold q41
    cases hq : lr (spl i) [] with
    | er n => rfl
    | ok q =>
      simp only [up, wC];rw [q62, qK];by_cases hc : chk q = 0
      ·rw [hc, if_pos rfl]; rfl
      ·have : (chk q != 0) = true := by simpa using hc
       rw [this, if_neg hc]; rfl
   ·have hl : (i ++ [a]).getLast? ≠ some nl := by simpa using ha
    rw [decide_eq_false ha, if_neg hl];rfl
theorem q4I {s : ByteArray} (hs : s.size <= 5000) : H48 s = some (prs s) := q8U hs
theorem qXB {s : ByteArray} (hs : s.size <= 5000) : (prs s).1.length < 2 ^ 62 ∧ ∀ r ∈ (prs s).1, r.length < 2 ^ 62 := by
 have nil : ([] : List (List Int)).length < 2 ^ 62 ∧ ∀ r ∈ ([] : List (List Int)), r.length < 2 ^ 62 := ⟨by simp, fun r h => by cases h⟩
 unfold prs;split
 ·exact nil
 ·split
  ·unfold q41
   cases hq : lr (spl (bl s).dropLast) [] with
   | er n => exact nil
   | ok q =>
     obtain ⟨e, _⟩ := q1J hq;simp only;split
     ·simp only;rw [List.nil_append] at e;have hl : (bl s).dropLast.length <= 5000 := by rw [List.length_dropLast, xM]; omega
      refine ⟨?_, fun r hr => ?_⟩
      ·have h1 := qAS (bl s).dropLast;have := qSF (bl s).dropLast;rw [e, List.length_map]; omega
      ·rw [e] at hr;obtain ⟨l, hl2, rfl⟩ := List.mem_map.1 hr;have := qEM hl2;rw [List.length_map]; omega
     ·exact nil
  ·exact nil
def ltr (r : List Int) : List Int := r.map fun c => 97 + c
def LT (p : List (List Int)) : List Int := p.flatMap fun r => ltr r ++ [10]
def q9O (r : List Int) : Prop := ∀ c ∈ r, 0 <= c ∧ c < 8
theorem qI1 {r : List Int} (h : tF r = true) : q9O r := fun c hc => by
 have := List.all_eq_true.1 h c hc;simpa using this
theorem qN8 {p : List (List Int)} (h : chk p = 0) : ∀ r ∈ p, tF r = true := by
 unfold chk at h;by_cases h0 : p.length = 0
 ·rw [if_pos h0] at h; cases h
 ·rw [if_neg h0] at h;by_cases h1 : 24 < p.length
  ·rw [if_pos h1] at h; cases h
  ·rw [if_neg h1] at h;intro r hr
   have hall : gM (p.getD 0 []).length r = 0 := by
    obtain ⟨i, hi, rfl⟩ := List.getElem_of_mem hr;unfold q5R at h
    cases hs : scan (fun i => if gM (p.getD 0 []).length (p.getD i []) ≠ 0 then some (gM (p.getD 0 []).length (p.getD i [])) else none) p.length 0 with
    | none =>
      have := fB.1 hs i (Nat.zero_le _) (by omega);rw [getD_at (List.getElem?_eq_getElem hi)] at this;by_cases hq : gM (p.getD 0 []).length p[i] ≠ 0
      ·rw [if_pos hq] at this; cases this
      ·simpa using hq
    | some v =>
      rw [hs] at h;have h : v = 0 := h;obtain ⟨j, _, _, hf, _⟩ := vN hs;by_cases hq : gM (p.getD 0 []).length (p.getD j []) ≠ 0
      ·rw [if_pos hq] at hf;cases hf;exact absurd h hq
      ·rw [if_neg hq] at hf; cases hf
   unfold gM at hall;by_cases a1 : r.length = 0
   ·rw [if_pos a1] at hall; cases hall
   ·rw [if_neg a1] at hall;by_cases a2 : 24 < r.length
    ·rw [if_pos a2] at hall; cases hall
    ·rw [if_neg a2] at hall;by_cases a3 : r.length ≠ (p.getD 0 []).length
     ·rw [if_pos a3] at hall; cases hall
     ·rw [if_neg a3] at hall
      cases hb : tF r with
      | false => rw [hb] at hall; cases hall
      | true => rfl
theorem qV4 {p : List (List Int)} {k : Nat} {r : List Int} (h : p[k]? = some r) : LT (p.take (k + 1)) = LT (p.take k) ++ (ltr r ++ [10]) := by
 unfold LT;rw [List.take_add_one, h, List.flatMap_append];simp
theorem qNF {r : List Int} {k : Nat} {c : Int} (h : r[k]? = some c) : ltr (r.take (k + 1)) = ltr (r.take k) ++ [97 + c] := by
 unfold ltr;rw [List.take_add_one, h, List.map_append];rfl
theorem qWC {p : List (List Int)} (h : ∀ r ∈ p, r.length <= 24) : (LT p).length <= p.length * 25 := by
 induction p with
 | nil => simp [LT]
 | cons r p ih =>
   have h1 := h r (by simp);have h2 := ih fun s hs => h s (by simp [hs])
   unfold LT at h2 ⊢;rw [List.flatMap_cons, List.length_append, List.length_append];have h3 : (r :: p).length * 25 = p.length * 25 + 25 := by rw [List.length_cons, Nat.succ_mul]
   have : (ltr r).length = r.length := by simp [ltr]
   simp only [List.length_cons, List.length_nil];omega
theorem qYN {c : Int} (h0 : 0 <= c) (h1 : c < 8) : IntKind.u8.wrap (IntKind.i32.wrap (97 + IntKind.i32.wrap c)) = 97 + c ∧ decide (IntKind.u32.wrap (IntKind.i32.wrap (97 + IntKind.i32.wrap c)) <= 127) = true := by
 rw [wrap32 (n := c) (by omega) (by omega), wrap32 (by omega) (by omega), q0S (by omega) (by omega), q0U (by omega) (by omega)];exact ⟨rfl, decide_eq_true (by omega)⟩
theorem q8R {p : List (List Int)} {h n : Nat} (hp : Pic p h n) (hc : chk p = 0) : H47 p = some (bText (LT p), 0) := by
 show (G47 p).run = _;unfold G47;have hz : ((0 : Int) != 0) = false := rfl;have h24 := hp.h2;have n24 := hp.n2;have hpl := hp.len;have hrow : ∀ r ∈ p, r.length <= 24 := fun r hr => by rw [hp.row r hr]; exact n24
 rw [q7A (fun _ r hr => by have := hrow r hr; omega), hc, qK, hz, qN];refine aX p.length (fun (k : Nat) (s : List Int × Bool) => ((k : Int), s.1, s.2)) (fun k s => s.1 = LT (p.take k)) (fun k s => (LT (p.take (k + 1)), true)) (fun s => Sum.inl ((p.length : Int), s.1, s.2)) ([], false) rfl rfl (fun k s hk hs => ⟨?_, rfl⟩) (fun s hs => ?_) (fun hI => ?_)
 ·obtain ⟨r, hr, mr⟩ := jE hk;have hk3 : (k : Int) < (p.length : Int) := by omega
  have hcr := qI1 (qN8 hc r mr);have hrl := hrow r mr
  have hlt : (LT (p.take k)).length <= 24 * 25 := by
   have := qWC (p := p.take k) fun r hr => hrow r (List.mem_of_mem_take hr)
   rw [List.length_take] at this;have h2 : min k p.length * 25 <= 24 * 25 := Nat.mul_le_mul_right _ (by have := hp.len; omega);omega
  simp only [qDO hk3, qQ, jF hk, qK, hr];refine aX r.length (fun (j : Nat) (x : List Int × Bool) => ((j : Int), x.1, x.2)) (fun j x => x.1 = LT (p.take k) ++ ltr (r.take j)) (fun j x => (LT (p.take k) ++ ltr (r.take (j + 1)), true)) (fun x => Sum.inl ((r.length : Int), x.1, x.2)) (s.1, s.2) rfl (by rw [hs]; simp [ltr]) (fun j x hj hx => ⟨?_, rfl⟩) (fun x hx => ?_) (fun hJ => ?_)
  ·obtain ⟨c, hcc, mc⟩ := jE hj;have hj3 : (j : Int) < (r.length : Int) := by omega
   obtain ⟨c0, c1⟩ := hcr c mc;obtain ⟨w1, w2⟩ := qYN c0 c1;have hb : x.1.length < 1048576 := by rw [hx]; simp [ltr]; omega
   simp only [qDO hj3, qQ, jF hj, qK, hcc, w2, w1, q4A hb, aP (show j < 2 ^ 62 by omega)];rw [qNF hcc, <- List.append_assoc, <- hx];rfl
  ·simp only [qGD (Int.lt_irrefl _), qN];rfl
  ·generalize qC9 (fun j (x : List Int × Bool) => (LT (p.take k) ++ ltr (r.take (j + 1)), true)) r.length 0 (s.1, s.2) = x at hJ;have hJ : x.1 = LT (p.take k) ++ ltr (r.take r.length) := hJ;rw [List.take_length] at hJ;have hb : x.1.length < 1048576 := by rw [hJ]; simp [ltr]; omega
   have hb2 : ((x.1.length + ([10] : List Nat).length).ble 1048576) = true := Nat.ble_eq_true_of_le (by simp; omega);simp only [wC, aP (show k < 2 ^ 62 by omega)];rw [hb2, qQ, qV4 hr, <- List.append_assoc, hJ];rfl
 ·simp only [qGD (Int.lt_irrefl _), qN];rfl
 ·have hl : (LT p).length <= 24 * 25 := by
   have := qWC hrow;have h2 : p.length * 25 <= 24 * 25 := Nat.mul_le_mul_right _ (by rw [hp.len]; exact h24);omega
  have hb : ((LT p).length.ble 1048576) = true := Nat.ble_eq_true_of_le (by omega);have hI : (qC9 (fun k (s : List Int × Bool) => (LT (p.take (k + 1)), true)) p.length 0 ([], false)).1 = LT (p.take p.length) := hI;rw [List.take_length] at hI;simp only [wC, hI, hb, qQ, xI]
theorem qQO {c : Int} (h0 : 0 <= c) (h1 : c < 8) : ∃ k : Nat, c = (k : Int) ∧ k < 8 ∧ bl ((⟨#[97, 98, 99, 100, 101, 102, 103, 104]⟩ : ByteArray).extract k (k + 1)) = [UInt8.ofNat (97 + c).toNat] ∧ ((⟨#[97, 98, 99, 100, 101, 102, 103, 104]⟩ : ByteArray).extract k (k + 1)).size = 1 := by
 refine ⟨c.toNat, by omega, by omega, ?_, ?_⟩
 ·rw [qEN];have : ∀ k, k < 8 -> List.take (k + 1 - k) (List.drop k (bl ⟨#[97, 98, 99, 100, 101, 102, 103, 104]⟩)) = [UInt8.ofNat (97 + k)] := by decide
  rw [this c.toNat (by omega)]
  congr 2
  omega
 ·rw [ByteArray.size_extract];have : ByteArray.size ⟨#[97, 98, 99, 100, 101, 102, 103, 104]⟩ = 8 := rfl;rw [this]; omega
def LB (l : List Int) : List UInt8 := l.map fun z => UInt8.ofNat z.toNat
theorem qYI (l : List Int) : bl (bText l) = LB l := rfl
theorem qZZ (a b : List Int) : LB (a ++ b) = LB a ++ LB b := by simp [LB]
theorem q0P (a : List Int) : (LB a).length = a.length := by simp [LB]
theorem q9W {p : List (List Int)} {h n : Nat} (hp : Pic p h n) (hc : chk p = 0) : ∃ t, H49 p = some t ∧ bl t = LB (LT p) := by
 have h24 := hp.h2;have n24 := hp.n2;have hpl := hp.len;have hrow : ∀ r ∈ p, r.length <= 24 := fun r hr => by rw [hp.row r hr]; exact n24
 have key : ∀ v, (∀ t, bl t = LB (LT p) -> some t = v) -> H49 p = v := by
  intro v hv;show (G49 p).run = v;unfold G49;refine aX p.length (fun (k : Nat) (s : ByteArray) => (s, (k : Int))) (fun k s => bl s = LB (LT (p.take k))) (fun k s => ⟨(LB (LT (p.take (k + 1)))).toArray⟩) (fun s => Sum.inl (s, (p.length : Int))) (⟨#[]⟩ : ByteArray) rfl rfl (fun k s hk hs => ⟨?_, rfl⟩) (fun s hs => ?_) (fun hI => ?_)
  ·obtain ⟨r, hr, mr⟩ := jE hk;have hk3 : (k : Int) < (p.length : Int) := by omega
   have hcr := qI1 (qN8 hc r mr);have hrl := hrow r mr
   have hlt : (LT (p.take k)).length <= 24 * 25 := by
    have := qWC (p := p.take k) fun r hr => hrow r (List.mem_of_mem_take hr)
    rw [List.length_take] at this;have h2 : min k p.length * 25 <= 24 * 25 := Nat.mul_le_mul_right _ (by have := hp.len; omega);omega
   simp only [qDO hk3, qQ];refine aX r.length (fun (j : Nat) (x : ByteArray) => (x, (j : Int))) (fun j x => bl x = LB (LT (p.take k) ++ ltr (r.take j))) (fun j x => ⟨(LB (LT (p.take k) ++ ltr (r.take (j + 1)))).toArray⟩) (fun x => Sum.inl (x, (r.length : Int))) s rfl (by rw [hs]; simp [ltr]) (fun j x hj hx => ⟨?_, rfl⟩) (fun x hx => ?_) (fun hJ => ?_)
   ·obtain ⟨c, hcc, mc⟩ := jE hj;have hj3 : (j : Int) < (r.length : Int) := by omega
    obtain ⟨c0, c1⟩ := hcr c mc;obtain ⟨z, rfl, z8, z1, z2⟩ := qQO c0 c1;have hxs : x.size = (LT (p.take k) ++ ltr (r.take j)).length := by rw [<- xM, hx, q0P]
    have hb : (x.size + 1).ble 9223372036854775807 = true := Nat.ble_eq_true_of_le (by rw [hxs]; simp [ltr]; omega);have b1 : qC5 (ByteArray.size ⟨#[97, 98, 99, 100, 101, 102, 103, 104]⟩) ((z + 1 : Nat) : Int) = some (z + 1) := mX (show z + 1 <= 8 by omega);have b2 : qC5 (z + 1) (z : Int) = some z := mX (by omega)
    have hfin : x ++ (⟨#[97, 98, 99, 100, 101, 102, 103, 104]⟩ : ByteArray).extract z (z + 1) = ⟨(LB (LT (p.take k) ++ ltr (r.take (j + 1)))).toArray⟩ := by
     refine qNS ?_;rw [qZS, z1, hx, q47, qNF hcc, <- List.append_assoc, qZZ (LT (p.take k) ++ ltr (r.take j))];rfl
    simp only [jF hk, qK, hr, qDO hj3, qQ, jF hj, hcc, aP (show z < 2 ^ 62 by omega), b1, b2, z2, hb, hfin, aP (show j < 2 ^ 62 by omega)];rfl
   ·simp only [jF hk, qK, hr, qGD (Int.lt_irrefl _), qN];rfl
   ·generalize qC9 (fun j (x : ByteArray) => (⟨(LB (LT (p.take k) ++ ltr (r.take (j + 1)))).toArray⟩ : ByteArray)) r.length 0 s = x at hJ;have hJ : bl x = LB (LT (p.take k) ++ ltr (r.take r.length)) := hJ;rw [List.take_length] at hJ;have hxs : x.size = (LT (p.take k) ++ ltr r).length := by rw [<- xM, hJ, q0P]
    have hb : (x.size + ByteArray.size ⟨#[10]⟩).ble 9223372036854775807 = true := Nat.ble_eq_true_of_le (by
     have : ByteArray.size ⟨#[10]⟩ = 1 := rfl
     rw [hxs, this]; simp [ltr]; omega)
    have hfin : x ++ (⟨#[10]⟩ : ByteArray) = ⟨(LB (LT (p.take (k + 1)))).toArray⟩ := by
     refine qNS ?_;rw [qZS, hJ, q47, qV4 hr, <- List.append_assoc, qZZ (LT (p.take k) ++ ltr r)];rfl
    simp only [wC, hb, qQ, hfin, aP (show k < 2 ^ 62 by omega)];rfl
  ·simp only [qGD (Int.lt_irrefl _), qN];rfl
  ·have hI : bl (qC9 (fun k (s : ByteArray) => (⟨(LB (LT (p.take (k + 1)))).toArray⟩ : ByteArray)) p.length 0 (⟨#[]⟩ : ByteArray)) = LB (LT (p.take p.length)) := hI;rw [List.take_length] at hI;simp only [wC, xI];exact hv _ hI
 exact ⟨⟨(LB (LT p)).toArray⟩, key _ fun t ht => by rw [show t = ⟨(LB (LT p)).toArray⟩ from qNS ht], rfl⟩
theorem q7C {a : List (List Int)} {e : Int} (ha : a.length < 2 ^ 62) (hr : ∀ r ∈ a, r.length < 2 ^ 62) : H32 (a, e, a, e) = some true := by
 rw [q90 ha hr]; simp
theorem q9K (p : List (List Int)) (s : ByteArray) : H7 (p, s) = some true := by
 show (G7 p s).run = _;unfold G7;obtain ⟨b, e1, f1⟩ := q88 (p := p);rw [e1, qK]
 cases b with
 | false => rfl
 | true =>
   have g1 : p.length <= 24 -> ∀ x ∈ p, x.length < 2 ^ 62 := fun hl x hx => by
    obtain ⟨i, hi, rfl⟩ := List.getElem_of_mem hx;have := (f1 rfl).2 i _ (by omega) (List.getElem?_eq_getElem hi);omega
   have main : s.size <= 4099 -> (Tree.bind (H47 p) fun (x3 : ByteArray × Int) => Tree.bind (H48 s) fun (x4 : List (List Int) × Int × Int) => Tree.bind (H24 p) fun (x5 : Int) => Tree.ite (x5 == 0) (Tree.bind (H49 p) fun (x6 : ByteArray) => Tree.bind (H50 s) fun (x7 : List (List Int) × Int × Int) => Tree.ite (zZ (x3.snd == x5) true) (Tree.ite (zZ (x3.fst.toList == x6.toList) true) (Tree.bind (H32 (x4.fst, x4.snd.snd, x7.fst, x7.snd.snd)) fun (x8 : Bool) => Tree.ite (zZ x8 true) (Tree.ite (zZ (x4.snd.fst == x7.snd.fst) true) (Tree.ret true) (Tree.ret false)) (Tree.ret false)) (Tree.ret false)) (Tree.ret false)) (Tree.bind (H50 s) fun (x6 : List (List Int) × Int × Int) => Tree.ite (zZ (x3.snd == x5) true) (Tree.ite (zZ (x3.fst.toList == (⟨#[]⟩ : ByteArray).toList) true) (Tree.bind (H32 (x4.fst, x4.snd.snd, x6.fst, x6.snd.snd)) fun (x7 : Bool) => Tree.ite (zZ x7 true) (Tree.ite (zZ (x4.snd.fst == x6.snd.fst) true) (Tree.ret true) (Tree.ret false)) (Tree.ret false)) (Tree.ret false)) (Tree.ret false)) : Tree Bool).run = some true := fun hs => by
    obtain ⟨l1, l2⟩ := qXB (s := s) (by omega);have h32 : ∀ e : Int, H32 ((prs s).1, e, (prs s).1, e) = some true := fun e => q7C l1 l2
    by_cases hc : chk p = 0
    ·obtain ⟨n, hp⟩ := q2I hc;obtain ⟨t, ht, hbt⟩ := q9W hp hc;have he : ((bText (LT p)).toList == t.toList) = true := by rw [qOY, hbt, qYI]; simp
     have z0 : ((0 : Int) == 0) = true := rfl;rw [q8R hp hc, qK, q4I (by omega), qK, q62, hc, qK, z0, qQ, ht, qK, q74 (by omega), qK];simp only [qE3, he, z0, qQ, h32, qK, beq_self_eq_true, xI]
    ·have z1 : (chk p == 0) = false := by simpa using hc
     have e47 : H47 p = some (⟨#[]⟩, chk p) := by
      show (G47 p).run = _;unfold G47;have hz : (chk p != 0) = true := by simpa using hc
      rw [q7A g1, qK, hz, qQ, xI]
     rw [e47, qK, q4I (by omega), qK, q62, qK, z1, qN, q74 (by omega), qK];simp only [qE3, qQ, h32, qK, beq_self_eq_true, xI]
   rw [qBE, show (!(!true)) = true from rfl, qQ, qE3, qBE];by_cases h1 : (4099 : Int) < (s.size : Int)
   ·rw [qDO h1, qQ];cases decide ((300 : Int) < (s.size : Int)) <;> cases decide ((s.size : Int) <= 4096) <;> rfl
   ·rw [qGD h1, qN];have hm := main (by omega)
    cases decide ((300 : Int) < (s.size : Int)) with
    | false => rw [qN]; exact hm
    | true =>
      rw [qQ]
      cases decide ((s.size : Int) <= 4096) with
      | false => exact hm
      | true => rfl
theorem qLM (x : List (List Int) × ByteArray) : H7 x = some true := q9K x.1 x.2
end Go.Proofs.YtpdlblofcdcikaaGreatDoor
