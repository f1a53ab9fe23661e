/- Plain laws of chapter 8, small functions. Conditions: none. -/
import Derived.Test.YtdhpibcacnndaaaGreatDoorPT8b
import Derived.Test.YtdhpibcacnndaaaGreatDoorVA
set_option linter.all false
set_option maxRecDepth 10000
namespace Go.Proofs.YtdhpibcacnndaaaGreatDoor
open Go Go.Idl Go.Sv Go.Proofs
section
variable {R α β σ ρ τ : Type}
theorem uJ {R S τ : Type} {F : S -> Option (S ⊕ τ)} {K : τ -> q9D R} {s s' : S} (h : F s = some (.inl s')) : q9D.bind (yK F s) K = q9D.bind (yK F s') K := by
 rw [qFF F s, h]
theorem jM {R S τ : Type} {F : S -> Option (S ⊕ τ)} {K : τ -> q9D R} {s : S} {t : τ} (h : F s = some (.inr t)) : q9D.bind (yK F s) K = K t := by
 rw [qFF F s, h]; rfl
end
def outs (x a b : Int) : Bool := decide (x < a) || decide (b < x)
theorem h33 (x a b : Int) : H33 (x, a, b) = some (outs x a b) := by
 show (G33 x a b).run = _;unfold G33 outs y7;cases decide (x < a) <;> rfl
theorem h95 (c : Bool) (k : Int) : H95 (c, k) = some (cond c k 0) := by cases c <;> rfl
theorem q85 (x a b : Int) : zAJ (x, a, b) = some (cond (outs x a b) 3 0) := by
 show (zEM x a b).run = _;unfold zEM outs y7;rw [h95];cases decide (x < a) <;> cases decide (b < x) <;> rfl
def fnz : List Int -> Int
 | [] => 0
 | x :: l => cond (x != 0) x (fnz l)
noncomputable def F94 (l : List Int) (s1 : Int) : Option (Int ⊕ (Int ⊕ Int ⊕ Nat × Int)) := q9D.ite (decide (s1 < (↑l.length : Int))) (q9D.bind (idx l.length s1) fun (x2 : Nat) => q9D.bind l[x2]? fun (x3 : Int) => q9D.ite (x3 != 0) (q9D.ret (Sum.inr (Sum.inr (Sum.inl x3)))) (q9D.ret (Sum.inl (IntKind.i64.wrap (s1 + 1))))) (q9D.ret (Sum.inr (Sum.inl s1)))
theorem h94 (l : List Int) (hl : l.length < 2 ^ 62) : H94 l = some (fnz l) := by
 have key : ∀ (m k : Nat), k + m = l.length -> (q9D.bind (yK (F94 l) (k : Int)) fun (x1 : Int ⊕ Int ⊕ Nat × Int) => q9D.sum x1 (fun (s2 : Int) => (q9D.ret 0 : q9D Int)) fun (s2 : Int ⊕ Nat × Int) => q9D.sum s2 (fun (s3 : Int) => q9D.ret s3) fun (s3 : Nat × Int) => q9D.fail) = q9D.ret (fnz (l.drop k)) := by
  intro m
  induction m with
  | zero =>
    intro k hk
    have hF : F94 l (k : Int) = some (.inr (.inl (k : Int))) := by
     unfold F94;rw [q6S (by omega)]; rfl
    rw [jM hF, List.drop_eq_nil_of_le (by omega)]; rfl
  | succ m ih =>
    intro k hk;have hlt : k < l.length := by omega
    rw [zLR hlt]
    cases hc : (l[k] != 0) with
    | true =>
      have hF : F94 l (k : Int) = some (.inr (.inr (.inl l[k]))) := by
       unfold F94;rw [q41 (by omega), fB, qHK hlt, yH, zI9 hlt, yH, hc]; rfl
      rw [jM hF];unfold fnz;rw [hc]; rfl
    | false =>
      have hF : F94 l (k : Int) = some (.inl ((k + 1 : Nat) : Int)) := by
       unfold F94;rw [q41 (by omega), fB, qHK hlt, yH, zI9 hlt, yH, hc, sU, qXW (by omega)]; rfl
      rw [uJ hF, ih (k + 1) (by omega)];show q9D.ret (fnz (l.drop (k + 1))) = q9D.ret (cond (l[k] != 0) l[k] (fnz (l.drop (k + 1))));rw [hc];rfl
 exact key l.length 0 (by omega)
theorem e33 : H33 = fun y => some (outs y.1 y.2.1 y.2.2) := funext fun y => h33 y.1 y.2.1 y.2.2
theorem e117 : zAJ = fun y => some (cond (outs y.1 y.2.1 y.2.2) 3 0) := funext fun y => q85 y.1 y.2.1 y.2.2
theorem e95 : H95 = fun y => some (cond y.1 y.2 0) := funext fun y => h95 y.1 y.2
theorem qIS (a b c : Int) : IntKind.i64.wrap (IntKind.i64.wrap (a + b) - c) = IntKind.i64.wrap (a + IntKind.i64.wrap (b - c)) := by
 unfold IntKind.wrap;simp only [IntKind.bits, IntKind.signed];simp;omega
theorem n61 (x : Int × List (Int × Int)) (hl : x.2.length < 2 ^ 62) : H61 x = H60 x := by
 show (G61 x).run = (G60 x).run;unfold G61 G60;simp only [e33, e117, e95, h94, yH, zJN, zKZ, Nat.reduceAdd, Nat.reducePow, Nat.reduceLT]
 cases h1 : outs x.1 1 500 with
 | true => rfl
 | false =>
   cases h2 : decide (64 < (↑x.2.length : Int)) with
   | true => rfl
   | false =>
     refine congrArg (fun F => q9D.run (q9D.bind (yK F (x.1, 0)) fun (x4 : Int × Int ⊕ Int ⊕ Nat × Int × Int) => q9D.sum x4 (fun (s5 : Int × Int) => q9D.ret (0 : Int)) fun (s5 : Int ⊕ Nat × Int × Int) => q9D.sum s5 (fun (s6 : Int) => q9D.ret s6) fun (s6 : Nat × Int × Int) => q9D.fail)) (funext fun s => ?_)
     cases decide (s.2 < (↑x.2.length : Int)) with
     | false => rfl
     | true =>
       simp only [fB]
       cases idx x.2.length s.2 with
       | none => rfl
       | some i =>
         simp only [yH]
         cases x.2[i]? with
         | none => rfl
         | some q =>
           simp only [yH, qIS];cases outs q.1 0 500 <;> cases outs q.2 0 500 <;> cases decide (s.1 < IntKind.i64.wrap (q.1 + IntKind.i64.wrap (2 * q.2))) <;> cases outs (IntKind.i64.wrap (s.1 + IntKind.i64.wrap (q.1 - q.2))) 1 500 <;> rfl
theorem wX {n : Int} (h0 : -4611686018427387904 <= n) (h1 : n <= 4611686018427387904) : IntKind.i64.wrap n = n := by
 have hw : IntKind.i64.wrap n = if (true && decide (n % (18446744073709551616 : Int) ≥ 9223372036854775808)) = true then n % (18446744073709551616 : Int) - 18446744073709551616 else n % (18446744073709551616 : Int) := rfl;rw [hw];simp only [zND, decide_eq_true_eq];split <;> omega
theorem q3H {a m : Int} (ha : -1000000 <= a) (ha2 : a <= 1000000) : -1000000 <= a.tdiv m ∧ a.tdiv m <= 1000000 := by
 have := Int.natAbs_tdiv_le_natAbs a m;omega
theorem f133 (a m : Int) (hm : 1 <= m) (ha : -100000 <= a) (ha2 : a <= 100000) : zDT (a, m) = some (a / m) := by
 show (zER a m).run = _;unfold zER qX8 q27;have hm0 : m ≠ 0 := by omega
 have hq := q3H (a := a) (m := m) (by omega) (by omega);rw [if_neg hm0, if_neg hm0, yH, yH, wX (n := a.tdiv m) (by omega) (by omega), wX (n := a.tdiv m - 1) (by omega) (by omega)];have h1 := Int.mul_tdiv_add_tmod a m;have h2 := Int.tmod_lt_of_pos a (show 0 < m by omega);have h3 := Int.lt_tmod_of_pos a (show 0 < m by omega)
 cases hd : decide (a.tmod m < 0) with
 | true =>
   have hd := of_decide_eq_true hd;have : a / m = a.tdiv m - 1 := ((zM4 (a := a) (r := a.tmod m + m) (q := a.tdiv m - 1) (show 0 < m by omega)).2 ⟨by rw [Int.mul_sub]; omega, by omega, by omega⟩).1;rw [this]; rfl
 | false =>
   have hd := of_decide_eq_false hd;have : a / m = a.tdiv m := ((zM4 (a := a) (r := a.tmod m) (q := a.tdiv m) (show 0 < m by omega)).2 ⟨by omega, by omega, by omega⟩).1;rw [this]; rfl
theorem f134 (a m : Int) (hm : 1 <= m) (hm2 : m <= 64) (ha : -100000 <= a) (ha2 : a <= 100000) : zCF (a, m) = some (a / m) := by
 show (zES a m).run = _;unfold zES qX8;have hm0 : m ≠ 0 := by omega
 cases hd : decide (a < 0) with
 | false =>
   have hd := of_decide_eq_false hd;have hq := q3H (a := a) (m := m) (by omega) (by omega);rw [if_neg hm0, if_neg hm0, sU, yH, wX (n := a.tdiv m) (by omega) (by omega), Int.tdiv_eq_ediv_of_nonneg (by omega)];rfl
 | true =>
   have hd := of_decide_eq_true hd;rw [if_neg hm0, if_neg hm0, fB, yH, wX (n := 0 - a) (by omega) (by omega), wX (n := 0 - a + m) (by omega) (by omega), wX (n := 0 - a + m - 1) (by omega) (by omega)];have hq := q3H (a := 0 - a + m - 1) (m := m) (by omega) (by omega);rw [wX (n := (0 - a + m - 1).tdiv m) (by omega) (by omega), wX (by omega) (by omega), Int.tdiv_eq_ediv_of_nonneg (by omega)];have e1 := Int.mul_ediv_add_emod (0 - a + m - 1) m;have e2 := Int.emod_nonneg (0 - a + m - 1) hm0;have e3 := Int.emod_lt_of_pos (0 - a + m - 1) (show 0 < m by omega);have : a / m = 0 - (0 - a + m - 1) / m := ((zM4 (a := a) (r := m - 1 - (0 - a + m - 1) % m) (q := 0 - (0 - a + m - 1) / m) (show 0 < m by omega)).2 ⟨by rw [Int.mul_sub]; omega, by omega, by omega⟩).1;rw [this]; rfl
end Go.Proofs.YtdhpibcacnndaaaGreatDoor
