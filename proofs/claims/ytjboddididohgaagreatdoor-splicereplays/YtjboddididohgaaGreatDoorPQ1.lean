/- Plain laws of chapter 8, small functions. Conditions: none. -/
import Derived.Test.YtjboddididohgaaGreatDoorPT8b
import Derived.Test.YtjboddididohgaaGreatDoorVA
set_option linter.all false
set_option maxRecDepth 10000
namespace Go.Proofs.YtjboddididohgaaGreatDoor
open Go Go.Idl Go.Sv Go.Proofs
section
variable {R α β σ ρ τ : Type}
theorem qSG {R S τ : Type} {F : S -> Option (S ⊕ τ)} {K : τ -> q98 R} {s s' : S} (h : F s = some (.inl s')) : q98.bind (zU F s) K = q98.bind (zU F s') K := by
 rw [wN F s, h]
theorem qIT {R S τ : Type} {F : S -> Option (S ⊕ τ)} {K : τ -> q98 R} {s : S} {t : τ} (h : F s = some (.inr t)) : q98.bind (zU F s) K = K t := by
 rw [wN F s, h]; rfl
end
def outs (x a b : Int) : Bool := decide (x < a) || decide (b < x)
theorem h33 (x a b : Int) : H33 (x, a, b) = some (outs x a b) := by
 show (G33 x a b).run = _;unfold G33 outs qU;cases decide (x < a) <;> rfl
theorem h95 (c : Bool) (k : Int) : H95 (c, k) = some (cond c k 0) := by cases c <;> rfl
theorem q9X (x a b : Int) : zBS (x, a, b) = some (cond (outs x a b) 3 0) := by
 show (zFM x a b).run = _;unfold zFM outs qU;rw [h95];cases decide (x < a) <;> cases decide (b < x) <;> rfl
def fnz : List Int -> Int
 | [] => 0
 | x :: l => cond (x != 0) x (fnz l)
noncomputable def F94 (l : List Int) (s1 : Int) : Option (Int ⊕ (Int ⊕ Int ⊕ Nat × Int)) := q98.ite (decide (s1 < (↑l.length : Int))) (q98.bind (idx l.length s1) fun (x2 : Nat) => q98.bind l[x2]? fun (x3 : Int) => q98.ite (x3 != 0) (q98.ret (Sum.inr (Sum.inr (Sum.inl x3)))) (q98.ret (Sum.inl (IntKind.i64.wrap (s1 + 1))))) (q98.ret (Sum.inr (Sum.inl s1)))
theorem h94 (l : List Int) (hl : l.length < 2 ^ 62) : H94 l = some (fnz l) := by
 have key : ∀ (m k : Nat), k + m = l.length -> (q98.bind (zU (F94 l) (k : Int)) fun (x1 : Int ⊕ Int ⊕ Nat × Int) => q98.sum x1 (fun (s2 : Int) => (q98.ret 0 : q98 Int)) fun (s2 : Int ⊕ Nat × Int) => q98.sum s2 (fun (s3 : Int) => q98.ret s3) fun (s3 : Nat × Int) => q98.fail) = q98.ret (fnz (l.drop k)) := by
  intro m
  induction m with
  | zero =>
    intro k hk
    have hF : F94 l (k : Int) = some (.inr (.inl (k : Int))) := by
     unfold F94;rw [qOU (by omega)]; rfl
    rw [qIT hF, List.drop_eq_nil_of_le (by omega)]; rfl
  | succ m ih =>
    intro k hk;have hlt : k < l.length := by omega
    rw [zMU hlt]
    cases hc : (l[k] != 0) with
    | true =>
      have hF : F94 l (k : Int) = some (.inr (.inr (.inl l[k]))) := by
       unfold F94;rw [qMT (by omega), q02, qUG hlt, qAU, zJ9 hlt, qAU, hc]; rfl
      rw [qIT hF];unfold fnz;rw [hc]; rfl
    | false =>
      have hF : F94 l (k : Int) = some (.inl ((k + 1 : Nat) : Int)) := by
       unfold F94;rw [qMT (by omega), q02, qUG hlt, qAU, zJ9 hlt, qAU, hc, q28, nW (by omega)]; rfl
      rw [qSG hF, ih (k + 1) (by omega)];show q98.ret (fnz (l.drop (k + 1))) = q98.ret (cond (l[k] != 0) l[k] (fnz (l.drop (k + 1))));rw [hc];rfl
 exact key l.length 0 (by omega)
theorem e33 : H33 = fun y => some (outs y.1 y.2.1 y.2.2) := funext fun y => h33 y.1 y.2.1 y.2.2
theorem e117 : zBS = fun y => some (cond (outs y.1 y.2.1 y.2.2) 3 0) := funext fun y => q9X y.1 y.2.1 y.2.2
theorem e95 : H95 = fun y => some (cond y.1 y.2 0) := funext fun y => h95 y.1 y.2
theorem qV1 {n : Int} (h0 : -4611686018427387904 <= n) (h1 : n <= 4611686018427387904) : IntKind.i64.wrap n = n := by
 have hw : IntKind.i64.wrap n = if (true && decide (n % (18446744073709551616 : Int) ≥ 9223372036854775808)) = true then n % (18446744073709551616 : Int) - 18446744073709551616 else n % (18446744073709551616 : Int) := rfl;rw [hw];simp only [zOE, decide_eq_true_eq];split <;> omega
end Go.Proofs.YtjboddididohgaaGreatDoor
