/- Plain laws of chapter 8, small functions. Conditions: none. -/
import Derived.Test.YtjboddididohgaaGreatDoorPT8b
import Derived.Test.YtjboddididohgaaGreatDoorVA
set_option linter.all false
set_option maxRecDepth 10000
namespace Go.Proofs.YtjboddididohgaaGreatDoor
open Go Go.Idl Go.Sv Go.Proofs
section
variable {R α β σ ρ τ : Type}
theorem qWS {R S τ : Type} {F : S -> Option (S ⊕ τ)} {K : τ -> zAN R} {s s' : S} (h : F s = some (.inl s')) : zAN.bind (zS F s) K = zAN.bind (zS F s') K := by
 rw [vK F s, h]
theorem qHV {R S τ : Type} {F : S -> Option (S ⊕ τ)} {K : τ -> zAN R} {s : S} {t : τ} (h : F s = some (.inr t)) : zAN.bind (zS F s) K = K t := by
 rw [vK F s, h]; rfl
end
def outs (x a b : Int) : Bool := decide (x < a) || decide (b < x)
theorem h33 (x a b : Int) : H33 (x, a, b) = some (outs x a b) := by
 show (G33 x a b).run = _;unfold G33 outs zG;cases decide (x < a) <;> rfl
theorem h95 (c : Bool) (k : Int) : H95 (c, k) = some (cond c k 0) := by cases c <;> rfl
theorem zAL (x a b : Int) : zBY (x, a, b) = some (cond (outs x a b) 3 0) := by
 show (zFZ x a b).run = _;unfold zFZ outs zG;rw [h95];cases decide (x < a) <;> cases decide (b < x) <;> rfl
def fnz : List Int -> Int
 | [] => 0
 | x :: l => cond (x != 0) x (fnz l)
noncomputable def F94 (l : List Int) (s1 : Int) : Option (Int ⊕ (Int ⊕ Int ⊕ Nat × Int)) := zAN.ite (decide (s1 < (↑l.length : Int))) (zAN.bind (idx l.length s1) fun (x2 : Nat) => zAN.bind l[x2]? fun (x3 : Int) => zAN.ite (x3 != 0) (zAN.ret (Sum.inr (Sum.inr (Sum.inl x3)))) (zAN.ret (Sum.inl (IntKind.i64.wrap (s1 + 1))))) (zAN.ret (Sum.inr (Sum.inl s1)))
theorem h94 (l : List Int) (hl : l.length < 2 ^ 62) : H94 l = some (fnz l) := by
 have key : ∀ (m k : Nat), k + m = l.length -> (zAN.bind (zS (F94 l) (k : Int)) fun (x1 : Int ⊕ Int ⊕ Nat × Int) => zAN.sum x1 (fun (s2 : Int) => (zAN.ret 0 : zAN Int)) fun (s2 : Int ⊕ Nat × Int) => zAN.sum s2 (fun (s3 : Int) => zAN.ret s3) fun (s3 : Nat × Int) => zAN.fail) = zAN.ret (fnz (l.drop k)) := by
  intro m
  induction m with
  | zero =>
    intro k hk
    have hF : F94 l (k : Int) = some (.inr (.inl (k : Int))) := by
     unfold F94;rw [qIC (by omega)]; rfl
    rw [qHV hF, List.drop_eq_nil_of_le (by omega)]; rfl
  | succ m ih =>
    intro k hk;have hlt : k < l.length := by omega
    rw [zM7 hlt]
    cases hc : (l[k] != 0) with
    | true =>
      have hF : F94 l (k : Int) = some (.inr (.inr (.inl l[k]))) := by
       unfold F94;rw [qHB (by omega), q07, qVF hlt, qBO, zKM hlt, qBO, hc]; rfl
      rw [qHV hF];unfold fnz;rw [hc]; rfl
    | false =>
      have hF : F94 l (k : Int) = some (.inl ((k + 1 : Nat) : Int)) := by
       unfold F94;rw [qHB (by omega), q07, qVF hlt, qBO, zKM hlt, qBO, hc, q3B, fD (by omega)]; rfl
      rw [qWS hF, ih (k + 1) (by omega)];show zAN.ret (fnz (l.drop (k + 1))) = zAN.ret (cond (l[k] != 0) l[k] (fnz (l.drop (k + 1))));rw [hc];rfl
 exact key l.length 0 (by omega)
theorem e33 : H33 = fun y => some (outs y.1 y.2.1 y.2.2) := funext fun y => h33 y.1 y.2.1 y.2.2
theorem e117 : zBY = fun y => some (cond (outs y.1 y.2.1 y.2.2) 3 0) := funext fun y => zAL y.1 y.2.1 y.2.2
theorem e95 : H95 = fun y => some (cond y.1 y.2 0) := funext fun y => h95 y.1 y.2
theorem uQ {n : Int} (h0 : -4611686018427387904 <= n) (h1 : n <= 4611686018427387904) : IntKind.i64.wrap n = n := by
 have hw : IntKind.i64.wrap n = if (true && decide (n % (18446744073709551616 : Int) ≥ 9223372036854775808)) = true then n % (18446744073709551616 : Int) - 18446744073709551616 else n % (18446744073709551616 : Int) := rfl;rw [hw];simp only [zOT, decide_eq_true_eq];split <;> omega
end Go.Proofs.YtjboddididohgaaGreatDoor
