/- Plain laws of chapter 8: rules, tucks and states are checked alike. Conditions: none. -/
import Derived.Test.YtjboddididohgaaGreatDoorPR3
set_option linter.all false
set_option maxRecDepth 10000
namespace Go.Proofs.YtjboddididohgaaGreatDoor
open Go Go.Idl Go.Sv Go.Proofs
theorem q6E {l : List Int} (h : l.length <= 100) : H94 l = some (fnz l) := h94 l (by omega)
theorem n84 (r : Rl) : H84 r = H18 r := by
 show (G84 r).run = (G18 r).run;unfold G84 G18;simp only [e33, e117, qAU];rw [q6E (by simp)];cases outs r.1 2 8 <;> cases outs r.2.1 0 (IntKind.i64.wrap (r.1 - 1)) <;> cases outs r.2.2.1 1 (IntKind.i64.wrap (r.1 - 1)) <;> cases outs r.2.2.2.1 1 20 <;> cases outs r.2.2.2.2 0 20 <;> rfl
theorem q00 {x a b : Int} : outs x a b = false ↔ a <= x ∧ x <= b := by
 unfold outs;simp
theorem h18 (r : Rl) : OkT (H18 r) fun v => (v = 0 ∧ ∃ n, ROk r n) ∨ v = 3 := by
 show OkT (G18 r) _;unfold G18;refine zK (h33 _ _ _) (zD (fun a => zK (h33 _ _ _) (zD (fun b => zK (h33 _ _ _) (zD (fun c => zK (h33 _ _ _) (zD (fun d => zK (h33 _ _ _) (zD (fun e => qE (.inr rfl)) fun e => qE (.inl ⟨rfl, ?_⟩))) fun d => qE (.inr rfl))) fun c => qE (.inr rfl))) fun b => qE (.inr rfl))) fun a => qE (.inr rfl));simp only [q6T, zK4, q00] at a b c d e;rw [qV1 (by omega) (by omega)] at b c;exact ⟨r.1.toNat, by omega, by omega, by omega, by omega, by omega, by omega, by omega⟩
def qQU (r : Rl) (t : Tk) : Int := cond (decide (t.1 < 0) || decide (r.1 <= t.1)) 10 (cond (outs t.2.1 0 8 || outs t.2.2 0 8) 3 0)
theorem h96 {r : Rl} {n : Nat} (hr : ROk r n) (t : Tk) : H96 (r, t) = some (qQU r t) ∧ H88 (r, t) = some (qQU r t) := by
 have h1 : outs t.1 0 (IntKind.i64.wrap (r.1 - 1)) = (decide (t.1 < 0) || decide (r.1 <= t.1)) := by
  have := hr.e;have := hr.lo;have := hr.hi;rw [qV1 (by omega) (by omega)];unfold outs
  congr 1
  rw [decide_eq_decide];omega
 constructor
 ·show (G96 r t).run = _;unfold G96 qQU;simp only [e95, e117, qAU, q6T];rw [q6E (by simp)];cases decide (t.1 < 0) <;> cases decide (r.1 <= t.1) <;> cases outs t.2.1 0 8 <;> cases outs t.2.2 0 8 <;> rfl
 ·show (G88 r t).run = _;unfold G88 qQU;simp only [e33, qAU, q6T, h1];cases decide (t.1 < 0) <;> cases decide (r.1 <= t.1) <;> cases outs t.2.1 0 8 <;> cases outs t.2.2 0 8 <;> rfl
theorem qMA {r : Rl} {n : Nat} (hr : ROk r n) {t : Tk} (h : qQU r t = 0) : ∃ K : Nat, t.1 = (K : Int) ∧ K < n ∧ (0 <= t.2.1 ∧ t.2.1 <= 8) ∧ 0 <= t.2.2 ∧ t.2.2 <= 8 := by
 unfold qQU at h
 cases h1 : (decide (t.1 < 0) || decide (r.1 <= t.1)) with
 | true => rw [h1] at h; cases h
 | false =>
   rw [h1, cond_false] at h
   cases h2 : (outs t.2.1 0 8 || outs t.2.2 0 8) with
   | true => rw [h2] at h; cases h
   | false =>
     simp only [zN6, q00, decide_eq_false_iff_not] at h1 h2;have := hr.e;exact ⟨t.1.toNat, by omega, by omega, h2.1, h2.2⟩
def st0 (n : Nat) : St := (List.replicate n 0, (List.range n).map Int.ofNat)
theorem q94 {r : Rl} {n : Nat} (hr : ROk r n) : H97 r = some (st0 n) ∧ True := by
 obtain ⟨a, b, c, d, e⟩ := r;have h1 : a = (n : Int) := hr.e;subst h1;have h2 := hr.lo;have h3 := hr.hi;have : n = 2 ∨ n = 3 ∨ n = 4 ∨ n = 5 ∨ n = 6 ∨ n = 7 ∨ n = 8 := by omega
 rcases this with rfl | rfl | rfl | rfl | rfl | rfl | rfl <;> exact ⟨by kernel_rfl, trivial⟩
theorem h97 {r : Rl} {n : Nat} (hr : ROk r n) : H97 r = some (st0 n) := (q94 hr).1
theorem q96 {r : Rl} {n : Nat} (hr : ROk r n) : H85 r = some (st0 n) ∧ True := by
 obtain ⟨a, b, c, d, e⟩ := r;have h1 : a = (n : Int) := hr.e;subst h1;have h2 := hr.lo;have h3 := hr.hi;have : n = 2 ∨ n = 3 ∨ n = 4 ∨ n = 5 ∨ n = 6 ∨ n = 7 ∨ n = 8 := by omega
 rcases this with rfl | rfl | rfl | rfl | rfl | rfl | rfl <;> exact ⟨by kernel_rfl, trivial⟩
theorem h85 {r : Rl} {n : Nat} (hr : ROk r n) : H85 r = some (st0 n) := (q96 hr).1
theorem q6V {n : Nat} (h : n <= 8) : SOk (st0 n) n := by
 refine ⟨by simp [st0], by simp [st0], fun i hi => ?_⟩
 have : (st0 n).1.getD i 0 = 0 := by
  rw [qEI (by simp [st0, hi])];simp [st0]
 omega
end Go.Proofs.YtjboddididohgaaGreatDoor
