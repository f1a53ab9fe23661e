/- Plain laws of chapter 8: rules, tucks and states are checked alike. Conditions: none. -/
import Derived.Test.YtjboddididohgaaGreatDoorPR3
set_option linter.all false
set_option maxRecDepth 10000
namespace Go.Proofs.YtjboddididohgaaGreatDoor
open Go Go.Idl Go.Sv Go.Proofs
theorem qRP {l : List Int} (h : l.length <= 100) : H94 l = some (fnz l) := h94 l (by omega)
theorem n84 (r : Rl) : H84 r = H18 r := by
 show (G84 r).run = (G18 r).run;unfold G84 G18;simp only [e33, e117, qBO];rw [qRP (by simp)];cases outs r.1 2 8 <;> cases outs r.2.1 0 (IntKind.i64.wrap (r.1 - 1)) <;> cases outs r.2.2.1 1 (IntKind.i64.wrap (r.1 - 1)) <;> cases outs r.2.2.2.1 1 20 <;> cases outs r.2.2.2.2 0 20 <;> rfl
theorem qAO {x a b : Int} : outs x a b = false ↔ a <= x ∧ x <= b := by
 unfold outs;simp
theorem h18 (r : Rl) : OkT (H18 r) fun v => (v = 0 ∧ ∃ n, ROk r n) ∨ v = 3 := by
 show OkT (G18 r) _;unfold G18;refine qP (h33 _ _ _) (qZ (fun a => qP (h33 _ _ _) (qZ (fun b => qP (h33 _ _ _) (qZ (fun c => qP (h33 _ _ _) (qZ (fun d => qP (h33 _ _ _) (qZ (fun e => qD (.inr rfl)) fun e => qD (.inl ⟨rfl, ?_⟩))) fun d => qD (.inr rfl))) fun c => qD (.inr rfl))) fun b => qD (.inr rfl))) fun a => qD (.inr rfl));simp only [qKQ, zK7, qAO] at a b c d e;rw [uQ (by omega) (by omega)] at b c;exact ⟨r.1.toNat, by omega, by omega, by omega, by omega, by omega, by omega, by omega⟩
def qHE (r : Rl) (t : Tk) : Int := cond (decide (t.1 < 0) || decide (r.1 <= t.1)) 10 (cond (outs t.2.1 0 8 || outs t.2.2 0 8) 3 0)
theorem h96 {r : Rl} {n : Nat} (hr : ROk r n) (t : Tk) : H96 (r, t) = some (qHE r t) ∧ H88 (r, t) = some (qHE r t) := by
 have h1 : outs t.1 0 (IntKind.i64.wrap (r.1 - 1)) = (decide (t.1 < 0) || decide (r.1 <= t.1)) := by
  have := hr.e;have := hr.lo;have := hr.hi;rw [uQ (by omega) (by omega)];unfold outs
  congr 1
  rw [decide_eq_decide];omega
 constructor
 ·show (G96 r t).run = _;unfold G96 qHE;simp only [e95, e117, qBO, qKQ];rw [qRP (by simp)];cases decide (t.1 < 0) <;> cases decide (r.1 <= t.1) <;> cases outs t.2.1 0 8 <;> cases outs t.2.2 0 8 <;> rfl
 ·show (G88 r t).run = _;unfold G88 qHE;simp only [e33, qBO, qKQ, h1];cases decide (t.1 < 0) <;> cases decide (r.1 <= t.1) <;> cases outs t.2.1 0 8 <;> cases outs t.2.2 0 8 <;> rfl
theorem qEV {r : Rl} {n : Nat} (hr : ROk r n) {t : Tk} (h : qHE r t = 0) : ∃ K : Nat, t.1 = (K : Int) ∧ K < n ∧ (0 <= t.2.1 ∧ t.2.1 <= 8) ∧ 0 <= t.2.2 ∧ t.2.2 <= 8 := by
 unfold qHE at h
 cases h1 : (decide (t.1 < 0) || decide (r.1 <= t.1)) with
 | true => rw [h1] at h; cases h
 | false =>
   rw [h1, cond_false] at h
   cases h2 : (outs t.2.1 0 8 || outs t.2.2 0 8) with
   | true => rw [h2] at h; cases h
   | false =>
     simp only [zOK, qAO, decide_eq_false_iff_not] at h1 h2;have := hr.e;exact ⟨t.1.toNat, by omega, by omega, h2.1, h2.2⟩
def st0 (n : Nat) : St := (List.replicate n 0, (List.range n).map Int.ofNat)
theorem zAJ {r : Rl} {n : Nat} (hr : ROk r n) : H97 r = some (st0 n) ∧ True := by
 obtain ⟨a, b, c, d, e⟩ := r;have h1 : a = (n : Int) := hr.e;subst h1;have h2 := hr.lo;have h3 := hr.hi;have : n = 2 ∨ n = 3 ∨ n = 4 ∨ n = 5 ∨ n = 6 ∨ n = 7 ∨ n = 8 := by omega
 rcases this with rfl | rfl | rfl | rfl | rfl | rfl | rfl <;> exact ⟨by kernel_rfl, trivial⟩
theorem h97 {r : Rl} {n : Nat} (hr : ROk r n) : H97 r = some (st0 n) := (zAJ hr).1
theorem q7P {n : Nat} (h : n <= 8) : SOk (st0 n) n := by
 refine ⟨by simp [st0], by simp [st0], fun i hi => ?_⟩
 have : (st0 n).1.getD i 0 = 0 := by
  rw [yU (by simp [st0, hi])];simp [st0]
 omega
theorem zAM {l : List Int} (h : 0 < l.length) (h2 : l.length <= 1000) : OkT (zE2 l) fun m => m ∈ l ∧ ∀ (j : Nat) (hj : j < l.length), l[j] <= m := by
 show OkT (zF4 l) _;unfold zF4;refine wP (decide_eq_false (by omega)) (zD 0 rfl h (zF h ?_))
 refine qCB (l.length - 1) (fun k s => (s, ((k + 1 : Nat) : Int))) (fun k s => s ∈ l ∧ ∀ j (hj : j < l.length), j < k + 1 -> l[j] <= s) l[0] rfl ⟨zME h, fun j hj hk => by
  have : j = 0 := by omega
  subst this
  exact Int.le_refl _⟩ ?_ ?_
 ·intro k s hk ⟨h3, h4⟩;have hk1 : k + 1 < l.length := by omega
  refine gQ (qHB (by simp only; omega)) (zD (k + 1) rfl hk1 (zF hk1 (qD ⟨bif decide (s < l[k + 1]) then l[k + 1] else s, by simp only [fD (show k + 1 < 2 ^ 62 by omega)], ?_⟩)))
  cases hd : decide (s < l[k + 1]) with
  | true =>
    have hd := of_decide_eq_true hd;refine ⟨zME hk1, fun j hj hjk => ?_⟩;show l[j] <= l[k + 1];by_cases e : j = k + 1
    ·subst e; exact Int.le_refl _
    ·have := h4 j hj (by omega); omega
  | false =>
    have hd := of_decide_eq_false hd;refine ⟨h3, fun j hj hjk => ?_⟩;show l[j] <= s;by_cases e : j = k + 1
    ·subst e; omega
    ·exact h4 j hj (by omega)
 ·intro s ⟨h3, h4⟩;refine wP (qIC (by simp only; omega)) (qD ⟨_, rfl, ?_⟩);exact qD ⟨h3, fun j hj => h4 j hj (by omega)⟩
end Go.Proofs.YtjboddididohgaaGreatDoor
