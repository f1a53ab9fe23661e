/- Plain laws of chapter 8: legal tucks, the next state. Conditions: none. -/
import Derived.Test.YtjboddididohgaaGreatDoorPQ1
import Derived.Test.YtjboddididohgaaGreatDoorPLQ
set_option linter.all false
set_option maxRecDepth 10000
namespace Go.Proofs.YtjboddididohgaaGreatDoor
open Go Go.Idl Go.Sv Go.Proofs
abbrev Rl := Int × Int × Int × Int × Int
abbrev St := List Int × List Int
abbrev Tk := Int × Int × Int
abbrev w64 (n : Int) : Int := IntKind.i64.wrap n
structure ROk (r : Rl) (n : Nat) : Prop where
 e : r.1 = (n : Int)
 lo : 2 <= n
 hi : n <= 8
 ov : 0 <= r.2.1 ∧ r.2.1 < n
 un : 1 <= r.2.2.1 ∧ r.2.2.1 < n
 fu : 1 <= r.2.2.2.1 ∧ r.2.2.2.1 <= 20
 ta : 0 <= r.2.2.2.2 ∧ r.2.2.2.2 <= 20
structure SOk (s : St) (n : Nat) : Prop where
 t : s.1.length = n
 g : s.2.length = n
 b : ∀ i, i < n -> 0 <= s.1.getD i 0 ∧ s.1.getD i 0 <= 40
theorem q9R {l : List Int} (h : 0 < l.length) (h2 : l.length <= 1000) : OkT (zD1 l) fun m => m ∈ l ∧ ∀ (j : Nat) (hj : j < l.length), m <= l[j] := by
 show OkT (zFK l) _;unfold zFK;refine fH (decide_eq_false (by omega)) (zP 0 rfl h (zQ h ?_))
 refine qNY (l.length - 1) (fun k s => (s, ((k + 1 : Nat) : Int))) (fun k s => s ∈ l ∧ ∀ j (hj : j < l.length), j < k + 1 -> s <= l[j]) l[0] rfl ⟨zLX h, fun j hj hk => by
  have : j = 0 := by omega
  subst this
  exact Int.le_refl _⟩ ?_ ?_
 ·intro k s hk ⟨h3, h4⟩;have hk1 : k + 1 < l.length := by omega
  refine j3 (qQ3 (by simp only; omega)) (zP (k + 1) rfl hk1 (zQ hk1 (qE ⟨bif decide (l[k + 1] < s) then l[k + 1] else s, by simp only [qA2 (show k + 1 < 2 ^ 62 by omega)], ?_⟩)))
  cases hd : decide (l[k + 1] < s) with
  | true =>
    have hd := of_decide_eq_true hd;refine ⟨zLX hk1, fun j hj hjk => ?_⟩;show l[k + 1] <= l[j];by_cases e : j = k + 1
    ·subst e; exact Int.le_refl _
    ·have := h4 j hj (by omega); omega
  | false =>
    have hd := of_decide_eq_false hd;refine ⟨h3, fun j hj hjk => ?_⟩;show s <= l[j];by_cases e : j = k + 1
    ·subst e; omega
    ·exact h4 j hj (by omega)
 ·intro s ⟨h3, h4⟩;refine fH (qV3 (by simp only; omega)) (qE ⟨_, rfl, ?_⟩);exact qE ⟨h3, fun j hj => h4 j hj (by omega)⟩
def q0C (r : Rl) (s : St) (t : Tk) : Int := (w64 (w64 (s.2.getD t.1.toNat 0 + t.2.1) + t.2.2)).tmod r.1
theorem q9G {r : Rl} {s : St} {t : Tk} {n K : Nat} (hr : ROk r n) (hs : SOk s n) (hk : t.1 = (K : Int)) (hK : K < n) : zCR (r, s, t) = some (q0C r s t) := by
 have h1 : s.2.getD t.1.toNat 0 = s.2[K]'(by have := hs.g; omega) := by
  rw [hk, zL1, zLU, zJ5]; rfl
 have h2 : r.1 ≠ 0 := by have := hr.e; have := hr.lo; omega
 refine OkT.eq ?_;show OkT (zFL r s t) _;unfold zFL;have hKg : K < s.2.length := by have := hs.g; omega
 refine zP K hk hKg (zQ hKg ?_);unfold q0V;rw [if_neg h2];refine qE ?_;unfold q0C; rw [h1]
theorem q9Q {r : Rl} {s : St} {t : Tk} {n K : Nat} (hr : ROk r n) (hs : SOk s n) (hk : t.1 = (K : Int)) (hK : K < n) : zCF (r, s, t) = some (q0C r s t) := by
 have h1 : s.2.getD t.1.toNat 0 = s.2[K]'(by have := hs.g; omega) := by
  rw [hk, zL1, zLU, zJ5]; rfl
 have h2 : r.1 ≠ 0 := by have := hr.e; have := hr.lo; omega
 refine OkT.eq ?_;show OkT (zFT r s t) _;unfold zFT;have hKg : K < s.2.length := by have := hs.g; omega
 refine zP K hk hKg (zQ hKg ?_);unfold q0V;rw [if_neg h2];refine qE ?_;unfold q0C; rw [h1]
structure zFU where
 A : Prop
 B : Prop
 C : Prop
 D : Prop
def sD (r : Rl) (s : St) (t : Tk) (n K : Nat) : zFU where
 A := w64 (r.2.2.2.1 + r.2.2.2.2) <= s.1.getD K 0
 B := ∃ i, i < n ∧ s.1.getD i 0 < s.1.getD K 0
 C := t.2.1 = r.2.1 ∧ (s.1.getD K 0 < r.2.2.2.1 -> t.2.2 = r.2.2.1) ∧ (¬ s.1.getD K 0 < r.2.2.2.1 -> 1 <= t.2.2 ∧ t.2.2 <= r.2.2.1)
 D := ∃ i, i < n ∧ s.1.getD i 0 = w64 (s.1.getD K 0 + 1) ∧ s.2.getD i 0 = q0C r s t
def qX4 (p : zFU) (v : Int) : Prop := (v = 1 ∧ p.A) ∨ (v = 2 ∧ ¬ p.A ∧ p.B) ∨ (v = 3 ∧ ¬ p.A ∧ ¬ p.B ∧ ¬ p.C) ∨ (v = 4 ∧ ¬ p.A ∧ ¬ p.B ∧ p.C ∧ p.D) ∨ (v = 0 ∧ ¬ p.A ∧ ¬ p.B ∧ p.C ∧ ¬ p.D)
theorem qX4.uniq {p : zFU} {v w : Int} (h1 : qX4 p v) (h2 : qX4 p w) : v = w := by
 unfold qX4 at h1 h2;by_cases a : p.A <;> by_cases b : p.B <;> by_cases c : p.C <;> by_cases d : p.D <;> simp [a, b, c, d] at h1 h2 <;> rw [h1, h2]
theorem kF {l : List Int} {i : Nat} (h : i < l.length) : l.getD i 0 = l[i] := by
 rw [zLU, zJ5 h]; rfl
theorem q0X (b : Bool) : qM b true = b := rfl
theorem qJ6 (b : Bool) : qM b false = !b := rfl
theorem q91 {r : Rl} {s : St} {t : Tk} {n K : Nat} (hr : ROk r n) (hs : SOk s n) (hk : t.1 = (K : Int)) (hK : K < n) : OkT (zCS (r, s, t)) (qX4 (sD r s t n K)) := by
 have ht := hs.t;have hg := hs.g;have hlo := hr.lo;have hhi := hr.hi;have hKt : K < s.1.length := by omega
 have hown : s.1.getD K 0 = s.1[K] := kF hKt;have hb := hs.b K hK
 have hF : ∀ (own : Int) (hown2 : s.1.getD K 0 = own) (hnA : ¬ (sD r s t n K).A) (hnB : ¬ (sD r s t n K).B) (hC : (sD r s t n K).C), OkT (q97.bind (zCR (r, s, t)) fun (x6 : Int) => q97.bind (zW (fun (s7 : Int) => q97.ite (decide (s7 < (↑s.fst.length : Int))) (q97.bind (idx s.fst.length s7) fun (x8 : Nat) => q97.bind s.fst[x8]? fun (x9 : Int) => q97.ite (qM (s7 != t.fst) true) (q97.ite (qM (x9 == IntKind.i64.wrap (own + 1)) true) (q97.bind (idx s.snd.length s7) fun (x10 : Nat) => q97.bind s.snd[x10]? fun (x11 : Int) => q97.ite (x11 == x6) (q97.ret (Sum.inr (Sum.inr (Sum.inl false)))) (q97.ret (Sum.inl (IntKind.i64.wrap (s7 + 1))))) (q97.ret (Sum.inl (IntKind.i64.wrap (s7 + 1))))) (q97.ret (Sum.inl (IntKind.i64.wrap (s7 + 1))))) (q97.ret (Sum.inr (Sum.inl s7)))) 0) fun (x7 : Int ⊕ Bool ⊕ Nat × Int) => q97.sum x7 (fun (s8 : Int) => q97.ret 0) fun (s8 : Bool ⊕ Nat × Int) => q97.sum s8 (fun (s9 : Bool) => q97.ite (!s9) (q97.ret (IntKind.i64.wrap (IntKind.i64.wrap (IntKind.i64.wrap (IntKind.i64.wrap (0 + 1) + 1) + 1) + 1))) (q97.ret 0)) fun (s9 : Nat × Int) => q97.fail) (qX4 (sD r s t n K)) := by
  intro own hown2 hnA hnB hC;refine qI (q9G hr hs hk hK) ?_;refine oP n (fun k => k ≠ K ∧ s.1.getD k 0 = w64 (own + 1) ∧ s.2.getD k 0 = q0C r s t) (fun _ => .inr (.inl false)) (.inl (n : Int)) ?_ ?_ ?_ ?_
  ·intro k hkn;have hk1 : k < s.1.length := by omega
   have hk2 : k < s.2.length := by omega
   refine j3 (qQ3 (by omega)) (zP k rfl hk1 (zQ hk1 (qV (fun a => qV (fun b => zP k rfl hk2 (zQ hk2 (qV (fun c => qE (.inl ⟨?_, rfl⟩)) fun c => qE (.inr ⟨?_, ?_⟩)))) fun b => qE (.inr ⟨?_, ?_⟩)) fun a => qE (.inr ⟨?_, ?_⟩))))
   all_goals first
    | rw [qA2 (show k < 2 ^ 62 by omega)]; done
    | (simp_all [q0X, w64]; done)
    | (simp_all [q0X, w64]; omega)
  ·exact fH (qV3 (by omega)) (qE rfl)
  ·intro k hkn hp hj;exact qE (.inr (.inr (.inr (.inl ⟨rfl, hnA, hnB, hC, k, hkn, by rw [hown2]; exact hp.2.1, hp.2.2⟩))))
  ·intro hn;refine qE (.inr (.inr (.inr (.inr ⟨rfl, hnA, hnB, hC, ?_⟩))));rintro ⟨i, hi, h1, h2⟩;refine hn i hi ⟨?_, by rw [<- hown2]; exact h1, h2⟩;rintro rfl;have : w64 (s.1.getD i 0 + 1) = s.1.getD i 0 + 1 := qGP (by omega) (by omega);omega
 show OkT (zFM r s t) _;unfold zFM;refine zP K hk hKt (zQ hKt ?_);rw [<- hown];refine qV (fun a => qE (.inl ⟨rfl, ?_⟩)) fun a => ?_
 ·simp at a; exact a
 have hnA : ¬ (sD r s t n K).A := by simpa [sD, w64, Int.not_le] using a
 refine qK1 (q9R (by omega) (by omega)) fun m ⟨hm1, hm2⟩ => qV (fun b => qE (.inr (.inl ⟨rfl, hnA, ?_⟩))) fun b => ?_
 ·obtain ⟨j, hj, rfl⟩ := zL0.1 hm1;simp at b;exact ⟨j, by omega, by rw [kF hj]; simpa using b⟩
 have hnB : ¬ (sD r s t n K).B := by
  rintro ⟨i, hi, hlt⟩;have := hm2 i (by omega);rw [kF (l := s.1) (i := i) (by omega)] at hlt;simp at b;have e : s.1.getD K 0 <= m := by simpa using b
  exact absurd (Int.lt_of_lt_of_le hlt (Int.le_trans e this)) (Int.lt_irrefl _)
 refine qV (fun c => ?_) fun c => ?_
 ·refine qV (fun d => qV (fun f => qE (.inr (.inr (.inl ⟨rfl, hnA, hnB, ?_⟩)))) fun f => hF _ rfl hnA hnB ?_) fun d => qE (.inr (.inr (.inl ⟨rfl, hnA, hnB, ?_⟩)))
  all_goals simp_all [q0X, sD]
 ·refine qV (fun d => qV (fun f => qV (fun g => qE (.inr (.inr (.inl ⟨rfl, hnA, hnB, ?_⟩)))) fun g => hF _ rfl hnA hnB ?_) fun f => qE (.inr (.inr (.inl ⟨rfl, hnA, hnB, ?_⟩)))) fun d => qE (.inr (.inr (.inl ⟨rfl, hnA, hnB, ?_⟩)))
  all_goals simp_all [q0X, sD]
  all_goals omega
end Go.Proofs.YtjboddididohgaaGreatDoor
