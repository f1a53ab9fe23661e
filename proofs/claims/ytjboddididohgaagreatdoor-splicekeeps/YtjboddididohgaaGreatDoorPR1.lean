/- Plain laws of chapter 8: legal tucks, the next state. Conditions: none. -/
import Derived.Test.YtjboddididohgaaGreatDoorPQ1
import Derived.Test.YtjboddididohgaaGreatDoorPLQ
set_option linter.all false
set_option maxRecDepth 10000
namespace Go.Proofs.YtjboddididohgaaGreatDoor
open Go Go.Idl Go.Sv Go.Proofs
abbrev Rl := Int × Int × Int × Int × Int
abbrev St := List Int × List Int
abbrev Tk := Int × Int × Int
abbrev w64 (n : Int) : Int := IntKind.i64.wrap n
structure ROk (r : Rl) (n : Nat) : Prop where
 e : r.1 = (n : Int)
 lo : 2 <= n
 hi : n <= 8
 ov : 0 <= r.2.1 ∧ r.2.1 < n
 un : 1 <= r.2.2.1 ∧ r.2.2.1 < n
 fu : 1 <= r.2.2.2.1 ∧ r.2.2.2.1 <= 20
 ta : 0 <= r.2.2.2.2 ∧ r.2.2.2.2 <= 20
structure SOk (s : St) (n : Nat) : Prop where
 t : s.1.length = n
 g : s.2.length = n
 b : ∀ i, i < n -> 0 <= s.1.getD i 0 ∧ s.1.getD i 0 <= 40
theorem q9W {l : List Int} (h : 0 < l.length) (h2 : l.length <= 1000) : OkT (zEG l) fun m => m ∈ l ∧ ∀ (j : Nat) (hj : j < l.length), m <= l[j] := by
 show OkT (zF0 l) _;unfold zF0;refine wP (decide_eq_false (by omega)) (zD 0 rfl h (zF h ?_))
 refine qCB (l.length - 1) (fun k s => (s, ((k + 1 : Nat) : Int))) (fun k s => s ∈ l ∧ ∀ j (hj : j < l.length), j < k + 1 -> s <= l[j]) l[0] rfl ⟨zME h, fun j hj hk => by
  have : j = 0 := by omega
  subst this
  exact Int.le_refl _⟩ ?_ ?_
 ·intro k s hk ⟨h3, h4⟩;have hk1 : k + 1 < l.length := by omega
  refine gQ (qHB (by simp only; omega)) (zD (k + 1) rfl hk1 (zF hk1 (qD ⟨bif decide (l[k + 1] < s) then l[k + 1] else s, by simp only [fD (show k + 1 < 2 ^ 62 by omega)], ?_⟩)))
  cases hd : decide (l[k + 1] < s) with
  | true =>
    have hd := of_decide_eq_true hd;refine ⟨zME hk1, fun j hj hjk => ?_⟩;show l[k + 1] <= l[j];by_cases e : j = k + 1
    ·subst e; exact Int.le_refl _
    ·have := h4 j hj (by omega); omega
  | false =>
    have hd := of_decide_eq_false hd;refine ⟨h3, fun j hj hjk => ?_⟩;show s <= l[j];by_cases e : j = k + 1
    ·subst e; omega
    ·exact h4 j hj (by omega)
 ·intro s ⟨h3, h4⟩;refine wP (qIC (by simp only; omega)) (qD ⟨_, rfl, ?_⟩);exact qD ⟨h3, fun j hj => h4 j hj (by omega)⟩
def qW1 (r : Rl) (s : St) (t : Tk) : Int := (w64 (w64 (s.2.getD t.1.toNat 0 + t.2.1) + t.2.2)).tmod r.1
theorem q9Q {r : Rl} {s : St} {t : Tk} {n K : Nat} (hr : ROk r n) (hs : SOk s n) (hk : t.1 = (K : Int)) (hK : K < n) : zC7 (r, s, t) = some (qW1 r s t) := by
 have h1 : s.2.getD t.1.toNat 0 = s.2[K]'(by have := hs.g; omega) := by
  rw [hk, zMJ, zK9, zKM]; rfl
 have h2 : r.1 ≠ 0 := by have := hr.e; have := hr.lo; omega
 refine OkT.eq ?_;show OkT (zF1 r s t) _;unfold zF1;have hKg : K < s.2.length := by have := hs.g; omega
 refine zD K hk hKg (zF hKg ?_);unfold q5K;rw [if_neg h2];refine qD ?_;unfold qW1; rw [h1]
structure zF9 where
 A : Prop
 B : Prop
 C : Prop
 D : Prop
def qKO (r : Rl) (s : St) (t : Tk) (n K : Nat) : zF9 where
 A := w64 (r.2.2.2.1 + r.2.2.2.2) <= s.1.getD K 0
 B := ∃ i, i < n ∧ s.1.getD i 0 < s.1.getD K 0
 C := t.2.1 = r.2.1 ∧ (s.1.getD K 0 < r.2.2.2.1 -> t.2.2 = r.2.2.1) ∧ (¬ s.1.getD K 0 < r.2.2.2.1 -> 1 <= t.2.2 ∧ t.2.2 <= r.2.2.1)
 D := ∃ i, i < n ∧ s.1.getD i 0 = w64 (s.1.getD K 0 + 1) ∧ s.2.getD i 0 = qW1 r s t
def q4B (p : zF9) (v : Int) : Prop := (v = 1 ∧ p.A) ∨ (v = 2 ∧ ¬ p.A ∧ p.B) ∨ (v = 3 ∧ ¬ p.A ∧ ¬ p.B ∧ ¬ p.C) ∨ (v = 4 ∧ ¬ p.A ∧ ¬ p.B ∧ p.C ∧ p.D) ∨ (v = 0 ∧ ¬ p.A ∧ ¬ p.B ∧ p.C ∧ ¬ p.D)
theorem yU {l : List Int} {i : Nat} (h : i < l.length) : l.getD i 0 = l[i] := by
 rw [zK9, zKM h]; rfl
theorem q57 (b : Bool) : zG b true = b := rfl
theorem qKQ (b : Bool) : zG b false = !b := rfl
theorem zAI {r : Rl} {s : St} {t : Tk} {n K : Nat} (hr : ROk r n) (hs : SOk s n) (hk : t.1 = (K : Int)) (hK : K < n) : OkT (zC2 (r, s, t)) (q4B (qKO r s t n K)) := by
 have ht := hs.t;have hg := hs.g;have hlo := hr.lo;have hhi := hr.hi;have hKt : K < s.1.length := by omega
 have hown : s.1.getD K 0 = s.1[K] := yU hKt;have hb := hs.b K hK
 have hF : ∀ (own : Int) (hown2 : s.1.getD K 0 = own) (hnA : ¬ (qKO r s t n K).A) (hnB : ¬ (qKO r s t n K).B) (hC : (qKO r s t n K).C), OkT (zAN.bind (zC7 (r, s, t)) fun (x6 : Int) => zAN.bind (zS (fun (s7 : Int) => zAN.ite (decide (s7 < (↑s.fst.length : Int))) (zAN.bind (idx s.fst.length s7) fun (x8 : Nat) => zAN.bind s.fst[x8]? fun (x9 : Int) => zAN.ite (zG (s7 != t.fst) true) (zAN.ite (zG (x9 == IntKind.i64.wrap (own + 1)) true) (zAN.bind (idx s.snd.length s7) fun (x10 : Nat) => zAN.bind s.snd[x10]? fun (x11 : Int) => zAN.ite (x11 == x6) (zAN.ret (Sum.inr (Sum.inr (Sum.inl false)))) (zAN.ret (Sum.inl (IntKind.i64.wrap (s7 + 1))))) (zAN.ret (Sum.inl (IntKind.i64.wrap (s7 + 1))))) (zAN.ret (Sum.inl (IntKind.i64.wrap (s7 + 1))))) (zAN.ret (Sum.inr (Sum.inl s7)))) 0) fun (x7 : Int ⊕ Bool ⊕ Nat × Int) => zAN.sum x7 (fun (s8 : Int) => zAN.ret 0) fun (s8 : Bool ⊕ Nat × Int) => zAN.sum s8 (fun (s9 : Bool) => zAN.ite (!s9) (zAN.ret (IntKind.i64.wrap (IntKind.i64.wrap (IntKind.i64.wrap (IntKind.i64.wrap (0 + 1) + 1) + 1) + 1))) (zAN.ret 0)) fun (s9 : Nat × Int) => zAN.fail) (q4B (qKO r s t n K)) := by
  intro own hown2 hnA hnB hC;refine qP (q9Q hr hs hk hK) ?_;refine fF n (fun k => k ≠ K ∧ s.1.getD k 0 = w64 (own + 1) ∧ s.2.getD k 0 = qW1 r s t) (fun _ => .inr (.inl false)) (.inl (n : Int)) ?_ ?_ ?_ ?_
  ·intro k hkn;have hk1 : k < s.1.length := by omega
   have hk2 : k < s.2.length := by omega
   refine gQ (qHB (by omega)) (zD k rfl hk1 (zF hk1 (qZ (fun a => qZ (fun b => zD k rfl hk2 (zF hk2 (qZ (fun c => qD (.inl ⟨?_, rfl⟩)) fun c => qD (.inr ⟨?_, ?_⟩)))) fun b => qD (.inr ⟨?_, ?_⟩)) fun a => qD (.inr ⟨?_, ?_⟩))))
   all_goals first
    | rw [fD (show k < 2 ^ 62 by omega)]; done
    | (simp_all [q57, w64]; done)
    | (simp_all [q57, w64]; omega)
  ·exact wP (qIC (by omega)) (qD rfl)
  ·intro k hkn hp hj;exact qD (.inr (.inr (.inr (.inl ⟨rfl, hnA, hnB, hC, k, hkn, by rw [hown2]; exact hp.2.1, hp.2.2⟩))))
  ·intro hn;refine qD (.inr (.inr (.inr (.inr ⟨rfl, hnA, hnB, hC, ?_⟩))));rintro ⟨i, hi, h1, h2⟩;refine hn i hi ⟨?_, by rw [<- hown2]; exact h1, h2⟩;rintro rfl;have : w64 (s.1.getD i 0 + 1) = s.1.getD i 0 + 1 := uQ (by omega) (by omega);omega
 show OkT (zF2 r s t) _;unfold zF2;refine zD K hk hKt (zF hKt ?_);rw [<- hown];refine qZ (fun a => qD (.inl ⟨rfl, ?_⟩)) fun a => ?_
 ·simp at a; exact a
 have hnA : ¬ (qKO r s t n K).A := by simpa [qKO, w64, Int.not_le] using a
 refine qE1 (q9W (by omega) (by omega)) fun m ⟨hm1, hm2⟩ => qZ (fun b => qD (.inr (.inl ⟨rfl, hnA, ?_⟩))) fun b => ?_
 ·obtain ⟨j, hj, rfl⟩ := zMI.1 hm1;simp at b;exact ⟨j, by omega, by rw [yU hj]; simpa using b⟩
 have hnB : ¬ (qKO r s t n K).B := by
  rintro ⟨i, hi, hlt⟩;have := hm2 i (by omega);rw [yU (l := s.1) (i := i) (by omega)] at hlt;simp at b;have e : s.1.getD K 0 <= m := by simpa using b
  exact absurd (Int.lt_of_lt_of_le hlt (Int.le_trans e this)) (Int.lt_irrefl _)
 refine qZ (fun c => ?_) fun c => ?_
 ·refine qZ (fun d => qZ (fun f => qD (.inr (.inr (.inl ⟨rfl, hnA, hnB, ?_⟩)))) fun f => hF _ rfl hnA hnB ?_) fun d => qD (.inr (.inr (.inl ⟨rfl, hnA, hnB, ?_⟩)))
  all_goals simp_all [q57, qKO]
 ·refine qZ (fun d => qZ (fun f => qZ (fun g => qD (.inr (.inr (.inl ⟨rfl, hnA, hnB, ?_⟩)))) fun g => hF _ rfl hnA hnB ?_) fun f => qD (.inr (.inr (.inl ⟨rfl, hnA, hnB, ?_⟩)))) fun d => qD (.inr (.inr (.inl ⟨rfl, hnA, hnB, ?_⟩)))
  all_goals simp_all [q57, qKO]
  all_goals omega
end Go.Proofs.YtjboddididohgaaGreatDoor
