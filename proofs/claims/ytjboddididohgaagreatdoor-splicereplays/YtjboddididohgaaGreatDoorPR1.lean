/- Plain laws of chapter 8: legal tucks, the next state. Conditions: none. -/
import Derived.Test.YtjboddididohgaaGreatDoorPQ1
import Derived.Test.YtjboddididohgaaGreatDoorPLQ
set_option linter.all false
set_option maxRecDepth 10000
namespace Go.Proofs.YtjboddididohgaaGreatDoor
open Go Go.Idl Go.Sv Go.Proofs
abbrev Rl := Int × Int × Int × Int × Int
abbrev St := List Int × List Int
abbrev Tk := Int × Int × Int
abbrev w64 (n : Int) : Int := IntKind.i64.wrap n
structure ROk (r : Rl) (n : Nat) : Prop where
 e : r.1 = (n : Int)
 lo : 2 <= n
 hi : n <= 8
 ov : 0 <= r.2.1 ∧ r.2.1 < n
 un : 1 <= r.2.2.1 ∧ r.2.2.1 < n
 fu : 1 <= r.2.2.2.1 ∧ r.2.2.2.1 <= 20
 ta : 0 <= r.2.2.2.2 ∧ r.2.2.2.2 <= 20
structure SOk (s : St) (n : Nat) : Prop where
 t : s.1.length = n
 g : s.2.length = n
 b : ∀ i, i < n -> 0 <= s.1.getD i 0 ∧ s.1.getD i 0 <= 40
theorem q97 {l : List Int} (h : 0 < l.length) (h2 : l.length <= 1000) : OkT (zFO l) fun m => m ∈ l ∧ ∀ (j : Nat) (hj : j < l.length), m <= l[j] := by
 show OkT (zFN l) _;unfold zFN;refine eZ (decide_eq_false (by omega)) (zX 0 rfl h (zZ h ?_))
 refine qAT (l.length - 1) (fun k s => (s, ((k + 1 : Nat) : Int))) (fun k s => s ∈ l ∧ ∀ j (hj : j < l.length), j < k + 1 -> s <= l[j]) l[0] rfl ⟨zMJ h, fun j hj hk => by
  have : j = 0 := by omega
  subst this
  exact Int.le_refl _⟩ ?_ ?_
 ·intro k s hk ⟨h3, h4⟩;have hk1 : k + 1 < l.length := by omega
  refine bS (qMT (by simp only; omega)) (zX (k + 1) rfl hk1 (zZ hk1 (qE ⟨bif decide (l[k + 1] < s) then l[k + 1] else s, by simp only [nW (show k + 1 < 2 ^ 62 by omega)], ?_⟩)))
  cases hd : decide (l[k + 1] < s) with
  | true =>
    have hd := of_decide_eq_true hd;refine ⟨zMJ hk1, fun j hj hjk => ?_⟩;show l[k + 1] <= l[j];by_cases e : j = k + 1
    ·subst e; exact Int.le_refl _
    ·have := h4 j hj (by omega); omega
  | false =>
    have hd := of_decide_eq_false hd;refine ⟨h3, fun j hj hjk => ?_⟩;show s <= l[j];by_cases e : j = k + 1
    ·subst e; omega
    ·exact h4 j hj (by omega)
 ·intro s ⟨h3, h4⟩;refine eZ (qOU (by simp only; omega)) (qE ⟨_, rfl, ?_⟩);exact qE ⟨h3, fun j hj => h4 j hj (by omega)⟩
def q0K (r : Rl) (s : St) (t : Tk) : Int := (w64 (w64 (s.2.getD t.1.toNat 0 + t.2.1) + t.2.2)).tmod r.1
theorem q87 {r : Rl} {s : St} {t : Tk} {n K : Nat} (hr : ROk r n) (hs : SOk s n) (hk : t.1 = (K : Int)) (hK : K < n) : zCT (r, s, t) = some (q0K r s t) := by
 have h1 : s.2.getD t.1.toNat 0 = s.2[K]'(by have := hs.g; omega) := by
  rw [hk, zL3, zLM, zJ9]; rfl
 have h2 : r.1 ≠ 0 := by have := hr.e; have := hr.lo; omega
 refine OkT.eq ?_;show OkT (zFP r s t) _;unfold zFP;have hKg : K < s.2.length := by have := hs.g; omega
 refine zX K hk hKg (zZ hKg ?_);unfold q0Q;rw [if_neg h2];refine qE ?_;unfold q0K; rw [h1]
theorem q9A {r : Rl} {s : St} {t : Tk} {n K : Nat} (hr : ROk r n) (hs : SOk s n) (hk : t.1 = (K : Int)) (hK : K < n) : zCG (r, s, t) = some (q0K r s t) := by
 have h1 : s.2.getD t.1.toNat 0 = s.2[K]'(by have := hs.g; omega) := by
  rw [hk, zL3, zLM, zJ9]; rfl
 have h2 : r.1 ≠ 0 := by have := hr.e; have := hr.lo; omega
 refine OkT.eq ?_;show OkT (zFX r s t) _;unfold zFX;have hKg : K < s.2.length := by have := hs.g; omega
 refine zX K hk hKg (zZ hKg ?_);unfold q0Q;rw [if_neg h2];refine qE ?_;unfold q0K; rw [h1]
structure zES where
 A : Prop
 B : Prop
 C : Prop
 D : Prop
def rC (r : Rl) (s : St) (t : Tk) (n K : Nat) : zES where
 A := w64 (r.2.2.2.1 + r.2.2.2.2) <= s.1.getD K 0
 B := ∃ i, i < n ∧ s.1.getD i 0 < s.1.getD K 0
 C := t.2.1 = r.2.1 ∧ (s.1.getD K 0 < r.2.2.2.1 -> t.2.2 = r.2.2.1) ∧ (¬ s.1.getD K 0 < r.2.2.2.1 -> 1 <= t.2.2 ∧ t.2.2 <= r.2.2.1)
 D := ∃ i, i < n ∧ s.1.getD i 0 = w64 (s.1.getD K 0 + 1) ∧ s.2.getD i 0 = q0K r s t
def qRC (p : zES) (v : Int) : Prop := (v = 1 ∧ p.A) ∨ (v = 2 ∧ ¬ p.A ∧ p.B) ∨ (v = 3 ∧ ¬ p.A ∧ ¬ p.B ∧ ¬ p.C) ∨ (v = 4 ∧ ¬ p.A ∧ ¬ p.B ∧ p.C ∧ p.D) ∨ (v = 0 ∧ ¬ p.A ∧ ¬ p.B ∧ p.C ∧ ¬ p.D)
theorem qRC.uniq {p : zES} {v w : Int} (h1 : qRC p v) (h2 : qRC p w) : v = w := by
 unfold qRC at h1 h2;by_cases a : p.A <;> by_cases b : p.B <;> by_cases c : p.C <;> by_cases d : p.D <;> simp [a, b, c, d] at h1 h2 <;> rw [h1, h2]
theorem qEI {l : List Int} {i : Nat} (h : i < l.length) : l.getD i 0 = l[i] := by
 rw [zLM, zJ9 h]; rfl
theorem q4Y (b : Bool) : qU b true = b := rfl
theorem q6T (b : Bool) : qU b false = !b := rfl
theorem q9W {r : Rl} {s : St} {t : Tk} {n K : Nat} (hr : ROk r n) (hs : SOk s n) (hk : t.1 = (K : Int)) (hK : K < n) : OkT (zD2 (r, s, t)) (qRC (rC r s t n K)) := by
 have ht := hs.t;have hg := hs.g;have hlo := hr.lo;have hhi := hr.hi;have hKt : K < s.1.length := by omega
 have hown : s.1.getD K 0 = s.1[K] := qEI hKt;have hb := hs.b K hK
 have hF : ∀ (own : Int) (hown2 : s.1.getD K 0 = own) (hnA : ¬ (rC r s t n K).A) (hnB : ¬ (rC r s t n K).B) (hC : (rC r s t n K).C), OkT (q98.bind (zCT (r, s, t)) fun (x6 : Int) => q98.bind (zU (fun (s7 : Int) => q98.ite (decide (s7 < (↑s.fst.length : Int))) (q98.bind (idx s.fst.length s7) fun (x8 : Nat) => q98.bind s.fst[x8]? fun (x9 : Int) => q98.ite (qU (s7 != t.fst) true) (q98.ite (qU (x9 == IntKind.i64.wrap (own + 1)) true) (q98.bind (idx s.snd.length s7) fun (x10 : Nat) => q98.bind s.snd[x10]? fun (x11 : Int) => q98.ite (x11 == x6) (q98.ret (Sum.inr (Sum.inr (Sum.inl false)))) (q98.ret (Sum.inl (IntKind.i64.wrap (s7 + 1))))) (q98.ret (Sum.inl (IntKind.i64.wrap (s7 + 1))))) (q98.ret (Sum.inl (IntKind.i64.wrap (s7 + 1))))) (q98.ret (Sum.inr (Sum.inl s7)))) 0) fun (x7 : Int ⊕ Bool ⊕ Nat × Int) => q98.sum x7 (fun (s8 : Int) => q98.ret 0) fun (s8 : Bool ⊕ Nat × Int) => q98.sum s8 (fun (s9 : Bool) => q98.ite (!s9) (q98.ret (IntKind.i64.wrap (IntKind.i64.wrap (IntKind.i64.wrap (IntKind.i64.wrap (0 + 1) + 1) + 1) + 1))) (q98.ret 0)) fun (s9 : Nat × Int) => q98.fail) (qRC (rC r s t n K)) := by
  intro own hown2 hnA hnB hC;refine zK (q87 hr hs hk hK) ?_;refine pF n (fun k => k ≠ K ∧ s.1.getD k 0 = w64 (own + 1) ∧ s.2.getD k 0 = q0K r s t) (fun _ => .inr (.inl false)) (.inl (n : Int)) ?_ ?_ ?_ ?_
  ·intro k hkn;have hk1 : k < s.1.length := by omega
   have hk2 : k < s.2.length := by omega
   refine bS (qMT (by omega)) (zX k rfl hk1 (zZ hk1 (zD (fun a => zD (fun b => zX k rfl hk2 (zZ hk2 (zD (fun c => qE (.inl ⟨?_, rfl⟩)) fun c => qE (.inr ⟨?_, ?_⟩)))) fun b => qE (.inr ⟨?_, ?_⟩)) fun a => qE (.inr ⟨?_, ?_⟩))))
   all_goals first
    | rw [nW (show k < 2 ^ 62 by omega)]; done
    | (simp_all [q4Y, w64]; done)
    | (simp_all [q4Y, w64]; omega)
  ·exact eZ (qOU (by omega)) (qE rfl)
  ·intro k hkn hp hj;exact qE (.inr (.inr (.inr (.inl ⟨rfl, hnA, hnB, hC, k, hkn, by rw [hown2]; exact hp.2.1, hp.2.2⟩))))
  ·intro hn;refine qE (.inr (.inr (.inr (.inr ⟨rfl, hnA, hnB, hC, ?_⟩))));rintro ⟨i, hi, h1, h2⟩;refine hn i hi ⟨?_, by rw [<- hown2]; exact h1, h2⟩;rintro rfl;have : w64 (s.1.getD i 0 + 1) = s.1.getD i 0 + 1 := qV1 (by omega) (by omega);omega
 show OkT (zFQ r s t) _;unfold zFQ;refine zX K hk hKt (zZ hKt ?_);rw [<- hown];refine zD (fun a => qE (.inl ⟨rfl, ?_⟩)) fun a => ?_
 ·simp at a; exact a
 have hnA : ¬ (rC r s t n K).A := by simpa [rC, w64, Int.not_le] using a
 refine q3E (q97 (by omega) (by omega)) fun m ⟨hm1, hm2⟩ => zD (fun b => qE (.inr (.inl ⟨rfl, hnA, ?_⟩))) fun b => ?_
 ·obtain ⟨j, hj, rfl⟩ := zMS.1 hm1;simp at b;exact ⟨j, by omega, by rw [qEI hj]; simpa using b⟩
 have hnB : ¬ (rC r s t n K).B := by
  rintro ⟨i, hi, hlt⟩;have := hm2 i (by omega);rw [qEI (l := s.1) (i := i) (by omega)] at hlt;simp at b;have e : s.1.getD K 0 <= m := by simpa using b
  exact absurd (Int.lt_of_lt_of_le hlt (Int.le_trans e this)) (Int.lt_irrefl _)
 refine zD (fun c => ?_) fun c => ?_
 ·refine zD (fun d => zD (fun f => qE (.inr (.inr (.inl ⟨rfl, hnA, hnB, ?_⟩)))) fun f => hF _ rfl hnA hnB ?_) fun d => qE (.inr (.inr (.inl ⟨rfl, hnA, hnB, ?_⟩)))
  all_goals simp_all [q4Y, rC]
 ·refine zD (fun d => zD (fun f => zD (fun g => qE (.inr (.inr (.inl ⟨rfl, hnA, hnB, ?_⟩)))) fun g => hF _ rfl hnA hnB ?_) fun f => qE (.inr (.inr (.inl ⟨rfl, hnA, hnB, ?_⟩)))) fun d => qE (.inr (.inr (.inl ⟨rfl, hnA, hnB, ?_⟩)))
  all_goals simp_all [q4Y, rC]
  all_goals omega
end Go.Proofs.YtjboddididohgaaGreatDoor
