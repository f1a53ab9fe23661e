/- Plain laws of chapter 8: states are checked alike. Conditions: none. -/
import Derived.Test.YtjboddididohgaaGreatDoorPR4
set_option linter.all false
set_option maxRecDepth 10000
namespace Go.Proofs.YtjboddididohgaaGreatDoor
open Go Go.Idl Go.Sv Go.Proofs
def prS (s : St) (i : Nat) : Int × Int := (s.1.getD i 0, s.2.getD i 0)
def inR (r : Rl) (s : St) (i : Nat) : Prop := outs (s.1.getD i 0) 0 (w64 (r.2.2.2.1 + r.2.2.2.2)) = false ∧ outs (s.2.getD i 0) 0 (w64 (r.1 - 1)) = false
def qZJ (s : St) (n : Nat) : Prop := s.1.length = n ∧ s.2.length = n
def RgS (r : Rl) (s : St) (n : Nat) : Prop := ∀ i, i < n -> inR r s i
def CfS (s : St) (n : Nat) : Prop := ∃ i k, i < n ∧ k < n ∧ (s.1.getD k 0 + 1 < s.1.getD i 0 ∨ (i ≠ k ∧ prS s i = prS s k))
def CsR (r : Rl) (s : St) (n : Nat) (v : Int) : Prop := (v = 2 ∧ ¬ qZJ s n) ∨ (qZJ s n ∧ ((v = 3 ∧ ¬ RgS r s n) ∨ (v = 19 ∧ RgS r s n ∧ CfS s n) ∨ (v = 0 ∧ RgS r s n ∧ ¬ CfS s n)))
theorem CsR.uniq {r : Rl} {s : St} {n : Nat} {v w : Int} (h1 : CsR r s n v) (h2 : CsR r s n w) : v = w := by
 unfold CsR at h1 h2;by_cases a : qZJ s n <;> by_cases b : RgS r s n <;> by_cases c : CfS s n <;> simp [a, b, c] at h1 h2 <;> rw [h1, h2]
theorem qS5 {r : Rl} {s : St} {n i : Nat} (hr : ROk r n) (h : inR r s i) : (0 <= s.1.getD i 0 ∧ s.1.getD i 0 <= r.2.2.2.1 + r.2.2.2.2) ∧ 0 <= s.2.getD i 0 ∧ s.2.getD i 0 < n := by
 have h1 := hr.fu;have h2 := hr.ta;have h3 := hr.e;have h4 := hr.hi;have h5 := hr.lo;obtain ⟨a, b⟩ := h;unfold w64 at a b;rw [uQ (by omega) (by omega), qAO] at a b;omega
theorem zAD (e : Int) (a b : Bool) (h : e = 0 ∨ e = 3) : fnz [e, cond a 3 0, cond b 3 0] = (if e = 0 ∧ a = false ∧ b = false then 0 else 3) := by
 rcases h with rfl | rfl <;> cases a <;> cases b <;> rfl
theorem q27 (a b : Int) : fnz [a, b] = if a = 0 then b else a := by
 unfold fnz fnz fnz;by_cases h : a = 0
 ·subst h;by_cases h2 : b = 0
  ·subst h2; rfl
  ·have h3 : (b != 0) = true := bne_iff_ne.2 h2;rw [h3]; rfl
 ·have h3 : (a != 0) = true := bne_iff_ne.2 h;rw [h3, if_neg h]; rfl
theorem h86 {r : Rl} {n : Nat} (hr : ROk r n) (h0 : H18 r = some 0) (s : St) : OkT (H86 (r, s)) (CsR r s n) := by
 have hlo := hr.lo;have hhi := hr.hi;have hre := hr.e;have hM : w64 (r.2.2.2.1 + r.2.2.2.2) = r.2.2.2.1 + r.2.2.2.2 := uQ (by have := hr.fu; have := hr.ta; omega) (by have := hr.fu; have := hr.ta; omega);show OkT (G86 r s) _;unfold G86;refine qP ((n84 r).trans h0) (qZ (fun a => ?_) fun a => ?_)
 rotate_left 1
 ·refine qP (qRP (by simp)) (gQ (by rw [q27]; rfl) (qD (.inl ⟨by rw [q27]; rfl, ?_⟩)));simp [qKQ] at a;unfold qZJ;omega
 simp only [qKQ, zK7, bne_eq_false_iff_eq] at a;have ht : s.1.length = n := by omega
 rw [e95];refine qP rfl (qP (qRP (by simp)) (qZ (fun b => qD ?_) fun b => ?_))
 ·rw [q27] at b ⊢;simp only [if_true] at b ⊢
  cases hc : ((s.2.length : Int) != r.1) with
  | true =>
    rw [hc] at b;refine .inl ⟨rfl, ?_⟩;simp at hc;unfold qZJ;omega
  | false => rw [hc] at b; cases b
 have hg : s.2.length = n := by
  rw [q27] at b
  cases hc : ((s.2.length : Int) != r.1) with
  | true => rw [hc] at b; cases b
  | false => simp at hc; omega
 have hl : qZJ s n := ⟨ht, hg⟩
 refine qCB s.1.length (fun k (q : Bool × Int × List (Value × Value)) => (q.1, q.2.1, (k : Int), q.2.2)) (fun k q => (∃ L, q.2.2 = eN L ∧ ∀ x, x ∈ L ↔ ∃ i, i < k ∧ x = prS s i) ∧ (q.1 = true ↔ ∃ i j, i < j ∧ j < k ∧ prS s i = prS s j) ∧ ((q.2.1 = 0 ∧ ∀ i, i < k -> inR r s i) ∨ (q.2.1 = 3 ∧ ∃ i, i < k ∧ ¬ inR r s i)))
  (false, 0, []) rfl ⟨⟨[], rfl, fun x => ⟨fun h => (by cases h), fun ⟨i, h, _⟩ => (by omega)⟩⟩, ⟨fun h => (by cases h), fun ⟨i, j, h1, h2, _⟩ => (by omega)⟩, .inl ⟨rfl, fun i h => (by omega)⟩⟩ ?_ ?_
 ·rintro k ⟨tw, e, es⟩ hk ⟨⟨L, hL, hm⟩, htw, he⟩;simp only at hL htw he;subst hL;have hk1 : k < s.2.length := by omega
  have hT : s.1[k] = s.1.getD k 0 := (yU hk).symm;have hG : s.2[k] = s.2.getD k 0 := (yU hk1).symm;have zKH : e = 0 ∨ e = 3 := by rcases he with h | h; exact .inl h.1; exact .inr h.1
  have hp : (Value.agg #[Value.int .i64 (s.1.getD k 0), Value.int .i64 (s.2.getD k 0)]) = kv (prS s k) := rfl
  have hm' : ∀ M : List (Int × Int), (∀ q, q ∈ M ↔ q = prS s k ∨ q ∈ L) -> ∀ x, x ∈ M ↔ ∃ i, i < k + 1 ∧ x = prS s i := fun M hM x => by
   rw [hM, hm];constructor
   ·rintro (rfl | ⟨i, h1, rfl⟩)
    ·exact ⟨k, by omega, rfl⟩
    ·exact ⟨i, by omega, rfl⟩
   ·rintro ⟨i, h1, rfl⟩;by_cases hik : i = k
    ·subst hik; exact .inl rfl
    ·exact .inr ⟨i, by omega, rfl⟩
  have he' : (fnz [e, cond (outs (s.1.getD k 0) 0 (w64 (r.2.2.2.1 + r.2.2.2.2))) 3 0, cond (outs (s.2.getD k 0) 0 (w64 (r.1 - 1))) 3 0] = 0 ∧ ∀ i, i < k + 1 -> inR r s i) ∨ (fnz [e, cond (outs (s.1.getD k 0) 0 (w64 (r.2.2.2.1 + r.2.2.2.2))) 3 0, cond (outs (s.2.getD k 0) 0 (w64 (r.1 - 1))) 3 0] = 3 ∧ ∃ i, i < k + 1 ∧ ¬ inR r s i) := by
   rw [zAD _ _ _ zKH];split
   ·rename_i h
    rcases he with ⟨_, h2⟩ | ⟨h1, _⟩
    ·refine .inl ⟨rfl, fun i hi => ?_⟩;by_cases hik : i = k
     ·subst hik; exact h.2
     ·exact h2 i (by omega)
    ·omega
   ·rename_i h;refine .inr ⟨rfl, ?_⟩
    rcases he with ⟨h1, _⟩ | ⟨_, i, h2, h3⟩
    ·exact ⟨k, by omega, fun hin => h ⟨h1, hin⟩⟩
    ·exact ⟨i, by omega, h3⟩
  refine gQ (qHB (by simp only; omega)) (zD k rfl hk (zF hk ?_));rw [e117];refine qP rfl (zD k rfl hk1 (zF hk1 (qP rfl (qP (qRP (by simp)) (zD k rfl hk1 (zF hk1 ?_))))));simp only [hT, hG, hp];have hw : IntKind.i64.wrap ((k : Int) + 1) = ((k + 1 : Nat) : Int) := fD (by omega);obtain ⟨M, hM1, hM2⟩ := q2X (prS s k) L;refine qZ (fun b1 => qP (q3W _ _) (qZ (fun b2 => ?_) fun b2 => ?_)) fun b1 => ?_
  ·have hin : prS s k ∈ L := of_decide_eq_true b2;refine qP (q29 hin) (qP hM1 (qD ⟨(true, _, eN M), by rw [hw]; rfl, ⟨M, rfl, hm' M hM2⟩, ⟨fun _ => ?_, fun _ => rfl⟩, he'⟩));obtain ⟨i, h1, h2⟩ := (hm _).1 hin;exact ⟨i, k, h1, by omega, h2.symm⟩
  ·have hin : prS s k ∉ L := of_decide_eq_false b2;refine qP hM1 (qD ⟨(false, _, eN M), by rw [hw]; rfl, ⟨M, rfl, hm' M hM2⟩, ⟨fun h => (by cases h), ?_⟩, he'⟩);rintro ⟨i, j, h1, h2, h3⟩;exfalso;by_cases hj : j = k
   ·subst hj;exact hin ((hm _).2 ⟨i, h1, h3.symm⟩)
   ·have := htw.2 ⟨i, j, h1, by omega, h3⟩;rw [qKQ, this] at b1;cases b1
  ·have h1 : tw = true := by simpa [qKQ] using b1
   refine qP hM1 (qD ⟨(true, _, eN M), by rw [hw]; rfl, ⟨M, rfl, hm' M hM2⟩, ⟨fun _ => ?_, fun _ => rfl⟩, he'⟩);obtain ⟨i, j, h2, h3, h4⟩ := htw.1 h1;exact ⟨i, j, h2, by omega, h4⟩
 ·rintro ⟨tw, e, es⟩ ⟨_, htw, he⟩;simp only at htw he;refine wP (qIC (by simp only; omega)) (qD ⟨_, rfl, ?_⟩)
  have fin : ∀ v : Int, (v = fnz [e, 19] ∧ CfS s n) ∨ (v = fnz [e, 0] ∧ ¬ CfS s n) ∨ (e = 3 ∧ ∃ x, v = fnz [e, x]) -> CsR r s n v := by
   intro v hv
   rcases he with ⟨rfl, h2⟩ | ⟨rfl, i, hi, h2⟩
   ·have hR : RgS r s n := fun i hi => h2 i (by omega)
    rcases hv with ⟨rfl, h3⟩ | ⟨rfl, h3⟩ | ⟨h3, _⟩
    ·exact .inr ⟨hl, .inr (.inl ⟨rfl, hR, h3⟩)⟩
    ·exact .inr ⟨hl, .inr (.inr ⟨rfl, hR, h3⟩)⟩
    ·cases h3
   ·have hR : ¬ RgS r s n := fun h => h2 (h i (by omega))
    have : v = 3 := by
     rcases hv with ⟨rfl, h3⟩ | ⟨rfl, h3⟩ | ⟨_, x, rfl⟩ <;> rfl
    exact .inr ⟨hl, .inl ⟨this, hR⟩⟩
  refine qZ (fun b1 => qE1 (zAM (by omega) (by omega)) fun mx ⟨x1, x2⟩ => qE1 (q9W (by omega) (by omega)) fun mn ⟨y1, y2⟩ => ?_) fun b1 => qP (qRP (by simp)) (qD (fin _ (.inl ⟨rfl, ?_⟩)))
  ·refine qP rfl (qP (qRP (by simp)) (qD (fin _ ?_)))
   rcases he with ⟨rfl, h2⟩ | ⟨rfl, _⟩
   ·obtain ⟨ix, hix, rfl⟩ := zMI.1 x1;obtain ⟨iy, hiy, rfl⟩ := zMI.1 y1;have b1' := qS5 hr (h2 ix (by omega));have b2' := qS5 hr (h2 iy (by omega));rw [yU hix] at b1';rw [yU hiy] at b2';have q1 := hr.fu;have q2 := hr.ta;rw [uQ (by omega) (by omega)]
    have hno : ∀ i j, i < j -> j < n -> prS s i ≠ prS s j := fun i j h3 h4 h5 => by
     have := htw.2 ⟨i, j, h3, by omega, h5⟩;rw [qKQ, this] at b1;cases b1
    cases hd : decide (1 < s.1[ix] - s.1[iy]) with
    | true =>
      have hd := of_decide_eq_true hd;exact .inl ⟨rfl, ix, iy, by omega, by omega, .inl (by rw [yU hix, yU hiy]; omega)⟩
    | false =>
      have hd := of_decide_eq_false hd;refine .inr (.inl ⟨rfl, ?_⟩);rintro ⟨i, k, hi, hk, h3 | ⟨h3, h4⟩⟩
      ·have z1 : s.1.getD i 0 <= s.1[ix] := by
        rw [yU (l := s.1) (i := i) (by omega)];exact x2 i (by omega)
       have z2 : s.1[iy] <= s.1.getD k 0 := by
        rw [yU (l := s.1) (i := k) (by omega)];exact y2 k (by omega)
       omega
      ·rcases Nat.lt_or_gt_of_ne h3 with h5 | h5
       ·exact hno i k h5 hk h4
       ·exact hno k i h5 hi h4.symm
   ·exact .inr (.inr ⟨rfl, _, rfl⟩)
  ·have h1 : tw = true := by simpa [qKQ] using b1
   obtain ⟨i, j, h2, h3, h4⟩ := htw.1 h1;exact ⟨i, j, by omega, by omega, .inr ⟨by omega, h4⟩⟩
end Go.Proofs.YtjboddididohgaaGreatDoor
