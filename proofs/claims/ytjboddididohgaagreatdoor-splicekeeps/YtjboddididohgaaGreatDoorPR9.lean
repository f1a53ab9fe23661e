/- SpliceKeeps, plainly. Conditions: none. -/
import Derived.Test.YtjboddididohgaaGreatDoorPR8
set_option linter.all false
set_option maxRecDepth 10000
namespace Go.Proofs.YtjboddididohgaaGreatDoor
open Go Go.Idl Go.Sv Go.Proofs
noncomputable section
theorem qNV {r : Rl} {n K : Nat} (hr : ROk r n) {s : St} (hs : SOk s n) {t : Tk} (hk : t.1 = (K : Int)) (hK : K < n) (i : Nat) (hi : i < n) :
 (uX r s t).1.getD i 0 = (if i = K then s.1.getD i 0 + 1 else s.1.getD i 0) ∧ (uX r s t).2.getD i 0 = if i = K then qW1 r s t else s.2.getD i 0 := by
 have h1 := hs.t;have h2 := hs.g;have hb := hs.b K hK;unfold uX;simp only [hk, zMJ];rw [zK9, zLD, zK9 (l := s.2.set _ _), zLD];by_cases hKi : K = i
 ·subst hKi;rw [if_pos rfl, if_pos (by omega), if_pos rfl, if_pos rfl, if_pos (by omega), if_pos rfl];exact ⟨uQ (by omega) (by omega), rfl⟩
 ·rw [if_neg hKi, if_neg (Ne.symm hKi), if_neg hKi, if_neg (Ne.symm hKi)];exact ⟨by rw [<- zK9], by rw [<- zK9]⟩
theorem qJQ {r : Rl} {n K : Nat} (hr : ROk r n) {s : St} (hs : SOk s n) {t : Tk} (hk : t.1 = (K : Int)) (hK : K < n) (ho : 0 <= t.2.1 ∧ t.2.1 <= 8) (hu : 0 <= t.2.2 ∧ t.2.2 <= 8) (hR : RgS r s n) (hC : ¬ CfS s n) (hl : q4B (qKO r s t n K) 0) :
 SOk (uX r s t) n ∧ RgS r (uX r s t) n ∧ ¬ CfS (uX r s t) n := by
 obtain ⟨hA, hB, hD⟩ := q9S hr hl;have hn := qPH hr hs hk hK hA;have hg := qNV hr hs hk hK;have q1 := hr.fu;have q2 := hr.ta;have q3 := hr.e;have q4 := hr.lo;have q5 := hr.hi;have e1 : w64 (r.2.2.2.1 + r.2.2.2.2) = r.2.2.2.1 + r.2.2.2.2 := uQ (by omega) (by omega);have e2 : w64 (r.1 - 1) = r.1 - 1 := uQ (by omega) (by omega);have hKb := qS5 hr (hR K hK)
 have hgap : 0 <= qW1 r s t ∧ qW1 r s t < n := by
  unfold qW1;rw [hk, zMJ];have e3 : w64 (s.2.getD K 0 + t.2.1) = s.2.getD K 0 + t.2.1 := uQ (by omega) (by omega);rw [e3];have e4 : w64 (s.2.getD K 0 + t.2.1 + t.2.2) = s.2.getD K 0 + t.2.1 + t.2.2 := uQ (by omega) (by omega);rw [e4, q3];exact ⟨Int.tmod_nonneg _ (by omega), Int.tmod_lt_of_pos _ (by omega)⟩
 refine ⟨hn, fun i hi => ?_, ?_⟩
 ·have := qS5 hr (hR i hi);unfold inR;rw [(hg i hi).1, (hg i hi).2, e1, e2, qAO, qAO];by_cases h : i = K
  ·subst h;rw [if_pos rfl, if_pos rfl];omega
  ·rw [if_neg h, if_neg h];omega
 ·have hB' : ∀ i, i < n -> s.1.getD K 0 <= s.1.getD i 0 := fun i hi => Int.not_lt.1 fun h => hB ⟨i, hi, h⟩
  have hD' : ∀ i, i < n -> s.1.getD i 0 = s.1.getD K 0 + 1 -> s.2.getD i 0 ≠ qW1 r s t := fun i hi h1 h2 => hD ⟨i, hi, by rw [h1]; exact (uQ (by omega) (by omega)).symm, h2⟩
  have hC1 : ∀ i k, i < n -> k < n -> s.1.getD i 0 <= s.1.getD k 0 + 1 := fun i k hi hk => Int.not_lt.1 fun h => hC ⟨i, k, hi, hk, .inl h⟩
  have hC2 : ∀ i k, i < n -> k < n -> i ≠ k -> s.1.getD i 0 = s.1.getD k 0 -> s.2.getD i 0 ≠ s.2.getD k 0 := fun i k hi hk hne h1 h2 => hC ⟨i, k, hi, hk, .inr ⟨hne, Prod.ext h1 h2⟩⟩
  rintro ⟨i, k, hi, hk2, h | ⟨hne, h⟩⟩
  ·rw [(hg i hi).1, (hg k hk2).1] at h;have a1 := hB' k hk2;have a2 := hC1 i k hi hk2;by_cases hi2 : i = K
   ·subst hi2;by_cases hk3 : k = i
    ·subst hk3; omega
    ·rw [if_neg hk3, if_pos rfl] at h; omega
   ·rw [if_neg hi2] at h;by_cases hk3 : k = K
    ·rw [if_pos hk3] at h; omega
    ·rw [if_neg hk3] at h; omega
  ·unfold prS at h;rw [(hg i hi).1, (hg k hk2).1, (hg i hi).2, (hg k hk2).2, Prod.mk.injEq] at h;obtain ⟨h1, h2⟩ := h;by_cases hi2 : i = K
   ·have hk3 : k ≠ K := fun e => hne (hi2.trans e.symm)
    rw [if_pos hi2, if_neg hk3] at h1 h2;subst hi2;exact hD' k hk2 h1.symm h2.symm
   ·by_cases hk3 : k = K
    ·rw [if_neg hi2, if_pos hk3] at h1 h2;subst hk3;exact hD' i hi h1 h2
    ·rw [if_neg hi2, if_neg hk3] at h1 h2;exact hC2 i k hi hk2 hne h1 h2
theorem bA {n i : Nat} (hi : i < n) : (st0 n).1.getD i 0 = 0 ∧ (st0 n).2.getD i 0 = (i : Int) := by
 constructor
 ·rw [yU (by simp [st0, hi])]; simp [st0]
 ·rw [yU (by simp [st0, hi])]; simp [st0]
theorem qXH {r : Rl} {n : Nat} (hr : ROk r n) : RgS r (st0 n) n ∧ ¬ CfS (st0 n) n := by
 have q1 := hr.fu;have q2 := hr.ta;have q3 := hr.e;have q4 := hr.lo;have q5 := hr.hi;have e1 : w64 (r.2.2.2.1 + r.2.2.2.2) = r.2.2.2.1 + r.2.2.2.2 := uQ (by omega) (by omega);have e2 : w64 (r.1 - 1) = r.1 - 1 := uQ (by omega) (by omega);constructor
 ·intro i hi;unfold inR;rw [(bA hi).1, (bA hi).2, e1, e2, qAO, qAO];omega
 ·rintro ⟨i, k, hi, hk, h | ⟨hne, h⟩⟩
  ·rw [(bA hi).1, (bA hk).1] at h;omega
  ·unfold prS at h;rw [(bA hi).1, (bA hk).1, (bA hi).2, (bA hk).2, Prod.mk.injEq] at h;omega
theorem qFO {r : Rl} {n : Nat} (hr : ROk r n) {l : List Tk} (hl : ∀ (i : Nat) (h : i < l.length), qHE r l[i] = 0) : ∀ k, k <= l.length -> RgS r (xV r n l k).2 n ∧ ¬ CfS (xV r n l k).2 n
 | 0, _ => qXH hr
 | k + 1, hk => by
   obtain ⟨h1, h2⟩ := qFO hr hl k (by omega);have hs := (fI hr hl k (by omega)).1;obtain ⟨K, hK1, hK2, ho, hu⟩ := qEV hr (hl k (by omega));have e := qGW (l := l) (i := k) (by omega);rw [kL, e];split
   ·rename_i h;have h3 := (qN1 hr hs hK1 hK2).2;rw [h] at h3;exact (qJQ hr hs hK1 hK2 ho hu h1 h2 h3).2
   ·exact ⟨h1, h2⟩
theorem CsR.of {r : Rl} {n : Nat} {s : St} (hs : SOk s n) (h1 : RgS r s n) (h2 : ¬ CfS s n) {v : Int} (h : CsR r s n v) : v = 0 :=
 h.uniq (.inr ⟨⟨hs.t, hs.g⟩, .inr (.inr ⟨rfl, h1, h2⟩)⟩)
theorem qUB {r : Rl} {n : Nat} (hr : ROk r n) {s : St} (hs : SOk s n) (h1 : RgS r s n) (h2 : ¬ CfS s n) : H73 (r, s) = some 0 := by
 obtain ⟨v, hv, hc⟩ := h73 hr s;rw [hv, hc.of hs h1 h2]
theorem q04 {r : Rl} {n : Nat} (hr : ROk r n) (h18 : H18 r = some 0) {s : St} (hs : SOk s n) (h1 : RgS r s n) (h2 : ¬ CfS s n) : H86 (r, s) = some 0 := by
 obtain ⟨v, hv, hc⟩ := h86 hr h18 s;rw [hv, hc.of hs h1 h2]
def jC (r : Rl) (n : Nat) (l : List Tk) : Nat -> List Tk
 | 0 => []
 | k + 1 => if qDF r (xV r n l k).2 (l.getD k (0, 0, 0)) = 0 then jC r n l k ++ [l.getD k (0, 0, 0)] else jC r n l k
theorem qDG {r : Rl} {n : Nat} {l m : List Tk} : ∀ (k : Nat), (∀ i, i < k -> l.getD i (0, 0, 0) = m.getD i (0, 0, 0)) -> xV r n l k = xV r n m k
 | 0, _ => rfl
 | k + 1, h => by
   rw [kL, kL, qDG k fun i hi => h i (by omega), h k (by omega)]
theorem qLZ {r : Rl} {n : Nat} {l : List Tk} (hl : ∀ (i : Nat) (h : i < l.length), qHE r l[i] = 0) : ∀ k, k <= l.length -> (jC r n l k).length <= k ∧ (∀ (i : Nat) (h : i < (jC r n l k).length), qHE r (jC r n l k)[i] = 0) ∧ xV r n (jC r n l k) (jC r n l k).length = ([], (xV r n l k).2)
 | 0, _ => ⟨zKK _, fun i h => (by cases h), rfl⟩
 | k + 1, hk => by
   obtain ⟨h1, h2, h3⟩ := qLZ hl k (by omega);have e := qGW (l := l) (i := k) (by omega);have hu : jC r n l (k + 1) = if qDF r (xV r n l k).2 (l.getD k (0, 0, 0)) = 0 then jC r n l k ++ [l.getD k (0, 0, 0)] else jC r n l k := rfl;rw [kL];rw [hu];split
   ·rename_i h;refine ⟨by simp; omega, fun i hi => ?_, ?_⟩
    ·rw [List.getElem_append];split
     ·exact h2 i _
     ·simp only [List.getElem_singleton];rw [e]; exact hl k (by omega)
    ·rw [zK6, List.length_singleton, kL]
     have hc : xV r n (jC r n l k ++ [l.getD k (0, 0, 0)]) (jC r n l k).length = xV r n (jC r n l k) (jC r n l k).length := qDG _ fun i hi => by
      rw [zK9, zLW hi, <- zK9]
     have hg : (jC r n l k ++ [l.getD k (0, 0, 0)]).getD (jC r n l k).length (0, 0, 0) = l.getD k (0, 0, 0) := by
      rw [zK9, zLV (zKK _)];simp
     rw [hc, hg, h3, if_pos h]
   ·exact ⟨by omega, h2, h3⟩
theorem h26 {r : Rl} {n : Nat} (hr : ROk r n) {s : St} (hs : SOk s n) (h : H86 (r, s) = some 0) : OkT (H26 (r, s)) fun q => (∃ i : Nat, i < n ∧ s.1.getD i 0 < r.2.2.2.1 + r.2.2.2.2 ∧ (∀ j, j < i -> ¬ s.1.getD j 0 < r.2.2.2.1 + r.2.2.2.2) ∧ q = ((i : Int), 0)) ∨ ((∀ j, j < n -> ¬ s.1.getD j 0 < r.2.2.2.1 + r.2.2.2.2) ∧ q = (0, 7)) := by
 have q1 := hr.fu;have q2 := hr.ta;have ht := hs.t;have hhi := hr.hi;have e1 : IntKind.i64.wrap (r.2.2.2.1 + r.2.2.2.2) = r.2.2.2.1 + r.2.2.2.2 := uQ (by omega) (by omega);show OkT (G26 r s) _;unfold G26;refine qP h (wP rfl ?_);rw [e95];refine q4L (fun p : Int × Int => p.1 = -1 ∧ ∃ k : Nat, p.2 = (k : Int) ∧ k <= n ∧ ∀ j, j < k -> ¬ s.1.getD j 0 < r.2.2.2.1 + r.2.2.2.2) (fun p => n - p.2.toNat) ⟨rfl, 0, rfl, zMH _, fun j hj => by omega⟩ ?_;rintro ⟨a, b⟩ ⟨h1, k, h2, h3, h4⟩;simp only at h1 h2;subst h1 h2;refine qZ (fun c => ?_) fun c => ?_
 ·have hk : k < s.1.length := by simpa using c
  refine zD k rfl hk (zF hk (qZ (fun d => qD ?_) fun d => qD ?_))
  ·rw [e1] at d;have d := of_decide_eq_true d;rw [<- yU hk] at d;refine qP rfl (qD (.inl ⟨k, by omega, d, h4, ?_⟩));have hn : decide ((k : Int) < 0) = false := decide_eq_false (by omega);simp only [hn]
   cases hd : decide (0 < (k : Int)) with
   | true => rfl
   | false =>
     have := of_decide_eq_false hd;have : k = 0 := by omega
     subst this;rfl
  ·rw [e1] at d;have d := of_decide_eq_false d;rw [<- yU hk] at d;have hw : IntKind.i64.wrap ((k : Int) + 1) = ((k + 1 : Nat) : Int) := fD (by omega);refine ⟨⟨rfl, k + 1, hw, by omega, fun j hj => ?_⟩, ?_⟩
   ·by_cases hjk : j = k
    ·subst hjk; exact d
    ·exact h4 j (by omega)
   ·show n - (IntKind.i64.wrap ((k : Int) + 1)).toNat < n - ((k : Int)).toNat;rw [hw]; omega
 ·have hk : ¬ k < s.1.length := by simpa using c
  refine qD (qP rfl (qD (.inr ⟨fun j hj => h4 j (by omega), rfl⟩)))
end
end Go.Proofs.YtjboddididohgaaGreatDoor
