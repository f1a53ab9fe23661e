/- SpliceTucks, plainly. Conditions: none. -/
import Derived.Test.YtjboddididohgaaGreatDoorAW8
import Derived.Test.YtjboddididohgaaGreatDoorPR6
set_option linter.all false
set_option maxRecDepth 10000
namespace Go.Proofs.YtjboddididohgaaGreatDoor
open Go Go.Idl Go.Sv Go.Proofs
theorem h65 {l : List Int} (hl : l.length <= 1000) : H65 (l, l) = some true := by
 refine OkT.eq ?_;show OkT (G65 l l) _;unfold G65;refine fH (by simp) (qNY l.length (fun k (_ : Unit) => (k : Int)) (fun _ _ => True) () rfl trivial (fun k _ hk _ => ?_) fun _ _ => ?_)
 ·refine j3 (qQ3 (by omega)) (zP k rfl hk (zQ hk (zP k rfl hk (zQ hk (fH (by simp) (qE ⟨(), ?_, trivial⟩))))));rw [qA2 (by omega)]
 ·exact fH (qV3 (by omega)) (qE ⟨_, rfl, qE rfl⟩)
theorem h21 {s : St} (h1 : s.1.length <= 1000) (h2 : s.2.length <= 1000) : H21 (s, s) = some true := by
 refine OkT.eq ?_;show OkT (G21 s s) _;unfold G21;exact qI (h65 h1) (j3 rfl (qI (h65 h2) (qE rfl)))
theorem q9Z (r : Rl) (t : Tk) : ∃ v, H96 (r, t) = some v := by
 refine (?_ : OkT (G96 r t) fun _ => True).imp fun _ h => h.1
 unfold G96;rw [e95, e117];exact qV (fun _ => qI rfl (qI rfl (qI rfl (qI (qG4 (by simp)) (qE trivial))))) fun _ => qI rfl (qI rfl (qE trivial))
theorem q5F {r : Rl} {s : St} {t : Tk} {v : Int} (h : H86 (r, s) = some v) (hv : v ≠ 0) : H75 (r, s, t) = some (0, v) ∧ H87 (r, s, t) = some (([], []), v) := by
 obtain ⟨w, hw⟩ := q9Z r t;have h1 : fnz [v, w] = v := by rw [q1A, if_neg hv]
 have h2 : (v != 0) = true := bne_iff_ne.2 hv;constructor <;> refine OkT.eq ?_
 ·show OkT (G75 r s t) _;unfold G75;exact qI h (qI hw (qI (qG4 (by simp)) (j3 (by rw [h1]; exact h2) (qE (by rw [h1])))))
 ·show OkT (G87 r s t) _;unfold G87;exact qI h (qI hw (qI (qG4 (by simp)) (j3 (by rw [h1]; exact h2) (qE (by rw [h1])))))
theorem q9V {r : Rl} {n : Nat} (hr : ROk r n) {s : St} {t : Tk} (h : H86 (r, s) = some 0) (hv : qMV r t ≠ 0) : H75 (r, s, t) = some (0, qMV r t) ∧ H87 (r, s, t) = some (([], []), qMV r t) := by
 have h1 : fnz [0, qMV r t] = qMV r t := by rw [q1A, if_pos rfl]
 have h2 : (qMV r t != 0) = true := bne_iff_ne.2 hv;constructor <;> refine OkT.eq ?_
 ·show OkT (G75 r s t) _;unfold G75;exact qI h (qI (h96 hr t).1 (qI (qG4 (by simp)) (j3 (by rw [h1]; exact h2) (qE (by rw [h1])))))
 ·show OkT (G87 r s t) _;unfold G87;exact qI h (qI (h96 hr t).1 (qI (qG4 (by simp)) (j3 (by rw [h1]; exact h2) (qE (by rw [h1])))))
theorem q6O {r : Rl} {n K : Nat} (hr : ROk r n) {s : St} (hs : SOk s n) {t : Tk} (hk : t.1 = (K : Int)) (hK : K < n) (h : H86 (r, s) = some 0) (ht : qMV r t = 0) {v : Int} (hv : zCS (r, s, t) = some v) : H75 (r, s, t) = some (v, 0) ∧ (v ≠ 0 -> H87 (r, s, t) = some (([], []), 18)) ∧ (v = 0 -> H87 (r, s, t) = some (tH r s t, 0)) := by
 have h1 : H96 (r, t) = some 0 := by rw [(h96 hr t).1, ht]
 refine ⟨OkT.eq ?_, fun hv0 => OkT.eq ?_, fun hv0 => OkT.eq ?_⟩
 ·show OkT (G75 r s t) _;unfold G75;exact qI h (qI h1 (qI (qG4 (by simp)) (fH rfl (qI hv (qE rfl)))))
 ·show OkT (G87 r s t) _;unfold G87;exact qI h (qI h1 (qI (qG4 (by simp)) (fH rfl (qI hv (j3 (bne_iff_ne.2 hv0) (qE rfl))))))
 ·subst hv0;show OkT (G87 r s t) _;unfold G87;exact qI h (qI h1 (qI (qG4 (by simp)) (fH rfl (qI hv (fH rfl (qI (qG3 hr hs hk hK).1 (qE rfl)))))))
theorem q77 {b : Int} (h : b ≠ 0) : H30 (0, b, b, 0) = some true := by
 refine OkT.eq ?_;show OkT (G30 0 b b 0) _;unfold G30;exact j3 (bne_iff_ne.2 h) (j3 rfl (qE (by simp)))
theorem q9J (v : Int) : H30 (v, 0, 0, v) = some true := by
 refine OkT.eq ?_;show OkT (G30 v 0 0 v) _;unfold G30;exact fH rfl (j3 rfl (qE (by simp)))
theorem CsR.sok {r : Rl} {n : Nat} (hr : ROk r n) {s : St} (h : CsR r s n 0) : SOk s n ∧ RgS r s n ∧ ¬ CfS s n := by
 rcases h with ⟨h, _⟩ | ⟨hl, ⟨h, _⟩ | ⟨h, _⟩ | ⟨_, hR, hC⟩⟩
 ·cases h
 ·cases h
 ·cases h
 ·refine ⟨⟨hl.1, hl.2, fun i hi => ?_⟩, hR, hC⟩;have := qXK hr (hR i hi);have := hr.fu;have := hr.ta;omega
theorem qX3 {r : Rl} {n K : Nat} (hr : ROk r n) {s : St} (hs : SOk s n) {t : Tk} (hk : t.1 = (K : Int)) (hK : K < n) (h : s.1.getD K 0 < r.2.2.2.1 + r.2.2.2.2) : SOk (tH r s t) n := by
 have h1 := hs.t;have h2 := hs.g;refine ⟨by simp [tH, h1], by simp [tH, h2], fun i hi => ?_⟩;have q1 := hr.fu;have q2 := hr.ta;have hb := hs.b K hK
 have e : (tH r s t).1.getD i 0 = if K = i then s.1.getD K 0 + 1 else s.1.getD i 0 := by
  unfold tH;simp only [hk, zL1];rw [zLU, zKX];by_cases hKi : K = i
  ·subst hKi;rw [if_pos rfl, if_pos (by omega), if_pos rfl];exact qGP (by omega) (by omega)
  ·rw [if_neg hKi, if_neg hKi, <- zLU]
 rw [e];split
 ·omega
 ·exact hs.b i hi
theorem q75 (r : Rl) (s : St) (t : Tk) : H13 (r, s, t) = some true := by
 refine OkT.eq ?_
 delta H13 q97.run
 dsimp only
 delta G13
 have aw := awake
 revert aw
 generalize H16 () = o16;intro aw;refine qI aw (j3 rfl ?_)
 have h25 : ∃ b, H25 (s, []) = some b ∧ (b = true -> s.1.length <= 11) := by
  refine (?_ : OkT (G25 s []) fun b => b = true -> s.1.length <= 11).imp fun b h => h
  unfold G25;exact qV (fun a => qV (fun b => qE fun _ => by simp [q0X] at a; omega) fun b => qE fun h => by cases h) fun a => qE fun h => by cases h
 obtain ⟨b25, h25, hlen⟩ := h25;refine qI h25 (qV (fun _ => qI aw (qE rfl)) fun _ => ?_);obtain ⟨v, h86, h29, ⟨h18, n, hr, h73, hcs⟩ | ⟨h18, rfl⟩⟩ := q3T r s
 ·have h84 : H84 r = some 0 := (n84 r).trans h18
  have h83 : H83 r = some (st0 n, 0) := by
   refine OkT.eq ?_;show OkT (G83 r) _;unfold G83;exact qI h84 (fH rfl (qI (h97 hr).1 (qE rfl)))
  have hst := q6C hr.hi;have hhi := hr.hi;refine qI h83 (qI h18 (qI h84 (j3 rfl (j3 rfl (j3 rfl (qI (h97 hr).2 (qI (h21 (s := st0 n) (by rw [hst.t]; omega) (by rw [hst.g]; omega)) (j3 rfl (fH rfl (qI h29 (qI h86 (fH (by simp) ?_))))))))))));by_cases hv : v = 0
  ·subst hv;obtain ⟨hs, _, _⟩ := hcs.sok hr;by_cases he : qMV r t = 0
   ·obtain ⟨K, hk, hK, _⟩ := q4B hr he;obtain ⟨w, w1, w2, w3⟩ := qYM hr hs hk hK;obtain ⟨g1, g2, g3⟩ := q6O hr hs hk hK h86 he w1;have h88 : H88 (r, t) = some 0 := by rw [(h96 hr t).2, he]
    by_cases hw : w = 0
    ·have hA : s.1.getD K 0 < r.2.2.2.1 + r.2.2.2.2 := by
      subst hw;have q1 := hr.fu;have q2 := hr.ta
      have : ¬ (sD r s t n K).A := by
       rcases w3 with ⟨h, _⟩ | ⟨h, _⟩ | ⟨h, _⟩ | ⟨h, _⟩ | ⟨_, h, _⟩
       ·cases h
       ·cases h
       ·cases h
       ·cases h
       ·exact h
      have hw2 : w64 (r.2.2.2.1 + r.2.2.2.2) = r.2.2.2.1 + r.2.2.2.2 := qGP (by omega) (by omega);unfold sD at this;simp only [hw2] at this;omega
     have hn := qX3 hr hs hk hK hA;refine qI g1 (qI (g3 hw) (j3 rfl (qI h88 (fH rfl (qI w2 (qI (q9J w) (fH rfl (fH (by rw [hw]; rfl) (j3 rfl (qI (qG3 hr hs hk hK).2 (qI (h21 (s := tH r s t) (by rw [hn.t]; omega) (by rw [hn.g]; omega)) (qE rfl))))))))))))
    ·exact qI g1 (qI (g2 hw) (j3 rfl (qI h88 (fH rfl (qI w2 (qI (q9J w) (fH rfl (j3 (bne_iff_ne.2 hw) (j3 rfl (qE rfl))))))))))
   ·obtain ⟨g1, g2⟩ := q9V hr h86 he;exact qI g1 (qI g2 (j3 rfl (qI (h96 hr t).2 (j3 (bne_iff_ne.2 he) (qI (q77 he) (j3 rfl (j3 rfl (qE (by simp)))))))))
  ·obtain ⟨g1, g2⟩ := q5F (t := t) h86 hv;exact qI g1 (qI g2 (fH (by simp [hv]) (j3 (bne_iff_ne.2 hv) (qI (q77 hv) (j3 rfl (j3 rfl (qE (by simp))))))))
 ·have h84 : H84 r = some 3 := (n84 r).trans h18
  have h83 : H83 r = some (([], []), 3) := by
   refine OkT.eq ?_;show OkT (G83 r) _;unfold G83;exact qI h84 (j3 rfl (qE rfl))
  obtain ⟨g1, g2⟩ := q5F (t := t) h86 (by decide);exact qI h83 (qI h18 (qI h84 (j3 rfl (j3 rfl (fH rfl (j3 rfl (fH rfl (qI h29 (qI h86 (fH rfl (qI g1 (qI g2 (fH rfl (j3 rfl (qI (q77 (by decide)) (j3 rfl (j3 rfl (qE rfl))))))))))))))))))
end Go.Proofs.YtjboddididohgaaGreatDoor
