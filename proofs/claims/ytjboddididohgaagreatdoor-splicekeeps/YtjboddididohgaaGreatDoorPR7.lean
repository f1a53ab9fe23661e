/- SpliceTucks, plainly. Conditions: none. -/
import Derived.Test.YtjboddididohgaaGreatDoorAW8
import Derived.Test.YtjboddididohgaaGreatDoorPR6
set_option linter.all false
set_option maxRecDepth 10000
namespace Go.Proofs.YtjboddididohgaaGreatDoor
open Go Go.Idl Go.Sv Go.Proofs
theorem h65 {l : List Int} (hl : l.length <= 1000) : H65 (l, l) = some true := by
 refine OkT.eq ?_;show OkT (G65 l l) _;unfold G65;refine wP (by simp) (qCB l.length (fun k (_ : Unit) => (k : Int)) (fun _ _ => True) () rfl trivial (fun k _ hk _ => ?_) fun _ _ => ?_)
 ·refine gQ (qHB (by omega)) (zD k rfl hk (zF hk (zD k rfl hk (zF hk (wP (by simp) (qD ⟨(), ?_, trivial⟩))))));rw [fD (by omega)]
 ·exact wP (qIC (by omega)) (qD ⟨_, rfl, qD rfl⟩)
theorem h21 {s : St} (h1 : s.1.length <= 1000) (h2 : s.2.length <= 1000) : H21 (s, s) = some true := by
 refine OkT.eq ?_;show OkT (G21 s s) _;unfold G21;exact qP (h65 h1) (gQ rfl (qP (h65 h2) (qD rfl)))
theorem q7N {r : Rl} {n K : Nat} (hr : ROk r n) {s : St} (hs : SOk s n) {t : Tk} (hk : t.1 = (K : Int)) (hK : K < n) (h : H86 (r, s) = some 0) (ht : qHE r t = 0) {v : Int} (hv : zC2 (r, s, t) = some v) : H75 (r, s, t) = some (v, 0) ∧ (v ≠ 0 -> H87 (r, s, t) = some (([], []), 18)) ∧ (v = 0 -> H87 (r, s, t) = some (uX r s t, 0)) := by
 have h1 : H96 (r, t) = some 0 := by rw [(h96 hr t).1, ht]
 refine ⟨OkT.eq ?_, fun hv0 => OkT.eq ?_, fun hv0 => OkT.eq ?_⟩
 ·show OkT (G75 r s t) _;unfold G75;exact qP h (qP h1 (qP (qRP (by simp)) (wP rfl (qP hv (qD rfl)))))
 ·show OkT (G87 r s t) _;unfold G87;exact qP h (qP h1 (qP (qRP (by simp)) (wP rfl (qP hv (gQ (bne_iff_ne.2 hv0) (qD rfl))))))
 ·subst hv0;show OkT (G87 r s t) _;unfold G87;exact qP h (qP h1 (qP (qRP (by simp)) (wP rfl (qP hv (wP rfl (qP (q60 hr hs hk hK) (qD rfl)))))))
theorem qPH {r : Rl} {n K : Nat} (hr : ROk r n) {s : St} (hs : SOk s n) {t : Tk} (hk : t.1 = (K : Int)) (hK : K < n) (h : s.1.getD K 0 < r.2.2.2.1 + r.2.2.2.2) : SOk (uX r s t) n := by
 have h1 := hs.t;have h2 := hs.g;refine ⟨by simp [uX, h1], by simp [uX, h2], fun i hi => ?_⟩;have q1 := hr.fu;have q2 := hr.ta;have hb := hs.b K hK
 have e : (uX r s t).1.getD i 0 = if K = i then s.1.getD K 0 + 1 else s.1.getD i 0 := by
  unfold uX;simp only [hk, zMJ];rw [zK9, zLD];by_cases hKi : K = i
  ·subst hKi;rw [if_pos rfl, if_pos (by omega), if_pos rfl];exact uQ (by omega) (by omega)
  ·rw [if_neg hKi, if_neg hKi, <- zK9]
 rw [e];split
 ·omega
 ·exact hs.b i hi
end Go.Proofs.YtjboddididohgaaGreatDoor
