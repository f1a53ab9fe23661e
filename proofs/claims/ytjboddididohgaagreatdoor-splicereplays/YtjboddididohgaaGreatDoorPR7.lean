/- SpliceTucks, plainly. Conditions: none. -/
import Derived.Test.YtjboddididohgaaGreatDoorAW8
import Derived.Test.YtjboddididohgaaGreatDoorPR6
set_option linter.all false
set_option maxRecDepth 10000
namespace Go.Proofs.YtjboddididohgaaGreatDoor
open Go Go.Idl Go.Sv Go.Proofs
theorem h65 {l : List Int} (hl : l.length <= 1000) : H65 (l, l) = some true := by
 refine OkT.eq ?_;show OkT (G65 l l) _;unfold G65;refine eZ (by simp) (qAT l.length (fun k (_ : Unit) => (k : Int)) (fun _ _ => True) () rfl trivial (fun k _ hk _ => ?_) fun _ _ => ?_)
 ·refine bS (qMT (by omega)) (zX k rfl hk (zZ hk (zX k rfl hk (zZ hk (eZ (by simp) (qE ⟨(), ?_, trivial⟩))))));rw [nW (by omega)]
 ·exact eZ (qOU (by omega)) (qE ⟨_, rfl, qE rfl⟩)
theorem h21 {s : St} (h1 : s.1.length <= 1000) (h2 : s.2.length <= 1000) : H21 (s, s) = some true := by
 refine OkT.eq ?_;show OkT (G21 s s) _;unfold G21;exact zK (h65 h1) (bS rfl (zK (h65 h2) (qE rfl)))
theorem qZP {r : Rl} {n K : Nat} (hr : ROk r n) {s : St} (hs : SOk s n) {t : Tk} (hk : t.1 = (K : Int)) (hK : K < n) (h : s.1.getD K 0 < r.2.2.2.1 + r.2.2.2.2) : SOk (nP r s t) n := by
 have h1 := hs.t;have h2 := hs.g;refine ⟨by simp [nP, h1], by simp [nP, h2], fun i hi => ?_⟩;have q1 := hr.fu;have q2 := hr.ta;have hb := hs.b K hK
 have e : (nP r s t).1.getD i 0 = if K = i then s.1.getD K 0 + 1 else s.1.getD i 0 := by
  unfold nP;simp only [hk, zL3];rw [zLM, zK2];by_cases hKi : K = i
  ·subst hKi;rw [if_pos rfl, if_pos (by omega), if_pos rfl];exact qV1 (by omega) (by omega)
  ·rw [if_neg hKi, if_neg hKi, <- zLM]
 rw [e];split
 ·omega
 ·exact hs.b i hi
end Go.Proofs.YtjboddididohgaaGreatDoor
