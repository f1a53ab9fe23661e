/- SpliceKeeps, plainly: the law. Conditions: none. -/
import Derived.Test.YtjboddididohgaaGreatDoorAW8
import Derived.Test.YtjboddididohgaaGreatDoorPR9
set_option linter.all false
set_option maxRecDepth 10000
set_option maxHeartbeats 100000000
namespace Go.Proofs.YtjboddididohgaaGreatDoor
open Go Go.Idl Go.Sv Go.Proofs
noncomputable section
theorem h15 {l : List Tk} (hl : l.length <= 1048576) : H15 l = some l := by
 refine OkT.eq ?_;show OkT (G15 l) _;unfold G15;refine qCB l.length (fun k (_ : Unit) => ((k : Int), l.take k)) (fun _ _ => True) () (by simp) trivial (fun k _ hk _ => ?_) fun _ _ => ?_
 ·refine gQ (qHB (by simp only; omega)) (zD k rfl hk (zF hk (gQ (zK4 (by simp only [zLZ, zK1, zNM]; omega)) (qD ⟨(), ?_, trivial⟩))));simp only [fD (show k < 2 ^ 62 by omega), List.take_succ_eq_append_getElem hk]
 ·exact wP (qIC (by simp only; omega)) (qD ⟨_, rfl, qD (by simp)⟩)
theorem q88 (r : Rl) (l : List Tk) : H14 (r, l) = some true := by
 refine OkT.eq ?_
 delta H14 zAN.run
 dsimp only
 delta G14
 have aw := awake
 revert aw
 generalize H16 () = o16;intro aw;refine qP aw (gQ rfl (qZ (fun a40 => ?_) fun _ => qP aw (qD rfl)));have h40 : l.length <= 40 := by simp [qKQ] at a40; omega
 obtain ⟨v18, h18, ⟨rfl, n, hr⟩ | rfl⟩ := h18 r
 rotate_left 1
 ·exact qP h18 (wP rfl (qP aw (qD rfl)))
 refine qP h18 (gQ rfl (qP (h15 (by omega)) (qP (h19 hr l) (qZ (fun _ => qP aw (qD rfl)) fun ac => ?_))));have hc : qO9 r l = 0 := by simpa using ac
 obtain ⟨_, hl⟩ := qU4 hc;have q1 := hr.fu;have q2 := hr.ta;have q3 := hr.e;have q4 := hr.lo;have q5 := hr.hi;have h84 : H84 r = some 0 := (n84 r).trans h18
 have h83 : H83 r = some (st0 n, 0) := by
  refine OkT.eq ?_;show OkT (G83 r) _;unfold G83;exact qP h84 (wP rfl (qP (h97 hr) (qD rfl)))
 refine qP h83 (wP rfl ?_);refine qCB l.length (fun k (_ : Unit) => (((xV r n l k).1.length : Int), (k : Int), jC r n l k, (xV r n l k).2.1, (xV r n l k).2.2)) (fun _ _ => True) () rfl trivial (fun k _ hk _ => ?_) fun _ _ => ?_
 ·have hs := (fI hr hl k (by omega)).1;have hlen := (fI hr hl k (by omega)).2;obtain ⟨hR, hC⟩ := qFO hr hl k (by omega);obtain ⟨K, hK1, hK2, ho, hu⟩ := qEV hr (hl k hk);have e := qGW hk;have hL := qN1 hr hs hK1 hK2;obtain ⟨g1, g2, g3⟩ := q7N hr hs hK1 hK2 (q04 hr h18 hs hR hC) (hl k hk) hL.1;have hw : IntKind.i64.wrap ((k : Int) + 1) = ((k + 1 : Nat) : Int) := fD (by omega);refine gQ (qHB (by simp only; omega)) (qP (qUB hr hs hR hC) (wP rfl (zD k rfl hk (zF hk (qP g1 (zD k rfl hk (zF hk ?_)))))));by_cases hv : qDF r (xV r n l k).2 l[k] = 0
  ·have h3 := hL.2;rw [hv] at h3;obtain ⟨hs', hR', hC'⟩ := qJQ hr hs hK1 hK2 ho hu hR hC h3;have hg := qNV hr hs hK1 hK2;refine qP (g3 hv) ?_;rw [hv];refine gQ rfl (gQ rfl (gQ rfl (wP rfl (wP rfl (qP (qUB hr hs' hR' hC') (wP rfl ?_))))));refine fF n (fun _ => False) (fun _ => .inr (.inl true)) (.inl (n : Int)) ?_ (wP (qIC (by omega)) (qD rfl)) (fun _ _ h => h.elim) fun _ => ?_
   ·intro j hj;have t1 : j < (xV r n l k).2.1.length := by have := hs.t; omega
    have t2 : j < (xV r n l k).2.2.length := by have := hs.g; omega
    have t3 : j < (uX r (xV r n l k).2 l[k]).1.length := by have := hs'.t; omega
    have t4 : j < (uX r (xV r n l k).2 l[k]).2.length := by have := hs'.g; omega
    have hwj : IntKind.i64.wrap ((j : Int) + 1) = ((j + 1 : Nat) : Int) := fD (by omega);have hb := hs.b j hj;obtain ⟨u1, u2⟩ := hg j hj;rw [yU t3, yU t1] at u1;rw [yU t4, yU t2] at u2;rw [yU t1] at hb;have hw2 : IntKind.i64.wrap ((xV r n l k).2.1[j] + 1) = (xV r n l k).2.1[j] + 1 := uQ (by omega) (by omega);refine gQ (qHB (by omega)) (zD j rfl t1 (zF t1 (zD k rfl hk (zF hk (qZ (fun c => zD j rfl t3 (zF t3 (wP ?_ (qD (.inr ⟨id, by rw [hwj]⟩))))) fun c => zD j rfl t4 (zF t4 (zD j rfl t2 (zF t2 (wP ?_ (zD j rfl t3 (zF t3 (wP ?_ (qD (.inr ⟨id, by rw [hwj]⟩))))))))))))))
    ·have c : (j : Int) = l[k].1 := by simpa using c
     have : j = K := by omega
     rw [u1, if_pos this, hw2]; simp
    ·have c : ¬ (j : Int) = l[k].1 := by simpa using c
     have : j ≠ K := by omega
     rw [u2, if_neg this]; simp
    ·have c : ¬ (j : Int) = l[k].1 := by simpa using c
     have : j ≠ K := by omega
     rw [u1, if_neg this]; simp
   ·have hkl := (qLZ (n := n) hl k (by omega)).1;refine zD k rfl hk (zF hk (gQ (zK4 (by simp only [zK1, zNM]; omega)) (qD ⟨(), ?_, trivial⟩)))
    have hk' : jC r n l (k + 1) = jC r n l k ++ [l[k]] := by
     show (if qDF r (xV r n l k).2 (l.getD k (0, 0, 0)) = 0 then jC r n l k ++ [l.getD k (0, 0, 0)] else jC r n l k) = _;rw [e, if_pos hv]
    rw [hk', kL, e, if_pos hv, hw]
  ·have hp := hL.2.pos hv;have hv2 : (qDF r (xV r n l k).2 l[k] == 0) = false := by simpa using hv
   refine qP (g2 hv) (gQ rfl (gQ (by simp only [hv2]; rfl) (gQ (by show zG (decide ((qDF r (xV r n l k).2 l[k] : Int) < 0)) false = true; rw [decide_eq_false (by omega)]; rfl) (wP (show decide ((4 : Int) < qDF r (xV r n l k).2 l[k]) = false from decide_eq_false (by omega)) (gQ (bne_iff_ne.2 hv) (qD ⟨(), ?_, trivial⟩))))))
   have hk' : jC r n l (k + 1) = jC r n l k := by
    show (if qDF r (xV r n l k).2 (l.getD k (0, 0, 0)) = 0 then jC r n l k ++ [l.getD k (0, 0, 0)] else jC r n l k) = _;rw [e, if_neg hv]
   rw [hk', kL, e, if_neg hv, hw, zK6, List.length_singleton];simp only;rw [fD (show (xV r n l k).1.length < 2 ^ 62 by omega)]
 ·have hs := (fI hr hl l.length (zKK _)).1;obtain ⟨hR, hC⟩ := qFO hr hl l.length (zKK _);obtain ⟨k1, k2, k3⟩ := qLZ (r := r) (n := n) hl l.length (zKK _)
  have hck : qO9 r (jC r n l l.length) = 0 := by
   unfold qO9;rw [if_neg (by omega)];exact tN k2
  have zHN := (h17 hr h18 (jC r n l l.length)).1 hck;rw [k3] at zHN;have h86 := q04 hr h18 hs hR hC;have hT := hs.t;have hG := hs.g;have e1 : IntKind.i64.wrap (r.2.2.2.1 + r.2.2.2.2) = r.2.2.2.1 + r.2.2.2.2 := uQ (by omega) (by omega);have zHO : H21 ((xV r n l l.length).2, (xV r n l l.length).2) = some true := h21 (by omega) (by omega);refine wP (qIC (by simp only; omega)) (qD ⟨_, rfl, ?_⟩);refine qP ((h17 hr h18 l).1 hc) (qP zHN (qE1 (h26 hr hs h86) fun q hq => gQ rfl (gQ (by simp [qKQ]) (gQ rfl (qP zHO (gQ rfl (qP zHO (gQ rfl (qP (qUB hr hs hR hC) (wP rfl ?_))))))))));refine fF (xV r n l l.length).2.1.length (fun k => (xV r n l l.length).2.1.getD k 0 < r.2.2.2.1 + r.2.2.2.2) (fun k => .inr (.inl (q.2 == 0 && q.1 == (k : Int)))) (.inl ((xV r n l l.length).2.1.length : Int)) ?_ (wP (qIC (by simp only; omega)) (qD rfl)) ?_ ?_
  ·intro k hk;refine gQ (qHB (by simp only; omega)) (zD k rfl hk (zF hk (qZ (fun d => qZ (fun f => qD (.inl ⟨?_, ?_⟩)) fun f => qD (.inl ⟨?_, ?_⟩)) fun d => qD (.inr ⟨?_, ?_⟩))))
   ·rw [yU hk, <- e1]; exact of_decide_eq_true d
   ·have f : (q.2 == 0) = true := f;rw [f]; rfl
   ·rw [yU hk, <- e1]; exact of_decide_eq_true d
   ·have f : (q.2 == 0) = false := f;rw [f]; rfl
   ·rw [yU hk, <- e1]; exact of_decide_eq_false d
   ·rw [fD (by omega)]
  ·intro k hk hp hj;refine qD ?_
   rcases hq with ⟨i, h1, h2, h3, rfl⟩ | ⟨h1, rfl⟩
   ·have : i = k := by
     rcases Nat.lt_trichotomy i k with h | h | h
     ·exact absurd h2 (hj i h)
     ·exact h
     ·exact absurd hp (h3 k h)
    subst this;simp
   ·exact absurd hp (h1 k (by omega))
  ·intro hno;refine qD ?_
   rcases hq with ⟨i, h1, h2, h3, rfl⟩ | ⟨h1, rfl⟩
   ·exact absurd h2 (hno i (by omega))
   ·rfl
end
end Go.Proofs.YtjboddididohgaaGreatDoor
