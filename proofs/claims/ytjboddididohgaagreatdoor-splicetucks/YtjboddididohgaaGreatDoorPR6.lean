/- Plain laws of chapter 8: states are checked alike, by the reference. Conditions: none. -/
import Derived.Test.YtjboddididohgaaGreatDoorPR5
set_option linter.all false
set_option maxRecDepth 10000
namespace Go.Proofs.YtjboddididohgaaGreatDoor
open Go Go.Idl Go.Sv Go.Proofs
theorem h73 {r : Rl} {n : Nat} (hr : ROk r n) (s : St) : OkT (H73 (r, s)) (CsR r s n) := by
 have hlo := hr.lo;have hhi := hr.hi;have hre := hr.e;show OkT (G73 r s) _;unfold G73;refine qV (fun a => qV (fun b => qE (.inl ⟨rfl, ?_⟩)) fun b => ?_) fun a => qE (.inl ⟨rfl, ?_⟩)
 ·simp at b; unfold qYN; omega
 rotate_left 1
 ·simp [qJ6] at a; unfold qYN; omega
 have ht : s.1.length = n := by simp [qJ6] at a; omega
 have hg : s.2.length = n := by simp at b; omega
 have hl : qYN s n := ⟨ht, hg⟩
 have fT : ∀ k : Nat, k < n -> k < s.1.length := fun k h => by omega
 have fG : ∀ k : Nat, k < n -> k < s.2.length := fun k h => by omega
 refine oP n (fun k => ¬ inR r s k) (fun _ => .inr (.inl 3)) (.inl (n : Int)) ?_ ?_ ?_ ?_
 ·intro k hk;refine j3 (qQ3 (by omega)) (zP k rfl (fT k hk) (zQ (fT k hk) (qI (h33 _ _ _) (qV (fun c => zP k rfl (fG k hk) (zQ (fG k hk) (qI (h33 _ _ _) (qV (fun d => qE (.inl ⟨?_, rfl⟩)) fun d => qE (.inr ⟨?_, ?_⟩))))) fun c => qE (.inl ⟨?_, rfl⟩)))))
  ·rintro ⟨_, h⟩;rw [kF (fG k hk)] at h;exact absurd (h.symm.trans d) (by simp)
  ·simp only [qJ6, zKO] at c;exact not_not_intro ⟨by rw [kF (fT k hk)]; exact c, by rw [kF (fG k hk)]; exact d⟩
  ·rw [qA2 (by omega)]
  ·rintro ⟨h, _⟩;simp only [qJ6, zM5] at c;rw [kF (fT k hk)] at h;exact absurd (h.symm.trans c) (by simp)
 ·exact fH (qV3 (by omega)) (qE rfl)
 ·intro k hk hp _;exact qE (.inr ⟨hl, .inl ⟨rfl, fun h => hp (h k hk)⟩⟩)
 intro hn;have hR : RgS r s n := fun i hi => Classical.not_not.1 (hn i hi)
 refine oP n (fun k => ∃ j, j < n ∧ (s.1.getD j 0 + 1 < s.1.getD k 0 ∨ (k ≠ j ∧ prS s k = prS s j))) (fun _ => .inr (.inl 19)) (.inl (n : Int)) ?_ ?_ ?_ ?_
 ·intro k hk;refine j3 (qQ3 (by omega)) (oP n (fun j => s.1.getD j 0 + 1 < s.1.getD k 0 ∨ (k ≠ j ∧ prS s k = prS s j)) (fun _ => .inr (.inl 19)) (.inl (n : Int)) ?_ ?_ ?_ ?_)
  ·intro j hj;have hb := qXK hr (hR j hj);have q1 := hr.fu;have q2 := hr.ta
   have hw : IntKind.i64.wrap (s.1[j]'(fT j hj) + 1) = s.1.getD j 0 + 1 := by
    rw [kF (fT j hj)] at hb ⊢;exact qGP (by omega) (by omega)
   have hw1 : IntKind.i64.wrap ((j : Int) + 1) = ((j + 1 : Nat) : Int) := qA2 (by omega)
   have hpr : prS s k = prS s j ↔ s.1[k]'(fT k hk) = s.1[j]'(fT j hj) ∧ s.2[k]'(fG k hk) = s.2[j]'(fG j hj) := by
    unfold prS;rw [kF (fT k hk), kF (fG k hk), kF (fT j hj), kF (fG j hj), Prod.mk.injEq]
   refine j3 (qQ3 (by omega)) (zP k rfl (fT k hk) (zQ (fT k hk) (zP j rfl (fT j hj) (zQ (fT j hj) (qV (fun c => qV (fun d => zP k rfl (fT k hk) (zQ (fT k hk) (zP j rfl (fT j hj) (zQ (fT j hj) (qV (fun e => zP k rfl (fG k hk) (zQ (fG k hk) (zP j rfl (fG j hj) (zQ (fG j hj) (qV (fun f => qE (.inl ⟨?_, rfl⟩)) fun f => qE (.inr ⟨?_, ?_⟩)))))) fun e => qE (.inr ⟨?_, ?_⟩)))))) fun d => qE (.inr ⟨?_, ?_⟩)) fun c => qE (.inl ⟨?_, rfl⟩))))))
   all_goals first
    | rw [hw1]; done
    | skip
   all_goals simp only [qJ6, q0X, hw, hpr, ne_eq] at *
   ·simp at d e f;exact .inr ⟨by omega, e, f⟩
   ·simp only [zKO, decide_eq_false_iff_not, zM5, decide_eq_true_eq] at c;simp at d e f;rintro (h | ⟨_, _, h⟩)
    ·rw [kF (fT k hk)] at h; omega
    ·exact f h
   ·simp only [zKO, decide_eq_false_iff_not, zM5, decide_eq_true_eq] at c;simp at d e;rintro (h | ⟨_, h, _⟩)
    ·rw [kF (fT k hk)] at h; omega
    ·exact e h
   ·simp only [zKO, decide_eq_false_iff_not, zM5, decide_eq_true_eq] at c;simp at d;rintro (h | ⟨h, _⟩)
    ·rw [kF (fT k hk)] at h; omega
    ·exact h (by omega)
   ·simp only [zKO, decide_eq_false_iff_not, zM5, decide_eq_true_eq] at c
    left
    rw [kF (fT k hk)]; exact c
  ·exact fH (qV3 (by omega)) (qE rfl)
  ·intro j hj hp _;exact qE (.inl ⟨⟨j, hj, hp⟩, rfl⟩)
  ·intro hno;exact qE (.inr ⟨fun ⟨j, h1, h2⟩ => hno j h1 h2, by rw [qA2 (by omega)]⟩)
 ·exact fH (qV3 (by omega)) (qE rfl)
 ·intro k hk ⟨j, hj, hp⟩ _;exact qE (.inr ⟨hl, .inr (.inl ⟨rfl, hR, k, j, hk, hj, hp⟩)⟩)
 ·intro hno;exact qE (.inr ⟨hl, .inr (.inr ⟨rfl, hR, fun ⟨i, k, h1, h2, h3⟩ => hno i h1 ⟨k, h2, h3⟩⟩)⟩)
theorem q3T (r : Rl) (s : St) : ∃ v, H86 (r, s) = some v ∧ H29 (r, s) = some v ∧ ((H18 r = some 0 ∧ ∃ n, ROk r n ∧ H73 (r, s) = some v ∧ CsR r s n v) ∨ (H18 r = some v ∧ v = 3)) := by
 obtain ⟨w, h1, ⟨rfl, n, hr⟩ | rfl⟩ := h18 r
 ·obtain ⟨v, h2, h3⟩ := h86 hr h1 s;obtain ⟨v', h4, h5⟩ := h73 hr s;have := h5.uniq h3;subst this;refine ⟨v', h2, OkT.eq ?_, .inl ⟨h1, n, hr, h4, h5⟩⟩;show OkT (G29 r s) _;unfold G29;exact qI h1 (fH rfl (qI h4 (qE rfl)))
 ·refine ⟨3, ?_, OkT.eq ?_, .inr ⟨h1, rfl⟩⟩
  ·refine OkT.eq ?_;show OkT (G86 r s) _;unfold G86;rw [e95];refine qI ((n84 r).trans h1) (qV (fun a => qI rfl (qI (qG4 (by simp)) (j3 ?_ (qE ?_)))) fun a => qI (qG4 (by simp)) (j3 rfl (qE rfl)))
   ·rw [q1A]; rfl
   ·rw [q1A]; rfl
  ·show OkT (G29 r s) _;unfold G29;exact qI h1 (j3 rfl (qE rfl))
end Go.Proofs.YtjboddididohgaaGreatDoor
