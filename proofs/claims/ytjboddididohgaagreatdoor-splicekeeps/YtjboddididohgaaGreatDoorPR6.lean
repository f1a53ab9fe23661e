/- Plain laws of chapter 8: states are checked alike, by the reference. Conditions: none. -/
import Derived.Test.YtjboddididohgaaGreatDoorPR5
set_option linter.all false
set_option maxRecDepth 10000
namespace Go.Proofs.YtjboddididohgaaGreatDoor
open Go Go.Idl Go.Sv Go.Proofs
theorem h73 {r : Rl} {n : Nat} (hr : ROk r n) (s : St) : OkT (H73 (r, s)) (CsR r s n) := by
 have hlo := hr.lo;have hhi := hr.hi;have hre := hr.e;show OkT (G73 r s) _;unfold G73;refine qZ (fun a => qZ (fun b => qD (.inl ⟨rfl, ?_⟩)) fun b => ?_) fun a => qD (.inl ⟨rfl, ?_⟩)
 ·simp at b; unfold qZJ; omega
 rotate_left 1
 ·simp [qKQ] at a; unfold qZJ; omega
 have ht : s.1.length = n := by simp [qKQ] at a; omega
 have hg : s.2.length = n := by simp at b; omega
 have hl : qZJ s n := ⟨ht, hg⟩
 have fT : ∀ k : Nat, k < n -> k < s.1.length := fun k h => by omega
 have fG : ∀ k : Nat, k < n -> k < s.2.length := fun k h => by omega
 refine fF n (fun k => ¬ inR r s k) (fun _ => .inr (.inl 3)) (.inl (n : Int)) ?_ ?_ ?_ ?_
 ·intro k hk;refine gQ (qHB (by omega)) (zD k rfl (fT k hk) (zF (fT k hk) (qP (h33 _ _ _) (qZ (fun c => zD k rfl (fG k hk) (zF (fG k hk) (qP (h33 _ _ _) (qZ (fun d => qD (.inl ⟨?_, rfl⟩)) fun d => qD (.inr ⟨?_, ?_⟩))))) fun c => qD (.inl ⟨?_, rfl⟩)))))
  ·rintro ⟨_, h⟩;rw [yU (fG k hk)] at h;exact absurd (h.symm.trans d) (by simp)
  ·simp only [qKQ, zK7] at c;exact not_not_intro ⟨by rw [yU (fT k hk)]; exact c, by rw [yU (fG k hk)]; exact d⟩
  ·rw [fD (by omega)]
  ·rintro ⟨h, _⟩;simp only [qKQ, zNN] at c;rw [yU (fT k hk)] at h;exact absurd (h.symm.trans c) (by simp)
 ·exact wP (qIC (by omega)) (qD rfl)
 ·intro k hk hp _;exact qD (.inr ⟨hl, .inl ⟨rfl, fun h => hp (h k hk)⟩⟩)
 intro hn;have hR : RgS r s n := fun i hi => Classical.not_not.1 (hn i hi)
 refine fF n (fun k => ∃ j, j < n ∧ (s.1.getD j 0 + 1 < s.1.getD k 0 ∨ (k ≠ j ∧ prS s k = prS s j))) (fun _ => .inr (.inl 19)) (.inl (n : Int)) ?_ ?_ ?_ ?_
 ·intro k hk;refine gQ (qHB (by omega)) (fF n (fun j => s.1.getD j 0 + 1 < s.1.getD k 0 ∨ (k ≠ j ∧ prS s k = prS s j)) (fun _ => .inr (.inl 19)) (.inl (n : Int)) ?_ ?_ ?_ ?_)
  ·intro j hj;have hb := qS5 hr (hR j hj);have q1 := hr.fu;have q2 := hr.ta
   have hw : IntKind.i64.wrap (s.1[j]'(fT j hj) + 1) = s.1.getD j 0 + 1 := by
    rw [yU (fT j hj)] at hb ⊢;exact uQ (by omega) (by omega)
   have hw1 : IntKind.i64.wrap ((j : Int) + 1) = ((j + 1 : Nat) : Int) := fD (by omega)
   have hpr : prS s k = prS s j ↔ s.1[k]'(fT k hk) = s.1[j]'(fT j hj) ∧ s.2[k]'(fG k hk) = s.2[j]'(fG j hj) := by
    unfold prS;rw [yU (fT k hk), yU (fG k hk), yU (fT j hj), yU (fG j hj), Prod.mk.injEq]
   refine gQ (qHB (by omega)) (zD k rfl (fT k hk) (zF (fT k hk) (zD j rfl (fT j hj) (zF (fT j hj) (qZ (fun c => qZ (fun d => zD k rfl (fT k hk) (zF (fT k hk) (zD j rfl (fT j hj) (zF (fT j hj) (qZ (fun e => zD k rfl (fG k hk) (zF (fG k hk) (zD j rfl (fG j hj) (zF (fG j hj) (qZ (fun f => qD (.inl ⟨?_, rfl⟩)) fun f => qD (.inr ⟨?_, ?_⟩)))))) fun e => qD (.inr ⟨?_, ?_⟩)))))) fun d => qD (.inr ⟨?_, ?_⟩)) fun c => qD (.inl ⟨?_, rfl⟩))))))
   all_goals first
    | rw [hw1]; done
    | skip
   all_goals simp only [qKQ, q57, hw, hpr, ne_eq] at *
   ·simp at d e f;exact .inr ⟨by omega, e, f⟩
   ·simp only [zK7, decide_eq_false_iff_not, zNN, decide_eq_true_eq] at c;simp at d e f;rintro (h | ⟨_, _, h⟩)
    ·rw [yU (fT k hk)] at h; omega
    ·exact f h
   ·simp only [zK7, decide_eq_false_iff_not, zNN, decide_eq_true_eq] at c;simp at d e;rintro (h | ⟨_, h, _⟩)
    ·rw [yU (fT k hk)] at h; omega
    ·exact e h
   ·simp only [zK7, decide_eq_false_iff_not, zNN, decide_eq_true_eq] at c;simp at d;rintro (h | ⟨h, _⟩)
    ·rw [yU (fT k hk)] at h; omega
    ·exact h (by omega)
   ·simp only [zK7, decide_eq_false_iff_not, zNN, decide_eq_true_eq] at c
    left
    rw [yU (fT k hk)]; exact c
  ·exact wP (qIC (by omega)) (qD rfl)
  ·intro j hj hp _;exact qD (.inl ⟨⟨j, hj, hp⟩, rfl⟩)
  ·intro hno;exact qD (.inr ⟨fun ⟨j, h1, h2⟩ => hno j h1 h2, by rw [fD (by omega)]⟩)
 ·exact wP (qIC (by omega)) (qD rfl)
 ·intro k hk ⟨j, hj, hp⟩ _;exact qD (.inr ⟨hl, .inr (.inl ⟨rfl, hR, k, j, hk, hj, hp⟩)⟩)
 ·intro hno;exact qD (.inr ⟨hl, .inr (.inr ⟨rfl, hR, fun ⟨i, k, h1, h2, h3⟩ => hno i h1 ⟨k, h2, h3⟩⟩)⟩)
end Go.Proofs.YtjboddididohgaaGreatDoor
