/- Plain laws of chapter 8: legal tucks, by the reference; the next state. Conditions: none. -/
import Derived.Test.YtjboddididohgaaGreatDoorPR1
set_option linter.all false
set_option maxRecDepth 10000
namespace Go.Proofs.YtjboddididohgaaGreatDoor
open Go Go.Idl Go.Sv Go.Proofs
theorem h89 {r : Rl} {s : St} {t : Tk} {n K : Nat} (hr : ROk r n) (hs : SOk s n) (hk : t.1 = (K : Int)) (hK : K < n) : OkT (H89 (r, s, t)) (qX4 (sD r s t n K)) := by
 have ht := hs.t;have hg := hs.g;have hlo := hr.lo;have hhi := hr.hi;have hre := hr.e;have hKt : K < s.1.length := by omega
 have hown : s.1.getD K 0 = s.1[K] := kF hKt;have hb := hs.b K hK
 have hF : ∀ (own : Int) (hown2 : s.1.getD K 0 = own) (hnA : ¬ (sD r s t n K).A) (hnB : ¬ (sD r s t n K).B) (hC : (sD r s t n K).C), OkT (q97.bind (zW (fun (s8 : Int) => q97.ite (decide (s8 < r.fst)) (q97.bind (idx s.fst.length s8) fun (x9 : Nat) => q97.bind s.fst[x9]? fun (x10 : Int) => q97.ite (qM (x10 == IntKind.i64.wrap (own + 1)) true) (q97.bind (idx s.snd.length s8) fun (x11 : Nat) => q97.bind s.snd[x11]? fun (x12 : Int) => q97.bind (zCF (r, s, t)) fun (x13 : Int) => q97.ite (x12 == x13) (q97.ret (Sum.inr (Sum.inr (Sum.inl 4)))) (q97.ret (Sum.inl (IntKind.i64.wrap (s8 + 1))))) (q97.ret (Sum.inl (IntKind.i64.wrap (s8 + 1))))) (q97.ret (Sum.inr (Sum.inl s8)))) 0) fun (x8 : Int ⊕ Int ⊕ Nat × Int) => q97.sum x8 (fun (s9 : Int) => q97.ret 0) fun (s9 : Int ⊕ Nat × Int) => q97.sum s9 (fun (s10 : Int) => q97.ret s10) fun (s10 : Nat × Int) => q97.fail) (qX4 (sD r s t n K)) := by
  intro own hown2 hnA hnB hC;refine oP n (fun k => s.1.getD k 0 = w64 (own + 1) ∧ s.2.getD k 0 = q0C r s t) (fun _ => .inr (.inl 4)) (.inl (n : Int)) ?_ ?_ ?_ ?_
  ·intro k hkn;have hk1 : k < s.1.length := by omega
   have hk2 : k < s.2.length := by omega
   refine j3 (qQ3 (by omega)) (zP k rfl hk1 (zQ hk1 (qV (fun b => zP k rfl hk2 (zQ hk2 (qI (q9Q hr hs hk hK :) (qV (fun c => qE (.inl ⟨?_, rfl⟩)) fun c => qE (.inr ⟨?_, ?_⟩))))) fun b => qE (.inr ⟨?_, ?_⟩))))
   all_goals first
    | rw [qA2 (show k < 2 ^ 62 by omega)]; done
    | (simp_all [q0X, w64]; done)
  ·exact fH (qV3 (by omega)) (qE rfl)
  ·intro k hkn hp hj;exact qE (.inr (.inr (.inr (.inl ⟨rfl, hnA, hnB, hC, k, hkn, by rw [hown2]; exact hp.1, hp.2⟩))))
  ·intro hn;refine qE (.inr (.inr (.inr (.inr ⟨rfl, hnA, hnB, hC, ?_⟩))));rintro ⟨i, hi, h1, h2⟩;exact hn i hi ⟨by rw [<- hown2]; exact h1, h2⟩
 show OkT (G89 r s t) _;unfold G89;refine zP K hk hKt (zQ hKt ?_);rw [<- hown];refine qV (fun a => qE (.inl ⟨rfl, ?_⟩)) fun a => ?_
 ·simpa [sD, w64] using a
 have hnA : ¬ (sD r s t n K).A := by simpa [sD, w64, Int.not_le] using a
 refine oP n (fun k => s.1.getD k 0 < s.1.getD K 0) (fun _ => .inr (.inl 2)) (.inl (n : Int)) ?_ ?_ ?_ ?_
 ·intro k hkn;have hk1 : k < s.1.length := by omega
  refine j3 (qQ3 (by omega)) (zP k rfl hk1 (zQ hk1 (qV (fun b => qE (.inl ⟨?_, rfl⟩)) fun b => qE (.inr ⟨?_, ?_⟩))))
  ·rw [kF hk1]; exact of_decide_eq_true b
  ·rw [kF hk1]; exact of_decide_eq_false b
  ·rw [qA2 (show k < 2 ^ 62 by omega)]
 ·exact fH (qV3 (by omega)) (qE rfl)
 ·intro k hkn hp _;exact qE (.inr (.inl ⟨rfl, hnA, k, hkn, hp⟩))
 intro hn
 have hnB : ¬ (sD r s t n K).B := by
  rintro ⟨i, hi, hlt⟩;exact hn i hi hlt
 refine qV (fun c => ?_) fun c => qE (.inr (.inr (.inl ⟨rfl, hnA, hnB, ?_⟩)))
 ·refine qV (fun d => qV (fun f => qV (fun g => qI (h33 _ _ _) (qV (fun i => qE (.inr (.inr (.inl ⟨rfl, hnA, hnB, ?_⟩)))) fun i => hF _ rfl hnA hnB ?_)) fun g => hF _ rfl hnA hnB ?_) fun f => qE (.inr (.inr (.inl ⟨rfl, hnA, hnB, ?_⟩)))) fun d => qV (fun g => qI (h33 _ _ _) (qV (fun i => qE (.inr (.inr (.inl ⟨rfl, hnA, hnB, ?_⟩)))) fun i => hF _ rfl hnA hnB ?_)) fun g => hF _ rfl hnA hnB ?_
  all_goals simp_all [q0X, qJ6, sD, outs]
  all_goals omega
 ·simp_all [qJ6, sD]
theorem qYM {r : Rl} {s : St} {t : Tk} {n K : Nat} (hr : ROk r n) (hs : SOk s n) (hk : t.1 = (K : Int)) (hK : K < n) : ∃ v, zCS (r, s, t) = some v ∧ H89 (r, s, t) = some v ∧ qX4 (sD r s t n K) v := by
 obtain ⟨v, h1, h2⟩ := q91 hr hs hk hK;obtain ⟨w, h3, h4⟩ := h89 hr hs hk hK;exact ⟨v, h1, by rw [h3, h4.uniq h2], h2⟩
def tH (r : Rl) (s : St) (t : Tk) : St := (s.1.set t.1.toNat (w64 (s.1.getD t.1.toNat 0 + 1)), s.2.set t.1.toNat (q0C r s t))
theorem qG3 {r : Rl} {s : St} {t : Tk} {n K : Nat} (hr : ROk r n) (hs : SOk s n) (hk : t.1 = (K : Int)) (hK : K < n) : zEL (r, s, t) = some (tH r s t) ∧ H90 (r, s, t) = some (tH r s t) := by
 have ht := hs.t;have hg := hs.g;have hlo := hr.lo;have hhi := hr.hi;have hKt : K < s.1.length := by omega
 have hKg : K < s.2.length := by omega
 have e1 : Nat.beq s.1.length 0 = false := by rw [ht]; cases n with
  | zero => omega
  | succ n => rfl
 have e2 : Nat.beq s.2.length 0 = false := by rw [hg]; cases n with
  | zero => omega
  | succ n => rfl
 have e3 : Nat.ble s.1.length 1048576 = true := zKW (by omega);have e4 : Nat.ble s.2.length 1048576 = true := zKW (by omega);constructor <;> refine OkT.eq ?_
 ·show OkT (zFN r s t) _;unfold zFN;refine fH e1 (j3 e3 (fH e2 (j3 e4 (zP K hk hKt (zQ hKt (zP K hk hKt (zQ hKt (qI (q9G hr hs hk hK :) (zP K hk hKg (zQ hKg (qE ?_)))))))))));unfold tH;rw [hk, zL1, kF hKt]
 ·show OkT (G90 r s t) _;unfold G90;simp only [zKP, List.nil_append];refine fH e1 (j3 e3 (fH e2 (j3 e4 (zP K hk hKt (zQ hKt (zP K hk hKt (zQ hKt (qI (q9Q hr hs hk hK :) (zP K hk hKg (zQ hKg (qE ?_)))))))))));unfold tH;rw [hk, zL1, kF hKt]
end Go.Proofs.YtjboddididohgaaGreatDoor
