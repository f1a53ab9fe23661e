/- Plain laws of chapter 8: legal tucks, by the reference; the next state. Conditions: none. -/
import Derived.Test.YtjboddididohgaaGreatDoorPR1
set_option linter.all false
set_option maxRecDepth 10000
namespace Go.Proofs.YtjboddididohgaaGreatDoor
open Go Go.Idl Go.Sv Go.Proofs
theorem h89 {r : Rl} {s : St} {t : Tk} {n K : Nat} (hr : ROk r n) (hs : SOk s n) (hk : t.1 = (K : Int)) (hK : K < n) : OkT (H89 (r, s, t)) (qRC (rC r s t n K)) := by
 have ht := hs.t;have hg := hs.g;have hlo := hr.lo;have hhi := hr.hi;have hre := hr.e;have hKt : K < s.1.length := by omega
 have hown : s.1.getD K 0 = s.1[K] := qEI hKt;have hb := hs.b K hK
 have hF : ∀ (own : Int) (hown2 : s.1.getD K 0 = own) (hnA : ¬ (rC r s t n K).A) (hnB : ¬ (rC r s t n K).B) (hC : (rC r s t n K).C), OkT (q98.bind (zU (fun (s8 : Int) => q98.ite (decide (s8 < r.fst)) (q98.bind (idx s.fst.length s8) fun (x9 : Nat) => q98.bind s.fst[x9]? fun (x10 : Int) => q98.ite (qU (x10 == IntKind.i64.wrap (own + 1)) true) (q98.bind (idx s.snd.length s8) fun (x11 : Nat) => q98.bind s.snd[x11]? fun (x12 : Int) => q98.bind (zCG (r, s, t)) fun (x13 : Int) => q98.ite (x12 == x13) (q98.ret (Sum.inr (Sum.inr (Sum.inl 4)))) (q98.ret (Sum.inl (IntKind.i64.wrap (s8 + 1))))) (q98.ret (Sum.inl (IntKind.i64.wrap (s8 + 1))))) (q98.ret (Sum.inr (Sum.inl s8)))) 0) fun (x8 : Int ⊕ Int ⊕ Nat × Int) => q98.sum x8 (fun (s9 : Int) => q98.ret 0) fun (s9 : Int ⊕ Nat × Int) => q98.sum s9 (fun (s10 : Int) => q98.ret s10) fun (s10 : Nat × Int) => q98.fail) (qRC (rC r s t n K)) := by
  intro own hown2 hnA hnB hC;refine pF n (fun k => s.1.getD k 0 = w64 (own + 1) ∧ s.2.getD k 0 = q0K r s t) (fun _ => .inr (.inl 4)) (.inl (n : Int)) ?_ ?_ ?_ ?_
  ·intro k hkn;have hk1 : k < s.1.length := by omega
   have hk2 : k < s.2.length := by omega
   refine bS (qMT (by omega)) (zX k rfl hk1 (zZ hk1 (zD (fun b => zX k rfl hk2 (zZ hk2 (zK (q9A hr hs hk hK :) (zD (fun c => qE (.inl ⟨?_, rfl⟩)) fun c => qE (.inr ⟨?_, ?_⟩))))) fun b => qE (.inr ⟨?_, ?_⟩))))
   all_goals first
    | rw [nW (show k < 2 ^ 62 by omega)]; done
    | (simp_all [q4Y, w64]; done)
  ·exact eZ (qOU (by omega)) (qE rfl)
  ·intro k hkn hp hj;exact qE (.inr (.inr (.inr (.inl ⟨rfl, hnA, hnB, hC, k, hkn, by rw [hown2]; exact hp.1, hp.2⟩))))
  ·intro hn;refine qE (.inr (.inr (.inr (.inr ⟨rfl, hnA, hnB, hC, ?_⟩))));rintro ⟨i, hi, h1, h2⟩;exact hn i hi ⟨by rw [<- hown2]; exact h1, h2⟩
 show OkT (G89 r s t) _;unfold G89;refine zX K hk hKt (zZ hKt ?_);rw [<- hown];refine zD (fun a => qE (.inl ⟨rfl, ?_⟩)) fun a => ?_
 ·simpa [rC, w64] using a
 have hnA : ¬ (rC r s t n K).A := by simpa [rC, w64, Int.not_le] using a
 refine pF n (fun k => s.1.getD k 0 < s.1.getD K 0) (fun _ => .inr (.inl 2)) (.inl (n : Int)) ?_ ?_ ?_ ?_
 ·intro k hkn;have hk1 : k < s.1.length := by omega
  refine bS (qMT (by omega)) (zX k rfl hk1 (zZ hk1 (zD (fun b => qE (.inl ⟨?_, rfl⟩)) fun b => qE (.inr ⟨?_, ?_⟩))))
  ·rw [qEI hk1]; exact of_decide_eq_true b
  ·rw [qEI hk1]; exact of_decide_eq_false b
  ·rw [nW (show k < 2 ^ 62 by omega)]
 ·exact eZ (qOU (by omega)) (qE rfl)
 ·intro k hkn hp _;exact qE (.inr (.inl ⟨rfl, hnA, k, hkn, hp⟩))
 intro hn
 have hnB : ¬ (rC r s t n K).B := by
  rintro ⟨i, hi, hlt⟩;exact hn i hi hlt
 refine zD (fun c => ?_) fun c => qE (.inr (.inr (.inl ⟨rfl, hnA, hnB, ?_⟩)))
 ·refine zD (fun d => zD (fun f => zD (fun g => zK (h33 _ _ _) (zD (fun i => qE (.inr (.inr (.inl ⟨rfl, hnA, hnB, ?_⟩)))) fun i => hF _ rfl hnA hnB ?_)) fun g => hF _ rfl hnA hnB ?_) fun f => qE (.inr (.inr (.inl ⟨rfl, hnA, hnB, ?_⟩)))) fun d => zD (fun g => zK (h33 _ _ _) (zD (fun i => qE (.inr (.inr (.inl ⟨rfl, hnA, hnB, ?_⟩)))) fun i => hF _ rfl hnA hnB ?_)) fun g => hF _ rfl hnA hnB ?_
  all_goals simp_all [q4Y, q6T, rC, outs]
  all_goals omega
 ·simp_all [q6T, rC]
def nP (r : Rl) (s : St) (t : Tk) : St := (s.1.set t.1.toNat (w64 (s.1.getD t.1.toNat 0 + 1)), s.2.set t.1.toNat (q0K r s t))
theorem q74 {r : Rl} {s : St} {t : Tk} {n K : Nat} (hr : ROk r n) (hs : SOk s n) (hk : t.1 = (K : Int)) (hK : K < n) : zFS (r, s, t) = some (nP r s t) := by
 have ht := hs.t;have hg := hs.g;have hlo := hr.lo;have hhi := hr.hi;have hKt : K < s.1.length := by omega
 have hKg : K < s.2.length := by omega
 have e1 : Nat.beq s.1.length 0 = false := by rw [ht]; cases n with
  | zero => omega
  | succ n => rfl
 have e2 : Nat.beq s.2.length 0 = false := by rw [hg]; cases n with
  | zero => omega
  | succ n => rfl
 have e3 : Nat.ble s.1.length 1048576 = true := zKN (by omega);have e4 : Nat.ble s.2.length 1048576 = true := zKN (by omega);refine OkT.eq ?_;show OkT (zFR r s t) _;unfold zFR;refine eZ e1 (bS e3 (eZ e2 (bS e4 (zX K hk hKt (zZ hKt (zX K hk hKt (zZ hKt (zK (q87 hr hs hk hK :) (zX K hk hKg (zZ hKg (qE ?_)))))))))));unfold nP;rw [hk, zL3, qEI hKt]
theorem q8U {r : Rl} {s : St} {t : Tk} {n K : Nat} (hr : ROk r n) (hs : SOk s n) (hk : t.1 = (K : Int)) (hK : K < n) : H90 (r, s, t) = some (nP r s t) := by
 have ht := hs.t;have hg := hs.g;have hlo := hr.lo;have hhi := hr.hi;have hKt : K < s.1.length := by omega
 have hKg : K < s.2.length := by omega
 have e1 : Nat.beq s.1.length 0 = false := by rw [ht]; cases n with
  | zero => omega
  | succ n => rfl
 have e2 : Nat.beq s.2.length 0 = false := by rw [hg]; cases n with
  | zero => omega
  | succ n => rfl
 have e3 : Nat.ble s.1.length 1048576 = true := zKN (by omega);have e4 : Nat.ble s.2.length 1048576 = true := zKN (by omega);refine OkT.eq ?_;show OkT (G90 r s t) _;unfold G90;simp only [zKT, List.nil_append];refine eZ e1 (bS e3 (eZ e2 (bS e4 (zX K hk hKt (zZ hKt (zX K hk hKt (zZ hKt (zK (q9A hr hs hk hK :) (zX K hk hKg (zZ hKg (qE ?_)))))))))));unfold nP;rw [hk, zL3, qEI hKt]
end Go.Proofs.YtjboddididohgaaGreatDoor
