/- Plain laws of chapter 8: legal tucks, by the reference; the next state. Conditions: none. -/
import Derived.Test.YtjboddididohgaaGreatDoorPR1
set_option linter.all false
set_option maxRecDepth 10000
namespace Go.Proofs.YtjboddididohgaaGreatDoor
open Go Go.Idl Go.Sv Go.Proofs
def uX (r : Rl) (s : St) (t : Tk) : St := (s.1.set t.1.toNat (w64 (s.1.getD t.1.toNat 0 + 1)), s.2.set t.1.toNat (qW1 r s t))
theorem q60 {r : Rl} {s : St} {t : Tk} {n K : Nat} (hr : ROk r n) (hs : SOk s n) (hk : t.1 = (K : Int)) (hK : K < n) : zE0 (r, s, t) = some (uX r s t) := by
 have ht := hs.t;have hg := hs.g;have hlo := hr.lo;have hhi := hr.hi;have hKt : K < s.1.length := by omega
 have hKg : K < s.2.length := by omega
 have e1 : Nat.beq s.1.length 0 = false := by rw [ht]; cases n with
  | zero => omega
  | succ n => rfl
 have e2 : Nat.beq s.2.length 0 = false := by rw [hg]; cases n with
  | zero => omega
  | succ n => rfl
 have e3 : Nat.ble s.1.length 1048576 = true := zK4 (by omega);have e4 : Nat.ble s.2.length 1048576 = true := zK4 (by omega);refine OkT.eq ?_;show OkT (zF3 r s t) _;unfold zF3;refine wP e1 (gQ e3 (wP e2 (gQ e4 (zD K hk hKt (zF hKt (zD K hk hKt (zF hKt (qP (q9Q hr hs hk hK :) (zD K hk hKg (zF hKg (qD ?_)))))))))));unfold uX;rw [hk, zMJ, yU hKt]
end Go.Proofs.YtjboddididohgaaGreatDoor
