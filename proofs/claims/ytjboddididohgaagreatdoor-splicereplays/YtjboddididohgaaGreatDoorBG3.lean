/- The table of the powers of ten at a law's start. Conditions: none. -/
import Derived.Test.YtjboddididohgaaGreatDoorLBL
set_option linter.all false
namespace Go.Proofs.YtjboddididohgaaGreatDoor
open Go Go.Idl Go.Sv Go.Proofs
theorem q9L {b : Nat} {o : Obj} (h : (q4P [(3, uU)] 10).get b = some o) : b = 3 ∧ o = uU := by
 have h1 : (if b = 3 then some uU else none) = some o := by
  rw [<- h];show _ = (Tr.set Tr.nil 3 uU).get b;rw [Tr.zBL];by_cases hb : b = 3 <;> simp [hb, Tr.get]
 split at h1
 ·cases h1; exact ⟨by assumption, rfl⟩
 ·cases h1
theorem q77 {P : Program} {W : World} (hk : 10 <= W.heap.size) {el : TypeId} {fz : Nat × Nat} (h3 : W.heap[3]? = some (.cells (Lib.pow10Tab.map fun z => Value.int .u64 z).toArray el fz)) : Rel P (dZ 10) (q4P [(3, uU)] 10) W := by
 refine ⟨fun b e hb => (yP hb).1, fun b hb => ?_, fun b e hb => ?_, fun b e o hb ho => ?_, fun b1 b2 e1 e2 o1 o2 _ h1 h2 _ _ _ _ _ => ?_, fun b1 b2 e1 e2 h1 h2 _ => ?_⟩
 ·cases hq : (q4P [(3, uU)] 10).get b with
  | none => rfl
  | some o =>
    have := (q9L hq).1;have hb : 10 <= b := hb;omega
 ·obtain ⟨h1, rfl⟩ := yP hb; exact zKB h1 hk
 ·obtain ⟨rfl, rfl⟩ := q9L ho;obtain ⟨_, rfl⟩ := yP hb;refine ⟨_, el, fz, h3, by simp [Lib.pow10Tab]; rfl, by simp, fun i v hi => ⟨v, by simpa using hi, .base _ ?_⟩, (fun hf => by cases hf), (fun hf => by cases hf)⟩;rw [zL8, zKL] at hi;obtain ⟨z, _, rfl⟩ := zKF.1 hi;rfl
 ·rw [(yP h1).2, (yP h2).2]; exact ⟨rfl, rfl⟩
 ·rw [(yP h1).2, (yP h2).2]
end Go.Proofs.YtjboddididohgaaGreatDoor
