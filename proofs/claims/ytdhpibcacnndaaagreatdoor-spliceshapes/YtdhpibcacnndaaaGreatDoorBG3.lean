/- The table of the powers of ten at a law's start. Conditions: none. -/
import Derived.Test.YtdhpibcacnndaaaGreatDoorLBL
set_option linter.all false
namespace Go.Proofs.YtdhpibcacnndaaaGreatDoor
open Go Go.Idl Go.Sv Go.Proofs
theorem q8I {b : Nat} {o : Obj} (h : (q34 [(3, uI)] 10).get b = some o) : b = 3 ∧ o = uI := by
 have h1 : (if b = 3 then some uI else none) = some o := by
  rw [<- h];show _ = (Tr.set Tr.nil 3 uI).get b;rw [Tr.zAR];by_cases hb : b = 3 <;> simp [hb, Tr.get]
 split at h1
 ·cases h1; exact ⟨by assumption, rfl⟩
 ·cases h1
theorem q66 {P : Program} {W : World} (hk : 10 <= W.heap.size) {el : TypeId} {fz : Nat × Nat} (h3 : W.heap[3]? = some (.cells (Lib.pow10Tab.map fun z => Value.int .u64 z).toArray el fz)) : Rel P (dG 10) (q34 [(3, uI)] 10) W := by
 refine ⟨fun b e hb => (yG hb).1, fun b hb => ?_, fun b e hb => ?_, fun b e o hb ho => ?_, fun b1 b2 e1 e2 o1 o2 _ h1 h2 _ _ _ _ _ => ?_, fun b1 b2 e1 e2 h1 h2 _ => ?_⟩
 ·cases hq : (q34 [(3, uI)] 10).get b with
  | none => rfl
  | some o =>
    have := (q8I hq).1;have hb : 10 <= b := hb;omega
 ·obtain ⟨h1, rfl⟩ := yG hb; exact zJB h1 hk
 ·obtain ⟨rfl, rfl⟩ := q8I ho;obtain ⟨_, rfl⟩ := yG hb;refine ⟨_, el, fz, h3, by simp [Lib.pow10Tab]; rfl, by simp, fun i v hi => ⟨v, by simpa using hi, .base _ ?_⟩, (fun hf => by cases hf), (fun hf => by cases hf)⟩;rw [zK0, zJK] at hi;obtain ⟨z, _, rfl⟩ := zJF.1 hi;rfl
 ·rw [(yG h1).2, (yG h2).2]; exact ⟨rfl, rfl⟩
 ·rw [(yG h1).2, (yG h2).2]
end Go.Proofs.YtdhpibcacnndaaaGreatDoor
