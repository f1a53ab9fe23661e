/- The law PatternListed, over the model's own memory. Conditions: none. -/
import Derived.Test.YtpdlblofcdcikaaGreatDoorG13
set_option linter.unusedSimpArgs false
set_option linter.unusedVariables false
namespace Go.Proofs.YtpdlblofcdcikaaGreatDoor
open Go.Idl

theorem listed_calls {W : World} (hs : 3 ≤ W.heap.size) {n c : Int} {Aw : Option Addr} {Lw Cw : Nat} {Zw : List Int} (hw : RInts W Aw Lw Cw Zw) :
    Calls Tryz.prog 6 #[.agg #[.int .i64 n, .slice Aw Lw Cw], .int .i64 c] W fun e W' => e = .returned (.bool true) ∧ W.heap.size ≤ W'.heap.size ∧ (∀ r, r < W.heap.size → W'.heap[r]? = W.heap[r]?) ∧ W'.os = W.os ∧ W'.output = W.output ∧ W'.tape = W.tape := by
  have h0 : 0 < W.heap.size := by omega
  have hR0 : Rel Tryz.prog (globInj 3) (mkIH [] 3) W := globInj_rel 3 hs
  have hro0 : AllRo (globInj 3) := fun b e hb => by rw [(globInj_some hb).2]
  obtain ⟨f', H', u1, d1, d2, d3, a4, a5, ⟨aw, rfl⟩, a7⟩ := addInts hR0 hro0 h0 hw
  have hG : Glob (globG 3) f' := (globInj_glob 3).mono d2
  have hargs : VRelL Tryz.prog f' [.agg #[.int .i64 n, .slice aw Lw Cw], .int .i64 c] [.agg #[.int .i64 n, .slice Aw Lw Cw], .int .i64 c] :=
    .cons (.of_agg (.cons (.base _ rfl) (.cons a5 .nil))) (.cons (.base _ rfl) .nil)
  have hb : H'.base ≤ H'.size := by rw [a4.base]; exact Nat.zero_le _
  have hcalls := call_holds (P := Tryz.prog) (G := globG 3) (c := c6) (Q := fun r => r.1 = .bool true) Tryz.func6 rfl d1 hG hargs ((listed_holds (n := n) (c := c) ⟨aw, Cw, rfl⟩ (fun h => ⟨_, a7 (by omega)⟩) hb).mono fun o ho => ⟨ho.1, _, ho.2.1, rfl⟩)
  refine (callsIn_wide.1 hcalls).mono ?_
  rintro e w' ⟨v', r, f2', rfl, hr, k1, k2, k3⟩
  rw [hr] at k3
  refine ⟨by rw [k3.boolV], k2.size, fun x hx => (k2.keep x hx ?_).2, k2.out⟩
  rintro ⟨b, e, hb, _, hroe⟩
  rw [d3 b e hb] at hroe
  cases hroe
end Go.Proofs.YtpdlblofcdcikaaGreatDoor
