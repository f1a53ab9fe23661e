/- Plain laws of chapter 8: the shaped net. Conditions: none. -/
import Derived.Test.YtdhpibcacnndaaaGreatDoorPQ3
set_option linter.all false
set_option maxRecDepth 10000
namespace Go.Proofs.YtdhpibcacnndaaaGreatDoor
open Go Go.Idl Go.Sv Go.Proofs
theorem q9B (δ : Int) : ((bif decide (0 < δ) then δ else 0, bif decide (0 < 0 - δ) then 0 - δ else 0) : Int × Int) = (cond (decide (δ < 0)) 0 δ, cond (decide (0 - δ < 0)) 0 (0 - δ)) := by
 by_cases h1 : δ < 0
 ·rw [decide_eq_true h1, decide_eq_false (show ¬ 0 < δ by omega), decide_eq_true (show 0 < 0 - δ by omega), decide_eq_false (show ¬ 0 - δ < 0 by omega)]; rfl
 ·by_cases h2 : 0 < δ
  ·rw [decide_eq_false h1, decide_eq_true h2, decide_eq_false (show ¬ 0 < 0 - δ by omega), decide_eq_true (show 0 - δ < 0 by omega)]; rfl
  ·have : δ = 0 := by omega
   subst this; rfl
noncomputable def F69 (x0 x1 x2 : Int) (s7 : Int × Int × List (Int × Int) × Int) : Option ((Int × Int × List (Int × Int) × Int) ⊕ (Int × Int × List (Int × Int) × Int ⊕ (Int × List (Int × Int)) × Int ⊕ Nat × Int × Int × List (Int × Int) × Int)) := q9D.ite (decide (s7.snd.fst < x2)) (q9D.bind (zDT (IntKind.i64.wrap (IntKind.i64.wrap (s7.snd.fst + 1) * IntKind.i64.wrap (x1 - x0)), x2)) fun (x8 : Int) => q9D.ite ((s7.snd.snd.fst.length + [(bif decide (0 < IntKind.i64.wrap (IntKind.i64.wrap (x0 + x8) - s7.fst)) then IntKind.i64.wrap (IntKind.i64.wrap (x0 + x8) - s7.fst) else 0, bif decide (0 < IntKind.i64.wrap (s7.fst - IntKind.i64.wrap (x0 + x8))) then IntKind.i64.wrap (s7.fst - IntKind.i64.wrap (x0 + x8)) else 0)].length).ble 1048576) (q9D.ret (Sum.inl (IntKind.i64.wrap (x0 + x8), IntKind.i64.wrap (s7.snd.fst + 1), s7.snd.snd.fst ++ [(bif decide (0 < IntKind.i64.wrap (IntKind.i64.wrap (x0 + x8) - s7.fst)) then IntKind.i64.wrap (IntKind.i64.wrap (x0 + x8) - s7.fst) else 0, bif decide (0 < IntKind.i64.wrap (s7.fst - IntKind.i64.wrap (x0 + x8))) then IntKind.i64.wrap (s7.fst - IntKind.i64.wrap (x0 + x8)) else 0)], s7.snd.snd.snd))) q9D.fail) (q9D.ret (Sum.inr (Sum.inl (s7.fst, s7.snd.fst, s7.snd.snd.fst, s7.snd.snd.snd))))
theorem l69 (x0 x1 x2 : Int) (a0 : 1 <= x0) (a1 : x0 <= 500) (b0 : 1 <= x1) (b1 : x1 <= 500) (c0 : 1 <= x2) (c1 : x2 <= 64) {R : Type} (K : (Int × Int × List (Int × Int) × Int ⊕ (Int × List (Int × Int)) × Int ⊕ Nat × Int × Int × List (Int × Int) × Int) -> q9D R) :
 ∃ e, q9D.bind (yK (F69 x0 x1 x2) (x0, 0, [], x0)) K = K (.inl (e, x2, xB (x1 - x0) x2 x2.toNat, x0)) := by
 have key : ∀ (m k : Nat), k + m = x2.toNat -> ∃ e, q9D.bind (yK (F69 x0 x1 x2) (x0 + (k : Int) * (x1 - x0) / x2, (k : Int), xB (x1 - x0) x2 k, x0)) K = K (.inl (e, x2, xB (x1 - x0) x2 x2.toNat, x0)) := by
  intro m
  induction m with
  | zero =>
    intro k hk
    have hF : F69 x0 x1 x2 (x0 + (k : Int) * (x1 - x0) / x2, (k : Int), xB (x1 - x0) x2 k, x0) = some (.inr (.inl (x0 + (k : Int) * (x1 - x0) / x2, (k : Int), xB (x1 - x0) x2 k, x0))) := by
     unfold F69;simp only;rw [decide_eq_false (show ¬ ((k : Int) < x2) by omega)]; rfl
    refine ⟨x0 + (k : Int) * (x1 - x0) / x2, ?_⟩;rw [jM hF, show k = x2.toNat by omega, zM5 (by omega)]
  | succ m ih =>
    intro k hk;have m1 := q6M (s := (k : Int) + 1) (d := x1 - x0) (by omega) (by omega) (by omega) (by omega);have m2 := q6M (s := (k : Int)) (d := x1 - x0) (by omega) (by omega) (by omega) (by omega);have q1 := q6W c0 m1.1 m1.2;have q2 := q6W c0 m2.1 m2.2
    have hF : F69 x0 x1 x2 (x0 + (k : Int) * (x1 - x0) / x2, (k : Int), xB (x1 - x0) x2 k, x0) = some (.inl (x0 + ((k + 1 : Nat) : Int) * (x1 - x0) / x2, ((k + 1 : Nat) : Int), xB (x1 - x0) x2 (k + 1), x0)) := by
     unfold F69;simp only;have w3 : IntKind.i64.wrap (x0 + ((k : Int) + 1) * (x1 - x0) / x2) = x0 + ((k : Int) + 1) * (x1 - x0) / x2 := wX (by omega) (by omega)
     have w4 : IntKind.i64.wrap (x0 + ((k : Int) + 1) * (x1 - x0) / x2 - (x0 + (k : Int) * (x1 - x0) / x2)) = dlt (x1 - x0) x2 k := by
      rw [wX (by omega) (by omega)]; unfold dlt; omega
     have w5 : IntKind.i64.wrap (x0 + (k : Int) * (x1 - x0) / x2 - (x0 + ((k : Int) + 1) * (x1 - x0) / x2)) = 0 - dlt (x1 - x0) x2 k := by
      rw [wX (by omega) (by omega)]; unfold dlt; omega
     rw [decide_eq_true (show (k : Int) < x2 by omega), fB, wX (n := x1 - x0) (by omega) (by omega), wX (n := (k : Int) + 1) (by omega) (by omega),
      wX (n := ((k : Int) + 1) * (x1 - x0)) (by omega) (by omega), f133 _ _ c0 m1.1 m1.2, yH, w3, w4, w5, q9B, qDJ]
     have hb : Nat.ble ((xB (x1 - x0) x2 k).length + 1) 1048576 = true := zJU (by unfold xB; rw [zJO, zNF]; omega);simp only [zJN, zKZ, zJS, hb, fB];rfl
    rw [uJ hF];exact ih (k + 1) (by omega)
 have h := key x2.toNat 0 (by omega);simpa [xB] using h
end Go.Proofs.YtdhpibcacnndaaaGreatDoor
