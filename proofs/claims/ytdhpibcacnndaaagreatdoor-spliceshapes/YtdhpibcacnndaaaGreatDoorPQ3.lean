/- Plain laws of chapter 8: the rows of a shaped net. Conditions: none. -/
import Derived.Test.YtdhpibcacnndaaaGreatDoorPQ2
set_option linter.all false
set_option maxRecDepth 10000
namespace Go.Proofs.YtdhpibcacnndaaaGreatDoor
open Go Go.Idl Go.Sv Go.Proofs
def dlt (d m : Int) (k : Nat) : Int := ((k : Int) + 1) * d / m - (k : Int) * d / m
def q8D (d m : Int) (k : Nat) : Int × Int := (cond (decide (dlt d m k < 0)) 0 (dlt d m k), cond (decide (0 - dlt d m k < 0)) 0 (0 - dlt d m k))
def xB (d m : Int) (n : Nat) : List (Int × Int) := (List.range n).map (q8D d m)
theorem qDJ (d m : Int) (n : Nat) : xB d m (n + 1) = xB d m n ++ [q8D d m n] := by
 unfold xB; rw [List.range_succ, zJ9]; rfl
theorem q6M {s d : Int} (h0 : 0 <= s) (h1 : s <= 64) (h2 : -499 <= d) (h3 : d <= 499) : -100000 <= s * d ∧ s * d <= 100000 := by
 have e := Int.natAbs_mul s d;have : s.natAbs * d.natAbs <= 64 * 499 := Nat.mul_le_mul (by omega) (by omega);omega
theorem q6W {a m : Int} (hm : 1 <= m) (h2 : -100000 <= a) (h3 : a <= 100000) : -100000 <= a / m ∧ a / m <= 100000 :=
 ⟨Int.le_ediv_of_mul_le (by omega) (by omega), Int.ediv_le_of_le_mul (by omega) (by omega)⟩
noncomputable def F72 (x0 x1 x2 : Int) (s3 : Int × List (Int × Int) × Int) : Option ((Int × List (Int × Int) × Int) ⊕ (Int × List (Int × Int) × Int ⊕ Int × List (Int × Int) ⊕ Nat × Int × List (Int × Int) × Int)) := q9D.ite (decide (s3.fst <= x2)) (q9D.bind (zCF (IntKind.i64.wrap (s3.fst * IntKind.i64.wrap (x1 - x0)), x2)) fun (x4 : Int) => q9D.bind (zCF (IntKind.i64.wrap (IntKind.i64.wrap (s3.fst - 1) * IntKind.i64.wrap (x1 - x0)), x2)) fun (x5 : Int) => q9D.ite ((s3.snd.fst.length + [(bif decide (IntKind.i64.wrap (x4 - x5) < 0) then 0 else IntKind.i64.wrap (x4 - x5), bif decide (IntKind.i64.wrap (0 - IntKind.i64.wrap (x4 - x5)) < 0) then 0 else IntKind.i64.wrap (0 - IntKind.i64.wrap (x4 - x5)))].length).ble 1048576) (q9D.ret (Sum.inl (IntKind.i64.wrap (s3.fst + 1), s3.snd.fst ++ [(bif decide (IntKind.i64.wrap (x4 - x5) < 0) then 0 else IntKind.i64.wrap (x4 - x5), bif decide (IntKind.i64.wrap (0 - IntKind.i64.wrap (x4 - x5)) < 0) then 0 else IntKind.i64.wrap (0 - IntKind.i64.wrap (x4 - x5)))], s3.snd.snd))) q9D.fail) (q9D.ret (Sum.inr (Sum.inl (s3.fst, s3.snd.fst, s3.snd.snd))))
theorem n72 (x0 x1 x2 : Int) (a0 : 1 <= x0) (a1 : x0 <= 500) (b0 : 1 <= x1) (b1 : x1 <= 500) (c0 : 1 <= x2) (c1 : x2 <= 64) : H72 (x0, x1, x2) = some (x0, xB (x1 - x0) x2 x2.toNat) := by
 have key : ∀ (m k : Nat), k + m = x2.toNat -> (q9D.bind (yK (F72 x0 x1 x2) ((k : Int) + 1, xB (x1 - x0) x2 k, x0)) fun (x3 : Int × List (Int × Int) × Int ⊕ Int × List (Int × Int) ⊕ Nat × Int × List (Int × Int) × Int) => q9D.sum x3 (fun (s4 : Int × List (Int × Int) × Int) => (q9D.ret (s4.snd.snd, s4.snd.fst) : q9D Net)) fun (s4 : Int × List (Int × Int) ⊕ Nat × Int × List (Int × Int) × Int) => q9D.sum s4 (fun (s5 : Int × List (Int × Int)) => q9D.ret s5) fun (s5 : Nat × Int × List (Int × Int) × Int) => q9D.fail) = q9D.ret (x0, xB (x1 - x0) x2 x2.toNat) := by
  intro m
  induction m with
  | zero =>
    intro k hk
    have hF : F72 x0 x1 x2 ((k : Int) + 1, xB (x1 - x0) x2 k, x0) = some (.inr (.inl ((k : Int) + 1, xB (x1 - x0) x2 k, x0))) := by
     unfold F72;simp only;rw [decide_eq_false (show ¬ ((k : Int) + 1 <= x2) by omega)]; rfl
    rw [jM hF, show k = x2.toNat by omega]; rfl
  | succ m ih =>
    intro k hk;have m1 := q6M (s := (k : Int) + 1) (d := x1 - x0) (by omega) (by omega) (by omega) (by omega);have m2 := q6M (s := (k : Int)) (d := x1 - x0) (by omega) (by omega) (by omega) (by omega);have q1 := q6W c0 m1.1 m1.2;have q2 := q6W c0 m2.1 m2.2
    have hF : F72 x0 x1 x2 ((k : Int) + 1, xB (x1 - x0) x2 k, x0) = some (.inl (((k + 1 : Nat) : Int) + 1, xB (x1 - x0) x2 (k + 1), x0)) := by
     unfold F72;simp only
     rw [decide_eq_true (show (k : Int) + 1 <= x2 by omega), fB, wX (n := x1 - x0) (by omega) (by omega), wX (n := (k : Int) + 1 - 1) (by omega) (by omega), show (k : Int) + 1 - 1 = (k : Int) by omega,
      wX (n := ((k : Int) + 1) * (x1 - x0)) (by omega) (by omega), wX (n := (k : Int) * (x1 - x0)) (by omega) (by omega), f134 _ _ c0 c1 m1.1 m1.2, yH, f134 _ _ c0 c1 m2.1 m2.2, yH,
      wX (n := ((k : Int) + 1) * (x1 - x0) / x2 - (k : Int) * (x1 - x0) / x2) (by omega) (by omega), wX (n := 0 - (((k : Int) + 1) * (x1 - x0) / x2 - (k : Int) * (x1 - x0) / x2)) (by omega) (by omega),
      wX (n := (k : Int) + 1 + 1) (by omega) (by omega), qDJ]
     have hb : Nat.ble ((xB (x1 - x0) x2 k).length + 1) 1048576 = true := zJU (by unfold xB; rw [zJO, zNF]; omega);simp only [zJN, zKZ, zJS, hb, fB];rfl
    rw [uJ hF, ih (k + 1) (by omega)]
 exact key x2.toNat 0 (by omega)
end Go.Proofs.YtdhpibcacnndaaaGreatDoor
