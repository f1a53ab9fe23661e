/- Plain law of SpliceShapes. Conditions: none. -/
import Derived.Test.YtdhpibcacnndaaaGreatDoorPQ5
set_option linter.all false
set_option maxRecDepth 10000
namespace Go.Proofs.YtdhpibcacnndaaaGreatDoor
open Go Go.Idl Go.Sv Go.Proofs
theorem rG (d m : Int) (n : Nat) : (xB d m n).length = n := by unfold xB; rw [zJO, zNF]
theorem nL {x a b : Int} (h : outs x a b = false) : a <= x ∧ x <= b := by
 unfold outs at h;rw [zLT] at h;have h1 := of_decide_eq_false h.1;have h2 := of_decide_eq_false h.2;omega
theorem i69 (x0 x1 x2 : Int) (h : (outs x0 1 500 || (outs x1 1 500 || outs x2 1 64)) = true) : H69 (x0, x1, x2) = some ((0, []), 3) := by
 show (G69 x0 x1 x2).run = _;unfold G69;simp only [e117, h94, yH, zJN, zKZ, Nat.reduceAdd, Nat.reducePow, Nat.reduceLT]
 revert h
 cases outs x0 1 500 <;> cases outs x1 1 500 <;> cases outs x2 1 64 <;> intro h <;> first | (cases h; done) | rfl
theorem i70 (x0 x1 x2 : Int) (h : (outs x0 1 500 || (outs x1 1 500 || outs x2 1 64)) = true) : H70 (x0, x1, x2) = some 3 := by
 show (G70 x0 x1 x2).run = _;unfold G70;simp only [e33, yH]
 revert h
 cases outs x0 1 500 <;> cases outs x1 1 500 <;> cases outs x2 1 64 <;> intro h <;> first | (cases h; done) | rfl
theorem v69 (x0 x1 x2 c : Int) (h0 : outs x0 1 500 = false) (h1 : outs x1 1 500 = false) (h2 : outs x2 1 64 = false) (hc : H60 (x0, xB (x1 - x0) x2 x2.toNat) = some c) :
 H69 (x0, x1, x2) = some (cond (c != 0) ((0, []), c) ((x0, xB (x1 - x0) x2 x2.toNat), 0)) := by
 have q0 := nL h0;have q1 := nL h1;have q2 := nL h2;have hc2 : H61 (x0, xB (x1 - x0) x2 x2.toNat) = some c := by rw [n61 _ (by simp only [rG]; omega)]; exact hc
 show (G69 x0 x1 x2).run = _;unfold G69;simp only [e117, h94, yH, zJN, zKZ, Nat.reduceAdd, Nat.reducePow, Nat.reduceLT, h0, h1, h2];obtain ⟨e, he⟩ := l69 x0 x1 x2 q0.1 q0.2 q1.1 q1.2 q2.1 q2.2 (fun (x7 : Int × Int × List (Int × Int) × Int ⊕ (Int × List (Int × Int)) × Int ⊕ Nat × Int × Int × List (Int × Int) × Int) => q9D.sum x7 (fun (s8 : Int × Int × List (Int × Int) × Int) => q9D.bind (H61 (s8.snd.snd.snd, s8.snd.snd.fst)) fun (x9 : Int) => q9D.ite (x9 != 0) (q9D.ret ((0, []), x9)) (q9D.ret ((s8.snd.snd.snd, s8.snd.snd.fst), 0))) fun (s8 : (Int × List (Int × Int)) × Int ⊕ Nat × Int × Int × List (Int × Int) × Int) => q9D.sum s8 (fun (s9 : (Int × List (Int × Int)) × Int) => (q9D.ret (s9.fst, s9.snd) : q9D (Net × Int))) fun (s9 : Nat × Int × Int × List (Int × Int) × Int) => q9D.fail);refine (congrArg q9D.run he).trans ?_;show q9D.run (q9D.bind (H61 (x0, xB (x1 - x0) x2 x2.toNat)) _) = _;rw [hc2]
 cases hb : (c != 0) <;> (show q9D.run (q9D.ite (c != 0) _ _) = _; rw [hb]; rfl)
theorem v70 (x0 x1 x2 c : Int) (h0 : outs x0 1 500 = false) (h1 : outs x1 1 500 = false) (h2 : outs x2 1 64 = false) (hc : H60 (x0, xB (x1 - x0) x2 x2.toNat) = some c) : H70 (x0, x1, x2) = some c := by
 have q0 := nL h0;have q1 := nL h1;have q2 := nL h2;show (G70 x0 x1 x2).run = _;unfold G70;simp only [e33, yH, h0, h1, h2];show q9D.run (q9D.bind (H72 (x0, x1, x2)) fun (x6 : Net) => q9D.bind (H60 (x6.fst, x6.snd)) fun (x7 : Int) => q9D.ret x7) = _;rw [n72 x0 x1 x2 q0.1 q0.2 q1.1 q1.2 q2.1 q2.2, yH];show q9D.run (q9D.bind (H60 (x0, xB (x1 - x0) x2 x2.toNat)) _) = _;rw [hc]; rfl
end Go.Proofs.YtdhpibcacnndaaaGreatDoor
