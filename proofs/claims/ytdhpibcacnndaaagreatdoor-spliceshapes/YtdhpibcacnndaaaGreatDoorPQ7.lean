/- Plain law of SpliceShapes: the law. Conditions: none. -/
import Derived.Test.YtdhpibcacnndaaaGreatDoorPQ6
import Derived.Test.YtdhpibcacnndaaaGreatDoorAW8
set_option linter.all false
set_option maxRecDepth 10000
namespace Go.Proofs.YtdhpibcacnndaaaGreatDoor
open Go Go.Idl Go.Sv Go.Proofs
theorem q82 (x : Int × Int × Int) : H8 x = some true := by
 obtain ⟨x0, x1, x2⟩ := x;show (G8 x0 x1 x2).run = some true;unfold G8;rw [awake, yH];have t16 : (!true) = false := rfl;rw [t16, sU]
 cases ho : (outs x0 1 500 || (outs x1 1 500 || outs x2 1 64)) with
 | true =>
   refine (congrArg (fun o => q9D.run (q9D.bind o _)) (i69 x0 x1 x2 ho)).trans ?_;refine (congrArg (fun o => q9D.run (q9D.bind o _)) (i70 x0 x1 x2 ho)).trans ?_;rfl
 | false =>
   rw [zLT, zLT] at ho;obtain ⟨h0, h1, h2⟩ := ho;have q0 := nL h0;have q1 := nL h1;have q2 := nL h2;obtain ⟨c, hc⟩ := n60 (x0, xB (x1 - x0) x2 x2.toNat) (by simp only [rG]; omega);refine (congrArg (fun o => q9D.run (q9D.bind o _)) (v69 x0 x1 x2 c h0 h1 h2 hc)).trans ?_;refine (congrArg (fun o => q9D.run (q9D.bind o _)) (v70 x0 x1 x2 c h0 h1 h2 hc)).trans ?_
   cases hb : (c != 0) with
   | true =>
     show q9D.run (q9D.ite (c != 0) (q9D.ret (c == c)) _) = _;rw [hb, beq_self_eq_true]; rfl
   | false =>
     show q9D.run (q9D.ite (c != 0) _ (q9D.bind (H59 (x0, xB (x1 - x0) x2 x2.toNat)) fun (x6 : Net) => q9D.bind (H72 (x0, x1, x2)) fun (x7 : Net) => q9D.bind (H71 ((x6.fst, x6.snd), x7.fst, x7.snd)) fun (x8 : Bool) => q9D.ret x8)) = _;rw [hb, sU, n59 _ (by simp only [rG]; omega), yH, n72 x0 x1 x2 q0.1 q0.2 q1.1 q1.2 q2.1 q2.2, yH];show q9D.run (q9D.bind (H71 ((x0, xB (x1 - x0) x2 x2.toNat), (x0, xB (x1 - x0) x2 x2.toNat))) _) = _;rw [n71 _ (by simp only [rG]; omega)];rfl
end Go.Proofs.YtdhpibcacnndaaaGreatDoor
