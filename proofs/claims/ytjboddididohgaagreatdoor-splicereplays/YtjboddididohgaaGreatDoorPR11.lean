/- SpliceReplays, plainly: the law. Conditions: none. -/
import Derived.Test.YtjboddididohgaaGreatDoorAW8
import Derived.Test.YtjboddididohgaaGreatDoorPR10
set_option linter.all false
set_option maxRecDepth 10000
set_option maxHeartbeats 100000000
namespace Go.Proofs.YtjboddididohgaaGreatDoor
open Go Go.Idl Go.Sv Go.Proofs
noncomputable section
abbrev q67 : Array Field := #[{ name := "Number", type := 3, offset := 0, embedded := false, tag := "", pkgPath := "", byteOffset := 0 }, { name := "Rule", type := 3, offset := 1, embedded := false, tag := "", pkgPath := "", byteOffset := 8 }]
theorem q8A : yE Tryz.prog (underlying 109) = some (.struct q67) := by kernel_rfl
theorem q7Z : Tryz.prog.stoodInHeld 109 = false := by kernel_rfl
theorem q9R (e : Nat) (a b c d : Int) : yE Tryz.prog (Op.equalIn (e + 2) 109 (.agg #[.int .i64 a, .int .i64 b]) (.agg #[.int .i64 c, .int .i64 d])) = some (a == c && b == d) := by
 rw [Op.equalIn];simp only [dB, q8A, zKP, q8D, q7Z, zLW, if_false];simp only [q67, <- Array.forIn_toList, List.forIn_cons, List.forIn_nil, dB, dp0, dp1, eqI, qV5, zKP];cases h1 : (a == c) <;> cases h2 : (b == d) <;> simp [dB, dp0, dp1, eqI, qV5, h1, h2]
theorem q66 (a b c d : Int) (x y : Operand) : yE Tryz.prog (do eqGuard .neq 109 x y (.agg #[.int .i64 a, .int .i64 b]) (.agg #[.int .i64 c, .int .i64 d]); binOp .neq 109 (.agg #[.int .i64 a, .int .i64 b]) (.agg #[.int .i64 c, .int .i64 d])) = some (.bool (!(a == c && b == d))) := by
 have h0 : yE Tryz.prog (eqGuard .neq 109 x y (.agg #[.int .i64 a, .int .i64 b]) (.agg #[.int .i64 c, .int .i64 d])) = some () := by kernel_rfl
 have h1 : binOp .neq 109 (.agg #[.int .i64 a, .int .i64 b]) (.agg #[.int .i64 c, .int .i64 d]) = (do pure (.bool !(<- Op.equal 109 (.agg #[.int .i64 a, .int .i64 b]) (.agg #[.int .i64 c, .int .i64 d])))) := rfl;rw [dB, h0, zKP, h1, dB];unfold Op.equal;rw [show Op.maxDepth = 9998 + 2 from rfl, q9R];rfl
theorem q95 (a b c d : Int) : Ty.bool.zCN (vB Tryz.prog .neq 109 109 (fvv (.agg #[.int .i64 a, .int .i64 b])) (fvv (.agg #[.int .i64 c, .int .i64 d])) []) = some (!(a == c && b == d)) := by
 have e0 : vB Tryz.prog .neq 109 109 (fvv (.agg #[.int .i64 a, .int .i64 b])) (fvv (.agg #[.int .i64 c, .int .i64 d])) [] = qQ8 (kG Tryz.prog (cop (.binOp .neq 109 (.const (.agg #[.int .i64 a, .int .i64 b])) (.const (.agg #[.int .i64 c, .int .i64 d])) 109)) [] H00) := by
  unfold vB;rw [q09, q09];simp only;rw [show q6U (.agg #[.int .i64 a, .int .i64 b]) = false from rfl, cond_false];rfl
 have h1 : execOp (Env.val []) (cop (.binOp .neq 109 (.const (.agg #[.int .i64 a, .int .i64 b])) (.const (.agg #[.int .i64 c, .int .i64 d])) 109)) = (do pure (.value (<- (do eqGuard .neq 109 (.const (.agg #[.int .i64 a, .int .i64 b])) (.const (.agg #[.int .i64 c, .int .i64 d])) (.agg #[.int .i64 a, .int .i64 b]) (.agg #[.int .i64 c, .int .i64 d]); binOp .neq 109 (.agg #[.int .i64 a, .int .i64 b]) (.agg #[.int .i64 c, .int .i64 d]))))) := rfl;rw [e0];unfold kG;rw [h1, dB, q66];rfl
theorem h24 {l : List (Int × Int)} (hl : l.length <= 1048576) : H24 l = some l := by
 refine OkT.eq ?_;show OkT (G24 l) _;unfold G24;refine qAT l.length (fun k (_ : Unit) => ((k : Int), l.take k)) (fun _ _ => True) () (by simp) trivial (fun k _ hk _ => ?_) fun _ _ => ?_
 ·refine bS (qMT (by simp only; omega)) (zX k rfl hk (zZ hk (bS (zKN (by simp only [zLG, zKO, zM9]; omega)) (qE ⟨(), ?_, trivial⟩))));simp only [nW (show k < 2 ^ 62 by omega), zNY hk]
 ·exact eZ (qOU (by simp only; omega)) (qE ⟨_, rfl, qE (by simp)⟩)
theorem h23 {l : List (Int × Int)} (hl : l.length <= 1048576) : H23 (l, l) = some true := by
 refine OkT.eq ?_;show OkT (G23 l l) _;unfold G23;refine eZ (by simp) (qAT l.length (fun k (_ : Unit) => (k : Int)) (fun _ _ => True) () rfl trivial (fun k _ hk _ => ?_) fun _ _ => ?_)
 ·refine bS (qMT (by omega)) (zX k rfl hk (zZ hk (zX k rfl hk (zZ hk (zK (q95 _ _ _ _) (eZ (by simp) (qE ⟨(), ?_, trivial⟩)))))));rw [nW (by omega)]
 ·exact eZ (qOU (by omega)) (qE ⟨_, rfl, qE rfl⟩)
theorem q9Y {r : Rl} (h18 : H18 r = some 3) (l : List Tk) : H17 (r, l) = some (([], []), [], 3) := by
 have h84 : H84 r = some 3 := (n84 r).trans h18;refine OkT.eq ?_;show OkT (G17 r l) _;unfold G17;rw [e95];exact zK h84 (zK rfl (zK (q6E (by simp)) (bS (by rw [q5W]; rfl) (qE (by rw [q5W]; rfl)))))
theorem q93 (r : Rl) (l : List Tk) (hl : l.length <= 1048576) : H3 (r, l) = some true := by
 refine OkT.eq ?_
 delta H3 q98.run
 dsimp only
 have main : OkT (q98.bind (H17 (r, l)) fun (x4 : (List Int × List Int) × List (Int × Int) × Int) => q98.bind (H18 r) fun (x5 : Int) => q98.ite (x5 == 0) (q98.bind (H19 (r, l)) fun (x6 : Int) => q98.ite (x6 != 0) (q98.ite (qU (IntKind.i64.wrap (IntKind.i64.wrap ((↑x4.fst.fst.length : Int) + (↑x4.fst.snd.length : Int)) + (↑x4.snd.fst.length : Int)) == 0) true) (q98.ret (x4.snd.snd == x6)) (q98.ret false)) (q98.bind (H20 (r, l)) fun (x7 : (List Int × List Int) × List (Int × Int)) => q98.ite (qU (x4.snd.snd == 0) true) (q98.bind (H21 ((x4.fst.fst, x4.fst.snd), x7.fst.fst, x7.fst.snd)) fun (x8 : Bool) => q98.ite (qU x8 true) (q98.bind (H24 x4.snd.fst) fun (x9 : List (Int × Int)) => q98.bind (H23 (x9, x7.snd)) fun (x10 : Bool) => q98.ret x10) (q98.ret false)) (q98.ret false))) (q98.ite (x5 != 0) (q98.ite (qU (IntKind.i64.wrap (IntKind.i64.wrap ((↑x4.fst.fst.length : Int) + (↑x4.fst.snd.length : Int)) + (↑x4.snd.fst.length : Int)) == 0) true) (q98.ret (x4.snd.snd == x5)) (q98.ret false)) (q98.bind (H20 (r, l)) fun (x6 : (List Int × List Int) × List (Int × Int)) => q98.ite (qU (x4.snd.snd == 0) true) (q98.bind (H21 ((x4.fst.fst, x4.fst.snd), x6.fst.fst, x6.fst.snd)) fun (x7 : Bool) => q98.ite (qU x7 true) (q98.bind (H24 x4.snd.fst) fun (x8 : List (Int × Int)) => q98.bind (H23 (x8, x6.snd)) fun (x9 : Bool) => q98.ret x9) (q98.ret false)) (q98.ret false)))) (fun x => x = true) := by
  obtain ⟨v18, h18, ⟨rfl, n, hr⟩ | rfl⟩ := h18 r
  ·by_cases hc : qPR r l = 0
   ·obtain ⟨zD6, hl⟩ := qMJ hc;obtain ⟨hs, hlen⟩ := dF hr hl l.length (zJ7 _);have hT := hs.t;have hG := hs.g;have hhi := hr.hi;have zJ2 : H24 (vK r n l l.length).1 = some (vK r n l l.length).1 := h24 (by omega);have zJ3 : H23 ((vK r n l l.length).1, (vK r n l l.length).1) = some true := h23 (by omega);have zJ4 : H21 ((vK r n l l.length).2, (vK r n l l.length).2) = some true := h21 (by omega) (by omega);exact zK ((h17 hr h18 l).1 hc) (zK h18 (bS rfl (zK (h19 hr l) (eZ (by rw [hc]; rfl) (zK (h20 hr hc) (bS rfl (zK zJ4 (bS rfl (zK zJ2 (zK zJ3 (qE rfl)))))))))))
   ·exact zK ((h17 hr h18 l).2 hc) (zK h18 (bS rfl (zK (h19 hr l) (bS (bne_iff_ne.2 hc) (bS rfl (qE (by simp)))))))
  ·exact zK (q9Y h18 l) (zK h18 (eZ rfl (bS rfl (bS rfl (qE rfl)))))
 delta G3
 have aw := awake
 revert aw
 generalize H16 () = o16;intro aw;exact zK (h15 hl) (zK aw (bS rfl (zD (fun _ => zD (fun _ => zD (fun _ => zK aw (qE rfl)) fun _ => main) fun _ => zK aw (qE rfl)) fun _ => zD (fun _ => zK aw (qE rfl)) fun _ => main)))
end
end Go.Proofs.YtjboddididohgaaGreatDoor
