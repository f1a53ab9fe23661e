/- Plain laws of chapter 8: nets, copied and compared. Conditions: none. -/
import Derived.Test.YtdhpibcacnndaaaGreatDoorPQ1
set_option linter.all false
set_option maxRecDepth 10000
namespace Go.Proofs.YtdhpibcacnndaaaGreatDoor
open Go Go.Idl Go.Sv Go.Proofs
abbrev Net := Int × List (Int × Int)
noncomputable def F59 (x0 : Net) (s1 : Int × List (Int × Int) × Int) : Option ((Int × List (Int × Int) × Int) ⊕ (Int × List (Int × Int) × Int ⊕ Int × List (Int × Int) ⊕ Nat × Int × List (Int × Int) × Int)) := q9D.ite (decide (s1.fst < (↑x0.snd.length : Int))) (q9D.bind (idx x0.snd.length s1.fst) fun (x2 : Nat) => q9D.bind x0.snd[x2]? fun (x3 : Int × Int) => q9D.ite ((s1.snd.fst.length + [(x3.fst, x3.snd)].length).ble 1048576) (q9D.ret (Sum.inl (IntKind.i64.wrap (s1.fst + 1), s1.snd.fst ++ [(x3.fst, x3.snd)], s1.snd.snd))) q9D.fail) (q9D.ret (Sum.inr (Sum.inl (s1.fst, s1.snd.fst, s1.snd.snd))))
theorem n59 (x : Net) (hl : x.2.length <= 1048576) : H59 x = some x := by
 have key : ∀ (m k : Nat), k + m = x.2.length -> (q9D.bind (yK (F59 x) ((k : Int), x.2.take k, x.1)) fun (x1 : Int × List (Int × Int) × Int ⊕ Int × List (Int × Int) ⊕ Nat × Int × List (Int × Int) × Int) => q9D.sum x1 (fun (s2 : Int × List (Int × Int) × Int) => (q9D.ret (s2.snd.snd, s2.snd.fst) : q9D Net)) fun (s2 : Int × List (Int × Int) ⊕ Nat × Int × List (Int × Int) × Int) => q9D.sum s2 (fun (s3 : Int × List (Int × Int)) => q9D.ret s3) fun (s3 : Nat × Int × List (Int × Int) × Int) => q9D.fail) = q9D.ret x := by
  intro m
  induction m with
  | zero =>
    intro k hk
    have hF : F59 x ((k : Int), x.2.take k, x.1) = some (.inr (.inl ((k : Int), x.2.take k, x.1))) := by
     unfold F59;simp only;rw [q6S (by omega)]; rfl
    rw [jM hF, zJ2 (by omega)]; rfl
  | succ m ih =>
    intro k hk;have hlt : k < x.2.length := by omega
    have hF : F59 x ((k : Int), x.2.take k, x.1) = some (.inl (((k + 1 : Nat) : Int), x.2.take (k + 1), x.1)) := by
     unfold F59;simp only;rw [q41 (by omega), fB, qHK hlt, yH, zI9 hlt, yH, qXW (by omega)];have hb : Nat.ble ((x.2.take k).length + [(x.2[k].fst, x.2[k].snd)].length) 1048576 = true := zJU (by rw [zKJ]; simp only [zJN, zKZ]; omega);rw [hb, fB, List.take_succ_eq_append_getElem hlt];rfl
    rw [uJ hF, ih (k + 1) (by omega)]
 exact key x.2.length 0 (by omega)
noncomputable def F71 (x0 x1 : Net) (s2 : Int) : Option (Int ⊕ (Int ⊕ Bool ⊕ Nat × Int)) := q9D.ite (decide (s2 < (↑x0.snd.length : Int))) (q9D.bind (idx x0.snd.length s2) fun (x3 : Nat) => q9D.bind x0.snd[x3]? fun (x4 : Int × Int) => q9D.bind (idx x1.snd.length s2) fun (x5 : Nat) => q9D.bind x1.snd[x5]? fun (x6 : Int × Int) => q9D.bind (Ty.bool.zBD (jW Tryz.prog BinOp.neq 176 176 (fvv (Value.agg #[Value.int IntKind.i64 x4.fst, Value.int IntKind.i64 x4.snd])) (fvv (Value.agg #[Value.int IntKind.i64 x6.fst, Value.int IntKind.i64 x6.snd])) [])) fun (x7 : Bool) => q9D.ite x7 (q9D.ret (Sum.inr (Sum.inr (Sum.inl false)))) (q9D.ret (Sum.inl (IntKind.i64.wrap (s2 + 1))))) (q9D.ret (Sum.inr (Sum.inl s2)))
theorem du3 : zY Tryz.prog (underlying 3) = some (.int .i64) := by kernel_rfl
abbrev q5D : Array Field := #[{ name := "More", type := 3, offset := 0, embedded := false, tag := "", pkgPath := "", byteOffset := 0 }, { name := "Less", type := 3, offset := 1, embedded := false, tag := "", pkgPath := "", byteOffset := 8 }]
theorem q7R : zY Tryz.prog (underlying 176) = some (.struct q5D) := by kernel_rfl
theorem q77 : Tryz.prog.stoodInHeld 176 = false := by kernel_rfl
theorem q7N : zY Tryz.prog program = some Tryz.prog := rfl
theorem dp0 (a b : Value) : zY Tryz.prog (part 3 #[a, b] 0) = some a := by kernel_rfl
theorem dp1 (a b : Value) : zY Tryz.prog (part 3 #[a, b] 1) = some b := by kernel_rfl
theorem qS3 {α : Type} (a : α) : zY Tryz.prog (pure a : Sem α) = some a := rfl
theorem dB {α β : Type} (s : Sem α) (g : α -> Sem β) : zY Tryz.prog (s >>= g) = (zY Tryz.prog s).bind fun a => zY Tryz.prog (g a) := kL g s
theorem eqI (e : Nat) (a c : Int) : zY Tryz.prog (Op.equalIn (e + 1) 3 (.int .i64 a) (.int .i64 c)) = some (a == c) := by
 simp [Op.equalIn, dB, du3, qS3]
theorem r2 : List.range' 0 2 = [0, 1] := rfl
theorem eqA (e : Nat) (a b c d : Int) : zY Tryz.prog (Op.equalIn (e + 2) 176 (.agg #[.int .i64 a, .int .i64 b]) (.agg #[.int .i64 c, .int .i64 d])) = some (a == c && b == d) := by
 rw [Op.equalIn];simp only [dB, q7R, zJP, q7N, q77, zKV, if_false];simp only [q5D, <- Array.forIn_toList, List.forIn_cons, List.forIn_nil, dB, dp0, dp1, eqI, qS3, zJP];cases h1 : (a == c) <;> cases h2 : (b == d) <;> simp [dB, dp0, dp1, eqI, qS3, h1, h2]
theorem q6H (a b c d : Int) (x y : Operand) : zY Tryz.prog (do eqGuard .neq 176 x y (.agg #[.int .i64 a, .int .i64 b]) (.agg #[.int .i64 c, .int .i64 d]); binOp .neq 176 (.agg #[.int .i64 a, .int .i64 b]) (.agg #[.int .i64 c, .int .i64 d])) = some (.bool (!(a == c && b == d))) := by
 have h0 : zY Tryz.prog (eqGuard .neq 176 x y (.agg #[.int .i64 a, .int .i64 b]) (.agg #[.int .i64 c, .int .i64 d])) = some () := by kernel_rfl
 have h1 : binOp .neq 176 (.agg #[.int .i64 a, .int .i64 b]) (.agg #[.int .i64 c, .int .i64 d]) = (do pure (.bool !(<- Op.equal 176 (.agg #[.int .i64 a, .int .i64 b]) (.agg #[.int .i64 c, .int .i64 d])))) := rfl;rw [dB, h0, zJP, h1, dB];unfold Op.equal;rw [show Op.maxDepth = 9998 + 2 from rfl, eqA];rfl
theorem qZC {v : Array Value} : pl (fvv (.agg v)) = some (.agg v) := rfl
theorem pqn (a b c d : Int) : Ty.bool.zBD (jW Tryz.prog .neq 176 176 (fvv (.agg #[.int .i64 a, .int .i64 b])) (fvv (.agg #[.int .i64 c, .int .i64 d])) []) = some (!(a == c && b == d)) := by
 have e0 : jW Tryz.prog .neq 176 176 (fvv (.agg #[.int .i64 a, .int .i64 b])) (fvv (.agg #[.int .i64 c, .int .i64 d])) [] = qQS (kC Tryz.prog (cop (.binOp .neq 176 (.const (.agg #[.int .i64 a, .int .i64 b])) (.const (.agg #[.int .i64 c, .int .i64 d])) 176)) [] H00) := by
  unfold jW;rw [qZC, qZC];simp only;rw [show q5Q (.agg #[.int .i64 a, .int .i64 b]) = false from rfl, cond_false];rfl
 have h1 : execOp (Env.val []) (cop (.binOp .neq 176 (.const (.agg #[.int .i64 a, .int .i64 b])) (.const (.agg #[.int .i64 c, .int .i64 d])) 176)) = (do pure (.value (<- (do eqGuard .neq 176 (.const (.agg #[.int .i64 a, .int .i64 b])) (.const (.agg #[.int .i64 c, .int .i64 d])) (.agg #[.int .i64 a, .int .i64 b]) (.agg #[.int .i64 c, .int .i64 d]); binOp .neq 176 (.agg #[.int .i64 a, .int .i64 b]) (.agg #[.int .i64 c, .int .i64 d]))))) := rfl;rw [e0];unfold kC;rw [h1, dB, q6H];rfl
theorem n71 (x : Net) (hl : x.2.length < 2 ^ 62) : H71 (x, x) = some true := by
 have key : ∀ (m k : Nat), k + m = x.2.length -> (q9D.bind (yK (F71 x x) (k : Int)) fun (x2 : Int ⊕ Bool ⊕ Nat × Int) => q9D.sum x2 (fun (s3 : Int) => (q9D.ret true : q9D Bool)) fun (s3 : Bool ⊕ Nat × Int) => q9D.sum s3 (fun (s4 : Bool) => q9D.ret s4) fun (s4 : Nat × Int) => q9D.fail) = q9D.ret true := by
  intro m
  induction m with
  | zero =>
    intro k hk
    have hF : F71 x x (k : Int) = some (.inr (.inl (k : Int))) := by
     unfold F71;rw [q6S (by omega)]; rfl
    rw [jM hF]; rfl
  | succ m ih =>
    intro k hk;have hlt : k < x.2.length := by omega
    have hF : F71 x x (k : Int) = some (.inl ((k + 1 : Nat) : Int)) := by
     unfold F71;simp only [q41 (show (k : Int) < (x.2.length : Int) by omega), fB, qHK hlt, yH, zI9 hlt, pqn, qXW (show k < 2 ^ 62 by omega)];simp only [beq_self_eq_true, zJ7, zME, sU];rfl
    rw [uJ hF, ih (k + 1) (by omega)]
 show (G71 x x).run = some true;unfold G71;have h1 : (x.fst != x.fst) = false := by simp
 have h2 : ((↑x.snd.length : Int) != (↑x.snd.length : Int)) = false := by simp
 rw [h1, h2];exact key x.2.length 0 (by omega)
end Go.Proofs.YtdhpibcacnndaaaGreatDoor
