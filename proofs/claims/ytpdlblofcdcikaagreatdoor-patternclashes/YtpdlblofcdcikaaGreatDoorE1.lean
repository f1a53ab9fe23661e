/- Arrays of integers compared. Conditions: none. -/
import Derived.Test.YtpdlblofcdcikaaGreatDoorH8
set_option linter.unusedSimpArgs false
set_option linter.unusedVariables false
namespace Go.Proofs.YtpdlblofcdcikaaGreatDoor
open Go.Idl

theorem du3 : sdry Tryz.prog (underlying 3) = some (.int .i64) := by kernel_rfl
theorem du83 : sdry Tryz.prog (underlying 83) = some (.array 2 3) := by kernel_rfl
theorem du84 : sdry Tryz.prog (underlying 84) = some (.array 2 83) := by kernel_rfl
theorem ds3 : sdry Tryz.prog (sizeOf 3) = some 1 := by kernel_rfl
theorem ds83 : sdry Tryz.prog (sizeOf 83) = some 2 := by kernel_rfl
theorem dp0 (a b : Value) : sdry Tryz.prog (part 3 #[a, b] 0) = some a := by kernel_rfl
theorem dp1 (a b : Value) : sdry Tryz.prog (part 3 #[a, b] 1) = some b := by kernel_rfl
theorem dq0 (a b c d : Value) : sdry Tryz.prog (part 83 #[a, b, c, d] 0) = some (.agg #[a, b]) := by kernel_rfl
theorem dq1 (a b c d : Value) : sdry Tryz.prog (part 83 #[a, b, c, d] 2) = some (.agg #[c, d]) := by kernel_rfl
theorem sdry_p {α : Type} (a : α) : sdry Tryz.prog (pure a : Sem α) = some a := rfl
theorem dB {α β : Type} (s : Sem α) (g : α → Sem β) : sdry Tryz.prog (s >>= g) = (sdry Tryz.prog s).bind fun a => sdry Tryz.prog (g a) := sdry_bind g s
theorem eqI (e : Nat) (a c : Int) : sdry Tryz.prog (Op.equalIn (e + 1) 3 (.int .i64 a) (.int .i64 c)) = some (a == c) := by
  simp [Op.equalIn, dB, du3, sdry_p]
theorem r2 : List.range' 0 2 = [0, 1] := rfl
theorem eqA (e : Nat) (a b c d : Int) : sdry Tryz.prog (Op.equalIn (e + 2) 83 (.agg #[.int .i64 a, .int .i64 b]) (.agg #[.int .i64 c, .int .i64 d])) = some (a == c && b == d) := by
  rw [Op.equalIn]
  simp only [dB, du83, Option.bind_some, ds3]
  simp only [r2, List.forIn_cons, List.forIn_nil, dB, dp0, dp1, eqI, sdry_p, Std.Legacy.Range.forIn_eq_forIn_range', Std.Legacy.Range.size, Option.bind_some, Nat.zero_mul, Nat.mul_one, Nat.one_mul, Nat.sub_zero, Nat.add_sub_cancel, Nat.div_one]
  cases h1 : (a == c) <;> cases h2 : (b == d) <;> simp [dB, dp0, dp1, eqI, sdry_p, h1, h2]
theorem eqB (e : Nat) (a b c d a' b' c' d' : Int) : sdry Tryz.prog (Op.equalIn (e + 3) 84 (.agg #[.int .i64 a, .int .i64 b, .int .i64 c, .int .i64 d]) (.agg #[.int .i64 a', .int .i64 b', .int .i64 c', .int .i64 d'])) = some ((a == a' && b == b') && (c == c' && d == d')) := by
  rw [Op.equalIn]
  simp only [dB, du84, Option.bind_some, ds83]
  simp only [r2, List.forIn_cons, List.forIn_nil, dB, dq0, dq1, eqA, sdry_p, Std.Legacy.Range.forIn_eq_forIn_range', Std.Legacy.Range.size, Option.bind_some, Nat.zero_mul, Nat.mul_one, Nat.one_mul, Nat.sub_zero, Nat.add_sub_cancel, Nat.div_one]
  cases h1 : (a == a' && b == b') <;> cases h2 : (c == c' && d == d') <;> simp [dB, dq0, dq1, eqA, sdry_p, h1, h2]
theorem bo83 (a b c d : Int) (x y : Operand) : sdry Tryz.prog (do eqGuard .eql 83 x y (.agg #[.int .i64 a, .int .i64 b]) (.agg #[.int .i64 c, .int .i64 d]); binOp .eql 83 (.agg #[.int .i64 a, .int .i64 b]) (.agg #[.int .i64 c, .int .i64 d])) = some (.bool (a == c && b == d)) := by
  have h0 : sdry Tryz.prog (eqGuard .eql 83 x y (.agg #[.int .i64 a, .int .i64 b]) (.agg #[.int .i64 c, .int .i64 d])) = some () := by kernel_rfl
  have h1 : binOp .eql 83 (.agg #[.int .i64 a, .int .i64 b]) (.agg #[.int .i64 c, .int .i64 d]) = (do pure (.bool (← Op.equal 83 (.agg #[.int .i64 a, .int .i64 b]) (.agg #[.int .i64 c, .int .i64 d])))) := rfl
  rw [dB, h0, Option.bind_some, h1, dB]
  unfold Op.equal
  rw [show Op.maxDepth = 9998 + 2 from rfl, eqA]
  rfl
theorem bo84 (a b c d a' b' c' d' : Int) (x y : Operand) : sdry Tryz.prog (do eqGuard .eql 84 x y (.agg #[.int .i64 a, .int .i64 b, .int .i64 c, .int .i64 d]) (.agg #[.int .i64 a', .int .i64 b', .int .i64 c', .int .i64 d']); binOp .eql 84 (.agg #[.int .i64 a, .int .i64 b, .int .i64 c, .int .i64 d]) (.agg #[.int .i64 a', .int .i64 b', .int .i64 c', .int .i64 d'])) = some (.bool ((a == a' && b == b') && (c == c' && d == d'))) := by
  have h0 : sdry Tryz.prog (eqGuard .eql 84 x y (.agg #[.int .i64 a, .int .i64 b, .int .i64 c, .int .i64 d]) (.agg #[.int .i64 a', .int .i64 b', .int .i64 c', .int .i64 d'])) = some () := by kernel_rfl
  have h1 : binOp .eql 84 (.agg #[.int .i64 a, .int .i64 b, .int .i64 c, .int .i64 d]) (.agg #[.int .i64 a', .int .i64 b', .int .i64 c', .int .i64 d']) = (do pure (.bool (← Op.equal 84 (.agg #[.int .i64 a, .int .i64 b, .int .i64 c, .int .i64 d]) (.agg #[.int .i64 a', .int .i64 b', .int .i64 c', .int .i64 d'])))) := rfl
  rw [dB, h0, Option.bind_some, h1, dB]
  unfold Op.equal
  rw [show Op.maxDepth = 9997 + 3 from rfl, eqB]
  rfl
theorem eq83 {dst : Option Tmp} {p q : Tmp} {yt ty : TypeId} {pos : String} {after : Array Edge} {guard : Option (Nat × Bool)} {env : Env} {H : IH} {a b c d : Int} (hx : env.val (.tmp p) = .agg #[.int .i64 a, .int .i64 b]) (hy : env.val (.tmp q) = .agg #[.int .i64 c, .int .i64 d]) :
    ibinOp Tryz.prog ⟨dst, .binOp .eql 83 (.tmp p) (.tmp q) yt, ty, pos, after, guard⟩ .eql 83 (.agg #[.int .i64 a, .int .i64 b]) (.agg #[.int .i64 c, .int .i64 d]) env H = some (.val (.bool (a == c && b == d)) H) := by
  show idry Tryz.prog _ env H = _
  have h1 : execOp env.val ⟨dst, .binOp .eql 83 (.tmp p) (.tmp q) yt, ty, pos, after, guard⟩ = (do pure (.value (← (do eqGuard .eql 83 (.tmp p) (.tmp q) (env.val (.tmp p)) (env.val (.tmp q)); binOp .eql 83 (env.val (.tmp p)) (env.val (.tmp q)))))) := rfl
  have h2 : (Op.operands (.binOp .eql 83 (.tmp p) (.tmp q) yt)).toList = [.tmp p, .tmp q] := rfl
  unfold idry
  simp only [h1, h2, zR, zP]
  rw [dB, hx, hy, bo83]
  rfl
theorem eq84 {dst : Option Tmp} {p q : Tmp} {yt ty : TypeId} {pos : String} {after : Array Edge} {guard : Option (Nat × Bool)} {env : Env} {H : IH} {a b c d a' b' c' d' : Int} (hx : env.val (.tmp p) = .agg #[.int .i64 a, .int .i64 b, .int .i64 c, .int .i64 d]) (hy : env.val (.tmp q) = .agg #[.int .i64 a', .int .i64 b', .int .i64 c', .int .i64 d']) :
    ibinOp Tryz.prog ⟨dst, .binOp .eql 84 (.tmp p) (.tmp q) yt, ty, pos, after, guard⟩ .eql 84 (.agg #[.int .i64 a, .int .i64 b, .int .i64 c, .int .i64 d]) (.agg #[.int .i64 a', .int .i64 b', .int .i64 c', .int .i64 d']) env H = some (.val (.bool ((a == a' && b == b') && (c == c' && d == d'))) H) := by
  show idry Tryz.prog _ env H = _
  have h1 : execOp env.val ⟨dst, .binOp .eql 84 (.tmp p) (.tmp q) yt, ty, pos, after, guard⟩ = (do pure (.value (← (do eqGuard .eql 84 (.tmp p) (.tmp q) (env.val (.tmp p)) (env.val (.tmp q)); binOp .eql 84 (env.val (.tmp p)) (env.val (.tmp q)))))) := rfl
  have h2 : (Op.operands (.binOp .eql 84 (.tmp p) (.tmp q) yt)).toList = [.tmp p, .tmp q] := rfl
  unfold idry
  simp only [h1, h2, zR, zP]
  rw [dB, hx, hy, bo84]
  rfl
end Go.Proofs.YtpdlblofcdcikaaGreatDoor
