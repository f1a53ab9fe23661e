/- Plain laws of chapter 8: states are checked alike. Conditions: none. -/
import Derived.Test.YtjboddididohgaaGreatDoorPR2
import Derived.Test.YtjboddididohgaaGreatDoorPQ2
set_option linter.all false
set_option maxRecDepth 10000
namespace Go.Proofs.YtjboddididohgaaGreatDoor
open Go Go.Idl Go.Sv Go.Proofs
theorem q6L : zX Tryz.prog (underlying 113) = some (.array 2 3) := by kernel_rfl
def kv (p : Int × Int) : Value := .agg #[.int .i64 p.1, .int .i64 p.2]
def eN (L : List (Int × Int)) : List (Value × Value) := L.map fun p => (kv p, .bool true)
theorem q9B (e : Nat) (a b c d : Int) : zX Tryz.prog (Op.equalIn (e + 2) 113 (.agg #[.int .i64 a, .int .i64 b]) (.agg #[.int .i64 c, .int .i64 d])) = some (a == c && b == d) := by
 rw [Op.equalIn];simp only [dB, q6L, zK0, ds3];simp only [r2, List.forIn_cons, List.forIn_nil, dB, dp0, dp1, eqI, qRY, Std.Legacy.Range.forIn_eq_forIn_range', Std.Legacy.Range.size, zK0, zOH, Nat.mul_one, Nat.one_mul, Nat.sub_zero, zOS, Nat.div_one];cases h1 : (a == c) <;> cases h2 : (b == d) <;> simp [dB, dp0, dp1, eqI, qRY, h1, h2]
theorem q6N (p q : Int × Int) : zX Tryz.prog (Op.equal 113 (kv p) (kv q)) = some (decide (q = p)) := by
 unfold Op.equal;rw [show Op.maxDepth = 9998 + 2 from rfl];unfold kv;rw [q9B]
 congr 1
 rw [Bool.eq_iff_iff];simp only [zKI, beq_iff_eq, decide_eq_true_eq];constructor
 ·rintro ⟨h1, h2⟩; exact Prod.ext h1.symm h2.symm
 ·rintro rfl; exact ⟨rfl, rfl⟩
theorem q56 (b : Bool) (p : Int × Int) : zX Tryz.prog (Instr.checkKey b 10000 113 (.agg #[.int .i64 p.1, .int .i64 p.2])) = some () := by kernel_rfl
def qQB (p : Int × Int) : List (Int × Int) -> Option Nat
 | [] => none
 | q :: L => cond (decide (q = p)) (some 0) ((qQB p L).map (· + 1))
theorem q1P (p : Int × Int) : ∀ (L : List (Int × Int)) (n i : Nat), ∃ f : Nat -> Value, zX Tryz.prog (Instr.findAsking 113 (kv p) (yD n (eN L)) i) = some ((qQB p L).map fun j => (i + j, f j))
 | [], n, i => ⟨fun _ => .bool true, rfl⟩
 | q :: L, n, i => by
   obtain ⟨f, hf⟩ := q1P p L (n + 1) (i + 1);have e : yD n (eN (q :: L)) = ⟨kv q, .bool true, n⟩ :: yD (n + 1) (eN L) := rfl;rw [e];unfold Instr.findAsking;rw [dB, q6N, zK0];unfold qQB;by_cases hp : q = p
   ·refine ⟨fun _ => .bool true, ?_⟩;simp only [hp, decide_true, if_true, cond_true, zKU, zML];rfl
   ·refine ⟨fun j => f (j - 1), ?_⟩;simp only [hp, decide_false, zL9, if_false, cond_false];rw [hf]
    cases qQB p L with
    | none => rfl
    | some j =>
      simp only [zKU, zOS];rw [show i + 1 + j = i + (j + 1) by omega]
theorem q3D (k : Value) (es : List MapEntry) : zX Tryz.prog (Instr.findKey 113 k es) = zX Tryz.prog (Instr.findAsking 113 k es 0) := by
 unfold Instr.findKey;rw [dB, q6L, zK0]
 cases es with
 | nil => rfl
 | cons e es => rfl
theorem qFM (p : Int × Int) (L : List (Int × Int)) : vL Tryz.prog 113 (kv p) (yD 0 (eN L)) = some (qQB p L) := by
 obtain ⟨f, hf⟩ := q1P p L 0 0
 have hall : ∀ (n : Nat) (L : List (Int × Int)), (yD n (eN L)).all (fun e => zM e.key) = true := fun n L => by
  induction L generalizing n with
  | nil => rfl
  | cons p L ih =>
    show (zM (kv p) && (yD (n + 1) (eN L)).all _) = true;rw [show zM (kv p) = true from rfl, ih]; rfl
 have hc : ∀ b, zX Tryz.prog (Instr.checkKey b 10000 113 (kv p)) = some () := fun b => q56 b p
 unfold vL;rw [show zM (kv p) = true from rfl, hall, zLM, if_pos rfl, hc, hc, q3D, hf];simp only;cases qQB p L <;> simp
theorem mM {p : Int × Int} : ∀ {L : List (Int × Int)} {i : Nat}, qQB p L = some i -> L[i]? = some p
 | [], i, h => by cases h
 | q :: L, i, h => by
   unfold qQB at h;by_cases hp : q = p
   ·rw [decide_eq_true hp] at h;cases h;rw [hp]; rfl
   ·rw [decide_eq_false hp] at h;obtain ⟨j, h1, rfl⟩ := zKR.1 h;show L[j]? = some p;exact mM h1
theorem qA1 {p : Int × Int} : ∀ {L : List (Int × Int)}, qQB p L = none -> p ∉ L
 | [], _ => by simp
 | q :: L, h => by
   unfold qQB at h;by_cases hq : q = p
   ·rw [decide_eq_true hq] at h; cases h
   ·rw [decide_eq_false hq] at h;have := qA1 (Option.map_eq_none_iff.1 h);simp [this, Ne.symm hq]
theorem q3W (p : Int × Int) (L : List (Int × Int)) : q5E Tryz.prog 113 (kv p) (eN L) = some (decide (p ∈ L)) := by
 unfold q5E;rw [qFM]
 cases hp : qQB p L with
 | none => simp [qA1 hp]
 | some i => simp [zLH (mM hp)]
theorem q29 {p : Int × Int} {L : List (Int × Int)} (h : p ∈ L) : q4W Tryz.prog 113 .bool (kv p) (eN L) = some true := by
 unfold q4W;rw [qFM]
 cases hp : qQB p L with
 | none => exact absurd h (qA1 hp)
 | some i =>
   simp only;have : (eN L)[i]? = some (kv p, .bool true) := by unfold eN; rw [zKX, mM hp]; rfl
   rw [this]; rfl
theorem q9D (p : Int × Int) : Instr.sameBits 10000 (kv p) (kv p) = true := by
 have key : ∀ a b : Int, Instr.sameBits 10000 (Value.agg #[.int .i64 a, .int .i64 b]) (Value.agg #[.int .i64 a, .int .i64 b]) = true := fun a b => by
  rw [show (10000 : Nat) = 9999 + 1 from rfl, Instr.sameBits];simp [Instr.sameBits]
 exact key _ _
theorem q2X (p : Int × Int) (L : List (Int × Int)) : ∃ M, qW2 Tryz.prog 113 (kv p) (.bool true) (eN L) = some (eN M) ∧ ∀ q, q ∈ M ↔ q = p ∨ q ∈ L := by
 unfold qW2;rw [qFM]
 cases hp : qQB p L with
 | none => exact ⟨L ++ [p], by simp [eN], fun q => by simp [or_comm]⟩
 | some i =>
   have h1 := mM hp;have h2 : (eN L)[i]? = some (kv p, .bool true) := by unfold eN; rw [zKX, h1]; rfl
   refine ⟨L, ?_, fun q => ⟨.inr, fun h => ?_⟩⟩
   ·simp only [h2, q9D, cond_true]
    congr 1
    apply zLR;intro j;rw [zLD];by_cases hj : i = j
    ·subst hj;have := (zKN.1 h2).1;rw [if_pos rfl, if_pos this, h2]
    ·rw [if_neg hj]
   ·rcases h with rfl | h
    ·exact zLH h1
    ·exact h
end Go.Proofs.YtjboddididohgaaGreatDoor
