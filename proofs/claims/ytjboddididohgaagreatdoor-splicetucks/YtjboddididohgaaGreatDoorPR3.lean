/- Plain laws of chapter 8: states are checked alike. Conditions: none. -/
import Derived.Test.YtjboddididohgaaGreatDoorPR2
import Derived.Test.YtjboddididohgaaGreatDoorPQ2
set_option linter.all false
set_option maxRecDepth 10000
namespace Go.Proofs.YtjboddididohgaaGreatDoor
open Go Go.Idl Go.Sv Go.Proofs
theorem q7B : zX Tryz.prog (underlying 113) = some (.array 2 3) := by kernel_rfl
def kv (p : Int × Int) : Value := .agg #[.int .i64 p.1, .int .i64 p.2]
def eN (L : List (Int × Int)) : List (Value × Value) := L.map fun p => (kv p, .bool true)
theorem q8D (e : Nat) (a b c d : Int) : zX Tryz.prog (Op.equalIn (e + 2) 113 (.agg #[.int .i64 a, .int .i64 b]) (.agg #[.int .i64 c, .int .i64 d])) = some (a == c && b == d) := by
 rw [Op.equalIn];simp only [dB, q7B, zKJ, ds3];simp only [r2, List.forIn_cons, List.forIn_nil, dB, dp0, dp1, eqI, qRT, Std.Legacy.Range.forIn_eq_forIn_range', Std.Legacy.Range.size, zKJ, zN0, Nat.mul_one, Nat.one_mul, Nat.sub_zero, zOB, Nat.div_one];cases h1 : (a == c) <;> cases h2 : (b == d) <;> simp [dB, dp0, dp1, eqI, qRT, h1, h2]
theorem q7I (p q : Int × Int) : zX Tryz.prog (Op.equal 113 (kv p) (kv q)) = some (decide (q = p)) := by
 unfold Op.equal;rw [show Op.maxDepth = 9998 + 2 from rfl];unfold kv;rw [q8D]
 congr 1
 rw [Bool.eq_iff_iff];simp only [zJ1, beq_iff_eq, decide_eq_true_eq];constructor
 ·rintro ⟨h1, h2⟩; exact Prod.ext h1.symm h2.symm
 ·rintro rfl; exact ⟨rfl, rfl⟩
theorem q54 (b : Bool) (p : Int × Int) : zX Tryz.prog (Instr.checkKey b 10000 113 (.agg #[.int .i64 p.1, .int .i64 p.2])) = some () := by kernel_rfl
def qQE (p : Int × Int) : List (Int × Int) -> Option Nat
 | [] => none
 | q :: L => cond (decide (q = p)) (some 0) ((qQE p L).map (· + 1))
theorem q0Y (p : Int × Int) : ∀ (L : List (Int × Int)) (n i : Nat), ∃ f : Nat -> Value, zX Tryz.prog (Instr.findAsking 113 (kv p) (yD n (eN L)) i) = some ((qQE p L).map fun j => (i + j, f j))
 | [], n, i => ⟨fun _ => .bool true, rfl⟩
 | q :: L, n, i => by
   obtain ⟨f, hf⟩ := q0Y p L (n + 1) (i + 1);have e : yD n (eN (q :: L)) = ⟨kv q, .bool true, n⟩ :: yD (n + 1) (eN L) := rfl;rw [e];unfold Instr.findAsking;rw [dB, q7I, zKJ];unfold qQE;by_cases hp : q = p
   ·refine ⟨fun _ => .bool true, ?_⟩;simp only [hp, decide_true, if_true, cond_true, zKD, zL3];rfl
   ·refine ⟨fun j => f (j - 1), ?_⟩;simp only [hp, decide_false, zLR, if_false, cond_false];rw [hf]
    cases qQE p L with
    | none => rfl
    | some j =>
      simp only [zKD, zOB];rw [show i + 1 + j = i + (j + 1) by omega]
theorem q2J (k : Value) (es : List MapEntry) : zX Tryz.prog (Instr.findKey 113 k es) = zX Tryz.prog (Instr.findAsking 113 k es 0) := by
 unfold Instr.findKey;rw [dB, q7B, zKJ]
 cases es with
 | nil => rfl
 | cons e es => rfl
theorem qE9 (p : Int × Int) (L : List (Int × Int)) : vJ Tryz.prog 113 (kv p) (yD 0 (eN L)) = some (qQE p L) := by
 obtain ⟨f, hf⟩ := q0Y p L 0 0
 have hall : ∀ (n : Nat) (L : List (Int × Int)), (yD n (eN L)).all (fun e => zL e.key) = true := fun n L => by
  induction L generalizing n with
  | nil => rfl
  | cons p L ih =>
    show (zL (kv p) && (yD (n + 1) (eN L)).all _) = true;rw [show zL (kv p) = true from rfl, ih]; rfl
 have hc : ∀ b, zX Tryz.prog (Instr.checkKey b 10000 113 (kv p)) = some () := fun b => q54 b p
 unfold vJ;rw [show zL (kv p) = true from rfl, hall, zK4, if_pos rfl, hc, hc, q2J, hf];simp only;cases qQE p L <;> simp
theorem mF {p : Int × Int} : ∀ {L : List (Int × Int)} {i : Nat}, qQE p L = some i -> L[i]? = some p
 | [], i, h => by cases h
 | q :: L, i, h => by
   unfold qQE at h;by_cases hp : q = p
   ·rw [decide_eq_true hp] at h;cases h;rw [hp]; rfl
   ·rw [decide_eq_false hp] at h;obtain ⟨j, h1, rfl⟩ := zKA.1 h;show L[j]? = some p;exact mF h1
theorem tK {p : Int × Int} : ∀ {L : List (Int × Int)}, qQE p L = none -> p ∉ L
 | [], _ => by simp
 | q :: L, h => by
   unfold qQE at h;by_cases hq : q = p
   ·rw [decide_eq_true hq] at h; cases h
   ·rw [decide_eq_false hq] at h;have := tK (Option.map_eq_none_iff.1 h);simp [this, Ne.symm hq]
theorem q2T (p : Int × Int) (L : List (Int × Int)) : q4Z Tryz.prog 113 (kv p) (eN L) = some (decide (p ∈ L)) := by
 unfold q4Z;rw [qE9]
 cases hp : qQE p L with
 | none => simp [tK hp]
 | some i => simp [zKZ (mF hp)]
theorem q35 {p : Int × Int} {L : List (Int × Int)} (h : p ∈ L) : q2Z Tryz.prog 113 .bool (kv p) (eN L) = some true := by
 unfold q2Z;rw [qE9]
 cases hp : qQE p L with
 | none => exact absurd h (tK hp)
 | some i =>
   simp only;have : (eN L)[i]? = some (kv p, .bool true) := by unfold eN; rw [zKG, mF hp]; rfl
   rw [this]; rfl
theorem q80 (p : Int × Int) : Instr.sameBits 10000 (kv p) (kv p) = true := by
 have key : ∀ a b : Int, Instr.sameBits 10000 (Value.agg #[.int .i64 a, .int .i64 b]) (Value.agg #[.int .i64 a, .int .i64 b]) = true := fun a b => by
  rw [show (10000 : Nat) = 9999 + 1 from rfl, Instr.sameBits];simp [Instr.sameBits]
 exact key _ _
theorem q3K (p : Int × Int) (L : List (Int × Int)) : ∃ M, qWA Tryz.prog 113 (kv p) (.bool true) (eN L) = some (eN M) ∧ ∀ q, q ∈ M ↔ q = p ∨ q ∈ L := by
 unfold qWA;rw [qE9]
 cases hp : qQE p L with
 | none => exact ⟨L ++ [p], by simp [eN], fun q => by simp [or_comm]⟩
 | some i =>
   have h1 := mF hp;have h2 : (eN L)[i]? = some (kv p, .bool true) := by unfold eN; rw [zKG, h1]; rfl
   refine ⟨L, ?_, fun q => ⟨.inr, fun h => ?_⟩⟩
   ·simp only [h2, q80, cond_true]
    congr 1
    apply zK9;intro j;rw [zKX];by_cases hj : i = j
    ·subst hj;have := (zJ6.1 h2).1;rw [if_pos rfl, if_pos this, h2]
    ·rw [if_neg hj]
   ·rcases h with rfl | h
    ·exact zKZ h1
    ·exact h
end Go.Proofs.YtjboddididohgaaGreatDoor
