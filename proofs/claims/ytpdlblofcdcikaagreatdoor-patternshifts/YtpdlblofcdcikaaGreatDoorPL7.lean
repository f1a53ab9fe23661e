/- Pairs of integers compared; iterators with a count; lists that are counted. Conditions: none. -/
import Derived.Test.YtpdlblofcdcikaaGreatDoorPS1
import Derived.Test.YtpdlblofcdcikaaGreatDoorPL6
set_option linter.unusedSimpArgs false
set_option linter.unusedVariables false
set_option linter.unusedVariables false
set_option linter.unusedSimpArgs false
namespace Go.Proofs.YtpdlblofcdcikaaGreatDoor
open Go.Idl Go.Sv
theorem du3 : uL Tryz.prog (underlying 3) = some (.int .i64) := by kernel_rfl
theorem q51 : uL Tryz.prog (underlying 83) = some (.array 2 3) := by kernel_rfl
theorem ds3 : uL Tryz.prog (sizeOf 3) = some 1 := by kernel_rfl
theorem dp0 (a b : Value) : uL Tryz.prog (part 3 #[a, b] 0) = some a := by kernel_rfl
theorem dp1 (a b : Value) : uL Tryz.prog (part 3 #[a, b] 1) = some b := by kernel_rfl
theorem qRO {α : Type} (a : α) : uL Tryz.prog (pure a : Sem α) = some a := rfl
theorem dB {α β : Type} (s : Sem α) (g : α -> Sem β) : uL Tryz.prog (s >>= g) = (uL Tryz.prog s).bind fun a => uL Tryz.prog (g a) := uJ g s
theorem eqI (e : Nat) (a c : Int) : uL Tryz.prog (Op.equalIn (e + 1) 3 (.int .i64 a) (.int .i64 c)) = some (a == c) := by
 simp [Op.equalIn, dB, du3, qRO]
theorem r2 : List.range' 0 2 = [0, 1] := rfl
theorem eqA (e : Nat) (a b c d : Int) : uL Tryz.prog (Op.equalIn (e + 2) 83 (.agg #[.int .i64 a, .int .i64 b]) (.agg #[.int .i64 c, .int .i64 d])) = some (a == c && b == d) := by
 rw [Op.equalIn]
 simp only [dB, q51, Option.bind_some, ds3]
 simp only [r2, List.forIn_cons, List.forIn_nil, dB, dp0, dp1, eqI, qRO, Std.Legacy.Range.forIn_eq_forIn_range', Std.Legacy.Range.size, Option.bind_some, Nat.zero_mul, Nat.mul_one, Nat.one_mul, Nat.sub_zero, Nat.add_sub_cancel, Nat.div_one]
 cases h1 : (a == c) <;> cases h2 : (b == d) <;> simp [dB, dp0, dp1, eqI, qRO, h1, h2]
theorem q45 (a b c d : Int) (x y : Operand) : uL Tryz.prog (do eqGuard .eql 83 x y (.agg #[.int .i64 a, .int .i64 b]) (.agg #[.int .i64 c, .int .i64 d]); binOp .eql 83 (.agg #[.int .i64 a, .int .i64 b]) (.agg #[.int .i64 c, .int .i64 d])) = some (.bool (a == c && b == d)) := by
 have h0 : uL Tryz.prog (eqGuard .eql 83 x y (.agg #[.int .i64 a, .int .i64 b]) (.agg #[.int .i64 c, .int .i64 d])) = some () := by kernel_rfl
 have h1 : binOp .eql 83 (.agg #[.int .i64 a, .int .i64 b]) (.agg #[.int .i64 c, .int .i64 d]) = (do pure (.bool (<- Op.equal 83 (.agg #[.int .i64 a, .int .i64 b]) (.agg #[.int .i64 c, .int .i64 d])))) := rfl
 rw [dB, h0, Option.bind_some, h1, dB]
 unfold Op.equal
 rw [show Op.maxDepth = 9998 + 2 from rfl, eqA]
 rfl
theorem q3V (a b c d : Int) (x y : Operand) : uL Tryz.prog (do eqGuard .neq 83 x y (.agg #[.int .i64 a, .int .i64 b]) (.agg #[.int .i64 c, .int .i64 d]); binOp .neq 83 (.agg #[.int .i64 a, .int .i64 b]) (.agg #[.int .i64 c, .int .i64 d])) = some (.bool (!(a == c && b == d))) := by
 have h0 : uL Tryz.prog (eqGuard .neq 83 x y (.agg #[.int .i64 a, .int .i64 b]) (.agg #[.int .i64 c, .int .i64 d])) = some () := by kernel_rfl
 have h1 : binOp .neq 83 (.agg #[.int .i64 a, .int .i64 b]) (.agg #[.int .i64 c, .int .i64 d]) = (do pure (.bool !(<- Op.equal 83 (.agg #[.int .i64 a, .int .i64 b]) (.agg #[.int .i64 c, .int .i64 d])))) := rfl
 rw [dB, h0, Option.bind_some, h1, dB]
 unfold Op.equal
 rw [show Op.maxDepth = 9998 + 2 from rfl, eqA]
 rfl
theorem qLD {v : Array Value} : pl (fvv (.agg v)) = some (.agg v) := rfl
theorem pq (a b c d : Int) : Ty.bool.decPO (gM Tryz.prog .eql 83 83 (fvv (.agg #[.int .i64 a, .int .i64 b])) (fvv (.agg #[.int .i64 c, .int .i64 d])) []) = some (a == c && b == d) := by
 have e0 : gM Tryz.prog .eql 83 83 (fvv (.agg #[.int .i64 a, .int .i64 b])) (fvv (.agg #[.int .i64 c, .int .i64 d])) [] = qT1 (jQ Tryz.prog (cop (.binOp .eql 83 (.const (.agg #[.int .i64 a, .int .i64 b])) (.const (.agg #[.int .i64 c, .int .i64 d])) 83)) [] H00) := by
  unfold gM
  rw [qLD, qLD]
  simp only
  rw [show q0Y (.agg #[.int .i64 a, .int .i64 b]) = false from rfl, cond_false]
  rfl
 have h1 : execOp (Env.val []) (cop (.binOp .eql 83 (.const (.agg #[.int .i64 a, .int .i64 b])) (.const (.agg #[.int .i64 c, .int .i64 d])) 83)) = (do pure (.value (<- (do eqGuard .eql 83 (.const (.agg #[.int .i64 a, .int .i64 b])) (.const (.agg #[.int .i64 c, .int .i64 d])) (.agg #[.int .i64 a, .int .i64 b]) (.agg #[.int .i64 c, .int .i64 d]); binOp .eql 83 (.agg #[.int .i64 a, .int .i64 b]) (.agg #[.int .i64 c, .int .i64 d]))))) := rfl
 rw [e0]
 unfold jQ
 rw [h1, dB, q45]
 rfl
theorem pqn (a b c d : Int) : Ty.bool.decPO (gM Tryz.prog .neq 83 83 (fvv (.agg #[.int .i64 a, .int .i64 b])) (fvv (.agg #[.int .i64 c, .int .i64 d])) []) = some (!(a == c && b == d)) := by
 have e0 : gM Tryz.prog .neq 83 83 (fvv (.agg #[.int .i64 a, .int .i64 b])) (fvv (.agg #[.int .i64 c, .int .i64 d])) [] = qT1 (jQ Tryz.prog (cop (.binOp .neq 83 (.const (.agg #[.int .i64 a, .int .i64 b])) (.const (.agg #[.int .i64 c, .int .i64 d])) 83)) [] H00) := by
  unfold gM
  rw [qLD, qLD]
  simp only
  rw [show q0Y (.agg #[.int .i64 a, .int .i64 b]) = false from rfl, cond_false]
  rfl
 have h1 : execOp (Env.val []) (cop (.binOp .neq 83 (.const (.agg #[.int .i64 a, .int .i64 b])) (.const (.agg #[.int .i64 c, .int .i64 d])) 83)) = (do pure (.value (<- (do eqGuard .neq 83 (.const (.agg #[.int .i64 a, .int .i64 b])) (.const (.agg #[.int .i64 c, .int .i64 d])) (.agg #[.int .i64 a, .int .i64 b]) (.agg #[.int .i64 c, .int .i64 d]); binOp .neq 83 (.agg #[.int .i64 a, .int .i64 b]) (.agg #[.int .i64 c, .int .i64 d]))))) := rfl
 rw [e0]
 unfold jQ
 rw [h1, dB, q3V]
 rfl
theorem qHZ {γ : Type} {h n : Nat} (J : Nat -> γ -> Prop) (f : Nat -> Nat -> γ -> γ) (hst : ∀ s d r, d < h -> r < n -> J (d * n + r) s -> J (d * n + r + 1) (f d r s)) {g : γ} (hg : J 0 g) :
 J (h * n) (zP (fun d s => zP (fun r s => f d r s) n 0 s) h 0 g) := by
 have hfold : ∀ (d : Nat), d < h -> ∀ (m r : Nat) (t : γ), r + m = n -> J (d * n + r) t -> J (d * n + n) (zP (fun r s => f d r s) m r t) := by
  intro d hd m
  induction m with
  | zero => intro r t e ht; have : r = n := by omega
            subst this; exact ht
  | succ m ih => intro r t hm ht; exact ih (r + 1) _ (by omega) (hst t d r hd (by omega) ht)
 have hall : ∀ (m d : Nat) (t : γ), d + m = h -> J (d * n) t -> J (h * n) (zP (fun d s => zP (fun r s => f d r s) n 0 s) m d t) := by
  intro m
  induction m with
  | zero => intro d t e ht; have : d = h := by omega
            subst this; exact ht
  | succ m ih => intro d t hm ht; exact ih (d + 1) _ (by omega) (by
     have := hfold d (by omega) n 0 t (by omega) ht
     rwa [<- Nat.succ_mul] at this)
 exact hall h 0 g (by omega) (by rw [Nat.zero_mul]; exact hg)
theorem qV7 {p : List (List Int)} {h n : Nat} (hp : Pic p h n) {R γ : Type} {K : γ -> Tree R} {v : Option R} (J : Nat -> γ -> Prop) {stp : γ -> (Int × Int) × List (List Int) -> Option (γ × Bool)} (f : Nat -> Nat -> γ -> γ) {g : γ} (hg : J 0 g)
 (hst : ∀ s d r, d < h -> r < n -> J (d * n + r) s -> stp s (((d : Int), (r : Int)), shf p h d r) = some (f d r s, true) ∧ J (d * n + r + 1) (f d r s))
 (hv : J (h * n) (zP (fun d s => zP (fun r s => f d r s) n 0 s) h 0 g) -> (K (zP (fun d s => zP (fun r s => f d r s) n 0 s) h 0 g)).run = v) : (Tree.bind (H141 p γ stp g) K).run = v := by
 have hh1 := hp.h1
 have hh2 := hp.h2
 have hn2 := hp.n2
 obtain ⟨r0, hr0, hl0⟩ := hp.at (show 0 < h by omega)
 have hpl : 0 < p.length := by rw [hp.len]; omega
 have hfold : ∀ (d : Nat), d < h -> ∀ (m r : Nat) (t : γ), r + m = n -> J (d * n + r) t -> J (d * n + n) (zP (fun r s => f d r s) m r t) := by
  intro d hd m
  induction m with
  | zero => intro r t e ht; have : r = n := by omega
            subst this; exact ht
  | succ m ih => intro r t hm ht; exact ih (r + 1) _ (by omega) (hst t d r hd (by omega) ht).2
 have key : H141 p γ stp g = some (zP (fun d s => zP (fun r s => f d r s) n 0 s) h 0 g) := by
  show (G141 p γ stp g).run = _
  unfold G141
  refine yK h (fun k s => (s, (k : Int))) (fun k s => J (k * n) s) (fun d s => zP (fun r s => f d r s) n 0 s) (fun s => Sum.inl (s, (h : Int))) g rfl (by rw [Nat.zero_mul]; exact hg) (fun d s hd hI => ?_) (fun s hI => ?_) fun hI => ?_
  ·have hd3 : (d : Int) < (p.length : Int) := by rw [hp.len]; omega
   refine ⟨?_, by
    have := hfold d hd n 0 s (by omega) hI
    rwa [<- Nat.succ_mul] at this⟩
   simp only [rC hd3, qP, rF hpl, qD, hr0]
   refine yK (R := (γ × Int) ⊕ _) n (fun r t => (t, (r : Int))) (fun r t => J (d * n + r) t) (fun r t => f d r t) (fun t => Sum.inl (t, (n : Int))) s rfl hI (fun r t hr hJ => ?_) (fun t hJ => ?_) fun hJ => ?_
   ·have hr3 : (r : Int) < (r0.length : Int) := by omega
    obtain ⟨h1, h2⟩ := hst t d r hd hr hJ
    refine ⟨?_, h2⟩
    simp only [rC hr3, qP, qW4 hp hd hr, qD, h1, wH (show r < 2 ^ 62 by omega)]
    rfl
   ·have : ¬ (n : Int) < (r0.length : Int) := by omega
    simp only [pV this, qF]
    rfl
   ·simp only [kZ, wH (show d < 2 ^ 62 by omega)]
    rfl
  ·have : ¬ (h : Int) < (p.length : Int) := by rw [hp.len]; exact Int.lt_irrefl _
   simp only [pV this, qF]
   rfl
  ·simp only [kZ, kT]
 rw [key, qD]
 exact hv (qHZ J f (fun s d r hd hr hj => (hst s d r hd hr hj).2) hg)
end Go.Proofs.YtpdlblofcdcikaaGreatDoor
