/- The law PatternShifts in plain words. Conditions: none. -/
import Derived.Test.YtpdlblofcdcikaaGreatDoorPL9
set_option linter.unusedSimpArgs false
set_option linter.unusedVariables false
set_option linter.unusedVariables false
set_option linter.unusedSimpArgs false
namespace Go.Proofs.YtpdlblofcdcikaaGreatDoor
open Go.Idl Go.Sv
theorem qRB {l : List (Int × Int)} (hl : l.length < 2 ^ 62) {K : (Int ⊕ Bool ⊕ Nat × Int) -> Tree Bool} {v : Option Bool} (hv : (K (Sum.inl (l.length : Int))).run = v) :
 (Tree.bind (zZ (fun (s10 : Int) => Tree.ite (decide (s10 < (↑l.length : Int))) (Tree.bind (idx l.length s10) fun (x11 : Nat) => Tree.bind l[x11]? fun (x12 : Int × Int) => Tree.bind (idx l.length s10) fun (x13 : Nat) => Tree.bind l[x13]? fun (x14 : Int × Int) => Tree.bind (Ty.bool.decPO (gM Tryz.prog BinOp.neq 83 83 (fvv (Value.agg #[Value.int IntKind.i64 x12.fst, Value.int IntKind.i64 x12.snd])) (fvv (Value.agg #[Value.int IntKind.i64 x14.fst, Value.int IntKind.i64 x14.snd])) [])) fun (x15 : Bool) => Tree.ite x15 (Tree.ret (Sum.inr (Sum.inr (Sum.inl false)))) (Tree.ret (Sum.inl (IntKind.i64.wrap (s10 + 1))))) (Tree.ret (Sum.inr (Sum.inl s10)))) 0) K).run = v := by
 refine jR (ρ := Unit) l.length (fun _ => none) (fun _ => Sum.inl 0) (Sum.inl (l.length : Int)) (fun k hk => ?_) ?_ ?_
 ·have hk3 : (k : Int) < (l.length : Int) := by omega
  obtain ⟨x, hx, _⟩ := xH hk
  have e : (!(x.fst == x.fst && x.snd == x.snd)) = false := by simp
  simp only [rC hk3, qP, jF hk, qD, hx, pqn, e, qF, wH (show k < 2 ^ 62 by omega)]
  rfl
 ·simp only [pV (Int.lt_irrefl _), qF]
  rfl
 ·have : scan (fun _ => (none : Option Unit)) l.length 0 = none := wS.2 fun _ _ _ => rfl
  rw [this]
  exact hv
theorem qXP {p : List (List Int)} {h n : Nat} : (shs p h n).length <= h * n :=
 qHZ (fun k (s : List (Int × Int)) => s.length <= k) (fun d r s => shF p h d r s) (fun s d r _ _ hs => qFZ hs) (by simp)
theorem qT9 {p : List (List Int)} (hc : chk p = 0) : (q2C p).length < 2 ^ 62 := by
 unfold q2C
 rw [qET, List.length_replicate]
 have h1 := (qSN p.flatten 0).1
 have h2 := qZX p.flatten 0 (by decide) fun c h => (rY hc c h).2
 omega
theorem qHS (p : List (List Int)) (d r : Int) : H13 (p, d, r) = some true := by
 show (G13 p d r).run = _
 unfold G13
 obtain ⟨s1, e1, f1⟩ := q5V (p := p)
 rw [e1, qD]
 cases s1 with
 | false => rfl
 | true =>
   have hnt : (!true) = false := rfl
   rw [hnt, qF]
   have g1 : p.length <= 24 -> ∀ x ∈ p, x.length < 2 ^ 62 := fun hl x hx => by
    obtain ⟨i, hi, rfl⟩ := List.getElem_of_mem hx
    have := (f1 rfl).2 i _ (by omega) (List.getElem?_eq_getElem hi)
    omega
   have w1 : ∀ x : Int, yE (x == x) true = true := fun x => by simp [yE]
   have w3 : yE true true = true := rfl
   by_cases hc : chk p = 0
   ·obtain ⟨n, hp⟩ := qYE hc
    have hz : ((0 : Int) != 0) = false := rfl
    have hq := qAO hp (mN d p.length) (mN r n)
    have e72 : H72 (p, d, r) = some (shf p p.length (mN d p.length) (mN r n), 0) := by
     show (G72 p d r).run = _
     unfold G72
     rw [qW2 g1, hc, qD, hz, qF, q1J hp, qD, kT]
    have hl : (shs p p.length n).length <= 24 * 24 := Nat.le_trans qXP (Nat.mul_le_mul hp.h2 hp.n2)
    rw [e72, qD, q5D hp hc, qD, q5M hp hc, qD, q42 hp hc, qD, q37, hc, qD, hz, qF, q47 hp, qD]
    have w0 : yE false false = true := rfl
    have hlen : (((shs p p.length n).length : Int) != ((shs p p.length n).length : Int)) = false := by simp
    rw [w0, qP, hlen, qF]
    refine qRB (by omega) ?_
    rw [kZ, q2G hp, qD, q4D hq.lt.1 hq.lt.2 rfl rfl, qD, w3, qP, w1, qP, q50 hp, qD]
    simp only [pq, qD, beq_self_eq_true, Bool.and_self, w3, qP, q5Y hp hc, q38 (qT9 hc) rfl rfl, kT]
   ·have hz : (chk p != 0) = true := by simpa using hc
    have e72 : H72 (p, d, r) = some ([], chk p) := by
     show (G72 p d r).run = _
     unfold G72
     rw [qW2 g1, qD, hz, qP, kT]
    have e73 : H73 p = some ((0, 0), chk p) := by
     show (G73 p).run = _
     unfold G73
     rw [qW2 g1, qD, hz, qP, kT]
    have e74 : H74 p = some ([], chk p) := by
     show (G74 p).run = _
     unfold G74
     rw [qW2 g1, qD, hz, qP, kT]
    have e75 : H75 p = some ([], chk p) := by
     show (G75 p).run = _
     unfold G75
     rw [qW2 g1, qD, hz, qP, kT]
    rw [e72, qD, e73, qD, e74, qD, e75, qD, q37, qD, hz, qP, q4D (by simp) (by simp) rfl rfl, qD, w3, qP, w1, qP]
    simp only [pq, qD, beq_self_eq_true, Bool.and_self, w3, qP, w1]
    rw [q38 (by simp) rfl rfl, qD, w3, qP]
    rfl
end Go.Proofs.YtpdlblofcdcikaaGreatDoor
