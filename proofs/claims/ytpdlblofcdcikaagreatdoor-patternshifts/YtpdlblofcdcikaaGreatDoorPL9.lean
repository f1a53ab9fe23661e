/- Periods and shifts; the law PatternShifts in plain words. Conditions: none. -/
import Derived.Test.YtpdlblofcdcikaaGreatDoorPL8
set_option linter.unusedSimpArgs false
set_option linter.unusedVariables false
set_option linter.unusedVariables false
set_option linter.unusedSimpArgs false
namespace Go.Proofs.YtpdlblofcdcikaaGreatDoor
open Go.Idl Go.Sv
theorem qBT {ρ : Type} (f : Nat -> Option ρ) : ∀ (m k : Nat), scan f (m + 1) k = (scan f m k).or (f (k + m))
 | 0, k => by simp [scan]; cases f k <;> rfl
 | m + 1, k => by
   have ih := qBT f m (k + 1)
   rw [scan, ih]
   rw [scan]
   cases f k with
   | some r => rfl
   | none =>
     simp only
     rw [show k + (m + 1) = k + 1 + m by omega]
def fOk (ok : Nat -> Bool) (d : Nat) : Option Nat := cond (ok d) (some d) none
def toI (t : Option Nat) (a : Int) : Int := match t with
 | some d => (d : Int)
 | none => a
def upS (ok : Nat -> Bool) (d : Nat) (a : Int) : Int := cond (ok d) (bif decide ((d : Int) < a) then (d : Int) else a) a
theorem qWY (ok : Nat -> Bool) : ∀ (m k : Nat) (a : Int), a <= (k : Int) -> zP (upS ok) m k a = a
 | 0, k, a, h => rfl
 | m + 1, k, a, h => by
   unfold zP
   have : upS ok k a = a := by
    unfold upS
    have : ¬ (k : Int) < a := by omega
    rw [pV this]
    cases ok k <;> rfl
   rw [this]
   exact qWY ok m (k + 1) a (by omega)
theorem qP6 (ok : Nat -> Bool) : ∀ (m k : Nat) (a : Int), ((k + m : Nat) : Int) <= a -> zP (upS ok) m k a = toI (scan (fOk ok) m k) a
 | 0, k, a, h => rfl
 | m + 1, k, a, h => by
   unfold zP scan fOk upS
   cases hk : ok k with
   | true =>
     have h1 : (k : Int) < a := by omega
     rw [rC h1]
     simp only [cond_true]
     exact qWY ok m (k + 1) k (by omega)
   | false =>
     simp only [cond_false]
     exact qP6 ok m (k + 1) a (by omega)
theorem qXX (ok : Nat -> Bool) (h : Nat) : ∀ (m k : Nat) (a : Int), k + m = h -> zP (fun k (a : Int) => cond (ok (h - k)) ((h - k : Nat) : Int) a) m k a = toI (scan (fOk ok) m 1) a
 | 0, k, a, e => rfl
 | m + 1, k, a, e => by
   unfold zP
   rw [qXX ok h m (k + 1) _ (by omega), qBT]
   have e2 : h - k = 1 + m := by omega
   rw [e2]
   cases hs : scan (fOk ok) m 1 with
   | some d => rfl
   | none =>
     unfold fOk
     cases ok (1 + m) <;> rfl
def qOT (ok : Nat -> Bool) (h : Nat) : Int := toI (scan (fOk ok) (h - 1) 1) (h : Int)
theorem qWW {ok ok' : Nat -> Bool} {h : Nat} (h1 : 1 <= h) (hl : ok' h = true) (hc : ∀ d, d < h -> ok' d = ok d) : toI (scan (fOk ok') h 1) (h : Int) = qOT ok h := by
 unfold qOT
 have e : h = (h - 1) + 1 := by omega
 have e1 : scan (fOk ok') h 1 = (scan (fOk ok') (h - 1) 1).or (some h) := by
  conv => lhs; rw [e]
  rw [qBT]
  congr 1
  unfold fOk
  rw [show 1 + (h - 1) = h by omega, hl]
  rfl
 rw [e1, qDC (g := fOk ok) fun i a b => by unfold fOk; rw [hc i (by omega)]]
 cases scan (fOk ok) (h - 1) 1 <;> rfl
def okD (p : List (List Int)) (h : Nat) (d : Nat) : Bool := decide (shf p h d 0 = p)
def okR (p : List (List Int)) (h : Nat) (r : Nat) : Bool := decide (shf p h 0 r = p)
def qFX (p : List (List Int)) (h d r : Nat) (s : Int × Int) : Int × Int :=
 cond (Nat.beq d 0 && Nat.beq r 0) s (cond (decide (shf p h d r = p)) (cond (Nat.beq r 0) (cond (Nat.beq d 0) (bif decide ((d : Int) < s.1) then (d : Int) else s.1, bif decide ((r : Int) < s.2) then (r : Int) else s.2) (bif decide ((d : Int) < s.1) then (d : Int) else s.1, s.2)) (cond (Nat.beq d 0) (s.1, bif decide ((r : Int) < s.2) then (r : Int) else s.2) s)) s)
theorem qUD {p : List (List Int)} {h d r : Nat} {s : Int × Int} (hd : d ≠ 0) (hr : r ≠ 0) : qFX p h d r s = s := by
 unfold qFX
 have e1 : Nat.beq d 0 = false := by cases hq : Nat.beq d 0 with | false => rfl | true => exact absurd (Nat.eq_of_beq_eq_true hq) hd
 have e2 : Nat.beq r 0 = false := by cases hq : Nat.beq r 0 with | false => rfl | true => exact absurd (Nat.eq_of_beq_eq_true hq) hr
 rw [e1, e2]
 cases decide (shf p h d r = p) <;> rfl
theorem q1H {p : List (List Int)} {h d : Nat} {s : Int × Int} (hd : d ≠ 0) : qFX p h d 0 s = (upS (okD p h) d s.1, s.2) := by
 unfold qFX upS okD
 have e1 : Nat.beq d 0 = false := by cases hq : Nat.beq d 0 with | false => rfl | true => exact absurd (Nat.eq_of_beq_eq_true hq) hd
 rw [e1]
 cases decide (shf p h d 0 = p) <;> rfl
theorem q17 {p : List (List Int)} {h r : Nat} {s : Int × Int} (hr : r ≠ 0) : qFX p h 0 r s = (s.1, upS (okR p h) r s.2) := by
 unfold qFX upS okR
 have e1 : Nat.beq r 0 = false := by cases hq : Nat.beq r 0 with | false => rfl | true => exact absurd (Nat.eq_of_beq_eq_true hq) hr
 rw [e1]
 cases decide (shf p h 0 r = p) <;> rfl
theorem qL0 {p : List (List Int)} {h : Nat} : ∀ (m k : Nat) (s : Int × Int), 1 <= k -> zP (fun r s => qFX p h 0 r s) m k s = (s.1, zP (upS (okR p h)) m k s.2)
 | 0, k, s, hk => rfl
 | m + 1, k, s, hk => by
   unfold zP
   rw [q17 (by omega), qL0 m (k + 1) _ (by omega)]
theorem qLO {p : List (List Int)} {h d : Nat} (hd : d ≠ 0) : ∀ (m k : Nat) (s : Int × Int), 1 <= k -> zP (fun r s => qFX p h d r s) m k s = s
 | 0, k, s, hk => rfl
 | m + 1, k, s, hk => by
   unfold zP
   rw [qUD hd (by omega), qLO hd m (k + 1) _ (by omega)]
theorem qMZ {p : List (List Int)} {h n : Nat} (hn : 1 <= n) : ∀ (m k : Nat) (s : Int × Int), 1 <= k -> zP (fun d s => zP (fun r s => qFX p h d r s) n 0 s) m k s = (zP (upS (okD p h)) m k s.1, s.2)
 | 0, k, s, hk => rfl
 | m + 1, k, s, hk => by
   have e : zP (fun r s => qFX p h k r s) n 0 s = (upS (okD p h) k s.1, s.2) := by
    obtain ⟨n', rfl⟩ : ∃ n', n = n' + 1 := ⟨n - 1, by omega⟩
    unfold zP
    rw [q1H (by omega), qLO (by omega) n' 1 _ (Nat.le_refl _)]
   show zP (fun d s => zP (fun r s => qFX p h d r s) n 0 s) m (k + 1) (zP (fun r s => qFX p h k r s) n 0 s) = (zP (upS (okD p h)) m (k + 1) (upS (okD p h) k s.1), s.2)
   rw [e, qMZ hn m (k + 1) _ (by omega)]
theorem qYL {p : List (List Int)} {h n : Nat} (hh : 1 <= h) (hn : 1 <= n) : zP (fun d s => zP (fun r s => qFX p h d r s) n 0 s) h 0 ((h : Int), (n : Int)) = (qOT (okD p h) h, qOT (okR p h) n) := by
 obtain ⟨h', rfl⟩ : ∃ h', h = h' + 1 := ⟨h - 1, by omega⟩
 obtain ⟨n', rfl⟩ : ∃ n', n = n' + 1 := ⟨n - 1, by omega⟩
 have e0 : zP (fun r s => qFX p (h' + 1) 0 r s) (n' + 1) 0 (((h' + 1 : Nat) : Int), ((n' + 1 : Nat) : Int)) = (((h' + 1 : Nat) : Int), qOT (okR p (h' + 1)) (n' + 1)) := by
  show zP (fun r s => qFX p (h' + 1) 0 r s) n' 1 (((h' + 1 : Nat) : Int), ((n' + 1 : Nat) : Int)) = _
  rw [qL0 n' 1 _ (Nat.le_refl _), qP6 _ n' 1 _ (by omega)]
  rfl
 show zP (fun d s => zP (fun r s => qFX p (h' + 1) d r s) (n' + 1) 0 s) h' 1 (zP (fun r s => qFX p (h' + 1) 0 r s) (n' + 1) 0 (((h' + 1 : Nat) : Int), ((n' + 1 : Nat) : Int))) = _
 rw [e0, qMZ (by omega) h' 1 _ (Nat.le_refl _), qP6 _ h' 1 _ (by omega)]
 rfl
theorem q3G (d : Nat) : ((d : Int) == 0) = Nat.beq d 0 := by
 cases d with
 | zero => rfl
 | succ d =>
   have : ((d + 1 : Nat) : Int) ≠ 0 := by omega
   rw [beq_eq_false_iff_ne.2 this]; rfl
theorem q5D {p : List (List Int)} {h n : Nat} (hp : Pic p h n) (hc : chk p = 0) : H73 p = some ((qOT (okD p h) h, qOT (okR p h) n), 0) := by
 show (G73 p).run = _
 unfold G73
 have hz : ((0 : Int) != 0) = false := rfl
 obtain ⟨r0, hr0, hl0⟩ := hp.at (show 0 < h from hp.h1)
 have hpl : 0 < p.length := by rw [hp.len]; exact hp.h1
 rw [qW2 (fun _ r hr => hp.lt.2 r hr), hc, qD, hz, qF, rF hpl, qD, hr0, qD, hp.len, hl0]
 refine qZG hp (fun _ => True) (fun d r s => qFX p h d r s) trivial (fun s d r hd hr _ => ⟨?_, trivial⟩) fun _ => ?_
 ·have hq := qAO hp d r
  have ee : decide (p = shf p h d r) = decide (shf p h d r = p) := by
   by_cases q : p = shf p h d r
   ·rw [decide_eq_true q, decide_eq_true q.symm]
   ·have : ¬ shf p h d r = p := fun h => q h.symm
    rw [decide_eq_false q, decide_eq_false this]
  simp only [pq, qD, q0U hp.lt.1 hp.lt.2, q3G, ee]
  unfold qFX
  cases Nat.beq d 0 <;> cases Nat.beq r 0 <;> cases decide (shf p h d r = p) <;> rfl
 ·rw [qYL hp.h1 hp.n1]
  rfl
def q39 (p : List (List Int)) (h : Nat) (d : Nat) : Bool := decide (shf p h (mN (d : Int) h) 0 = p)
def q4I (p : List (List Int)) (h n : Nat) (r : Nat) : Bool := decide (shf p h 0 (mN (r : Int) n) = p)
theorem qQ2 {h : Nat} (hh : 1 <= h) : mN (h : Int) h = 0 := by
 unfold mN
 rw [Int.emod_self]; rfl
theorem q50 {p : List (List Int)} {h n : Nat} (hp : Pic p h n) : H78 p = some (qOT (okD p h) h, qOT (okR p h) n) := by
 show (G78 p).run = _
 unfold G78
 have hh1 := hp.h1
 have hh2 := hp.h2
 have hn1 := hp.n1
 have hn2 := hp.n2
 obtain ⟨r0, hr0, hl0⟩ := hp.at (show 0 < h from hp.h1)
 have hpl : 0 < p.length := by rw [hp.len]; exact hp.h1
 rw [rF hpl, qD, hr0, qD, hp.len, hl0]
 have m0 : ∀ k : Nat, 1 <= k -> mN 0 k = 0 := fun k hk => mH (k := 0) (by omega)
 refine yK h (fun k (s : Int) => (((h - k : Nat) : Int), s, (n : Int))) (fun _ _ => True) (fun k s => cond (q39 p h (h - k)) ((h - k : Nat) : Int) s) (fun s => Sum.inl (0, s, (n : Int))) (h : Int) (by simp) trivial (fun k s hk _ => ⟨?_, trivial⟩) (fun s _ => ?_) fun _ => ?_
 ·have h1 : (1 : Int) <= ((h - k : Nat) : Int) := by omega
  have hw : IntKind.i64.wrap (((h - k : Nat) : Int) - 1) = ((h - (k + 1) : Nat) : Int) := by rw [wQ (by omega) (by omega)]; omega
  have hq := qAO hp (mN ((h - k : Nat) : Int) h) 0
  simp only [decide_eq_true h1, qP, q2G hp, m0 n hn1, qD, q2B hq.lt.1 hq.lt.2, hw]
  show _ = some (Sum.inl (((h - (k + 1) : Nat) : Int), cond (decide (shf p h (mN ((h - k : Nat) : Int) h) 0 = p)) ((h - k : Nat) : Int) s, (n : Int)))
  cases decide (shf p h (mN ((h - k : Nat) : Int) h) 0 = p) <;> rfl
 ·have h1 : ¬ (1 : Int) <= ((h - h : Nat) : Int) := by omega
  simp only [decide_eq_false h1, qF]
  have e : h - h = 0 := by omega
  rw [e]
  rfl
 ·rw [qXX (q39 p h) h h 0 _ (by omega), qWW (ok := okD p h) hh1 (by
   show decide (shf p h (mN (h : Int) h) 0 = p) = true
   rw [qQ2 hh1, qMJ hp]; simp) fun d hd => by
   show decide (shf p h (mN (d : Int) h) 0 = p) = _
   rw [mH hd]; rfl]
  simp only [kZ, rF hpl, qD, hr0, hl0]
  refine yK n (fun k (s : Int) => (((n - k : Nat) : Int), qOT (okD p h) h, s)) (fun _ _ => True) (fun k s => cond (q4I p h n (n - k)) ((n - k : Nat) : Int) s) (fun s => Sum.inl (0, qOT (okD p h) h, s)) (n : Int) (by simp) trivial (fun k s hk _ => ⟨?_, trivial⟩) (fun s _ => ?_) fun _ => ?_
  ·have h1 : (1 : Int) <= ((n - k : Nat) : Int) := by omega
   have hw : IntKind.i64.wrap (((n - k : Nat) : Int) - 1) = ((n - (k + 1) : Nat) : Int) := by rw [wQ (by omega) (by omega)]; omega
   have hq := qAO hp 0 (mN ((n - k : Nat) : Int) n)
   simp only [decide_eq_true h1, qP, q2G hp, m0 h hh1, qD, q2B hq.lt.1 hq.lt.2, hw]
   show _ = some (Sum.inl (((n - (k + 1) : Nat) : Int), qOT (okD p h) h, cond (decide (shf p h 0 (mN ((n - k : Nat) : Int) n) = p)) ((n - k : Nat) : Int) s))
   cases decide (shf p h 0 (mN ((n - k : Nat) : Int) n) = p) <;> rfl
  ·have h1 : ¬ (1 : Int) <= ((n - n : Nat) : Int) := by omega
   simp only [decide_eq_false h1, qF]
   have e : n - n = 0 := by omega
   rw [e]
   rfl
  ·rw [qXX (q4I p h n) n n 0 _ (by omega), qWW (ok := okR p h) hn1 (by
    show decide (shf p h 0 (mN (n : Int) n) = p) = true
    rw [qQ2 hn1, qMJ hp]; simp) fun d hd => by
    show decide (shf p h 0 (mN (d : Int) n) = p) = _
    rw [mH hd]; rfl]
   rfl
def shF (p : List (List Int)) (h d r : Nat) (s : List (Int × Int)) : List (Int × Int) := cond (decide (shf p h d r = p)) (s ++ [((d : Int), (r : Int))]) s
def shs (p : List (List Int)) (h n : Nat) : List (Int × Int) := zP (fun d s => zP (fun r s => shF p h d r s) n 0 s) h 0 []
theorem qFZ {p : List (List Int)} {h d r k : Nat} {s : List (Int × Int)} (hs : s.length <= k) : (shF p h d r s).length <= k + 1 := by
 unfold shF
 cases decide (shf p h d r = p) with
 | true => simp; exact hs
 | false => simp; omega
theorem q5M {p : List (List Int)} {h n : Nat} (hp : Pic p h n) (hc : chk p = 0) : H74 p = some (shs p h n, 0) := by
 show (G74 p).run = _
 unfold G74
 have hz : ((0 : Int) != 0) = false := rfl
 have hh2 := hp.h2
 have hn2 := hp.n2
 rw [qW2 (fun _ r hr => hp.lt.2 r hr), hc, qD, hz, qF]
 refine qV7 hp (fun k s => s.length <= k) (fun d r s => shF p h d r s) (by simp) (fun s d r hd hr hJ => ⟨?_, qFZ hJ⟩) fun _ => ?_
 ·have ee : decide (p = shf p h d r) = decide (shf p h d r = p) := by
   by_cases q : p = shf p h d r
   ·rw [decide_eq_true q, decide_eq_true q.symm]
   ·have : ¬ shf p h d r = p := fun h => q h.symm
    rw [decide_eq_false q, decide_eq_false this]
  have hb : d * n <= 24 * 24 := Nat.mul_le_mul (by omega) hn2
  have hble : ((s.length + [((d : Int), (r : Int))].length).ble 1048576) = true := Nat.ble_eq_true_of_le (by simp; omega)
  simp only [q0U hp.lt.1 hp.lt.2, qD, ee, hble]
  unfold shF
  cases decide (shf p h d r = p) <;> rfl
 ·rfl
theorem q47 {p : List (List Int)} {h n : Nat} (hp : Pic p h n) : H76 p = some (shs p h n) := by
 show (G76 p).run = _
 unfold G76
 have hh1 := hp.h1
 have hh2 := hp.h2
 have hn2 := hp.n2
 obtain ⟨r0, hr0, hl0⟩ := hp.at (show 0 < h from hp.h1)
 have hpl : 0 < p.length := by rw [hp.len]; exact hp.h1
 refine yK h (fun k s => ((k : Int), s)) (fun k (s : List (Int × Int)) => s.length <= k * n) (fun d s => zP (fun r s => shF p h d r s) n 0 s) (fun s => Sum.inl ((h : Int), s)) [] rfl (by simp) (fun d s hd hI => ?_) (fun s hI => ?_) fun hI => ?_
 ·have hd3 : (d : Int) < (p.length : Int) := by rw [hp.len]; omega
  have hb : d * n <= 24 * 24 := Nat.mul_le_mul (by omega) hn2
  have hfold : ∀ (m r : Nat) (t : List (Int × Int)), r + m = n -> t.length <= d * n + r -> (zP (fun r s => shF p h d r s) m r t).length <= d * n + n := by
   intro m
   induction m with
   | zero => intro r t e ht; unfold zP; omega
   | succ m ih => intro r t e ht; exact ih (r + 1) _ (by omega) (qFZ ht)
  refine ⟨?_, by rw [Nat.succ_mul]; exact hfold n 0 s (by omega) (by omega)⟩
  simp only [rC hd3, qP]
  refine yK (R := (Int × List (Int × Int)) ⊕ _) n (fun r t => ((r : Int), t)) (fun r (t : List (Int × Int)) => t.length <= d * n + r) (fun r t => shF p h d r t) (fun t => Sum.inl ((n : Int), t)) s rfl hI (fun r t hr hJ => ⟨?_, qFZ hJ⟩) (fun t hJ => ?_) fun hJ => ?_
  ·have hr3 : (r : Int) < (r0.length : Int) := by omega
   have hq := qAO hp d r
   have hble : ((t.length + [((d : Int), (r : Int))].length).ble 1048576) = true := Nat.ble_eq_true_of_le (by simp; omega)
   simp only [rF hpl, qD, hr0, rC hr3, qP, q3I hp hd hr, q2B hq.lt.1 hq.lt.2, hble, wH (show r < 2 ^ 62 by omega)]
   unfold shF
   cases decide (shf p h d r = p) <;> rfl
  ·have : ¬ (n : Int) < (r0.length : Int) := by omega
   simp only [rF hpl, qD, hr0, pV this, qF]
   rfl
  ·simp only [kZ, wH (show d < 2 ^ 62 by omega)]
   rfl
 ·have : ¬ (h : Int) < (p.length : Int) := by rw [hp.len]; exact Int.lt_irrefl _
  simp only [pV this, qF]
  rfl
 ·simp only [kZ, kT]
  rfl
theorem q38 {a b : List Int} {e f : Int} (ha : a.length < 2 ^ 62) (he : e = f) (hab : a = b) : H33 (a, e, b, f) = some true := by
 show (G33 a e b f).run = _
 unfold G33
 subst he hab
 have h1 : yE (e == e) true = true := by simp [yE]
 rw [h1, qP, q3S ha, qD, kT]
 simp
end Go.Proofs.YtpdlblofcdcikaaGreatDoor
