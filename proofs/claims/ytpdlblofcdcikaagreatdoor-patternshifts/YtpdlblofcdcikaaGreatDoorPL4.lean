/- Shifted pictures. Conditions: none. -/
import Derived.Test.YtpdlblofcdcikaaGreatDoorPL3
set_option linter.unusedSimpArgs false
set_option linter.unusedVariables false
set_option linter.unusedVariables false
set_option linter.unusedSimpArgs false
namespace Go.Proofs.YtpdlblofcdcikaaGreatDoor
open Go.Idl Go.Sv
def mN (a : Int) (n : Nat) : Nat := (a % (n : Int)).toNat
theorem pY {a : Int} {n : Nat} (hn : 1 <= n) : mN a n < n := by
 unfold mN
 have h1 := Int.emod_nonneg a (show (n : Int) ≠ 0 by omega)
 have h2 := Int.emod_lt_of_pos a (show (0 : Int) < n by omega)
 omega
theorem mH {k n : Nat} (h : k < n) : mN (k : Int) n = k := by
 unfold mN
 rw [Int.emod_eq_of_lt (by omega) (by omega)]
 simp
theorem q1W {k n : Nat} {a : Int} (h1 : -(n : Int) <= a) (h2 : a < 0) (e : a + n = (k : Int)) : mN a n = k := by
 unfold mN
 rw [<- Int.add_emod_right, e, Int.emod_eq_of_lt (by omega) (by omega)]
 simp
theorem qUT {a : Int} {n : Nat} (hn : 1 <= n) (hn2 : n <= 1000) : H160 (a, (n : Int)) = some ((mN a n : Nat) : Int) := by
 show (G160 a (n : Int)).run = _
 unfold G160
 have hne : (n : Int) ≠ 0 := by omega
 have r1 : ∀ x : Int, qVK x (n : Int) = some (x.tmod n) := fun x => by unfold qVK; rw [if_neg hne]
 rw [r1, qD]
 have b1 : a.tmod n < n := Int.tmod_lt_of_pos a (by omega)
 have b2 : -(n : Int) < a.tmod n := by
  have := Int.lt_tmod_of_pos a (show (0 : Int) < n by omega)
  omega
 rw [wQ (by omega) (by omega), r1, qD, kT]
 congr 1
 have b3 : 0 <= a.tmod n + n := by omega
 rw [Int.tmod_eq_emod_of_nonneg b3, Int.add_emod_right]
 have b4 : a.tmod n % n = a % n := by
  have := Int.tmod_add_mul_tdiv a n
  conv => rhs; rw [<- this]
  rw [Int.add_mul_emod_self_left]
 rw [b4]
 exact (Int.toNat_of_nonneg (Int.emod_nonneg a hne)).symm
theorem qU3 {a : Int} {n : Nat} (hn : 1 <= n) (hn2 : n <= 1000) : H138 (a, (n : Int)) = some ((mN a n : Nat) : Int) := (show H138 (a, (n : Int)) = H160 (a, (n : Int)) from rfl).trans (qUT hn hn2)
def rot (l : List Int) (r : Nat) : List Int := l.drop (l.length - r) ++ l.take (l.length - r)
theorem qQ3 {l : List Int} {r : Nat} : (rot l r).length = l.length := by
 unfold rot
 simp
theorem qZO {l : List Int} {r c : Nat} (hr : r < l.length) (hc : c < l.length) : (rot l r)[c]? = l[mN ((c : Int) - (r : Int)) l.length]? := by
 unfold rot
 by_cases h : c < r
 ·rw [List.getElem?_append_left (by simp; omega), List.getElem?_drop, q1W (k := l.length - r + c) (by omega) (by omega) (by omega)]
 ·rw [List.getElem?_append_right (by simp; omega)]
  have e : (c : Int) - (r : Int) = ((c - r : Nat) : Int) := by omega
  rw [e, mH (by omega), List.length_drop, List.getElem?_take, if_pos (by omega)]
  congr 1
  omega
theorem qUH (l : List Int) : rot l 0 = l := by simp [rot]
def shf (p : List (List Int)) (h d r : Nat) : List (List Int) := (List.range h).map fun (i : Nat) => rot (p.getD (mN ((i : Int) - (d : Int)) h) []) r
theorem qIL {α : Type} (f : Nat -> α) : ∀ (m k : Nat) (s : List α), zP (fun k s => s ++ [f k]) m k s = s ++ (List.range' k m).map f
 | 0, k, s => by simp [zP]
 | m + 1, k, s => by
   unfold zP
   rw [qIL f m (k + 1), List.range'_succ]
   simp
theorem oI {α : Type} (f : Nat -> α) (m : Nat) : zP (fun k s => s ++ [f k]) m 0 [] = (List.range m).map f := by
 rw [qIL, List.range_eq_range']
 rfl
theorem q3E {x : List Int} {n r : Nat} (hx : x.length = n) (hr : r <= n) : rT (rT (List.replicate n 0) x r (x.length.min (n - r))) (List.take (x.length - (n - r)) (List.drop (n - r) x)) 0 ((List.take (x.length - (n - r)) (List.drop (n - r) x)).length.min n) = rot x r := by
 subst hx
 have e1 : (x.length.min (x.length - r)) = x.length - r := by show min _ _ = _; omega
 have e2 : x.length - (x.length - r) = r := by omega
 have e3 : (List.take r (List.drop (x.length - r) x)).length = r := by simp; omega
 have e4 : List.take r (List.drop (x.length - r) x) = List.drop (x.length - r) x := by
  rw [List.take_of_length_le]; simp; omega
 have e5 : (r.min x.length) = r := by show min _ _ = _; omega
 rw [e1, e2, e3, e5, e4]
 unfold rT rot
 simp only [List.take_zero, List.nil_append, Nat.zero_add]
 have e6 : List.take r (List.drop (x.length - r) x) = List.drop (x.length - r) x := e4
 rw [e6]
 congr 1
 have e7 : r + (x.length - r) = x.length := by omega
 rw [e7, List.drop_of_length_le (l := List.replicate x.length 0) (by simp), List.append_nil]
 rw [List.drop_append_of_le_length (by simp; omega)]
 rw [List.drop_of_length_le (by simp; omega), List.nil_append]
theorem q1J {p : List (List Int)} {h n : Nat} (hp : Pic p h n) {d r : Int} : H128 (p, d, r) = some (shf p h (mN d h) (mN r n)) := by
 show (G128 p d r).run = _
 unfold G128
 have hlen := hp.len
 have hh := hp.h1
 have hh2 := hp.h2
 have hn1 := hp.n1
 have hn2 := hp.n2
 subst hlen
 obtain ⟨r0, hr0, m0⟩ := xH (show 0 < p.length by omega)
 have hl0 := hp.row r0 m0
 have hdl := pY (a := d) hh
 have hrl := pY (a := r) hn1
 rw [rF (by omega), qD, hr0, qD, qUT hh (by omega), qD, hl0, qUT hn1 (by omega), qD]
 have hmk : mkN (n : Int) = some n := by
  unfold mkN
  rw [if_pos ⟨by omega, by omega⟩]
  simp
 refine yK p.length (fun k s => ((k : Int), s)) (fun k s => s.length = k) (fun k s => s ++ [rot (p.getD (mN ((k : Int) - (mN d p.length : Nat)) p.length) []) (mN r n)]) (fun s => Sum.inl ((p.length : Int), s)) [] rfl rfl (fun k s hk hI => ?_) (fun s hI => ?_) fun hI => ?_
 ·have hk3 : (k : Int) < (p.length : Int) := by omega
  obtain ⟨x, hx, mx⟩ := xH (pY (a := (k : Int) - (mN d p.length : Nat)) hh)
  have hxl := hp.row x mx
  have hw : IntKind.i64.wrap ((k : Int) - (mN d p.length : Nat)) = (k : Int) - (mN d p.length : Nat) := wQ (by omega) (by omega)
  have hw2 : IntKind.i64.wrap ((n : Int) - (mN r n : Nat)) = ((n - mN r n : Nat) : Int) := by rw [wQ (by omega) (by omega)]; omega
  have hble : ((s.length + 1).ble 1048576) = true := Nat.ble_eq_true_of_le (by omega)
  refine ⟨?_, by simp [hI]⟩
  simp only [rC hk3, qP, hw, qUT hh (show p.length <= 1000 by omega), qD, jF (pY (a := (k : Int) - (mN d p.length : Nat)) hh), hx, hmk, qQV (show mN r n <= n by omega), hw2, hxl, qQV (show n - mN r n <= n by omega), getD_at hx, List.length_singleton, hble, wH (show k < 2 ^ 62 by omega)]
  have pa := q3E hxl (show mN r n <= n by omega)
  rw [hxl] at pa
  by_cases h0 : mN r n = 0
  ·rw [h0] at pa ⊢
   have : Nat.beq 0 0 = true := rfl
   rw [this, qP]
   rw [Nat.sub_zero] at pa ⊢
   rw [pa]
   rfl
  ·have e0 : Nat.beq (mN r n) 0 = false := by
    cases hq : Nat.beq (mN r n) 0 with
    | false => rfl
    | true => exact absurd (Nat.eq_of_beq_eq_true hq) h0
   have e1 : Nat.beq (mN r n) n = false := by
    cases hq : Nat.beq (mN r n) n with
    | false => rfl
    | true => have := Nat.eq_of_beq_eq_true hq; omega
   rw [e0, qF, e1, qF, pa]
   rfl
 ·simp only [pV (Int.lt_irrefl _), qF]
  rfl
 ·simp only [kZ, kT]
  rw [oI]
  rfl
theorem qAO {p : List (List Int)} {h n : Nat} (hp : Pic p h n) (d r : Nat) : Pic (shf p h d r) h n := by
 refine ⟨by simp [shf], fun x hx => ?_, hp.h1, hp.h2, hp.n1, hp.n2⟩
 obtain ⟨i, hi, rfl⟩ := List.mem_map.1 hx
 rw [qQ3]
 have hl := hp.len
 obtain ⟨y, hy, my⟩ := xH (show mN ((i : Int) - (d : Int)) h < p.length by rw [hl]; exact pY hp.h1)
 rw [getD_at hy]
 exact hp.row y my
theorem q2G {p : List (List Int)} {h n : Nat} (hp : Pic p h n) {d r : Int} : H77 (p, d, r) = some (shf p h (mN d h) (mN r n)) := by
 show (G77 p d r).run = _
 unfold G77
 have hlen := hp.len
 have hh := hp.h1
 have hh2 := hp.h2
 have hn1 := hp.n1
 have hn2 := hp.n2
 subst hlen
 obtain ⟨r0, hr0, m0⟩ := xH (show 0 < p.length by omega)
 have hl0 := hp.row r0 m0
 have hdl := pY (a := d) hh
 have hrl := pY (a := r) hn1
 rw [rF (by omega), qD, hr0, qD, qU3 hh (by omega), qD, hl0, qU3 hn1 (by omega), qD]
 refine yK p.length (fun k s => ((k : Int), s)) (fun k s => s.length = k) (fun k s => s ++ [rot (p.getD (mN ((k : Int) - (mN d p.length : Nat)) p.length) []) (mN r n)]) (fun s => Sum.inl ((p.length : Int), s)) [] rfl rfl (fun k s hk hI => ?_) (fun s hI => ?_) fun hI => ?_
 ·have hk3 : (k : Int) < (p.length : Int) := by omega
  obtain ⟨x, hx, mx⟩ := xH (pY (a := (k : Int) - (mN d p.length : Nat)) hh)
  have hxl := hp.row x mx
  have hw : IntKind.i64.wrap ((k : Int) - (mN d p.length : Nat)) = (k : Int) - (mN d p.length : Nat) := wQ (by omega) (by omega)
  have hble : ((s.length + 1).ble 1048576) = true := Nat.ble_eq_true_of_le (by omega)
  refine ⟨?_, by simp [hI]⟩
  simp only [rC hk3, qP]
  refine yK (R := (Int × List (List Int)) ⊕ _) n (fun c s => ((c : Int), s)) (fun c s => s.length = c) (fun c s => s ++ [x.getD (mN ((c : Int) - (mN r n : Nat)) n) 0]) (fun s => Sum.inl ((n : Int), s)) [] rfl rfl (fun c t hc hJ => ?_) (fun t hJ => ?_) fun hJ => ?_
  ·have hc3 : (c : Int) < (n : Int) := by omega
   obtain ⟨y, hy, my⟩ := xH (show mN ((c : Int) - (mN r n : Nat)) n < x.length by rw [hxl]; exact pY hn1)
   have hw2 : IntKind.i64.wrap ((c : Int) - (mN r n : Nat)) = (c : Int) - (mN r n : Nat) := wQ (by omega) (by omega)
   have hble2 : ((t.length + 1).ble 1048576) = true := Nat.ble_eq_true_of_le (by omega)
   refine ⟨?_, by simp [hJ]⟩
   simp only [rC hc3, qP, hw, qU3 hh (show p.length <= 1000 by omega), qD, jF (pY (a := (k : Int) - (mN d p.length : Nat)) hh), hx, hw2,
    qU3 hn1 (show n <= 1000 by omega), hxl, jF (pY (a := (c : Int) - (mN r n : Nat)) hn1), hy, getD_at hy, List.length_singleton, hble2, wH (show c < 2 ^ 62 by omega)]
   rfl
  ·simp only [pV (Int.lt_irrefl _), qF]
   rfl
  ·have hrow : (List.range n).map (fun (c : Nat) => x.getD (mN ((c : Int) - (mN r n : Nat)) n) 0) = rot x (mN r n) := by
    apply List.ext_getElem?
    intro c
    by_cases hc : c < n
    ·rw [qZO (by omega) (by omega), hxl, List.getElem?_map, List.getElem?_range hc]
     obtain ⟨y, hy, _⟩ := xH (show mN ((c : Int) - (mN r n : Nat)) n < x.length by rw [hxl]; exact pY hn1)
     rw [hy]
     show some (x.getD (mN ((c : Int) - (mN r n : Nat)) n) 0) = some y
     rw [getD_at hy]
    ·rw [List.getElem?_eq_none (by simp; omega), List.getElem?_eq_none (by rw [qQ3]; omega)]
   rw [oI, hrow]
   simp only [kZ, List.length_singleton, hble, qP, wH (show k < 2 ^ 62 by omega), getD_at hx]
   rfl
 ·simp only [pV (Int.lt_irrefl _), qF]
  rfl
 ·simp only [kZ, kT]
  rw [oI]
  rfl
end Go.Proofs.YtpdlblofcdcikaaGreatDoor
