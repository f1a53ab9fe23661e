/- The counts of the cells of a picture. Conditions: none. -/
import Derived.Test.YtpdlblofcdcikaaGreatDoorPL7
set_option linter.unusedSimpArgs false
set_option linter.unusedVariables false
set_option linter.unusedVariables false
set_option linter.unusedSimpArgs false
namespace Go.Proofs.YtpdlblofcdcikaaGreatDoor
open Go.Idl Go.Sv
theorem qDA {σ α : Type} (g : α -> σ -> σ) (l : List α) (d : α) : ∀ (m k : Nat) (s : σ), k + m = l.length -> zP (fun k s => g (l.getD k d) s) m k s = (l.drop k).foldl (fun s x => g x s) s
 | 0, k, s, h => by
   rw [List.drop_of_length_le (by omega)]; rfl
 | m + 1, k, s, h => by
   have hk : k < l.length := by omega
   unfold zP
   rw [qDA g l d m (k + 1) _ (by omega), List.drop_eq_getElem_cons hk, List.foldl_cons, getD_at (List.getElem?_eq_getElem hk)]
theorem j4 {σ α : Type} (g : α -> σ -> σ) (l : List α) (d : α) (s : σ) : zP (fun k s => g (l.getD k d) s) l.length 0 s = l.foldl (fun s x => g x s) s := by
 rw [qDA g l d l.length 0 s (by omega), List.drop_zero]
theorem qYI {p : List (List Int)} (h : chk p = 0) : ∀ r ∈ p, ∀ c ∈ r, 0 <= c ∧ c < 8 := by
 unfold chk at h
 by_cases h0 : p.length = 0
 ·rw [if_pos h0] at h; cases h
 ·rw [if_neg h0] at h
  by_cases h1 : 24 < p.length
  ·rw [if_pos h1] at h; cases h
  ·rw [if_neg h1] at h
   intro r hr c hc
   have hall : gG (p.getD 0 []).length r = 0 := by
    obtain ⟨i, hi, rfl⟩ := List.getElem_of_mem hr
    unfold q0R at h
    cases hs : scan (fun i => if gG (p.getD 0 []).length (p.getD i []) ≠ 0 then some (gG (p.getD 0 []).length (p.getD i [])) else none) p.length 0 with
    | none =>
      have := wS.1 hs i (Nat.zero_le _) (by omega)
      rw [getD_at (List.getElem?_eq_getElem hi)] at this
      by_cases hq : gG (p.getD 0 []).length p[i] ≠ 0
      ·rw [if_pos hq] at this; cases this
      ·simpa using hq
    | some v =>
      rw [hs] at h
      have h : v = 0 := h
      obtain ⟨j, _, _, hf, _⟩ := vM hs
      by_cases hq : gG (p.getD 0 []).length (p.getD j []) ≠ 0
      ·rw [if_pos hq] at hf
       cases hf
       exact absurd h hq
      ·rw [if_neg hq] at hf; cases hf
   unfold gG at hall
   by_cases a1 : r.length = 0
   ·rw [if_pos a1] at hall; cases hall
   ·rw [if_neg a1] at hall
    by_cases a2 : 24 < r.length
    ·rw [if_pos a2] at hall; cases hall
    ·rw [if_neg a2] at hall
     by_cases a3 : r.length ≠ (p.getD 0 []).length
     ·rw [if_pos a3] at hall; cases hall
     ·rw [if_neg a3] at hall
      cases hb : qA3 r with
      | false => rw [hb] at hall; cases hall
      | true =>
        have := List.all_eq_true.1 hb c hc
        simpa using this
def mx (a b : Int) : Int := bif decide (a < b) then b else a
theorem qX5 (a b : Int) : mx a b = if a < b then b else a := by unfold mx; by_cases h : a < b <;> simp [h]
theorem qSN : ∀ (l : List Int) (a : Int), a <= l.foldl mx a ∧ ∀ c ∈ l, c <= l.foldl mx a
 | [], a => ⟨Int.le_refl _, fun c h => by cases h⟩
 | x :: l, a => by
   obtain ⟨h1, h2⟩ := qSN l (mx a x)
   rw [List.foldl_cons]
   have h3 : a <= mx a x ∧ x <= mx a x := by rw [qX5]; split <;> omega
   refine ⟨by omega, fun c hc => ?_⟩
   rcases List.mem_cons.1 hc with rfl | hc
   ·omega
   ·exact h2 c hc
theorem qZX : ∀ (l : List Int) (a : Int), a < 8 -> (∀ c ∈ l, c < 8) -> l.foldl mx a < 8
 | [], a, h, _ => h
 | x :: l, a, h, hl => by
   rw [List.foldl_cons]
   refine qZX l _ ?_ fun c hc => hl c (by simp [hc])
   have := hl x (by simp)
   rw [qX5]; split <;> omega
theorem q3K {l : List Int} (hl : l.length < 2 ^ 62) (h0 : l ≠ []) (hp : ∀ c ∈ l, 0 <= c) : H100 l = some (l.foldl mx 0) := by
 show (G100 l).run = _
 unfold G100
 cases l with
 | nil => exact absurd rfl h0
 | cons x l =>
   have hx : 0 <= x := hp x (by simp)
   have e1 : ¬ (((x :: l).length : Int) < 1) := by simp only [List.length_cons]; omega
   have hpl : 0 < (x :: l).length := by simp
   rw [pV e1, qF, rF hpl, qD]
   have e2 : (x :: l)[0]? = some x := rfl
   rw [e2, qD]
   have hlen : (x :: l).length = l.length + 1 := rfl
   refine yK l.length (fun k (s : Int) => (s, ((k + 1 : Nat) : Int))) (fun _ _ => True) (fun k s => mx s (l.getD k 0)) (fun s => Sum.inl (s, (((x :: l).length : Nat) : Int))) x rfl trivial (fun k s hk _ => ⟨?_, trivial⟩) (fun s _ => ?_) fun _ => ?_
   ·have hk3 : ((k + 1 : Nat) : Int) < ((x :: l).length : Int) := by rw [hlen]; omega
    have hk4 : k + 1 < (x :: l).length := by rw [hlen]; omega
    obtain ⟨y, hy, _⟩ := xH hk
    have hy2 : (x :: l)[k + 1]? = some y := hy
    simp only [rC hk3, qP, jF hk4, qD, hy2, getD_at hy, wH (show k + 1 < 2 ^ 62 by omega)]
    rfl
   ·have : ¬ ((l.length + 1 : Nat) : Int) < ((x :: l).length : Int) := by rw [hlen]; exact Int.lt_irrefl _
    simp only [pV this, qF]
    rfl
   ·simp only [kZ, kT]
    rw [j4 (fun y s => mx s y) l 0 x, List.foldl_cons]
    have : mx 0 x = x := by rw [qX5]; split <;> omega
    rw [this]
def inc (s : List Int) (c : Int) : List Int := s.set c.toNat (IntKind.i64.wrap (s.getD c.toNat 0 + 1))
theorem qJI (s : List Int) (c : Int) : (inc s c).length = s.length := by simp [inc]
theorem qET : ∀ (l s : List Int), (l.foldl inc s).length = s.length
 | [], s => rfl
 | c :: l, s => by rw [List.foldl_cons, qET l, qJI]
theorem qNB {R : Type} {s : List Int} {c : Int} {K : List Int -> Tree R} (h0 : 0 <= c) (h1 : c < (s.length : Int)) :
 (Tree.bind (idx s.length c) fun (x8 : Nat) => Tree.bind s[x8]? fun (x9 : Int) => Tree.bind (idx s.length c) fun (x10 : Nat) => Tree.bind s[x10]? fun (x11 : Int) => K (s.set x10 (IntKind.i64.wrap (x9 + 1)))) = K (inc s c) := by
 obtain ⟨k, rfl⟩ := Int.eq_ofNat_of_zero_le h0
 have hk : k < s.length := by omega
 obtain ⟨y, hy, _⟩ := xH hk
 rw [jF hk, qD, hy, qD, qD, hy, qD]
 unfold inc
 rw [Int.toNat_natCast, getD_at hy]
def q2C (p : List (List Int)) : List Int := p.flatten.foldl inc (List.replicate (p.flatten.foldl mx 0 + 1).toNat 0)
theorem qYU {p : List (List Int)} {h n : Nat} (hp : Pic p h n) : p.flatten.length <= 576 ∧ p.flatten ≠ [] := by
 have h2 := hp.h2
 have n1 := hp.n1
 have n2 := hp.n2
 constructor
 ·have := qK3 (x := p) (c := 24) fun r hr => by rw [hp.row r hr]; exact n2
  have : p.length * 24 <= 24 * 24 := Nat.mul_le_mul_right _ (by rw [hp.len]; exact h2)
  omega
 ·obtain ⟨x, hx, hxl⟩ := hp.at (show 0 < h from hp.h1)
  intro e
  have := List.flatten_eq_nil_iff.1 e x (List.mem_of_getElem? hx)
  rw [this] at hxl
  simp at hxl
  omega
theorem rY {p : List (List Int)} (hc : chk p = 0) : ∀ c ∈ p.flatten, 0 <= c ∧ c < 8 := fun c h => by
 obtain ⟨r, hr, hc2⟩ := List.mem_flatten.1 h
 exact qYI hc r hr c hc2
theorem q1T {p : List (List Int)} (hc : chk p = 0) : mkN (IntKind.i64.wrap (p.flatten.foldl mx 0 + 1)) = some (p.flatten.foldl mx 0 + 1).toNat ∧ 0 <= p.flatten.foldl mx 0 := by
 have h1 := (qSN p.flatten 0).1
 have h2 := qZX p.flatten 0 (by decide) fun c h => (rY hc c h).2
 refine ⟨?_, h1⟩
 rw [wQ (by omega) (by omega)]
 unfold mkN
 rw [if_pos ⟨by omega, by omega⟩]
theorem q2O {p : List (List Int)} {h n : Nat} (hp : Pic p h n) : H137 p = some p.flatten := by
 have h2 := hp.h2
 have n2 := hp.n2
 exact if_pos ⟨by have := hp.len; show p.length <= 100; omega, fun r hr => by rw [hp.row r hr]; omega⟩
theorem q42 {p : List (List Int)} {h n : Nat} (hp : Pic p h n) (hc : chk p = 0) : H75 p = some (q2C p, 0) := by
 show (G75 p).run = _
 unfold G75
 obtain ⟨f1, f2⟩ := qYU hp
 have hcol := rY hc
 obtain ⟨m1, m2⟩ := q1T hc
 have hmx := (qSN p.flatten 0).2
 have hz : ((0 : Int) != 0) = false := rfl
 rw [qW2 (fun _ r hr => hp.lt.2 r hr), hc, qD, hz, qF, q2O hp, qD, q3K (by omega) f2 (fun c h => (hcol c h).1), qD, m1, qD]
 refine yK p.flatten.length (fun k s => ((k : Int), s)) (fun _ s => s.length = (p.flatten.foldl mx 0 + 1).toNat) (fun k s => inc s (p.flatten.getD k 0)) (fun s => Sum.inl ((p.flatten.length : Int), s)) _ rfl (by simp) (fun k s hk hI => ⟨?_, by rw [qJI]; exact hI⟩) (fun s _ => ?_) fun _ => ?_
 ·have hk3 : (k : Int) < (p.flatten.length : Int) := by omega
  obtain ⟨c, hc', hcm⟩ := xH hk
  have hcm2 := hmx c hcm
  simp only [rC hk3, qP, jF hk, qD, hc', getD_at hc', wH (show k < 2 ^ 62 by omega)]
  rw [qNB (K := fun s' => Tree.ret (Sum.inl (((k + 1 : Nat) : Int), s'))) (hcol c hcm).1 (by rw [hI]; omega)]
  rfl
 ·simp only [pV (Int.lt_irrefl _), qF]
  rfl
 ·simp only [kZ, kT]
  rw [j4 (fun c s => inc s c) p.flatten 0]
  rfl
theorem q5Y {p : List (List Int)} {h n : Nat} (hp : Pic p h n) (hc : chk p = 0) : H79 p = some (q2C p) := by
 show (G79 p).run = _
 unfold G79
 have hh2 := hp.h2
 have hn2 := hp.n2
 have hcol := rY hc
 obtain ⟨m1, m2⟩ := q1T hc
 have hmx := (qSN p.flatten 0).2
 refine yK p.length (fun k (s : Int) => (s, (k : Int))) (fun _ _ => True) (fun k s => (p.getD k []).foldl mx s) (fun s => Sum.inl (s, (p.length : Int))) 0 rfl trivial (fun k s hk _ => ⟨?_, trivial⟩) (fun s _ => ?_) fun _ => ?_
 ·have hk3 : (k : Int) < (p.length : Int) := by omega
  obtain ⟨x, hx, hxm⟩ := xH hk
  have hxl := hp.row x hxm
  have hkl := hp.len
  simp only [rC hk3, qP, jF hk, qD, hx, getD_at hx]
  refine yK (R := (Int × Int) ⊕ _) x.length (fun j (s : Int) => (s, (j : Int))) (fun _ _ => True) (fun j s => mx s (x.getD j 0)) (fun s => Sum.inl (s, (x.length : Int))) s rfl trivial (fun j s hj _ => ⟨?_, trivial⟩) (fun s _ => ?_) fun _ => ?_
  ·have hj3 : (j : Int) < (x.length : Int) := by omega
   obtain ⟨c, hc', hcm⟩ := xH hj
   simp only [rC hj3, qP, jF hj, qD, hc', getD_at hc', wH (show j < 2 ^ 62 by omega)]
   rfl
  ·simp only [pV (Int.lt_irrefl _), qF]
   rfl
  ·simp only [kZ, wH (show k < 2 ^ 62 by omega)]
   rw [j4 (fun y s => mx s y) x 0]
   rfl
 ·simp only [pV (Int.lt_irrefl _), qF]
  rfl
 ·simp only [kZ]
  have e1 : zP (fun k (s : Int) => (p.getD k []).foldl mx s) p.length 0 0 = p.flatten.foldl mx 0 := by
   rw [j4 (fun (x : List Int) (s : Int) => x.foldl mx s) p []]
   exact (List.foldl_flatten).symm
  rw [e1, m1, qD]
  refine yK p.length (fun k s => ((k : Int), s)) (fun _ s => s.length = (p.flatten.foldl mx 0 + 1).toNat) (fun k s => (p.getD k []).foldl inc s) (fun s => Sum.inl ((p.length : Int), s)) _ rfl (by simp) (fun k s hk hI => ⟨?_, by rw [qET]; exact hI⟩) (fun s _ => ?_) fun _ => ?_
  ·have hk3 : (k : Int) < (p.length : Int) := by omega
   obtain ⟨x, hx, hxm⟩ := xH hk
   have hxl := hp.row x hxm
   have hkl := hp.len
   simp only [rC hk3, qP, jF hk, qD, hx, getD_at hx]
   refine yK (R := (Int × List Int) ⊕ _) x.length (fun j s => ((j : Int), s)) (fun _ s => s.length = (p.flatten.foldl mx 0 + 1).toNat) (fun j s => inc s (x.getD j 0)) (fun s => Sum.inl ((x.length : Int), s)) s rfl hI (fun j s hj hJ => ⟨?_, by rw [qJI]; exact hJ⟩) (fun s _ => ?_) fun _ => ?_
   ·have hj3 : (j : Int) < (x.length : Int) := by omega
    obtain ⟨c, hc', hcm⟩ := xH hj
    have hcf : c ∈ p.flatten := List.mem_flatten.2 ⟨x, hxm, hcm⟩
    have hcm2 := hmx c hcf
    simp only [rC hj3, qP, jF hj, qD, hc', getD_at hc', wH (show j < 2 ^ 62 by omega)]
    rw [qNB (K := fun s' => Tree.ret (Sum.inl (((j + 1 : Nat) : Int), s'))) (hcol c hcf).1 (by rw [hJ]; omega)]
    rfl
   ·simp only [pV (Int.lt_irrefl _), qF]
    rfl
   ·simp only [kZ, wH (show k < 2 ^ 62 by omega)]
    rw [j4 (fun c s => inc s c) x 0]
    rfl
  ·simp only [pV (Int.lt_irrefl _), qF]
   rfl
  ·simp only [kZ, kT]
   rw [j4 (fun (x : List Int) (s : List Int) => x.foldl inc s) p []]
   exact congrArg some (List.foldl_flatten).symm
end Go.Proofs.YtpdlblofcdcikaaGreatDoor
