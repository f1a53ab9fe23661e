/- What the functions compute, plainly, and the law. Conditions: none. -/
import Derived.Test.YtpdlblofcdcikaaGreatDoorPLK
import Derived.Test.YtpdlblofcdcikaaGreatDoorPE1
set_option linter.all false
namespace Go.Proofs.YtpdlblofcdcikaaGreatDoor
open Go.Idl Go.Sv
theorem wL {n : Int} (h0 : -9223372036854775808 <= n) (h1 : n <= 9223372036854775807) : IntKind.i64.wrap n = n := by
 by_cases hn : 0 <= n
 ·have e : n % (18446744073709551616 : Int) = n := Int.emod_eq_of_lt hn (by omega)
  have hw : IntKind.i64.wrap n = if (true && decide (n % (18446744073709551616 : Int) ≥ 9223372036854775808)) = true then n % (18446744073709551616 : Int) - 18446744073709551616 else n % (18446744073709551616 : Int) := rfl
  rw [hw]
  simp only [e]
  rw [if_neg (by simp; omega)]
 ·have e : n % (18446744073709551616 : Int) = n + 18446744073709551616 := by omega
  have hw : IntKind.i64.wrap n = if (true && decide (n % (18446744073709551616 : Int) ≥ 9223372036854775808)) = true then n % (18446744073709551616 : Int) - 18446744073709551616 else n % (18446744073709551616 : Int) := rfl
  rw [hw]
  simp only [e]
  rw [if_pos (by simp; omega)]
  omega
def qI (n : Nat) : List Int := (List.range n).map fun (i : Nat) => (i : Int)
theorem qJV (n : Nat) : qI (n + 1) = qI n ++ [(n : Int)] := by simp [qI, List.range_succ]
theorem zA (n : Nat) : (qI n).length = n := by simp [qI]
theorem qBB {n i : Nat} (h : i < n) : (qI n).getD i 0 = (i : Int) := by simp [qI, List.getD, h]
def qQI (c : Int) : Nat := if 0 < c then c.toNat - 1 else (0 - c).toNat
def uE (l : List Int) (i : Nat) : List Int := (l.set (i - 1) (l.getD i 0)).set i (l.getD (i - 1) 0)
theorem aH (l : List Int) (i : Nat) : (uE l i).length = l.length := by simp [uE]
def gK : List Int -> List Int -> List Int × List Int
 | [], l => ([], l)
 | c :: w, l => (l.getD (qQI c) 0 :: (gK w (uE l c.natAbs)).1, (gK w (uE l c.natAbs)).2)
theorem nQ (c : Int) : ∀ (w l : List Int), gK (w ++ [c]) l = ((gK w l).1 ++ [(gK w l).2.getD (qQI c) 0], uE (gK w l).2 c.natAbs)
 | [], l => rfl
 | d :: w, l => by
   show (_ :: (gK (w ++ [c]) _).1, (gK (w ++ [c]) _).2) = _
   rw [nQ c w]; rfl
theorem gI : ∀ (w l : List Int), (gK w l).1.length = w.length ∧ (gK w l).2.length = l.length
 | [], l => ⟨rfl, rfl⟩
 | d :: w, l => by
   obtain ⟨h1, h2⟩ := gI w (uE l d.natAbs)
   exact ⟨by show _ + 1 = _; rw [h1]; rfl, by rw [aH] at h2; exact h2⟩
def aF (w l : List Int) : Nat -> List Int
 | 0 => l
 | r + 1 => (gK w (aF w l r)).2
theorem dU (w l : List Int) : ∀ r, (aF w l r).length = l.length
 | 0 => rfl
 | r + 1 => by rw [aF, (gI w _).2, dU w l r]
def rE (w l : List Int) (r : Nat) : List (List Int) := (List.range r).map fun k => (gK w (aF w l k)).1
theorem qQA (w l : List Int) (r : Nat) : rE w l (r + 1) = rE w l r ++ [(gK w (aF w l r)).1] := by simp [rE, List.range_succ]
theorem qSF (w l : List Int) (r : Nat) : (rE w l r).length = r := by simp [rE]
def okW (n : Nat) (w : List Int) : Prop := ∀ c ∈ w, c ≠ 0 ∧ c.natAbs < n
def nA (p c : List Int) (n : Nat) : Nat -> List Int
 | 0 => List.replicate n 0
 | k + 1 => (nA p c n k).set (p.getD k 0).toNat (c.getD k 0)
theorem eT (p c : List Int) (n : Nat) : ∀ k, (nA p c n k).length = n
 | 0 => by simp [nA]
 | k + 1 => by simp [nA, eT p c n k]
def inR (n : Nat) (p : List Int) : Prop := ∀ z ∈ p, 0 <= z ∧ z < (n : Int)
theorem qLE {n : Nat} {l : List Int} (h : inR n l) {i : Nat} {z : Int} (hz : 0 <= z ∧ z < (n : Int)) : inR n (l.set i z) := by
 intro x hx
 rcases List.mem_or_eq_of_mem_set hx with h1 | h1
 ·exact h x h1
 ·rw [h1]; exact hz
theorem qLM {n : Nat} {l : List Int} (h : inR n l) {i : Nat} (hi : i < l.length) : 0 <= l.getD i 0 ∧ l.getD i 0 < (n : Int) := by
 have : l.getD i 0 = l[i] := by simp [List.getD, hi]
 rw [this]; exact h _ (List.getElem_mem hi)
theorem qN2 {n : Nat} {l : List Int} (h : inR n l) {i : Nat} (hi : i < l.length) : inR n (uE l i) := qLE (qLE h (qLM h hi)) (qLM h (by omega))
theorem qUW {n : Nat} : ∀ (w l : List Int), okW n w -> l.length = n -> inR n l -> inR n (gK w l).2
 | [], l, _, _, h => h
 | c :: w, l, hw, hl, h => qUW w (uE l c.natAbs) (fun x hx => hw x (List.mem_cons_of_mem _ hx)) (by rw [aH]; exact hl) (qN2 h (by rw [hl]; exact (hw c List.mem_cons_self).2))
theorem qAL (n : Nat) : inR n (qI n) := by
 intro z hz
 simp [qI] at hz
 obtain ⟨a, ha, rfl⟩ := hz
 omega
theorem qNY {n : Nat} {p c : List Int} (hc : inR n c) (hn : 0 < n) (hcl : c.length = n) : ∀ k, k <= n -> inR n (nA p c n k)
 | 0, _ => by
   intro z hz
   simp [nA] at hz
   omega
 | k + 1, hk => qLE (qNY hc hn hcl k (by omega)) (qLM hc (by omega))
def xY (n : Nat) (w : List Int) : List Int := (gK w (qI n)).2
theorem sV (n : Nat) (w : List Int) : (xY n w).length = n := by rw [xY, (gI _ _).2, zA]
theorem qYV {n : Nat} {w : List Int} (h : okW n w) : inR n (xY n w) := qUW _ _ h (zA n) (qAL n)
def rH (n : Nat) (w : List Int) : List Int := nA (xY n w) (qI n) n n
theorem qGN (n : Nat) (w : List Int) : (rH n w).length = n := eT _ _ _ _
theorem qXL {n : Nat} {w : List Int} (hn : 0 < n) : inR n (rH n w) := qNY (qAL n) hn (zA n) n (Nat.le_refl _)
def kI (f c : List Int) : List Int := f.map fun z => c.getD z.toNat 0
theorem jG (f c : List Int) : (kI f c).length = f.length := by simp [kI]
theorem qWX (a b : List Int) (x y : Int) : uE (a ++ x :: y :: b) (a.length + 1) = a ++ y :: x :: b := by
 unfold uE
 have h1 : (a ++ x :: y :: b).getD (a.length + 1) 0 = y := by simp [List.getD]
 have h2 : (a ++ x :: y :: b).getD (a.length + 1 - 1) 0 = x := by simp [List.getD]
 rw [h1, h2]
 simp only [Nat.add_sub_cancel]
 rw [List.set_append_right _ _ (Nat.le_refl _), Nat.sub_self, List.set_cons_zero, List.set_append_right _ _ (by omega)]
 have : a.length + 1 - a.length = 1 := by omega
 rw [this]
 rfl
theorem qQY {l : List Int} {i : Nat} (h0 : 0 < i) (h : i < l.length) : (uE l i).Perm l := by
 have e : l = l.take (i - 1) ++ l[i - 1] :: l[i] :: l.drop (i + 1) := by
  have h1 := List.drop_eq_getElem_cons (l := l) (i := i - 1) (by omega)
  have h2 := List.drop_eq_getElem_cons (l := l) (i := i) h
  have h3 : i - 1 + 1 = i := by omega
  rw [h3, h2] at h1
  rw [<- h1, List.take_append_drop]
 have hl : (l.take (i - 1)).length + 1 = i := by simp; omega
 generalize l.take (i - 1) = a at e hl
 generalize l[i - 1] = x at e
 generalize l[i] = y at e
 generalize l.drop (i + 1) = b at e
 subst e hl
 rw [qWX]
 exact (List.Perm.swap x y b).append_left a
theorem qG6 {n : Nat} : ∀ (w l : List Int), okW n w -> l.length = n -> (gK w l).2.Perm l
 | [], l, _, _ => .refl _
 | c :: w, l, hw, hl => by
   obtain ⟨h0, h1⟩ := hw c List.mem_cons_self
   have := qG6 w (uE l c.natAbs) (fun x hx => hw x (List.mem_cons_of_mem _ hx)) (by rw [aH]; exact hl)
   exact this.trans (qQY (by omega) (by omega))
theorem qP8 {n : Nat} {w : List Int} (h : okW n w) : (xY n w).Perm (qI n) := qG6 _ _ h (zA n)
theorem qG2 (n : Nat) : (qI n).Nodup := by
 unfold qI
 rw [List.nodup_iff_pairwise_ne, List.pairwise_map]
 exact (List.nodup_iff_pairwise_ne.1 List.nodup_range).imp fun h e => h (by omega)
structure PermL (n : Nat) (f : List Int) : Prop where
 len : f.length = n
 ran : inR n f
 inj : ∀ (i j : Nat) (z : Int), f[i]? = some z -> f[j]? = some z -> i = j
 sur : ∀ k, k < n -> ∃ i : Nat, i < n ∧ f[i]? = some (k : Int)
theorem qSO {f : List Int} (h : f.Nodup) {i j : Nat} {z : Int} (hi : f[i]? = some z) (hj : f[j]? = some z) : i = j := by
 obtain ⟨h1, e1⟩ := List.getElem?_eq_some_iff.1 hi
 obtain ⟨h2, e2⟩ := List.getElem?_eq_some_iff.1 hj
 rw [List.nodup_iff_pairwise_ne, List.pairwise_iff_getElem] at h
 rcases Nat.lt_trichotomy i j with hlt | heq | hlt
 ·exact absurd (e1.trans e2.symm) (h i j h1 h2 hlt)
 ·exact heq
 ·exact absurd (e2.trans e1.symm) (h j i h2 h1 hlt)
theorem y5 {n : Nat} {w : List Int} (h : okW n w) : PermL n (xY n w) := by
 have hp := qP8 h
 refine ⟨sV n w, qYV h, fun i j z h1 h2 => qSO (hp.nodup_iff.2 (qG2 n)) h1 h2, fun k hk => ?_⟩
 have hm : (k : Int) ∈ xY n w := hp.mem_iff.2 (by simp [qI]; exact ⟨k, hk, rfl⟩)
 obtain ⟨i, hi⟩ := List.mem_iff_getElem?.1 hm
 exact ⟨i, by have := (List.getElem?_eq_some_iff.1 hi).1; rw [sV] at this; exact this, hi⟩
theorem qNR {n : Nat} {p c : List Int} (hp : p.length = n) (hr : inR n p) (inj : ∀ (i j : Nat) (z : Int), p[i]? = some z -> p[j]? = some z -> i = j) : ∀ k, k <= n -> ∀ (j z : Nat), j < k -> p[j]? = some (z : Int) -> (nA p c n k)[z]? = some (c.getD j 0)
 | 0, _, j, z, hj, _ => by omega
 | k + 1, hk, j, z, hj, hz => by
   have hzn : z < n := by have := (hr _ (List.mem_of_getElem? hz)).2; omega
   obtain ⟨y, hy⟩ : ∃ y, p[k]? = some y := ⟨_, List.getElem?_eq_getElem (by omega)⟩
   obtain ⟨y0, _⟩ := hr y (List.mem_of_getElem? hy)
   obtain ⟨y, rfl⟩ := Int.eq_ofNat_of_zero_le y0
   have hgd : p.getD k 0 = (y : Int) := by simp [List.getD, hy]
   show ((nA p c n k).set (p.getD k 0).toNat (c.getD k 0))[z]? = _
   rw [hgd, Int.toNat_natCast, List.getElem?_set]
   by_cases hjk : j = k
   ·subst hjk
    rw [hz] at hy
    have : z = y := by simp at hy; omega
    subst this
    rw [if_pos rfl, eT, if_pos hzn]
   ·have hne : y ≠ z := fun e => hjk (by subst e; exact inj j k _ hz hy)
    rw [if_neg hne]
    exact qNR hp hr inj k (by omega) j z (by omega) hz
theorem qB1 {n : Nat} {w : List Int} (h : okW n w) {i k : Nat} (hi : (xY n w)[i]? = some (k : Int)) : (rH n w)[k]? = some (i : Int) := by
 have hf := y5 h
 have hin : i < n := by have := (List.getElem?_eq_some_iff.1 hi).1; rw [hf.len] at this; exact this
 have := qNR (c := qI n) hf.len hf.ran hf.inj n (Nat.le_refl _) i k hin hi
 rw [qBB hin] at this
 exact this
theorem qXW {n : Nat} {w : List Int} (hn : 0 < n) (h : okW n w) : PermL n (rH n w) := by
 have hf := y5 h
 have key : ∀ (a : Nat) (z : Int), (rH n w)[a]? = some z -> ∃ i : Nat, z = (i : Int) ∧ (xY n w)[i]? = some (a : Int) := by
  intro a z ha
  have hal : a < n := by have := (List.getElem?_eq_some_iff.1 ha).1; rw [qGN] at this; exact this
  obtain ⟨i, hin, hi⟩ := hf.sur a hal
  have := qB1 h hi
  rw [ha] at this
  exact ⟨i, by simpa using this, hi⟩
 refine ⟨qGN n w, qXL hn, fun a b z ha hb => ?_, fun k hk => ?_⟩
 ·obtain ⟨i, e1, h1⟩ := key a z ha
  obtain ⟨j, e2, h2⟩ := key b z hb
  have : i = j := by omega
  subst this
  rw [h1] at h2
  simp at h2
  omega
 ·obtain ⟨z, hz⟩ : ∃ z, (xY n w)[k]? = some z := ⟨_, List.getElem?_eq_getElem (by rw [hf.len]; exact hk)⟩
  obtain ⟨z0, z1⟩ := hf.ran z (List.mem_of_getElem? hz)
  obtain ⟨z, rfl⟩ := Int.eq_ofNat_of_zero_le z0
  exact ⟨z, by omega, qB1 h hz⟩
def qB5 (f : List Int) : Nat -> List Int -> List Int
 | 0, x => x
 | t + 1, x => kI f (qB5 f t x)
theorem qUI {n : Nat} {f : List Int} (hf : f.length = n) {x : List Int} (hx : x.length = n) : ∀ t, (qB5 f t x).length = n
 | 0 => hx
 | t + 1 => by rw [qB5, jG, hf]
theorem qR3 : ∀ (N : Nat) (l : List Nat), l.Nodup -> (∀ x ∈ l, x < N) -> l.length <= N
 | 0, l, _, h => by
   cases l with
   | nil => simp
   | cons x l => have := h x List.mem_cons_self; omega
 | N + 1, l, hd, h => by
   by_cases hm : N ∈ l
   ·have h1 := qR3 N (l.erase N) (hd.erase N) fun x hx => by
     have h2 := h x (List.mem_of_mem_erase hx)
     have h3 : x ≠ N := fun e => by
      subst e
      exact (List.Nodup.not_mem_erase hd) hx
     omega
    rw [List.length_erase_of_mem hm] at h1
    omega
   ·have h1 := qR3 N l hd fun x hx => by
     have h2 := h x hx
     have h3 : x ≠ N := fun e => hm (e ▸ hx)
     omega
    omega
def rF (ss fs : List Int) (k : Nat) : List Int := kI ss (qB5 fs k (qI fs.length))
def bM (ss fs : List Int) (n : Nat) : List (List Int) := (List.range n).map (rF ss fs)
theorem qCV (ss fs : List Int) (n : Nat) : bM ss fs (n + 1) = bM ss fs n ++ [rF ss fs n] := by simp [bM, List.range_succ]
theorem qH3 (ss fs : List Int) (n : Nat) : (bM ss fs n).length = n := by simp [bM]
theorem qBE {l : List Int} (g : Int -> Int) {i : Nat} (h : i < l.length) : (l.map g).getD i 0 = g (l.getD i 0) := by simp [List.getD, List.getElem?_eq_getElem h]
theorem qR1 (g : Int -> Int) (l : List Int) {i : Nat} (h : i < l.length) : uE (l.map g) i = (uE l i).map g := by
 unfold uE
 rw [qBE g h, qBE g (by omega), List.map_set, List.map_set]
theorem qRT {c : Int} {n : Nat} (h : c ≠ 0 ∧ c.natAbs < n) : qQI c < n := by unfold qQI; split <;> omega
theorem qOX {n : Nat} (g : Int -> Int) : ∀ (w l : List Int), okW n w -> l.length = n -> gK w (l.map g) = ((gK w l).1.map g, (gK w l).2.map g)
 | [], l, _, _ => rfl
 | c :: w, l, hw, hl => by
   have h1 := hw c List.mem_cons_self
   have ih := qOX g w (uE l c.natAbs) (fun x hx => hw x (List.mem_cons_of_mem _ hx)) (by rw [aH]; exact hl)
   simp only [gK]
   rw [qR1 g l (by rw [hl]; exact h1.2), ih, qBE g (by rw [hl]; exact qRT h1)]
   rfl
theorem qOJ {n : Nat} : ∀ (w l : List Int), okW n w -> l.length = n -> inR n l -> inR n (gK w l).1
 | [], l, _, _, h => fun z hz => by simp [gK] at hz
 | c :: w, l, hw, hl, h => by
   have h1 := hw c List.mem_cons_self
   have ih := qOJ w (uE l c.natAbs) (fun x hx => hw x (List.mem_cons_of_mem _ hx)) (by rw [aH]; exact hl) (qN2 h (by rw [hl]; exact h1.2))
   intro z hz
   simp only [gK, List.mem_cons] at hz
   rcases hz with rfl | hz
   ·have hi : qQI c < l.length := by rw [hl]; exact qRT h1
    have : l.getD (qQI c) 0 = l[qQI c] := by simp [List.getD, List.getElem?_eq_getElem hi]
    rw [this]
    exact h _ (List.getElem_mem hi)
   ·exact ih z hz
theorem qQH {P : List Int} {n : Nat} (h : P.length = n) : (qI n).map (fun z => P.getD z.toNat 0) = P := by
 apply List.ext_getElem?
 intro i
 by_cases hi : i < n
 ·simp [qI, List.getElem?_range hi, List.getD, List.getElem?_eq_getElem (show i < P.length by omega)]
 ·rw [List.getElem?_eq_none (by simp [qI]; omega), List.getElem?_eq_none (by omega)]
theorem qNX {n : Nat} {ws P : List Int} (hok : okW n ws) (h : P.length = n) : gK ws P = (kI (gK ws (qI n)).1 P, kI (xY n ws) P) := by
 have h1 := qOX (fun z => P.getD z.toNat 0) ws (qI n) hok (zA n)
 rw [qQH h] at h1
 rw [h1]; rfl
theorem qDW {n : Nat} {ws : List Int} (hok : okW n ws) : ∀ k, aF ws (qI n) k = qB5 (xY n ws) k (qI n)
 | 0 => rfl
 | k + 1 => by
   rw [aF, qNX hok (by rw [dU, zA]), qB5, qDW hok k]
theorem qQD {n : Nat} {ws : List Int} (hok : okW n ws) (m : Nat) : bM (gK ws (qI n)).1 (xY n ws) m = rE ws (qI n) m := by
 unfold bM rE
 refine List.map_congr_left fun k _ => ?_
 unfold rF
 rw [qNX (P := aF ws (qI n) k) hok (by rw [dU, zA]), qDW hok k, sV]
end Go.Proofs.YtpdlblofcdcikaaGreatDoor
namespace Go.Proofs.YtpdlblofcdcikaaGreatDoor
open Go.Idl Go.Sv
noncomputable def GE {α : Type} (H : α × α -> Option Bool) (x0 x1 : List α) : Tree Bool :=
 Tree.ite ((x0.length : Int) != (x1.length : Int)) (Tree.ret false)
  (Tree.bind
    (qL
      (fun (s2 : Int) =>
        Tree.ite (decide (s2 < (x0.length : Int)))
         (Tree.bind (idx x0.length s2) fun (x3 : Nat) =>
           Tree.bind x0[x3]? fun (x4 : α) =>
            Tree.bind (idx x1.length s2) fun (x5 : Nat) =>
             Tree.bind x1[x5]? fun (x6 : α) =>
              Tree.bind (H (x4, x6)) fun (x7 : Bool) =>
               Tree.ite (!x7) (Tree.ret (Sum.inr (Sum.inr (Sum.inl false))))
                (Tree.ret (Sum.inl (IntKind.i64.wrap (s2 + 1)))))
         (Tree.ret (Sum.inr (Sum.inl s2))))
      0)
    fun (x2 : Int ⊕ Bool ⊕ Nat × Int) =>
    Tree.sum x2 (fun (s3 : Int) => Tree.ret true) fun (s3 : Bool ⊕ Nat × Int) =>
     Tree.sum s3 (fun (s4 : Bool) => Tree.ret s4) fun (s4 : Nat × Int) => Tree.fail)
theorem q4I {α : Type} [DecidableEq α] {H : α × α -> Option Bool} {a b : List α} (ha : a.length < 2 ^ 62) (hH : ∀ x ∈ a, ∀ y ∈ b, H (x, y) = some (decide (x = y))) : (GE H a b).run = some (decide (a = b)) := by
 unfold GE
 by_cases hl : a.length = b.length
 ·have h0 : ((a.length : Int) != (b.length : Int)) = false := by simp [hl]
  rw [h0, qE]
  refine vN a.length (fun i => if a[i]? = b[i]? then none else some false) (fun x => Sum.inr (Sum.inl x)) (Sum.inl (a.length : Int)) (fun k hk => ?_) ?_ ?_
  ·obtain ⟨x, hx, mx⟩ := yZ hk
   obtain ⟨y, hy, my⟩ := yZ (show k < b.length by omega)
   have hk2 : k < b.length := by omega
   have hk3 : (k : Int) < (a.length : Int) := by omega
   simp only [gW hk3, qF, qX hk, qA, hx, qX hk2, hy, hH x mx y my, yY (show k < 2 ^ 62 by omega)]
   by_cases hxy : x = y
   ·simp [hxy, qE]; rfl
   ·simp [hxy, qF]; rfl
  ·simp only [gP (Int.lt_irrefl _), qE]
   rfl
  ·cases hs : scan (fun i => if a[i]? = b[i]? then none else some false) a.length 0 with
   | none =>
     have hab : a = b := List.ext_getElem? fun i => by
      by_cases hi : i < a.length
      ·have := vH.1 hs i (Nat.zero_le _) (by omega)
       by_cases h : a[i]? = b[i]?
       ·exact h
       ·rw [if_neg h] at this; cases this
      ·rw [List.getElem?_eq_none (by omega), List.getElem?_eq_none (by omega)]
     simp only [z8, qW, hab, decide_true]
   | some r =>
     obtain ⟨i, _, _, hi, _⟩ := j5 hs
     have hne : a ≠ b := fun e => by
      rw [e] at hi
      simp at hi
     have hr : r = false := by
      by_cases h : a[i]? = b[i]?
      ·rw [if_pos h] at hi; cases hi
      ·rw [if_neg h] at hi; cases hi; rfl
     subst hr
     simp only [eP, z8, qW, hne, decide_false]
 ·have h0 : ((a.length : Int) != (b.length : Int)) = true := by simp; omega
  rw [h0, qF, qW]
  have : a ≠ b := fun e => hl (by rw [e])
  simp [this]
theorem q83 {a b : List Int} (ha : a.length < 2 ^ 62) : H52 (a, b) = some (decide (a = b)) := by
 have : H52 (a, b) = (GE (fun p : Int × Int => some (p.1 == p.2)) a b).run := rfl
 rw [this]
 exact q4I ha fun x _ y _ => by
  by_cases h : x = y <;> simp [h]
theorem q99 {a b : List Int} (ha : a.length < 2 ^ 62) : H98 (a, b) = some (decide (a = b)) := (show H98 (a, b) = H52 (a, b) from rfl).trans (q83 ha)
theorem q8N {a b : List (List Int)} (ha : a.length < 2 ^ 62) (hr : ∀ r ∈ a, r.length < 2 ^ 62) : H53 (a, b) = some (decide (a = b)) :=
 (show H53 (a, b) = (GE H52 a b).run from rfl).trans (q4I ha fun x hx y _ => q83 (hr x hx))
theorem q58 (x : Int × Int × Int) : H38 x = some (decide (x.1 < x.2.1) || decide (x.2.2 < x.1)) := by
 obtain ⟨n, a, b⟩ := x
 show (G38 n a b).run = some (decide (n < a) || decide (b < n))
 unfold G38
 by_cases h : n < a
 ·simp only [h, decide_true]; rfl
 ·simp only [h, decide_false]; rfl
theorem q6S (x : Bool × Int) : H89 x = some (cond x.1 x.2 0) := by
 obtain ⟨b, e⟩ := x
 show (G89 b e).run = some (cond b e 0)
 unfold G89
 cases b <;> rfl
theorem q7B {c : Int} : H124 c = some (decide (0 <= c) && decide (c < 8)) := by
 show (G124 c).run = _
 unfold G124
 by_cases h : 0 <= c
 ·simp only [h, decide_true]; rfl
 ·simp only [h, decide_false]; rfl
theorem q7D {c : Int} : H140 c = some (!(decide (0 <= c) && decide (c < 8))) := by
 show (G140 c).run = _
 unfold G140
 rw [q7B, qA, qW]
def pY : List Int -> Int
 | [] => 0
 | x :: l => if x ≠ 0 then x else pY l
theorem qGR (l : List Int) : ∀ (m k : Nat), k + m = l.length -> scan (fun i => if l.getD i 0 ≠ 0 then some (l.getD i 0) else none) m k = if pY (l.drop k) = 0 then none else some (pY (l.drop k))
 | 0, k, h => by
   rw [List.drop_eq_nil_of_le (by omega)]
   rfl
 | m + 1, k, h => by
   have hk : k < l.length := by omega
   rw [List.drop_eq_getElem_cons hk]
   unfold scan
   have e : l.getD k 0 = l[k] := by simp [List.getD, hk]
   rw [e]
   by_cases hx : l[k] = 0
   ·simp only [hx, ne_eq, not_true, if_false]
    rw [qGR l m (k + 1) (by omega)]
    simp [pY, hx]
   ·simp only [ne_eq, hx, not_false_iff, if_true]
    simp [pY, hx]
theorem q6V {l : List Int} (hl : l.length < 2 ^ 62) : H37 l = some (pY l) := by
 show (G37 l).run = _
 unfold G37
 refine vN l.length (fun i => if l.getD i 0 ≠ 0 then some (l.getD i 0) else none) (fun x => Sum.inr (Sum.inl x)) (Sum.inl (l.length : Int)) (fun k hk => ?_) ?_ ?_
 ·obtain ⟨x, hx, mx⟩ := yZ hk
  have hk3 : (k : Int) < (l.length : Int) := by omega
  have hd : l.getD k 0 = x := by simp [List.getD, hx]
  simp only [gW hk3, qF, qX hk, qA, hx, hd, yY (show k < 2 ^ 62 by omega)]
  by_cases h0 : x = 0
  ·simp [h0, qE]; rfl
  ·have : (x != 0) = true := by simpa using h0
   rw [this, qF]
   simp [h0]; rfl
 ·simp only [gP (Int.lt_irrefl _), qE]
  rfl
 ·rw [qGR l l.length 0 (by omega), List.drop_zero]
  by_cases h : pY l = 0
  ·simp only [h, if_true, z8, qW]
  ·simp only [h, if_false, eP, z8, qW]
theorem q5J {l : List Int} (hl : l.length < 2 ^ 62) : H87 l = some (pY l) := (show H87 l = H37 l from rfl).trans (q6V hl)
def qB2 (r : List Int) : Bool := r.all fun c => decide (0 <= c) && decide (c < 8)
theorem qWZ (r : List Int) {ρ : Type} (v : Nat -> ρ) : (scan (fun i => if (decide (0 <= r.getD i 0) && decide (r.getD i 0 < 8)) = true then none else some (v i)) r.length 0).isSome = !qB2 r := by
 cases hs : scan (fun i => if (decide (0 <= r.getD i 0) && decide (r.getD i 0 < 8)) = true then none else some (v i)) r.length 0 with
 | none =>
   have : qB2 r = true := by
    unfold qB2
    rw [List.all_eq_true]
    intro c hc
    obtain ⟨i, hi, rfl⟩ := List.getElem_of_mem hc
    have := vH.1 hs i (Nat.zero_le _) (by omega)
    have e : r.getD i 0 = r[i] := by simp [List.getD, hi]
    rw [e] at this
    by_cases h : (decide (0 <= r[i]) && decide (r[i] < 8)) = true
    ·exact h
    ·rw [if_neg h] at this; cases this
   rw [this]; rfl
 | some x =>
   obtain ⟨i, _, hi, hf, _⟩ := j5 hs
   have hi : i < r.length := by omega
   have e : r.getD i 0 = r[i] := by simp [List.getD, hi]
   have : qB2 r = false := by
    cases hc : qB2 r with
    | false => rfl
    | true =>
      unfold qB2 at hc
      have := List.all_eq_true.1 hc r[i] (List.getElem_mem hi)
      rw [e, if_pos this] at hf
      cases hf
   rw [this]; rfl
theorem q94 {r : List Int} (hr : r.length < 2 ^ 62) : H90 r = some (!qB2 r) := by
 show (G90 r).run = _
 unfold G90
 refine vN r.length (fun i => if (decide (0 <= r.getD i 0) && decide (r.getD i 0 < 8)) = true then none else some (i : Int)) (fun x => Sum.inr (Sum.inl x)) (Sum.inl (r.length : Int)) (fun k hk => ?_) ?_ ?_
 ·obtain ⟨x, hx, mx⟩ := yZ hk
  have hk3 : (k : Int) < (r.length : Int) := by omega
  have hd : r.getD k 0 = x := by simp [List.getD, hx]
  simp only [gW hk3, qF, qX hk, qA, hx, hd, q7D, yY (show k < 2 ^ 62 by omega)]
  cases (decide (0 <= x) && decide (x < 8)) <;> rfl
 ·simp only [gP (Int.lt_irrefl _), qE]
  rfl
 ·have := qWZ r (fun i => (i : Int))
  cases hs : scan (fun i => if (decide (0 <= r.getD i 0) && decide (r.getD i 0 < 8)) = true then none else some (i : Int)) r.length 0 with
  | none =>
    rw [hs] at this
    have hc : qB2 r = true := by simpa using this.symm
    simp only [z8, qW, hc]
    rfl
  | some v =>
    rw [hs] at this
    have hc : qB2 r = false := by simpa using this.symm
    obtain ⟨i, _, hi, hf, _⟩ := j5 hs
    have hv : 0 <= v := by
     by_cases h : (decide (0 <= r.getD i 0) && decide (r.getD i 0 < 8)) = true
     ·rw [if_pos h] at hf; cases hf
     ·rw [if_neg h] at hf; cases hf; omega
    simp only [eP, z8, qW, hc, hv, decide_true]
    rfl
theorem getD_at {α : Type} {l : List α} {k : Nat} {x d : α} (h : l[k]? = some x) : l.getD k d = x := by simp [List.getD, h]
theorem vC (b : Bool) : qG b false = !b := by cases b <;> rfl
theorem uJ (b : Bool) : qG b true = b := by cases b <;> rfl
theorem qEC {α ρ : Type} (q : α -> Bool) (d : α) (l : List α) (v : Nat -> ρ) : (∃ i, scan (fun i => if q (l.getD i d) = true then none else some (v i)) l.length 0 = some (v i) ∧ l.all q = false) ∨ (scan (fun i => if q (l.getD i d) = true then none else some (v i)) l.length 0 = none ∧ l.all q = true) := by
 cases hs : scan (fun i => if q (l.getD i d) = true then none else some (v i)) l.length 0 with
 | none =>
   refine .inr ⟨rfl, List.all_eq_true.2 fun c hc => ?_⟩
   obtain ⟨i, hi, rfl⟩ := List.getElem_of_mem hc
   have := vH.1 hs i (Nat.zero_le _) (by omega)
   have e : l.getD i d = l[i] := by simp [List.getD, hi]
   rw [e] at this
   cases h : q l[i] with
   | true => rfl
   | false => rw [h] at this; simp at this
 | some x =>
   obtain ⟨i, _, hi, hf, _⟩ := j5 hs
   have hi : i < l.length := by omega
   have e : l.getD i d = l[i] := by simp [List.getD, hi]
   rw [e] at hf
   cases h : q l[i] with
   | true => rw [h] at hf; simp at hf
   | false =>
     rw [h] at hf
     simp at hf
     refine .inl ⟨i, by rw [hf], ?_⟩
     cases ha : l.all q with
     | false => rfl
     | true => rw [List.all_eq_true.1 ha _ (List.getElem_mem hi)] at h; cases h
def qEW (n a b : Int) : Bool := decide (n < a) || decide (b < n)
theorem q5Q {n a b : Int} : H109 (n, a, b) = some (cond (qEW n a b) 3 0) := by
 show (G109 n a b).run = _
 unfold G109 qEW
 rw [vC]
 cases decide (n < a) with
 | true => rfl
 | false =>
   show (Tree.bind (H89 (decide (b < n), 3)) _).run = _
   rw [q6S, qA, qW]
   rfl
theorem q7Y {n : Int} : H88 n = some (cond (qEW n 2 12) 3 0) := by
 show (G88 n).run = _
 unfold G88
 rw [q5Q, qA, qW]
def tH (k : Int) : Int := cond (qEW k 1 24) 3 0
theorem qQ1 {n : Int} : H130 n = some (tH n) := by
 show (G130 n).run = _
 unfold G130
 rw [q5Q, qA, qW]
 rfl
theorem q4S {n : Int} : H63 n = some (tH n) := by
 show (G63 n).run = _
 unfold G63 tH qEW
 rw [q58, qA]
 cases (decide (n < 1) || decide (24 < n)) <;> rfl
def qZB (n c : Int) : Bool := !(c == 0) && (!decide (c <= IntKind.i64.wrap (0 - n)) && !decide (n <= c))
def qQM (n : Int) (w : List Int) : Int := cond (qEW n 2 12) 3 (if w.length = 0 then 12 else if 24 < w.length then 5 else cond (w.all (qZB n)) 0 3)
theorem q8M {α : Type} (w : List α) : ((w.length : Int) == 0) = decide (w.length = 0) := by
 by_cases h : w.length = 0
 ·simp [h]
 ·have : ((w.length : Int) == 0) = false := by simpa using h
  rw [this, decide_eq_false h]
theorem q23 {α : Type} (w : List α) : decide ((24 : Int) < (w.length : Int)) = decide (24 < w.length) := by
 by_cases h : 24 < w.length
 ·rw [decide_eq_true h, decide_eq_true (by omega)]
 ·rw [decide_eq_false h, decide_eq_false (by omega)]
theorem q3S {n : Int} {w : List Int} (hw : w.length < 2 ^ 62) : H19 (n, w) = some (qQM n w) := by
 show (G19 n w).run = _
 unfold G19 qQM
 refine vN w.length (fun i => if qZB n (w.getD i 0) = true then none else some (i : Int)) (fun x => Sum.inr (Sum.inl x)) (Sum.inl (w.length : Int)) (fun k hk => ?_) ?_ ?_
 ·obtain ⟨x, hx, mx⟩ := yZ hk
  have hk3 : (k : Int) < (w.length : Int) := by omega
  simp only [gW hk3, qF, qX hk, qA, hx, getD_at hx, vC, yY (show k < 2 ^ 62 by omega), qZB]
  cases (x == 0) <;> cases decide (x <= IntKind.i64.wrap (0 - n)) <;> cases decide (n <= x) <;> rfl
 ·simp only [gP (Int.lt_irrefl _), qE]
  rfl
 ·rcases qEC (qZB n) 0 w (fun i => (i : Int)) with ⟨i, h1, h2⟩ | ⟨h1, h2⟩
  ·have hi : decide ((0 : Int) <= (i : Int)) = true := decide_eq_true (by omega)
   simp only [h1, h2, eP, z8, q7Y, q6S, qA, hi, q8M, q23, q5J (show [_, _, _, _].length < 2 ^ 62 by simp), qW, cond_true, cond_false]
   cases qEW n 2 12
   ·by_cases a : w.length = 0
    ·simp [a, pY]
    ·by_cases b : 24 < w.length <;> simp [a, b, pY]
   ·simp [pY]
  ·simp only [h1, h2, eP, z8, q7Y, q6S, qA, q8M, q23, q5J (show [_, _, _, _].length < 2 ^ 62 by simp), qW, cond_true, cond_false]
   cases qEW n 2 12
   ·by_cases a : w.length = 0
    ·simp [a, pY]
    ·by_cases b : 24 < w.length <;> simp [a, b, pY]
   ·simp [pY]
theorem qMV {n : Int} (h1 : 2 <= n) (h2 : n <= 12) : IntKind.i64.wrap (0 - n) = 0 - n := wL (by omega) (by omega)
theorem qRX {n : Int} (h : qEW n 2 12 = false) : 2 <= n ∧ n <= 12 := by
 unfold qEW at h
 rw [Bool.or_eq_false_iff, decide_eq_false_iff_not, decide_eq_false_iff_not] at h
 omega
theorem q9X {n : Int} {w : List Int} : H20 (n, w) = some (qQM n w) := by
 show (G20 n w).run = _
 unfold G20 qQM
 rw [q58, qA]
 show (Tree.ite (qEW n 2 12) _ _).run = _
 cases ho : qEW n 2 12 with
 | true => rfl
 | false =>
   obtain ⟨hn1, hn2⟩ := qRX ho
   rw [qE, q8M, q23]
   by_cases a : w.length = 0
   ·simp only [a, decide_true, qF, qW, if_true, cond_false]
   ·by_cases b : 24 < w.length
    ·simp only [a, b, decide_true, decide_false, qF, qE, qW, if_true, if_false, cond_false]
    ·simp only [a, b, decide_false, qE, if_false, cond_false]
     refine vN w.length (fun i => if qZB n (w.getD i 0) = true then none else some (3 : Int)) (fun x => Sum.inr (Sum.inl x)) (Sum.inl (w.length : Int)) (fun k hk => ?_) ?_ ?_
     ·obtain ⟨x, hx, mx⟩ := yZ hk
      have hk3 : (k : Int) < (w.length : Int) := by omega
      have e1 : IntKind.i64.wrap (1 - n) = 1 - n := wL (by omega) (by omega)
      have e2 : IntKind.i64.wrap (n - 1) = n - 1 := wL (by omega) (by omega)
      have e3 : (decide (x < 1 - n) || decide (n - 1 < x)) = !(!decide (x <= IntKind.i64.wrap (0 - n)) && !decide (n <= x)) := by
       rw [qMV hn1 hn2]
       have q1 : decide (x < 1 - n) = decide (x <= 0 - n) := by by_cases h : x < 1 - n <;> simp [h] <;> omega
       have q2 : decide (n - 1 < x) = decide (n <= x) := by by_cases h : n - 1 < x <;> simp [h] <;> omega
       rw [q1, q2]
       cases decide (x <= 0 - n) <;> cases decide (n <= x) <;> rfl
      simp only [gW hk3, qF, qX hk, qA, hx, getD_at hx, vC, q58, e1, e2, e3, yY (show k < 2 ^ 62 by omega), qZB]
      cases (x == 0) <;> cases (!decide (x <= IntKind.i64.wrap (0 - n)) && !decide (n <= x)) <;> rfl
     ·simp only [gP (Int.lt_irrefl _), qE]
      rfl
     ·rcases qEC (qZB n) 0 w (fun _ => (3 : Int)) with ⟨i, h1, h2⟩ | ⟨h1, h2⟩
      ·simp only [h1, h2, eP, z8, qW, cond_false]
      ·simp only [h1, h2, eP, z8, qW, cond_true]
def qPN (n : Int) (c : List Int) : Int := cond (qEW n 2 12) 3 (cond ((c.length : Int) != n) 2 (cond (qB2 c) 0 3))
theorem q9H {n : Int} {c : List Int} (hc : c.length < 2 ^ 62) : H21 (n, c) = some (qPN n c) := by
 show (G21 n c).run = _
 unfold G21 qPN
 simp only [q7Y, q6S, q94 hc, qA, q5J (show [_, _, _].length < 2 ^ 62 by simp), qW]
 cases qEW n 2 12 <;> cases ((c.length : Int) != n) <;> cases qB2 c <;> rfl
theorem q9N {n : Int} {c : List Int} : H22 (n, c) = some (qPN n c) := by
 show (G22 n c).run = _
 unfold G22 qPN
 rw [q58, qA]
 show (Tree.ite (qEW n 2 12) _ _).run = _
 cases ho : qEW n 2 12 with
 | true => rfl
 | false =>
   obtain ⟨hn1, hn2⟩ := qRX ho
   rw [qE]
   cases hl : ((c.length : Int) != n) with
   | true => rfl
   | false =>
     rw [qE]
     have hl : (c.length : Int) = n := by simpa using hl
     refine vN c.length (fun i => if (decide (0 <= c.getD i 0) && decide (c.getD i 0 < 8)) = true then none else some (3 : Int)) (fun x => Sum.inr (Sum.inl x)) (Sum.inl (c.length : Int)) (fun k hk => ?_) ?_ ?_
     ·obtain ⟨x, hx, mx⟩ := yZ hk
      have hk3 : (k : Int) < n := by omega
      have e3 : (decide (x < 0) || decide (7 < x)) = !(decide (0 <= x) && decide (x < 8)) := by
       by_cases h : 0 <= x
       ·have : ¬ x < 0 := by omega
        by_cases h2 : x < 8
        ·have : ¬ 7 < x := by omega
         simp [*]
        ·have : 7 < x := by omega
         simp [*]
       ·have : x < 0 := by omega
        simp [*]
      simp only [gW hk3, qF, qX hk, qA, hx, getD_at hx, q58, e3, yY (show k < 2 ^ 62 by omega)]
      cases (decide (0 <= x) && decide (x < 8)) <;> rfl
     ·simp only [gP (show ¬ (c.length : Int) < n by omega), qE]
      rfl
     ·rcases qEC (fun z => decide (0 <= z) && decide (z < 8)) 0 c (fun _ => (3 : Int)) with ⟨i, h1, h2⟩ | ⟨h1, h2⟩
      ·have h2 : qB2 c = false := h2
       simp only [h1, h2, eP, z8, qW, cond_false]
      ·have h2 : qB2 c = true := h2
       simp only [h1, h2, eP, z8, qW, cond_true, cond_false]
theorem qPZ {n : Int} {w c : List Int} (hw : w.length < 2 ^ 62) (hc : c.length < 2 ^ 62) : H103 (n, w, c) = some (pY [qQM n w, qPN n c]) := by
 show (G103 n w c).run = _
 unfold G103
 rw [q3S hw, qA, q9H hc, qA, q5J (by simp), qA, qW]
theorem zAB {a b : List (List Int)} {e c : Int} (ha : a.length < 2 ^ 62) (hr : ∀ r ∈ a, r.length < 2 ^ 62) : H32 (a, e, b, c) = some (e == c && decide (a = b)) := by
 show (G32 a e b c).run = _
 unfold G32
 rw [uJ]
 cases e == c with
 | true => rw [qF, q8N ha hr, qA, qW]; rfl
 | false => rfl
theorem q9W {a b e c : Int} : H43 (a, e, b, c) = some (e == c && a == b) := by
 show (G43 a e b c).run = _
 unfold G43
 rw [uJ]
 cases e == c <;> rfl
end Go.Proofs.YtpdlblofcdcikaaGreatDoor
namespace Go.Proofs.YtpdlblofcdcikaaGreatDoor
open Go.Idl Go.Sv
theorem rd {l : List Int} {k : Nat} (h : k < l.length) : l[k]? = some (l.getD k 0) := by
 rw [List.getElem?_eq_getElem h]
 simp [List.getD, h]
theorem qJQ {α : Type} {a : List α} {x : α} (h : a.length < 1048576) : (a.length + [x].length).ble 1048576 = true := Nat.ble_eq_true_of_le (by simp; omega)
structure Let (c : Int) (m : Nat) : Prop where
 one : 1 <= m
 abs : c.natAbs = m
 pos : 0 < c -> c = (m : Int) ∧ qQI c = m - 1
 neg : c < 0 -> IntKind.i64.wrap (0 - c) = (m : Int) ∧ qQI c = m
theorem qS7 {c : Int} {n : Nat} (hn : n <= 1000) (h : c ≠ 0 ∧ c.natAbs < n) : Let c c.natAbs := by
 refine ⟨by omega, rfl, fun hc => ⟨by omega, ?_⟩, fun hc => ⟨?_, ?_⟩⟩
 ·unfold qQI; rw [if_pos hc]; omega
 ·rw [wL (by omega) (by omega)]; omega
 ·unfold qQI; rw [if_neg (by omega)]; omega
theorem qP9 {m : Nat} (h1 : 1 <= m) (h : m <= 1000) : IntKind.i64.wrap ((m : Int) - 1) = ((m - 1 : Nat) : Int) := by
 rw [wL (by omega) (by omega)]; omega
theorem q4F {m : Nat} (h : m <= 1000) : IntKind.i64.wrap ((m : Int) + 0) = (m : Int) := by
 rw [wL (by omega) (by omega)]; omega
theorem q7G {m : Nat} (h1 : 1 <= m) (h : m <= 1000) : IntKind.i64.wrap (((m - 1 : Nat) : Int) + 1) = (m : Int) := by
 rw [wL (by omega) (by omega)]; omega
theorem fQ {w : List Int} {k : Nat} {x : Int} (h : w[k]? = some x) : w.take (k + 1) = w.take k ++ [x] := by
 rw [List.take_add_one, h]
 rfl
theorem nW {l : List Int} {m : Nat} (h1 : 1 <= m) (h : m < l.length) : (l.set (m - 1) (l.getD m 0))[m]? = some (l.getD m 0) := by
 rw [List.getElem?_set_ne (by omega), rd h]
theorem bG (k : Nat) : qI k ++ [(k : Int)] = qI (k + 1) := (qJV k).symm
theorem q88 {n : Nat} {w : List Int} (hn : n <= 1000) (hw : okW n w) (hl : w.length <= 1000) : H92 ((n : Int), w) = some (gK w (qI n)) := by
 show (G92 n w).run = _
 unfold G92
 refine zI n (fun (k : Nat) (s : List Int) => ((k : Int), ([] : List Int), s)) (fun k s => s = qI k) (fun k s => s ++ [(k : Int)]) (fun s => Sum.inl ((n : Int), [], s)) [] rfl rfl (fun k s hk hs => ?_) (fun s hs => ?_) (fun hI => ?_)
 ·subst hs
  have hk3 : (k : Int) < (n : Int) := by omega
  simp only [gW hk3, qF, qJQ (show (qI k).length < 1048576 by rw [zA]; omega), yY (show k < 2 ^ 62 by omega), bG]
  exact ⟨rfl, trivial⟩
 ·simp only [gP (Int.lt_irrefl _), qE]
  rfl
 ·rw [hI]
  simp only [z8]
  refine zI w.length (fun (k : Nat) (s : List Int × List Int) => ((k : Int), s.1, s.2)) (fun k s => s = gK (w.take k) (qI n)) (fun k s => gK (w.take (k + 1)) (qI n)) (fun s => Sum.inl ((w.length : Int), s.1, s.2)) ([], qI n) rfl rfl (fun k s hk hs => ?_) (fun s hs => ?_) (fun hI => ?_)
  ·obtain ⟨c, hc, mc⟩ := yZ hk
   have hk3 : (k : Int) < (w.length : Int) := by omega
   have hlc := qS7 hn (hw c mc)
   have hm := (hw c mc).2
   generalize c.natAbs = m at hlc hm
   have hsl := gI (w.take k) (qI n)
   rw [zA, List.length_take] at hsl
   have hx : gK (w.take (k + 1)) (qI n) = (s.1 ++ [s.2.getD (qQI c) 0], uE s.2 m) := by
    rw [fQ hc, nQ, hlc.abs, hs]
   rw [<- hs] at hsl
   have h1 := hlc.one
   have hb : s.1.length < 1048576 := by omega
   have q1 : m < s.2.length := by omega
   have q2 : m - 1 < s.2.length := by omega
   have q3 : m < (s.2.set (m - 1) (s.2.getD m 0)).length := by simp; omega
   refine ⟨?_, rfl⟩
   rw [hx]
   by_cases h0 : c < 0
   ·obtain ⟨e1, e2⟩ := hlc.neg h0
    simp only [gW hk3, qF, qX hk, qA, hc, gW h0, e1, qP9 h1 (show m <= 1000 by omega), q7G h1 (show m <= 1000 by omega), qX q1, rd q1, qJQ hb, qX q2, rd q2, nW h1 q1, yY (show k < 2 ^ 62 by omega), e2]
    rfl
   ·obtain ⟨e1, e2⟩ := hlc.pos (by have := (hw c mc).1; omega)
    subst e1
    simp only [gW hk3, qF, qX hk, qA, hc, gP h0, qE, qP9 h1 (show m <= 1000 by omega), q4F (show m - 1 <= 1000 by omega), qX q1, rd q1, qJQ hb, qX q2, rd q2, nW h1 q1, yY (show k < 2 ^ 62 by omega), e2]
    rfl
  ·simp only [gP (Int.lt_irrefl _), qE]
   rfl
  ·rw [hI, List.take_length]
   simp only [z8, qW]
theorem qY6 {n : Nat} {w : List Int} (hok : okW n w) (r : Nat) : (aF w (qI n) r).length = n := by rw [dU, zA]
theorem q67 {n R : Nat} {w : List Int} (hn : n <= 1000) (hw : okW n w) (hl : w.length <= 1000) (hR : R <= 100000) : H64 ((n : Int), w, (R : Int)) = some (rE w (qI n) R) := by
 show (G64 n w R).run = _
 unfold G64
 refine zI n (fun (k : Nat) (s : List Int) => ((k : Int), s)) (fun k s => s = qI k) (fun k s => s ++ [(k : Int)]) (fun s => Sum.inl ((n : Int), s)) [] rfl rfl (fun k s hk hs => ?_) (fun s hs => ?_) (fun hI => ?_)
 ·subst hs
  have hk3 : (k : Int) < (n : Int) := by omega
  simp only [gW hk3, qF, qJQ (show (qI k).length < 1048576 by rw [zA]; omega), yY (show k < 2 ^ 62 by omega), bG]
  exact ⟨rfl, trivial⟩
 ·simp only [gP (Int.lt_irrefl _), qE]
  rfl
 ·rw [hI]
  simp only [z8]
  refine zI R (fun (k : Nat) (s : List (List Int) × List Int) => ((k : Int), s.1, s.2)) (fun k s => s = (rE w (qI n) k, aF w (qI n) k)) (fun k s => (rE w (qI n) (k + 1), aF w (qI n) (k + 1))) (fun s => Sum.inl ((R : Int), s.1, s.2)) ([], qI n) rfl rfl (fun r s hr hs => ?_) (fun s hs => ?_) (fun hI => ?_)
  ·refine ⟨?_, rfl⟩
   subst hs
   have hr3 : (r : Int) < (R : Int) := by omega
   simp only [gW hr3, qF]
   have hpl := qY6 hw r
   refine zI w.length (fun (k : Nat) (s : List Int × List Int) => ((k : Int), s.1, s.2)) (fun k s => s = gK (w.take k) (aF w (qI n) r)) (fun k s => gK (w.take (k + 1)) (aF w (qI n) r)) (fun s => Sum.inl ((w.length : Int), s.1, s.2)) ([], aF w (qI n) r) rfl rfl (fun k s hk hs => ?_) (fun s hs => ?_) (fun hI => ?_)
   ·obtain ⟨c, hc, mc⟩ := yZ hk
    have hk3 : (k : Int) < (w.length : Int) := by omega
    have hlc := qS7 hn (hw c mc)
    have hm := (hw c mc).2
    generalize c.natAbs = m at hlc hm
    have hsl := gI (w.take k) (aF w (qI n) r)
    rw [hpl, List.length_take] at hsl
    have hx : gK (w.take (k + 1)) (aF w (qI n) r) = (s.1 ++ [s.2.getD (qQI c) 0], uE s.2 m) := by
     rw [fQ hc, nQ, hlc.abs, hs]
    rw [<- hs] at hsl
    have h1 := hlc.one
    have hb : s.1.length < 1048576 := by omega
    have q1 : m < s.2.length := by omega
    have q2 : m - 1 < s.2.length := by omega
    have q3 : m < (s.2.set (m - 1) (s.2.getD m 0)).length := by simp; omega
    refine ⟨?_, rfl⟩
    rw [hx]
    by_cases h0 : 0 < c
    ·obtain ⟨e1, e2⟩ := hlc.pos h0
     subst e1
     simp only [gW hk3, qF, qX hk, qA, hc, gW h0, qP9 h1 (show m <= 1000 by omega), qX q1, rd q1, qJQ hb, qX q2, rd q2, nW h1 q1, yY (show k < 2 ^ 62 by omega), e2]
     rfl
    ·obtain ⟨e1, e2⟩ := hlc.neg (by have := (hw c mc).1; omega)
     simp only [gW hk3, qF, qX hk, qA, hc, gP h0, qE, e1, qP9 h1 (show m <= 1000 by omega), qX q1, rd q1, qJQ hb, qX q2, rd q2, nW h1 q1, yY (show k < 2 ^ 62 by omega), e2]
     rfl
   ·simp only [gP (Int.lt_irrefl _), qE]
    rfl
   ·rw [hI, List.take_length]
    simp only [z8, qJQ (show (rE w (qI n) r).length < 1048576 by rw [qSF]; omega), qF, yY (show r < 2 ^ 62 by omega), qW, qQA, aF]
  ·simp only [gP (Int.lt_irrefl _), qE]
   rfl
  ·rw [hI]
   simp only [z8, qW]
end Go.Proofs.YtpdlblofcdcikaaGreatDoor
namespace Go.Proofs.YtpdlblofcdcikaaGreatDoor
open Go.Idl Go.Sv
theorem q6M {n : Nat} (h : n <= 65536) : mkN (n : Int) = some n := by
 unfold mkN
 rw [if_pos ⟨by omega, by omega⟩, Int.toNat_natCast]
theorem qO3 {a : List Int} {n k : Nat} {v : Int} (ha : a.length = k) (hk : k < n) : (a ++ List.replicate (n - k) 0).set k v = (a ++ [v]) ++ List.replicate (n - (k + 1)) 0 := by
 have e : n - k = (n - (k + 1)) + 1 := by omega
 rw [List.set_append_right _ _ (by omega), e, List.replicate_succ, ha, Nat.sub_self, List.set_cons_zero]
 simp
theorem qNN {a : List Int} {n k : Nat} (ha : a.length = k) (hk : k <= n) : (a ++ List.replicate (n - k) 0).length = n := by simp; omega
theorem mD {f c : List Int} {k : Nat} {z : Int} (h : f[k]? = some z) : kI (f.take (k + 1)) c = kI (f.take k) c ++ [c.getD z.toNat 0] := by
 rw [fQ h]; simp [kI]
theorem qDB {n : Nat} {l : List Int} {k : Nat} {z : Int} (h : inR n l) (hz : l[k]? = some z) : ∃ y : Nat, z = (y : Int) ∧ y < n := by
 obtain ⟨h1, h2⟩ := h z (List.mem_of_getElem? hz)
 exact ⟨z.toNat, by omega, by omega⟩
theorem q7P {p : List Int} (hp : inR p.length p) (hl : p.length <= 1000) : H150 p = some (nA p (qI p.length) p.length p.length) := by
 show (G150 p).run = _
 unfold G150
 rw [q6M (by omega), qA]
 refine zI p.length (fun (k : Nat) (s : List Int) => ((k : Int), s)) (fun k s => s = nA p (qI p.length) p.length k) (fun k s => nA p (qI p.length) p.length (k + 1)) (fun s => Sum.inl ((p.length : Int), s)) (List.replicate p.length 0) rfl rfl (fun k s hk hs => ?_) (fun s hs => ?_) (fun hI => ?_)
 ·refine ⟨?_, rfl⟩
  obtain ⟨c, hc, mc⟩ := yZ hk
  obtain ⟨y, rfl, hy⟩ := qDB hp hc
  have hk3 : (k : Int) < (p.length : Int) := by omega
  have hsl : s.length = p.length := by rw [hs, eT]
  have q1 : y < s.length := by omega
  have e : nA p (qI p.length) p.length (k + 1) = s.set y (k : Int) := by
   rw [nA, <- hs, getD_at hc, qBB hk, Int.toNat_natCast]
  rw [e]
  simp only [gW hk3, qF, qX hk, qA, hc, qX q1, rd q1, yY (show k < 2 ^ 62 by omega)]
  rfl
 ·simp only [gP (Int.lt_irrefl _), qE]
  rfl
 ·rw [hI]
  simp only [z8, qW]
theorem q8L {n : Nat} {w : List Int} (hn : n <= 1000) (hw : okW n w) (hl : w.length <= 1000) : H112 ((n : Int), w) = some (rH n w) := by
 show (G112 n w).run = _
 unfold G112
 refine zI n (fun (k : Nat) (s : List Int) => ((k : Int), s)) (fun k s => s = qI k) (fun k s => s ++ [(k : Int)]) (fun s => Sum.inl ((n : Int), s)) [] rfl rfl (fun k s hk hs => ?_) (fun s hs => ?_) (fun hI => ?_)
 ·subst hs
  have hk3 : (k : Int) < (n : Int) := by omega
  simp only [gW hk3, qF, qJQ (show (qI k).length < 1048576 by rw [zA]; omega), yY (show k < 2 ^ 62 by omega), bG]
  exact ⟨rfl, trivial⟩
 ·simp only [gP (Int.lt_irrefl _), qE]
  rfl
 ·rw [hI]
  simp only [z8]
  refine zI w.length (fun (k : Nat) (s : List Int) => ((k : Int), s)) (fun k s => s = (gK (w.take k) (qI n)).2) (fun k s => (gK (w.take (k + 1)) (qI n)).2) (fun s => Sum.inl ((w.length : Int), s)) (qI n) rfl rfl (fun k s hk hs => ?_) (fun s hs => ?_) (fun hI => ?_)
  ·obtain ⟨c, hc, mc⟩ := yZ hk
   have hk3 : (k : Int) < (w.length : Int) := by omega
   have hlc := qS7 hn (hw c mc)
   have hm := (hw c mc).2
   generalize c.natAbs = m at hlc hm
   have hsl := (gI (w.take k) (qI n)).2
   rw [zA] at hsl
   have hx : (gK (w.take (k + 1)) (qI n)).2 = uE s m := by
    rw [fQ hc, nQ, hlc.abs, hs]
   rw [<- hs] at hsl
   have h1 := hlc.one
   have q1 : m < s.length := by omega
   have q2 : m - 1 < s.length := by omega
   have q3 : m < (s.set (m - 1) (s.getD m 0)).length := by simp; omega
   refine ⟨?_, rfl⟩
   rw [hx]
   by_cases h0 : c < 0
   ·obtain ⟨e1, e2⟩ := hlc.neg h0
    simp only [gW hk3, qF, qX hk, qA, hc, gW h0, e1, qP9 h1 (show m <= 1000 by omega), qX q1, rd q1, qX q2, rd q2, nW h1 q1, yY (show k < 2 ^ 62 by omega)]
    rfl
   ·obtain ⟨e1, e2⟩ := hlc.pos (by have := (hw c mc).1; omega)
    subst e1
    simp only [gW hk3, qF, qX hk, qA, hc, gP h0, qE, qP9 h1 (show m <= 1000 by omega), qX q1, rd q1, qX q2, rd q2, nW h1 q1, yY (show k < 2 ^ 62 by omega)]
    rfl
  ·simp only [gP (Int.lt_irrefl _), qE]
   rfl
  ·rw [hI, List.take_length]
   have hf := y5 hw
   have he := q7P (p := xY n w) (by rw [hf.len]; exact hf.ran) (by rw [hf.len]; exact hn)
   rw [hf.len] at he
   have he : H150 (gK w (qI n)).2 = some (rH n w) := he
   simp only [z8, he, qA, qW]
theorem q47 {ss fs : List Int} {R : Nat} (hfr : inR fs.length fs) (hsr : inR fs.length ss) (hfl : fs.length <= 1000) (hsl : ss.length <= 1000) (hR : R <= 100000) {γ : Type} {stp : γ -> Int × List Int -> Option (γ × Bool)} (I : Nat -> γ -> Prop) (F : Nat -> γ -> γ) {g0 out : γ} (h0 : I 0 g0)
 (hs : ∀ r g, r < R -> I r g -> stp g ((r : Int), rF ss fs r) = some (F r g, true) ∧ I (r + 1) (F r g)) (hout : ∀ g, I R g -> g = out) : H174 ((ss, fs), (R : Int)) γ stp g0 = some out := by
 show (G174 (ss, fs) R γ stp g0).run = _
 unfold G174
 rw [q6M (show fs.length <= 65536 by omega), qA]
 refine zI fs.length (fun (k : Nat) (s : List Int) => (g0, (k : Int), s)) (fun k s => s = qI k ++ List.replicate (fs.length - k) 0) (fun k s => s.set k (k : Int)) (fun s => Sum.inl (g0, (fs.length : Int), s)) (List.replicate fs.length 0) rfl (by simp [qI]) (fun k s hk hs => ?_) (fun s hs => ?_) (fun hI => ?_)
 ·have hk3 : (k : Int) < (fs.length : Int) := by omega
  have hl : s.length = fs.length := by rw [hs, qNN (zA k) (by omega)]
  have q1 : k < s.length := by omega
  refine ⟨?_, ?_⟩
  ·simp only [gW hk3, qF, qX q1, qA, rd q1, yY (show k < 2 ^ 62 by omega)]
   rfl
  ·rw [hs, qO3 (zA k) hk, bG]
 ·simp only [gP (Int.lt_irrefl _), qE]
  rfl
 ·rw [hI, Nat.sub_self, List.replicate_zero, List.append_nil]
  simp only [z8]
  refine zI R (fun (r : Nat) (s : γ × List Int) => (s.1, s.2, (r : Int))) (fun r s => I r s.1 ∧ s.2 = qB5 fs r (qI fs.length)) (fun r s => (F r s.1, kI fs s.2)) (fun s => Sum.inl (s.1, s.2, (R : Int))) (g0, qI fs.length) rfl ⟨h0, rfl⟩ (fun r s hr hs1 => ?_) (fun s hs => ?_) (fun hI => ?_)
  ·obtain ⟨hg, hat⟩ := hs1
   obtain ⟨g, at'⟩ := s
   simp only at hg hat
   have hr3 : (r : Int) < (R : Int) := by omega
   have hal : at'.length = fs.length := by rw [hat, qUI rfl (zA _)]
   obtain ⟨hs1, hs2⟩ := hs r g hr hg
   refine ⟨?_, hs2, by rw [hat]; rfl⟩
   simp only [gW hr3, qF]
   refine zI ss.length (fun (k : Nat) (s : List Int) => (g, (k : Int), s)) (fun k s => s = kI (ss.take k) at') (fun k s => kI (ss.take (k + 1)) at') (fun s => Sum.inl (g, (ss.length : Int), s)) [] rfl rfl (fun k s hk hs => ?_) (fun s hs => ?_) (fun hI => ?_)
   ·obtain ⟨z, hz, mz⟩ := yZ hk
    have hgs := mD (c := at') hz
    obtain ⟨y, rfl, hy⟩ := qDB hsr hz
    have hk3 : (k : Int) < (ss.length : Int) := by omega
    have q1 : y < at'.length := by omega
    have hb : s.length < 1048576 := by rw [hs, jG, List.length_take]; omega
    refine ⟨?_, rfl⟩
    rw [hgs, <- hs, Int.toNat_natCast]
    simp only [gW hk3, qF, qX hk, qA, hz, qX q1, rd q1, qJQ hb, yY (show k < 2 ^ 62 by omega)]
    rfl
   ·simp only [gP (Int.lt_irrefl _), qE]
    rfl
   ·rw [hI, List.take_length]
    have hrow : kI ss at' = rF ss fs r := by rw [hat]; rfl
    simp only [z8, hrow, hs1, qA, Bool.not_true, qE, q6M (show at'.length <= 65536 by omega)]
    rw [hal]
    refine zI fs.length (fun (k : Nat) (s : List Int) => (F r g, (k : Int), s)) (fun k s => s = kI (fs.take k) at' ++ List.replicate (fs.length - k) 0) (fun k s => kI (fs.take (k + 1)) at' ++ List.replicate (fs.length - (k + 1)) 0) (fun s => Sum.inl (F r g, (fs.length : Int), s)) (List.replicate fs.length 0) rfl (by simp [kI]) (fun k s hk hs => ?_) (fun s hs => ?_) (fun hI => ?_)
    ·obtain ⟨z, hz, mz⟩ := yZ hk
     have hgs := mD (c := at') hz
     obtain ⟨y, rfl, hy⟩ := qDB hfr hz
     have hk3 : (k : Int) < (fs.length : Int) := by omega
     have q1 : y < at'.length := by omega
     have hgl : (kI (fs.take k) at').length = k := by rw [jG, List.length_take]; omega
     have hl : s.length = fs.length := by rw [hs, qNN hgl (by omega)]
     have q2 : k < s.length := by omega
     refine ⟨?_, rfl⟩
     rw [hgs, <- qO3 hgl hk, <- hs, Int.toNat_natCast]
     simp only [gW hk3, qF, qX hk, qA, hz, qX hy, rd q1, qX q2, rd q2, yY (show k < 2 ^ 62 by omega)]
     rfl
    ·simp only [gP (Int.lt_irrefl _), qE]
     rfl
    ·rw [hI, List.take_length, Nat.sub_self, List.replicate_zero, List.append_nil]
     simp only [z8, yY (show r < 2 ^ 62 by omega), qW]
  ·simp only [gP (Int.lt_irrefl _), qE]
   rfl
  ·obtain ⟨h1, h2⟩ := hI
   simp only [z8, qW]
   rw [hout _ h1]
theorem q6U {ss fs : List Int} {R : Nat} (hfr : inR fs.length fs) (hsr : inR fs.length ss) (hfl : fs.length <= 1000) (hsl : ss.length <= 1000) (hR : R <= 100000) : H131 ((ss, fs), (R : Int)) = some (bM ss fs R) := by
 show (G131 (ss, fs) R).run = _
 refine Eq.trans (congrArg (fun o : Option (List (List Int)) => (Tree.bind o fun x2 => Tree.ret x2).run) (q47 (stp := fun (s2 : List (List Int)) (y3 : Int × List Int) => Tree.ite ((s2.length + [y3.snd].length).ble 1048576) (Tree.ret (s2 ++ [y3.snd], true)) Tree.fail) hfr hsr hfl hsl hR (fun r g => g = bM ss fs r) (fun r g => g ++ [rF ss fs r]) (g0 := []) (out := bM ss fs R) rfl (fun r g hr hg => ?_) (fun g hg => hg))) rfl
 subst hg
 refine ⟨?_, (qCV ss fs r).symm⟩
 show (Tree.ite _ _ _ : Tree _).run = _
 rw [qJQ (by rw [qH3]; omega)]
 rfl
def pV (c : List Int) (p : List (List Int)) : List (List Int) := p.map fun r => kI r c
theorem q4W {ss fs c : List Int} {R : Nat} (hfr : inR fs.length fs) (hsr : inR fs.length ss) (hfl : fs.length <= 1000) (hsl : ss.length <= 1000) (hR : R <= 100000) (hc : c.length = fs.length) (hrow : ∀ r, inR fs.length (rF ss fs r)) : H133 ((ss, fs), c, (R : Int)) = some (pV c (bM ss fs R)) := by
 show (G133 (ss, fs) c R).run = _
 refine Eq.trans (congrArg (fun o : Option (List (List Int)) => (Tree.bind o fun x2 => Tree.ret x2).run) (q47 (stp := (fun (s3 : List (List Int)) (y4 : Int × List Int) => Tree.bind (qL (fun (s5 : Int × List Int) => Tree.ite (decide (s5.fst < (↑y4.snd.length : Int))) (Tree.bind (idx y4.snd.length s5.fst) fun (x6 : Nat) => Tree.bind y4.snd[x6]? fun (x7 : Int) => Tree.bind (idx c.length x7) fun (x8 : Nat) => Tree.bind c[x8]? fun (x9 : Int) => Tree.ite ((s5.snd.length + [x9].length).ble 1048576) (Tree.ret (Sum.inl (IntKind.i64.wrap (s5.fst + 1), s5.snd ++ [x9]))) Tree.fail) (Tree.ret (Sum.inr (Sum.inl (s5.fst, s5.snd))))) (0, [])) fun (x5 : Int × List Int ⊕ List (List Int) ⊕ Nat × Int × List Int) => Tree.sum x5 (fun (s6 : Int × List Int) => Tree.ite ((s3.length + [s6.snd].length).ble 1048576) (Tree.ret (s3 ++ [s6.snd], true)) Tree.fail) fun (s6 : List (List Int) ⊕ Nat × Int × List Int) => Tree.sum s6 (fun (s7 : List (List Int)) => Tree.fail) fun (s7 : Nat × Int × List Int) => Tree.fail)) hfr hsr hfl hsl hR (fun r g => g = pV c (bM ss fs r)) (fun r g => g ++ [kI (rF ss fs r) c]) (g0 := []) (out := pV c (bM ss fs R)) rfl (fun r g hr hg => ?_) (fun g hg => hg))) rfl
 subst hg
 refine ⟨?_, by rw [qCV]; simp [pV]⟩
 have hrl : (rF ss fs r).length = ss.length := by unfold rF; rw [jG]
 have hrr := hrow r
 generalize rF ss fs r = row at hrl hrr
 refine zI row.length (fun (k : Nat) (s : List Int) => ((k : Int), s)) (fun k s => s = kI (row.take k) c) (fun k s => kI (row.take (k + 1)) c) (fun s => Sum.inl ((row.length : Int), s)) [] rfl rfl (fun k s hk hs => ?_) (fun s hs => ?_) (fun hI => ?_)
 ·obtain ⟨z, hz, mz⟩ := yZ hk
  have hgs := mD (c := c) hz
  obtain ⟨y, rfl, hy⟩ := qDB hrr hz
  have hk3 : (k : Int) < (row.length : Int) := by omega
  have q1 : y < c.length := by omega
  have hb : s.length < 1048576 := by rw [hs, jG, List.length_take]; omega
  refine ⟨?_, rfl⟩
  rw [hgs, <- hs, Int.toNat_natCast]
  simp only [gW hk3, qF, qX hk, qA, hz, qX q1, rd q1, qJQ hb, yY (show k < 2 ^ 62 by omega)]
  rfl
 ·simp only [gP (Int.lt_irrefl _), qE]
  rfl
 ·rw [hI, List.take_length]
  simp only [z8, qJQ (show (pV c (bM ss fs r)).length < 1048576 by unfold pV; rw [List.length_map, qH3]; omega), qF, qW]
end Go.Proofs.YtpdlblofcdcikaaGreatDoor
namespace Go.Proofs.YtpdlblofcdcikaaGreatDoor
open Go.Idl Go.Sv
def phi (f : List Int) (i : Nat) : Nat := (f.getD i 0).toNat
def itp (f : List Int) : Nat -> Nat -> Nat
 | 0, i => i
 | t + 1, i => itp f t (phi f i)
theorem uM (f : List Int) : ∀ (a b i : Nat), itp f (a + b) i = itp f b (itp f a i)
 | 0, b, i => by rw [Nat.zero_add]; rfl
 | a + 1, b, i => by
   rw [show a + 1 + b = (a + b) + 1 by omega]
   show itp f (a + b) (phi f i) = itp f b (itp f a (phi f i))
   exact uM f a b _
theorem vT (f : List Int) (t i : Nat) : itp f (t + 1) i = phi f (itp f t i) := by
 rw [uM f t 1]; rfl
theorem wM {n : Nat} {f : List Int} (hf : PermL n f) {i : Nat} (h : i < n) : f[i]? = some ((phi f i : Nat) : Int) ∧ phi f i < n := by
 have hl : i < f.length := by rw [hf.len]; exact h
 have e : f[i]? = some (f.getD i 0) := by
  rw [List.getElem?_eq_getElem hl]
  simp [List.getD, hl]
 obtain ⟨h1, h2⟩ := hf.ran _ (List.mem_of_getElem? e)
 refine ⟨by rw [e]; unfold phi; congr 1; omega, ?_⟩
 unfold phi; omega
theorem qK9 {n : Nat} {f : List Int} (hf : PermL n f) {i j : Nat} (hi : i < n) (hj : j < n) (h : phi f i = phi f j) : i = j :=
 hf.inj i j (phi f i : Nat) (wM hf hi).1 (by rw [h]; exact (wM hf hj).1)
theorem wJ {n : Nat} {f : List Int} (hf : PermL n f) : ∀ (t : Nat) {i : Nat}, i < n -> itp f t i < n
 | 0, i, h => h
 | t + 1, i, h => wJ hf t (wM hf h).2
theorem qLO {n : Nat} {f : List Int} (hf : PermL n f) : ∀ (t : Nat) {i j : Nat}, i < n -> j < n -> itp f t i = itp f t j -> i = j
 | 0, i, j, _, _, h => h
 | t + 1, i, j, hi, hj, h => qK9 hf hi hj (qLO hf t (wM hf hi).2 (wM hf hj).2 h)
theorem qUH {n : Nat} {f : List Int} (hf : PermL n f) : ∀ (t : Nat) {i : Nat}, i < n -> (qB5 f t (qI n))[i]? = some ((itp f t i : Nat) : Int)
 | 0, i, h => by simp [qB5, qI, itp, h]
 | t + 1, i, h => by
   obtain ⟨h1, h2⟩ := wM hf h
   have h3 := qUH hf t h2
   show (kI f (qB5 f t (qI n)))[i]? = _
   unfold kI
   rw [List.getElem?_map, h1, Option.map_some, Int.toNat_natCast, List.getD, h3]
   rfl
theorem q4J (g : Nat -> Nat) (N : Nat) (h : ∀ i, g i < N) : ∃ a b, a < b ∧ b <= N ∧ g a = g b := by
 apply Classical.byContradiction
 intro hc
 have hnd : ((List.range (N + 1)).map g).Nodup := by
  rw [List.nodup_iff_pairwise_ne, List.pairwise_map]
  refine List.Pairwise.imp_of_mem (fun {a b} ha hb hab e => ?_) (List.pairwise_lt_range (n := N + 1))
  exact hc ⟨a, b, hab, by have := List.mem_range.1 hb; omega, e⟩
 have := qR3 N _ hnd (fun x hx => by
  obtain ⟨i, _, rfl⟩ := List.mem_map.1 hx
  exact h i)
 simp at this
 omega
theorem comes {n : Nat} {f : List Int} (hf : PermL n f) {i : Nat} (hi : i < n) : ∃ t, 1 <= t ∧ t <= n ∧ itp f t i = i := by
 obtain ⟨a, b, h1, h2, h3⟩ := q4J (fun t => itp f t i) n (fun t => wJ hf t hi)
 refine ⟨b - a, by omega, by omega, ?_⟩
 have h3 : itp f a i = itp f b i := h3
 rw [show b = (b - a) + a by omega, uM] at h3
 exact (qLO hf a hi (wJ hf (b - a) hi) h3).symm
def pM (p : Nat -> Bool) : Nat -> Nat -> Nat
 | 0, k => k
 | m + 1, k => cond (p k) k (pM p m (k + 1))
theorem qBL {p : Nat -> Bool} : ∀ (m k : Nat), (∃ t, k <= t ∧ t <= k + m ∧ p t = true) -> p (pM p m k) = true ∧ k <= pM p m k ∧ pM p m k <= k + m ∧ ∀ t, k <= t -> t < pM p m k -> p t = false
 | 0, k, ⟨t, h1, h2, h3⟩ => by
   have : t = k := by omega
   subst this
   exact ⟨h3, Nat.le_refl _, Nat.le_refl _, fun s h1 h2 => by unfold pM at h2; omega⟩
 | m + 1, k, ⟨t, h1, h2, h3⟩ => by
   unfold pM
   cases hp : p k with
   | true => exact ⟨hp, Nat.le_refl _, by simp, fun s h1 h2 => by simp at h2; omega⟩
   | false =>
     have hne : t ≠ k := fun e => by rw [e, hp] at h3; cases h3
     obtain ⟨a1, a2, a3, a4⟩ := qBL m (k + 1) ⟨t, by omega, by omega, h3⟩
     refine ⟨a1, by simp only [cond_false]; omega, by simp only [cond_false]; omega, fun s h1 h2 => ?_⟩
     simp only [cond_false] at h2
     by_cases e : s = k
     ·rw [e]; exact hp
     ·exact a4 s (by omega) h2
def cyc (f : List Int) (n p : Nat) : Nat := pM (fun t => decide (itp f t p = p)) n 1
theorem wH {n : Nat} {f : List Int} (hf : PermL n f) {p : Nat} (hp : p < n) : itp f (cyc f n p) p = p ∧ 1 <= cyc f n p ∧ cyc f n p <= n ∧ ∀ t, 1 <= t -> t < cyc f n p -> itp f t p ≠ p := by
 obtain ⟨t, h1, h2, h3⟩ := comes hf hp
 obtain ⟨a1, a2, a3, a4⟩ := qBL (p := fun t => decide (itp f t p = p)) n 1 ⟨t, h1, by omega, by simpa using h3⟩
 have hle : cyc f n p <= n := by
  apply Classical.byContradiction
  intro hc
  have := a4 t h1 (by show t < cyc f n p; omega)
  simp [h3] at this
 exact ⟨by simpa [cyc] using a1, a2, hle, fun s h4 h5 => by simpa using a4 s h4 h5⟩
theorem qFN {f : List Int} {c p : Nat} (h : itp f c p = p) : ∀ q, itp f (c * q) p = p
 | 0 => rfl
 | q + 1 => by rw [Nat.mul_succ, uM, qFN h q, h]
theorem qKF {n : Nat} {f : List Int} (hf : PermL n f) {p : Nat} (hp : p < n) (m : Nat) : itp f m p = p ↔ cyc f n p ∣ m := by
 obtain ⟨a1, a2, a3, a4⟩ := wH hf hp
 constructor
 ·intro h
  have e : m = cyc f n p * (m / cyc f n p) + m % cyc f n p := (Nat.div_add_mod _ _).symm
  rw [e, uM, qFN a1] at h
  have hlt := Nat.mod_lt m (show cyc f n p > 0 by omega)
  by_cases h0 : m % cyc f n p = 0
  ·exact Nat.dvd_of_mod_eq_zero h0
  ·exact absurd h (a4 _ (by omega) hlt)
 ·rintro ⟨q, rfl⟩
  exact qFN a1 q
def qNL (f : List Int) (n : Nat) (ss : List Int) : Nat := ss.foldl (fun a z => Nat.lcm a (cyc f n z.toNat)) 1
theorem qN0 (g : Int -> Nat) : ∀ (l : List Int) (a m : Nat), l.foldl (fun a z => Nat.lcm a (g z)) a ∣ m ↔ a ∣ m ∧ ∀ z ∈ l, g z ∣ m
 | [], a, m => by simp
 | z :: l, a, m => by
   rw [List.foldl_cons, qN0 g l]
   constructor
   ·rintro ⟨h1, h2⟩
    refine ⟨Nat.dvd_trans (Nat.dvd_lcm_left _ _) h1, fun y hy => ?_⟩
    rcases List.mem_cons.1 hy with rfl | hy
    ·exact Nat.dvd_trans (Nat.dvd_lcm_right _ _) h1
    ·exact h2 y hy
   ·rintro ⟨h1, h2⟩
    exact ⟨Nat.lcm_dvd h1 (h2 z List.mem_cons_self), fun y hy => h2 y (List.mem_cons_of_mem _ hy)⟩
theorem qPA {f : List Int} {n : Nat} {ss : List Int} {m : Nat} : qNL f n ss ∣ m ↔ ∀ z ∈ ss, cyc f n z.toNat ∣ m := by
 unfold qNL
 rw [qN0 (fun z => cyc f n z.toNat)]
 simp
theorem qBK {n : Nat} {ss fs : List Int} (hf : PermL n fs) (hs : inR n ss) (r : Nat) {c : Nat} {z : Int} (hz : ss[c]? = some z) : (rF ss fs r)[c]? = some ((itp fs r z.toNat : Nat) : Int) := by
 unfold rF kI
 rw [hf.len, List.getElem?_map, hz, Option.map_some]
 obtain ⟨h1, h2⟩ := hs z (List.mem_of_getElem? hz)
 rw [List.getD, qUH hf r (show z.toNat < n by omega)]
 rfl
theorem uR (ss fs : List Int) (r : Nat) : (rF ss fs r).length = ss.length := by unfold rF; rw [jG]
theorem qLJ {n : Nat} {ss fs : List Int} (hf : PermL n fs) (hs : inR n ss) (r : Nat) : inR n (rF ss fs r) := by
 intro z hz
 obtain ⟨c, hc, rfl⟩ := List.getElem_of_mem hz
 have hl : c < ss.length := by rw [uR] at hc; exact hc
 have h1 := qBK hf hs r (List.getElem?_eq_getElem hl)
 rw [List.getElem?_eq_getElem hc] at h1
 injection h1 with h1
 rw [h1]
 obtain ⟨h2, h3⟩ := hs ss[c] (List.getElem_mem hl)
 have := wJ hf r (show (ss[c]).toNat < n by omega)
 omega
theorem qS2 {n : Nat} {ss fs : List Int} (hf : PermL n fs) (hs : inR n ss) (a b : Nat) : rF ss fs a = rF ss fs b ↔ ∀ z ∈ ss, itp fs a z.toNat = itp fs b z.toNat := by
 constructor
 ·intro h z hz
  obtain ⟨c, hc, rfl⟩ := List.getElem_of_mem hz
  have h1 := qBK hf hs a (List.getElem?_eq_getElem hc)
  have h2 := qBK hf hs b (List.getElem?_eq_getElem hc)
  rw [h, h2] at h1
  injection h1 with h1
  omega
 ·intro h
  apply List.ext_getElem?
  intro c
  by_cases hc : c < ss.length
  ·rw [qBK hf hs a (List.getElem?_eq_getElem hc), qBK hf hs b (List.getElem?_eq_getElem hc), h _ (List.getElem_mem hc)]
  ·rw [List.getElem?_eq_none (by rw [uR]; omega), List.getElem?_eq_none (by rw [uR]; omega)]
theorem qOK {n : Nat} {ss fs : List Int} (hf : PermL n fs) (hs : inR n ss) (k : Nat) : (∀ r, rF ss fs r = rF ss fs (r + k)) ↔ rF ss fs 0 = rF ss fs k := by
 constructor
 ·intro h
  have := h 0
  rwa [Nat.zero_add] at this
 ·intro h r
  rw [qS2 hf hs] at h ⊢
  intro z hz
  rw [Nat.add_comm, uM, <- h z hz]
  rfl
theorem qTF {n : Nat} {ss fs : List Int} (hf : PermL n fs) (hs : inR n ss) (k : Nat) : rF ss fs 0 = rF ss fs k ↔ qNL fs n ss ∣ k := by
 rw [qS2 hf hs, qPA]
 constructor
 ·intro h z hz
  obtain ⟨h2, h3⟩ := hs z hz
  exact (qKF hf (by omega) k).1 (h z hz).symm
 ·intro h z hz
  obtain ⟨h2, h3⟩ := hs z hz
  exact ((qKF hf (by omega) k).2 (h z hz)).symm
end Go.Proofs.YtpdlblofcdcikaaGreatDoor
namespace Go.Proofs.YtpdlblofcdcikaaGreatDoor
open Go.Idl Go.Sv
section
variable {α : Type} [DecidableEq α]
def fD (c : Nat -> α) (h k : Nat) : Bool := (List.range h).all fun r => decide (c r = c (r + k))
theorem qIT {c : Nat -> α} {h k : Nat} : fD c h k = true ↔ ∀ r, r < h -> c r = c (r + k) := by
 unfold fD
 rw [List.all_eq_true]
 constructor
 ·intro H r hr
  simpa using H r (List.mem_range.2 hr)
 ·intro H r hr
  simpa using H r (List.mem_range.1 hr)
def qJS (c : Nat -> α) (h : Nat) : Nat := (scan (fun k => if fD c h k = true then some k else none) (h - 1) 1).getD h
theorem qK0 {c : Nat -> α} {P : Nat} (hp : ∀ r, c (r + P) = c r) : ∀ q r, c (r + P * q) = c r
 | 0, r => rfl
 | q + 1, r => by rw [Nat.mul_succ, <- Nat.add_assoc, hp, qK0 hp q r]
theorem qFG {c : Nat -> α} {P h : Nat} (hP : 1 <= P) (hp : ∀ r, c (r + P) = c r) (hd : P ∣ h) (hh : 1 <= h) (k : Nat) : fD c h k = true ↔ ∀ r, c r = c (r + k) := by
 rw [qIT]
 constructor
 ·intro H r
  have hle : P <= h := Nat.le_of_dvd (by omega) hd
  have hlt := Nat.mod_lt r (show P > 0 by omega)
  have e : r = r % P + P * (r / P) := (Nat.mod_add_div r P).symm
  have h1 := H (r % P) (by omega)
  rw [e, qK0 hp, h1, show r % P + P * (r / P) + k = r % P + k + P * (r / P) by omega, qK0 hp]
 ·intro H r _
  exact H r
theorem qIE {c : Nat -> α} {P h : Nat} (hP : 1 <= P) (hp : ∀ r, c (r + P) = c r) (hd : P ∣ h) (hh : 1 <= h) : 1 <= qJS c h ∧ qJS c h <= P ∧ (∀ r, c r = c (r + qJS c h)) ∧ ∀ k, 1 <= k -> k < qJS c h -> ¬ ∀ r, c r = c (r + k) := by
 have hle : P <= h := Nat.le_of_dvd (by omega) hd
 unfold qJS
 cases hs : scan (fun k => if fD c h k = true then some k else none) (h - 1) 1 with
 | none =>
   have hn := vH.1 hs
   have hnf : ∀ k, 1 <= k -> k < h -> ¬ ∀ r, c r = c (r + k) := fun k h1 h2 hf => by
    have := hn k h1 (by omega)
    rw [if_pos ((qFG hP hp hd hh k).2 hf)] at this
    cases this
   have hPh : P = h := by
    rcases Nat.lt_or_ge P h with h1 | h1
    ·exact absurd (fun r => (hp r).symm) (hnf P hP h1)
    ·omega
   refine ⟨hh, by simp only [Option.getD_none]; omega, fun r => ?_, hnf⟩
   simp only [Option.getD_none]
   rw [<- hPh]
   exact (hp r).symm
 | some v =>
   obtain ⟨i, h1, h2, h3, h4⟩ := j5 hs
   have hv : fD c h i = true ∧ v = i := by
    cases hc : fD c h i with
    | true => simp only [hc] at h3; cases h3; exact ⟨rfl, rfl⟩
    | false => simp [hc] at h3
   obtain ⟨hv, rfl⟩ := hv
   have hm : ∀ k, 1 <= k -> k < v -> ¬ ∀ r, c r = c (r + k) := fun k h5 h6 hf => by
    have := h4 k h5 h6
    rw [if_pos ((qFG hP hp hd hh k).2 hf)] at this
    cases this
   refine ⟨h1, ?_, (qFG hP hp hd hh v).1 hv, hm⟩
   rcases Nat.lt_or_ge P v with h5 | h5
   ·exact absurd (fun r => (hp r).symm) (hm P hP h5)
   ·exact h5
theorem qBS {c : Nat -> α} {P h v : Nat} (hP : 1 <= P) (hp : ∀ r, c (r + P) = c r) (hd : P ∣ h) (hh : 1 <= h) (h1 : 1 <= v) (h2 : ∀ r, c r = c (r + v)) (h3 : ∀ k, 1 <= k -> k < v -> ¬ ∀ r, c r = c (r + k)) : qJS c h = v := by
 obtain ⟨a1, a2, a3, a4⟩ := qIE hP hp hd hh
 rcases Nat.lt_trichotomy (qJS c h) v with h | h | h
 ·exact absurd a3 (h3 _ a1 h)
 ·exact h
 ·exact absurd h2 (a4 _ h1 h)
theorem qSR {c : Nat -> α} {P h h' : Nat} (hP : 1 <= P) (hp : ∀ r, c (r + P) = c r) (hd : P ∣ h) (hh : 1 <= h) (hd' : P ∣ h') (hh' : 1 <= h') : qJS c h = qJS c h' := by
 obtain ⟨a1, a2, a3, a4⟩ := qIE hP hp hd' hh'
 exact qBS hP hp hd hh a1 a3 a4
theorem blk {c : Nat -> α} {R h k : Nat} (hR : k + h <= R) : ((((List.range R).map c).drop 0).take h = (((List.range R).map c).drop k).take h) ↔ fD c h k = true := by
 rw [qIT]
 have g1 : ∀ r, r < h -> ((((List.range R).map c).drop 0).take h)[r]? = some (c r) := fun r hr => by
  rw [List.getElem?_take_of_lt hr, List.drop_zero, List.getElem?_map, List.getElem?_range (by omega)]
  rfl
 have g2 : ∀ r, r < h -> ((((List.range R).map c).drop k).take h)[r]? = some (c (r + k)) := fun r hr => by
  rw [List.getElem?_take_of_lt hr, List.getElem?_drop, List.getElem?_map, List.getElem?_range (by omega), Nat.add_comm k r]
  rfl
 constructor
 ·intro H r hr
  have h1 := g1 r hr
  rw [H, g2 r hr] at h1
  injection h1 with h1
  exact h1.symm
 ·intro H
  apply List.ext_getElem?
  intro r
  by_cases hr : r < h
  ·rw [g1 r hr, g2 r hr, H r hr]
  ·rw [List.getElem?_eq_none (by simp; omega), List.getElem?_eq_none (by simp; omega)]
end
end Go.Proofs.YtpdlblofcdcikaaGreatDoor
namespace Go.Proofs.YtpdlblofcdcikaaGreatDoor
open Go.Idl Go.Sv
theorem q1O {a b : Nat} (hb : b ≠ 0) : qVG (a : Int) (b : Int) = some ((a % b : Nat) : Int) := by
 unfold qVG
 rw [if_neg (by omega), <- Int.ofNat_tmod]
theorem qXD {a b : Nat} (hb : b ≠ 0) (ha : a < 2 ^ 62) : qKO .i64 (a : Int) (b : Int) = some ((a / b : Nat) : Int) := by
 unfold qKO
 rw [if_neg (by omega), <- Int.ofNat_tdiv]
 have := Nat.div_le_self a b
 generalize a / b = q at this ⊢
 rw [wL (by omega) (by omega)]
noncomputable def F147 (s2 : Int × Int) : Option (Int × Int ⊕ (Int × Int ⊕ Int ⊕ Nat × Int × Int)) := Tree.ite (s2.snd != 0) (Tree.bind (qVG s2.fst s2.snd) fun (x3 : Int) => Tree.ret (Sum.inl (s2.snd, x3))) (Tree.ret (Sum.inr (Sum.inl (s2.fst, s2.snd))))
theorem q2P : ∀ (y x : Nat), qL F147 ((x : Int), (y : Int)) = some (Sum.inl (((Nat.gcd x y : Nat) : Int), 0)) := by
 intro y
 induction y using Nat.strongRecOn with
 | _ y ih =>
   intro x
   rw [qU]
   by_cases hy : y = 0
   ·subst hy
    have e : F147 ((x : Int), ((0 : Nat) : Int)) = some (Sum.inr (Sum.inl ((x : Int), 0))) := rfl
    rw [e, Nat.gcd_zero_right]
   ·have hb : ((y : Int) != 0) = true := by simp; omega
    have e : F147 ((x : Int), (y : Int)) = some (Sum.inl ((y : Int), ((x % y : Nat) : Int))) := by
     unfold F147
     simp only [hb, qF, q1O hy, qA]
     rfl
    rw [e]
    simp only
    rw [ih (x % y) (Nat.mod_lt _ (by omega)) y]
    congr 3
    rw [Nat.gcd_comm x y, Nat.gcd_rec y x, Nat.gcd_comm]
theorem q8O {a b : Nat} (ha : 1 <= a) (hb : 1 <= b) (h1 : a < 2 ^ 30) (h2 : b < 2 ^ 30) : H147 ((a : Int), (b : Int)) = some ((Nat.lcm a b : Nat) : Int) := by
 show (G147 a b).run = _
 unfold G147
 have hl := q2P b a
 have hg : 0 < Nat.gcd a b := Nat.gcd_pos_of_pos_left b (by omega)
 have h3 : a / Nat.gcd a b <= a := Nat.div_le_self _ _
 have h4 : a / Nat.gcd a b * b <= a * b := Nat.mul_le_mul_right _ h3
 have h5 : a * b < 2 ^ 60 := by
  have := Nat.mul_lt_mul'' h1 h2
  have e : (2 : Nat) ^ 30 * 2 ^ 30 = 2 ^ 60 := by decide
  omega
 have hw : IntKind.i64.wrap (((a / Nat.gcd a b : Nat) : Int) * (b : Int)) = ((Nat.lcm a b : Nat) : Int) := by
  have e : Nat.lcm a b = a / Nat.gcd a b * b := by
   unfold Nat.lcm
   rw [Nat.mul_comm a b, Nat.mul_div_assoc _ (Nat.gcd_dvd_left a b), Nat.mul_comm]
  rw [e, <- Int.natCast_mul, wL (by omega) (by omega)]
 show (Tree.bind (qL F147 ((a : Int), (b : Int))) _ : Tree Int).run = _
 rw [hl, qA]
 simp only [z8, qXD (show Nat.gcd a b ≠ 0 by omega) (show a < 2 ^ 62 by omega), qA, hw, qW]
noncomputable def F148 (fs : List Int) (p : Nat) (s4 : Int × Int) : Option (Int × Int ⊕ (Int × Int ⊕ Int ⊕ Nat × Int × Int)) := Tree.ite (s4.snd != (p : Int)) (Tree.bind (idx fs.length s4.snd) fun (x5 : Nat) => Tree.bind fs[x5]? fun (x6 : Int) => Tree.ret (Sum.inl (IntKind.i64.wrap (s4.fst + 1), x6))) (Tree.ret (Sum.inr (Sum.inl (s4.fst, s4.snd))))
theorem q8T {n : Nat} {ss fs : List Int} {p : Nat} (hf : PermL n fs) (hp : p < n) (hn : n <= 1000) : H148 ((ss, fs), (p : Int)) = some ((cyc fs n p : Nat) : Int) := by
 show (G148 (ss, fs) p).run = _
 unfold G148
 obtain ⟨c1, c2, c3, c4⟩ := wH hf hp
 obtain ⟨g1, g2⟩ := wM hf hp
 have hl : p < fs.length := by rw [hf.len]; exact hp
 simp only [qX hl, qA, g1]
 have key : ∀ (m t : Nat), 1 <= t -> t + m = cyc fs n p -> qL (F148 fs p) ((t : Int), ((itp fs t p : Nat) : Int)) = some (Sum.inl (((cyc fs n p : Nat) : Int), (p : Int))) := by
  intro m
  induction m with
  | zero =>
    intro t ht h
    have : t = cyc fs n p := by omega
    subst this
    rw [qU, c1]
    have e : ((p : Int) != (p : Int)) = false := by simp
    unfold F148
    simp only [e, qE]
    rfl
  | succ m ih =>
    intro t ht h
    have hne := c4 t ht (by omega)
    have hlt := wJ hf t hp
    have e : (((itp fs t p : Nat) : Int) != (p : Int)) = true := by simp; omega
    have q1 : itp fs t p < fs.length := by rw [hf.len]; exact hlt
    have := ih (t + 1) (by omega) (by omega)
    rw [vT] at this
    rw [qU]
    have e2 : F148 fs p ((t : Int), ((itp fs t p : Nat) : Int)) = some (Sum.inl (((t + 1 : Nat) : Int), ((phi fs (itp fs t p) : Nat) : Int))) := by
     unfold F148
     simp only [e, qF, qX q1, qA, (wM hf hlt).1, yY (show t < 2 ^ 62 by omega)]
     rfl
    rw [e2]
    exact this
 have hk := key (cyc fs n p - 1) 1 (Nat.le_refl _) (by omega)
 have e0 : ((1 : Nat) : Int) = 1 := rfl
 rw [e0] at hk
 have e1 : itp fs 1 p = phi fs p := rfl
 rw [e1] at hk
 show (Tree.bind (qL (F148 fs p) (1, ((phi fs p : Nat) : Int))) _ : Tree Int).run = _
 rw [hk, qA]
 simp only [z8, qW]
theorem qTB (f : List Int) (n : Nat) (l : List Int) (z : Int) : qNL f n (l ++ [z]) = Nat.lcm (qNL f n l) (cyc f n z.toNat) := by
 unfold qNL; rw [List.foldl_append]; rfl
theorem qVO {n : Nat} {f : List Int} {ss : List Int} {h : Nat} (hf : PermL n f) (hs : inR n ss) (hh : 1 <= h) (hx : ∀ i, i < n -> itp f h i = i) : 1 <= qNL f n ss ∧ qNL f n ss ∣ h := by
 have hd : qNL f n ss ∣ h := qPA.2 fun z hz => by
  obtain ⟨h1, h2⟩ := hs z hz
  exact (qKF hf (by omega) h).1 (hx _ (by omega))
 refine ⟨?_, hd⟩
 rcases Nat.eq_zero_or_pos (qNL f n ss) with h0 | h0
 ·rw [h0] at hd
  have := Nat.eq_zero_of_zero_dvd hd
  omega
 ·exact h0
theorem qZG {n k : Nat} {l : List Int} (h : inR n l) : inR n (l.take k) := fun z hz => h z (List.mem_of_mem_take hz)
theorem q5X {n : Nat} {ss fs : List Int} {h : Nat} (hf : PermL n fs) (hs : inR n ss) (hn : n <= 1000) (hsl : ss.length <= 1000) (hh : 1 <= h) (hle : h <= 10000) (hx : ∀ i, i < n -> itp fs h i = i) : H132 (ss, fs) = some ((qNL fs n ss : Nat) : Int) := by
 show (G132 (ss, fs)).run = _
 unfold G132
 refine zI ss.length (fun (k : Nat) (s : Int) => (s, (k : Int))) (fun k s => s = ((qNL fs n (ss.take k) : Nat) : Int)) (fun k s => ((qNL fs n (ss.take (k + 1)) : Nat) : Int)) (fun s => Sum.inl (s, (ss.length : Int))) 1 rfl rfl (fun k s hk hI => ?_) (fun s hI => ?_) (fun hI => ?_)
 ·obtain ⟨z, hz, mz⟩ := yZ hk
  have hss := qTB fs n (ss.take k) z
  rw [<- fQ hz] at hss
  obtain ⟨y, rfl, hy⟩ := qDB hs hz
  rw [Int.toNat_natCast] at hss
  have hk3 : (k : Int) < (ss.length : Int) := by omega
  obtain ⟨c1, c2, c3, c4⟩ := wH hf hy
  obtain ⟨d1, d2⟩ := qVO (h := h) hf (qZG (k := k) hs) hh hx
  have d3 := Nat.le_of_dvd (by omega) d2
  refine ⟨?_, rfl⟩
  rw [hss, hI]
  simp only [gW hk3, qF, qX hk, qA, hz, q8T (ss := ss) hf hy hn, q8O d1 c2 (by omega) (by omega), yY (show k < 2 ^ 62 by omega)]
  rfl
 ·simp only [gP (Int.lt_irrefl _), qE]
  rfl
 ·rw [hI, List.take_length]
  simp only [z8, qW]
end Go.Proofs.YtpdlblofcdcikaaGreatDoor
namespace Go.Proofs.YtpdlblofcdcikaaGreatDoor
open Go.Idl Go.Sv
structure Ord (n : Nat) (w : List Int) (h : Nat) : Prop where
 n2 : 2 <= n
 n12 : n <= 12
 ok : okW n w
 l1 : 1 <= w.length
 l24 : w.length <= 24
 ord : H113 ((n : Int), w) = some (h : Int)
 h1 : 1 <= h
 h2 : h <= 10000
 fix : ∀ i, i < n -> itp (xY n w) h i = i
abbrev p9 (n : Nat) (w : List Int) : List Int := (gK w (qI n)).1
theorem jS (n : Nat) (w : List Int) : (p9 n w).length = w.length := (gI w (qI n)).1
theorem kW {n : Nat} {w : List Int} (h : okW n w) : inR n (p9 n w) := qOJ w (qI n) h (zA n) (qAL n)
abbrev nT (n : Nat) (w : List Int) (r : Nat) : List Int := rF (p9 n w) (xY n w) r
theorem qAX {n : Nat} {w : List Int} (h : okW n w) (R : Nat) : rE w (qI n) R = (List.range R).map (nT n w) := (qQD h R).symm
def qJM (n : Nat) (w : List Int) : Nat := qNL (xY n w) n (p9 n w)
theorem qKA {n : Nat} {w : List Int} {h : Nat} (o : Ord n w h) : 1 <= qJM n w ∧ qJM n w ∣ h ∧ qJM n w <= h := by
 obtain ⟨a, b⟩ := qVO (y5 o.ok) (kW o.ok) o.h1 o.fix
 have := o.h1
 exact ⟨a, b, Nat.le_of_dvd (by omega) b⟩
theorem qKY {n : Nat} {w : List Int} (h : okW n w) (r : Nat) : nT n w (r + qJM n w) = nT n w r :=
 (((qOK (y5 h) (kW h) (qJM n w)).2 ((qTF (y5 h) (kW h) _).2 (Nat.dvd_refl _))) r).symm
theorem qIM {n : Nat} {w : List Int} {h : Nat} (o : Ord n w h) : qJS (nT n w) h = qJM n w := by
 obtain ⟨a, b, c⟩ := qKA o
 refine qBS a (qKY o.ok) b o.h1 a (fun r => (qKY o.ok r).symm) fun k h1 h2 hf => ?_
 have := (qTF (y5 o.ok) (kW o.ok) k).1 ((qOK (y5 o.ok) (kW o.ok) k).1 hf)
 have := Nat.le_of_dvd (by omega) this
 unfold qJM at h2
 omega
def rowP (n : Nat) (w c : List Int) (r : Nat) : List Int := kI (nT n w r) c
theorem qZH {n : Nat} {w c : List Int} (h : okW n w) (r : Nat) : rowP n w c (r + qJM n w) = rowP n w c r := by
 unfold rowP; rw [qKY h]
theorem qJO {n : Nat} {w c : List Int} (R : Nat) : pV c (bM (p9 n w) (xY n w) R) = (List.range R).map (rowP n w c) := by
 unfold pV bM
 rw [List.map_map]
 rfl
theorem qGF (n : Nat) (w c : List Int) (r : Nat) : (rowP n w c r).length = w.length := by
 unfold rowP; rw [jG, uR, jS]
theorem qDK {k : Nat} (h : k < 2 ^ 62) : IntKind.i64.wrap (k : Int) = (k : Int) := wL (by omega) (by omega)
theorem qE8 {R : Type} {α : Type} [DecidableEq α] {c : Nat -> α} {h : Nat} {τ : Type} {F : Int -> Option (Int ⊕ τ)} {K : τ -> Tree R} {v : Option R} (up : Nat -> τ) (dn : τ) (hh : 1 <= h) (hs : ∀ k : Nat, 1 <= k -> k < h -> F (k : Int) = cond (fD c h k) (some (.inr (up k))) (some (.inl ((k + 1 : Nat) : Int)))) (he : F (h : Int) = some (.inr dn))
 (hu : ∀ k, K (up k) = K (up k)) (hv : ∀ k, (qJS c h = k -> (K (up k)).run = v)) (hd : qJS c h = h -> (K dn).run = v) : (Tree.bind (qL F 1) K).run = v := by
 refine qP7 h (fun k => if fD c h k = true then some k else none) up dn hh (fun k h1 h2 => ?_) he ?_
 ·rw [hs k h1 h2]
  cases fD c h k <;> rfl
 ·cases hsc : scan (fun k => if fD c h k = true then some k else none) (h - 1) 1 with
  | none => exact hd (by unfold qJS; rw [hsc]; rfl)
  | some k => exact hv k (by unfold qJS; rw [hsc]; rfl)
theorem qEK {α : Type} {c : Nat -> α} {R h k : Nat} (hR : k + h <= R) : (((((List.range R).map c).drop k).take h)).length = h := by simp; omega
theorem qLQ {α : Type} {c : Nat -> α} {R h k : Nat} {x : α} (hx : x ∈ (((List.range R).map c).drop k).take h) : ∃ r, x = c r := by
 have h1 := List.mem_of_mem_drop (List.mem_of_mem_take hx)
 obtain ⟨r, _, rfl⟩ := List.mem_map.1 h1
 exact ⟨r, rfl⟩
theorem qLW {α : Type} [DecidableEq α] {c : Nat -> α} {R h k : Nat} (hR : k + h <= R) : decide ((((List.range R).map c).drop 0).take h = (((List.range R).map c).drop k).take h) = fD c h k := by
 have := blk (c := c) hR
 cases hs : fD c h k with
 | true => exact decide_eq_true (this.2 hs)
 | false => exact decide_eq_false fun e => by rw [this.1 e] at hs; cases hs
theorem zAC {n : Nat} {w : List Int} {h : Nat} (o : Ord n w h) : H65 ((n : Int), w) = some ((qJM n w : Nat) : Int) := by
 show (G65 n w).run = _
 unfold G65
 have h1 := o.h1
 have h2 := o.h2
 have e2 : (2 : Int) * (h : Int) = ((2 * h : Nat) : Int) := by omega
 rw [o.ord, qA, e2, qDK (by omega), q67 (by have := o.n12; omega) o.ok (by have := o.l24; omega) (by omega), qA, qAX o.ok]
 have hl : ((List.range (2 * h)).map (nT n w)).length = 2 * h := by simp
 refine qE8 (c := nT n w) (h := h) (fun k => Sum.inr (Sum.inl (k : Int))) (Sum.inl (h : Int)) h1 (fun k hk1 hk2 => ?_) ?_ (fun _ => rfl) (fun k hk => ?_) (fun hk => ?_)
 ·have hk3 : (k : Int) < (h : Int) := by omega
  have e3 : (k : Int) + (h : Int) = ((k + h : Nat) : Int) := by omega
  have b1 : kK ((List.range (2 * h)).map (nT n w)).length (h : Int) = some h := kD (by omega)
  have b2 : kK ((List.range (2 * h)).map (nT n w)).length ((k + h : Nat) : Int) = some (k + h) := kD (by omega)
  have b3 : kK (k + h) (k : Int) = some k := kD (by omega)
  have q := q8N (a := List.take (h - 0) (List.drop 0 ((List.range (2 * h)).map (nT n w)))) (b := List.take (k + h - k) (List.drop k ((List.range (2 * h)).map (nT n w)))) (by rw [Nat.sub_zero, qEK (by omega)]; omega) (fun r hr => by
   rw [Nat.sub_zero] at hr
   obtain ⟨r, rfl⟩ := qLQ hr
   rw [uR, jS]; have := o.l24; omega)
  have q2 : k + h - k = h := by omega
  rw [Nat.sub_zero, q2, qLW (by omega)] at q
  simp only [gW hk3, qF, b1, qA, e3, qDK (show k + h < 2 ^ 62 by omega), b2, b3, Nat.sub_zero, q2, q, yY (show k < 2 ^ 62 by omega)]
  cases fD (nT n w) h k <;> rfl
 ·simp only [gP (Int.lt_irrefl _), qE]
  rfl
 ·rw [qIM o] at hk
  simp only [eP, z8, qW, hk]
 ·rw [qIM o] at hk
  simp only [z8, qW, hk]
end Go.Proofs.YtpdlblofcdcikaaGreatDoor
namespace Go.Proofs.YtpdlblofcdcikaaGreatDoor
open Go.Idl Go.Sv
theorem q87 {n R : Nat} {w c : List Int} (hn : n <= 12) (hok : okW n w) (hl : w.length <= 24) (hR : R <= 100000) (hc : c.length = n) : H66 ((n : Int), w, c, (R : Int)) = some ((List.range R).map (rowP n w c)) := by
 show (G66 n w c R).run = _
 unfold G66
 rw [q67 (by omega) hok (by omega) hR, qA, qAX hok]
 have hlen : ((List.range R).map (nT n w)).length = R := by simp
 refine zI R (fun (k : Nat) (s : List (List Int)) => ((k : Int), s)) (fun k s => s = (List.range k).map (rowP n w c)) (fun k s => s ++ [rowP n w c k]) (fun s => Sum.inl ((R : Int), s)) [] rfl rfl (fun r s hr hs => ?_) (fun s hs => ?_) (fun hI => ?_)
 ·refine ⟨?_, by rw [hs, List.range_succ, List.map_append]; rfl⟩
  have hr3 : (r : Int) < (R : Int) := by omega
  have g1 : ((List.range R).map (nT n w))[r]? = some (nT n w r) := by
   rw [List.getElem?_map, List.getElem?_range hr]; rfl
  have hrow := qLJ (y5 hok) (kW hok) r
  have hrl : (nT n w r).length = w.length := by rw [uR, jS]
  have i1 : idx ((List.range R).map (nT n w)).length (r : Int) = some r := by rw [hlen]; exact qX hr
  simp only [gW hr3, qF]
  refine zI w.length (fun (k : Nat) (s : List Int) => ((k : Int), s)) (fun k s => s = kI ((nT n w r).take k) c) (fun k s => kI ((nT n w r).take (k + 1)) c) (fun s => Sum.inl ((w.length : Int), s)) [] rfl rfl (fun k s hk hs => ?_) (fun s hs => ?_) (fun hI => ?_)
  ·have hk2 : k < (nT n w r).length := by omega
   obtain ⟨z, hz, mz⟩ := yZ hk2
   have hgs := mD (c := c) hz
   obtain ⟨y, rfl, hy⟩ := qDB hrow hz
   have hk3 : (k : Int) < (w.length : Int) := by omega
   have q1 : y < c.length := by omega
   have hb : s.length < 1048576 := by rw [hs, jG, List.length_take]; omega
   refine ⟨?_, rfl⟩
   rw [hgs, <- hs, Int.toNat_natCast]
   simp only [gW hk3, qF, i1, qA, g1, qX hk2, hz, qX q1, rd q1, qJQ hb, yY (show k < 2 ^ 62 by omega)]
   rfl
  ·simp only [gP (Int.lt_irrefl _), qE]
   rfl
  ·have e : kI ((nT n w r).take w.length) c = rowP n w c r := by
    unfold rowP; rw [<- hrl, List.take_length]
   rw [hI, e]
   have hb : s.length < 1048576 := by rw [hs]; simp; omega
   simp only [z8, qJQ hb, qF, yY (show r < 2 ^ 62 by omega), qW]
 ·simp only [gP (Int.lt_irrefl _), qE]
  rfl
 ·rw [hI]
  simp only [z8, qW]
def qZK (n : Nat) (w c : List Int) : Nat := qJS (rowP n w c) (qJM n w)
theorem qH1 {n : Nat} {w c : List Int} {h : Nat} (o : Ord n w h) : qJS (rowP n w c) h = qZK n w c := by
 obtain ⟨a, b, d⟩ := qKA o
 exact qSR a (qZH o.ok) b o.h1 (Nat.dvd_refl _) a
theorem q93 {n : Nat} {w c : List Int} {h : Nat} (o : Ord n w h) (hc : c.length = n) : H67 ((n : Int), w, c) = some ((qZK n w c : Nat) : Int) := by
 show (G67 n w c).run = _
 unfold G67
 have h1 := o.h1
 have h2 := o.h2
 have e2 : (2 : Int) * (h : Int) = ((2 * h : Nat) : Int) := by omega
 rw [o.ord, qA, e2, qDK (by omega), q87 o.n12 o.ok o.l24 (by omega) hc, qA]
 have hl : ((List.range (2 * h)).map (rowP n w c)).length = 2 * h := by simp
 refine qE8 (c := rowP n w c) (h := h) (fun k => Sum.inr (Sum.inl (k : Int))) (Sum.inl (h : Int)) h1 (fun k hk1 hk2 => ?_) ?_ (fun _ => rfl) (fun k hk => ?_) (fun hk => ?_)
 ·have hk3 : (k : Int) < (h : Int) := by omega
  have e3 : (k : Int) + (h : Int) = ((k + h : Nat) : Int) := by omega
  have b1 : kK ((List.range (2 * h)).map (rowP n w c)).length (h : Int) = some h := kD (by omega)
  have b2 : kK ((List.range (2 * h)).map (rowP n w c)).length ((k + h : Nat) : Int) = some (k + h) := kD (by omega)
  have b3 : kK (k + h) (k : Int) = some k := kD (by omega)
  have q := q8N (a := List.take (h - 0) (List.drop 0 ((List.range (2 * h)).map (rowP n w c)))) (b := List.take (k + h - k) (List.drop k ((List.range (2 * h)).map (rowP n w c)))) (by rw [Nat.sub_zero, qEK (by omega)]; omega) (fun r hr => by
   rw [Nat.sub_zero] at hr
   obtain ⟨r, rfl⟩ := qLQ hr
   rw [qGF]; have := o.l24; omega)
  have q2 : k + h - k = h := by omega
  rw [Nat.sub_zero, q2, qLW (by omega)] at q
  simp only [gW hk3, qF, b1, qA, e3, qDK (show k + h < 2 ^ 62 by omega), b2, b3, Nat.sub_zero, q2, q, yY (show k < 2 ^ 62 by omega)]
  cases fD (rowP n w c) h k <;> rfl
 ·simp only [gP (Int.lt_irrefl _), qE]
  rfl
 ·rw [qH1 o] at hk
  simp only [eP, z8, qW, hk]
 ·rw [qH1 o] at hk
  simp only [z8, qW, hk]
noncomputable def GF {α : Type} (H : α × α -> Option Bool) (a b : List α) (s2 : Int) : Option (Int ⊕ (Int ⊕ Bool ⊕ Nat × Int)) :=
 Tree.ite (decide (s2 < (a.length : Int)))
  (Tree.bind (idx a.length s2) fun (x3 : Nat) => Tree.bind a[x3]? fun (x4 : α) => Tree.bind (idx b.length s2) fun (x5 : Nat) => Tree.bind b[x5]? fun (x6 : α) =>
    Tree.bind (H (x4, x6)) fun (x7 : Bool) => Tree.ite (!x7) (Tree.ret (Sum.inr (Sum.inr (Sum.inl false)))) (Tree.ret (Sum.inl (IntKind.i64.wrap (s2 + 1)))))
  (Tree.ret (Sum.inr (Sum.inl s2)))
theorem q7Q {α : Type} [DecidableEq α] {H : α × α -> Option Bool} {a b : List α} (hl : a.length = b.length) (ha : a.length < 2 ^ 62) (hH : ∀ x ∈ a, ∀ y ∈ b, H (x, y) = some (decide (x = y))) : qL (GF H a b) 0 = some (cond (decide (a = b)) (Sum.inl (a.length : Int)) (Sum.inr (Sum.inl false))) := by
 have := sW (F := GF H a b) (n := a.length) (fun i => if a[i]? = b[i]? then none else some false) (fun x => Sum.inr (Sum.inl x)) (Sum.inl (a.length : Int)) (fun k hk => ?_) ?_ a.length 0 (by omega)
 ·rw [show ((0 : Nat) : Int) = 0 from rfl] at this
  rw [this]
  cases hs : scan (fun i => if a[i]? = b[i]? then none else some false) a.length 0 with
  | none =>
    have hab : a = b := List.ext_getElem? fun i => by
     by_cases hi : i < a.length
     ·have := vH.1 hs i (Nat.zero_le _) (by omega)
      by_cases h : a[i]? = b[i]?
      ·exact h
      ·rw [if_neg h] at this; cases this
     ·rw [List.getElem?_eq_none (by omega), List.getElem?_eq_none (by omega)]
    rw [decide_eq_true hab]
    rfl
  | some r =>
    obtain ⟨i, _, _, hi, _⟩ := j5 hs
    have hne : a ≠ b := fun e => by
     rw [e] at hi
     simp at hi
    have hr : r = false := by
     by_cases h : a[i]? = b[i]?
     ·rw [if_pos h] at hi; cases hi
     ·rw [if_neg h] at hi; cases hi; rfl
    subst hr
    rw [decide_eq_false hne]
    rfl
 ·obtain ⟨x, hx, mx⟩ := yZ hk
  obtain ⟨y, hy, my⟩ := yZ (show k < b.length by omega)
  have hk2 : k < b.length := by omega
  have hk3 : (k : Int) < (a.length : Int) := by omega
  unfold GF
  simp only [gW hk3, qF, qX hk, qA, hx, qX hk2, hy, hH x mx y my, yY (show k < 2 ^ 62 by omega)]
  by_cases hxy : x = y
  ·simp [hxy, qE]; rfl
  ·simp [hxy, qF]; rfl
 ·unfold GF
  simp only [gP (Int.lt_irrefl _), qE]
  rfl
theorem q9J {n : Nat} {w c : List Int} {h : Nat} (o : Ord n w h) (hc : c.length = n) (he : H103 ((n : Int), w, c) = some 0) : H62 ((n : Int), w, c) = some (((qZK n w c : Nat) : Int), 0) := by
 show (G62 n w c).run = _
 unfold G62
 obtain ⟨p1, p2, p3⟩ := qKA o
 have h2 := o.h2
 have n12 := o.n12
 have l24 := o.l24
 have hf := y5 o.ok
 have e2 : (2 : Int) * ((qJM n w : Nat) : Int) = ((2 * qJM n w : Nat) : Int) := by omega
 have e132 := q5X (ss := p9 n w) hf (kW o.ok) (by omega) (by rw [jS]; omega) o.h1 o.h2 o.fix
 have e132 : H132 (p9 n w, xY n w) = some ((qJM n w : Nat) : Int) := e132
 have e133 := q4W (ss := p9 n w) (fs := xY n w) (c := c) (R := 2 * qJM n w) (by rw [hf.len]; exact hf.ran) (by rw [hf.len]; exact kW o.ok) (by rw [hf.len]; omega) (by rw [jS]; omega) (by omega) (by rw [hf.len]; exact hc) (fun r => by rw [hf.len]; exact qLJ hf (kW o.ok) r)
 rw [qJO] at e133
 have hz : ((0 : Int) != 0) = false := rfl
 have e92 : H92 ((n : Int), w) = some (p9 n w, xY n w) := q88 (by omega) o.ok (by omega)
 rw [he, qA, hz, qE, e92, qA]
 simp only
 rw [e132, qA, e2, qDK (by omega), e133, qA]
 generalize hP : qJM n w = P at *
 have hl : ((List.range (2 * P)).map (rowP n w c)).length = 2 * P := by simp
 refine qE8 (c := rowP n w c) (h := P) (fun k => Sum.inr (Sum.inl ((k : Int), 0))) (Sum.inl (P : Int)) p1 (fun k hk1 hk2 => ?_) ?_ (fun _ => rfl) (fun k hk => ?_) (fun hk => ?_)
 ·have hk3 : (k : Int) < (P : Int) := by omega
  have e3 : (k : Int) + (P : Int) = ((k + P : Nat) : Int) := by omega
  have b1 : kK ((List.range (2 * P)).map (rowP n w c)).length (P : Int) = some P := kD (by omega)
  have b2 : kK ((List.range (2 * P)).map (rowP n w c)).length ((k + P : Nat) : Int) = some (k + P) := kD (by omega)
  have b3 : kK (k + P) (k : Int) = some k := kD (by omega)
  have q2 : k + P - k = P := by omega
  have l1 : (List.take P (List.drop 0 ((List.range (2 * P)).map (rowP n w c)))).length = P := qEK (by omega)
  have l2 : (List.take P (List.drop k ((List.range (2 * P)).map (rowP n w c)))).length = P := qEK (by omega)
  have q := q7Q (H := H98) (a := List.take P (List.drop 0 ((List.range (2 * P)).map (rowP n w c)))) (b := List.take P (List.drop k ((List.range (2 * P)).map (rowP n w c)))) (by rw [l1, l2]) (by rw [l1]; omega) (fun x hx y _ => by
   obtain ⟨r, rfl⟩ := qLQ hx
   exact q99 (by rw [qGF]; omega))
  rw [qLW (by omega)] at q
  have hne : (((List.take P (List.drop 0 ((List.range (2 * P)).map (rowP n w c)))).length : Int) != ((List.take P (List.drop k ((List.range (2 * P)).map (rowP n w c)))).length : Int)) = false := by rw [l1, l2]; simp
  simp only [gW hk3, qF, b1, qA, e3, qDK (show k + P < 2 ^ 62 by omega), b2, b3, Nat.sub_zero, q2, hne, qE]
  refine (congrArg (fun x => (Tree.bind x _ : Option _)) q).trans ?_
  rw [qA]
  cases fD (rowP n w c) P k with
  | true => rfl
  | false =>
    simp only [cond_false, eP, z8, qE, yY (show k < 2 ^ 62 by omega)]
    rfl
 ·simp only [gP (Int.lt_irrefl _), qE]
  rfl
 ·have hk : qZK n w c = k := by unfold qZK; rw [hP]; exact hk
  simp only [eP, z8, qW, hk]
 ·have hk : qZK n w c = P := by unfold qZK; rw [hP]; exact hk
  simp only [z8, qW, hk]
end Go.Proofs.YtpdlblofcdcikaaGreatDoor
namespace Go.Proofs.YtpdlblofcdcikaaGreatDoor
open Go.Idl Go.Sv
def tx (l : List UInt8) : ByteArray := ⟨l.toArray⟩
theorem zK (l : List UInt8) : (tx l).size = l.length := rfl
theorem qAB (a b : List UInt8) : tx a ++ tx b = tx (a ++ b) := by
 apply ByteArray.ext
 rw [ByteArray.data_append]
 simp [tx]
theorem bD (l : List UInt8) (a b : Nat) : (tx l).extract a b = tx ((l.take b).drop a) := by
 apply ByteArray.ext
 rw [ByteArray.data_extract]
 apply Array.ext'
 simp [tx, List.drop_take]
theorem q5G (l : List UInt8) (a : Nat) : (tx l).extract a (tx l).size = tx (l.drop a) := by
 rw [bD, zK, List.take_length]
theorem q2S {l : List UInt8} {i : Nat} {c : UInt8} (h : l[i]? = some c) : qB3 (tx l) (i : Int) = some (c.toNat : Int) := by
 unfold qB3
 rw [if_pos (by omega), Int.toNat_natCast]
 obtain ⟨h1, h2⟩ := List.getElem?_eq_some_iff.1 h
 have h3 : i < (tx l).size := h1
 rw [getElem?_pos (tx l) i h3, ByteArray.getElem_eq_getElem_data, Option.map_some]
 rw [<- h2]
 rfl
def dig (k : Nat) : UInt8 := UInt8.ofNat (48 + k)
theorem dM {k : Nat} (h : k < 10) : (dig k).toNat = 48 + k := by
 unfold dig
 rw [UInt8.toNat_ofNat']
 omega
def decL (n : Nat) : List UInt8 := if h : n < 10 then [dig n] else decL (n / 10) ++ [dig (n % 10)]
termination_by n
decreasing_by omega
theorem gD {n : Nat} (h : n < 10) : decL n = [dig n] := by rw [decL, dif_pos h]
theorem oV {n : Nat} (h : ¬ n < 10) : decL n = decL (n / 10) ++ [dig (n % 10)] := by rw [decL, dif_neg h]
def isD (l : List UInt8) : Prop := ∀ c ∈ l, ∃ k, k < 10 ∧ c = dig k
theorem d9 (n : Nat) : isD (decL n) := by
 induction n using Nat.strongRecOn with
 | _ n ih =>
   by_cases h : n < 10
   ·rw [gD h]
    intro c hc
    exact ⟨n, h, by simpa using hc⟩
   ·rw [oV h]
    intro c hc
    rcases List.mem_append.1 hc with hc | hc
    ·exact ih (n / 10) (by omega) c hc
    ·exact ⟨n % 10, by omega, by simpa using hc⟩
theorem qFT (n : Nat) : 0 < (decL n).length := by
 by_cases h : n < 10
 ·rw [gD h]; simp
 ·rw [oV h]; simp
theorem nI : ∀ (k n : Nat), n < 10 ^ (k + 1) -> (decL n).length <= k + 1
 | 0, n, h => by rw [gD (by simpa using h)]; simp
 | k + 1, n, h => by
   by_cases h1 : n < 10
   ·rw [gD h1]; simp
   ·rw [oV h1, List.length_append]
    have := nI k (n / 10) (by rw [Nat.pow_succ] at h; omega)
    simp; omega
theorem xM {n : Nat} (h : n < 1000000000) : (decL n).length <= 9 := nI 8 n (by simpa using h)
def qQ8 (l : List UInt8) : Nat := l.foldl (fun a c => 10 * a + (c.toNat - 48)) 0
theorem qAO (l : List UInt8) (c : UInt8) : qQ8 (l ++ [c]) = 10 * qQ8 l + (c.toNat - 48) := by
 unfold qQ8; rw [List.foldl_append]; rfl
theorem qZL (n : Nat) : qQ8 (decL n) = n := by
 induction n using Nat.strongRecOn with
 | _ n ih =>
   by_cases h : n < 10
   ·rw [gD h]
    show 10 * 0 + ((dig n).toNat - 48) = n
    rw [dM h]; omega
   ·rw [oV h, qAO, ih (n / 10) (by omega), dM (by omega)]
    omega
theorem qHC {l : List UInt8} (h : isD l) : ∀ k, qQ8 (l.take k) < 10 ^ k
 | 0 => by simp [qQ8]
 | k + 1 => by
   have ih := qHC h k
   cases hk : l[k]? with
   | none =>
     have : l.take (k + 1) = l.take k := by rw [List.take_add_one, hk]; simp
     rw [this, Nat.pow_succ]; omega
   | some c =>
     have e : l.take (k + 1) = l.take k ++ [c] := by rw [List.take_add_one, hk]; rfl
     obtain ⟨d, hd, rfl⟩ := h c (List.mem_of_getElem? hk)
     rw [e, qAO, dM hd, Nat.pow_succ]
     omega
theorem q12 {k : Nat} (h : k <= 18) : (10 : Nat) ^ k <= 1000000000000000000 := by
 have := Nat.pow_le_pow_right (n := 10) (by omega) h
 simpa using this
theorem q7O {l : List UInt8} (hd : isD l) (hl : l.length <= 18) : H192 (tx l) = some ((qQ8 l : Nat) : Int) := by
 show (G192 (tx l)).run = _
 unfold G192
 refine zI l.length (fun (k : Nat) (s : Int) => (s, (k : Int))) (fun k s => s = ((qQ8 (l.take k) : Nat) : Int)) (fun k s => ((qQ8 (l.take (k + 1)) : Nat) : Int)) (fun s => Sum.inl (s, (l.length : Int))) 0 rfl rfl (fun k s hk hs => ?_) (fun s hs => ?_) (fun hI => ?_)
 ·refine ⟨?_, rfl⟩
  obtain ⟨c, hc, mc⟩ := yZ hk
  obtain ⟨d, hd10, rfl⟩ := hd c mc
  have hk3 : (k : Int) < ((tx l).size : Int) := by rw [zK]; omega
  have hv := qHC hd k
  have hp := q12 (show k + 1 <= 18 by omega)
  rw [Nat.pow_succ] at hp
  have e : qQ8 (l.take (k + 1)) = 10 * qQ8 (l.take k) + d := by
   have : l.take (k + 1) = l.take k ++ [dig d] := by rw [List.take_add_one, hc]; rfl
   rw [this, qAO, dM hd10]; omega
  generalize qQ8 (l.take k) = v at hs hv e
  rw [e, hs]
  have w1 : IntKind.i64.wrap (10 * (v : Int)) = ((10 * v : Nat) : Int) := by rw [wL (by omega) (by omega)]; omega
  have w2 : IntKind.i64.wrap ((48 + d : Nat) : Int) = ((48 + d : Nat) : Int) := wL (by omega) (by omega)
  have w3 : IntKind.i64.wrap (((10 * v : Nat) : Int) + ((48 + d : Nat) : Int)) = ((10 * v + (48 + d) : Nat) : Int) := by rw [wL (by omega) (by omega)]; omega
  have w4 : IntKind.i64.wrap (((10 * v + (48 + d) : Nat) : Int) - 48) = ((10 * v + d : Nat) : Int) := by rw [wL (by omega) (by omega)]; omega
  simp only [gW hk3, qF, q2S hc, qA, dM hd10, w1, w2, w3, w4, yY (show k < 2 ^ 62 by omega)]
  rfl
 ·simp only [gP (show ¬ ((l.length : Int) < ((tx l).size : Int)) by rw [zK]; omega), qE]
  rfl
 ·rw [hI, List.take_length]
  simp only [z8, qW]
theorem qVK {n : Nat} (h : n < 1000000000) : H192 (tx (decL n)) = some (n : Int) := by
 rw [q7O (d9 n) (by have := xM h; omega), qZL]
def noS (l : List UInt8) : Prop := ∀ c ∈ l, c.toNat ≠ 47
theorem qVI {l : List UInt8} (h : isD l) : noS l := fun c hc => by
 obtain ⟨k, hk, rfl⟩ := h c hc
 rw [dM hk]; omega
theorem qDG {ρ : Type} {f : Nat -> Option ρ} {r : ρ} : ∀ (m k i : Nat), k <= i -> i < k + m -> (∀ j, k <= j -> j < i -> f j = none) -> f i = some r -> scan f m k = some r
 | 0, k, i, h1, h2, _, _ => by omega
 | m + 1, k, i, h1, h2, h3, h4 => by
   unfold scan
   by_cases e : k = i
   ·subst e; rw [h4]
   ·rw [h3 k (Nat.le_refl _) (by omega)]
    exact qDG m (k + 1) i (by omega) (by omega) (fun j a b => h3 j (by omega) b) h4
theorem q6H {a b : List UInt8} {l : List UInt8} (hl : l.length < 2 ^ 62) (ha : noS a) (h : l = a ∧ b = [] ∨ l = a ++ 47 :: b) : H191 (tx l) = some (a.length : Int) := by
 show (G191 (tx l)).run = _
 unfold G191
 refine vN l.length (fun i => if (l.getD i 0).toNat = 47 then some (i : Int) else none) (fun x => Sum.inr (Sum.inl x)) (Sum.inl (l.length : Int)) (fun k hk => ?_) ?_ ?_
 ·obtain ⟨c, hc, mc⟩ := yZ hk
  have hk3 : (k : Int) < ((tx l).size : Int) := by rw [zK]; omega
  have hg : l.getD k 0 = c := by simp [List.getD, hc]
  simp only [gW hk3, qF, q2S hc, qA, hg, yY (show k < 2 ^ 62 by omega)]
  by_cases h47 : c.toNat = 47
  ·have : ((c.toNat : Int) == 47) = true := by simp [h47]
   rw [this, if_pos h47]; rfl
  ·have : ((c.toNat : Int) == 47) = false := by simp; omega
   rw [this, if_neg h47]; rfl
 ·simp only [gP (show ¬ ((l.length : Int) < ((tx l).size : Int)) by rw [zK]; omega), qE]
  rfl
 ·rcases h with ⟨rfl, _⟩ | rfl
  ·rw [vH.2 fun i _ hi => by
    obtain ⟨c, hc, mc⟩ := yZ (show i < l.length by omega)
    have hg : l.getD i 0 = c := by simp [List.getD, hc]
    rw [hg, if_neg (ha c mc)]]
   simp only [z8, qW, zK]
  ·rw [qDG (r := (a.length : Int)) _ 0 a.length (Nat.zero_le _) (by simp) (fun j _ hj => by
    obtain ⟨c, hc, mc⟩ := yZ hj
    have hg : (a ++ 47 :: b).getD j 0 = c := by simp [List.getD, List.getElem?_append_left hj, hc]
    rw [hg, if_neg (ha c mc)]) (by
    have hg : (a ++ 47 :: b).getD a.length 0 = 47 := by simp [List.getD]
    rw [hg]; rfl)]
   simp only [eP, z8, qW]
end Go.Proofs.YtpdlblofcdcikaaGreatDoor
namespace Go.Proofs.YtpdlblofcdcikaaGreatDoor
open Go.Idl Go.Sv
theorem sI {R S τ : Type} {F : S -> Option (S ⊕ τ)} {K : τ -> Tree R} {v : Option R} {s : S} {t : τ} (h : F s = some (.inr t)) (hv : (K t).run = v) : (Tree.bind (qL F s) K).run = v := by
 rw [qU, h]
 exact hv
noncomputable def F208 (x1 : Int) : Int × ByteArray -> Option (Int × ByteArray ⊕ (Int × ByteArray ⊕ ByteArray ⊕ Nat × Int × ByteArray)) := fun (s2 : Int × ByteArray) => Tree.ite (qG (decide (0 < s2.fst)) false) (Tree.ite (decide ((↑s2.snd.size : Int) < x1)) (Tree.bind (kK (⟨#[48, 49, 50, 51, 52, 53, 54, 55, 56, 57]⟩ : ByteArray).size (IntKind.i64.wrap (s2.fst.tmod 10 + 1))) fun (x3 : Nat) => Tree.bind (kK x3 (s2.fst.tmod 10)) fun (x4 : Nat) => Tree.ite ((((⟨#[48, 49, 50, 51, 52, 53, 54, 55, 56, 57]⟩ : ByteArray).extract x4 x3).size + s2.snd.size).ble 9223372036854775807) (Tree.ret (Sum.inl (IntKind.i64.wrap (s2.fst.tdiv 10), (⟨#[48, 49, 50, 51, 52, 53, 54, 55, 56, 57]⟩ : ByteArray).extract x4 x3 ++ s2.snd))) Tree.fail) (Tree.ret (Sum.inr (Sum.inl (s2.fst, s2.snd))))) (Tree.bind (kK (⟨#[48, 49, 50, 51, 52, 53, 54, 55, 56, 57]⟩ : ByteArray).size (IntKind.i64.wrap (s2.fst.tmod 10 + 1))) fun (x3 : Nat) => Tree.bind (kK x3 (s2.fst.tmod 10)) fun (x4 : Nat) => Tree.ite ((((⟨#[48, 49, 50, 51, 52, 53, 54, 55, 56, 57]⟩ : ByteArray).extract x4 x3).size + s2.snd.size).ble 9223372036854775807) (Tree.ret (Sum.inl (IntKind.i64.wrap (s2.fst.tdiv 10), (⟨#[48, 49, 50, 51, 52, 53, 54, 55, 56, 57]⟩ : ByteArray).extract x4 x3 ++ s2.snd))) Tree.fail)
theorem q4H : ∀ d : Nat, d < 10 -> (⟨#[48, 49, 50, 51, 52, 53, 54, 55, 56, 57]⟩ : ByteArray).extract d (d + 1) = tx [dig d] := by
 intro d hd
 have e : (⟨#[48, 49, 50, 51, 52, 53, 54, 55, 56, 57]⟩ : ByteArray) = tx [48, 49, 50, 51, 52, 53, 54, 55, 56, 57] := rfl
 rw [e, bD]
 have h : ∀ d : Fin 10, (([48, 49, 50, 51, 52, 53, 54, 55, 56, 57] : List UInt8).take (d.val + 1)).drop d.val = [dig d.val] := by decide
 rw [h ⟨d, hd⟩]
theorem qWC {m : Nat} {x1 : Int} {s : List UInt8} (hm : m < 2 ^ 62) (hs : s.length <= 1000) (h : 1 <= m ∨ (s.length : Int) < x1) : F208 x1 ((m : Int), tx s) = some (Sum.inl (((m / 10 : Nat) : Int), tx (dig (m % 10) :: s))) := by
 unfold F208
 have hd : m % 10 < 10 := Nat.mod_lt _ (by omega)
 have e1 : (m : Int).tmod 10 = ((m % 10 : Nat) : Int) := (Int.ofNat_tmod m 10).symm
 have e2 : (m : Int).tdiv 10 = ((m / 10 : Nat) : Int) := (Int.ofNat_tdiv m 10).symm
 have e3 : (⟨#[48, 49, 50, 51, 52, 53, 54, 55, 56, 57]⟩ : ByteArray).size = 10 := rfl
 have e4 : IntKind.i64.wrap (((m % 10 : Nat) : Int) + 1) = ((m % 10 + 1 : Nat) : Int) := yY (by omega)
 have e5 : kK 10 ((m % 10 + 1 : Nat) : Int) = some (m % 10 + 1) := kD (by omega)
 have e6 : kK (m % 10 + 1) ((m % 10 : Nat) : Int) = some (m % 10) := kD (by omega)
 have e7 : ((tx [dig (m % 10)]).size + (tx s).size).ble 9223372036854775807 = true := Nat.ble_eq_true_of_le (by rw [zK, zK]; simp; omega)
 have e8 : IntKind.i64.wrap ((m / 10 : Nat) : Int) = ((m / 10 : Nat) : Int) := wL (by omega) (by omega)
 have e9 : tx [dig (m % 10)] ++ tx s = tx (dig (m % 10) :: s) := qAB _ _
 simp only [e1, e2, e3, e4, e5, e6, qA, q4H _ hd, e7, qF, e8, e9, vC]
 by_cases h1 : 1 <= m
 ·have : decide ((0 : Int) < (m : Int)) = true := decide_eq_true (by omega)
  rw [this]; rfl
 ·have h2 : decide ((0 : Int) < (m : Int)) = false := decide_eq_false (by omega)
  have h3 : (((tx s).size : Nat) : Int) < x1 := by
   rw [zK]
   rcases h with h | h
   ·omega
   ·exact h
  rw [h2, decide_eq_true h3]
  rfl
theorem q0D {x1 : Int} {s : List UInt8} (h : x1 <= (s.length : Int)) : F208 x1 (0, tx s) = some (Sum.inr (Sum.inl (0, tx s))) := by
 unfold F208
 have h3 : ¬ (((tx s).size : Nat) : Int) < x1 := by rw [zK]; omega
 have h2 : decide ((0 : Int) < (0 : Int)) = false := rfl
 simp only [h2, vC, Bool.not_false, qF, gP h3, qE]
 rfl
theorem q1P {x1 : Int} (hx : x1 <= 1) : ∀ (m : Nat) (s : List UInt8), 1 <= m -> m < 2 ^ 62 -> s.length + (decL m).length <= 1000 -> qL (F208 x1) ((m : Int), tx s) = some (Sum.inl (0, tx (decL m ++ s))) := by
 intro m
 induction m using Nat.strongRecOn with
 | _ m ih =>
   intro s h1 h2 h3
   have hp := qFT m
   rw [qU, qWC h2 (by omega) (.inl h1)]
   simp only
   by_cases h : m < 10
   ·have e0 : m / 10 = 0 := by omega
    have e1 : m % 10 = m := by omega
    rw [e0, e1, qU, show ((0 : Nat) : Int) = 0 from rfl, q0D (by simp; omega), gD h]
    rfl
   ·have hl : (decL m).length = (decL (m / 10)).length + 1 := by rw [oV h]; simp
    rw [ih (m / 10) (by omega) (dig (m % 10) :: s) (by omega) (by omega) (by simp; omega), oV h, List.append_assoc]
    rfl
theorem q08 {m : Nat} (h : m < 1000000000000000000) : H208 ((m : Int), 1) = some (tx (decL m)) := by
 show (G208 m 1).run = _
 have hl : (decL m).length <= 18 := nI 17 m (by simpa using h)
 have key : qL (F208 1) ((m : Int), tx []) = some (Sum.inl (0, tx (decL m))) := by
  by_cases h1 : 1 <= m
  ·have := q1P (x1 := 1) (Int.le_refl _) m [] h1 (by omega) (by simp; omega)
   rwa [List.append_nil] at this
  ·have : m = 0 := by omega
   subst this
   rw [qU, qWC (by omega) (by simp) (.inr (by simp))]
   simp only
   rw [qU, show ((0 / 10 : Nat) : Int) = 0 from rfl, q0D (by simp), gD (by omega)]
 have e : G208 m 1 = Tree.bind (qL (F208 1) ((m : Int), tx [])) fun (x2 : Int × ByteArray ⊕ ByteArray ⊕ Nat × Int × ByteArray) => Tree.sum x2 (fun (s3 : Int × ByteArray) => Tree.ret s3.snd) fun (s3 : ByteArray ⊕ Nat × Int × ByteArray) => Tree.sum s3 (fun (s4 : ByteArray) => Tree.ret s4) fun (s4 : Nat × Int × ByteArray) => Tree.fail := rfl
 rw [e, key, qA]
 rfl
def wd (n : Nat) : List Int := if n = 0 then [] else [(n : Int)]
noncomputable def F207 : List Int -> Option (List Int ⊕ (List Int ⊕ List Int ⊕ Nat × List Int)) := fun (s1 : List Int) => Tree.ite (qG (decide (0 < (↑s1.length : Int))) true) (Tree.bind (idx s1.length (IntKind.i64.wrap ((↑s1.length : Int) - 1))) fun (x2 : Nat) => Tree.bind s1[x2]? fun (x3 : Int) => Tree.ite (x3 == 0) (Tree.bind (kK s1.length (IntKind.i64.wrap ((↑s1.length : Int) - 1))) fun (x4 : Nat) => Tree.ret (Sum.inl (List.take (x4 - 0) (List.drop 0 s1)))) (Tree.ret (Sum.inr (Sum.inl s1)))) (Tree.ret (Sum.inr (Sum.inl s1)))
theorem qMY : qL F207 [] = some (Sum.inl []) := by
 rw [qU]
 rfl
theorem qXI {n : Nat} : qL F207 [(n : Int)] = some (Sum.inl (wd n)) := by
 rw [qU]
 have i1 : idx 1 (IntKind.i64.wrap (((1 : Nat) : Int) - 1)) = some 0 := by decide
 have i2 : kK 1 (IntKind.i64.wrap (((1 : Nat) : Int) - 1)) = some 0 := by decide
 by_cases h : n = 0
 ·subst h
  have e : F207 [((0 : Nat) : Int)] = some (Sum.inl []) := by
   unfold F207
   simp only [List.length_cons, List.length_nil, Nat.zero_add, i1, i2, uJ, qA, List.getElem?_cons_zero]
   rfl
  rw [e]
  exact qMY
 ·have hb : ((n : Int) == 0) = false := by simp; omega
  have e : F207 [(n : Int)] = some (Sum.inr (Sum.inl [(n : Int)])) := by
   unfold F207
   simp only [List.length_cons, List.length_nil, Nat.zero_add, i1, i2, uJ, qA, List.getElem?_cons_zero, hb, qE]
   rfl
  rw [e]
  unfold wd
  rw [if_neg h]
theorem q0S {l r : List Int} (h : qL F207 l = some (Sum.inl r)) : H207 l = some r := by
 have e : G207 l = Tree.bind (qL F207 l) fun (x1 : List Int ⊕ List Int ⊕ Nat × List Int) => Tree.sum x1 (fun (s2 : List Int) => Tree.ret s2) fun (s2 : List Int ⊕ Nat × List Int) => Tree.sum s2 (fun (s3 : List Int) => Tree.ret s3) fun (s3 : Nat × List Int) => Tree.fail := rfl
 show (G207 l).run = _
 rw [e, h, qA]
 rfl
theorem q53 : H207 [] = some [] := q0S qMY
theorem qYF {n : Nat} : H207 [(n : Int)] = some (wd n) := q0S qXI
theorem qU2 {n : Nat} : H207 (wd n) = some (wd n) := by
 unfold wd
 by_cases h : n = 0
 ·rw [if_pos h]; exact q53
 ·rw [if_neg h, qYF]
  unfold wd
  rw [if_neg h]
theorem qZS {l r : List Int} (h : H207 l = some r) : H193 (false, l) = some (false, r) := by
 show (G193 false l).run = _
 unfold G193
 rw [h, qA]
 rfl
noncomputable def F195 : Int × List Int -> Option (Int × List Int ⊕ (Int × List Int ⊕ (Bool × List Int) ⊕ Nat × Int × List Int)) := fun (s1 : Int × List Int) => Tree.ite (s1.fst != 0) (Tree.ite (decide (s1.fst.tmod 1000000000 < 0)) (Tree.ite ((s1.snd.length + [IntKind.i64.wrap (0 - s1.fst.tmod 1000000000)].length).ble 1048576) (Tree.ret (Sum.inl (IntKind.i64.wrap (s1.fst.tdiv 1000000000), s1.snd ++ [IntKind.i64.wrap (0 - s1.fst.tmod 1000000000)]))) Tree.fail) (Tree.ite ((s1.snd.length + [s1.fst.tmod 1000000000].length).ble 1048576) (Tree.ret (Sum.inl (IntKind.i64.wrap (s1.fst.tdiv 1000000000), s1.snd ++ [s1.fst.tmod 1000000000]))) Tree.fail)) (Tree.ret (Sum.inr (Sum.inl (s1.fst, s1.snd))))
theorem q41 {n : Nat} (h : n < 1000000000) : H195 (n : Int) = some (false, wd n) := by
 have key : qL F195 ((n : Int), []) = some (Sum.inl (0, wd n)) := by
  have e0 : ∀ l, F195 (0, l) = some (Sum.inr (Sum.inl (0, l))) := fun l => rfl
  rw [qU]
  by_cases h0 : n = 0
  ·subst h0
   rw [show ((0 : Nat) : Int) = 0 from rfl, e0]
   rfl
  ·have hb : ((n : Int) != 0) = true := by simp; omega
   have e1 : (n : Int).tmod 1000000000 = (n : Int) := by rw [show (1000000000 : Int) = ((1000000000 : Nat) : Int) from rfl, <- Int.ofNat_tmod, Nat.mod_eq_of_lt h]
   have e2 : (n : Int).tdiv 1000000000 = 0 := by rw [show (1000000000 : Int) = ((1000000000 : Nat) : Int) from rfl, <- Int.ofNat_tdiv, Nat.div_eq_of_lt h]; rfl
   have e3 : IntKind.i64.wrap 0 = 0 := by decide
   have e : F195 ((n : Int), []) = some (Sum.inl (0, [(n : Int)])) := by
    unfold F195
    simp only [hb, qF, e1, e2, e3, gP (show ¬ (n : Int) < 0 by omega), qE]
    rfl
   rw [e]
   simp only
   rw [qU, e0]
   unfold wd
   rw [if_neg h0]
 have e : G195 (n : Int) = Tree.bind (qL F195 ((n : Int), [])) fun (x1 : Int × List Int ⊕ Bool × List Int ⊕ Nat × Int × List Int) => Tree.sum x1 (fun (s2 : Int × List Int) => Tree.bind (H193 (decide ((n : Int) < 0), s2.snd)) fun (x3 : Bool × List Int) => Tree.ret (x3.fst, x3.snd)) fun (s2 : Bool × List Int ⊕ Nat × Int × List Int) => Tree.sum s2 (fun (s3 : Bool × List Int) => Tree.fail) fun (s3 : Nat × Int × List Int) => Tree.fail := rfl
 show (G195 n).run = _
 rw [e, key, qA]
 simp only [z8, gP (show ¬ (n : Int) < 0 by omega), qZS qU2, qA, qW]
theorem q2K {n : Nat} (h : n < 1000000000) : H194 (false, wd n) = some (tx (decL n)) := by
 show (G194 (false, wd n)).run = _
 unfold G194 wd
 by_cases h0 : n = 0
 ·subst h0
  rw [gD (by omega)]
  rfl
 ·have i1 : idx 1 (IntKind.i64.wrap (((1 : Nat) : Int) - 1)) = some 0 := by decide
  have b0 : (((1 : Nat) : Int) == 0) = false := rfl
  rw [if_neg h0]
  simp only [List.length_cons, List.length_nil, Nat.zero_add, b0, qE, i1, qA, List.getElem?_cons_zero, q08 (show n < 1000000000000000000 by omega)]
  refine sI (t := Sum.inl (tx (decL n), -1)) rfl ?_
  rfl
theorem q7C {n : Nat} (h : n < 1000000000) : H177 (n : Int) = some (tx (decL n)) := by
 show (G177 n).run = _
 unfold G177
 rw [q41 h, qA]
 simp only [q2K h, qA, qW]
end Go.Proofs.YtpdlblofcdcikaaGreatDoor
namespace Go.Proofs.YtpdlblofcdcikaaGreatDoor
open Go.Idl Go.Sv
theorem q9A {l : List UInt8} (h : isD l) (hp : 0 < l.length) : ∃ c, l[0]? = some c ∧ ((c.toNat : Int) == 45) = false := by
 obtain ⟨c, hc, mc⟩ := yZ hp
 obtain ⟨d, hd, rfl⟩ := h c mc
 refine ⟨_, hc, ?_⟩
 rw [dM hd]
 simp; omega
theorem at0 {l : List UInt8} {c : UInt8} (h : l[0]? = some c) : qB3 (tx l) 0 = some (c.toNat : Int) := q2S (i := 0) h
noncomputable def F176 : ByteArray × List Int -> Option (ByteArray × List Int ⊕ (ByteArray × List Int ⊕ (Bool × List Int) ⊕ Nat × ByteArray × List Int)) := fun (s2 : ByteArray × List Int) => Tree.ite (decide (9 < (↑s2.fst.size : Int))) (Tree.bind (kK s2.fst.size (IntKind.i64.wrap ((↑s2.fst.size : Int) - 9))) fun (x3 : Nat) => Tree.bind (H192 (s2.fst.extract x3 s2.fst.size)) fun (x4 : Int) => Tree.ite ((s2.snd.length + [x4].length).ble 1048576) (Tree.bind (kK s2.fst.size (IntKind.i64.wrap ((↑s2.fst.size : Int) - 9))) fun (x5 : Nat) => Tree.ret (Sum.inl (s2.fst.extract 0 x5, s2.snd ++ [x4]))) Tree.fail) (Tree.ret (Sum.inr (Sum.inl (s2.fst, s2.snd))))
theorem q4L {l : List UInt8} (h : l.length <= 9) (w : List Int) : F176 (tx l, w) = some (Sum.inr (Sum.inl (tx l, w))) := by
 unfold F176
 simp only [gP (show ¬ ((9 : Int) < ((tx l).size : Int)) by rw [zK]; omega), qE]
 rfl
theorem q55 {n : Nat} (h : n < 1000000000) : H176 (tx (decL n)) = some (false, wd n) := by
 show (G176 (tx (decL n))).run = _
 have hl := xM h
 have hp := qFT n
 obtain ⟨c, hc, h45⟩ := q9A (d9 n) hp
 unfold G176
 have h0 : decide ((0 : Int) < ((tx (decL n)).size : Int)) = true := decide_eq_true (by rw [zK]; omega)
 simp only [h0, uJ, qF, at0 hc, qA, h45, qE]
 refine sI (t := Sum.inl (tx (decL n), [])) (q4L hl []) ?_
 simp only [z8, qVK h, qA, List.nil_append, qZS (qYF (n := n)), qW]
 rfl
theorem qWY : H195 1 = some (false, wd 1) := q41 (n := 1) (by omega)
theorem qI3 (n : Nat) (h : n < 1000000000) : H191 (tx (decL n)) = some ((decL n).length : Int) := q6H (a := decL n) (b := []) (by have := xM h; omega) (qVI (d9 n)) (.inl ⟨rfl, rfl⟩)
theorem q71 {n : Nat} (h : n < 1000000000) : H198 (tx (decL n)) = some ((false, wd n), (false, wd 1)) := by
 show (G198 (tx (decL n))).run = _
 unfold G198
 have hb : (((decL n).length : Int) == ((tx (decL n)).size : Int)) = true := by rw [zK]; simp
 rw [qI3 n h, qA, hb, qF, q55 h, qA, qWY, qA, qW]
def yA (p q : Nat) : List UInt8 := if q = 1 then decL p else decL p ++ 47 :: decL q
theorem uQ (p : Nat) : yA p 1 = decL p := by unfold yA; rw [if_pos rfl]
theorem qNO {p q : Nat} (hp : p < 1000000000) (hq : q < 1000000000) : (yA p q).length <= 19 := by
 have h1 := xM hp
 have h2 := xM hq
 unfold yA
 split
 ·omega
 ·simp; omega
theorem qDJ {p q : Nat} (hp : p < 1000000000) (hq : q < 1000000000) : H191 (tx (yA p q)) = some ((decL p).length : Int) := by
 have hl := qNO hp hq
 refine q6H (a := decL p) (b := if q = 1 then [] else decL q) (by omega) (qVI (d9 p)) ?_
 unfold yA
 by_cases h : q = 1
 ·rw [if_pos h, if_pos h]; exact .inl ⟨rfl, rfl⟩
 ·rw [if_neg h, if_neg h]; exact .inr rfl
theorem q60 {p q : Nat} (hp : p < 1000000000) (hq : q < 1000000000) : H179 (tx (yA p q)) = some (tx (decL p)) := by
 show (G179 (tx (yA p q))).run = _
 unfold G179
 have hle : (decL p).length <= (yA p q).length := by unfold yA; split <;> simp
 have ht : (yA p q).take (decL p).length = decL p := by
  unfold yA; split
  ·exact List.take_length
  ·exact List.take_left
 have hb : kK (tx (yA p q)).size ((decL p).length : Int) = some (decL p).length := kD (by rw [zK]; exact hle)
 rw [qDJ hp hq, qA, hb, qA, bD, List.drop_zero, ht, qW]
theorem q42 {p q : Nat} (hp : p < 1000000000) (hq : q < 1000000000) : H196 (tx (yA p q)) = some ((p : Int), (q : Int), true) := by
 show (G196 (tx (yA p q))).run = _
 have hl := qNO hp hq
 have h9 := xM hp
 have q9 := xM hq
 have hpp := qFT p
 have hle : (decL p).length <= (yA p q).length := by unfold yA; split <;> simp
 have ht : (yA p q).take (decL p).length = decL p := by
  unfold yA; split
  ·exact List.take_length
  ·exact List.take_left
 obtain ⟨c, hc, h45⟩ := q9A (d9 p) hpp
 have hc2 : (yA p q)[0]? = some c := by
  rw [<- List.getElem?_take_of_lt (show 0 < (decL p).length by omega), ht]; exact hc
 have hb : kK (tx (yA p q)).size ((decL p).length : Int) = some (decL p).length := kD (by rw [zK]; exact hle)
 have h0 : decide ((0 : Int) < ((tx (yA p q)).size : Int)) = true := decide_eq_true (by rw [zK]; omega)
 have h20 : decide ((20 : Int) < ((tx (yA p q)).size : Int)) = false := decide_eq_false (by rw [zK]; omega)
 have hs9 : decide ((9 : Int) < ((decL p).length : Int)) = false := decide_eq_false (by omega)
 have hr : (yA p q).length - (decL p).length <= 10 := by
  unfold yA; split
  ·omega
  ·simp; omega
 have h10 : decide ((10 : Int) < IntKind.i64.wrap (((tx (yA p q)).size : Int) - ((decL p).length : Int))) = false := by
  rw [wL (by rw [zK]; omega) (by rw [zK]; omega)]
  exact decide_eq_false (by rw [zK]; omega)
 have e1 : (tx (yA p q)).extract 0 (decL p).length = tx (decL p) := by rw [bD, List.drop_zero, ht]
 unfold G196
 simp only [h20, qE, h0, uJ, qF, at0 hc2, qA, h45, qDJ hp hq, vC, hs9, Bool.not_false, h10, hb, e1, qVK hp]
 by_cases h1 : q = 1
 ·subst h1
  have hk : ¬ (((decL p).length : Int) < ((tx (yA p 1)).size : Int)) := by rw [zK, uQ]; omega
  simp only [gP hk, qE, qW]
  rfl
 ·have hf : yA p q = decL p ++ 47 :: decL q := by unfold yA; rw [if_neg h1]
  have hk : ((decL p).length : Int) < ((tx (yA p q)).size : Int) := by rw [zK, hf]; simp; omega
  have hb2 : kK (tx (yA p q)).size (((decL p).length + 1 : Nat) : Int) = some ((decL p).length + 1) := kD (by rw [zK, hf]; simp)
  have e2 : (tx (yA p q)).extract ((decL p).length + 1) (tx (yA p q)).size = tx (decL q) := by
   rw [q5G, hf, show decL p ++ 47 :: decL q = (decL p ++ [47]) ++ decL q by simp, List.drop_left' (by simp)]
  simp only [gW hk, qF, yY (show (decL p).length < 2 ^ 62 by omega), hb2, qA, e2, qVK hq, qW]
theorem qBW {n : Nat} (h : 1 <= n) : wd n = [(n : Int)] := by unfold wd; rw [if_neg (by omega)]
theorem q7I {a b : Nat} (hb : 1 <= b) : ∃ c, H219 (wd a, [(b : Int)]) = some c ∧ decide (c < 0) = decide (a < b) := by
 show ∃ c, (G219 (wd a) [(b : Int)]).run = some c ∧ _
 unfold G219 wd
 by_cases h0 : a = 0
 ·subst h0
  exact ⟨-1, rfl, by rw [decide_eq_true (show (0 : Nat) < b by omega)]; rfl⟩
 ·rw [if_neg h0]
  by_cases h1 : a < b
  ·refine ⟨-1, ?_, by rw [decide_eq_true h1]; rfl⟩
   have e : decide ((a : Int) < (b : Int)) = true := decide_eq_true (by omega)
   refine sI (t := Sum.inr (Sum.inl (-1))) ?_ rfl
   show (Tree.ite (decide ((a : Int) < (b : Int))) _ _ : Option _) = _
   rw [e]; rfl
  ·have e : decide ((a : Int) < (b : Int)) = false := decide_eq_false (by omega)
   by_cases h2 : b < a
   ·refine ⟨1, ?_, by rw [decide_eq_false h1]; rfl⟩
    have e2 : decide ((b : Int) < (a : Int)) = true := decide_eq_true (by omega)
    refine sI (t := Sum.inr (Sum.inl 1)) ?_ rfl
    show (Tree.ite (decide ((a : Int) < (b : Int))) _ (Tree.ite (decide ((b : Int) < (a : Int))) _ _) : Option _) = _
    rw [e, e2]; rfl
   ·refine ⟨0, ?_, by rw [decide_eq_false h1]; rfl⟩
    have e2 : decide ((b : Int) < (a : Int)) = false := decide_eq_false (by omega)
    have hstep : ∀ {K : Int ⊕ (Int ⊕ Int ⊕ Nat × Int) -> Tree Int}, True := fun {_} => trivial
    have key : ∀ (F : Int -> Option (Int ⊕ (Int ⊕ Int ⊕ Nat × Int))), F 0 = some (Sum.inl (-1)) -> F (-1) = some (Sum.inr (Sum.inl (-1))) -> qL F 0 = some (Sum.inl (-1)) := fun F h1 h2 => by
     rw [qU, h1]
     simp only
     rw [qU, h2]
    refine (congrArg (fun x => (Tree.bind x _ : Option Int)) (key _ ?_ rfl)).trans rfl
    show (Tree.ite (decide ((a : Int) < (b : Int))) _ (Tree.ite (decide ((b : Int) < (a : Int))) _ _) : Option _) = _
    rw [e, e2]; rfl
end Go.Proofs.YtpdlblofcdcikaaGreatDoor
namespace Go.Proofs.YtpdlblofcdcikaaGreatDoor
open Go.Idl Go.Sv
theorem q8D {a b : Nat} (ha : 1 <= a) (hb : 1 <= b) (h : a < 1000000000) : H220 ([(a : Int)], (b : Int)) = some (wd (a / b), ((a % b : Nat) : Int)) := by
 show (G220 [(a : Int)] b).run = _
 have hm : mkN (([(a : Int)].length : Nat) : Int) = some 1 := rfl
 have e1 : IntKind.i64.wrap (IntKind.i64.wrap (0 * 1000000000) + (a : Int)) = (a : Int) := by
  rw [show IntKind.i64.wrap (0 * 1000000000) = 0 by decide, Int.zero_add]
  exact wL (by omega) (by omega)
 have key : ∀ (F : Int × Int × List Int -> Option (Int × Int × List Int ⊕ (Int × Int × List Int ⊕ (List Int × Int) ⊕ Nat × Int × Int × List Int))), F (0, 0, [0]) = some (Sum.inl (((a % b : Nat) : Int), -1, [((a / b : Nat) : Int)])) -> F (((a % b : Nat) : Int), -1, [((a / b : Nat) : Int)]) = some (Sum.inr (Sum.inl (((a % b : Nat) : Int), -1, [((a / b : Nat) : Int)]))) -> qL F (0, 0, [0]) = some (Sum.inl (((a % b : Nat) : Int), -1, [((a / b : Nat) : Int)])) := fun F h1 h2 => by
  rw [qU, h1]
  simp only
  rw [qU, h2]
 unfold G220
 rw [hm, qA]
 refine (congrArg (fun x => (Tree.bind x _ : Option _)) (key _ ?_ rfl)).trans ?_
 ·show (Tree.bind (qKO IntKind.i64 (IntKind.i64.wrap (IntKind.i64.wrap (0 * 1000000000) + (a : Int))) (b : Int)) fun x6 => Tree.bind (qVG (IntKind.i64.wrap (IntKind.i64.wrap (0 * 1000000000) + (a : Int))) (b : Int)) fun x9 => Tree.ret (Sum.inl (x9, -1, [x6])) : Option _) = _
  rw [e1, qXD (by omega) (by omega), qA, q1O (by omega), qA]
  rfl
 ·simp only [qA, z8]
  erw [qYF]
  rfl
theorem q2L {a b : Nat} (hb : 1 <= b) (h : a < 1000000000) : H212 (wd a, [(b : Int)]) = some (wd (a / b), wd (a % b)) := by
 show (G212 (wd a) [(b : Int)]).run = _
 obtain ⟨c, hc, hlt⟩ := q7I (a := a) hb
 unfold G212
 rw [hc, qA, hlt]
 by_cases h1 : a < b
 ·rw [decide_eq_true h1, qF, qW, Nat.div_eq_of_lt h1, Nat.mod_eq_of_lt h1]
  rfl
 ·rw [decide_eq_false h1, qE, qBW (show 1 <= a by omega)]
  have b1 : ((([(b : Int)].length : Nat) : Int) == 1) = true := rfl
  have i1 : idx [(b : Int)].length 0 = some 0 := rfl
  simp only [b1, qF, i1, qA, List.getElem?_cons_zero, q8D (show 1 <= a by omega) hb h]
  erw [qYF]
  rfl
noncomputable def F211 : List Int × List Int -> Option (List Int × List Int ⊕ (List Int × List Int ⊕ List Int ⊕ Nat × List Int × List Int)) := fun (s2 : List Int × List Int) => Tree.ite (decide (0 < (↑s2.snd.length : Int))) (Tree.bind (H212 (s2.fst, s2.snd)) fun (x3 : List Int × List Int) => Tree.ret (Sum.inl (s2.snd, x3.snd))) (Tree.ret (Sum.inr (Sum.inl (s2.fst, s2.snd))))
theorem q1C : ∀ (y x : Nat), x < 1000000000 -> y < 1000000000 -> qL F211 (wd x, wd y) = some (Sum.inl (wd (Nat.gcd x y), [])) := by
 intro y
 induction y using Nat.strongRecOn with
 | _ y ih =>
   intro x hx hy
   rw [qU]
   by_cases h0 : y = 0
   ·subst h0
    have e : F211 (wd x, wd 0) = some (Sum.inr (Sum.inl (wd x, []))) := rfl
    rw [e, Nat.gcd_zero_right]
   ·have e : F211 (wd x, wd y) = some (Sum.inl (wd y, wd (x % y))) := by
     unfold F211
     rw [qBW (show 1 <= y by omega)]
     have b1 : decide ((0 : Int) < (([(y : Int)].length : Nat) : Int)) = true := rfl
     simp only [b1, qF, q2L (show 1 <= y by omega) hx, qA]
     rfl
    rw [e]
    simp only
    have hm := Nat.mod_lt x (show y > 0 by omega)
    rw [ih (x % y) hm y hy (by omega)]
    congr 4
    rw [Nat.gcd_comm x y, Nat.gcd_rec y x, Nat.gcd_comm]
theorem q8H {a b : Nat} (ha : a < 1000000000) (hb : b < 1000000000) : H211 (wd a, wd b) = some (wd (Nat.gcd a b)) := by
 have e : G211 (wd a) (wd b) = Tree.bind (qL F211 (wd a, wd b)) fun (x2 : List Int × List Int ⊕ List Int ⊕ Nat × List Int × List Int) => Tree.sum x2 (fun (s3 : List Int × List Int) => Tree.ret s3.fst) fun (s3 : List Int ⊕ Nat × List Int × List Int) => Tree.sum s3 (fun (s4 : List Int) => Tree.ret s4) fun (s4 : Nat × List Int × List Int) => Tree.fail := rfl
 show (G211 (wd a) (wd b)).run = _
 rw [e, q1C b a ha hb, qA]
 rfl
theorem q85 : (⟨#[47]⟩ : ByteArray) = tx [47] := rfl
theorem q7T {a b : Nat} (hb1 : 1 <= b) (ha : a < 1000000000) (hb : b < 1000000000) : H199 ((false, wd a), (false, wd b)) = some (tx (yA (a / Nat.gcd a b) (b / Nat.gcd a b))) := by
 show (G199 (false, wd a) (false, wd b)).run = _
 have hg : 0 < Nat.gcd a b := Nat.gcd_pos_of_pos_right a (by omega)
 have hgb : Nat.gcd a b <= b := Nat.gcd_le_right a (by omega)
 have e1 := q2L (a := a) (b := Nat.gcd a b) hg ha
 have e2 := q2L (a := b) (b := Nat.gcd a b) hg hb
 rw [<- qBW hg] at e1 e2
 have hp : a / Nat.gcd a b < 1000000000 := Nat.lt_of_le_of_lt (Nat.div_le_self _ _) ha
 have hq : b / Nat.gcd a b < 1000000000 := Nat.lt_of_le_of_lt (Nat.div_le_self _ _) hb
 have hq1 : 1 <= b / Nat.gcd a b := Nat.div_pos hgb hg
 unfold G199
 simp only [qE, q8H ha hb, qA, e1, e2]
 generalize a / Nat.gcd a b = p at *
 generalize b / Nat.gcd a b = q at *
 have b1 : ((((wd q).length : Nat) : Int) == 1) = true := by rw [qBW hq1]; rfl
 have i1 : idx (wd q).length 0 = some 0 := by rw [qBW hq1]; rfl
 have g0 : (wd q)[0]? = some (q : Int) := by rw [qBW hq1]; rfl
 have l9 := xM hp
 have l9q := xM hq
 simp only [qZS (qU2 (n := p)), qZS (qU2 (n := q)), qA, q2K hp, q2K hq, b1, uJ, qF, i1, g0, q85, qAB, zK]
 by_cases h1 : q = 1
 ·subst h1
  have : (((1 : Nat) : Int) == 1) = true := rfl
  rw [this, qF, qW, uQ]
 ·have h2 : ((q : Int) == 1) = false := by simp; omega
  have k1 : ((decL p).length + [(47 : UInt8)].length).ble 9223372036854775807 = true := Nat.ble_eq_true_of_le (by simp; omega)
  have k2 : ((decL p ++ [47]).length + (decL q).length).ble 9223372036854775807 = true := Nat.ble_eq_true_of_le (by simp; omega)
  rw [h2, qE, k1, qF, k2, qF, qW]
  unfold yA
  rw [if_neg h1, List.append_assoc]
  rfl
theorem q72 {n : Nat} (h1 : 1 <= n) (h : n < 1000000000) : H201 (tx (decL n)) = some (tx (yA 1 n)) := by
 show (G201 (tx (decL n))).run = _
 unfold G201
 rw [q71 h, qA]
 simp only
 rw [q7T h1 (by omega) h, qA, qW, Nat.gcd_one_left, Nat.div_one, Nat.div_one]
noncomputable def F209 (s2 : Int × Int) : Option (Int × Int ⊕ (Int × Int ⊕ Int ⊕ Nat × Int × Int)) := Tree.ite (decide (0 < s2.snd)) (Tree.bind (qVG s2.fst s2.snd) fun (x3 : Int) => Tree.ret (Sum.inl (s2.snd, x3))) (Tree.ret (Sum.inr (Sum.inl (s2.fst, s2.snd))))
theorem q3Q : ∀ (y x : Nat), qL F209 ((x : Int), (y : Int)) = some (Sum.inl (((Nat.gcd x y : Nat) : Int), 0)) := by
 intro y
 induction y using Nat.strongRecOn with
 | _ y ih =>
   intro x
   rw [qU]
   by_cases hy : y = 0
   ·subst hy
    have e : F209 ((x : Int), ((0 : Nat) : Int)) = some (Sum.inr (Sum.inl ((x : Int), 0))) := rfl
    rw [e, Nat.gcd_zero_right]
   ·have hb : decide ((0 : Int) < (y : Int)) = true := decide_eq_true (by omega)
    have e : F209 ((x : Int), (y : Int)) = some (Sum.inl ((y : Int), ((x % y : Nat) : Int))) := by
     unfold F209
     simp only [hb, qF, q1O hy, qA]
     rfl
    rw [e]
    simp only
    rw [ih (x % y) (Nat.mod_lt _ (by omega)) y]
    congr 3
    rw [Nat.gcd_comm x y, Nat.gcd_rec y x, Nat.gcd_comm]
theorem q78 {a b : Nat} : H209 ((a : Int), (b : Int)) = some ((Nat.gcd a b : Nat) : Int) := by
 show (G209 a b).run = _
 have e : G209 a b = Tree.bind (qL F209 ((a : Int), (b : Int))) fun (x2 : Int × Int ⊕ Int ⊕ Nat × Int × Int) => Tree.sum x2 (fun (s3 : Int × Int) => Tree.ret s3.fst) fun (s3 : Int ⊕ Nat × Int × Int) => Tree.sum s3 (fun (s4 : Int) => Tree.ret s4) fun (s4 : Nat × Int × Int) => Tree.fail := rfl
 rw [e, q3Q, qA]
 rfl
theorem tx0 : (⟨#[]⟩ : ByteArray) = tx [] := rfl
theorem q8E {a b : Nat} (hb1 : 1 <= b) (ha : a < 1000000000000000000) (hb : b < 1000000000000000000) : H197 ((a : Int), (b : Int)) = some (tx (yA (a / Nat.gcd a b) (b / Nat.gcd a b))) := by
 show (G197 a b).run = _
 have hg : 0 < Nat.gcd a b := Nat.gcd_pos_of_pos_right a (by omega)
 have hgb : Nat.gcd a b <= b := Nat.gcd_le_right a (by omega)
 have c1 : decide ((a : Int) < -4000000000000000000) = false := decide_eq_false (by omega)
 have c2 : decide ((4000000000000000000 : Int) < (a : Int)) = false := decide_eq_false (by omega)
 have c3 : decide ((b : Int) < -4000000000000000000) = false := decide_eq_false (by omega)
 have c4 : decide ((4000000000000000000 : Int) < (b : Int)) = false := decide_eq_false (by omega)
 have c5 : decide ((b : Int) < 0) = false := decide_eq_false (by omega)
 have neg : ∀ k : Nat, k < 1000000000000000000 -> (bif decide ((k : Int) < IntKind.i64.wrap (0 - (k : Int))) then IntKind.i64.wrap (0 - (k : Int)) else (k : Int)) = (k : Int) := fun k hk => by
  rw [wL (by omega) (by omega), decide_eq_false (show ¬ ((k : Int) < 0 - (k : Int)) by omega)]
  rfl
 have hp : a / Nat.gcd a b < 1000000000000000000 := Nat.lt_of_le_of_lt (Nat.div_le_self _ _) ha
 have hq : b / Nat.gcd a b < 1000000000000000000 := Nat.lt_of_le_of_lt (Nat.div_le_self _ _) hb
 have hq1 : 1 <= b / Nat.gcd a b := Nat.div_pos hgb hg
 have d1 : qKO IntKind.i64 (a : Int) ((Nat.gcd a b : Nat) : Int) = some ((a / Nat.gcd a b : Nat) : Int) := qXD (by omega) (by omega)
 have d2 : qKO IntKind.i64 (b : Int) ((Nat.gcd a b : Nat) : Int) = some ((b / Nat.gcd a b : Nat) : Int) := qXD (by omega) (by omega)
 unfold G197
 simp only [c1, c2, c3, c4, c5, vC, Bool.not_false, qF, qE, neg a ha]
 erw [q78]
 simp only [qA, d1, d2]
 generalize a / Nat.gcd a b = p at *
 generalize b / Nat.gcd a b = q at *
 have c6 : decide ((p : Int) < 0) = false := decide_eq_false (by omega)
 have l9 : (decL p).length <= 18 := nI 17 p (by simpa using hp)
 have l9q : (decL q).length <= 18 := nI 17 q (by simpa using hq)
 have k0 : (([] : List UInt8).length + (decL p).length).ble 9223372036854775807 = true := Nat.ble_eq_true_of_le (by simp; omega)
 simp only [c6, qE, neg p hp, q08 hp, q08 hq, qA, tx0, q85, qAB, zK, k0, qF, List.nil_append]
 by_cases h1 : q = 1
 ·have : decide ((1 : Int) < (q : Int)) = false := decide_eq_false (by omega)
  rw [this, qE, qW, h1, uQ]
 ·have h2 : decide ((1 : Int) < (q : Int)) = true := decide_eq_true (by omega)
  have k1 : ((decL p).length + [(47 : UInt8)].length).ble 9223372036854775807 = true := Nat.ble_eq_true_of_le (by simp; omega)
  have k2 : ((decL p ++ [47]).length + (decL q).length).ble 9223372036854775807 = true := Nat.ble_eq_true_of_le (by simp; omega)
  rw [h2, qF, k1, qF, k2, qF, qW]
  unfold yA
  rw [if_neg h1, List.append_assoc]
  rfl
theorem qRV {a b : Nat} (ha : a < 1000000000) (hb : b < 1000000000) : a * b < 1000000000000000000 := by
 have := Nat.mul_lt_mul'' ha hb
 omega
theorem q5A {p q r s : Nat} (hp : p < 1000000000) (hq : q < 1000000000) (hr : r < 1000000000) (hs : s < 1000000000) (hq1 : 1 <= q) (hs1 : 1 <= s) : H178 (tx (yA p q), tx (yA r s)) = some (tx (yA (p * r / Nat.gcd (p * r) (q * s)) (q * s / Nat.gcd (p * r) (q * s)))) := by
 show (G178 (tx (yA p q)) (tx (yA r s))).run = _
 have m1 := qRV hp hr
 have m2 := qRV hq hs
 have e1 : IntKind.i64.wrap ((p : Int) * (r : Int)) = ((p * r : Nat) : Int) := by rw [<- Int.natCast_mul, wL (by omega) (by omega)]
 have e2 : IntKind.i64.wrap ((q : Int) * (s : Int)) = ((q * s : Nat) : Int) := by rw [<- Int.natCast_mul, wL (by omega) (by omega)]
 unfold G178
 simp only [q42 hp hq, q42 hr hs, qA, uJ, qF, e1, e2, q8E (Nat.mul_pos hq1 hs1) m1 m2, qW]
theorem q0Y {o n : Nat} (ho : o < 30000) (hn : n < 30000) (hn1 : 1 <= n) : ∃ d, H180 (tx (decL o), tx (decL n)) = some (tx d) ∧ H179 (tx d) = some (tx (decL (o / Nat.gcd o n))) ∧ H178 (tx (decL (o / Nat.gcd o n)), tx (decL n)) = some (tx (decL (Nat.lcm o n))) := by
 have hg : 0 < Nat.gcd o n := Nat.gcd_pos_of_pos_right o (by omega)
 have hp : o / Nat.gcd o n <= o := Nat.div_le_self _ _
 have hq : n / Nat.gcd o n <= n := Nat.div_le_self _ _
 refine ⟨yA (o / Nat.gcd o n) (n / Nat.gcd o n), ?_, q60 (by omega) (by omega), ?_⟩
 ·show (G180 (tx (decL o)) (tx (decL n))).run = _
  unfold G180
  have := q5A (p := o) (q := 1) (r := 1) (s := n) (by omega) (by omega) (by omega) (by omega) (by omega) hn1
  rw [uQ, Nat.mul_one, Nat.one_mul] at this
  rw [q72 hn1 (by omega), qA, this, qA, qW]
 ·have := q5A (p := o / Nat.gcd o n) (q := 1) (r := n) (s := 1) (by omega) (by omega) (by omega) (by omega) (by omega) (by omega)
  rw [uQ, uQ, Nat.mul_one, Nat.gcd_one_right, Nat.div_one, Nat.div_one, uQ] at this
  rw [this]
  congr 3
  unfold Nat.lcm
  rw [Nat.mul_comm o n, Nat.mul_div_assoc _ (Nat.gcd_dvd_left o n), Nat.mul_comm]
theorem q68 {n : Nat} (h : n < 1000000000) : H175 (tx (decL n)) = some true := by
 show (G175 (tx (decL n))).run = _
 unfold G175
 have hb : (((decL n).length : Int) == ((tx (decL n)).size : Int)) = true := by rw [zK]; simp
 rw [qI3 n h, qA, hb, qW]
end Go.Proofs.YtpdlblofcdcikaaGreatDoor
namespace Go.Proofs.YtpdlblofcdcikaaGreatDoor
open Go.Idl Go.Sv
theorem qR0 {S σ τ : Type} {F : S -> Option (S ⊕ τ)} (E : Nat -> σ -> S) (I : Nat -> σ -> Prop) (dn : σ -> τ) {n : Nat}
 (hs : ∀ k s, k < n -> I k s -> ∃ s', F (E k s) = some (.inl (E (k + 1) s')) ∧ I (k + 1) s') (he : ∀ s, I n s -> F (E n s) = some (.inr (dn s))) : ∀ (m k : Nat) (s : σ), k + m = n -> I k s -> ∃ s', qL F (E k s) = some (dn s') ∧ I n s'
 | 0, k, s, h, hI => by
   have : k = n := by omega
   subst this
   exact ⟨s, by rw [qU, he s hI], hI⟩
 | m + 1, k, s, h, hI => by
   obtain ⟨s', h1, h2⟩ := hs k s (by omega) hI
   obtain ⟨s2, h3, h4⟩ := qR0 E I dn hs he m (k + 1) s' (by omega) h2
   exact ⟨s2, by rw [qU, h1]; exact h3, h4⟩
theorem rdB {l : List Bool} {k : Nat} (h : k < l.length) : l[k]? = some (l.getD k false) := by
 rw [List.getElem?_eq_getElem h]
 simp [List.getD, h]
def cnt : List Bool -> Nat
 | [] => 0
 | true :: l => cnt l + 1
 | false :: l => cnt l
theorem qM1 : ∀ l : List Bool, cnt l <= l.length
 | [] => Nat.le_refl _
 | true :: l => by have := qM1 l; simp only [cnt, List.length_cons]; omega
 | false :: l => by have := qM1 l; simp only [cnt, List.length_cons]; omega
theorem qVM : ∀ {l : List Bool} {i : Nat}, l[i]? = some false -> cnt (l.set i true) = cnt l + 1
 | [], i, h => by simp at h
 | b :: l, 0, h => by
   have : b = false := by simpa using h
   subst this
   rfl
 | b :: l, i + 1, h => by
   have ih := qVM (l := l) (i := i) (by simpa using h)
   cases b
   ·show cnt (l.set i true) = cnt l + 1
    exact ih
   ·show cnt (l.set i true) + 1 = cnt l + 1 + 1
    rw [ih]
theorem qT4 {l : List Bool} {i x : Nat} (hi : i < l.length) : (l.set i true).getD x false = (decide (i = x) || l.getD x false) := by
 by_cases h : i = x
 ·subst h
  simp [List.getD, hi]
 ·simp [List.getD, List.getElem?_set_ne h, h]
theorem qSZ {R S τ : Type} {F : S -> Option (S ⊕ τ)} {K : τ -> Tree R} {v : Option R} {s : S} {t : τ} (h : F s = some (.inr t)) (hv : (K t).run = v) : Tree.bind (qL F s) K = v := by
 rw [qU, h]
 exact hv
noncomputable def qQZ (x0 : List Int) : Int × List Int × List Bool -> Option (Int × List Int × List Bool ⊕ (Int × List Int × List Bool ⊕ List (List Int) ⊕ Nat × Int × List Int × List Bool)) := fun (s3 : Int × List Int × List Bool) => Tree.bind (idx s3.snd.snd.length s3.fst) fun (x4 : Nat) => Tree.bind s3.snd.snd[x4]? fun (x5 : Bool) => Tree.ite (!x5) (Tree.bind (idx s3.snd.snd.length s3.fst) fun (x6 : Nat) => Tree.bind s3.snd.snd[x6]? fun (x7 : Bool) => Tree.ite ((s3.snd.fst.length + [s3.fst].length).ble 1048576) (Tree.bind (idx x0.length s3.fst) fun (x8 : Nat) => Tree.bind x0[x8]? fun (x9 : Int) => Tree.ret (Sum.inl (x9, s3.snd.fst ++ [s3.fst], s3.snd.snd.set x6 true))) Tree.fail) (Tree.ret (Sum.inr (Sum.inl (s3.fst, s3.snd.fst, s3.snd.snd))))
section
variable {n : Nat} {p : List Int}
def jD (p : List Int) (i : Nat) (s0 : List Bool) : Nat -> List Bool
 | 0 => s0
 | t + 1 => (jD p i s0 t).set (itp p t i) true
def cT (p : List Int) (i t : Nat) : List Int := (List.range t).map fun s => ((itp p s i : Nat) : Int)
theorem wZ (i : Nat) (s0 : List Bool) : ∀ t, (jD p i s0 t).length = s0.length
 | 0 => rfl
 | t + 1 => by rw [jD, List.length_set, wZ i s0 t]
theorem uP (hp : PermL n p) {i : Nat} (hi : i < n) {s0 : List Bool} (hl : s0.length = n) (x : Nat) : ∀ t, ((jD p i s0 t).getD x false = true ↔ s0.getD x false = true ∨ ∃ s, s < t ∧ itp p s i = x)
 | 0 => by
   constructor
   ·exact .inl
   ·rintro (h | ⟨s, hs, _⟩)
    ·exact h
    ·omega
 | t + 1 => by
   have ih := uP hp hi hl x t
   rw [jD, qT4 (by rw [wZ, hl]; exact wJ hp t hi), Bool.or_eq_true, decide_eq_true_iff, ih]
   constructor
   ·rintro (h | h | ⟨s, h1, h2⟩)
    ·exact .inr ⟨t, by omega, h⟩
    ·exact .inl h
    ·exact .inr ⟨s, by omega, h2⟩
   ·rintro (h | ⟨s, h1, h2⟩)
    ·exact .inr (.inl h)
    ·rcases Nat.lt_or_ge s t with h | h
     ·exact .inr (.inr ⟨s, h, h2⟩)
     ·have : s = t := by omega
      subst this
      exact .inl h2
def q2C (n : Nat) (p : List Int) (s : List Bool) : Prop := ∀ x, x < n -> s.getD (phi p x) false = s.getD x false
theorem qN9 (hp : PermL n p) {s : List Bool} (hc : q2C n p s) {i : Nat} (hi : i < n) : ∀ t, s.getD (itp p t i) false = s.getD i false
 | 0 => rfl
 | t + 1 => by rw [vT, hc _ (wJ hp t hi), qN9 hp hc hi t]
theorem q5S (hp : PermL n p) {i : Nat} (hi : i < n) {s t : Nat} (h1 : s < t) (h2 : t < cyc p n i) : itp p s i ≠ itp p t i := by
 intro e
 obtain ⟨_, _, _, c4⟩ := wH hp hi
 rw [show t = (t - s) + s by omega, uM] at e
 exact c4 (t - s) (by omega) (by omega) (qLO hp s (wJ hp (t - s) hi) hi e.symm)
theorem free_at (hp : PermL n p) {i : Nat} (hi : i < n) {s0 : List Bool} (hl : s0.length = n) (hc : q2C n p s0) (h0 : s0.getD i false = false) {t : Nat} (ht : t < cyc p n i) : (jD p i s0 t)[itp p t i]? = some false := by
 rw [rdB (by rw [wZ, hl]; exact wJ hp t hi)]
 congr 1
 cases h : (jD p i s0 t).getD (itp p t i) false with
 | false => rfl
 | true =>
   rcases (uP hp hi hl _ t).1 h with h1 | ⟨s, h1, h2⟩
   ·rw [qN9 hp hc hi t, h0] at h1; cases h1
   ·exact absurd h2 (q5S hp hi h1 ht)
theorem qC3 (hp : PermL n p) {i : Nat} (hi : i < n) (hn : n <= 1000) {s0 : List Bool} (hl : s0.length = n) (hc : q2C n p s0) (h0 : s0.getD i false = false) : ∀ (m t : Nat), t + m = cyc p n i -> qL (qQZ p) (((itp p t i : Nat) : Int), cT p i t, jD p i s0 t) = some (Sum.inl ((i : Int), cT p i (cyc p n i), jD p i s0 (cyc p n i)))
 | 0, t, h => by
   have ht : t = cyc p n i := by omega
   subst ht
   obtain ⟨c1, c2, c3, c4⟩ := wH hp hi
   rw [c1, qU]
   have q1 : i < (jD p i s0 (cyc p n i)).length := by rw [wZ, hl]; exact hi
   have g1 : (jD p i s0 (cyc p n i))[i]? = some true := by
    rw [rdB q1, (uP hp hi hl i _).2 (.inr ⟨0, by omega, rfl⟩)]
   have e : qQZ p ((i : Int), cT p i (cyc p n i), jD p i s0 (cyc p n i)) = some (Sum.inr (Sum.inl ((i : Int), cT p i (cyc p n i), jD p i s0 (cyc p n i)))) := by
    unfold qQZ
    simp only [qX q1, qA, g1, Bool.not_true, qE]
    rfl
   rw [e]
 | m + 1, t, h => by
   obtain ⟨c1, c2, c3, c4⟩ := wH hp hi
   have hit := wJ hp t hi
   have q1 : itp p t i < (jD p i s0 t).length := by rw [wZ, hl]; exact hit
   have g1 := free_at hp hi hl hc h0 (t := t) (by omega)
   obtain ⟨g2, g3⟩ := wM hp hit
   have q2 : itp p t i < p.length := by rw [hp.len]; exact hit
   have hb : (cT p i t).length < 1048576 := by unfold cT; simp; omega
   have e : qQZ p (((itp p t i : Nat) : Int), cT p i t, jD p i s0 t) = some (Sum.inl (((itp p (t + 1) i : Nat) : Int), cT p i (t + 1), jD p i s0 (t + 1))) := by
    unfold qQZ
    simp only [qX q1, qA, g1, Bool.not_false, qF, qJQ hb, qX q2, g2]
    rw [vT]
    show some (Sum.inl _) = _
    congr 4
    unfold cT
    rw [List.range_succ, List.map_append]
    rfl
   rw [qU, e]
   exact qC3 hp hi hn hl hc h0 m (t + 1) (by omega)
theorem qO8 (i t : Nat) : (cT p i t).length = t := by unfold cT; simp
theorem qIA (hp : PermL n p) {i : Nat} (hi : i < n) {s0 : List Bool} (hl : s0.length = n) (hc : q2C n p s0) (h0 : s0.getD i false = false) : ∀ t, t <= cyc p n i -> cnt (jD p i s0 t) = cnt s0 + t
 | 0, _ => rfl
 | t + 1, h => by
   rw [jD, qVM (free_at hp hi hl hc h0 (by omega)), qIA hp hi hl hc h0 t (by omega)]
   rfl
theorem qPP (hp : PermL n p) {i : Nat} (hi : i < n) {s0 : List Bool} (hl : s0.length = n) (hc : q2C n p s0) : q2C n p (jD p i s0 (cyc p n i)) := by
 obtain ⟨c1, c2, c3, c4⟩ := wH hp hi
 intro x hx
 have key : (jD p i s0 (cyc p n i)).getD (phi p x) false = true ↔ (jD p i s0 (cyc p n i)).getD x false = true := by
  rw [uP hp hi hl, uP hp hi hl, hc x hx]
  constructor
  ·rintro (h | ⟨s, h1, h2⟩)
   ·exact .inl h
   ·refine .inr ?_
    cases s with
    | succ s =>
      rw [vT] at h2
      exact ⟨s, by omega, qK9 hp (wJ hp s hi) hx h2⟩
    | zero =>
      have e : itp p (cyc p n i - 1 + 1) i = i := by rw [show cyc p n i - 1 + 1 = cyc p n i by omega, c1]
      rw [vT] at e
      have h2 : i = phi p x := h2
      exact ⟨cyc p n i - 1, by omega, qK9 hp (wJ hp _ hi) hx (e.trans h2)⟩
  ·rintro (h | ⟨s, h1, h2⟩)
   ·exact .inl h
   ·refine .inr ?_
    rcases Nat.lt_or_ge (s + 1) (cyc p n i) with h | h
    ·exact ⟨s + 1, h, by rw [vT, h2]⟩
    ·have hs : s + 1 = cyc p n i := by omega
     refine ⟨0, by omega, ?_⟩
     show i = phi p x
     rw [<- h2, <- vT, hs, c1]
 cases h1 : (jD p i s0 (cyc p n i)).getD (phi p x) false with
 | true => exact (key.1 h1).symm
 | false =>
   cases h2 : (jD p i s0 (cyc p n i)).getD x false with
   | false => rfl
   | true => rw [key.2 h2] at h1; cases h1
structure CycI (n : Nat) (p : List Int) (k : Nat) (s : List (List Int) × List Bool) : Prop where
 len : s.2.length = n
 clos : q2C n p s.2
 cov : ∀ x, x < n -> s.2.getD x false = true -> ∃ c ∈ s.1, itp p c.length x = x
 low : ∀ x, x < k -> x < n -> s.2.getD x false = true
 sum : (s.1.map List.length).sum <= cnt s.2
 pos : ∀ c ∈ s.1, 1 <= c.length
theorem qLU : ∀ {L : List (List Int)}, (∀ c ∈ L, 1 <= c.length) -> L.length <= (L.map List.length).sum
 | [], _ => Nat.le_refl _
 | c :: L, h => by
   have h1 := h c List.mem_cons_self
   have h2 := qLU (L := L) fun d hd => h d (List.mem_cons_of_mem _ hd)
   simp only [List.length_cons, List.map_cons, List.sum_cons]
   omega
theorem q76 (hp : PermL n p) (hn : n <= 1000) : ∃ L, H115 p = some L ∧ (∀ x, x < n -> ∃ c ∈ L, itp p c.length x = x) ∧ (L.map List.length).sum <= n ∧ ∀ c ∈ L, 1 <= c.length := by
 show ∃ L, (G115 p).run = some L ∧ _
 have hmk : mkN ((p.length : Nat) : Int) = some n := by rw [hp.len]; exact q6M (by omega)
 have hpl := hp.len
 unfold G115
 rw [hmk, qA]
 have hI0 : CycI n p 0 ([], List.replicate n false) := by
  have hz : ∀ x, (List.replicate n false).getD x false = false := fun x => by
   by_cases h : x < n
   ·simp [List.getD, h]
   ·simp [List.getD, h]
  exact ⟨by simp, fun x _ => (by rw [hz, hz]), fun x _ h => (by rw [hz] at h; cases h), fun x h _ => (by omega), by simp, fun c h => (by cases h)⟩
 refine Exists.elim (qR0 (τ := Int × List (List Int) × List Bool ⊕ List (List Int) ⊕ Nat × Int × List (List Int) × List Bool) (F := fun (s2 : Int × List (List Int) × List Bool) => Tree.ite (decide (s2.fst < (↑p.length : Int))) (Tree.bind (qL (fun (s3 : Int × List Int × List Bool) => Tree.bind (idx s3.snd.snd.length s3.fst) fun (x4 : Nat) => Tree.bind s3.snd.snd[x4]? fun (x5 : Bool) => Tree.ite (!x5) (Tree.bind (idx s3.snd.snd.length s3.fst) fun (x6 : Nat) => Tree.bind s3.snd.snd[x6]? fun (x7 : Bool) => Tree.ite ((s3.snd.fst.length + [s3.fst].length).ble 1048576) (Tree.bind (idx p.length s3.fst) fun (x8 : Nat) => Tree.bind p[x8]? fun (x9 : Int) => Tree.ret (Sum.inl (x9, s3.snd.fst ++ [s3.fst], s3.snd.snd.set x6 true))) Tree.fail) (Tree.ret (Sum.inr (Sum.inl (s3.fst, s3.snd.fst, s3.snd.snd))))) (s2.fst, [], s2.snd.snd)) fun (x3 : Int × List Int × List Bool ⊕ List (List Int) ⊕ Nat × Int × List Int × List Bool) => Tree.sum x3 (fun (s4 : Int × List Int × List Bool) => Tree.ite (decide (0 < (↑s4.snd.fst.length : Int))) (Tree.ite ((s2.snd.fst.length + [s4.snd.fst].length).ble 1048576) (Tree.ret (Sum.inl (IntKind.i64.wrap (s2.fst + 1), s2.snd.fst ++ [s4.snd.fst], s4.snd.snd))) Tree.fail) (Tree.ret (Sum.inl (IntKind.i64.wrap (s2.fst + 1), s2.snd.fst, s4.snd.snd)))) fun (s4 : List (List Int) ⊕ Nat × Int × List Int × List Bool) => Tree.sum s4 (fun (s5 : List (List Int)) => Tree.ret (Sum.inr (Sum.inr (Sum.inl s5)))) fun (s5 : Nat × Int × List Int × List Bool) => Tree.fail) (Tree.ret (Sum.inr (Sum.inl (s2.fst, s2.snd.fst, s2.snd.snd))))) (fun (k : Nat) (s : List (List Int) × List Bool) => ((k : Int), s.1, s.2)) (CycI n p) (fun s => Sum.inl ((n : Int), s.1, s.2)) (n := n) (fun k s hk hs => ?step) (fun s hs => ?fin) n 0 ([], List.replicate n false) (by omega) hI0) (fun s' hh => ?main)
 case main =>
  obtain ⟨h1, h2⟩ := hh
  refine ⟨s'.1, ?_, fun x hx => h2.cov x hx (h2.low x hx hx), Nat.le_trans h2.sum (by have := qM1 s'.2; rw [h2.len] at this; exact this), h2.pos⟩
  refine (congrArg (fun x => (Tree.bind x _ : Option _)) h1).trans ?_
  rfl
 case step =>
  obtain ⟨L, sn⟩ := s
  have hk3 : (k : Int) < ((p.length : Nat) : Int) := by omega
  have hLl := qLU hs.pos
  have hcl := qM1 sn
  have hsl : sn.length = n := hs.len
  have hsum := hs.sum
  have hbL : L.length < 1048576 := by simp only at hLl hsum; omega
  simp only [gW hk3, qF]
  cases h0 : sn.getD k false with
  | true =>
    refine ⟨(L, sn), ?_, ⟨hs.len, hs.clos, hs.cov, fun x h1 h2 => ?_, hs.sum, hs.pos⟩⟩
    ·have q1 : k < sn.length := by omega
     have g1 : sn[k]? = some true := by rw [rdB q1, h0]
     refine qSZ (t := Sum.inl ((k : Int), [], sn)) ?_ ?_
     ·simp only [qX q1, qA, g1, Bool.not_true, qE]
      rfl
     ·have hz : decide ((0 : Int) < ((([] : List Int).length : Nat) : Int)) = false := rfl
      simp only [z8, hz, qE, yY (show k < 2 ^ 62 by omega)]
      rfl
    ·rcases Nat.lt_or_ge x k with h | h
     ·exact hs.low x h h2
     ·have : x = k := by omega
      subst this; exact h0
  | false =>
    obtain ⟨c1, c2, c3, c4⟩ := wH hp hk
    have hin := qC3 hp hk hn hs.len hs.clos h0 (cyc p n k) 0 (by omega)
    have hct := qIA hp hk hs.len hs.clos h0 (cyc p n k) (Nat.le_refl _)
    refine ⟨(L ++ [cT p k (cyc p n k)], jD p k sn (cyc p n k)), ?_, ⟨by rw [wZ]; exact hs.len, qPP hp hk hs.len hs.clos, fun x hx hsx => ?_, fun x h1 h2 => ?_, ?_, fun c hc => ?_⟩⟩
    ·refine (congrArg (fun x => (Tree.bind x _ : Option _)) (show qL (qQZ p) ((k : Int), [], sn) = _ from hin)).trans ?_
     have hz : decide ((0 : Int) < (((cT p k (cyc p n k)).length : Nat) : Int)) = true := decide_eq_true (by rw [qO8]; omega)
     simp only [qA, z8, hz, qF, qJQ hbL, yY (show k < 2 ^ 62 by omega)]
     rfl
    ·rcases (uP hp hk hs.len x _).1 hsx with h | ⟨s, h1, h2⟩
     ·obtain ⟨c, hc, he⟩ := hs.cov x hx h
      exact ⟨c, List.mem_append_left _ hc, he⟩
     ·refine ⟨cT p k (cyc p n k), List.mem_append_right _ (List.mem_singleton_self _), ?_⟩
      rw [qO8, <- h2, <- uM, Nat.add_comm, uM, c1]
    ·refine (uP hp hk hs.len x _).2 ?_
     rcases Nat.lt_or_ge x k with h | h
     ·exact .inl (hs.low x h h2)
     ·exact .inr ⟨0, by omega, by show k = x; omega⟩
    ·show ((L ++ [cT p k (cyc p n k)]).map List.length).sum <= cnt (jD p k sn (cyc p n k))
     have hsum : (L.map List.length).sum <= cnt sn := hsum
     have hct : cnt (jD p k sn (cyc p n k)) = cnt sn + cyc p n k := hct
     rw [hct]
     simp only [List.map_append, List.sum_append, List.map_cons, List.map_nil, List.sum_cons, List.sum_nil, qO8]
     omega
    ·rcases List.mem_append.1 hc with h | h
     ·exact hs.pos c h
     ·rw [List.mem_singleton.1 h, qO8]; exact c2
 case fin =>
  have hk3 : ¬ (n : Int) < ((p.length : Nat) : Int) := by omega
  simp only [gP hk3, qE]
  rfl
end
end Go.Proofs.YtpdlblofcdcikaaGreatDoor
namespace Go.Proofs.YtpdlblofcdcikaaGreatDoor
open Go.Idl Go.Sv
noncomputable def F151 (x2 : Bool × List Int) : Int × Int -> Option (Int × Int ⊕ (Int × Int ⊕ (Int × Bool) ⊕ Nat × Int × Int)) := fun (s3 : Int × Int) => Tree.ite (decide (0 <= s3.snd)) (Tree.bind (idx x2.snd.length s3.snd) fun (x4 : Nat) => Tree.bind x2.snd[x4]? fun (x5 : Int) => Tree.ite x2.fst (Tree.ite (qG (decide (9223372036 < s3.fst)) false) (Tree.ite (qG (decide (s3.fst < -9223372036)) false) (Tree.ite (qG (s3.fst == 9223372036) true) (Tree.ite (qG (decide (854775807 < IntKind.i64.wrap (0 - x5))) false) (Tree.ite (qG (s3.fst == -9223372036) true) (Tree.ite (decide (IntKind.i64.wrap (0 - x5) < -854775808)) (Tree.ret (Sum.inr (Sum.inr (Sum.inl (0, false))))) (Tree.ret (Sum.inl (IntKind.i64.wrap (IntKind.i64.wrap (s3.fst * 1000000000) + IntKind.i64.wrap (0 - x5)), IntKind.i64.wrap (s3.snd - 1))))) (Tree.ret (Sum.inl (IntKind.i64.wrap (IntKind.i64.wrap (s3.fst * 1000000000) + IntKind.i64.wrap (0 - x5)), IntKind.i64.wrap (s3.snd - 1))))) (Tree.ret (Sum.inr (Sum.inr (Sum.inl (0, false)))))) (Tree.ite (qG (s3.fst == -9223372036) true) (Tree.ite (decide (IntKind.i64.wrap (0 - x5) < -854775808)) (Tree.ret (Sum.inr (Sum.inr (Sum.inl (0, false))))) (Tree.ret (Sum.inl (IntKind.i64.wrap (IntKind.i64.wrap (s3.fst * 1000000000) + IntKind.i64.wrap (0 - x5)), IntKind.i64.wrap (s3.snd - 1))))) (Tree.ret (Sum.inl (IntKind.i64.wrap (IntKind.i64.wrap (s3.fst * 1000000000) + IntKind.i64.wrap (0 - x5)), IntKind.i64.wrap (s3.snd - 1)))))) (Tree.ret (Sum.inr (Sum.inr (Sum.inl (0, false)))))) (Tree.ret (Sum.inr (Sum.inr (Sum.inl (0, false)))))) (Tree.ite (qG (decide (9223372036 < s3.fst)) false) (Tree.ite (qG (decide (s3.fst < -9223372036)) false) (Tree.ite (qG (s3.fst == 9223372036) true) (Tree.ite (qG (decide (854775807 < x5)) false) (Tree.ite (qG (s3.fst == -9223372036) true) (Tree.ite (decide (x5 < -854775808)) (Tree.ret (Sum.inr (Sum.inr (Sum.inl (0, false))))) (Tree.ret (Sum.inl (IntKind.i64.wrap (IntKind.i64.wrap (s3.fst * 1000000000) + x5), IntKind.i64.wrap (s3.snd - 1))))) (Tree.ret (Sum.inl (IntKind.i64.wrap (IntKind.i64.wrap (s3.fst * 1000000000) + x5), IntKind.i64.wrap (s3.snd - 1))))) (Tree.ret (Sum.inr (Sum.inr (Sum.inl (0, false)))))) (Tree.ite (qG (s3.fst == -9223372036) true) (Tree.ite (decide (x5 < -854775808)) (Tree.ret (Sum.inr (Sum.inr (Sum.inl (0, false))))) (Tree.ret (Sum.inl (IntKind.i64.wrap (IntKind.i64.wrap (s3.fst * 1000000000) + x5), IntKind.i64.wrap (s3.snd - 1))))) (Tree.ret (Sum.inl (IntKind.i64.wrap (IntKind.i64.wrap (s3.fst * 1000000000) + x5), IntKind.i64.wrap (s3.snd - 1)))))) (Tree.ret (Sum.inr (Sum.inr (Sum.inl (0, false)))))) (Tree.ret (Sum.inr (Sum.inr (Sum.inl (0, false))))))) (Tree.ret (Sum.inr (Sum.inl (s3.fst, s3.snd))))
theorem q6X {h : Nat} (h1 : 1 <= h) (hh : h < 1000000000) : H151 (tx (decL h)) = some ((h : Int), true) := by
 have hl := xM hh
 have key : qL (F151 (false, [(h : Int)])) (0, 0) = some (Sum.inl ((h : Int), -1)) := by
  have e : F151 (false, [(h : Int)]) (0, 0) = some (Sum.inl (IntKind.i64.wrap (IntKind.i64.wrap (0 * 1000000000) + (h : Int)), IntKind.i64.wrap (0 - 1))) := rfl
  have e1 : IntKind.i64.wrap (IntKind.i64.wrap (0 * 1000000000) + (h : Int)) = (h : Int) := by
   rw [show IntKind.i64.wrap (0 * 1000000000) = 0 by decide, Int.zero_add]
   exact wL (by omega) (by omega)
  have e2 : IntKind.i64.wrap (0 - 1) = -1 := by decide
  rw [qU, e, e1, e2]
  simp only
  rw [qU]
  rfl
 have h20 : decide ((20 : Int) < ((tx (decL h)).size : Int)) = false := decide_eq_false (by rw [zK]; omega)
 have e0 : IntKind.i64.wrap ((([(h : Int)].length : Nat) : Int) - 1) = 0 := by
  show IntKind.i64.wrap (((1 : Nat) : Int) - 1) = 0
  decide
 have e : G151 (tx (decL h)) = Tree.bind (H175 (tx (decL h))) fun (x1 : Bool) => Tree.ite (qG (!x1) false) (Tree.ite (decide (20 < ((tx (decL h)).size : Int))) (Tree.ret (0, false)) (Tree.bind (H176 (tx (decL h))) fun (x2 : Bool × List Int) => Tree.bind (qL (F151 x2) (0, IntKind.i64.wrap ((x2.snd.length : Int) - 1))) fun (x3 : Int × Int ⊕ Int × Bool ⊕ Nat × Int × Int) => Tree.sum x3 (fun (s4 : Int × Int) => Tree.ret (s4.fst, true)) fun (s4 : Int × Bool ⊕ Nat × Int × Int) => Tree.sum s4 (fun (s5 : Int × Bool) => Tree.ret (s5.fst, s5.snd)) fun (s5 : Nat × Int × Int) => Tree.fail)) (Tree.ret (0, false)) := rfl
 show (G151 (tx (decL h))).run = _
 rw [e, q68 hh, qA, q55 hh]
 simp only [Bool.not_true, vC, Bool.not_false, qF, h20, qE, qA, qBW h1, e0]
 rw [key, qA]
 rfl
def qJT (L : List (List Int)) : Nat := L.foldl (fun a c => Nat.lcm a c.length) 1
theorem qR4 (L : List (List Int)) (c : List Int) : qJT (L ++ [c]) = Nat.lcm (qJT L) c.length := by
 unfold qJT; rw [List.foldl_append]; rfl
theorem q74 (L : List (List Int)) : ∀ (a : Nat), (a ∣ L.foldl (fun a c => Nat.lcm a c.length) a) ∧ (∀ c ∈ L, c.length ∣ L.foldl (fun a c => Nat.lcm a c.length) a) := by
 induction L with
 | nil => intro a; exact ⟨Nat.dvd_refl _, fun c h => by cases h⟩
 | cons c L ih =>
   intro a
   obtain ⟨h1, h2⟩ := ih (Nat.lcm a c.length)
   refine ⟨Nat.dvd_trans (Nat.dvd_lcm_left _ _) h1, fun d hd => ?_⟩
   rcases List.mem_cons.1 hd with rfl | hd
   ·exact Nat.dvd_trans (Nat.dvd_lcm_right _ _) h1
   ·exact h2 d hd
theorem qW8 {L : List (List Int)} {c : List Int} (h : c ∈ L) : c.length ∣ qJT L := (q74 L 1).2 c h
theorem q5T (a b : Nat) : Nat.lcm a b <= a * b := by
 unfold Nat.lcm
 exact Nat.div_le_self _ _
theorem qY1 (L : List (List Int)) : ∀ (a : Nat), L.foldl (fun a c => Nat.lcm a c.length) a <= a * 2 ^ (L.map List.length).sum := by
 induction L with
 | nil => intro a; simp
 | cons c L ih =>
   intro a
   refine Nat.le_trans (ih _) ?_
   rw [List.map_cons, List.sum_cons, Nat.pow_add, <- Nat.mul_assoc]
   refine Nat.mul_le_mul_right _ (Nat.le_trans (q5T a c.length) (Nat.mul_le_mul_left _ (Nat.le_of_lt Nat.lt_two_pow_self)))
theorem qRY (L : List (List Int)) (h : ∀ c ∈ L, 1 <= c.length) : ∀ (a : Nat), 1 <= a -> 1 <= L.foldl (fun a c => Nat.lcm a c.length) a := by
 induction L with
 | nil => intro a ha; exact ha
 | cons c L ih =>
   intro a ha
   exact ih (fun d hd => h d (List.mem_cons_of_mem _ hd)) _ (Nat.lcm_pos (by omega) (h c List.mem_cons_self))
theorem qU5 (L : List (List Int)) : qJT L <= 2 ^ (L.map List.length).sum := by
 have := qY1 L 1
 rwa [Nat.one_mul] at this
theorem qYB (L : List (List Int)) (k : Nat) : ((L.take k).map List.length).sum <= (L.map List.length).sum := by
 have h : L.map List.length = (L.take k).map List.length ++ (L.drop k).map List.length := by rw [<- List.map_append, List.take_append_drop]
 rw [h, List.sum_append]
 omega
theorem q17 {L : List (List Int)} {c : List Int} (h : c ∈ L) : c.length <= (L.map List.length).sum := by
 obtain ⟨a, b, rfl⟩ := List.append_of_mem h
 simp only [List.map_append, List.sum_append, List.map_cons, List.sum_cons]
 omega
theorem qQG {L : List (List Int)} {k : Nat} {x : List Int} (h : L[k]? = some x) : L.take (k + 1) = L.take k ++ [x] := by
 rw [List.take_add_one, h]
 rfl
theorem q61 {p : List Int} {L : List (List Int)} (hL : H115 p = some L) (hs : (L.map List.length).sum <= 12) (hpos : ∀ c ∈ L, 1 <= c.length) : H152 p = some (tx (decL (qJT L))) := by
 show (G152 p).run = _
 unfold G152
 rw [hL, qA]
 have hLl := qLU hpos
 have e1 : (⟨#[49]⟩ : ByteArray) = tx (decL 1) := by rw [gD (by omega)]; rfl
 rw [e1]
 have bnd : ∀ k, qJT (L.take k) <= 4096 := fun k => by
  have h1 := qU5 (L.take k)
  have h2 := qYB L k
  have h3 := Nat.pow_le_pow_right (n := 2) (by omega) (show ((L.take k).map List.length).sum <= 12 by omega)
  have h4 : (2 : Nat) ^ 12 = 4096 := rfl
  omega
 refine zI L.length (fun (k : Nat) (s : ByteArray) => (s, (k : Int))) (fun k s => s = tx (decL (qJT (L.take k)))) (fun k s => tx (decL (qJT (L.take (k + 1))))) (fun s => Sum.inl (s, (L.length : Int))) (tx (decL 1)) rfl rfl (fun k s hk hI => ?_) (fun s hI => ?_) (fun hI => ?_)
 ·refine ⟨?_, rfl⟩
  obtain ⟨c, hc, mc⟩ := yZ hk
  have hk3 : (k : Int) < (L.length : Int) := by omega
  have hcl := q17 mc
  have hc1 := hpos c mc
  obtain ⟨d, s1, s2, s3⟩ := q0Y (o := qJT (L.take k)) (n := c.length) (by have := bnd k; omega) (by omega) hc1
  rw [qQG hc, qR4, hI]
  simp only [gW hk3, qF, qX hk, qA, hc, q7C (show c.length < 1000000000 by omega), s1, s2, s3, yY (show k < 2 ^ 62 by omega)]
  rfl
 ·simp only [gP (Int.lt_irrefl _), qE]
  rfl
 ·rw [hI, List.take_length]
  simp only [z8, qW]
theorem q2Z {n : Nat} {w : List Int} (h : okW n w) {i : Nat} (hi : i < n) : phi (rH n w) (phi (xY n w) i) = i := by
 obtain ⟨h1, h2⟩ := wM (y5 h) hi
 have h3 := qB1 h h1
 unfold phi at h3 ⊢
 rw [List.getD, h3]
 simp
theorem qVC {n : Nat} {w : List Int} (h : okW n w) : ∀ (t : Nat) {i : Nat}, i < n -> itp (rH n w) t (itp (xY n w) t i) = i
 | 0, i, _ => rfl
 | t + 1, i, hi => by
   have hlt := wJ (y5 h) t hi
   rw [vT (xY n w) t i]
   show itp (rH n w) t (phi (rH n w) (phi (xY n w) (itp (xY n w) t i))) = i
   rw [q2Z h hlt, qVC h t hi]
theorem q4K {n : Nat} {w : List Int} (h2 : 2 <= n) (h12 : n <= 12) (hw : okW n w) (l1 : 1 <= w.length) (l24 : w.length <= 24) : ∃ h, Ord n w h := by
 have hp := qXW (show 0 < n by omega) hw
 obtain ⟨L, hL, hcov, hsum, hpos⟩ := q76 hp (by omega)
 have hpl : 1 <= qJT L := qRY L hpos 1 (Nat.le_refl _)
 have hle : qJT L <= 4096 := by
  have h1 := qU5 L
  have h3 := Nat.pow_le_pow_right (n := 2) (by omega) (show (L.map List.length).sum <= 12 by omega)
  have h4 : (2 : Nat) ^ 12 = 4096 := rfl
  omega
 refine ⟨qJT L, h2, h12, hw, l1, l24, ?_, hpl, by omega, fun i hi => ?_⟩
 ·show (G113 n w).run = _
  unfold G113
  rw [q8L (by omega) hw (by omega), qA, q61 hL (by omega) hpos, qA, q6X hpl (by omega), qA, qW]
 ·have hfix : ∀ x, x < n -> itp (rH n w) (qJT L) x = x := fun x hx => by
   obtain ⟨c, hc, he⟩ := hcov x hx
   obtain ⟨q, hq⟩ := qW8 hc
   rw [hq]
   exact qFN he q
  have hf := wJ (y5 hw) (qJT L) hi
  have e := qVC hw (qJT L) hi
  rw [hfix _ hf] at e
  exact e
end Go.Proofs.YtpdlblofcdcikaaGreatDoor
namespace Go.Proofs.YtpdlblofcdcikaaGreatDoor
open Go.Idl Go.Sv
theorem q1H {n : Int} {w : List Int} (h : qQM n w = 0) : ∃ m : Nat, n = (m : Int) ∧ 2 <= m ∧ m <= 12 ∧ okW m w ∧ 1 <= w.length ∧ w.length <= 24 := by
 unfold qQM at h
 cases ho : qEW n 2 12 with
 | true => rw [ho] at h; cases h
 | false =>
   obtain ⟨h1, h2⟩ := qRX ho
   rw [ho] at h
   simp only [cond_false] at h
   by_cases h3 : w.length = 0
   ·rw [if_pos h3] at h; cases h
   ·rw [if_neg h3] at h
    by_cases h4 : 24 < w.length
    ·rw [if_pos h4] at h; cases h
    ·rw [if_neg h4] at h
     cases hl : w.all (qZB n) with
     | false => rw [hl] at h; cases h
     | true =>
       refine ⟨n.toNat, by omega, by omega, by omega, fun c hc => ?_, by omega, by omega⟩
       have := List.all_eq_true.1 hl c hc
       unfold qZB at this
       rw [qMV h1 h2] at this
       simp only [Bool.and_eq_true, Bool.not_eq_true', beq_eq_false_iff_ne, decide_eq_false_iff_not] at this
       exact ⟨this.1, by omega⟩
theorem qX8 {k : Int} (h : tH k = 0) : ∃ m : Nat, k = (m : Int) ∧ 1 <= m ∧ m <= 24 := by
 unfold tH qEW at h
 cases h1 : decide (k < 1) with
 | true => rw [h1] at h; cases h
 | false =>
   cases h2 : decide (24 < k) with
   | true => rw [h1, h2] at h; cases h
   | false =>
     have h1 := of_decide_eq_false h1
     have h2 := of_decide_eq_false h2
     exact ⟨k.toNat, by omega, by omega, by omega⟩
theorem q1R {n : Int} {c : List Int} (h : qPN n c = 0) : (c.length : Int) = n := by
 unfold qPN at h
 cases h1 : qEW n 2 12 with
 | true => rw [h1] at h; cases h
 | false =>
   cases h2 : ((c.length : Int) != n) with
   | true => rw [h1, h2] at h; cases h
   | false => simpa using h2
theorem ne0 {e : Int} (h : e ≠ 0) : (e == 0) = false ∧ (e != 0) = true := by simp [h]
theorem nE {e : Int} (h : e ≠ 0) (l : List Int) : pY (e :: l) = e := by unfold pY; rw [if_pos h]
theorem p8 (l : List Int) : pY (0 :: l) = pY l := by
 show (if (0 : Int) ≠ 0 then (0 : Int) else pY l) = _
 rw [if_neg (by simp)]
theorem rD (e : Int) : pY [e] = e := by
 unfold pY
 split
 ·rfl
 ·rename_i h
  have h : e = 0 := by simpa using h
  rw [h]; rfl
theorem q28 {a : List (List Int)} {e : Int} (ha : a.length < 2 ^ 62) (hr : ∀ r ∈ a, r.length < 2 ^ 62) : H32 (a, e, a, e) = some true := by
 rw [zAB ha hr]; simp
theorem q8G {a e : Int} : H43 (a, e, a, e) = some true := by
 rw [q9W]; simp
theorem q8C {e : Int} : H32 ([], e, [], e) = some true := q28 (by simp) (fun r h => by cases h)
theorem qZJ {n : Nat} {w : List Int} (K : Nat) : ((List.range K).map (nT n w)).length = K := by simp
theorem q8K (n : Int) (w c : List Int) (k : Int) : H11 ((n, w), c, k) = some true := by
 show (G11 (n, w) c k).run = _
 unfold G11
 by_cases hlw : w.length <= 27
 case neg =>
  have : decide ((w.length : Int) <= 27) = false := decide_eq_false (by omega)
  simp only [this, Bool.not_false, vC, Bool.not_true, qE, qW]
 have d1 : decide ((w.length : Int) <= 27) = true := decide_eq_true (by omega)
 by_cases hlc : c.length <= 30
 case neg =>
  have : decide ((30 : Int) < (c.length : Int)) = true := decide_eq_true (by omega)
  simp only [d1, Bool.not_true, vC, Bool.not_false, qF, this, qW]
 have d2 : decide ((30 : Int) < (c.length : Int)) = false := decide_eq_false (by omega)
 have hw62 : w.length < 2 ^ 62 := by omega
 have hc62 : c.length < 2 ^ 62 := by omega
 have f2 : ∀ a b : Int, H37 [a, b] = some (pY [a, b]) := fun a b => q6V (by simp)
 have f3 : ∀ a b d : Int, H37 [a, b, d] = some (pY [a, b, d]) := fun a b d => q6V (by simp)
 have p2 : ∀ a b : Int, H87 [a, b] = some (pY [a, b]) := fun a b => q5J (by simp)
 have z0 : ((0 : Int) == 0) = true := rfl
 have g20 : H20 (n, w) = some (qQM n w) := q9X
 have g22 : H22 (n, c) = some (qPN n c) := q9N
 have g32 : ∀ e : Int, H32 ([], e, [], e) = some true := fun e => q8C
 have g43 : ∀ a e : Int, H43 (a, e, a, e) = some true := fun a e => q8G
 have z1 : ((0 : Int) != 0) = false := rfl
 by_cases he : qQM n w = 0
 case neg =>
  obtain ⟨n1, n2⟩ := ne0 he
  have h59 : H59 (n, w, k) = some ([], qQM n w) := by
   show (G59 n w k).run = _
   unfold G59
   rw [q3S hw62, qA, qQ1, qA, p2, qA, nE he, n2, qF, qW]
  have h60 : H60 (n, w) = some (0, qQM n w) := by
   show (G60 n w).run = _
   unfold G60
   rw [q3S hw62, qA, n2, qF, qW]
  have h61 : H61 (n, w, c, k) = some ([], qQM n w) := by
   show (G61 n w c k).run = _
   unfold G61
   rw [qPZ hw62 hc62, qA, qQ1, qA, nE he, p2, qA, nE he, n2, qF, qW]
  have h62 : H62 (n, w, c) = some (0, qQM n w) := by
   show (G62 n w c).run = _
   unfold G62
   rw [qPZ hw62 hc62, qA, nE he, n2, qF, qW]
  simp only [d1, d2, Bool.not_true, vC, Bool.not_false, qF, qE, h59, h60, h61, h62, qA, g20, q4S, g22, f2, f3, nE he, n1, g32, g43, uJ, qW]
 obtain ⟨m, rfl, m2, m12, hok, l1, l24⟩ := q1H he
 obtain ⟨h, o⟩ := q4K m2 m12 hok l1 l24
 have hf := y5 hok
 have e92 : H92 ((m : Int), w) = some (p9 m w, xY m w) := q88 (by omega) hok (by omega)
 have h60 : H60 ((m : Int), w) = some (((qJM m w : Nat) : Int), 0) := by
  show (G60 m w).run = _
  unfold G60
  rw [q3S hw62, qA, he, z1, qE, e92, qA]
  simp only
  rw [show H132 (p9 m w, xY m w) = some ((qJM m w : Nat) : Int) from q5X hf (kW hok) (by omega) (by rw [jS]; omega) o.h1 o.h2 o.fix, qA, qW]
 have h65 := zAC o
 -- rows
 have hr59 : (tH k ≠ 0 ∧ H59 ((m : Int), w, k) = some ([], tH k)) ∨ (tH k = 0 ∧ ∃ K : Nat, k = (K : Int) ∧ 1 <= K ∧ K <= 24 ∧ H59 ((m : Int), w, k) = some ((List.range K).map (nT m w), 0) ∧ H64 ((m : Int), w, k) = some ((List.range K).map (nT m w))) := by
  by_cases hr : tH k = 0
  ·obtain ⟨K, rfl, k1, k2⟩ := qX8 hr
   refine .inr ⟨hr, K, rfl, k1, k2, ?_, ?_⟩
   ·show (G59 m w K).run = _
    unfold G59
    rw [q3S hw62, qA, qQ1, qA, p2, qA, he, hr, p8, rD, z1, qE, e92, qA]
    simp only
    rw [q6U (by rw [hf.len]; exact hf.ran) (by rw [hf.len]; exact kW hok) (by rw [hf.len]; omega) (by rw [jS]; omega) (by omega), qA, qW]
    rfl
   ·rw [q67 (by omega) hok (by omega) (by omega), qAX hok]
  ·refine .inl ⟨hr, ?_⟩
   show (G59 m w k).run = _
   unfold G59
   rw [q3S hw62, qA, qQ1, qA, p2, qA, he, p8, rD, (ne0 hr).2, qF, qW]
 have h62p : (qPN m c ≠ 0 ∧ H62 ((m : Int), w, c) = some (0, qPN m c)) ∨ (qPN m c = 0 ∧ c.length = m ∧ H62 ((m : Int), w, c) = some (((qZK m w c : Nat) : Int), 0) ∧ H67 ((m : Int), w, c) = some ((qZK m w c : Nat) : Int)) := by
  by_cases hp : qPN m c = 0
  ·have hcl := q1R hp
   have hcl : c.length = m := by omega
   refine .inr ⟨hp, hcl, q9J o hcl ?_, q93 o hcl⟩
   rw [qPZ hw62 hc62, he, hp, p8, rD]
  ·refine .inl ⟨hp, ?_⟩
   show (G62 m w c).run = _
   unfold G62
   rw [qPZ hw62 hc62, qA, he, p8, rD, (ne0 hp).2, qF, qW]
 have h61g : ∀ e, pY [qPN m c, tH k] = e -> e ≠ 0 -> H61 ((m : Int), w, c, k) = some ([], e) := fun e h1 h2 => by
  show (G61 m w c k).run = _
  unfold G61
  rw [qPZ hw62 hc62, qA, qQ1, qA, he, p8, rD, p2, qA, h1, (ne0 h2).2, qF, qW]
 rcases hr59 with ⟨hr, h59⟩ | ⟨hr, K, rfl, k1, k2, h59, h64⟩
 ·obtain ⟨r1, r2⟩ := ne0 hr
  rcases h62p with ⟨hp, h62⟩ | ⟨hp, hcl, h62, h67⟩
  ·obtain ⟨p1, p3⟩ := ne0 hp
   have h61 := h61g _ (nE hp _) hp
   simp only [d1, d2, Bool.not_true, vC, Bool.not_false, qF, qE, h59, h60, h61, h62, h65, qA, g20, q4S, g22, f2, f3, he, p8, nE hp, rD, r1, p1, z0, g32, g43, uJ, qW]
  ·have h61 := h61g (tH k) (by rw [hp, p8, rD]) hr
   simp only [d1, d2, Bool.not_true, vC, Bool.not_false, qF, qE, h59, h60, h61, h62, h65, h67, qA, g20, q4S, g22, f2, f3, he, hp, p8, rD, r1, z0, g32, g43, uJ, qW]
 ·have hs1 : ((List.range K).map (nT m w)).length < 2 ^ 62 := by rw [qZJ]; omega
  have hs2 : ∀ r ∈ (List.range K).map (nT m w), r.length < 2 ^ 62 := fun r hr => by
   obtain ⟨i, _, rfl⟩ := List.mem_map.1 hr
   rw [uR, jS]; omega
  have g32s : ∀ e : Int, H32 ((List.range K).map (nT m w), e, (List.range K).map (nT m w), e) = some true := fun e => q28 hs1 hs2
  rcases h62p with ⟨hp, h62⟩ | ⟨hp, hcl, h62, h67⟩
  ·obtain ⟨p1, p3⟩ := ne0 hp
   have h61 := h61g _ (nE hp _) hp
   simp only [d1, d2, Bool.not_true, vC, Bool.not_false, qF, qE, h59, h60, h61, h62, h64, h65, qA, g20, q4S, g22, f2, f3, he, hr, p8, nE hp, rD, p1, z0, g32, g32s, g43, uJ, qW]
  ·have e133 := q4W (ss := p9 m w) (fs := xY m w) (c := c) (R := K) (by rw [hf.len]; exact hf.ran) (by rw [hf.len]; exact kW hok) (by rw [hf.len]; omega) (by rw [jS]; omega) (by omega) (by rw [hf.len]; exact hcl) (fun r => by rw [hf.len]; exact qLJ hf (kW hok) r)
   rw [qJO] at e133
   have h61 : H61 ((m : Int), w, c, (K : Int)) = some ((List.range K).map (rowP m w c), 0) := by
    show (G61 m w c K).run = _
    unfold G61
    rw [qPZ hw62 hc62, qA, qQ1, qA, he, hp, hr, p8, rD, p2, qA, p8, rD, z1, qE, e92, qA]
    simp only
    rw [e133, qA, qW]
   have h66 := q87 (n := m) (R := K) (w := w) (c := c) m12 hok l24 (by omega) hcl
   have ht1 : ((List.range K).map (rowP m w c)).length < 2 ^ 62 := by simp; omega
   have ht2 : ∀ r ∈ (List.range K).map (rowP m w c), r.length < 2 ^ 62 := fun r hr => by
    obtain ⟨i, _, rfl⟩ := List.mem_map.1 hr
    rw [qGF]; omega
   have g32t : ∀ e : Int, H32 ((List.range K).map (rowP m w c), e, (List.range K).map (rowP m w c), e) = some true := fun e => q28 ht1 ht2
   simp only [d1, d2, Bool.not_true, vC, Bool.not_false, qF, qE, h59, h60, h61, h62, h64, h65, h66, h67, qA, g20, q4S, g22, f2, f3, he, hp, hr, p8, rD, z0, g32, g32s, g32t, g43, uJ, qW]
end Go.Proofs.YtpdlblofcdcikaaGreatDoor
