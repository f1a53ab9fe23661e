/- Permutations, cycles, ways, plainly. Conditions: none. -/
import Derived.Test.YtpegkendiefkaaaGreatDoorSvB
set_option linter.all false
namespace Go.Sv
open Go.Idl
variable {a b : Int} {k n : Nat}
section
variable {R α β : Type}
theorem qG {x y : zHP R} : zHP.ite true x y = x := rfl
theorem qC {x y : zHP R} : zHP.ite false x y = y := rfl
theorem qA {a : α} {k : α -> zHP R} : zHP.bind (some a) k = k a := rfl
theorem zW {a : α} {f : α -> zHP R} {g : β -> zHP R} : zHP.sum (.inl a) f g = f a := rfl
theorem qD7 {b : β} {f : α -> zHP R} {g : β -> zHP R} : zHP.sum (.inr b) f g = g b := rfl
theorem qZ {r : R} : zHP.run (zHP.ret r) = some r := rfl
end
theorem qR (h : k < n) : idx n (k : Int) = some k := by
 unfold idx;rw [if_pos ⟨by omega, by omega⟩];simp
theorem qC2 (h : k <= n) : eB n (k : Int) = some k := by
 unfold eB;rw [if_pos ⟨by omega, by omega⟩];simp
theorem yK (h : k < 2 ^ 62) : IntKind.i64.wrap ((k : Int) + 1) = ((k + 1 : Nat) : Int) := by
 rw [wrap_i64 (by omega) (by omega)];omega
def scan {ρ : Type} (f : Nat -> Option ρ) : Nat -> Nat -> Option ρ
 | 0, _ => none
 | m + 1, k => match f k with
   | some r => some r
   | none => scan f m (k + 1)
theorem aU {ρ : Type} {f : Nat -> Option ρ} : ∀ {m k : Nat}, scan f m k = none ↔ ∀ i, k <= i -> i < k + m -> f i = none
 | 0, k => by simp [scan]; intro i h1 h2; omega
 | m + 1, k => by
   unfold scan
   cases hf : f k with
   | some r =>
     simp only [reduceCtorEq, false_iff];intro h;rw [h k (zT0 _) (by omega)] at hf;cases hf
   | none =>
     simp only;rw [aU];constructor
     ·intro h i h1 h2;by_cases hk : i = k
      ·rw [hk]; exact hf
      ·exact h i (by omega) (by omega)
     ·intro h i h1 h2;exact h i (by omega) (by omega)
theorem aS {ρ : Type} {f : Nat -> Option ρ} {r : ρ} : ∀ {m k : Nat}, scan f m k = some r -> ∃ i, k <= i ∧ i < k + m ∧ f i = some r ∧ ∀ j, k <= j -> j < i -> f j = none
 | 0, k, h => by cases h
 | m + 1, k, h => by
   unfold scan at h
   cases hf : f k with
   | some r' =>
     rw [hf] at h;cases h;exact ⟨k, zT0 _, by omega, hf, fun j h1 h2 => by omega⟩
   | none =>
     rw [hf] at h;obtain ⟨i, h1, h2, h3, h4⟩ := aS h;refine ⟨i, by omega, by omega, h3, fun j h5 h6 => ?_⟩;by_cases hk : j = k
     ·rw [hk]; exact hf
     ·exact h4 j (by omega) h6
variable [Gc]
theorem qLD {ρ τ : Type} {F : Int -> Option (Int ⊕ τ)} (f : Nat -> Option ρ) (up : ρ -> τ) (dn : τ) {n : Nat} (hs : ∀ k, k < n -> F (k : Int) = match f k with
 | some r => some (.inr (up r))
 | none => some (.inl ((k + 1 : Nat) : Int))) (he : F (n : Int) = some (.inr dn)) : ∀ (m k : Nat), k + m = n -> qJ F (k : Int) = some (match scan f m k with
 | some r => up r
 | none => dn)
 | 0, k, h => by
   have : k = n := by omega
   subst this;rw [qO, he];rfl
 | m + 1, k, h => by
   rw [qO, hs k (by omega)];unfold scan
   cases f k with
   | some r => rfl
   | none => exact qLD f up dn hs he m (k + 1) (by omega)
def qWC {σ : Type} (g : Nat -> σ -> σ) : Nat -> Nat -> σ -> σ
 | 0, _, s => s
 | m + 1, k, s => qWC g m (k + 1) (g k s)
theorem qLH {S σ τ : Type} {F : S -> Option (S ⊕ τ)} (E : Nat -> σ -> S) (I : Nat -> σ -> Prop) (g : Nat -> σ -> σ) (dn : σ -> τ) {n : Nat}
 (hs : ∀ k s, k < n -> I k s -> F (E k s) = some (.inl (E (k + 1) (g k s))) ∧ I (k + 1) (g k s)) (he : ∀ s, I n s -> F (E n s) = some (.inr (dn s))) :
 ∀ (m k : Nat) (s : σ), k + m = n -> I k s -> qJ F (E k s) = some (dn (qWC g m k s)) ∧ I n (qWC g m k s)
 | 0, k, s, h, hI => by
   have : k = n := by omega
   subst this;rw [qO, he s hI];exact ⟨rfl, hI⟩
 | m + 1, k, s, h, hI => by
   obtain ⟨h1, h2⟩ := hs k s (by omega) hI;rw [qO, h1];exact qLH E I g dn hs he m (k + 1) (g k s) (by omega) h2
theorem wL {R ρ τ : Type} {F : Int -> Option (Int ⊕ τ)} {K : τ -> zHP R} {v : Option R} (n : Nat) (f : Nat -> Option ρ) (up : ρ -> τ) (dn : τ) (hs : ∀ k : Nat, k < n -> F (k : Int) = match f k with
 | some r => some (.inr (up r))
 | none => some (.inl ((k + 1 : Nat) : Int))) (he : F (n : Int) = some (.inr dn)) (hv : (match scan f n 0 with
 | some r => K (up r)
 | none => K dn).run = v) : (zHP.bind (qJ F 0) K).run = v := by
 have := qLD f up dn hs he n 0 (by omega);rw [show qJ F 0 = _ from this, qA]
 cases h : scan f n 0 with
 | none => rw [h] at hv; exact hv
 | some r => rw [h] at hv; exact hv
theorem kG {R S σ τ : Type} {F : S -> Option (S ⊕ τ)} {K : τ -> zHP R} {v : Option R} {s0 : S} (n : Nat) (E : Nat -> σ -> S) (I : Nat -> σ -> Prop) (g : Nat -> σ -> σ) (dn : σ -> τ) (s : σ) (h0 : s0 = E 0 s) (hI : I 0 s)
 (hs : ∀ k s, k < n -> I k s -> F (E k s) = some (.inl (E (k + 1) (g k s))) ∧ I (k + 1) (g k s)) (he : ∀ s, I n s -> F (E n s) = some (.inr (dn s))) (hv : I n (qWC g n 0 s) -> (K (dn (qWC g n 0 s))).run = v) : (zHP.bind (qJ F s0) K).run = v := by
 obtain ⟨h1, h2⟩ := qLH E I g dn hs he n 0 s (by omega) hI;rw [h0, h1, qA];exact hv h2
theorem gP (h : a < b) : decide (a < b) = true := decide_eq_true h
theorem fU (h : ¬ a < b) : decide (a < b) = false := decide_eq_false h
theorem kR {α : Type} {l : List α} (h : k < l.length) : ∃ x, l[k]? = some x ∧ x ∈ l := ⟨l[k], zT1 h, zV3 h⟩
end Go.Sv
namespace Go.Proofs.YtpegkendiefkaaaGreatDoor
open Go.Idl Go.Sv
theorem uV {n : Int} (h0 : -9223372036854775808 <= n) (h1 : n <= 9223372036854775807) : IntKind.i64.wrap n = n := by
 by_cases hn : 0 <= n
 ·have e : n % (18446744073709551616 : Int) = n := Int.emod_eq_of_lt hn (by omega);have hw : IntKind.i64.wrap n = if (true && decide (n % (18446744073709551616 : Int) ≥ 9223372036854775808)) = true then n % (18446744073709551616 : Int) - 18446744073709551616 else n % (18446744073709551616 : Int) := rfl;rw [hw];simp only [e];rw [if_neg (by simp; omega)]
 ·have e : n % (18446744073709551616 : Int) = n + 18446744073709551616 := by omega
  have hw : IntKind.i64.wrap n = if (true && decide (n % (18446744073709551616 : Int) ≥ 9223372036854775808)) = true then n % (18446744073709551616 : Int) - 18446744073709551616 else n % (18446744073709551616 : Int) := rfl;rw [hw];simp only [e];rw [if_pos (by simp; omega)];omega
def qW (n : Nat) : List Int := (List.range n).map fun (i : Nat) => (i : Int)
theorem qBQ (n : Nat) : qW (n + 1) = qW n ++ [(n : Int)] := by simp [qW, zWB]
theorem y9 (n : Nat) : (qW n).length = n := by simp [qW]
theorem qBG {n i : Nat} (h : i < n) : (qW n).getD i 0 = (i : Int) := by simp [qW, List.getD, h]
def q6A (c : Int) : Nat := if 0 < c then c.toNat - 1 else (0 - c).toNat
def oN (l : List Int) (i : Nat) : List Int := (l.set (i - 1) (l.getD i 0)).set i (l.getD (i - 1) 0)
theorem qCK (l : List Int) (i : Nat) : (oN l i).length = l.length := by simp [oN]
def rA : List Int -> List Int -> List Int × List Int
 | [], l => ([], l)
 | c :: w, l => (l.getD (q6A c) 0 :: (rA w (oN l c.natAbs)).1, (rA w (oN l c.natAbs)).2)
theorem qBS (c : Int) : ∀ (w l : List Int), rA (w ++ [c]) l = ((rA w l).1 ++ [(rA w l).2.getD (q6A c) 0], oN (rA w l).2 c.natAbs)
 | [], l => rfl
 | d :: w, l => by
   show (_ :: (rA (w ++ [c]) _).1, (rA (w ++ [c]) _).2) = _;rw [qBS c w]; rfl
theorem qAR : ∀ (w l : List Int), (rA w l).1.length = w.length ∧ (rA w l).2.length = l.length
 | [], l => ⟨rfl, rfl⟩
 | d :: w, l => by
   obtain ⟨h1, h2⟩ := qAR w (oN l d.natAbs);exact ⟨by show _ + 1 = _; rw [h1]; rfl, by rw [qCK] at h2; exact h2⟩
def okW (n : Nat) (w : List Int) : Prop := ∀ c ∈ w, c ≠ 0 ∧ c.natAbs < n
def fI (p c : List Int) (n : Nat) : Nat -> List Int
 | 0 => List.replicate n 0
 | k + 1 => (fI p c n k).set (p.getD k 0).toNat (c.getD k 0)
theorem gM (p c : List Int) (n : Nat) : ∀ k, (fI p c n k).length = n
 | 0 => by simp [fI]
 | k + 1 => by simp [fI, gM p c n k]
def inR (n : Nat) (p : List Int) : Prop := ∀ z ∈ p, 0 <= z ∧ z < (n : Int)
theorem qMY {n : Nat} {l : List Int} (h : inR n l) {i : Nat} {z : Int} (hz : 0 <= z ∧ z < (n : Int)) : inR n (l.set i z) := by
 intro x hx;rcases zVH hx with h1 | h1
 ·exact h x h1
 ·rw [h1]; exact hz
theorem qNF {n : Nat} {l : List Int} (h : inR n l) {i : Nat} (hi : i < l.length) : 0 <= l.getD i 0 ∧ l.getD i 0 < (n : Int) := by
 have : l.getD i 0 = l[i] := by simp [List.getD, hi]
 rw [this]; exact h _ (zV3 hi)
theorem q36 {n : Nat} {l : List Int} (h : inR n l) {i : Nat} (hi : i < l.length) : inR n (oN l i) := qMY (qMY h (qNF h hi)) (qNF h (by omega))
theorem qV7 {n : Nat} : ∀ (w l : List Int), okW n w -> l.length = n -> inR n l -> inR n (rA w l).2
 | [], l, _, _, h => h
 | c :: w, l, hw, hl, h => qV7 w (oN l c.natAbs) (fun x hx => hw x (zT4 _ hx)) (by rw [qCK]; exact hl) (q36 h (by rw [hl]; exact (hw c zT8).2))
theorem qKF (n : Nat) : inR n (qW n) := by
 intro z hz;simp [qW] at hz;obtain ⟨a, ha, rfl⟩ := hz;omega
theorem qP0 {n : Nat} {p c : List Int} (hc : inR n c) (hn : 0 < n) (hcl : c.length = n) : ∀ k, k <= n -> inR n (fI p c n k)
 | 0, _ => by
   intro z hz;simp [fI] at hz;omega
 | k + 1, hk => qMY (qP0 hc hn hcl k (by omega)) (qNF hc (by omega))
def zK (n : Nat) (w : List Int) : List Int := (rA w (qW n)).2
theorem jD (n : Nat) (w : List Int) : (zK n w).length = n := by rw [zK, (qAR _ _).2, y9]
theorem q3K {n : Nat} {w : List Int} (h : okW n w) : inR n (zK n w) := qV7 _ _ h (y9 n) (qKF n)
def xK (n : Nat) (w : List Int) : List Int := fI (zK n w) (qW n) n n
theorem qI4 (n : Nat) (w : List Int) : (xK n w).length = n := gM _ _ _ _
theorem q2D {n : Nat} {w : List Int} (hn : 0 < n) : inR n (xK n w) := qP0 (qKF n) hn (y9 n) n (zT0 _)
def aM (f c : List Int) : List Int := f.map fun z => c.getD z.toNat 0
theorem aV (f c : List Int) : (aM f c).length = f.length := by simp [aM]
theorem q1E (a b : List Int) (x y : Int) : oN (a ++ x :: y :: b) (a.length + 1) = a ++ y :: x :: b := by
 unfold oN;have h1 : (a ++ x :: y :: b).getD (a.length + 1) 0 = y := by simp [List.getD]
 have h2 : (a ++ x :: y :: b).getD (a.length + 1 - 1) 0 = x := by simp [List.getD]
 rw [h1, h2];simp only [zXU];rw [zYC _ _ (zT0 _), zXD, List.set_cons_zero, zYC _ _ (by omega)];have : a.length + 1 - a.length = 1 := by omega
 rw [this];rfl
theorem qSB {l : List Int} {i : Nat} (h0 : 0 < i) (h : i < l.length) : (oN l i).Perm l := by
 have e : l = l.take (i - 1) ++ l[i - 1] :: l[i] :: l.drop (i + 1) := by
  have h1 := zVG (l := l) (i := i - 1) (by omega);have h2 := zVG (l := l) (i := i) h;have h3 : i - 1 + 1 = i := by omega
  rw [h3, h2] at h1;rw [<- h1, zWX]
 have hl : (l.take (i - 1)).length + 1 = i := by simp; omega
 generalize l.take (i - 1) = a at e hl;generalize l[i - 1] = x at e;generalize l[i] = y at e;generalize l.drop (i + 1) = b at e;subst e hl;rw [q1E];exact (List.Perm.swap x y b).append_left a
theorem qJ9 {n : Nat} : ∀ (w l : List Int), okW n w -> l.length = n -> (rA w l).2.Perm l
 | [], l, _, _ => .refl _
 | c :: w, l, hw, hl => by
   obtain ⟨h0, h1⟩ := hw c zT8;have := qJ9 w (oN l c.natAbs) (fun x hx => hw x (zT4 _ hx)) (by rw [qCK]; exact hl);exact this.trans (qSB (by omega) (by omega))
theorem qTR {n : Nat} {w : List Int} (h : okW n w) : (zK n w).Perm (qW n) := qJ9 _ _ h (y9 n)
theorem qJK (n : Nat) : (qW n).Nodup := by
 unfold qW;rw [zW0, List.pairwise_map];exact (zW0.1 zYA).imp fun h e => h (by omega)
structure zH0 (n : Nat) (f : List Int) : Prop where
 len : f.length = n
 ran : inR n f
 inj : ∀ (i j : Nat) (z : Int), f[i]? = some z -> f[j]? = some z -> i = j
 sur : ∀ k, k < n -> ∃ i : Nat, i < n ∧ f[i]? = some (k : Int)
theorem qXP {f : List Int} (h : f.Nodup) {i j : Nat} {z : Int} (hi : f[i]? = some z) (hj : f[j]? = some z) : i = j := by
 obtain ⟨h1, e1⟩ := zT2.1 hi;obtain ⟨h2, e2⟩ := zT2.1 hj;rw [zW0, List.pairwise_iff_getElem] at h;rcases Nat.lt_trichotomy i j with hlt | heq | hlt
 ·exact absurd (e1.trans e2.symm) (h i j h1 h2 hlt)
 ·exact heq
 ·exact absurd (e2.trans e1.symm) (h j i h2 h1 hlt)
theorem yM {n : Nat} {w : List Int} (h : okW n w) : zH0 n (zK n w) := by
 have hp := qTR h;refine ⟨jD n w, q3K h, fun i j z h1 h2 => qXP (hp.nodup_iff.2 (qJK n)) h1 h2, fun k hk => ?_⟩;have hm : (k : Int) ∈ zK n w := hp.mem_iff.2 (by simp [qW]; exact ⟨k, hk, rfl⟩);obtain ⟨i, hi⟩ := zYB.1 hm;exact ⟨i, by have := (zT2.1 hi).1; rw [jD] at this; exact this, hi⟩
theorem qGU {n : Nat} {p c : List Int} (hp : p.length = n) (hr : inR n p) (inj : ∀ (i j : Nat) (z : Int), p[i]? = some z -> p[j]? = some z -> i = j) : ∀ k, k <= n -> ∀ (j z : Nat), j < k -> p[j]? = some (z : Int) -> (fI p c n k)[z]? = some (c.getD j 0)
 | 0, _, j, z, hj, _ => by omega
 | k + 1, hk, j, z, hj, hz => by
   have hzn : z < n := by have := (hr _ (zUP hz)).2; omega
   obtain ⟨y, hy⟩ : ∃ y, p[k]? = some y := ⟨_, zT1 (by omega)⟩
   obtain ⟨y0, _⟩ := hr y (zUP hy);obtain ⟨y, rfl⟩ := zX5 y0;have hgd : p.getD k 0 = (y : Int) := by simp [List.getD, hy]
   show ((fI p c n k).set (p.getD k 0).toNat (c.getD k 0))[z]? = _;rw [hgd, zV9, zUM];by_cases hjk : j = k
   ·subst hjk;rw [hz] at hy;have : z = y := by simp at hy; omega
    subst this;rw [if_pos rfl, gM, if_pos hzn]
   ·have hne : y ≠ z := fun e => hjk (by subst e; exact inj j k _ hz hy)
    rw [if_neg hne];exact qGU hp hr inj k (by omega) j z (by omega) hz
theorem o7 {n : Nat} {w : List Int} (h : okW n w) {i k : Nat} (hi : (zK n w)[i]? = some (k : Int)) : (xK n w)[k]? = some (i : Int) := by
 have hf := yM h;have hin : i < n := by have := (zT2.1 hi).1; rw [hf.len] at this; exact this
 have := qGU (c := qW n) hf.len hf.ran hf.inj n (zT0 _) i k hin hi;rw [qBG hin] at this;exact this
theorem fZ {n : Nat} {w : List Int} (hn : 0 < n) (h : okW n w) : zH0 n (xK n w) := by
 have hf := yM h
 have key : ∀ (a : Nat) (z : Int), (xK n w)[a]? = some z -> ∃ i : Nat, z = (i : Int) ∧ (zK n w)[i]? = some (a : Int) := by
  intro a z ha;have hal : a < n := by have := (zT2.1 ha).1; rw [qI4] at this; exact this
  obtain ⟨i, hin, hi⟩ := hf.sur a hal;have := o7 h hi;rw [ha] at this;exact ⟨i, by simpa using this, hi⟩
 refine ⟨qI4 n w, q2D hn, fun a b z ha hb => ?_, fun k hk => ?_⟩
 ·obtain ⟨i, e1, h1⟩ := key a z ha;obtain ⟨j, e2, h2⟩ := key b z hb;have : i = j := by omega
  subst this;rw [h1] at h2;simp at h2;omega
 ·obtain ⟨z, hz⟩ : ∃ z, (zK n w)[k]? = some z := ⟨_, zT1 (by rw [hf.len]; exact hk)⟩
  obtain ⟨z0, z1⟩ := hf.ran z (zUP hz);obtain ⟨z, rfl⟩ := zX5 z0;exact ⟨z, by omega, o7 h hz⟩
theorem q0L {n : Nat} {w c : List Int} (hn : 0 < n) (h : okW n w) (hc : c.length = n) : fI (xK n w) c n n = aM (zK n w) c := by
 have hf := yM h;have hp := fZ hn h;apply zUX;intro i;by_cases hi : i < n
 ·obtain ⟨z, hz⟩ : ∃ z, (zK n w)[i]? = some z := ⟨_, zT1 (by rw [hf.len]; exact hi)⟩
  obtain ⟨z0, z1⟩ := hf.ran z (zUP hz);obtain ⟨k, rfl⟩ := zX5 z0;rw [qGU hp.len hp.ran hp.inj n (zT0 _) k i (by omega) (o7 h hz)];simp [aM, hz]
 ·rw [zUF (by rw [gM]; omega), zUF (by rw [aV, jD]; omega)]
theorem qXZ : ∀ (N : Nat) (l : List Nat), l.Nodup -> (∀ x ∈ l, x < N) -> l.length <= N
 | 0, l, _, h => by
   cases l with
   | nil => simp
   | cons x l => have := h x zT8; omega
 | N + 1, l, hd, h => by
   by_cases hm : N ∈ l
   ·have h1 := qXZ N (l.erase N) (hd.erase N) fun x hx => by
     have h2 := h x (List.mem_of_mem_erase hx)
     have h3 : x ≠ N := fun e => by
      subst e;exact (List.Nodup.not_mem_erase hd) hx
     omega
    rw [List.length_erase_of_mem hm] at h1;omega
   ·have h1 := qXZ N l hd fun x hx => by
     have h2 := h x hx;have h3 : x ≠ N := fun e => hm (e ▸ hx)
     omega
    omega
def phi (f : List Int) (i : Nat) : Nat := (f.getD i 0).toNat
def itp (f : List Int) : Nat -> Nat -> Nat
 | 0, i => i
 | t + 1, i => itp f t (phi f i)
theorem yX (f : List Int) : ∀ (a b i : Nat), itp f (a + b) i = itp f b (itp f a i)
 | 0, b, i => by rw [zU2]; rfl
 | a + 1, b, i => by
   rw [show a + 1 + b = (a + b) + 1 by omega];show itp f (a + b) (phi f i) = itp f b (itp f a (phi f i));exact yX f a b _
theorem jX (f : List Int) (t i : Nat) : itp f (t + 1) i = phi f (itp f t i) := by
 rw [yX f t 1]; rfl
theorem jU {n : Nat} {f : List Int} (hf : zH0 n f) {i : Nat} (h : i < n) : f[i]? = some ((phi f i : Nat) : Int) ∧ phi f i < n := by
 have hl : i < f.length := by rw [hf.len]; exact h
 have e : f[i]? = some (f.getD i 0) := by
  rw [zT1 hl];simp [List.getD, hl]
 obtain ⟨h1, h2⟩ := hf.ran _ (zUP e);refine ⟨by rw [e]; unfold phi; congr 1; omega, ?_⟩;unfold phi; omega
theorem qGK {n : Nat} {f : List Int} (hf : zH0 n f) {i j : Nat} (hi : i < n) (hj : j < n) (h : phi f i = phi f j) : i = j :=
 hf.inj i j (phi f i : Nat) (jU hf hi).1 (by rw [h]; exact (jU hf hj).1)
theorem xL {n : Nat} {f : List Int} (hf : zH0 n f) : ∀ (t : Nat) {i : Nat}, i < n -> itp f t i < n
 | 0, i, h => h
 | t + 1, i, h => xL hf t (jU hf h).2
theorem qBV {n : Nat} {f : List Int} (hf : zH0 n f) : ∀ (t : Nat) {i j : Nat}, i < n -> j < n -> itp f t i = itp f t j -> i = j
 | 0, i, j, _, _, h => h
 | t + 1, i, j, hi, hj, h => qGK hf hi hj (qBV hf t (jU hf hi).2 (jU hf hj).2 h)
theorem zCI (g : Nat -> Nat) (N : Nat) (h : ∀ i, g i < N) : ∃ a b, a < b ∧ b <= N ∧ g a = g b := by
 apply Classical.byContradiction;intro hc
 have hnd : ((List.range (N + 1)).map g).Nodup := by
  rw [zW0, List.pairwise_map];refine List.Pairwise.imp_of_mem (fun {a b} ha hb hab e => ?_) (List.pairwise_lt_range (n := N + 1));exact hc ⟨a, b, hab, by have := zUW.1 hb; omega, e⟩
 have := qXZ N _ hnd (fun x hx => by
  obtain ⟨i, _, rfl⟩ := zUN.1 hx
  exact h i)
 simp at this;omega
theorem comes {n : Nat} {f : List Int} (hf : zH0 n f) {i : Nat} (hi : i < n) : ∃ t, 1 <= t ∧ t <= n ∧ itp f t i = i := by
 obtain ⟨a, b, h1, h2, h3⟩ := zCI (fun t => itp f t i) n (fun t => xL hf t hi);refine ⟨b - a, by omega, by omega, ?_⟩;have h3 : itp f a i = itp f b i := h3;rw [show b = (b - a) + a by omega, yX] at h3;exact (qBV hf a hi (xL hf (b - a) hi) h3).symm
def tC (p : Nat -> Bool) : Nat -> Nat -> Nat
 | 0, k => k
 | m + 1, k => cond (p k) k (tC p m (k + 1))
theorem qC0 {p : Nat -> Bool} : ∀ (m k : Nat), (∃ t, k <= t ∧ t <= k + m ∧ p t = true) -> p (tC p m k) = true ∧ k <= tC p m k ∧ tC p m k <= k + m ∧ ∀ t, k <= t -> t < tC p m k -> p t = false
 | 0, k, ⟨t, h1, h2, h3⟩ => by
   have : t = k := by omega
   subst this;exact ⟨h3, zT0 _, zT0 _, fun s h1 h2 => by unfold tC at h2; omega⟩
 | m + 1, k, ⟨t, h1, h2, h3⟩ => by
   unfold tC
   cases hp : p k with
   | true => exact ⟨hp, zT0 _, by simp, fun s h1 h2 => by simp at h2; omega⟩
   | false =>
     have hne : t ≠ k := fun e => by rw [e, hp] at h3; cases h3
     obtain ⟨a1, a2, a3, a4⟩ := qC0 m (k + 1) ⟨t, by omega, by omega, h3⟩;refine ⟨a1, by simp only [cond_false]; omega, by simp only [cond_false]; omega, fun s h1 h2 => ?_⟩;simp only [cond_false] at h2;by_cases e : s = k
     ·rw [e]; exact hp
     ·exact a4 s (by omega) h2
def cyc (f : List Int) (n p : Nat) : Nat := tC (fun t => decide (itp f t p = p)) n 1
theorem zC {n : Nat} {f : List Int} (hf : zH0 n f) {p : Nat} (hp : p < n) : itp f (cyc f n p) p = p ∧ 1 <= cyc f n p ∧ cyc f n p <= n ∧ ∀ t, 1 <= t -> t < cyc f n p -> itp f t p ≠ p := by
 obtain ⟨t, h1, h2, h3⟩ := comes hf hp;obtain ⟨a1, a2, a3, a4⟩ := qC0 (p := fun t => decide (itp f t p = p)) n 1 ⟨t, h1, by omega, by simpa using h3⟩
 have hle : cyc f n p <= n := by
  apply Classical.byContradiction;intro hc;have := a4 t h1 (by show t < cyc f n p; omega);simp [h3] at this
 exact ⟨by simpa [cyc] using a1, a2, hle, fun s h4 h5 => by simpa using a4 s h4 h5⟩
theorem rW {f : List Int} {c p : Nat} (h : itp f c p = p) : ∀ q, itp f (c * q) p = p
 | 0 => rfl
 | q + 1 => by rw [Nat.mul_succ, yX, rW h q, h]
theorem qCH {n : Nat} {f : List Int} (hf : zH0 n f) {p : Nat} (hp : p < n) (m : Nat) : itp f m p = p ↔ cyc f n p ∣ m := by
 obtain ⟨a1, a2, a3, a4⟩ := zC hf hp;constructor
 ·intro h;have e : m = cyc f n p * (m / cyc f n p) + m % cyc f n p := (Nat.div_add_mod _ _).symm;rw [e, yX, rW a1] at h;have hlt := zV7 m (show cyc f n p > 0 by omega);by_cases h0 : m % cyc f n p = 0
  ·exact Nat.dvd_of_mod_eq_zero h0
  ·exact absurd h (a4 _ (by omega) hlt)
 ·rintro ⟨q, rfl⟩;exact rW a1 q
variable {c i j k : Nat} {f : List Int}
theorem qFV {n : Nat} (hf : zH0 n f) (hi : i < n) (t : Nat) : itp f t i = itp f (t % cyc f n i) i := by
 obtain ⟨c1, c2, c3, c4⟩ := zC hf hi;have e : t = cyc f n i * (t / cyc f n i) + t % cyc f n i := (Nat.div_add_mod t _).symm;rw [show itp f t i = itp f (cyc f n i * (t / cyc f n i) + t % cyc f n i) i by rw [<- e], yX, rW c1]
theorem qA2 {n : Nat} (hf : zH0 n f) (hi : i < n) (t : Nat) : itp f (cyc f n i * t - t) (itp f t i) = i := by
 obtain ⟨c1, c2, c3, c4⟩ := zC hf hi;have h1 : t <= cyc f n i * t := Nat.le_mul_of_pos_left t c2;rw [<- yX, show t + (cyc f n i * t - t) = cyc f n i * t by omega, rW c1]
def rep (f : List Int) (n i : Nat) : Bool := (List.range n).all fun t => decide (i <= itp f t i)
theorem qHT {n : Nat} (hf : zH0 n f) (hi : i < n) : rep f n i = true ↔ ∀ t, i <= itp f t i := by
 unfold rep;rw [zT3];constructor
 ·intro h t;obtain ⟨c1, c2, c3, c4⟩ := zC hf hi;rw [qFV hf hi t];have hl : t % cyc f n i < n := zUA (zV7 _ (by omega)) c3;have := h _ (zUW.2 hl);simpa using this
 ·intro h t _;simpa using h t
def aF (f : List Int) (n k : Nat) : List Nat := ((List.range k).filter (rep f n)).map (cyc f n)
def lens (f : List Int) (n : Nat) : List Nat := aF f n n
theorem qZ2 {n : Nat} (h : rep f n k = true) : aF f n (k + 1) = aF f n k ++ [cyc f n k] := by
 unfold aF;rw [zWB, zX0, zUR];simp [h]
theorem qWF {n : Nat} (h : rep f n k = false) : aF f n (k + 1) = aF f n k := by
 unfold aF;rw [zWB, zX0, zUR];simp [h]
theorem qX9 {n : Nat} (hf : zH0 n f) (hk : k < n) : (∃ i, i < k ∧ ∃ t, itp f t i = k) ↔ rep f n k = false := by
 constructor
 ·rintro ⟨i, hi, t, e⟩
  cases h : rep f n k with
  | false => rfl
  | true =>
    have h1 := (qHT hf hk).1 h (cyc f n i * t - t);rw [<- e, qA2 hf (by omega) t, e] at h1;omega
 ·intro h
  have h1 : ¬ ∀ t, k <= itp f t k := fun q => by
   rw [<- qHT hf hk, h] at q; cases q
  obtain ⟨t, ht⟩ := Classical.not_forall.1 h1;exact ⟨itp f t k, by omega, cyc f n k * t - t, qA2 hf hk t⟩
theorem q7B {n : Nat} (hf : zH0 n f) (hi : i < n) (t : Nat) : cyc f n (itp f t i) = cyc f n i := by
 have hl := xL hf t hi
 have key : ∀ m, itp f m (itp f t i) = itp f t i ↔ itp f m i = i := fun m => by
  rw [<- yX, zV2, yX];constructor
  ·exact fun h => qBV hf t (xL hf m hi) hi h
  ·exact fun h => by rw [h]
 refine Nat.dvd_antisymm ((qCH hf hl _).1 ((key _).2 (zC hf hi).1)) ((qCH hf hi _).1 ((key _).1 (zC hf hl).1))
theorem qZM {n : Nat} {f : List Int} (hf : zH0 n f) : ∀ (m i : Nat), i < m -> i < n -> ∃ r t, r < n ∧ rep f n r = true ∧ itp f t r = i
 | 0, i, h, _ => by omega
 | m + 1, i, h, hi => by
   cases hr : rep f n i with
   | true => exact ⟨i, 0, hi, hr, rfl⟩
   | false =>
     obtain ⟨j, hj, t, e⟩ := (qX9 hf hi).2 hr;obtain ⟨r, s, h1, h2, h3⟩ := qZM hf m j (by omega) (by omega);exact ⟨r, s + t, h1, h2, by rw [yX, h3, e]⟩
theorem qII {n : Nat} : c ∈ lens f n ↔ ∃ r, r < n ∧ rep f n r = true ∧ cyc f n r = c := by
 unfold lens aF;rw [zUN];constructor
 ·rintro ⟨r, h, e⟩;rw [zVS, zUW] at h;exact ⟨r, h.1, h.2, e⟩
 ·rintro ⟨r, h1, h2, e⟩;exact ⟨r, zVS.2 ⟨zUW.2 h1, h2⟩, e⟩
theorem q2B {n : Nat} {f : List Int} (hf : zH0 n f) {m : Nat} : (∀ c ∈ lens f n, c ∣ m) ↔ ∀ i, i < n -> cyc f n i ∣ m := by
 constructor
 ·intro h i hi;obtain ⟨r, t, h1, h2, h3⟩ := qZM hf (i + 1) i (by omega) hi;rw [<- h3, q7B hf h1];exact h _ (qII.2 ⟨r, h1, h2, rfl⟩)
 ·intro h c hc;obtain ⟨r, h1, h2, e⟩ := qII.1 hc;rw [<- e]; exact h r h1
theorem qIN {n : Nat} (hf : zH0 n f) (hc : c ∈ lens f n) : 1 <= c ∧ c <= n := by
 obtain ⟨r, h1, h2, e⟩ := qII.1 hc;obtain ⟨_, c2, c3, _⟩ := zC hf h1;omega
theorem qAO (f : List Int) (n k : Nat) : (aF f n k).length <= k := by
 unfold aF;rw [zUO];exact zUS (List.length_filter_le _ _) (by simp)
section
variable {n : Nat} {g h : List Int}
theorem qPY (hg : zH0 n g) (hi : ∀ i, i < n -> phi h (phi g i) = i) : ∀ (t : Nat) {i : Nat}, i < n -> itp h t (itp g t i) = i
 | 0, i, _ => rfl
 | t + 1, i, hl => by
   rw [jX g t i];show itp h t (phi h (phi g (itp g t i))) = i;rw [hi _ (xL hg t hl), qPY hg hi t hl]
theorem q5S (hg : zH0 n g) (hh : zH0 n h) (hi : ∀ i, i < n -> phi h (phi g i) = i) : ∀ i, i < n -> phi g (phi h i) = i := fun i hl => by
 have h1 := (jU hh hl).2;exact qGK hh ((jU hg h1).2) hl (hi _ h1)
theorem qOI (hg : zH0 n g) (hh : zH0 n h) (hi : ∀ i, i < n -> phi h (phi g i) = i) {i : Nat} (hl : i < n) : cyc g n i = cyc h n i := by
 have one : ∀ {a b : List Int}, zH0 n a -> (∀ i, i < n -> phi b (phi a i) = i) -> ∀ m, itp a m i = i -> itp b m i = i := fun ha hab m q => by
  have := qPY ha hab m hl;rw [q] at this; exact this
 exact Nat.dvd_antisymm ((qCH hg hl _).1 (one hh (q5S hg hh hi) _ (zC hh hl).1)) ((qCH hh hl _).1 (one hg hi _ (zC hg hl).1))
theorem qZ7 (hg : zH0 n g) (hh : zH0 n h) (hi : ∀ i, i < n -> phi h (phi g i) = i) {i : Nat} (hl : i < n) (t : Nat) : itp h t i = itp g (cyc g n i * t - t) i := by
 have h1 := qA2 hg hl t
 have hb : itp g t (itp g (cyc g n i * t - t) i) = i := by
  rw [<- yX, zV2, yX]; exact h1
 have := qPY hg hi t (xL hg (cyc g n i * t - t) hl);rw [hb] at this;exact this
theorem q59 (hg : zH0 n g) (hh : zH0 n h) (hi : ∀ i, i < n -> phi h (phi g i) = i) {i : Nat} (hl : i < n) : rep g n i = rep h n i := by
 rw [zYE, qHT hg hl, qHT hh hl];constructor
 ·intro q t;rw [qZ7 hg hh hi hl t]; exact q _
 ·intro q t;rw [qZ7 hh hg (q5S hg hh hi) hl t]; exact q _
theorem q4L (hg : zH0 n g) (hh : zH0 n h) (hi : ∀ i, i < n -> phi h (phi g i) = i) : lens g n = lens h n := by
 unfold lens aF;have h1 : (List.range n).filter (rep g n) = (List.range n).filter (rep h n) := List.filter_congr fun i hm => q59 hg hh hi (zUW.1 hm)
 rw [h1];refine zU5 fun i hm => qOI hg hh hi ?_
 exact zUW.1 (zVS.1 hm).1
end
def pw (f : List Int) (n j : Nat) : List Int := (List.range n).map fun i => ((itp f j i : Nat) : Int)
theorem qE2 (f : List Int) (n j : Nat) : (pw f n j).length = n := by simp [pw]
theorem qCN {n : Nat} (hi : i < n) : (pw f n j)[i]? = some ((itp f j i : Nat) : Int) := by
 unfold pw;rw [zT9, zVZ hi]; rfl
theorem q4Y {n : Nat} (hi : i < n) : phi (pw f n j) i = itp f j i := by
 unfold phi;rw [List.getD, qCN hi];simp
theorem qN4 {n : Nat} (hf : zH0 n f) (j : Nat) : zH0 n (pw f n j) := by
 refine ⟨qE2 _ _ _, fun z hz => ?_, fun a b z h1 h2 => ?_, fun k hk => ?_⟩
 ·obtain ⟨i, hi, rfl⟩ := zUN.1 hz;have := xL hf j (zUW.1 hi);omega
 ·have ha : a < n := by
   have := (zT2.1 h1).1; rwa [qE2] at this
  have hb : b < n := by
   have := (zT2.1 h2).1; rwa [qE2] at this
  rw [qCN ha] at h1;rw [qCN hb] at h2;cases h1;injection h2 with h2;exact (qBV hf j hb ha (by omega)).symm
 ·refine ⟨itp f (cyc f n k * j - j) k, xL hf _ hk, ?_⟩;rw [qCN (xL hf _ hk), <- yX, zV2, yX, qA2 hf hk]
theorem zAG {n : Nat} {g h : List Int} (hg : zH0 n g) (hi : ∀ i, i < n -> phi h (phi g i) = i) (j : Nat) : ∀ i, i < n -> phi (pw h n j) (phi (pw g n j) i) = i := fun i hl => by
 rw [q4Y hl, q4Y (xL hg j hl), qPY hg hi j hl]
theorem qCG {n : Nat} {g h : List Int} (hg : zH0 n g) (hh : zH0 n h) (hi : ∀ i, i < n -> phi h (phi g i) = i) (j : Nat) : lens (pw g n j) n = lens (pw h n j) n := q4L (qN4 hg j) (qN4 hh j) (zAG hg hi j)
theorem q3W {n : Nat} {g h : List Int} (hg : zH0 n g) (hh : zH0 n h) (hi : ∀ i, i < n -> phi h (phi g i) = i) {a b : Nat} (ha : ∀ m, a ∣ m ↔ ∀ i, i < n -> cyc g n i ∣ m) (hb : ∀ m, b ∣ m ↔ ∀ c ∈ lens h n, c ∣ m) : a = b := by
 have key : ∀ m, a ∣ m ↔ b ∣ m := fun m => by
  rw [ha, hb, q2B hh];constructor
  ·exact fun q i hl => by rw [<- qOI hg hh hi hl]; exact q i hl
  ·exact fun q i hl => by rw [qOI hg hh hi hl]; exact q i hl
 exact Nat.dvd_antisymm ((key b).2 (Nat.dvd_refl _)) ((key a).1 (Nat.dvd_refl _))
end Go.Proofs.YtpegkendiefkaaaGreatDoor
namespace Go.Proofs.YtpegkendiefkaaaGreatDoor
open Go.Idl Go.Sv
variable {n : Nat} {p : List Int}
variable {i k t : Nat} {l s0 : List Bool}
theorem rdB (h : k < l.length) : l[k]? = some (l.getD k false) := by
 rw [zT1 h];simp [List.getD, h]
def cnt : List Bool -> Nat
 | [] => 0
 | true :: l => cnt l + 1
 | false :: l => cnt l
theorem qPT : ∀ l : List Bool, cnt l <= l.length
 | [] => zT0 _
 | true :: l => by have := qPT l; simp only [cnt, zUI]; omega
 | false :: l => by have := qPT l; simp only [cnt, zUI]; omega
theorem qXV : ∀ {l : List Bool} {i : Nat}, l[i]? = some false -> cnt (l.set i true) = cnt l + 1
 | [], i, h => by simp at h
 | b :: l, 0, h => by
   have : b = false := by simpa using h
   subst this;rfl
 | b :: l, i + 1, h => by
   have ih := qXV (l := l) (i := i) (by simpa using h);cases b
   ·show cnt (l.set i true) = cnt l + 1;exact ih
   ·show cnt (l.set i true) + 1 = cnt l + 1 + 1;rw [ih]
theorem q5Y (n : Nat) : cnt (List.replicate n false) = 0 := by
 induction n with
 | zero => rfl
 | succ n ih => exact ih
theorem qYC {x : Nat} (hi : i < l.length) : (l.set i true).getD x false = (decide (i = x) || l.getD x false) := by
 by_cases h : i = x
 ·subst h;simp [List.getD, hi]
 ·simp [List.getD, zXJ h, h]
def y7 (p : List Int) (i : Nat) (s0 : List Bool) : Nat -> List Bool
 | 0 => s0
 | t + 1 => (y7 p i s0 t).set (itp p t i) true
def cT (p : List Int) (i t : Nat) : List Int := (List.range t).map fun s => ((itp p s i : Nat) : Int)
theorem kX (i : Nat) (s0 : List Bool) : ∀ t, (y7 p i s0 t).length = s0.length
 | 0 => rfl
 | t + 1 => by rw [y7, zUY, kX i s0 t]
theorem vS (hp : zH0 n p) {i : Nat} (hi : i < n) {s0 : List Bool} (hl : s0.length = n) (x : Nat) : ∀ t, ((y7 p i s0 t).getD x false = true ↔ s0.getD x false = true ∨ ∃ s, s < t ∧ itp p s i = x)
 | 0 => by
   constructor
   ·exact .inl
   ·rintro (h | ⟨s, hs, _⟩)
    ·exact h
    ·omega
 | t + 1 => by
   have ih := vS hp hi hl x t;rw [y7, qYC (by rw [kX, hl]; exact xL hp t hi), zWA, decide_eq_true_iff, ih];constructor
   ·rintro (h | h | ⟨s, h1, h2⟩)
    ·exact .inr ⟨t, by omega, h⟩
    ·exact .inl h
    ·exact .inr ⟨s, by omega, h2⟩
   ·rintro (h | ⟨s, h1, h2⟩)
    ·exact .inr (.inl h)
    ·rcases zV5 s t with h | h
     ·exact .inr (.inr ⟨s, h, h2⟩)
     ·have : s = t := by omega
      subst this;exact .inl h2
def q0V (n : Nat) (p : List Int) (s : List Bool) : Prop := ∀ x, x < n -> s.getD (phi p x) false = s.getD x false
theorem qQ5 (hp : zH0 n p) {s : List Bool} (hc : q0V n p s) {i : Nat} (hi : i < n) : ∀ t, s.getD (itp p t i) false = s.getD i false
 | 0 => rfl
 | t + 1 => by rw [jX, hc _ (xL hp t hi), qQ5 hp hc hi t]
theorem zB6 (hp : zH0 n p) (hi : i < n) {s : Nat} (h1 : s < t) (h2 : t < cyc p n i) : itp p s i ≠ itp p t i := by
 intro e;obtain ⟨_, _, _, c4⟩ := zC hp hi;rw [show t = (t - s) + s by omega, yX] at e;exact c4 (t - s) (by omega) (by omega) (qBV hp s (xL hp (t - s) hi) hi e.symm)
theorem free_at (hp : zH0 n p) (hi : i < n) (hl : s0.length = n) (hc : q0V n p s0) (h0 : s0.getD i false = false) (ht : t < cyc p n i) : (y7 p i s0 t)[itp p t i]? = some false := by
 rw [rdB (by rw [kX, hl]; exact xL hp t hi)]
 congr 1
 cases h : (y7 p i s0 t).getD (itp p t i) false with
 | false => rfl
 | true =>
   rcases (vS hp hi hl _ t).1 h with h1 | ⟨s, h1, h2⟩
   ·rw [qQ5 hp hc hi t, h0] at h1; cases h1
   ·exact absurd h2 (zB6 hp hi h1 ht)
theorem oL (i t : Nat) : (cT p i t).length = t := by unfold cT; simp
theorem qCV (hp : zH0 n p) {i : Nat} (hi : i < n) {s0 : List Bool} (hl : s0.length = n) (hc : q0V n p s0) (h0 : s0.getD i false = false) : ∀ t, t <= cyc p n i -> cnt (y7 p i s0 t) = cnt s0 + t
 | 0, _ => rfl
 | t + 1, h => by
   rw [y7, qXV (free_at hp hi hl hc h0 (by omega)), qCV hp hi hl hc h0 t (by omega)];rfl
theorem qEV (hp : zH0 n p) (hi : i < n) (hl : s0.length = n) (hc : q0V n p s0) : q0V n p (y7 p i s0 (cyc p n i)) := by
 obtain ⟨c1, c2, c3, c4⟩ := zC hp hi;intro x hx
 have key : (y7 p i s0 (cyc p n i)).getD (phi p x) false = true ↔ (y7 p i s0 (cyc p n i)).getD x false = true := by
  rw [vS hp hi hl, vS hp hi hl, hc x hx];constructor
  ·rintro (h | ⟨s, h1, h2⟩)
   ·exact .inl h
   ·refine .inr ?_
    cases s with
    | succ s =>
      rw [jX] at h2;exact ⟨s, by omega, qGK hp (xL hp s hi) hx h2⟩
    | zero =>
      have e : itp p (cyc p n i - 1 + 1) i = i := by rw [show cyc p n i - 1 + 1 = cyc p n i by omega, c1]
      rw [jX] at e;have h2 : i = phi p x := h2;exact ⟨cyc p n i - 1, by omega, qGK hp (xL hp _ hi) hx (e.trans h2)⟩
  ·rintro (h | ⟨s, h1, h2⟩)
   ·exact .inl h
   ·refine .inr ?_;rcases zV5 (s + 1) (cyc p n i) with h | h
    ·exact ⟨s + 1, h, by rw [jX, h2]⟩
    ·have hs : s + 1 = cyc p n i := by omega
     refine ⟨0, by omega, ?_⟩;show i = phi p x;rw [<- h2, <- jX, hs, c1]
 cases h1 : (y7 p i s0 (cyc p n i)).getD (phi p x) false with
 | true => exact (key.1 h1).symm
 | false =>
   cases h2 : (y7 p i s0 (cyc p n i)).getD x false with
   | false => rfl
   | true => rw [key.2 h2] at h1; cases h1
def sK (p : List Int) (n : Nat) : Nat -> List Bool
 | 0 => List.replicate n false
 | k + 1 => cond (rep p n k) (y7 p k (sK p n k) (cyc p n k)) (sK p n k)
theorem q9D (h : rep p n k = true) : sK p n (k + 1) = y7 p k (sK p n k) (cyc p n k) := by
 unfold sK; rw [h]; cases k <;> rfl
theorem q9A (h : rep p n k = false) : sK p n (k + 1) = sK p n k := by
 show cond (rep p n k) _ _ = _;rw [h]; rfl
theorem bK : ∀ k, (sK p n k).length = n
 | 0 => by simp [sK]
 | k + 1 => by
   cases h : rep p n k with
   | true => rw [q9D h, kX, bK k]
   | false => rw [q9A h, bK k]
theorem qC3 (hp : zH0 n p) : ∀ k, k <= n -> q0V n p (sK p n k)
 | 0, _ => fun x _ => by
   have hz : ∀ x, (List.replicate n false).getD x false = false := fun x => by
    by_cases h : x < n
    ·simp [List.getD, h]
    ·simp [List.getD, h]
   show (List.replicate n false).getD _ false = (List.replicate n false).getD _ false;rw [hz, hz]
 | k + 1, hk => by
   cases h : rep p n k with
   | true => rw [q9D h]; exact qEV hp (by omega) (bK k) (qC3 hp k (by omega))
   | false => rw [q9A h]; exact qC3 hp k (by omega)
theorem q77 (hp : zH0 n p) {x : Nat} (hx : x < n) : ∀ k, k <= n -> ((sK p n k).getD x false = true ↔ ∃ i, i < k ∧ ∃ t, itp p t i = x)
 | 0, _ => by
   have hz : (List.replicate n false).getD x false = false := by simp [List.getD, hx]
   show (List.replicate n false).getD x false = true ↔ _;rw [hz];constructor
   ·intro h; cases h
   ·rintro ⟨i, h, _⟩; omega
 | k + 1, hk => by
   have ih := q77 hp hx k (by omega)
   cases h : rep p n k with
   | true =>
     rw [q9D h, vS hp (by omega) (bK k), ih];constructor
     ·rintro (⟨i, h1, h2⟩ | ⟨s, h1, h2⟩)
      ·exact ⟨i, by omega, h2⟩
      ·exact ⟨k, by omega, s, h2⟩
     ·rintro ⟨i, h1, t, h2⟩;rcases zV5 i k with h3 | h3
      ·exact .inl ⟨i, h3, t, h2⟩
      ·have : i = k := by omega
       subst this;obtain ⟨c1, c2, c3, c4⟩ := zC hp (show i < n by omega);refine .inr ⟨t % cyc p n i, zV7 _ (by omega), ?_⟩;rw [<- qFV hp (by omega)]; exact h2
   | false =>
     rw [q9A h, ih];constructor
     ·rintro ⟨i, h1, h2⟩; exact ⟨i, by omega, h2⟩
     ·rintro ⟨i, h1, t, h2⟩;rcases zV5 i k with h3 | h3
      ·exact ⟨i, h3, t, h2⟩
      ·have : i = k := by omega
       subst this;obtain ⟨j, h4, s, h5⟩ := (qX9 hp (show i < n by omega)).2 h;exact ⟨j, h4, s + t, by rw [yX, h5, h2]⟩
theorem qU0 (hp : zH0 n p) (hk : k < n) : (sK p n k).getD k false = !rep p n k := by
 have h1 := q77 hp hk k (by omega);have h2 := qX9 hp hk;rw [h2] at h1
 cases h : rep p n k with
 | true =>
   cases h3 : (sK p n k).getD k false with
   | false => rfl
   | true => rw [h1.1 h3] at h; cases h
 | false => exact h1.2 h
theorem q5B (hp : zH0 n p) : ∀ k, k <= n -> cnt (sK p n k) = (aF p n k).sum
 | 0, _ => by
   show cnt (List.replicate n false) = _;rw [q5Y]; rfl
 | k + 1, hk => by
   have ih := q5B hp k (by omega)
   cases h : rep p n k with
   | true =>
     have h0 := qU0 hp (show k < n by omega);rw [h] at h0;rw [q9D h, qCV hp (by omega) (bK k) (qC3 hp k (by omega)) h0 _ (zT0 _), ih, qZ2 h];simp
   | false => rw [q9A h, ih, qWF h]
theorem qWO : ∀ {l : List Bool}, (∀ x, x < l.length -> l.getD x false = true) -> cnt l = l.length
 | [], _ => rfl
 | b :: l, h => by
   have h0 := h 0 (by simp);have h0 : b = true := h0
   have ih := qWO (l := l) fun x hx => by
    have := h (x + 1) (by simp; omega);simpa using this
   subst h0;unfold cnt;simp [ih]
theorem qQP (hp : zH0 n p) : (lens p n).sum = n := by
 have h1 := q5B hp n (zT0 _)
 rw [qWO fun x hx => by
  rw [bK] at hx
  exact (q77 hp hx n (zT0 _)).2 ⟨x, hx, 0, rfl⟩, bK] at h1
 exact h1.symm
def wY (p : List Int) (n k : Nat) : List (List Int) := ((List.range k).filter (rep p n)).map fun i => cT p i (cyc p n i)
theorem zBI (h : rep p n k = true) : wY p n (k + 1) = wY p n k ++ [cT p k (cyc p n k)] := by
 unfold wY;rw [zWB, zX0, zUR];simp [h]
theorem q91 (h : rep p n k = false) : wY p n (k + 1) = wY p n k := by
 unfold wY;rw [zWB, zX0, zUR];simp [h]
theorem qG7 (k : Nat) : (wY p n k).length <= k := by
 unfold wY;rw [zUO];exact zUS (List.length_filter_le _ _) (by simp)
theorem qCL (k : Nat) : (wY p n k).map List.length = aF p n k := by
 unfold wY aF;rw [zXA];refine zU5 fun i _ => ?_
 show (cT p i _).length = _;unfold cT; simp
end Go.Proofs.YtpegkendiefkaaaGreatDoor
namespace Go.Proofs.YtpegkendiefkaaaGreatDoor
open Go.Idl Go.Sv
def leaf (b : Bool) (l : List Int) : Int := if b || l.all (fun x => decide (x = 0)) then 1 else 0
def wW (b : Bool) : List Int -> List Int -> Int
 | [], l => leaf b l
 | k :: ls, l => ((List.range l.length).map fun i => if k <= l.getD i 0 then wW b ls (l.set i (l.getD i 0 - k)) else 0).sum
theorem qY7 : ∀ {l : List Int} {i : Nat} (x : Int), i < l.length -> (l.set i x).sum = l.sum - l.getD i 0 + x
 | [], i, x, h => by simp at h
 | y :: l, 0, x, h => by simp; omega
 | y :: l, i + 1, x, h => by
   have ih := qY7 (l := l) (i := i) x (by simpa using h);simp only [List.set_cons_succ, zVQ, zYK, ih];omega
theorem qPH : ∀ {l : List Int}, (∀ x ∈ l, 0 <= x) -> l.sum = 0 -> ∀ x ∈ l, x = 0
 | [], _, _, x, h => by cases h
 | y :: l, hp, h0, x, hx => by
   have h1 := hp y zT8
   have h2 : 0 <= l.sum := by
    clear h0 hx
    induction l with
    | nil => simp
    | cons z l ih =>
      have := ih fun x hx => hp x (by
       rcases zUD.1 hx with rfl | h
       ·simp
       ·simp [h])
      have := hp z (by simp);simp only [zVQ];omega
   simp only [zVQ] at h0;rcases zUD.1 hx with rfl | h
   ·omega
   ·exact qPH (fun x hx => hp x (zT4 _ hx)) (by omega) x h
theorem qGD {l : List Int} {i : Nat} (h : i < l.length) : l.getD i 0 ∈ l := by
 simp [List.getD, zT1 h]
theorem qUH : ∀ {ls l : List Int}, (∀ x ∈ l, 0 <= x) -> l.sum = ls.sum -> wW false ls l = wW true ls l
 | [], l, hp, hs => by
   have : l.all (fun x => decide (x = 0)) = true := zT3.2 fun x hx => decide_eq_true (qPH hp hs x hx)
   simp [wW, leaf, this]
 | k :: ls, l, hp, hs => by
   unfold wW
   congr 1
   refine zU5 fun i hi => ?_
   have hi := zUW.1 hi;by_cases hk : k <= l.getD i 0
   ·rw [if_pos hk, if_pos hk];refine qUH (fun x hx => ?_) ?_
    ·rcases zVH hx with h | h
     ·exact hp x h
     ·omega
    ·rw [qY7 _ hi, hs];simp only [zVQ];omega
   ·rw [if_neg hk, if_neg hk]
theorem q3B {a b : List Int} {i : Nat} (h : i < a.length) : (a ++ b).getD i 0 = a.getD i 0 := by
 simp [List.getD, zU7 h]
theorem qU1 {α : Type} (l : List α) (f : α -> Int) (h : ∀ x ∈ l, f x = 0) : (l.map f).sum = 0 := by
 induction l with
 | nil => rfl
 | cons a l ih =>
   simp only [zUB, zVQ];rw [h a zT8, ih fun x hx => h x (zT4 _ hx)];rfl
theorem q4O (b : Bool) (m : Nat) : ∀ {ls l : List Int}, (∀ k ∈ ls, 1 <= k) -> wW b ls (l ++ List.replicate m 0) = wW b ls l
 | [], l, _ => by
   unfold wW leaf;rw [zXQ];have : (List.replicate m (0 : Int)).all (fun x => decide (x = 0)) = true := by simp
   rw [this, zWZ]
 | k :: ls, l, hp => by
   have hk := hp k zT8;unfold wW;rw [zUK, zV1, List.range_add, zUR, zWL, qU1 ((List.range m).map (l.length + ·))]
   ·rw [zXW]
    congr 1
    refine zU5 fun i hi => ?_
    have hi := zUW.1 hi;rw [q3B hi];by_cases hk : k <= l.getD i 0
    ·rw [if_pos hk, if_pos hk, List.set_append_left _ _ hi];exact q4O b m fun x hx => hp x (zT4 _ hx)
    ·rw [if_neg hk, if_neg hk]
   ·intro x hx;obtain ⟨j, hj, rfl⟩ := zUN.1 hx;have hj := zUW.1 hj
    have : (l ++ List.replicate m 0).getD (l.length + j) 0 = 0 := by
     rw [List.getD, zVF (Nat.le_add_right _ _)];simp [hj]
    rw [this, if_neg (by omega)]
theorem qRX (a : Int) : IntKind.i64.wrap (a % 18446744073709551616) = IntKind.i64.wrap a := by
 unfold IntKind.wrap;simp [IntKind.bits, IntKind.signed]
theorem qZG {a b : Int} (h : a % 18446744073709551616 = b % 18446744073709551616) : IntKind.i64.wrap a = IntKind.i64.wrap b := by
 rw [<- qRX a, <- qRX b, h]
theorem qRF (a : Int) : IntKind.i64.wrap a % 18446744073709551616 = a % 18446744073709551616 := by
 unfold IntKind.wrap;simp [IntKind.bits, IntKind.signed];split <;> omega
theorem wrap_add (a b : Int) : IntKind.i64.wrap (IntKind.i64.wrap a + b) = IntKind.i64.wrap (a + b) := by
 refine qZG ?_;rw [Int.add_emod, qRF, <- Int.add_emod]
theorem qUC (a b : Int) : IntKind.i64.wrap (a + IntKind.i64.wrap b) = IntKind.i64.wrap (a + b) := by
 rw [Int.add_comm, wrap_add, Int.add_comm]
end Go.Proofs.YtpegkendiefkaaaGreatDoor
