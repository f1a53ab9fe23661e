/- Permutations, cycles, ways, plainly. Conditions: none. -/
import Derived.Test.YtjgfemghlhmlbaaGreatDoorSvB
set_option linter.all false
namespace Go.Sv
open Go.Idl
variable {a b : Int} {k : Nat}
section
variable {R α β : Type}
theorem qV {x y : zIA R} : zIA.ite true x y = x := rfl
theorem qI {x y : zIA R} : zIA.ite false x y = y := rfl
theorem qE {a : α} {k : α -> zIA R} : zIA.bind (some a) k = k a := rfl
theorem xE {a : α} {f : α -> zIA R} {g : β -> zIA R} : zIA.sum (.inl a) f g = f a := rfl
theorem qII {b : β} {f : α -> zIA R} {g : β -> zIA R} : zIA.sum (.inr b) f g = g b := rfl
theorem xK {r : R} : zIA.run (zIA.ret r) = some r := rfl
end
theorem zQ {n : Nat} (h : k < n) : idx n (k : Int) = some k := by
 unfold idx;rw [if_pos ⟨by omega, by omega⟩];simp
theorem kF (h : k < 2 ^ 62) : IntKind.i64.wrap ((k : Int) + 1) = ((k + 1 : Nat) : Int) := by
 rw [wrap_i64 (by omega) (by omega)];omega
def scan {ρ : Type} (f : Nat -> Option ρ) : Nat -> Nat -> Option ρ
 | 0, _ => none
 | m + 1, k => match f k with
   | some r => some r
   | none => scan f m (k + 1)
theorem pE {ρ : Type} {f : Nat -> Option ρ} : ∀ {m k : Nat}, scan f m k = none ↔ ∀ i, k <= i -> i < k + m -> f i = none
 | 0, k => by simp [scan]; intro i h1 h2; omega
 | m + 1, k => by
   unfold scan
   cases hf : f k with
   | some r =>
     simp only [reduceCtorEq, false_iff];intro h;rw [h k (zQO _) (by omega)] at hf;cases hf
   | none =>
     simp only;rw [pE];constructor
     ·intro h i h1 h2;by_cases hk : i = k
      ·rw [hk]; exact hf
      ·exact h i (by omega) (by omega)
     ·intro h i h1 h2;exact h i (by omega) (by omega)
theorem bG {ρ : Type} {f : Nat -> Option ρ} {r : ρ} : ∀ {m k : Nat}, scan f m k = some r -> ∃ i, k <= i ∧ i < k + m ∧ f i = some r ∧ ∀ j, k <= j -> j < i -> f j = none
 | 0, k, h => by cases h
 | m + 1, k, h => by
   unfold scan at h
   cases hf : f k with
   | some r' =>
     rw [hf] at h;cases h;exact ⟨k, zQO _, by omega, hf, fun j h1 h2 => by omega⟩
   | none =>
     rw [hf] at h;obtain ⟨i, h1, h2, h3, h4⟩ := bG h;refine ⟨i, by omega, by omega, h3, fun j h5 h6 => ?_⟩;by_cases hk : j = k
     ·rw [hk]; exact hf
     ·exact h4 j (by omega) h6
variable [Gc]
theorem qKF {ρ τ : Type} {F : Int -> Option (Int ⊕ τ)} (f : Nat -> Option ρ) (up : ρ -> τ) (dn : τ) {n : Nat} (hs : ∀ k, k < n -> F (k : Int) = match f k with
 | some r => some (.inr (up r))
 | none => some (.inl ((k + 1 : Nat) : Int))) (he : F (n : Int) = some (.inr dn)) : ∀ (m k : Nat), k + m = n -> qQ F (k : Int) = some (match scan f m k with
 | some r => up r
 | none => dn)
 | 0, k, h => by
   have : k = n := by omega
   subst this;rw [zB, he];rfl
 | m + 1, k, h => by
   rw [zB, hs k (by omega)];unfold scan
   cases f k with
   | some r => rfl
   | none => exact qKF f up dn hs he m (k + 1) (by omega)
def qZG {σ : Type} (g : Nat -> σ -> σ) : Nat -> Nat -> σ -> σ
 | 0, _, s => s
 | m + 1, k, s => qZG g m (k + 1) (g k s)
theorem qJY {S σ τ : Type} {F : S -> Option (S ⊕ τ)} (E : Nat -> σ -> S) (I : Nat -> σ -> Prop) (g : Nat -> σ -> σ) (dn : σ -> τ) {n : Nat}
 (hs : ∀ k s, k < n -> I k s -> F (E k s) = some (.inl (E (k + 1) (g k s))) ∧ I (k + 1) (g k s)) (he : ∀ s, I n s -> F (E n s) = some (.inr (dn s))) :
 ∀ (m k : Nat) (s : σ), k + m = n -> I k s -> qQ F (E k s) = some (dn (qZG g m k s)) ∧ I n (qZG g m k s)
 | 0, k, s, h, hI => by
   have : k = n := by omega
   subst this;rw [zB, he s hI];exact ⟨rfl, hI⟩
 | m + 1, k, s, h, hI => by
   obtain ⟨h1, h2⟩ := hs k s (by omega) hI;rw [zB, h1];exact qJY E I g dn hs he m (k + 1) (g k s) (by omega) h2
theorem vC {R ρ τ : Type} {F : Int -> Option (Int ⊕ τ)} {K : τ -> zIA R} {v : Option R} (n : Nat) (f : Nat -> Option ρ) (up : ρ -> τ) (dn : τ) (hs : ∀ k : Nat, k < n -> F (k : Int) = match f k with
 | some r => some (.inr (up r))
 | none => some (.inl ((k + 1 : Nat) : Int))) (he : F (n : Int) = some (.inr dn)) (hv : (match scan f n 0 with
 | some r => K (up r)
 | none => K dn).run = v) : (zIA.bind (qQ F 0) K).run = v := by
 have := qKF f up dn hs he n 0 (by omega);rw [show qQ F 0 = _ from this, qE]
 cases h : scan f n 0 with
 | none => rw [h] at hv; exact hv
 | some r => rw [h] at hv; exact hv
theorem oG {R S σ τ : Type} {F : S -> Option (S ⊕ τ)} {K : τ -> zIA R} {v : Option R} {s0 : S} (n : Nat) (E : Nat -> σ -> S) (I : Nat -> σ -> Prop) (g : Nat -> σ -> σ) (dn : σ -> τ) (s : σ) (h0 : s0 = E 0 s) (hI : I 0 s)
 (hs : ∀ k s, k < n -> I k s -> F (E k s) = some (.inl (E (k + 1) (g k s))) ∧ I (k + 1) (g k s)) (he : ∀ s, I n s -> F (E n s) = some (.inr (dn s))) (hv : I n (qZG g n 0 s) -> (K (dn (qZG g n 0 s))).run = v) : (zIA.bind (qQ F s0) K).run = v := by
 obtain ⟨h1, h2⟩ := qJY E I g dn hs he n 0 s (by omega) hI;rw [h0, h1, qE];exact hv h2
theorem mI (h : a < b) : decide (a < b) = true := decide_eq_true h
theorem mJ (h : ¬ a < b) : decide (a < b) = false := decide_eq_false h
theorem o5 {α : Type} {l : List α} (h : k < l.length) : ∃ x, l[k]? = some x ∧ x ∈ l := ⟨l[k], zQP h, zSU h⟩
end Go.Sv
namespace Go.Proofs.YtjgfemghlhmlbaaGreatDoor
open Go.Idl Go.Sv
theorem qIF {n : Int} (h0 : -9223372036854775808 <= n) (h1 : n <= 9223372036854775807) : IntKind.i64.wrap n = n := by
 by_cases hn : 0 <= n
 ·have e : n % (18446744073709551616 : Int) = n := Int.emod_eq_of_lt hn (by omega);have hw : IntKind.i64.wrap n = if (true && decide (n % (18446744073709551616 : Int) ≥ 9223372036854775808)) = true then n % (18446744073709551616 : Int) - 18446744073709551616 else n % (18446744073709551616 : Int) := rfl;rw [hw];simp only [e];rw [if_neg (by simp; omega)]
 ·have e : n % (18446744073709551616 : Int) = n + 18446744073709551616 := by omega
  have hw : IntKind.i64.wrap n = if (true && decide (n % (18446744073709551616 : Int) ≥ 9223372036854775808)) = true then n % (18446744073709551616 : Int) - 18446744073709551616 else n % (18446744073709551616 : Int) := rfl;rw [hw];simp only [e];rw [if_pos (by simp; omega)];omega
def qR (n : Nat) : List Int := (List.range n).map fun (i : Nat) => (i : Int)
theorem qBP (n : Nat) : qR (n + 1) = qR n ++ [(n : Int)] := by simp [qR, zTD]
theorem yC (n : Nat) : (qR n).length = n := by simp [qR]
def q8C (c : Int) : Nat := if 0 < c then c.toNat - 1 else (0 - c).toNat
def rR (l : List Int) (i : Nat) : List Int := (l.set (i - 1) (l.getD i 0)).set i (l.getD (i - 1) 0)
theorem qBS (l : List Int) (i : Nat) : (rR l i).length = l.length := by simp [rR]
def dR : List Int -> List Int -> List Int × List Int
 | [], l => ([], l)
 | c :: w, l => (l.getD (q8C c) 0 :: (dR w (rR l c.natAbs)).1, (dR w (rR l c.natAbs)).2)
theorem qL3 (c : Int) : ∀ (w l : List Int), dR (w ++ [c]) l = ((dR w l).1 ++ [(dR w l).2.getD (q8C c) 0], rR (dR w l).2 c.natAbs)
 | [], l => rfl
 | d :: w, l => by
   show (_ :: (dR (w ++ [c]) _).1, (dR (w ++ [c]) _).2) = _;rw [qL3 c w]; rfl
theorem qHD : ∀ (w l : List Int), (dR w l).1.length = w.length ∧ (dR w l).2.length = l.length
 | [], l => ⟨rfl, rfl⟩
 | d :: w, l => by
   obtain ⟨h1, h2⟩ := qHD w (rR l d.natAbs);exact ⟨by show _ + 1 = _; rw [h1]; rfl, by rw [qBS] at h2; exact h2⟩
def okW (n : Nat) (w : List Int) : Prop := ∀ c ∈ w, c ≠ 0 ∧ c.natAbs < n
def inR (n : Nat) (p : List Int) : Prop := ∀ z ∈ p, 0 <= z ∧ z < (n : Int)
theorem qXR {n : Nat} {l : List Int} (h : inR n l) {i : Nat} {z : Int} (hz : 0 <= z ∧ z < (n : Int)) : inR n (l.set i z) := by
 intro x hx;rcases zSB hx with h1 | h1
 ·exact h x h1
 ·rw [h1]; exact hz
theorem sW {n : Nat} {l : List Int} (h : inR n l) {i : Nat} (hi : i < l.length) : 0 <= l.getD i 0 ∧ l.getD i 0 < (n : Int) := by
 have : l.getD i 0 = l[i] := by simp [List.getD, hi]
 rw [this]; exact h _ (zSU hi)
theorem q1V {n : Nat} {l : List Int} (h : inR n l) {i : Nat} (hi : i < l.length) : inR n (rR l i) := qXR (qXR h (sW h hi)) (sW h (by omega))
theorem qVP {n : Nat} : ∀ (w l : List Int), okW n w -> l.length = n -> inR n l -> inR n (dR w l).2
 | [], l, _, _, h => h
 | c :: w, l, hw, hl, h => qVP w (rR l c.natAbs) (fun x hx => hw x (zQS _ hx)) (by rw [qBS]; exact hl) (q1V h (by rw [hl]; exact (hw c zQT).2))
theorem qKD (n : Nat) : inR n (qR n) := by
 intro z hz;simp [qR] at hz;obtain ⟨a, ha, rfl⟩ := hz;omega
def qJ (n : Nat) (w : List Int) : List Int := (dR w (qR n)).2
theorem vD (n : Nat) (w : List Int) : (qJ n w).length = n := by rw [qJ, (qHD _ _).2, yC]
theorem q1E {n : Nat} {w : List Int} (h : okW n w) : inR n (qJ n w) := qVP _ _ h (yC n) (qKD n)
def zS (f c : List Int) : List Int := f.map fun z => c.getD z.toNat 0
theorem u7 (f c : List Int) : (zS f c).length = f.length := by simp [zS]
theorem q4O (a b : List Int) (x y : Int) : rR (a ++ x :: y :: b) (a.length + 1) = a ++ y :: x :: b := by
 unfold rR;have h1 : (a ++ x :: y :: b).getD (a.length + 1) 0 = y := by simp [List.getD]
 have h2 : (a ++ x :: y :: b).getD (a.length + 1 - 1) 0 = x := by simp [List.getD]
 rw [h1, h2];simp only [zUM];rw [zU3 _ _ (zQO _), zTY, List.set_cons_zero, zU3 _ _ (by omega)];have : a.length + 1 - a.length = 1 := by omega
 rw [this];rfl
theorem qSW {l : List Int} {i : Nat} (h0 : 0 < i) (h : i < l.length) : (rR l i).Perm l := by
 have e : l = l.take (i - 1) ++ l[i - 1] :: l[i] :: l.drop (i + 1) := by
  have h1 := zRQ (l := l) (i := i - 1) (by omega);have h2 := zRQ (l := l) (i := i) h;have h3 : i - 1 + 1 = i := by omega
  rw [h3, h2] at h1;rw [<- h1, zT5]
 have hl : (l.take (i - 1)).length + 1 = i := by simp; omega
 generalize l.take (i - 1) = a at e hl;generalize l[i - 1] = x at e;generalize l[i] = y at e;generalize l.drop (i + 1) = b at e;subst e hl;rw [q4O];exact (List.Perm.swap x y b).append_left a
theorem qJV {n : Nat} : ∀ (w l : List Int), okW n w -> l.length = n -> (dR w l).2.Perm l
 | [], l, _, _ => .refl _
 | c :: w, l, hw, hl => by
   obtain ⟨h0, h1⟩ := hw c zQT;have := qJV w (rR l c.natAbs) (fun x hx => hw x (zQS _ hx)) (by rw [qBS]; exact hl);exact this.trans (qSW (by omega) (by omega))
theorem qTV {n : Nat} {w : List Int} (h : okW n w) : (qJ n w).Perm (qR n) := qJV _ _ h (yC n)
theorem qK3 (n : Nat) : (qR n).Nodup := by
 unfold qR;rw [zS3, zVM];exact (zS3.1 zU0).imp fun h e => h (by omega)
structure zIJ (n : Nat) (f : List Int) : Prop where
 len : f.length = n
 ran : inR n f
 inj : ∀ (i j : Nat) (z : Int), f[i]? = some z -> f[j]? = some z -> i = j
 sur : ∀ k, k < n -> ∃ i : Nat, i < n ∧ f[i]? = some (k : Int)
theorem qYP {f : List Int} (h : f.Nodup) {i j : Nat} {z : Int} (hi : f[i]? = some z) (hj : f[j]? = some z) : i = j := by
 obtain ⟨h1, e1⟩ := zQQ.1 hi;obtain ⟨h2, e2⟩ := zQQ.1 hj;rw [zS3, List.pairwise_iff_getElem] at h;rcases Nat.lt_trichotomy i j with hlt | heq | hlt
 ·exact absurd (e1.trans e2.symm) (h i j h1 h2 hlt)
 ·exact heq
 ·exact absurd (e2.trans e1.symm) (h j i h2 h1 hlt)
theorem yJ {n : Nat} {w : List Int} (h : okW n w) : zIJ n (qJ n w) := by
 have hp := qTV h;refine ⟨vD n w, q1E h, fun i j z h1 h2 => qYP (hp.nodup_iff.2 (qK3 n)) h1 h2, fun k hk => ?_⟩;have hm : (k : Int) ∈ qJ n w := hp.mem_iff.2 (by simp [qR]; exact ⟨k, hk, rfl⟩);obtain ⟨i, hi⟩ := zU1.1 hm;exact ⟨i, by have := (zQQ.1 hi).1; rw [vD] at this; exact this, hi⟩
def jE (f : List Int) : Nat -> List Int -> List Int
 | 0, x => x
 | t + 1, x => zS f (jE f t x)
theorem nH {n : Nat} {f : List Int} (hf : f.length = n) {x : List Int} (hx : x.length = n) : ∀ t, (jE f t x).length = n
 | 0 => hx
 | t + 1 => by rw [jE, u7, hf]
theorem aL (f : List Int) (a : Nat) (x : List Int) : ∀ b, jE f (a + b) x = jE f b (jE f a x)
 | 0 => rfl
 | b + 1 => by rw [<- zSM, jE, jE, aL f a x b]
theorem qR7 {n : Nat} {f : List Int} (hf : zIJ n f) {x y : List Int} (hx : x.length = n) (hy : y.length = n) (h : zS f x = zS f y) : x = y := by
 apply zRC;intro k;by_cases hk : k < n
 ·obtain ⟨i, hin, hi⟩ := hf.sur k hk;have := congrArg (fun l => l[i]?) h;simp only [zS, zQU, hi, zQW, zR8, List.getD] at this;rw [zQP (by omega), zQP (by omega)] at this ⊢;simpa using this
 ·rw [zQX (by omega), zQX (by omega)]
theorem qLU {n : Nat} {f : List Int} (hf : zIJ n f) : ∀ (t : Nat) {x y : List Int}, x.length = n -> y.length = n -> jE f t x = jE f t y -> x = y
 | 0, x, y, _, _, h => h
 | t + 1, x, y, hx, hy, h => qLU hf t hx hy (qR7 hf (nH hf.len hx t) (nH hf.len hy t) h)
def qQI (n : Nat) : List Int -> Nat
 | [] => 0
 | z :: l => z.toNat + n * qQI n l
theorem qY9 {n : Nat} (hn : 0 < n) : ∀ (l : List Int), inR n l -> qQI n l < n ^ l.length
 | [], _ => by simp [qQI]
 | z :: l, h => by
   have h1 := qY9 hn l fun y hy => h y (zQS _ hy)
   obtain ⟨h2, h3⟩ := h z zQT;have hz : z.toNat < n := by omega
   have h4 : n * (qQI n l + 1) <= n * n ^ l.length := Nat.mul_le_mul_left n h1;have h5 : n ^ (z :: l).length = n * n ^ l.length := by rw [zRB, zSW, zR1]
   rw [h5];show z.toNat + n * qQI n l < _;rw [Nat.mul_add] at h4;omega
theorem qQO {n : Nat} : ∀ (l m : List Int), inR n l -> inR n m -> l.length = m.length -> qQI n l = qQI n m -> l = m
 | [], [], _, _, _, _ => rfl
 | [], _ :: _, _, _, h, _ => by simp at h
 | _ :: _, [], _, _, h, _ => by simp at h
 | x :: l, y :: m, hl, hm, h, he => by
   obtain ⟨h1, h2⟩ := hl x zQT;obtain ⟨h3, h4⟩ := hm y zQT;have he' : x.toNat + n * qQI n l = y.toNat + n * qQI n m := he;have hx : x.toNat < n := by omega
   have hy : y.toNat < n := by omega
   have e1 : x.toNat = y.toNat := by
    have := congrArg (· % n) he';simp only [Nat.add_mul_mod_self_left] at this
    rwa [zTM hx, zTM hy] at this
   have e2 : qQI n l = qQI n m := by
    have h5 : n * qQI n l = n * qQI n m := by omega
    exact Nat.eq_of_mul_eq_mul_left (by omega) h5
   rw [qQO l m (fun z hz => hl z (zQS _ hz)) (fun z hz => hm z (zQS _ hz)) (by simpa using h) e2, show x = y by omega]
theorem qQ5 : ∀ (N : Nat) (l : List Nat), l.Nodup -> (∀ x ∈ l, x < N) -> l.length <= N
 | 0, l, _, h => by
   cases l with
   | nil => simp
   | cons x l => have := h x zQT; omega
 | N + 1, l, hd, h => by
   by_cases hm : N ∈ l
   ·have h1 := qQ5 N (l.erase N) (hd.erase N) fun x hx => by
     have h2 := h x (List.mem_of_mem_erase hx)
     have h3 : x ≠ N := fun e => by
      subst e;exact (List.Nodup.not_mem_erase hd) hx
     omega
    rw [List.length_erase_of_mem hm] at h1;omega
   ·have h1 := qQ5 N l hd fun x hx => by
     have h2 := h x hx;have h3 : x ≠ N := fun e => hm (e ▸ hx)
     omega
    omega
theorem twice (g : Nat -> Nat) (N : Nat) (h : ∀ i, g i < N) : ∃ a b, a < b ∧ g a = g b := by
 by_cases hx : ∃ a b, a < b ∧ g a = g b
 ·exact hx
 ·exfalso
  have hnd : ((List.range (N + 1)).map g).Nodup := by
   rw [zS3, zVM];refine (zUX (n := N + 1)).imp fun {a b} hab e => hx ⟨a, b, hab, e⟩
  have := qQ5 N _ hnd fun x hx' => by
   obtain ⟨i, _, rfl⟩ := zQ9.1 hx';exact h i
  simp at this;omega
theorem q7W {n : Nat} {f c : List Int} (hf : zIJ n f) (hc : inR n c) (hcl : c.length = n) : inR n (zS f c) := by
 intro z hz;obtain ⟨y, hy, rfl⟩ := zQ9.1 hz;obtain ⟨h1, h2⟩ := hf.ran y hy;exact sW hc (by omega)
theorem qV1 {n : Nat} {f c x : List Int} (hf : zIJ n f) (hc : inR n c) (hcl : c.length = n) (hx : x.length = n) : zS f (zS c x) = zS (zS f c) x := by
 unfold zS;rw [zT4];apply zRT;intro z hz;obtain ⟨h1, h2⟩ := hf.ran z hz;simp only [Function.comp];have hlt : z.toNat < c.length := by omega
 simp [List.getD, hlt]
theorem rF {n : Nat} {f : List Int} (hf : zIJ n f) : ∀ t, inR n (jE f t (qR n)) ∧ (jE f t (qR n)).length = n
 | 0 => ⟨qKD n, yC n⟩
 | t + 1 => by
   obtain ⟨h1, h2⟩ := rF hf t;exact ⟨q7W hf h1 h2, nH hf.len (yC n) (t + 1)⟩
theorem qFJ {n : Nat} {x : List Int} (hx : x.length = n) : zS (qR n) x = x := by
 apply zRC;intro i;by_cases hi : i < n
 ·simp [zS, qR, hi, List.getD, hx]
 ·rw [zQX (by rw [u7, yC]; omega), zQX (by omega)]
theorem qBB {n : Nat} {f x : List Int} (hf : zIJ n f) (hx : x.length = n) : ∀ t, jE f t x = zS (jE f t (qR n)) x
 | 0 => (qFJ hx).symm
 | t + 1 => by
   obtain ⟨h1, h2⟩ := rF hf t;rw [jE, qBB hf hx t, qV1 hf h1 h2 hx]; rfl
theorem qSX {n : Nat} (hn : 0 < n) {f : List Int} (hf : zIJ n f) : ∃ p, 0 < p ∧ ∀ x : List Int, x.length = n -> jE f p x = x := by
 obtain ⟨a, b, hab, he⟩ := twice (fun t => qQI n (jE f t (qR n))) (n ^ n) fun t => by
  obtain ⟨h1, h2⟩ := rF hf t;have := qY9 hn _ h1;rw [h2] at this;exact this
 obtain ⟨h1, h2⟩ := rF hf a;obtain ⟨h3, h4⟩ := rF hf b;have heq := qQO _ _ h1 h3 (by omega) he
 have hid : qR n = jE f (b - a) (qR n) := by
  refine qLU hf a (yC n) (nH hf.len (yC n) _) ?_;rw [<- aL, show b - a + a = b by omega];exact heq
 refine ⟨b - a, by omega, fun x hx => ?_⟩;rw [qBB hf hx, <- hid, qFJ hx]
def phi (f : List Int) (i : Nat) : Nat := (f.getD i 0).toNat
def itp (f : List Int) : Nat -> Nat -> Nat
 | 0, i => i
 | t + 1, i => itp f t (phi f i)
theorem xZ (f : List Int) : ∀ (a b i : Nat), itp f (a + b) i = itp f b (itp f a i)
 | 0, b, i => by rw [zRK]; rfl
 | a + 1, b, i => by
   rw [show a + 1 + b = (a + b) + 1 by omega];show itp f (a + b) (phi f i) = itp f b (itp f a (phi f i));exact xZ f a b _
theorem xD (f : List Int) (t i : Nat) : itp f (t + 1) i = phi f (itp f t i) := by
 rw [xZ f t 1]; rfl
theorem kP {n : Nat} {f : List Int} (hf : zIJ n f) {i : Nat} (h : i < n) : f[i]? = some ((phi f i : Nat) : Int) ∧ phi f i < n := by
 have hl : i < f.length := by rw [hf.len]; exact h
 have e : f[i]? = some (f.getD i 0) := by
  rw [zQP hl];simp [List.getD, hl]
 obtain ⟨h1, h2⟩ := hf.ran _ (zRL e);refine ⟨by rw [e]; unfold phi; congr 1; omega, ?_⟩;unfold phi; omega
theorem qF3 {n : Nat} {f : List Int} (hf : zIJ n f) {i j : Nat} (hi : i < n) (hj : j < n) (h : phi f i = phi f j) : i = j :=
 hf.inj i j (phi f i : Nat) (kP hf hi).1 (by rw [h]; exact (kP hf hj).1)
theorem yU {n : Nat} {f : List Int} (hf : zIJ n f) : ∀ (t : Nat) {i : Nat}, i < n -> itp f t i < n
 | 0, i, h => h
 | t + 1, i, h => yU hf t (kP hf h).2
theorem qBF {n : Nat} {f : List Int} (hf : zIJ n f) : ∀ (t : Nat) {i j : Nat}, i < n -> j < n -> itp f t i = itp f t j -> i = j
 | 0, i, j, _, _, h => h
 | t + 1, i, j, hi, hj, h => qF3 hf hi hj (qBF hf t (kP hf hi).2 (kP hf hj).2 h)
theorem qZ7 {n : Nat} {f : List Int} (hf : zIJ n f) : ∀ (t : Nat) {i : Nat}, i < n -> (jE f t (qR n))[i]? = some ((itp f t i : Nat) : Int)
 | 0, i, h => by simp [jE, qR, itp, h]
 | t + 1, i, h => by
   obtain ⟨h1, h2⟩ := kP hf h;have h3 := qZ7 hf t h2;show (zS f (jE f t (qR n)))[i]? = _;unfold zS;rw [zQU, h1, zQW, zR8, List.getD, h3];rfl
theorem zBI (g : Nat -> Nat) (N : Nat) (h : ∀ i, g i < N) : ∃ a b, a < b ∧ b <= N ∧ g a = g b := by
 apply Classical.byContradiction;intro hc
 have hnd : ((List.range (N + 1)).map g).Nodup := by
  rw [zS3, zVM];refine List.Pairwise.imp_of_mem (fun {a b} ha hb hab e => ?_) (zUX (n := N + 1));exact hc ⟨a, b, hab, by have := zRF.1 hb; omega, e⟩
 have := qQ5 N _ hnd (fun x hx => by
  obtain ⟨i, _, rfl⟩ := zQ9.1 hx
  exact h i)
 simp at this;omega
theorem comes {n : Nat} {f : List Int} (hf : zIJ n f) {i : Nat} (hi : i < n) : ∃ t, 1 <= t ∧ t <= n ∧ itp f t i = i := by
 obtain ⟨a, b, h1, h2, h3⟩ := zBI (fun t => itp f t i) n (fun t => yU hf t hi);refine ⟨b - a, by omega, by omega, ?_⟩;have h3 : itp f a i = itp f b i := h3;rw [show b = (b - a) + a by omega, xZ] at h3;exact (qBF hf a hi (yU hf (b - a) hi) h3).symm
def dW (p : Nat -> Bool) : Nat -> Nat -> Nat
 | 0, k => k
 | m + 1, k => cond (p k) k (dW p m (k + 1))
theorem fV {p : Nat -> Bool} : ∀ (m k : Nat), (∃ t, k <= t ∧ t <= k + m ∧ p t = true) -> p (dW p m k) = true ∧ k <= dW p m k ∧ dW p m k <= k + m ∧ ∀ t, k <= t -> t < dW p m k -> p t = false
 | 0, k, ⟨t, h1, h2, h3⟩ => by
   have : t = k := by omega
   subst this;exact ⟨h3, zQO _, zQO _, fun s h1 h2 => by unfold dW at h2; omega⟩
 | m + 1, k, ⟨t, h1, h2, h3⟩ => by
   unfold dW
   cases hp : p k with
   | true => exact ⟨hp, zQO _, by simp, fun s h1 h2 => by simp at h2; omega⟩
   | false =>
     have hne : t ≠ k := fun e => by rw [e, hp] at h3; cases h3
     obtain ⟨a1, a2, a3, a4⟩ := fV m (k + 1) ⟨t, by omega, by omega, h3⟩;refine ⟨a1, by simp only [cond_false]; omega, by simp only [cond_false]; omega, fun s h1 h2 => ?_⟩;simp only [cond_false] at h2;by_cases e : s = k
     ·rw [e]; exact hp
     ·exact a4 s (by omega) h2
def cyc (f : List Int) (n p : Nat) : Nat := dW (fun t => decide (itp f t p = p)) n 1
theorem zD {n : Nat} {f : List Int} (hf : zIJ n f) {p : Nat} (hp : p < n) : itp f (cyc f n p) p = p ∧ 1 <= cyc f n p ∧ cyc f n p <= n ∧ ∀ t, 1 <= t -> t < cyc f n p -> itp f t p ≠ p := by
 obtain ⟨t, h1, h2, h3⟩ := comes hf hp;obtain ⟨a1, a2, a3, a4⟩ := fV (p := fun t => decide (itp f t p = p)) n 1 ⟨t, h1, by omega, by simpa using h3⟩
 have hle : cyc f n p <= n := by
  apply Classical.byContradiction;intro hc;have := a4 t h1 (by show t < cyc f n p; omega);simp [h3] at this
 exact ⟨by simpa [cyc] using a1, a2, hle, fun s h4 h5 => by simpa using a4 s h4 h5⟩
theorem qCD {f : List Int} {c p : Nat} (h : itp f c p = p) : ∀ q, itp f (c * q) p = p
 | 0 => rfl
 | q + 1 => by rw [Nat.mul_succ, xZ, qCD h q, h]
theorem rY {n : Nat} {f : List Int} (hf : zIJ n f) {p : Nat} (hp : p < n) (m : Nat) : itp f m p = p ↔ cyc f n p ∣ m := by
 obtain ⟨a1, a2, a3, a4⟩ := zD hf hp;constructor
 ·intro h;have e : m = cyc f n p * (m / cyc f n p) + m % cyc f n p := (zU8 _ _).symm;rw [e, xZ, qCD a1] at h;have hlt := zSZ m (show cyc f n p > 0 by omega);by_cases h0 : m % cyc f n p = 0
  ·exact Nat.dvd_of_mod_eq_zero h0
  ·exact absurd h (a4 _ (by omega) hlt)
 ·rintro ⟨q, rfl⟩;exact qCD a1 q
variable {c i j k : Nat} {f : List Int}
theorem qH4 {n : Nat} (hf : zIJ n f) (hi : i < n) (t : Nat) : itp f t i = itp f (t % cyc f n i) i := by
 obtain ⟨c1, c2, c3, c4⟩ := zD hf hi;have e : t = cyc f n i * (t / cyc f n i) + t % cyc f n i := (zU8 t _).symm;rw [show itp f t i = itp f (cyc f n i * (t / cyc f n i) + t % cyc f n i) i by rw [<- e], xZ, qCD c1]
theorem nN {n : Nat} (hf : zIJ n f) (hi : i < n) (t : Nat) : itp f (cyc f n i * t - t) (itp f t i) = i := by
 obtain ⟨c1, c2, c3, c4⟩ := zD hf hi;have h1 : t <= cyc f n i * t := Nat.le_mul_of_pos_left t c2;rw [<- xZ, show t + (cyc f n i * t - t) = cyc f n i * t by omega, qCD c1]
def rep (f : List Int) (n i : Nat) : Bool := (List.range n).all fun t => decide (i <= itp f t i)
theorem uO {n : Nat} (hf : zIJ n f) (hi : i < n) : rep f n i = true ↔ ∀ t, i <= itp f t i := by
 unfold rep;rw [zQR];constructor
 ·intro h t;obtain ⟨c1, c2, c3, c4⟩ := zD hf hi;rw [qH4 hf hi t];have hl : t % cyc f n i < n := zQZ (zSZ _ (by omega)) c3;have := h _ (zRF.2 hl);simpa using this
 ·intro h t _;simpa using h t
def fO (f : List Int) (n k : Nat) : List Nat := ((List.range k).filter (rep f n)).map (cyc f n)
def lens (f : List Int) (n : Nat) : List Nat := fO f n n
theorem qL9 {n : Nat} (h : rep f n k = true) : fO f n (k + 1) = fO f n k ++ [cyc f n k] := by
 unfold fO;rw [zTD, zUN, zRI];simp [h]
theorem qNN {n : Nat} (h : rep f n k = false) : fO f n (k + 1) = fO f n k := by
 unfold fO;rw [zTD, zUN, zRI];simp [h]
theorem qPG {n : Nat} (hf : zIJ n f) (hk : k < n) : (∃ i, i < k ∧ ∃ t, itp f t i = k) ↔ rep f n k = false := by
 constructor
 ·rintro ⟨i, hi, t, e⟩
  cases h : rep f n k with
  | false => rfl
  | true =>
    have h1 := (uO hf hk).1 h (cyc f n i * t - t);rw [<- e, nN hf (by omega) t, e] at h1;omega
 ·intro h
  have h1 : ¬ ∀ t, k <= itp f t k := fun q => by
   rw [<- uO hf hk, h] at q; cases q
  obtain ⟨t, ht⟩ := Classical.not_forall.1 h1;exact ⟨itp f t k, by omega, cyc f n k * t - t, nN hf hk t⟩
theorem qVI {n : Nat} (hf : zIJ n f) (hi : i < n) (t : Nat) : cyc f n (itp f t i) = cyc f n i := by
 have hl := yU hf t hi
 have key : ∀ m, itp f m (itp f t i) = itp f t i ↔ itp f m i = i := fun m => by
  rw [<- xZ, zTA, xZ];constructor
  ·exact fun h => qBF hf t (yU hf m hi) hi h
  ·exact fun h => by rw [h]
 refine Nat.dvd_antisymm ((rY hf hl _).1 ((key _).2 (zD hf hi).1)) ((rY hf hi _).1 ((key _).1 (zD hf hl).1))
theorem qP1 {n : Nat} {f : List Int} (hf : zIJ n f) : ∀ (m i : Nat), i < m -> i < n -> ∃ r t, r < n ∧ rep f n r = true ∧ itp f t r = i
 | 0, i, h, _ => by omega
 | m + 1, i, h, hi => by
   cases hr : rep f n i with
   | true => exact ⟨i, 0, hi, hr, rfl⟩
   | false =>
     obtain ⟨j, hj, t, e⟩ := (qPG hf hi).2 hr;obtain ⟨r, s, h1, h2, h3⟩ := qP1 hf m j (by omega) (by omega);exact ⟨r, s + t, h1, h2, by rw [xZ, h3, e]⟩
theorem q1X {n : Nat} : c ∈ lens f n ↔ ∃ r, r < n ∧ rep f n r = true ∧ cyc f n r = c := by
 unfold lens fO;rw [zQ9];constructor
 ·rintro ⟨r, h, e⟩;rw [zSS, zRF] at h;exact ⟨r, h.1, h.2, e⟩
 ·rintro ⟨r, h1, h2, e⟩;exact ⟨r, zSS.2 ⟨zRF.2 h1, h2⟩, e⟩
theorem q3E {n : Nat} (hf : zIJ n f) (hc : c ∈ lens f n) : 1 <= c ∧ c <= n := by
 obtain ⟨r, h1, h2, e⟩ := q1X.1 hc;obtain ⟨_, c2, c3, _⟩ := zD hf h1;omega
theorem qA0 (f : List Int) (n k : Nat) : (fO f n k).length <= k := by
 unfold fO;rw [zQ7];exact zQ6 (List.length_filter_le _ _) (by simp)
section
variable {n : Nat} {g h : List Int}
end
def pw (f : List Int) (n j : Nat) : List Int := (List.range n).map fun i => ((itp f j i : Nat) : Int)
theorem qFB (f : List Int) (n j : Nat) : (pw f n j).length = n := by simp [pw]
theorem qCT {n : Nat} (hi : i < n) : (pw f n j)[i]? = some ((itp f j i : Nat) : Int) := by
 unfold pw;rw [zQU, zS1 hi]; rfl
theorem zA7 {n : Nat} (hi : i < n) : phi (pw f n j) i = itp f j i := by
 unfold phi;rw [List.getD, qCT hi];simp
theorem qSN {n : Nat} (hf : zIJ n f) (j : Nat) : zIJ n (pw f n j) := by
 refine ⟨qFB _ _ _, fun z hz => ?_, fun a b z h1 h2 => ?_, fun k hk => ?_⟩
 ·obtain ⟨i, hi, rfl⟩ := zQ9.1 hz;have := yU hf j (zRF.1 hi);omega
 ·have ha : a < n := by
   have := (zQQ.1 h1).1; rwa [qFB] at this
  have hb : b < n := by
   have := (zQQ.1 h2).1; rwa [qFB] at this
  rw [qCT ha] at h1;rw [qCT hb] at h2;cases h1;injection h2 with h2;exact (qBF hf j hb ha (by omega)).symm
 ·refine ⟨itp f (cyc f n k * j - j) k, yU hf _ hk, ?_⟩;rw [qCT (yU hf _ hk), <- xZ, zTA, xZ, nN hf hk]
end Go.Proofs.YtjgfemghlhmlbaaGreatDoor
namespace Go.Proofs.YtjgfemghlhmlbaaGreatDoor
open Go.Idl Go.Sv
variable {n : Nat} {p : List Int}
variable {i k t : Nat} {l s0 : List Bool}
theorem rdB (h : k < l.length) : l[k]? = some (l.getD k false) := by
 rw [zQP h];simp [List.getD, h]
def cnt : List Bool -> Nat
 | [] => 0
 | true :: l => cnt l + 1
 | false :: l => cnt l
theorem qYZ : ∀ {l : List Bool} {i : Nat}, l[i]? = some false -> cnt (l.set i true) = cnt l + 1
 | [], i, h => by simp at h
 | b :: l, 0, h => by
   have : b = false := by simpa using h
   subst this;rfl
 | b :: l, i + 1, h => by
   have ih := qYZ (l := l) (i := i) (by simpa using h);cases b
   ·show cnt (l.set i true) = cnt l + 1;exact ih
   ·show cnt (l.set i true) + 1 = cnt l + 1 + 1;rw [ih]
theorem q8I (n : Nat) : cnt (List.replicate n false) = 0 := by
 induction n with
 | zero => rfl
 | succ n ih => exact ih
theorem qC9 {x : Nat} (hi : i < l.length) : (l.set i true).getD x false = (decide (i = x) || l.getD x false) := by
 by_cases h : i = x
 ·subst h;simp [List.getD, hi]
 ·simp [List.getD, zTU h, h]
def kJ (p : List Int) (i : Nat) (s0 : List Bool) : Nat -> List Bool
 | 0 => s0
 | t + 1 => (kJ p i s0 t).set (itp p t i) true
theorem vV (i : Nat) (s0 : List Bool) : ∀ t, (kJ p i s0 t).length = s0.length
 | 0 => rfl
 | t + 1 => by rw [kJ, zRH, vV i s0 t]
theorem bV (hp : zIJ n p) {i : Nat} (hi : i < n) {s0 : List Bool} (hl : s0.length = n) (x : Nat) : ∀ t, ((kJ p i s0 t).getD x false = true ↔ s0.getD x false = true ∨ ∃ s, s < t ∧ itp p s i = x)
 | 0 => by
   constructor
   ·exact .inl
   ·rintro (h | ⟨s, hs, _⟩)
    ·exact h
    ·omega
 | t + 1 => by
   have ih := bV hp hi hl x t;rw [kJ, qC9 (by rw [vV, hl]; exact yU hp t hi), zSQ, decide_eq_true_iff, ih];constructor
   ·rintro (h | h | ⟨s, h1, h2⟩)
    ·exact .inr ⟨t, by omega, h⟩
    ·exact .inl h
    ·exact .inr ⟨s, by omega, h2⟩
   ·rintro (h | ⟨s, h1, h2⟩)
    ·exact .inr (.inl h)
    ·rcases zR9 s t with h | h
     ·exact .inr (.inr ⟨s, h, h2⟩)
     ·have : s = t := by omega
      subst this;exact .inl h2
def q56 (n : Nat) (p : List Int) (s : List Bool) : Prop := ∀ x, x < n -> s.getD (phi p x) false = s.getD x false
theorem qP2 (hp : zIJ n p) {s : List Bool} (hc : q56 n p s) {i : Nat} (hi : i < n) : ∀ t, s.getD (itp p t i) false = s.getD i false
 | 0 => rfl
 | t + 1 => by rw [xD, hc _ (yU hp t hi), qP2 hp hc hi t]
theorem zAD (hp : zIJ n p) (hi : i < n) {s : Nat} (h1 : s < t) (h2 : t < cyc p n i) : itp p s i ≠ itp p t i := by
 intro e;obtain ⟨_, _, _, c4⟩ := zD hp hi;rw [show t = (t - s) + s by omega, xZ] at e;exact c4 (t - s) (by omega) (by omega) (qBF hp s (yU hp (t - s) hi) hi e.symm)
theorem free_at (hp : zIJ n p) (hi : i < n) (hl : s0.length = n) (hc : q56 n p s0) (h0 : s0.getD i false = false) (ht : t < cyc p n i) : (kJ p i s0 t)[itp p t i]? = some false := by
 rw [rdB (by rw [vV, hl]; exact yU hp t hi)]
 congr 1
 cases h : (kJ p i s0 t).getD (itp p t i) false with
 | false => rfl
 | true =>
   rcases (bV hp hi hl _ t).1 h with h1 | ⟨s, h1, h2⟩
   ·rw [qP2 hp hc hi t, h0] at h1; cases h1
   ·exact absurd h2 (zAD hp hi h1 ht)
theorem qKM (hp : zIJ n p) {i : Nat} (hi : i < n) {s0 : List Bool} (hl : s0.length = n) (hc : q56 n p s0) (h0 : s0.getD i false = false) : ∀ t, t <= cyc p n i -> cnt (kJ p i s0 t) = cnt s0 + t
 | 0, _ => rfl
 | t + 1, h => by
   rw [kJ, qYZ (free_at hp hi hl hc h0 (by omega)), qKM hp hi hl hc h0 t (by omega)];rfl
theorem qSP (hp : zIJ n p) (hi : i < n) (hl : s0.length = n) (hc : q56 n p s0) : q56 n p (kJ p i s0 (cyc p n i)) := by
 obtain ⟨c1, c2, c3, c4⟩ := zD hp hi;intro x hx
 have key : (kJ p i s0 (cyc p n i)).getD (phi p x) false = true ↔ (kJ p i s0 (cyc p n i)).getD x false = true := by
  rw [bV hp hi hl, bV hp hi hl, hc x hx];constructor
  ·rintro (h | ⟨s, h1, h2⟩)
   ·exact .inl h
   ·refine .inr ?_
    cases s with
    | succ s =>
      rw [xD] at h2;exact ⟨s, by omega, qF3 hp (yU hp s hi) hx h2⟩
    | zero =>
      have e : itp p (cyc p n i - 1 + 1) i = i := by rw [show cyc p n i - 1 + 1 = cyc p n i by omega, c1]
      rw [xD] at e;have h2 : i = phi p x := h2;exact ⟨cyc p n i - 1, by omega, qF3 hp (yU hp _ hi) hx (e.trans h2)⟩
  ·rintro (h | ⟨s, h1, h2⟩)
   ·exact .inl h
   ·refine .inr ?_;rcases zR9 (s + 1) (cyc p n i) with h | h
    ·exact ⟨s + 1, h, by rw [xD, h2]⟩
    ·have hs : s + 1 = cyc p n i := by omega
     refine ⟨0, by omega, ?_⟩;show i = phi p x;rw [<- h2, <- xD, hs, c1]
 cases h1 : (kJ p i s0 (cyc p n i)).getD (phi p x) false with
 | true => exact (key.1 h1).symm
 | false =>
   cases h2 : (kJ p i s0 (cyc p n i)).getD x false with
   | false => rfl
   | true => rw [key.2 h2] at h1; cases h1
def sK (p : List Int) (n : Nat) : Nat -> List Bool
 | 0 => List.replicate n false
 | k + 1 => cond (rep p n k) (kJ p k (sK p n k) (cyc p n k)) (sK p n k)
theorem q9W (h : rep p n k = true) : sK p n (k + 1) = kJ p k (sK p n k) (cyc p n k) := by
 unfold sK; rw [h]; cases k <;> rfl
theorem q9Y (h : rep p n k = false) : sK p n (k + 1) = sK p n k := by
 show cond (rep p n k) _ _ = _;rw [h]; rfl
theorem dX : ∀ k, (sK p n k).length = n
 | 0 => by simp [sK]
 | k + 1 => by
   cases h : rep p n k with
   | true => rw [q9W h, vV, dX k]
   | false => rw [q9Y h, dX k]
theorem qDF (hp : zIJ n p) : ∀ k, k <= n -> q56 n p (sK p n k)
 | 0, _ => fun x _ => by
   have hz : ∀ x, (List.replicate n false).getD x false = false := fun x => by
    by_cases h : x < n
    ·simp [List.getD, h]
    ·simp [List.getD, h]
   show (List.replicate n false).getD _ false = (List.replicate n false).getD _ false;rw [hz, hz]
 | k + 1, hk => by
   cases h : rep p n k with
   | true => rw [q9W h]; exact qSP hp (by omega) (dX k) (qDF hp k (by omega))
   | false => rw [q9Y h]; exact qDF hp k (by omega)
theorem q17 (hp : zIJ n p) {x : Nat} (hx : x < n) : ∀ k, k <= n -> ((sK p n k).getD x false = true ↔ ∃ i, i < k ∧ ∃ t, itp p t i = x)
 | 0, _ => by
   have hz : (List.replicate n false).getD x false = false := by simp [List.getD, hx]
   show (List.replicate n false).getD x false = true ↔ _;rw [hz];constructor
   ·intro h; cases h
   ·rintro ⟨i, h, _⟩; omega
 | k + 1, hk => by
   have ih := q17 hp hx k (by omega)
   cases h : rep p n k with
   | true =>
     rw [q9W h, bV hp (by omega) (dX k), ih];constructor
     ·rintro (⟨i, h1, h2⟩ | ⟨s, h1, h2⟩)
      ·exact ⟨i, by omega, h2⟩
      ·exact ⟨k, by omega, s, h2⟩
     ·rintro ⟨i, h1, t, h2⟩;rcases zR9 i k with h3 | h3
      ·exact .inl ⟨i, h3, t, h2⟩
      ·have : i = k := by omega
       subst this;obtain ⟨c1, c2, c3, c4⟩ := zD hp (show i < n by omega);refine .inr ⟨t % cyc p n i, zSZ _ (by omega), ?_⟩;rw [<- qH4 hp (by omega)]; exact h2
   | false =>
     rw [q9Y h, ih];constructor
     ·rintro ⟨i, h1, h2⟩; exact ⟨i, by omega, h2⟩
     ·rintro ⟨i, h1, t, h2⟩;rcases zR9 i k with h3 | h3
      ·exact ⟨i, h3, t, h2⟩
      ·have : i = k := by omega
       subst this;obtain ⟨j, h4, s, h5⟩ := (qPG hp (show i < n by omega)).2 h;exact ⟨j, h4, s + t, by rw [xZ, h5, h2]⟩
theorem qVT (hp : zIJ n p) (hk : k < n) : (sK p n k).getD k false = !rep p n k := by
 have h1 := q17 hp hk k (by omega);have h2 := qPG hp hk;rw [h2] at h1
 cases h : rep p n k with
 | true =>
   cases h3 : (sK p n k).getD k false with
   | false => rfl
   | true => rw [h1.1 h3] at h; cases h
 | false => exact h1.2 h
theorem q5B (hp : zIJ n p) : ∀ k, k <= n -> cnt (sK p n k) = (fO p n k).sum
 | 0, _ => by
   show cnt (List.replicate n false) = _;rw [q8I]; rfl
 | k + 1, hk => by
   have ih := q5B hp k (by omega)
   cases h : rep p n k with
   | true =>
     have h0 := qVT hp (show k < n by omega);rw [h] at h0;rw [q9W h, qKM hp (by omega) (dX k) (qDF hp k (by omega)) h0 _ (zQO _), ih, qL9 h];simp
   | false => rw [q9Y h, ih, qNN h]
theorem qWO : ∀ {l : List Bool}, (∀ x, x < l.length -> l.getD x false = true) -> cnt l = l.length
 | [], _ => rfl
 | b :: l, h => by
   have h0 := h 0 (by simp);have h0 : b = true := h0
   have ih := qWO (l := l) fun x hx => by
    have := h (x + 1) (by simp; omega);simpa using this
   subst h0;unfold cnt;simp [ih]
theorem qAR (hp : zIJ n p) : (lens p n).sum = n := by
 have h1 := q5B hp n (zQO _)
 rw [qWO fun x hx => by
  rw [dX] at hx
  exact (q17 hp hx n (zQO _)).2 ⟨x, hx, 0, rfl⟩, dX] at h1
 exact h1.symm
end Go.Proofs.YtjgfemghlhmlbaaGreatDoor
namespace Go.Proofs.YtjgfemghlhmlbaaGreatDoor
open Go.Idl Go.Sv
def leaf (b : Bool) (l : List Int) : Int := if b || l.all (fun x => decide (x = 0)) then 1 else 0
def wW (b : Bool) : List Int -> List Int -> Int
 | [], l => leaf b l
 | k :: ls, l => ((List.range l.length).map fun i => if k <= l.getD i 0 then wW b ls (l.set i (l.getD i 0 - k)) else 0).sum
theorem qNB : ∀ {l : List Int} {i : Nat} (x : Int), i < l.length -> (l.set i x).sum = l.sum - l.getD i 0 + x
 | [], i, x, h => by simp at h
 | y :: l, 0, x, h => by simp; omega
 | y :: l, i + 1, x, h => by
   have ih := qNB (l := l) (i := i) x (by simpa using h);simp only [List.set_cons_succ, zSO, zVD, ih];omega
theorem qFT : ∀ {l : List Int}, (∀ x ∈ l, 0 <= x) -> l.sum = 0 -> ∀ x ∈ l, x = 0
 | [], _, _, x, h => by cases h
 | y :: l, hp, h0, x, hx => by
   have h1 := hp y zQT
   have h2 : 0 <= l.sum := by
    clear h0 hx
    induction l with
    | nil => simp
    | cons z l ih =>
      have := ih fun x hx => hp x (by
       rcases zQ2.1 hx with rfl | h
       ·simp
       ·simp [h])
      have := hp z (by simp);simp only [zSO];omega
   simp only [zSO] at h0;rcases zQ2.1 hx with rfl | h
   ·omega
   ·exact qFT (fun x hx => hp x (zQS _ hx)) (by omega) x h
theorem gY {l : List Int} {i : Nat} (h : i < l.length) : l.getD i 0 ∈ l := by
 simp [List.getD, zQP h]
theorem qNC : ∀ {ls l : List Int}, (∀ x ∈ l, 0 <= x) -> l.sum = ls.sum -> wW false ls l = wW true ls l
 | [], l, hp, hs => by
   have : l.all (fun x => decide (x = 0)) = true := zQR.2 fun x hx => decide_eq_true (qFT hp hs x hx)
   simp [wW, leaf, this]
 | k :: ls, l, hp, hs => by
   unfold wW
   congr 1
   refine zRT fun i hi => ?_
   have hi := zRF.1 hi;by_cases hk : k <= l.getD i 0
   ·rw [if_pos hk, if_pos hk];refine qNC (fun x hx => ?_) ?_
    ·rcases zSB hx with h | h
     ·exact hp x h
     ·omega
    ·rw [qNB _ hi, hs];simp only [zSO];omega
   ·rw [if_neg hk, if_neg hk]
theorem q1N {a b : List Int} {i : Nat} (h : i < a.length) : (a ++ b).getD i 0 = a.getD i 0 := by
 simp [List.getD, zSA h]
theorem qW0 {α : Type} (l : List α) (f : α -> Int) (h : ∀ x ∈ l, f x = 0) : (l.map f).sum = 0 := by
 induction l with
 | nil => rfl
 | cons a l ih =>
   simp only [zQ0, zSO];rw [h a zQT, ih fun x hx => h x (zQS _ hx)];rfl
theorem q59 (b : Bool) (m : Nat) : ∀ {ls l : List Int}, (∀ k ∈ ls, 1 <= k) -> wW b ls (l ++ List.replicate m 0) = wW b ls l
 | [], l, _ => by
   unfold wW leaf;rw [zUJ];have : (List.replicate m (0 : Int)).all (fun x => decide (x = 0)) = true := by simp
   rw [this, zS2]
 | k :: ls, l, hp => by
   have hk := hp k zQT;unfold wW;rw [zQ8, zST, List.range_add, zRI, zTP, qW0 ((List.range m).map (l.length + ·))]
   ·rw [zVA]
    congr 1
    refine zRT fun i hi => ?_
    have hi := zRF.1 hi;rw [q1N hi];by_cases hk : k <= l.getD i 0
    ·rw [if_pos hk, if_pos hk, List.set_append_left _ _ hi];exact q59 b m fun x hx => hp x (zQS _ hx)
    ·rw [if_neg hk, if_neg hk]
   ·intro x hx;obtain ⟨j, hj, rfl⟩ := zQ9.1 hx;have hj := zRF.1 hj
    have : (l ++ List.replicate m 0).getD (l.length + j) 0 = 0 := by
     rw [List.getD, zR6 (Nat.le_add_right _ _)];simp [hj]
    rw [this, if_neg (by omega)]
theorem qPH (a : Int) : IntKind.i64.wrap (a % 18446744073709551616) = IntKind.i64.wrap a := by
 unfold IntKind.wrap;simp [IntKind.bits, IntKind.signed]
theorem q68 {a b : Int} (h : a % 18446744073709551616 = b % 18446744073709551616) : IntKind.i64.wrap a = IntKind.i64.wrap b := by
 rw [<- qPH a, <- qPH b, h]
theorem q4I (a : Int) : IntKind.i64.wrap a % 18446744073709551616 = a % 18446744073709551616 := by
 unfold IntKind.wrap;simp [IntKind.bits, IntKind.signed];split <;> omega
def sg (f : Nat -> Nat) : Nat -> Nat
 | 0 => 0
 | k + 1 => sg f k + f k
theorem zH {f g : Nat -> Nat} : ∀ n, (∀ x, x < n -> f x = g x) -> sg f n = sg g n
 | 0, _ => rfl
 | n + 1, h => by unfold sg; rw [zH n fun x hx => h x (by omega), h n (by omega)]
theorem qCX {f : Nat -> Nat} : ∀ n, (∀ x, x < n -> f x = 0) -> sg f n = 0
 | 0, _ => rfl
 | n + 1, h => by unfold sg; rw [qCX n fun x hx => h x (by omega), h n (by omega)]
theorem q5S (f g : Nat -> Nat) : ∀ n, sg (fun x => f x + g x) n = sg f n + sg g n
 | 0 => rfl
 | n + 1 => by unfold sg; rw [q5S f g n]; omega
theorem qK5 (c : Nat) (f : Nat -> Nat) : ∀ n, sg (fun x => c * f x) n = c * sg f n
 | 0 => rfl
 | n + 1 => by unfold sg; rw [qK5 c f n, Nat.mul_add]
theorem qF4 (c : Nat) : ∀ n, sg (fun _ => c) n = n * c
 | 0 => by simp [sg]
 | n + 1 => by unfold sg; rw [qF4 c n, zSX, zUW]
theorem rJ (f : Nat -> Nat -> Nat) (n : Nat) : ∀ m, sg (fun a => sg (f a) n) m = sg (fun b => sg (fun a => f a b) m) n
 | 0 => (qCX n fun _ _ => rfl).symm
 | m + 1 => by
   show sg (fun a => sg (f a) n) m + sg (f m) n = _;rw [rJ f n m, <- q5S];rfl
theorem qZT {f g : Nat -> Nat} {i : Nat} : ∀ n, i < n -> (∀ x, x < n -> x ≠ i -> f x = g x) -> sg f n + g i = sg g n + f i
 | 0, h, _ => by omega
 | n + 1, h, e => by
   unfold sg;by_cases hi : i = n
   ·subst hi;rw [zH i fun x hx => e x (by omega) (by omega)];omega
   ·have := qZT n (show i < n by omega) fun x hx hne => e x (by omega) hne
    rw [e n (by omega) (by omega)];omega
def b2 (b : Bool) : Nat := cond b 1 0
section
variable {n : Nat} {p : List Int}
def wS (φ : Nat -> Nat) (n : Nat) (s : List Bool) : Nat := sg (fun x => b2 (s.getD x false) * φ x) n
theorem zAV (φ : Nat -> Nat) {s : List Bool} {i : Nat} (hl : s.length = n) (hi : i < n) (h0 : s.getD i false = false) : wS φ n (s.set i true) = wS φ n s + φ i := by
 have h := qZT (f := fun x => b2 ((s.set i true).getD x false) * φ x) (g := fun x => b2 (s.getD x false) * φ x) (i := i) n hi fun x hx hne => by
  rw [qC9 (by omega)];have : decide (i = x) = false := decide_eq_false fun e => hne e.symm
  rw [this, zUC]
 have e1 : b2 ((s.set i true).getD i false) * φ i = φ i := by
  rw [qC9 (by omega)];simp [b2]
 have e2 : b2 (s.getD i false) * φ i = 0 := by rw [h0]; simp [b2]
 simp only [e1, e2] at h;exact h
theorem qKW {φ : Nat -> Nat} (hp : zIJ n p) (hφ : ∀ x, x < n -> φ (phi p x) = φ x) {i : Nat} (hi : i < n) : ∀ t, φ (itp p t i) = φ i
 | 0 => rfl
 | t + 1 => by rw [xD, hφ _ (yU hp t hi), qKW hp hφ hi t]
theorem qYV {φ : Nat -> Nat} (hp : zIJ n p) (hφ : ∀ x, x < n -> φ (phi p x) = φ x) {i : Nat} (hi : i < n) {s0 : List Bool} (hl : s0.length = n) (hc : q56 n p s0) (h0 : s0.getD i false = false) : ∀ t, t <= cyc p n i -> wS φ n (kJ p i s0 t) = wS φ n s0 + t * φ i
 | 0, _ => by simp [kJ]
 | t + 1, h => by
   have hf := free_at hp hi hl hc h0 (t := t) (by omega);have hit := yU hp t hi;have hsl : (kJ p i s0 t).length = n := by rw [vV, hl]
   have h1 : (kJ p i s0 t).getD (itp p t i) false = false := by rw [List.getD, hf]; rfl
   rw [kJ, zAV φ hsl hit h1, qYV hp hφ hi hl hc h0 t (by omega), qKW hp hφ hi t, zSX, zUW];omega
theorem zB3 {φ : Nat -> Nat} (hp : zIJ n p) (hφ : ∀ x, x < n -> φ (phi p x) = φ x) : ∀ k, k <= n -> wS φ n (sK p n k) = sg (fun r => b2 (rep p n r) * (cyc p n r * φ r)) k
 | 0, _ => qCX n fun x hx => by
   have : (sK p n 0).getD x false = false := by
    show (List.replicate n false).getD x false = false;simp [List.getD, hx]
   rw [this]; simp [b2]
 | k + 1, hk => by
   have ih := zB3 hp hφ k (by omega);have h0 := qVT hp (show k < n by omega);unfold sg
   cases h : rep p n k with
   | true =>
     rw [h] at h0;rw [q9W h, qYV hp hφ (by omega) (dX k) (qDF hp k (by omega)) h0 _ (zQO _), ih];simp [b2]
   | false =>
     rw [q9Y h, ih];simp [b2]
theorem qMI {φ : Nat -> Nat} (hp : zIJ n p) (hφ : ∀ x, x < n -> φ (phi p x) = φ x) : sg φ n = sg (fun r => b2 (rep p n r) * (cyc p n r * φ r)) n := by
 rw [<- zB3 hp hφ n (zQO _)];unfold wS;refine zH n fun x hx => ?_
 have : (sK p n n).getD x false = true := (q17 hp hx n (zQO _)).2 ⟨x, hx, 0, rfl⟩;rw [this];simp [b2]
theorem qFA {c : Nat} (hc : 1 <= c) : ∀ q, sg (fun j => b2 (decide (c ∣ j))) (c * q) = q
 | 0 => rfl
 | q + 1 => by
   have step : ∀ m, m <= c -> sg (fun j => b2 (decide (c ∣ j))) (c * q + m) = q + cond (decide (0 < m)) 1 0 := fun m => by
    induction m with
    | zero => intro _; rw [zR7, qFA hc q]; rfl
    | succ m ih =>
      intro hm;show sg _ (c * q + m) + b2 (decide (c ∣ c * q + m)) = _;rw [ih (by omega)];by_cases h0 : m = 0
      ·subst h0
       have : c ∣ c * q := ⟨q, rfl⟩
       simp [b2, this]
      ·have : ¬ c ∣ c * q + m := fun h => by
        have h2 : c ∣ m := (Nat.dvd_add_right ⟨q, rfl⟩).1 h;have := zVJ (by omega) h2;omega
       have hm0 : 0 < m := by omega
       simp [b2, this, hm0]
   have := step c (zQO _);rw [Nat.mul_succ, this];simp [show 0 < c by omega]
def q0V (p : List Int) (n : Nat) (B : Nat -> Bool) (j : Nat) : Nat := sg (fun x => b2 (B x && decide (itp p j x = x))) n
def qWH (p : List Int) (n : Nat) (B : Nat -> Bool) : Nat := sg (fun r => b2 (rep p n r && B r)) n
theorem qQ0 (a b : Bool) : b2 (a && b) = b2 a * b2 b := by cases a <;> cases b <;> rfl
theorem qQF (hp : zIJ n p) {B : Nat -> Bool} (hB : ∀ x, x < n -> B (phi p x) = B x) {h : Nat} (hh : ∀ x, x < n -> cyc p n x ∣ h) : sg (q0V p n B) h = h * qWH p n B := by
 have e1 : sg (q0V p n B) h = sg (fun x => b2 (B x) * (h / cyc p n x)) n := by
  show sg (fun j => sg (fun x => b2 (B x && decide (itp p j x = x))) n) h = _;rw [rJ];refine zH n fun x hx => ?_
  obtain ⟨c1, c2, c3, c4⟩ := zD hp hx;obtain ⟨q, hq⟩ := hh x hx
  have e : ∀ j, b2 (B x && decide (itp p j x = x)) = b2 (B x) * b2 (decide (cyc p n x ∣ j)) := fun j => by
   rw [qQ0]
   congr 2
   rw [zSP, decide_eq_true_eq, decide_eq_true_eq];exact rY hp hx j
  simp only [e];rw [qK5, hq, qFA c2, zUS _ (by omega)]
 have hφ : ∀ x, x < n -> b2 (B (phi p x)) * (h / cyc p n (phi p x)) = b2 (B x) * (h / cyc p n x) := fun x hx => by
  rw [hB x hx];have := qVI hp hx 1;have e : itp p 1 x = phi p x := rfl;rw [e] at this;rw [this]
 rw [e1, qMI (φ := fun x => b2 (B x) * (h / cyc p n x)) hp hφ];unfold qWH;rw [<- qK5];refine zH n fun r hr => ?_
 obtain ⟨c1, c2, c3, c4⟩ := zD hp hr;obtain ⟨q, hq⟩ := hh r hr;rw [qQ0, hq, zUS _ (by omega)];rw [Nat.mul_left_comm (cyc p n r) (b2 (B r)) q, <- Nat.mul_assoc, zR1]
end
end Go.Proofs.YtjgfemghlhmlbaaGreatDoor
namespace Go.Proofs.YtjgfemghlhmlbaaGreatDoor
open Go.Idl Go.Sv
variable {c i k : Nat}
def sl (c : Nat) : Nat -> (List Int -> Nat) -> Nat
 | 0, φ => φ []
 | m + 1, φ => sg (fun z => sl c m fun l => φ ((z : Int) :: l)) c
theorem kH {c : Nat} : ∀ (m : Nat) {φ ψ : List Int -> Nat}, (∀ l, l.length = m -> inR c l -> φ l = ψ l) -> sl c m φ = sl c m ψ
 | 0, φ, ψ, h => h [] rfl fun z hz => by cases hz
 | m + 1, φ, ψ, h => zH c fun z hz => kH m fun l hl hr => h _ (by simp [hl]) fun y hy => by
    rcases zQ2.1 hy with rfl | hy
    ·omega
    ·exact hr y hy
theorem qHU (m : Nat) : sl c m (fun _ => 0) = 0 := by
 induction m with
 | zero => rfl
 | succ m ih => exact qCX c fun z _ => ih
def dg (c : Nat) : Nat -> Nat -> List Int
 | 0, _ => []
 | m + 1, k => ((k / c ^ m : Nat) : Int) :: dg c m (k % c ^ m)
def eD (c : Nat) : List Int -> Nat
 | [] => 0
 | z :: l => z.toNat * c ^ l.length + eD c l
theorem xI (c : Nat) : ∀ m k, (dg c m k).length = m
 | 0, _ => rfl
 | m + 1, k => by simp [dg, xI c m]
theorem qAG {c : Nat} (hc : 0 < c) : ∀ m k, k < c ^ m -> inR c (dg c m k)
 | 0, _, _ => fun z hz => by cases hz
 | m + 1, k, h => fun z hz => by
   have hp : 0 < c ^ m := zUD hc;rcases zQ2.1 hz with rfl | hz
   ·have : k / c ^ m < c := zU7 (by rw [zSW] at h; exact h);exact ⟨zVI _, Int.ofNat_lt.2 this⟩
   ·exact qAG hc m _ (zSZ _ hp) z hz
theorem qDQ {c : Nat} (hc : 0 < c) : ∀ m k, k < c ^ m -> eD c (dg c m k) = k
 | 0, k, h => by simp [dg, eD] at *; omega
 | m + 1, k, h => by
   have hp : 0 < c ^ m := zUD hc;unfold dg eD;rw [xI, qDQ hc m _ (zSZ _ hp), zR8, zR1];exact zU8 k (c ^ m)
theorem qM1 {c : Nat} (hc : 0 < c) : ∀ l, inR c l -> eD c l < c ^ l.length
 | [], _ => by simp [eD]
 | z :: l, h => by
   have h1 := qM1 hc l fun y hy => h y (zQS _ hy)
   obtain ⟨h2, h3⟩ := h z zQT;have h4 : z.toNat + 1 <= c := by omega
   unfold eD;rw [zRB, zSW, zR1 (c ^ l.length) c];have h5 := zRV (c ^ l.length) h4;rw [zSX, zUW] at h5;omega
theorem qSO {c : Nat} (hc : 0 < c) : ∀ l, inR c l -> dg c l.length (eD c l) = l
 | [], _ => rfl
 | z :: l, h => by
   have hr : inR c l := fun y hy => h y (zQS _ hy)
   have h1 := qM1 hc l hr;obtain ⟨h2, h3⟩ := h z zQT;have hp : 0 < c ^ l.length := zUD hc;unfold eD;show (((z.toNat * c ^ l.length + eD c l) / c ^ l.length : Nat) : Int) :: dg c l.length ((z.toNat * c ^ l.length + eD c l) % c ^ l.length) = z :: l
   have e1 : (z.toNat * c ^ l.length + eD c l) / c ^ l.length = z.toNat := by
    rw [zR1, Nat.mul_add_div hp, Nat.div_eq_of_lt h1, zR7]
   have e2 : (z.toNat * c ^ l.length + eD c l) % c ^ l.length = eD c l := by
    rw [zR1, Nat.mul_add_mod, zTM h1]
   rw [e1, e2, qSO hc l hr]
   congr 1
   omega
theorem qGL (f : Nat -> Nat) (M : Nat) : ∀ c, sg f (c * M) = sg (fun z => sg (fun k => f (z * M + k)) M) c
 | 0 => by rw [zT6]; rfl
 | c + 1 => by
   have app : ∀ m, sg f (c * M + m) = sg f (c * M) + sg (fun k => f (c * M + k)) m := fun m => by
    induction m with
    | zero => rfl
    | succ m ih =>
      show sg f (c * M + m) + f (c * M + m) = sg f (c * M) + (sg (fun k => f (c * M + k)) m + f (c * M + m));rw [ih]; omega
   rw [zTX, app, qGL f M c];rfl
theorem q9G {c : Nat} (hc : 0 < c) : ∀ (m : Nat) (φ : List Int -> Nat), sg (fun k => φ (dg c m k)) (c ^ m) = sl c m φ
 | 0, φ => by
   show 0 + φ [] = φ [];omega
 | m + 1, φ => by
   have hp : 0 < c ^ m := zUD hc;rw [zSW, zR1, qGL];refine zH c fun z hz => ?_
   rw [<- q9G hc m];refine zH _ fun k hk => ?_
   have e1 : (z * c ^ m + k) / c ^ m = z := by rw [zR1, Nat.mul_add_div hp, Nat.div_eq_of_lt hk, zR7]
   have e2 : (z * c ^ m + k) % c ^ m = k := by rw [zR1, Nat.mul_add_mod, zTM hk]
   show φ (((z * c ^ m + k) / c ^ m : Nat) :: dg c m ((z * c ^ m + k) % c ^ m)) = _;rw [e1, e2]
section
variable {n : Nat} {g : List Int}
def low (g : List Int) (n i : Nat) : Nat := dW (fun r => rep g n r && (List.range n).any fun t => decide (itp g t r = i)) n 0
theorem nI (hg : zIJ n g) (hi : i < n) : rep g n (low g n i) = true ∧ low g n i <= i ∧ ∃ t, itp g t (low g n i) = i := by
 obtain ⟨r, t, h1, h2, h3⟩ := qP1 hg (i + 1) i (by omega) hi
 have hr : r <= i := by
  have := (uO hg h1).1 h2 t;omega
 obtain ⟨c1, c2, c3, c4⟩ := zD hg h1
 have hp : (rep g n r && (List.range n).any fun t => decide (itp g t r = i)) = true := by
  rw [h2, zTR, List.any_eq_true];refine ⟨t % cyc g n r, zRF.2 (zQZ (zSZ _ (by omega)) c3), ?_⟩;rw [<- qH4 hg h1, h3];simp
 obtain ⟨a1, a2, a3, a4⟩ := fV (p := fun r => rep g n r && (List.range n).any fun t => decide (itp g t r = i)) n 0 ⟨r, by omega, by omega, hp⟩;have a1 : (rep g n (low g n i) && (List.range n).any fun t => decide (itp g t (low g n i) = i)) = true := a1;rw [zQM, List.any_eq_true] at a1;obtain ⟨b1, t', _, b3⟩ := a1;refine ⟨b1, ?_, t', by simpa using b3⟩;rcases zR9 r (low g n i) with h | h
 ·have := a4 r (by omega) h;have hp' := hp;simp only [hp', Bool.true_eq_false] at this
 ·exact zQ6 h hr
theorem q8B (hg : zIJ n g) (hi : i < n) (h : rep g n i = true) : low g n i = i := by
 obtain ⟨h1, h2, t, h3⟩ := nI hg hi;rcases zR9 (low g n i) i with q | q
 ·have := (qPG hg hi).1 ⟨low g n i, q, t, h3⟩;rw [h] at this; cases this
 ·omega
theorem qQC (hg : zIJ n g) (hi : i < n) (h : rep g n i = false) : low g n i < i := by
 obtain ⟨h1, h2, t, h3⟩ := nI hg hi;rcases zR9 (low g n i) i with q | q
 ·exact q
 ·have e : low g n i = i := by omega
  rw [e, h] at h1; cases h1
def okR (g : List Int) (n : Nat) : Nat -> List Int -> List Int -> List Int -> Bool
 | _, _, [], b => b.all fun x => decide (x = 0)
 | k, pre, z :: l, b => cond (rep g n k) (decide ((cyc g n k : Int) <= b.getD z.toNat 0) && okR g n (k + 1) (pre ++ [z]) l (b.set z.toNat (b.getD z.toNat 0 - cyc g n k))) (decide (z = pre.getD (low g n k) 0) && okR g n (k + 1) (pre ++ [z]) l b)
def rZ (g : List Int) (n k : Nat) : List Nat := ((List.range' k (n - k)).filter (rep g n)).map (cyc g n)
theorem qFL : rZ g n 0 = lens g n := by
 unfold rZ lens fO;rw [Nat.sub_zero, List.range_eq_range']
theorem qY6 (hk : k < n) (h : rep g n k = true) : rZ g n k = cyc g n k :: rZ g n (k + 1) := by
 unfold rZ;rw [show n - k = (n - (k + 1)) + 1 by omega, List.range'_succ];simp [h]
theorem qU2 (hk : k < n) (h : rep g n k = false) : rZ g n k = rZ g n (k + 1) := by
 unfold rZ;rw [show n - k = (n - (k + 1)) + 1 by omega, List.range'_succ];simp [h]
theorem qK9 : rZ g n n = [] := by
 unfold rZ;simp
def asZ (l : List Nat) : List Int := l.map fun (c : Nat) => (c : Int)
theorem qIH (f : Nat -> Nat) : ∀ n, ((List.range n).map fun i => ((f i : Nat) : Int)).sum = ((sg f n : Nat) : Int)
 | 0 => rfl
 | n + 1 => by
   have e : sg f (n + 1) = sg f n + f n := rfl;rw [zTD, zRI, zTP, qIH f n, e];simp
theorem sH {f : Nat -> Nat} {z : Nat} (hz : z < c) (h : ∀ x, x < c -> x ≠ z -> f x = 0) : sg f c = f z := by
 have := qZT (f := f) (g := fun _ => 0) (i := z) c hz fun x hx hne => h x hx hne
 rw [qCX c fun _ _ => rfl] at this;omega
theorem qHN (hg : zIJ n g) {c : Nat} : ∀ (m k : Nat), k + m = n -> ∀ (pre b : List Int), pre.length = k -> inR c pre -> b.length = c -> ((sl c m fun l => b2 (okR g n k pre l b) : Nat) : Int) = wW false (asZ (rZ g n k)) b
 | 0, k, h, pre, b, hp, hr, hb => by
   have hk : k = n := by omega
   subst hk;rw [qK9];show ((b2 (b.all fun x => decide (x = 0)) : Nat) : Int) = leaf false b;unfold leaf;cases b.all fun x => decide (x = 0) <;> rfl
 | m + 1, k, h, pre, b, hp, hr, hb => by
   have hk : k < n := by omega
   have hpre : ∀ z : Nat, z < c -> inR c (pre ++ [(z : Int)]) := fun z hz y hy => by
    rcases zRA.1 hy with q | q
    ·exact hr y q
    ·rw [zRX.1 q]; omega
   cases hrep : rep g n k with
   | true =>
     rw [qY6 hk hrep];show ((sg (fun z => sl c m fun l => b2 (okR g n k pre ((z : Int) :: l) b)) c : Nat) : Int) = ((List.range b.length).map fun i => if ((cyc g n k : Nat) : Int) <= b.getD i 0 then wW false (asZ (rZ g n (k + 1))) (b.set i (b.getD i 0 - ((cyc g n k : Nat) : Int))) else 0).sum;rw [hb, <- qIH]
     congr 1
     refine zRT fun z hz => ?_
     have hz := zRF.1 hz;by_cases hle : ((cyc g n k : Nat) : Int) <= b.getD z 0
     ·rw [if_pos hle, <- qHN hg m (k + 1) (by omega) (pre ++ [(z : Int)]) _ (by simp [hp]) (hpre z hz) (by rw [zRH]; exact hb)]
      congr 1
      refine kH m fun l _ _ => ?_
      show b2 (cond (rep g n k) _ _) = _;rw [hrep, cond_true, zR8, decide_eq_true hle, zTR]
     ·rw [if_neg hle]
      have : (sl c m fun l => b2 (okR g n k pre ((z : Int) :: l) b)) = 0 := by
       rw [<- qHU (c := c) m];refine kH m fun l _ _ => ?_
       show b2 (cond (rep g n k) _ _) = _;rw [hrep, cond_true, zR8, decide_eq_false hle, Bool.false_and];rfl
      rw [this]; rfl
   | false =>
     rw [qU2 hk hrep];have hlow := qQC hg hk hrep;have hv : 0 <= pre.getD (low g n k) 0 ∧ pre.getD (low g n k) 0 < (c : Int) := sW hr (by omega)
     obtain ⟨v, hv1⟩ : ∃ v : Nat, pre.getD (low g n k) 0 = (v : Int) := ⟨(pre.getD (low g n k) 0).toNat, by omega⟩
     have hvc : v < c := by omega
     show ((sg (fun z => sl c m fun l => b2 (okR g n k pre ((z : Int) :: l) b)) c : Nat) : Int) = _;rw [sH (z := v) hvc fun z hz hne => ?_]
     ·rw [<- qHN hg m (k + 1) (by omega) (pre ++ [(v : Int)]) b (by simp [hp]) (hpre v hvc) hb]
      congr 1
      refine kH m fun l _ _ => ?_
      show b2 (cond (rep g n k) _ _) = _;rw [hrep, cond_false, hv1, decide_eq_true rfl, zTR]
     ·rw [<- qHU (c := c) m];refine kH m fun l _ _ => ?_
      show b2 (cond (rep g n k) _ _) = _;have : ¬ ((z : Int) = pre.getD (low g n k) 0) := by rw [hv1]; omega
      rw [hrep, cond_false, decide_eq_false this, Bool.false_and];rfl
end
end Go.Proofs.YtjgfemghlhmlbaaGreatDoor
namespace Go.Proofs.YtjgfemghlhmlbaaGreatDoor
open Go.Idl Go.Sv
variable {b x : List Int} {c i k : Nat}
def qFY (n : Nat) (x : List Int) (a : Nat) : Nat := sg (fun i => b2 (decide (x.getD i 0 = (a : Int)))) n
def q5D (g : List Int) (n : Nat) (x : List Int) : Bool := (List.range n).all fun i => decide (x.getD (phi g i) 0 = x.getD i 0)
def kL (c n : Nat) (x b : List Int) : Bool := (List.range c).all fun a => decide (b.getD a 0 = ((qFY n x a : Nat) : Int))
section
variable {n : Nat} {g : List Int}
theorem qAO : q5D g n x = true ↔ ∀ i, i < n -> x.getD (phi g i) 0 = x.getD i 0 := by
 unfold q5D;rw [zQR];constructor
 ·intro h i hi;simpa using h i (zRF.2 hi)
 ·intro h i hi;simpa using h i (zRF.1 hi)
theorem vE : kL c n x b = true ↔ ∀ a, a < c -> b.getD a 0 = ((qFY n x a : Nat) : Int) := by
 unfold kL;rw [zQR];constructor
 ·intro h i hi;simpa using h i (zRF.2 hi)
 ·intro h i hi;simpa using h i (zRF.1 hi)
theorem q3K (hg : zIJ n g) {r s : Nat} (hr : r < n) (hs : s < n) (h1 : rep g n r = true) (h2 : rep g n s = true) {t u : Nat} (e : itp g t r = itp g u s) : r = s := by
 have a1 := (uO hg hr).1 h1;have a2 := (uO hg hs).1 h2;have e1 : itp g (t + (cyc g n s * u - u)) r = s := by rw [xZ, e]; exact nN hg hs u
 have e2 : itp g (u + (cyc g n r * t - t)) s = r := by rw [xZ, <- e]; exact nN hg hr t
 have b1 := a1 (t + (cyc g n s * u - u));have b2 := a2 (u + (cyc g n r * t - t));omega
theorem q89 (hg : zIJ n g) (hi : i < n) : low g n (phi g i) = low g n i := by
 have hj := (kP hg hi).2;obtain ⟨a1, a2, t, a3⟩ := nI hg hi;obtain ⟨b1, b2, u, b3⟩ := nI hg hj;refine (q3K hg (by omega) (by omega) a1 b1 (t := t + 1) (u := u) ?_).symm;rw [xD, a3, b3]
theorem qR9 (hg : zIJ n g) {x : List Int} (h : ∀ i, i < n -> x.getD (phi g i) 0 = x.getD i 0) {i : Nat} (hi : i < n) : ∀ t, x.getD (itp g t i) 0 = x.getD i 0
 | 0 => rfl
 | t + 1 => by rw [xD, h _ (yU hg t hi), qR9 hg h hi t]
theorem qHB (hg : zIJ n g) : (∀ i, i < n -> rep g n i = false -> x.getD i 0 = x.getD (low g n i) 0) ↔ ∀ i, i < n -> x.getD (phi g i) 0 = x.getD i 0 := by
 constructor
 ·intro h i hi
  have all : ∀ j, j < n -> x.getD j 0 = x.getD (low g n j) 0 := fun j hj => by
   cases hr : rep g n j with
   | false => exact h j hj hr
   | true => rw [q8B hg hj hr]
  rw [all _ (kP hg hi).2, q89 hg hi, <- all i hi]
 ·intro h i hi _;obtain ⟨a1, a2, t, a3⟩ := nI hg hi;have := qR9 hg h (show low g n i < n by omega) t;rw [a3] at this;exact this
def qF (g : List Int) (n : Nat) (x : List Int) (a k : Nat) : Nat := sg (fun j => b2 (rep g n (k + j)) * (cyc g n (k + j) * b2 (decide (x.getD (k + j) 0 = (a : Int))))) (n - k)
theorem qGJ (f : Nat -> Nat) : ∀ m, sg f (m + 1) = f 0 + sg (fun j => f (j + 1)) m
 | 0 => by simp [sg]
 | m + 1 => by
   show sg f (m + 1) + f (m + 1) = f 0 + (sg (fun j => f (j + 1)) m + f (m + 1));rw [qGJ f m];omega
theorem qOD {a : Nat} (hk : k < n) : qF g n x a k = b2 (rep g n k) * (cyc g n k * b2 (decide (x.getD k 0 = (a : Int)))) + qF g n x a (k + 1) := by
 unfold qF;rw [show n - k = (n - (k + 1)) + 1 by omega, qGJ];simp only [zR7]
 congr 1
 refine zH _ fun j _ => ?_
 rw [show k + (j + 1) = k + 1 + j by omega]
theorem getD_take (h : i < k) : (x.take k).getD i 0 = x.getD i 0 := by
 simp [List.getD, zRZ, h]
theorem vW {l : List Int} {j : Nat} {v : Int} (h : i < l.length) : (l.set i v).getD j 0 = if j = i then v else l.getD j 0 := by
 by_cases e : j = i
 ·subst e;simp [List.getD, h]
 ·rw [if_neg e];simp [List.getD, zTU (fun q => e q.symm)]
theorem qO8 (hg : zIJ n g) {c : Nat} {x : List Int} (hx : x.length = n) (hr : inR c x) : ∀ (m k : Nat), k + m = n -> ∀ b : List Int, b.length = c ->
 (okR g n k (x.take k) (x.drop k) b = true ↔ (∀ i, k <= i -> i < n -> rep g n i = false -> x.getD i 0 = x.getD (low g n i) 0) ∧ ∀ a, a < c -> b.getD a 0 = ((qF g n x a k : Nat) : Int))
 | 0, k, h, b, hb => by
   have hk : k = n := by omega
   subst hk;have hd : x.drop k = [] := by rw [<- hx, List.drop_length]
   rw [hd];show (b.all fun x => decide (x = 0)) = true ↔ _
   have hq : ∀ a, qF g k x a k = 0 := fun a => by
    unfold qF;rw [zTY]; rfl
   rw [zQR];constructor
   ·intro hz;refine ⟨fun i h1 h2 => by omega, fun a ha => ?_⟩;rw [hq];have := hz _ (gY (l := b) (i := a) (by omega));simpa using this
   ·rintro ⟨_, hz⟩ y hy;obtain ⟨a, ha⟩ := zU9 hy;have hal := (zQQ.1 ha).1;have := hz a (by omega);rw [hq, List.getD, ha] at this;simpa using this
 | m + 1, k, h, b, hb => by
   have hk : k < n := by omega
   have hkx : k < x.length := by omega
   have hxk : x[k]? = some (x.getD k 0) := by simp [List.getD, zQP hkx]
   have hdr : x.drop k = x.getD k 0 :: x.drop (k + 1) := by
    rw [zRQ hkx]
    congr 1
    simp [List.getD, hkx]
   have htk : x.take k ++ [x.getD k 0] = x.take (k + 1) := by
    rw [zTT, hxk];rfl
   have hz := hr _ (gY hkx)
   obtain ⟨z, hz1⟩ : ∃ z : Nat, x.getD k 0 = (z : Int) := ⟨(x.getD k 0).toNat, by omega⟩
   have hzc : z < c := by omega
   rw [hdr];unfold okR;rw [htk]
   cases hrep : rep g n k with
   | true =>
     rw [cond_true, zQM, decide_eq_true_eq, hz1, zR8];rw [qO8 hg hx hr m (k + 1) (by omega) _ (by rw [zRH]; exact hb)];have hset : ∀ a, (b.set z (b.getD z 0 - ((cyc g n k : Nat) : Int))).getD a 0 = if a = z then b.getD z 0 - ((cyc g n k : Nat) : Int) else b.getD a 0 := fun a => vW (by omega)
     have hqz : qF g n x z k = cyc g n k + qF g n x z (k + 1) := by
      rw [qOD hk, hrep, hz1];simp [b2]
     have hqa : ∀ a, a ≠ z -> qF g n x a k = qF g n x a (k + 1) := fun a ha => by
      rw [qOD hk, hz1];have : ¬ ((z : Int) = (a : Int)) := by omega
      simp [b2, this]
     constructor
     ·rintro ⟨h1, h2, h3⟩;refine ⟨fun i hi1 hi2 hi3 => ?_, fun a ha => ?_⟩
      ·rcases zR9 k i with q | q
       ·exact h2 i (by omega) hi2 hi3
       ·have : i = k := by omega
        rw [this, hrep] at hi3; cases hi3
      ·have := h3 a ha;rw [hset] at this;by_cases e : a = z
       ·rw [if_pos e] at this;subst e;rw [hqz]; omega
       ·rw [if_neg e] at this;rw [this, hqa a e]
     ·rintro ⟨h2, h3⟩;have hz3 := h3 z hzc;rw [hqz] at hz3;refine ⟨by omega, fun i hi1 hi2 hi3 => h2 i (by omega) hi2 hi3, fun a ha => ?_⟩;rw [hset];by_cases e : a = z
      ·rw [if_pos e, e]; omega
      ·rw [if_neg e, h3 a ha, hqa a e]
   | false =>
     have hlow := qQC hg hk hrep;rw [cond_false, zQM, decide_eq_true_eq, getD_take hlow];rw [qO8 hg hx hr m (k + 1) (by omega) b hb]
     have hqa : ∀ a, qF g n x a k = qF g n x a (k + 1) := fun a => by
      rw [qOD hk, hrep];simp [b2]
     constructor
     ·rintro ⟨h1, h2, h3⟩;refine ⟨fun i hi1 hi2 hi3 => ?_, fun a ha => by rw [hqa]; exact h3 a ha⟩;rcases zR9 k i with q | q
      ·exact h2 i (by omega) hi2 hi3
      ·have : i = k := by omega
       rw [this]; exact h1
     ·rintro ⟨h2, h3⟩;exact ⟨h2 k (zQO _) hk hrep, fun i hi1 hi2 hi3 => h2 i (by omega) hi2 hi3, fun a ha => by rw [<- hqa]; exact h3 a ha⟩
theorem zCC (hg : zIJ n g) (hx : x.length = n) (hr : inR c x) (hb : b.length = c) : okR g n 0 [] x b = (q5D g n x && kL c n x b) := by
 have h := qO8 hg hx hr n 0 (by omega) b hb;rw [zVF, zR3] at h;rw [zSP, h, zQM, qAO, vE, <- qHB hg];constructor
 ·rintro ⟨h1, h2⟩;have hf := fun i hi hr => h1 i (zR4 _) hi hr
  refine ⟨hf, fun a ha => ?_⟩;rw [h2 a ha]
  congr 1
  have hc := (qHB hg).1 hf;unfold qFY qF;rw [qMI (φ := fun i => b2 (decide (x.getD i 0 = (a : Int)))) hg fun i hi => by rw [hc i hi]];rw [Nat.sub_zero];exact zH n fun j _ => by rw [zRK]
 ·rintro ⟨hf, h2⟩;refine ⟨fun i _ hi hr => hf i hi hr, fun a ha => ?_⟩;rw [h2 a ha]
  congr 1
  have hc := (qHB hg).1 hf;unfold qFY qF;rw [qMI (φ := fun i => b2 (decide (x.getD i 0 = (a : Int)))) hg fun i hi => by rw [hc i hi]];rw [Nat.sub_zero];exact zH n fun j _ => by rw [zRK]
theorem q4D (hg : zIJ n g) (hb : b.length = c) : ((sl c n fun x => b2 (q5D g n x && kL c n x b) : Nat) : Int) = wW false (asZ (lens g n)) b := by
 rw [<- qFL, <- qHN hg n 0 (by omega) [] b rfl (fun z hz => by cases hz) hb]
 congr 1
 exact kH n fun x hx hr => by rw [zCC hg hx hr hb]
def okU (g : List Int) (n : Nat) : Nat -> List Int -> List Int -> Bool
 | _, _, [] => true
 | k, pre, z :: l => cond (rep g n k) (okU g n (k + 1) (pre ++ [z]) l) (decide (z = pre.getD (low g n k) 0) && okU g n (k + 1) (pre ++ [z]) l)
theorem qNI (hg : zIJ n g) {c : Nat} : ∀ (m k : Nat), k + m = n -> ∀ pre : List Int, pre.length = k -> inR c pre -> (sl c m fun l => b2 (okU g n k pre l)) = c ^ (rZ g n k).length
 | 0, k, h, pre, hp, hr => by
   have hk : k = n := by omega
   subst hk;rw [qK9]; rfl
 | m + 1, k, h, pre, hp, hr => by
   have hk : k < n := by omega
   have hpre : ∀ z : Nat, z < c -> inR c (pre ++ [(z : Int)]) := fun z hz y hy => by
    rcases zRA.1 hy with q | q
    ·exact hr y q
    ·rw [zRX.1 q]; omega
   show sg (fun z => sl c m fun l => b2 (okU g n k pre ((z : Int) :: l))) c = _
   cases hrep : rep g n k with
   | true =>
     rw [qY6 hk hrep, zRB, zSW, zR1, <- qF4];refine zH c fun z hz => ?_
     rw [<- qNI hg m (k + 1) (by omega) (pre ++ [(z : Int)]) (by simp [hp]) (hpre z hz)];refine kH m fun l _ _ => ?_
     show b2 (cond (rep g n k) _ _) = _;rw [hrep, cond_true]
   | false =>
     rw [qU2 hk hrep];have hlow := qQC hg hk hrep;have hv : 0 <= pre.getD (low g n k) 0 ∧ pre.getD (low g n k) 0 < (c : Int) := sW hr (by omega)
     obtain ⟨v, hv1⟩ : ∃ v : Nat, pre.getD (low g n k) 0 = (v : Int) := ⟨(pre.getD (low g n k) 0).toNat, by omega⟩
     have hvc : v < c := by omega
     rw [sH (z := v) hvc fun z hz hne => ?_]
     ·rw [<- qNI hg m (k + 1) (by omega) (pre ++ [(v : Int)]) (by simp [hp]) (hpre v hvc)];refine kH m fun l _ _ => ?_
      show b2 (cond (rep g n k) _ _) = _;rw [hrep, cond_false, hv1, decide_eq_true rfl, zTR]
     ·rw [<- qHU (c := c) m];refine kH m fun l _ _ => ?_
      show b2 (cond (rep g n k) _ _) = _;have : ¬ ((z : Int) = pre.getD (low g n k) 0) := by rw [hv1]; omega
      rw [hrep, cond_false, decide_eq_false this, Bool.false_and];rfl
theorem qME (hg : zIJ n g) {x : List Int} (hx : x.length = n) : ∀ (m k : Nat), k + m = n -> (okU g n k (x.take k) (x.drop k) = true ↔ ∀ i, k <= i -> i < n -> rep g n i = false -> x.getD i 0 = x.getD (low g n i) 0)
 | 0, k, h => by
   have hk : k = n := by omega
   subst hk;have hd : x.drop k = [] := by rw [<- hx, List.drop_length]
   rw [hd];exact ⟨fun _ i h1 h2 => by omega, fun _ => rfl⟩
 | m + 1, k, h => by
   have hk : k < n := by omega
   have hkx : k < x.length := by omega
   have hxk : x[k]? = some (x.getD k 0) := by simp [List.getD, zQP hkx]
   have hdr : x.drop k = x.getD k 0 :: x.drop (k + 1) := by
    rw [zRQ hkx]
    congr 1
    simp [List.getD, hkx]
   have htk : x.take k ++ [x.getD k 0] = x.take (k + 1) := by
    rw [zTT, hxk];rfl
   rw [hdr];unfold okU;rw [htk]
   cases hrep : rep g n k with
   | true =>
     rw [cond_true, qME hg hx m (k + 1) (by omega)];constructor
     ·intro h2 i hi1 hi2 hi3;rcases zR9 k i with q | q
      ·exact h2 i (by omega) hi2 hi3
      ·have : i = k := by omega
       rw [this, hrep] at hi3; cases hi3
     ·exact fun h2 i hi1 hi2 hi3 => h2 i (by omega) hi2 hi3
   | false =>
     have hlow := qQC hg hk hrep;rw [cond_false, zQM, decide_eq_true_eq, getD_take hlow, qME hg hx m (k + 1) (by omega)];constructor
     ·rintro ⟨h1, h2⟩ i hi1 hi2 hi3;rcases zR9 k i with q | q
      ·exact h2 i (by omega) hi2 hi3
      ·have : i = k := by omega
       rw [this]; exact h1
     ·exact fun h2 => ⟨h2 k (zQO _) hk hrep, fun i hi1 hi2 hi3 => h2 i (by omega) hi2 hi3⟩
theorem q7K (hg : zIJ n g) (c : Nat) : (sl c n fun x => b2 (q5D g n x)) = c ^ (lens g n).length := by
 rw [<- qFL, <- qNI hg n 0 (by omega) [] rfl fun z hz => by cases hz];refine kH n fun x hx _ => ?_
 have h := qME hg hx n 0 (by omega);rw [zVF, zR3] at h
 congr 1
 rw [zSP, h, qAO, <- qHB hg];exact ⟨fun q i _ hi hr => q i hi hr, fun q i hi hr => q i (zR4 _) hi hr⟩
end
end Go.Proofs.YtjgfemghlhmlbaaGreatDoor
namespace Go.Proofs.YtjgfemghlhmlbaaGreatDoor
open Go.Idl Go.Sv
variable {b x : List Int} {h k : Nat} {p : Prop}
theorem q9S {n : Nat} {f : List Int} (hf : zIJ n f) (φ : Nat -> Nat) : sg (fun i => φ (phi f i)) n = sg φ n := by
 have e1 : ∀ i, i < n -> φ (phi f i) = sg (fun j => b2 (decide (phi f i = j)) * φ j) n := fun i hi => by
  have hl := (kP hf hi).2;rw [sH (z := phi f i) hl fun j _ hne => ?_]
  ·simp [b2]
  ·have : ¬ phi f i = j := fun q => hne q.symm
   simp [b2, this]
 rw [zH n e1, rJ];refine zH n fun j hj => ?_
 obtain ⟨i, hi, hij⟩ := hf.sur j hj
 have hpi : phi f i = j := by
  unfold phi;rw [List.getD, hij];simp
 rw [sH (z := i) hi fun k hk hne => ?_]
 ·simp [b2, hpi]
 ·have : ¬ phi f k = j := fun q => hne (qF3 hf hk hi (q.trans hpi.symm))
  simp [b2, this]
theorem q9J {f : Nat -> Nat} {i : Nat} : ∀ n, i < n -> f i <= sg f n
 | 0, h => by omega
 | n + 1, h => by
   unfold sg;by_cases e : i = n
   ·rw [e]; omega
   ·have := q9J (f := f) n (show i < n by omega);omega
section
variable {c n : Nat} {f : List Int}
def nF (c n : Nat) (f : List Int) : List Int := (List.range (c ^ n)).map fun k => ((eD c (zS f (dg c n k)) : Nat) : Int)
theorem nC (hf : zIJ n f) : (zS f x).length = n := by rw [u7, hf.len]
theorem o7 (hf : zIJ n f) (hx : x.length = n) (hr : inR c x) : inR c (zS f x) := fun z hz => by
 obtain ⟨y, hy, rfl⟩ := zQ9.1 hz;obtain ⟨h1, h2⟩ := hf.ran y hy;exact hr _ (gY (by omega))
theorem qUY : (nF c n f).length = c ^ n := by simp [nF]
theorem qRY (k : Nat) (hk : k < c ^ n) : (nF c n f)[k]? = some ((eD c (zS f (dg c n k)) : Nat) : Int) := by
 unfold nF;rw [zQU, zS1 hk]; rfl
theorem zB8 (hk : k < c ^ n) : phi (nF c n f) k = eD c (zS f (dg c n k)) := by
 unfold phi;rw [List.getD, qRY k hk];simp
theorem zD8 (hc : 0 < c) (hf : zIJ n f) (hk : k < c ^ n) : eD c (zS f (dg c n k)) < c ^ n := by
 have := qM1 hc (zS f (dg c n k)) (o7 hf (xI c n k) (qAG hc n k hk));rw [nC hf] at this;exact this
theorem qYB (hc : 0 < c) (hf : zIJ n f) (hk : k < c ^ n) : dg c n (phi (nF c n f) k) = zS f (dg c n k) := by
 rw [zB8 hk];have := qSO hc (zS f (dg c n k)) (o7 hf (xI c n k) (qAG hc n k hk));rw [nC hf] at this;exact this
theorem qPP (hf : zIJ n f) {x : List Int} (hx : x.length = n) (hr : inR c x) : ∀ t, (jE f t x).length = n ∧ inR c (jE f t x)
 | 0 => ⟨hx, hr⟩
 | t + 1 => by
   obtain ⟨h1, h2⟩ := qPP hf hx hr t;rw [aL f t x 1];exact ⟨nC hf, o7 hf h1 h2⟩
theorem sD (hc : 0 < c) (hn : 0 < n) (hf : zIJ n f) : zIJ (c ^ n) (nF c n f) := by
 refine ⟨qUY, fun z hz => ?_, fun i j z h1 h2 => ?_, fun k hk => ?_⟩
 ·obtain ⟨k, hk, rfl⟩ := zQ9.1 hz;have := zD8 hc hf (zRF.1 hk);exact ⟨zVI _, Int.ofNat_lt.2 this⟩
 ·have hi : i < c ^ n := by have := (zQQ.1 h1).1; rwa [qUY] at this
  have hj : j < c ^ n := by have := (zQQ.1 h2).1; rwa [qUY] at this
  rw [qRY i hi] at h1;rw [qRY j hj] at h2
  have e : eD c (zS f (dg c n i)) = eD c (zS f (dg c n j)) := by
   have := h1.trans h2.symm;injection this with this;exact Int.ofNat.inj this
  have e2 : zS f (dg c n i) = zS f (dg c n j) := by
   have a1 := qSO hc (zS f (dg c n i)) (o7 hf (xI c n i) (qAG hc n i hi));have a2 := qSO hc (zS f (dg c n j)) (o7 hf (xI c n j) (qAG hc n j hj));rw [nC hf] at a1 a2;rw [<- a1, <- a2, e]
  have e3 := qR7 hf (xI c n i) (xI c n j) e2;rw [<- qDQ hc n i hi, <- qDQ hc n j hj, e3]
 ·obtain ⟨p, hp, hx⟩ := qSX hn hf;have hd := xI c n k;have hr := qAG hc n k hk;obtain ⟨h1, h2⟩ := qPP hf hd hr (p - 1)
  have hg : zS f (jE f (p - 1) (dg c n k)) = dg c n k := by
   have e : jE f (p - 1 + 1) (dg c n k) = dg c n k := by rw [show p - 1 + 1 = p by omega]; exact hx _ hd
   rw [aL f (p - 1) _ 1] at e;exact e
  have hl := qM1 hc _ h2;rw [h1] at hl;have hb := qSO hc _ h2;rw [h1] at hb;refine ⟨eD c (jE f (p - 1) (dg c n k)), hl, ?_⟩;rw [qRY _ hl, hb, hg, qDQ hc n k hk]
theorem zC0 (hc : 0 < c) (hn : 0 < n) (hf : zIJ n f) {k : Nat} (hk : k < c ^ n) : ∀ t, dg c n (itp (nF c n f) t k) = jE f t (dg c n k)
 | 0 => rfl
 | t + 1 => by
   rw [xD, qYB hc hf (yU (sD hc hn hf) t hk), zC0 hc hn hf hk t, aL f t _ 1];rfl
theorem qWB (hc : 0 < c) {i j : Nat} (hi : i < c ^ n) (hj : j < c ^ n) (h : dg c n i = dg c n j) : i = j := by
 rw [<- qDQ hc n i hi, <- qDQ hc n j hj, h]
theorem q66 (hf : zIJ n f) (j : Nat) : jE f j (qR n) = pw f n j := by
 apply zRC;intro i;by_cases hi : i < n
 ·rw [qZ7 hf j hi, qCT hi]
 ·rw [zQX (by rw [(rF hf j).2]; omega), zQX (by rw [qFB]; omega)]
theorem q3C {g : List Int} (hg : zIJ n g) (hx : x.length = n) : zS g x = x ↔ q5D g n x = true := by
 rw [qAO]
 have hget : ∀ i, i < n -> (zS g x)[i]? = some (x.getD (phi g i) 0) := fun i hi => by
  unfold zS;rw [zQU, (kP hg hi).1, zQW, zR8]
 constructor
 ·intro h i hi;have := hget i hi;rw [h, zQP (by omega)] at this;injection this with this;rw [<- this];simp [List.getD, show i < x.length by omega]
 ·intro h;apply zRC;intro i;by_cases hi : i < n
  ·rw [hget i hi, h i hi, zQP (by omega)];simp [List.getD, show i < x.length by omega]
  ·rw [zQX (by rw [nC hg]; omega), zQX (by omega)]
theorem qU8 (hc : 0 < c) (hn : 0 < n) (hf : zIJ n f) (hk : k < c ^ n) (j : Nat) : decide (itp (nF c n f) j k = k) = q5D (pw f n j) n (dg c n k) := by
 rw [zSP, decide_eq_true_eq, <- q3C (qSN hf j) (xI c n k), <- q66 hf, <- qBB hf (xI c n k), <- zC0 hc hn hf hk];constructor
 ·intro h; rw [h]
 ·exact fun h => qWB hc (yU (sD hc hn hf) j hk) hk h
theorem qX9 (hf : zIJ n f) (a : Nat) : qFY n (zS f x) a = qFY n x a := by
 unfold qFY;rw [<- q9S hf fun i => b2 (decide (x.getD i 0 = (a : Int)))];refine zH n fun i hi => ?_
 have : (zS f x).getD i 0 = x.getD (phi f i) 0 := by
  unfold zS;rw [List.getD, zQU, (kP hf hi).1, zQW, zR8];rfl
 rw [this]
theorem qCU (hf : zIJ n f) : kL c n (zS f x) b = kL c n x b := by
 unfold kL;simp only [qX9 hf]
theorem q87 (hc : 0 < c) (hn : 0 < n) (hf : zIJ n f) (j : Nat) : q0V (nF c n f) (c ^ n) (fun _ => true) j = c ^ (lens (pw f n j) n).length := by
 unfold q0V;rw [<- q7K (qSN hf j) c, <- q9G hc];refine zH _ fun k hk => ?_
 rw [zTR, qU8 hc hn hf hk]
theorem q7A (hc : 0 < c) (hn : 0 < n) (hf : zIJ n f) (hb : b.length = c) (j : Nat) : ((q0V (nF c n f) (c ^ n) (fun k => kL c n (dg c n k) b) j : Nat) : Int) = wW false (asZ (lens (pw f n j) n)) b := by
 rw [<- q4D (qSN hf j) hb, <- q9G hc]
 congr 1
 unfold q0V;refine zH _ fun k hk => ?_
 rw [qU8 hc hn hf hk, Bool.and_comm]
theorem qX8 (hc : 0 < c) (hn : 0 < n) (hf : zIJ n f) (hh : ∀ i, i < n -> itp f h i = i) (hk : k < c ^ n) : cyc (nF c n f) (c ^ n) k ∣ h := by
 refine (rY (sD hc hn hf) hk h).1 ?_;have hfix := qU8 hc hn hf hk h;have : q5D (pw f n h) n (dg c n k) = true := qAO.2 fun i hi => by rw [zA7 hi, hh i hi]
 rw [this] at hfix;simpa using hfix
theorem qNU (hc : 0 < c) (hn : 0 < n) (hf : zIJ n f) (hh : ∀ i, i < n -> itp f h i = i) : sg (fun j => c ^ (lens (pw f n j) n).length) h = h * qWH (nF c n f) (c ^ n) (fun _ => true) := by
 rw [<- qQF (sD hc hn hf) (fun _ _ => rfl) fun x hx => qX8 hc hn hf hh hx];exact zH h fun j _ => (q87 hc hn hf j).symm
theorem qNE (hc : 0 < c) (hn : 0 < n) (hf : zIJ n f) (hh : ∀ i, i < n -> itp f h i = i) (b : List Int) : sg (q0V (nF c n f) (c ^ n) fun k => kL c n (dg c n k) b) h = h * qWH (nF c n f) (c ^ n) fun k => kL c n (dg c n k) b :=
 qQF (sD hc hn hf) (fun x hx => by rw [qYB hc hf hx, qCU hf]) fun x hx => qX8 hc hn hf hh hx
theorem q6G (hc : 0 < c) (hn : 0 < n) (hf : zIJ n f) (hx : x.length = n) (hr : inR c x) (hb : kL c n x b = true) : 1 <= qWH (nF c n f) (c ^ n) fun k => kL c n (dg c n k) b := by
 have hl := qM1 hc x hr;rw [hx] at hl;have hd := qSO hc x hr;rw [hx] at hd;obtain ⟨r, t, h1, h2, h3⟩ := qP1 (sD hc hn hf) (eD c x + 1) (eD c x) (by omega) hl
 have hB : ∀ t, kL c n (dg c n (itp (nF c n f) t r)) b = kL c n (dg c n r) b := fun t => by
  induction t with
  | zero => rfl
  | succ t ih => rw [xD, qYB hc hf (yU (sD hc hn hf) t h1), qCU hf, ih]
 have hbr : kL c n (dg c n r) b = true := by rw [<- hB t, h3, hd]; exact hb
 unfold qWH;have e : b2 (rep (nF c n f) (c ^ n) r && kL c n (dg c n r) b) = 1 := by rw [h2, hbr]; rfl
 have := q9J (f := fun r => b2 (rep (nF c n f) (c ^ n) r && kL c n (dg c n r) b)) (c ^ n) h1;simp only [e] at this;exact this
end
theorem zAA [Decidable p] (h : p) : b2 (decide p) = 1 := by rw [decide_eq_true h]; rfl
theorem q9Z [Decidable p] (h : ¬ p) : b2 (decide p) = 0 := by rw [decide_eq_false h]; rfl
def ld (c : Nat) : Nat -> Nat -> List Int
 | 0, _ => []
 | m + 1, k => ((k % c : Nat) : Int) :: ld c m (k / c)
def qIT : Int -> List Int -> Bool
 | _, [] => true
 | a, z :: l => decide (a <= z) && qIT z l
theorem q5Z (c : Nat) : ∀ m k, (ld c m k).length = m
 | 0, _ => rfl
 | m + 1, k => by simp [ld, q5Z c m]
theorem zA3 {c : Nat} (hc : 0 < c) : ∀ m k, inR c (ld c m k)
 | 0, _ => fun z hz => by cases hz
 | m + 1, k => fun z hz => by
   rcases zQ2.1 hz with rfl | hz
   ·have := zSZ k hc;exact ⟨zVI _, Int.ofNat_lt.2 this⟩
   ·exact zA3 hc m _ z hz
theorem zCU {c : Nat} (hc : 0 < c) : ∀ (m : Nat) (φ : List Int -> Nat), sg (fun k => φ (ld c m k)) (c ^ m) = sl c m φ
 | 0, φ => by
   show 0 + φ [] = φ [];omega
 | m + 1, φ => by
   rw [zSW, qGL, rJ];refine zH c fun z hz => ?_
   rw [<- zCU hc m];refine zH _ fun q hq => ?_
   have e1 : (q * c + z) % c = z := by rw [zR1, Nat.mul_add_mod, zTM hz]
   have e2 : (q * c + z) / c = q := by rw [zR1, Nat.mul_add_div hc, Nat.div_eq_of_lt hz, zR7]
   show φ (((q * c + z) % c : Nat) :: ld c m ((q * c + z) / c)) = _;rw [e1, e2]
theorem dI (m : Nat) (z : Int) (l : List Int) (a : Nat) : qFY (m + 1) (z :: l) a = b2 (decide (z = (a : Int))) + qFY m l a := by
 unfold qFY;rw [qGJ];rfl
theorem q43 {c : Nat} : ∀ (m : Nat) (a : Int) (l : List Int), l.length = m -> qIT a l = true -> ∀ i : Nat, (i : Int) < a -> qFY m l i = 0
 | 0, a, l, hl, h, i, hi => rfl
 | m + 1, a, [], hl, h, i, hi => by cases hl
 | m + 1, a, z :: l, hl, h, i, hi => by
   unfold qIT at h;rw [zQM, decide_eq_true_eq] at h;rw [dI, q43 (c := c) m z l (by simpa using hl) h.2 i (by omega)];rw [q9Z (show ¬ (z = (i : Int)) by omega)]
theorem asc_one {c : Nat} : ∀ (m a : Nat) (b : List Int), b.length = c -> (∀ i, i < a -> b.getD i 0 = 0) -> (∀ x ∈ b, 0 <= x) -> b.sum = (m : Int) -> sl c m (fun l => b2 (qIT (a : Int) l && kL c m l b)) = 1
 | 0, a, b, hb, hz, hp, hs => by
   show b2 (true && kL c 0 [] b) = 1;have h0 := qFT hp (by simpa using hs)
   have : kL c 0 [] b = true := vE.2 fun i hi => by
    have := h0 _ (gY (l := b) (i := i) (by omega));rw [this]; rfl
   rw [this]; rfl
 | m + 1, a, b, hb, hz, hp, hs => by
   -- the least colour that is left
   have hex : ∃ i, i < c ∧ 0 < b.getD i 0 := by
    refine Classical.byContradiction fun hn => ?_
    have hall : ∀ x ∈ b, x = 0 := fun x hx => by
     obtain ⟨i, hi⟩ := zU9 hx;have hil := (zQQ.1 hi).1;have h1 := hp x hx;have h2 : b.getD i 0 = x := by simp [List.getD, hi]
     refine Classical.byContradiction fun hne => hn ⟨i, by omega, by omega⟩
    have : b.sum = 0 := by
     clear hs hz hp hb hn
     induction b with
     | nil => rfl
     | cons x b ih =>
       rw [zSO, hall x zQT, ih fun y hy => hall y (zQS _ hy)];rfl
    omega
   obtain ⟨i1, hi1, hi2⟩ := hex;obtain ⟨a1, a2, a3, a4⟩ := fV (p := fun i => decide (0 < b.getD i 0)) c 0 ⟨i1, by omega, by omega, decide_eq_true hi2⟩;generalize dW (fun i => decide (0 < b.getD i 0)) c 0 = z at a1 a2 a3 a4;have hz0 : 0 < b.getD z 0 := by simpa using a1
   have hzl : ∀ i, i < z -> b.getD i 0 = 0 := fun i hi => by
    have h1 := a4 i (by omega) hi;have h2 : ¬ 0 < b.getD i 0 := by simpa using h1
    by_cases hic : i < b.length
    ·have := hp _ (gY hic);omega
    ·simp [List.getD, zQX (zUZ hic)]
   have hzc : z < c := by
    refine Classical.byContradiction fun hn => ?_
    have : b.getD z 0 = 0 := by simp [List.getD, zQX (show b.length <= z by omega)]
    omega
   have haz : a <= z := by
    refine Classical.byContradiction fun hn => ?_
    have := hz z (by omega);omega
   show sg (fun y => sl c m fun l => b2 (qIT (a : Int) ((y : Int) :: l) && kL c (m + 1) ((y : Int) :: l) b)) c = 1;rw [sH (z := z) hzc fun y hy hne => ?_]
   ·refine Eq.trans ?_ (asc_one (c := c) m z (b.set z (b.getD z 0 - 1)) (by rw [zRH]; exact hb) (fun i hi => by
     rw [vW (by omega), if_neg (by omega)]; exact hzl i hi) (fun x hx => by
     rcases zSB hx with q | rfl
     ·exact hp x q
     ·omega) (by rw [qNB _ (by omega), hs]; omega))
    refine kH m fun l hl hr => ?_
    have e1 : qIT (a : Int) ((z : Int) :: l) = qIT (z : Int) l := by
     show (decide ((a : Int) <= (z : Int)) && qIT (z : Int) l) = _;rw [decide_eq_true (by omega), zTR]
    rw [e1]
    congr 2
    rw [zSP, vE, vE];constructor
    ·intro h i hi;have h1 := h i hi;rw [dI] at h1;rw [vW (by omega)];by_cases e : i = z
     ·subst e;rw [zAA rfl] at h1;rw [if_pos rfl];omega
     ·rw [if_neg e, h1, q9Z (show ¬ ((z : Int) = (i : Int)) by omega), zRK]
    ·intro h i hi;have h1 := h i hi;rw [vW (by omega)] at h1;rw [dI];by_cases e : i = z
     ·subst e;rw [if_pos rfl] at h1;rw [zAA rfl];omega
     ·rw [if_neg e] at h1;rw [h1, q9Z (show ¬ ((z : Int) = (i : Int)) by omega), zRK]
   ·rw [<- qHU (c := c) m];refine kH m fun l hl hr => ?_
    have : (qIT (a : Int) ((y : Int) :: l) && kL c (m + 1) ((y : Int) :: l) b) = false := by
     cases hq : (qIT (a : Int) ((y : Int) :: l) && kL c (m + 1) ((y : Int) :: l) b) with
     | false => rfl
     | true =>
       exfalso;rw [zQM] at hq;obtain ⟨q1, q2⟩ := hq;have q1 : (decide ((a : Int) <= (y : Int)) && qIT (y : Int) l) = true := q1;rw [zQM] at q1;have q3 := vE.1 q2;have hyb := q3 y hy;rw [dI] at hyb;rw [zAA rfl] at hyb;rcases zR9 y z with hlt | hge
       ·have := hzl y hlt;omega
       ·have hzb := q3 z hzc;have hzy : z < y := by omega
        rw [dI, q43 (c := c) m (y : Int) l hl q1.2 z (by omega), q9Z (show ¬ ((y : Int) = (z : Int)) by omega)] at hzb;omega
    rw [this]; rfl
end Go.Proofs.YtjgfemghlhmlbaaGreatDoor
