/- Runs told by plain values, part one. Conditions: none. -/
import Derived.Test.YtpdlblofcdcikaaGreatDoorIdlI
set_option linter.all false
namespace Go.Idl
variable {P : Program}
variable {H H' : IH} {Z Z' : Nat -> Prop} {b n o : Nat} {v : Value} {vs ws : List Value}
inductive FV where
 | v (x : Value)
 | l (el : TypeId) (n : Nat) (cs : List FV)
inductive PV where
 | f (x : FV)
 | agg (cs : List PV)
 | tup (cs : List PV)
 | own (k t o n : Nat)
 | ref (k t off : Nat)
 | lp (cs : List FV) (off : Nat)
 | fn (g : FuncId) (first cap : List PV)
 | yl (l : Nat)
 | unk
 | mp (k : Nat)
structure PO where
 el : TypeId
 gr : Bool
 cs : List PV
abbrev PHp := List (Nat × PO)
def qE (k : Nat) : PHp -> Option PO
 | [] => none
 | (j, o) :: l => cond (k == j) (some o) (qE k l)
def fK (k : Nat) (o : PO) : PHp -> PHp
 | [] => []
 | (j, p) :: l => cond (k == j) ((j, o) :: l) ((j, p) :: fK k o l)
def qES (k : Nat) : PHp -> PHp
 | [] => []
 | (j, p) :: l => cond (k == j) (qES k l) ((j, p) :: qES k l)
inductive FR (Z : Nat -> Prop) (H : IH) : FV -> Value -> Prop
 | v {x : Value} (hp : xM x = true) (h1 : oneCell x = true) : FR Z H (.v x) x
 | nil {el : TypeId} {a : Option Addr} {c : Nat} (h0 : a = none -> c = 0) (hs : ∀ x, a = some x -> x.spot = none ∨ x.spot = some el) : FR Z H (.l el 0 []) (.slice a 0 c)
 | l {el : TypeId} {n : Nat} {cs : List FV} {b o : Nat} {sp : Option TypeId} {c : Nat} {vs : List Value} (hz : Z b) (hb : b < H.size) (hn : n <= c) (hs : sp = none ∨ sp = some el)
    (hl : H.loads b o cs.length = some vs) (hc : ∀ (i : Nat) x v, cs[i]? = some x -> vs[i]? = some v -> FR Z H x v) : FR Z H (.l el n cs) (.slice (some ⟨b, o, sp⟩) n c)
theorem xN (h : H.loads b o n = some vs) : vs.length = n := by
 unfold IH.loads at h;split at h
 ·split at h
  ·cases h; simp; omega
  ·cases h
 ·cases h
theorem qJA (h : H'.get b = H.get b) : H'.loads b o n = H.loads b o n := by
 unfold IH.loads; rw [h]
theorem jR {c : List Value} {el : TypeId} {fz : Nat × Nat} (h : H.get b = some (.cells c.toArray el fz)) (hn : o + n <= c.length) (hv : (c.drop o).take n = vs) : H.loads b o n = some vs := by
 unfold IH.loads; rw [h]; simp [hn, hv]
theorem FR.mono {x : FV} (h : FR Z H x v) (hz : ∀ b, Z b -> Z' b) (hs : H.size <= H'.size) (hg : ∀ b, Z b -> b < H.size -> H'.get b = H.get b) : FR Z' H' x v := by
 induction h with
 | v hp h1 => exact .v hp h1
 | nil h0 hs => exact .nil h0 hs
 | l hZ hb hn hsp hl hc ih => exact .l (hz _ hZ) (Nat.lt_of_lt_of_le hb hs) hn hsp (by rw [qJA (hg _ hZ hb)]; exact hl) ih
theorem FR.one {x : FV} (h : FR Z H x v) : oneCell v = true := by
 cases h with
 | v hp h1 => exact h1
 | nil => rfl
 | l => rfl
def spec (P : Program) (el : TypeId) : Bool := (szT P el).isNone
def qQB (es : List MapEntry) : List PV := List.flatMap (fun e => [.f (.v e.key), .f (.v e.val), .f (.v (.int .i64 e.born))]) es
def q06 (H : IH) (b : Nat) (ob : PO) : Prop :=
 (ob.el = 1000000000 ∧ ob.gr = false ∧ ∃ s, ∃ pos : Nat, H.get b = some (.stringIter s pos) ∧ ob.cs = [.f (.v (.string s)), .f (.v (.int .i64 pos))]) ∨
 (ob.el = 1000000001 ∧ ob.gr = false ∧ ∃ es, ∃ clk : Nat, H.get b = some (.map es clk) ∧ ob.cs = .f (.v (.int .i64 clk)) :: qQB es.toList)
def q3Z (sz b : Nat) (ob : PO) (t o n : Nat) (v : Value) : Prop :=
 (ob.gr = true ∧ t = 0 ∧ o = 0 ∧ n = 0 ∧ v = .slice none 0 0) ∨ ((ob.gr = true -> t ≠ 0) ∧ o + n <= t ∧ (o = 0 ∨ o < t) ∧ v = .slice (some ⟨b, o * sz, cond ob.gr (some ob.el) none⟩) n (t - o))
inductive VR (P : Program) (Z : Nat -> Prop) (H : IH) (M : Nat -> Option (Nat × PO)) : PV -> Value -> Prop
 | f {x : FV} {v : Value} (h : FR Z H x v) : VR P Z H M (.f x) v
 | agg {cs : List PV} {vs : Array Value} (hl : cs.length = vs.size) (hc : ∀ (i : Nat) x v, cs[i]? = some x -> vs[i]? = some v -> VR P Z H M x v) : VR P Z H M (.agg cs) (.agg vs)
 | tup {cs : List PV} {vs : Array Value} (hl : cs.length = vs.size) (hc : ∀ (i : Nat) x v, cs[i]? = some x -> vs[i]? = some v -> VR P Z H M x v) : VR P Z H M (.tup cs) (.tuple vs)
 | own {k t o n : Nat} {v : Value} (h1 : oneCell v = true) (h : ∀ b ob, M k = some (b, ob) -> ∃ sz, szT P ob.el = some sz ∧ 0 < sz ∧ t * sz <= ob.cs.length ∧ (t * sz = ob.cs.length -> q3Z sz b ob t o n v)) : VR P Z H M (.own k t o n) v
 | ref {k t off : Nat} {v : Value} (h1 : oneCell v = true) (h : ∀ b ob, M k = some (b, ob) -> t <= ob.cs.length ∧ (t = ob.cs.length -> v = .pointer (some ⟨b, off, none⟩) ∧ (ob.gr = true -> t ≠ 0))) : VR P Z H M (.ref k t off) v
 | lp {cs : List FV} {off b o : Nat} {vs : List Value} (hz : Z b) (hb : b < H.size) (hl : H.loads b o cs.length = some vs) (hc : ∀ (i : Nat) x v, cs[i]? = some x -> vs[i]? = some v -> FR Z H x v) : VR P Z H M (.lp cs off) (.pointer (some ⟨b, o + off, none⟩))
 | fn {g : FuncId} {first cap : List PV} {fs cs : Array Value} (hf : first.length = fs.size) (hc : cap.length = cs.size) (hfc : ∀ (i : Nat) x v, first[i]? = some x -> fs[i]? = some v -> VR P Z H M x v) (hcc : ∀ (i : Nat) x v, cap[i]? = some x -> cs[i]? = some v -> VR P Z H M x v) :
    VR P Z H M (.fn g first cap) (.func (.func g) fs cs)
 | yl {l : Nat} : VR P Z H M (.yl l) (.func (.yield l) #[] #[])
 | unk {v : Value} : VR P Z H M .unk v
 | mp {k : Nat} {v : Value} (h1 : oneCell v = true) (h : ∀ b ob, M k = some (b, ob) -> ob.el = 1000000001 ∧ v = .map (some b)) : VR P Z H M (.mp k) v
mutual
def noK (k : Nat) : PV -> Bool
 | .f _ => true
 | .agg cs => xR k cs
 | .tup cs => xR k cs
 | .own j _ _ _ => !(k == j)
 | .ref j _ _ => !(k == j)
 | .lp _ _ => true
 | .fn _ a b => xR k a && xR k b
 | .yl _ => true
 | .unk => true
 | .mp j => !(k == j)
def xR (k : Nat) : List PV -> Bool
 | [] => true
 | x :: l => noK k x && xR k l
end
theorem uG {k : Nat} : ∀ {l : List PV} {i : Nat} {x : PV}, xR k l = true -> l[i]? = some x -> noK k x = true
 | y :: l, 0, x, h, e => by simp only [xR, Bool.and_eq_true] at h; simp at e; subst e; exact h.1
 | y :: l, i + 1, x, h, e => by simp only [xR, Bool.and_eq_true] at h; exact uG h.2 (by simpa using e)
def KR (p : Nat -> Bool) (M M' : Nat -> Option (Nat × PO)) : Prop := ∀ k b' ob', M' k = some (b', ob') -> (∃ ob, M k = some (b', ob) ∧ ob.cs.length = ob'.cs.length ∧ ob.el = ob'.el ∧ ob.gr = ob'.gr) ∨
 (∃ b ob, M k = some (b, ob) ∧ ob.cs.length < ob'.cs.length ∧ ob.el = ob'.el ∧ (Nat.ble 1000000000 ob.el = true -> b = b')) ∨ p k = true
theorem KR.refl (p : Nat -> Bool) (M : Nat -> Option (Nat × PO)) : KR p M M := fun k b' ob' h => .inl ⟨ob', h, rfl, rfl, rfl⟩
theorem VR.mono {Z Z' : Nat -> Prop} {H H' : IH} {M M' : Nat -> Option (Nat × PO)} {p : Nat -> Bool} (hz : ∀ b, Z b -> Z' b) (hs : H.size <= H'.size) (hg : ∀ b, Z b -> b < H.size -> H'.get b = H.get b) (hk : KR p M M') {x : PV} {v : Value} (h : VR P Z H M x v) :
 (∀ k, p k = true -> noK k x = true) -> VR P Z' H' M' x v := by
 induction h with
 | f h => exact fun _ => .f (h.mono hz hs hg)
 | agg hl hc ih => exact fun hn => .agg hl fun i x v h1 h2 => ih i x v h1 h2 fun k hp => uG (by have := hn k hp; simpa [noK] using this) h1
 | tup hl hc ih => exact fun hn => .tup hl fun i x v h1 h2 => ih i x v h1 h2 fun k hp => uG (by have := hn k hp; simpa [noK] using this) h1
 | @own k t o n v h1 h =>
   refine fun hn => .own h1 fun b ob hM => ?_
   rcases hk k b ob hM with ⟨ob0, h0, h1, h2, h3⟩ | ⟨b0, ob0, h0, h1, h2, h2b⟩ | hp
   ·obtain ⟨sz, q1, q2, q3, q4⟩ := h b ob0 h0;refine ⟨sz, by rw [<- h2]; exact q1, q2, by omega, fun e => ?_⟩;have := q4 (by omega);unfold q3Z at this ⊢;rw [h2, h3] at this;exact this
   ·obtain ⟨sz, q1, q2, q3, q4⟩ := h b0 ob0 h0;exact ⟨sz, by rw [<- h2]; exact q1, q2, by omega, fun e => by omega⟩
   ·have := hn k hp;simp [noK] at this
 | @ref k t off v h1 h =>
   refine fun hn => .ref h1 fun b ob hM => ?_
   rcases hk k b ob hM with ⟨ob0, h0, h1, h2, h3⟩ | ⟨b0, ob0, h0, h1, h2, h2b⟩ | hp
   ·obtain ⟨q1, q2⟩ := h b ob0 h0;refine ⟨by omega, fun e => ?_⟩;obtain ⟨q3, q4⟩ := q2 (by omega);exact ⟨q3, fun h => q4 (by rw [h3]; exact h)⟩
   ·obtain ⟨q1, q2⟩ := h b0 ob0 h0;exact ⟨by omega, fun e => by omega⟩
   ·have := hn k hp;simp [noK] at this
 | lp hZ hb hl hc => exact fun _ => .lp (hz _ hZ) (Nat.lt_of_lt_of_le hb hs) (by rw [qJA (hg _ hZ hb)]; exact hl) fun i x v h1 h2 => (hc i x v h1 h2).mono hz hs hg
 | fn hf hc hfc hcc i1 i2 =>
   refine fun hn => .fn hf hc (fun i x v h1 h2 => i1 i x v h1 h2 fun k hp => uG ?_ h1) (fun i x v h1 h2 => i2 i x v h1 h2 fun k hp => uG ?_ h1)
   ·have := hn k hp; simp only [noK, Bool.and_eq_true] at this; exact this.1
   ·have := hn k hp; simp only [noK, Bool.and_eq_true] at this; exact this.2
 | yl => exact fun _ => .yl
 | unk => exact fun _ => .unk
 | @mp k v h1 h =>
   refine fun hn => .mp h1 fun b ob hM => ?_
   rcases hk k b ob hM with ⟨ob0, h0, h1, h2, h3⟩ | ⟨b0, ob0, h0, h1, h2, h2b⟩ | hp
   ·obtain ⟨q1, q2⟩ := h b ob0 h0;exact ⟨by rw [<- h2]; exact q1, q2⟩
   ·obtain ⟨q1, q2⟩ := h b0 ob0 h0;have := h2b (by rw [q1]; rfl);exact ⟨by rw [<- h2]; exact q1, by rw [<- this]; exact q2⟩
   ·have := hn k hp;simp [noK] at this
structure VRL (P : Program) (Z : Nat -> Prop) (H : IH) (M : Nat -> Option (Nat × PO)) (xs : List PV) (vs : List Value) : Prop where
 len : xs.length = vs.length
 val : ∀ (i : Nat) x v, xs[i]? = some x -> vs[i]? = some v -> VR P Z H M x v
theorem VRL.nil {M : Nat -> Option (Nat × PO)} : VRL P Z H M [] [] := ⟨rfl, fun i x v h => by simp at h⟩
theorem VRL.cons {M : Nat -> Option (Nat × PO)} {x : PV} {xs : List PV} (h : VR P Z H M x v) (t : VRL P Z H M xs vs) : VRL P Z H M (x :: xs) (v :: vs) :=
 ⟨by simp [t.len], fun i y u h1 h2 => by
   cases i with
   | zero => simp at h1 h2; subst h1 h2; exact h
   | succ i => exact t.val i y u (by simpa using h1) (by simpa using h2)⟩
theorem VRL.uncons {M : Nat -> Option (Nat × PO)} {x : PV} {xs : List PV} (h : VRL P Z H M (x :: xs) ws) : ∃ v vs, ws = v :: vs ∧ VR P Z H M x v ∧ VRL P Z H M xs vs := by
 cases ws with
 | nil => have := h.len; simp at this
 | cons v vs => exact ⟨v, vs, rfl, h.val 0 x v rfl rfl, by have := h.len; simpa using this, fun i y u h1 h2 => h.val (i + 1) y u (by simpa using h1) (by simpa using h2)⟩
theorem VRL.nil_left {M : Nat -> Option (Nat × PO)} (h : VRL P Z H M [] ws) : ws = [] := by
 cases ws with
 | nil => rfl
 | cons v vs => have := h.len; simp at this
theorem VRL.mono {Z Z' : Nat -> Prop} {H H' : IH} {M M' : Nat -> Option (Nat × PO)} {p : Nat -> Bool} (hz : ∀ b, Z b -> Z' b) (hs : H.size <= H'.size) (hg : ∀ b, Z b -> b < H.size -> H'.get b = H.get b) (hk : KR p M M') {xs : List PV} {vs : List Value} (h : VRL P Z H M xs vs)
 (hn : ∀ k, p k = true -> xR k xs = true) : VRL P Z' H' M' xs vs := ⟨h.len, fun i x v h1 h2 => (h.val i x v h1 h2).mono hz hs hg hk fun k hp => uG (hn k hp) h1⟩
theorem VRL.append {M : Nat -> Option (Nat × PO)} {xs ys : List PV} (a : VRL P Z H M xs vs) (b : VRL P Z H M ys ws) : VRL P Z H M (xs ++ ys) (vs ++ ws) := by
 refine ⟨by simp [a.len, b.len], fun i x v h1 h2 => ?_⟩;by_cases hi : i < xs.length
 ·rw [List.getElem?_append_left hi] at h1;rw [List.getElem?_append_left (by rw [<- a.len]; exact hi)] at h2;exact a.val i x v h1 h2
 ·rw [List.getElem?_append_right (by omega)] at h1;rw [List.getElem?_append_right (by rw [<- a.len]; omega), <- a.len] at h2;exact b.val _ x v h1 h2
theorem VRL.take {M : Nat -> Option (Nat × PO)} {xs : List PV} (a : VRL P Z H M xs vs) (n : Nat) : VRL P Z H M (xs.take n) (vs.take n) := by
 refine ⟨by simp [a.len], fun i x v h1 h2 => ?_⟩;rw [List.getElem?_take] at h1 h2;split at h1
 ·rename_i hi; rw [if_pos hi] at h2; exact a.val i x v h1 h2
 ·cases h1
theorem VRL.drop {M : Nat -> Option (Nat × PO)} {xs : List PV} (a : VRL P Z H M xs vs) (n : Nat) : VRL P Z H M (xs.drop n) (vs.drop n) := by
 refine ⟨by simp [a.len], fun i x v h1 h2 => ?_⟩;rw [List.getElem?_drop] at h1 h2;exact a.val _ x v h1 h2
theorem VRL.get {M : Nat -> Option (Nat × PO)} {xs : List PV} (a : VRL P Z H M xs vs) {i : Nat} {x : PV} (h : xs[i]? = some x) : ∃ v, vs[i]? = some v ∧ VR P Z H M x v := by
 have hlt := (List.getElem?_eq_some_iff.1 h).1;have hlt' : i < vs.length := by rw [<- a.len]; exact hlt
 exact ⟨vs[i], List.getElem?_eq_getElem hlt', a.val i x _ h (List.getElem?_eq_getElem hlt')⟩
theorem VRL.set {M : Nat -> Option (Nat × PO)} {xs : List PV} (a : VRL P Z H M xs vs) {x : PV} (h : VR P Z H M x v) (n : Nat) : VRL P Z H M (xs.set n x) (vs.set n v) := by
 refine ⟨by simp [a.len], fun i y u h1 h2 => ?_⟩;rw [List.getElem?_set] at h1 h2;by_cases hi : n = i
 ·subst hi;simp only [if_true] at h1 h2;by_cases hl : n < xs.length
  ·rw [if_pos hl] at h1;rw [if_pos (by rw [<- a.len]; exact hl)] at h2;cases h1; cases h2; exact h
  ·rw [if_neg hl] at h1; cases h1
 ·rw [if_neg hi] at h1 h2;exact a.val i y u h1 h2
def Lay (P : Program) (Z : Nat -> Prop) (H : IH) (M : Nat -> Option (Nat × PO)) (b : Nat) (ob : PO) : Prop :=
 (spec P ob.el = false ∧ ∃ vs, H.get b = some (.cells vs.toArray ob.el (cond ob.gr qV (0, 0))) ∧ VRL P Z H M ob.cs vs ∧ vs.all oneCell = true) ∨ (spec P ob.el = true ∧ q06 H b ob)
theorem Lay.mono {M M' : Nat -> Option (Nat × PO)} {ob : PO} (h : Lay P Z H M b ob) (hg : H'.get b = H.get b) (hm : ∀ vs, VRL P Z H M ob.cs vs -> VRL P Z' H' M' ob.cs vs) : Lay P Z' H' M' b ob := by
 rcases h with ⟨h1, vs, h2, h3, h4⟩ | ⟨h1, h2⟩
 ·exact .inl ⟨h1, vs, hg.trans h2, hm vs h3, h4⟩
 ·refine .inr ⟨h1, ?_⟩;unfold q06 at h2 ⊢;rw [hg]; exact h2
class Gc where
 gc : Nat -> Option Obj
def q1P [Gc] (Z : Nat -> Prop) (H : IH) : Prop := ∀ g o, Gc.gc g = some o -> Z g ∧ H.get g = some o
def GlH [Gc] (H : IH) : Prop := ∀ g o, Gc.gc g = some o -> g < H.size ∧ H.get g = some o
theorem q1P.h [Gc] {Z : Nat -> Prop} {H : IH} (h : q1P Z H) (hl : ∀ b, Z b -> b < H.size) : GlH H := fun g o e => ⟨hl g (h g o e).1, (h g o e).2⟩
def q6M [Gc] (b : Nat) : Prop := ∃ o, Gc.gc b = some o
theorem q1P.mono [Gc] (h : q1P Z H) (hl : ∀ b, Z b -> b < H.size) (hz : ∀ b, Z b -> Z' b) (hg : ∀ b, Z b -> b < H.size -> H'.get b = H.get b) : q1P Z' H' := fun g o hh => by
 obtain ⟨a, b⟩ := h g o hh;exact ⟨hz g a, (hg g a (hl g a)).trans b⟩
structure Hp [Gc] (P : Program) (Z : Nat -> Prop) (H : IH) (M : Nat -> Option (Nat × PO)) : Prop where
 zlt : ∀ b, Z b -> b < H.size
 obj : ∀ k b ob, M k = some (b, ob) -> (ob.gr = true ∧ ob.cs = []) ∨ (b < H.size ∧ H.base <= b ∧ ¬ Z b ∧ Lay P Z H M b ob)
 inj : ∀ k k' b b' ob ob', M k = some (b, ob) -> M k' = some (b', ob') -> ¬ (ob.gr = true ∧ ob.cs = []) -> ¬ (ob'.gr = true ∧ ob'.cs = []) -> k ≠ k' -> b ≠ b'
 gl : q1P Z H
def cO (M : Nat -> Option (Nat × PO)) (b : Nat) : Prop := ∃ k ob, M k = some (b, ob) ∧ ¬ (ob.gr = true ∧ ob.cs = [])
structure Step (Z : Nat -> Prop) (H : IH) (M : Nat -> Option (Nat × PO)) (Z' : Nat -> Prop) (H' : IH) (M' : Nat -> Option (Nat × PO)) : Prop where
 size : H.size <= H'.size
 base : H'.base = H.base
 zle : ∀ b, Z b -> Z' b
 keep : ∀ b, b < H.size -> ¬ cO M b -> H'.get b = H.get b
 znew : ∀ b, Z' b -> b < H.size -> Z b ∨ cO M b
 onew : ∀ b, cO M' b -> b < H.size -> cO M b
theorem Step.refl (Z : Nat -> Prop) (H : IH) (M : Nat -> Option (Nat × PO)) : Step Z H M Z H M := ⟨Nat.le_refl _, rfl, fun _ h => h, fun _ _ _ => rfl, fun _ h _ => .inl h, fun _ h _ => h⟩
theorem Step.trans {Z Z1 Z2 : Nat -> Prop} {H H1 H2 : IH} {M M1 M2 : Nat -> Option (Nat × PO)} (a : Step Z H M Z1 H1 M1) (b : Step Z1 H1 M1 Z2 H2 M2) : Step Z H M Z2 H2 M2 := by
 refine ⟨Nat.le_trans a.size b.size, b.base.trans a.base, fun x h => b.zle x (a.zle x h), fun x hx hn => ?_, fun x h hx => ?_, fun x h hx => a.onew x (b.onew x h (Nat.lt_of_lt_of_le hx a.size)) hx⟩
 ·exact (b.keep x (Nat.lt_of_lt_of_le hx a.size) fun h => hn (a.onew x h hx)).trans (a.keep x hx hn)
 ·rcases b.znew x h (Nat.lt_of_lt_of_le hx a.size) with h | h
  ·exact a.znew x h hx
  ·exact .inr (a.onew x h hx)
theorem Hp.zkeep [Gc] {M M' : Nat -> Option (Nat × PO)} (h : Hp P Z H M) (s : Step Z H M Z' H' M') : ∀ b, Z b -> b < H.size -> H'.get b = H.get b := fun b hz hb => s.keep b hb fun ⟨k, ob, h1, h2⟩ => by
 rcases h.obj k b ob h1 with h3 | ⟨_, _, h3, _⟩
 ·exact h2 h3
 ·exact h3 hz
end Go.Idl
namespace Go.Idl
noncomputable section
variable [Gc]
variable {P : Program}
def fvv (v : Value) : PV := .f (.v v)
def okC (v : Value) : Bool := xM v && oneCell v
def q72 (v : Value) : PV := cond (okC v) (fvv v) .unk
def ofC : Value -> PV
 | .agg cs => cond (vQ okC cs.toList) (.agg (kZ fvv cs.toList)) .unk
 | .tuple cs => cond (vQ okC cs.toList) (.tup (kZ fvv cs.toList)) .unk
 | v => q72 v
def qP (env : List PV) : Operand -> PV
 | .tmp t => (z8 env t).getD .unk
 | .const v => ofC v
 | .global _ => .unk
 | .func g => fvv (.func (.func g) #[] #[])
def xE (env : List PV) (d : Option Tmp) (v : PV) : List PV :=
 match d with
 | some t => kN env t v
 | none => env
def pl1 : PV -> Option Value
 | .f (.v x) => some x
 | _ => none
def qTY : List PV -> Option (List Value)
 | [] => some []
 | x :: l => match pl1 x with
   | some v => (match qTY l with
     | some vs => some (v :: vs)
     | none => none)
   | none => none
def pl : PV -> Option Value
 | .f (.v x) => some x
 | .agg cs => (match qTY cs with
   | some vs => some (.agg vs.toArray)
   | none => none)
 | _ => none
def plL : List PV -> Option (List Value)
 | [] => some []
 | x :: l => match pl x with
   | some v => (match plL l with
     | some vs => some (v :: vs)
     | none => none)
   | none => none
def H00 : IH := ⟨.nil, 0, 0, []⟩
def cop (op : Op) (ty : TypeId := 0) : Oper := ⟨none, op, ty, "", #[], none⟩
def q60 : Value -> Bool
 | .nilIface => true
 | _ => false
def qRK : Option Step1 -> Option PV
 | some (.val v _) => some (ofC v)
 | _ => none
def qLT (P : Program) (op : Op) (ty : TypeId := 0) : Option PV := qRK (kS P (cop op ty) [] H00)
def eP : PV -> Bool
 | .agg _ | .tup _ | .yl _ | .unk => false
 | _ => true
def pnt : PV -> Bool
 | .tup _ | .yl _ | .unk => false
 | _ => true
def zX : PV -> List PV
 | .agg cs => cs
 | v => [v]
def kV (l : List PV) (i : Nat) (vs : List PV) : List PV := l.take i ++ vs ++ l.drop (i + vs.length)
def xH (P : Program) (t : TypeId) : Option TypeId := match P.underlying t with
 | some (.slice el) => some el
 | _ => none
def qSU (P : Program) (t : TypeId) : Option (Nat × TypeId) := match P.underlying t with
 | some (.array n el) => some (n, el)
 | _ => none
def q5S (P : Program) (t : TypeId) (i : Nat) : Option (Nat × TypeId) := match P.underlying t with
 | some (.struct fields) => (match fields[i]? with
   | some f => some (f.offset, f.type)
   | none => none)
 | _ => none
def zc (P : Program) (t : TypeId) : Option (List PV) := match pK P t with
 | some z => cond (vQ okC z.cells.toList) (some (kZ fvv z.cells.toList)) none
 | none => none
def qU1 (P : Program) (t : TypeId) (i : Nat) : Option (Nat × Nat) := match P.underlying t with
 | some (.struct fields) => (match fields[i]? with
   | some f => (szT P f.type).map fun s => (f.offset, s)
   | none => none)
 | some (.array _ el) => (szT P el).map fun s => (i * s, s)
 | _ => none
def qAS (P : Program) (t : TypeId) : Bool := match P.underlying t with
 | some (.struct fields) => (fields.toList.mapM (fun f => (szT P f.type).map fun s => (f.offset, s))).isSome
 | some (.array _ el) => (szT P el).isSome
 | _ => false
def wS (P : Program) (el : TypeId) : Bool := match P.info? el with
 | some i => !(Nat.ble 1000000000 el) && (decide (i.bytes <= 4096) && (match uJ P el with
   | some z => Nat.beq z.cells.size i.size
   | none => false))
 | none => false
def oI (P : Program) (t : TypeId) (cs : List PV) (off : Nat) : Option PV := match qPZ P t with
 | some true => (match szT P t with
   | some n => cond (Nat.ble (off + n) cs.length) (some (.agg ((cs.drop off).take n))) none
   | none => none)
 | some false => z8 cs off
 | none => none
def qLO (P : Program) (t : TypeId) (cs : List FV) (off : Nat) : Option PV := match qPZ P t with
 | some true => (match szT P t with
   | some n => cond (Nat.ble (off + n) cs.length) (some (.agg (((cs.drop off).take n).map .f))) none
   | none => none)
 | some false => (match cs[off]? with
   | some x => some (.f x)
   | none => none)
 | none => none
def nE (P : Program) (t : TypeId) (a : PV) (ph : PHp) : Option PV := match a with
 | .ref k tt off => (match qE k ph with
   | some ob => cond (spec P ob.el) none (cond (Nat.beq tt ob.cs.length) (oI P t ob.cs off) none)
   | none => none)
 | .lp cs off => qLO P t cs off
 | _ => none
def nY (P : Program) (t : TypeId) (a x : PV) (ph : PHp) : Option PHp := match a with
 | .ref k tt off => (match qE k ph with
   | some ob => (match szT P t with
     | some n => cond (spec P ob.el) none (cond (Nat.beq tt ob.cs.length && (Nat.beq n (zX x).length && (Nat.ble (off + n) ob.cs.length && (pnt x && (zX x).all eP)))) (some (fK k { ob with cs := kV ob.cs off (zX x) } ph)) none)
     | none => none)
   | none => none)
 | _ => none
def qJ5 (place : Nat -> Option (Nat × Nat)) : List PV -> List (Nat × PV) -> Option (List PV)
 | cells, [] => some cells
 | cells, (i, v) :: rest => match place i with
   | some (off, size) => cond (Nat.beq (zX v).length size && (Nat.ble (off + size) cells.length && (pnt v && (zX v).all eP))) (qJ5 place (kV cells off (zX v)) rest) none
   | none => none
def qJQ (P : Program) (t : TypeId) (parts : List (Nat × PV)) : Option PV := match zc P t with
 | some z => cond (qAS P t) (match qJ5 (qU1 P t) z parts with
   | some cs => some (.agg cs)
   | none => none) none
 | none => none
def qHX (n : Nat) (z : List PV) : List PV := (List.replicate n z).flatten
def qQU (k : Nat) (ob : PO) (v : PV) (ph : PHp) : Option (PV × PHp) := some (v, (k, ob) :: ph)
def jV (P : Program) (t : TypeId) (len : Nat) (parts : List (Nat × PV)) (k : Nat) (ph : PHp) : Option (PV × PHp) := match xH P t with
 | some el => (match szT P el, zc P el with
   | some (s + 1), some z => cond (Nat.beq z.length (s + 1) && Nat.ble (len * (s + 1)) 65536) (match qJ5 (fun i => some (i * (s + 1), s + 1)) (qHX len z) parts with
     | some cs => qQU k ⟨el, false, cs⟩ (.own k len 0 len) ph
     | none => none) none
   | _, _ => none)
 | none => none
def mkN (n : Int) : Option Nat := if 0 <= n ∧ n <= 65536 then some n.toNat else none
def vW (P : Program) (t : TypeId) (l c : PV) (k : Nat) (ph : PHp) : Option (PV × PHp) := match xH P t, l, c with
 | some el, .f (.v (.int _ n)), .f (.v (.int _ m)) => cond (decide (n = m)) (match mkN n, szT P el, zc P el with
   | some n, some (s + 1), some z => cond (wS P el && Nat.beq z.length (s + 1)) (qQU k ⟨el, false, qHX n z⟩ (.own k n 0 n) ph) none
   | _, _, _ => none) none
 | _, _, _ => none
def qDB (P : Program) (el : TypeId) (k : Nat) (ph : PHp) : Option (PV × PHp) := match zc P el with
 | some z => cond (spec P el) none (qQU k ⟨el, false, z⟩ (.ref k z.length 0) ph)
 | none => none
def q5N (P : Program) (el : TypeId) (v : PV) (k : Nat) (ph : PHp) : Option (PV × PHp) :=
 cond (!(spec P el) && (pnt v && (zX v).all eP)) (qQU k ⟨el, false, zX v⟩ (.ref k (zX v).length 0) ph) none
def live? (k t : Nat) (ph : PHp) : Bool := match qE k ph with
 | some ob => Nat.beq t ob.cs.length
 | none => false
def yZ (v : PV) (ph : PHp) : Option PV := match v with
 | .ref k t off => cond (live? k t ph) (some v) none
 | .lp cs off => some v
 | .fn _ _ _ => some v
 | .f (.v (.func (.func g) a c)) => some v
 | _ => none
def j6 (fn : Fn) (first cap : List PV) : Option PV := match fn with
 | .func g => some (match first, cap with
   | [], [] => fvv (.func (.func g) #[] #[])
   | _, _ => .fn g first cap)
 | _ => none
def bnd (d most : Nat) : Option PV -> Option Nat
 | none => some d
 | some (.f (.v (.int _ i))) => if 0 <= i ∧ i <= (most : Int) then some i.toNat else none
 | some _ => none
def wX (P : Program) (t : TypeId) (x : PV) (lo hi : Option PV) (ph : PHp) : Option PV := match x with
 | .f (.l el n cs) => (match xH P t, szT P el, bnd n n hi with
   | some el', some s, some h => (match bnd 0 h lo with
     | some l => cond (Nat.beq el' el && Nat.beq (n * s) cs.length) (some (.f (cond (Nat.beq l h) (.l el 0 []) (.l el (h - l) ((cs.drop (l * s)).take ((h - l) * s)))))) none
     | none => none)
   | _, _, _ => none)
 | .f (.v (.slice none 0 0)) => (match xH P t, bnd 0 0 hi, bnd 0 0 lo with
   | some el, some _, some _ => cond ((szT P el).isSome) (some x) none
   | _, _, _ => none)
 | .own k tt o n => (match qE k ph with
   | some ob => (match xH P t, szT P ob.el, bnd n n hi with
     | some el', some s, some h => (match bnd 0 h lo with
       | some l => cond (Nat.beq el' ob.el && Nat.beq (tt * s) ob.cs.length) (some (cond (Nat.beq l 0) (.own k tt o h) (cond (Nat.beq l h) (.f (.l ob.el 0 [])) (.own k tt (o + l) (h - l))))) none
       | none => none)
     | _, _, _ => none)
   | none => none)
 | .ref k tt 0 => (match qE k ph with
   | some ob => (match qSU P t with
     | some (m, el) => (match szT P el, bnd m m hi with
       | some (s + 1), some h => (match bnd 0 h lo with
         | some l => cond (Nat.beq el ob.el && (Nat.beq tt ob.cs.length && (Nat.beq (m * (s + 1)) tt && !ob.gr))) (some (cond (Nat.beq l 0) (.own k m 0 h) (cond (Nat.beq l h) (.f (.l el 0 [])) (.own k m l (h - l))))) none
         | none => none)
       | _, _ => none)
     | none => none)
   | none => none)
 | _ => none
def yG (P : Program) (t : TypeId) (x : PV) (i : Nat) (ph : PHp) : Option PV := match q5S P t i with
 | some (off, ft) => (match szT P ft with
   | some (_ + 1) => (match x with
     | .ref k tt o => cond (live? k tt ph) (some (.ref k tt (o + off))) none
     | .lp cs o => some (.lp cs (o + off))
     | _ => none)
   | _ => none)
 | none => none
def qC4 (P : Program) (t : TypeId) (x : PV) (i : Nat) : Option PV := match q5S P t i, x with
 | some (off, ft), .agg cs => oI P ft cs off
 | _, _ => none
def idx (n : Nat) (i : Int) : Option Nat := if 0 <= i ∧ i < (n : Int) then some i.toNat else none
def zF (P : Program) (t : TypeId) (x ix : PV) (ph : PHp) : Option PV := match ix with
 | .f (.v (.int _ i)) => (match x with
   | .f (.l el n cs) => (match xH P t with
     | some el' => (match szT P el' with
       | some s => (match idx n i with
         | some j => some (.lp cs (j * s))
         | none => none)
       | none => none)
     | none => none)
   | .own k tt o n => (match xH P t, qE k ph with
     | some el', some ob => (match szT P ob.el with
       | some s => (match idx n i with
         | some j => cond (Nat.beq el' ob.el && Nat.beq (tt * s) ob.cs.length) (some (.ref k ob.cs.length ((o + j) * s))) none
         | none => none)
       | none => none)
     | _, _ => none)
   | .ref k tt off => (match qSU P t with
     | some (n, el) => (match szT P el, idx n i with
       | some s, some j => cond (live? k tt ph) (some (.ref k tt (off + j * s))) none
       | _, _ => none)
     | none => none)
   | .lp cs off => (match qSU P t with
     | some (n, el) => (match szT P el, idx n i with
       | some s, some j => some (.lp cs (off + j * s))
       | _, _ => none)
     | none => none)
   | _ => none)
 | _ => none
def qD3 (P : Program) (t : TypeId) (x ix : PV) : Option PV := match qSU P t, x, ix with
 | some (n, el), .agg cs, .f (.v (.int _ i)) => (match szT P el, idx n i with
   | some s, some j => oI P el cs (j * s)
   | _, _ => none)
 | _, _, _ => none
def bK (v : PV) (i : Nat) : Option PV := match v with
 | .tup cs => (match z8 cs i with
   | some x => cond (pnt x) (some x) none
   | none => none)
 | _ => none
def pp1 (ph : PHp) : Option PV -> Option (PV × PHp)
 | some v => some (v, ph)
 | none => none
def ppS : Option PHp -> Option (PV × PHp)
 | some ph => some (.tup [], ph)
 | none => none
def isNil (v : PV) (ph : PHp) : Option Bool := match v with
 | .f (.v (.slice none _ _)) => some true
 | .f (.l _ (_ + 1) (_ :: _)) => some false
 | .own k t _ _ => (match qE k ph with
   | some ob => (match szT P ob.el with
     | some s => cond (Nat.beq (t * s) ob.cs.length) (some (ob.gr && Nat.beq t 0)) none
     | none => none)
   | none => none)
 | _ => none
def qN3 (v : PV) : Option Bool := match v with
 | .f (.v .nilFunc) => some true
 | .f (.v (.func _ _ _)) => some false
 | .fn _ _ _ => some false
 | _ => none
def qXB (P : Program) (t : TypeId) : Bool := match P.underlying t with
 | some (.func _ _ _) => true
 | _ => false
def qXD (P : Program) (t : TypeId) (a b : PV) (ph : PHp) : Option Bool := match b with
 | .f (.v (.slice none _ _)) => cond (xH P t).isSome (isNil (P := P) a ph) none
 | .f (.v .nilFunc) => cond (qXB P t) (qN3 a) none
 | _ => none
def gF (P : Program) (op : BinOp) (t t2 : TypeId) (x y : PV) (ph : PHp) : Option PV := match pl x, pl y with
 | some a, some b => cond (q60 a) none (qRK (xB P (cop (.binOp op t (.const a) (.const b) t2)) op t a b [] H00))
 | _, _ => (match op with
   | .eql => (qXD P t x y ph).map fun b => fvv (.bool b)
   | .neq => (qXD P t x y ph).map fun b => fvv (.bool !b)
   | _ => none)
def aI (P : Program) (mk : Operand -> Op) (x : PV) (ty : TypeId := 0) : Option PV := match pl x with
 | some a => qLT P (mk (.const a)) ty
 | none => none
def qY7 (P : Program) (ts : Array TypeId) (x : PV) (ph : PHp) : Option PV := match ts[0]? with
 | some t => (match xH P t with
   | some _ => (match x with
     | .f (.l _ n _) => some (fvv (.int .i64 (n : Int)))
     | .f (.v (.slice _ n _)) => some (fvv (.int .i64 (n : Int)))
     | .own k tt _ n => (match qE k ph with
       | some ob => (match szT P ob.el with
         | some s => cond (Nat.beq (tt * s) ob.cs.length) (some (fvv (.int .i64 (n : Int)))) none
         | none => none)
       | none => none)
     | _ => none)
   | none => (match qSU P t with
     | some (n, _) => some (fvv (.int .i64 (n : Int)))
     | none => none))
 | none => none
def qE5 (P : Program) (s : Nat) (x : PV) (ph : PHp) : Option (Nat × List PV) := match x with
 | .f (.l _ n cs) => cond (Nat.beq (n * s) cs.length) (some (n, cs.map .f)) none
 | .f (.v (.slice none 0 _)) => some (0, [])
 | .own k tt o n => (match qE k ph with
   | some ob => (match szT P ob.el with
     | some s' => cond (Nat.beq (tt * s') ob.cs.length && Nat.beq s s') (some (n, (ob.cs.drop (o * s)).take (n * s))) none
     | none => none)
   | none => none)
 | _ => none
def qAU (P : Program) (el : TypeId) (s : Nat) (old : List PV) (n : Nat) (new : List PV) (m : Nat) (k : Nat) (ph : PHp) : Option (PV × PHp) :=
 cond (Nat.ble (n + m) 1048576 && (wS P el && (Nat.beq (old.length) (n * s) && (Nat.beq new.length (m * s) && new.all eP)))) (qQU k ⟨el, true, old ++ new⟩ (.own k (n + m) 0 (n + m)) ph) none
def gL (P : Program) (ts : List TypeId) (base x : PV) (k : Nat) (ph : PHp) : Option (PV × PHp) := match ts with
 | [st, xt] => (match xH P st, xH P xt with
   | some el, some _ => (match szT P el with
     | some (s + 1) => (match qE5 P (s + 1) x ph with
       | some (m, new) => (match base with
         | .f (.v (.slice none 0 0)) => cond (Nat.beq m 0) (some (base, ph)) (qAU P el (s + 1) [] 0 new m k ph)
         | .own j tt o n => (match qE j ph with
           | some ob => cond (Nat.beq ob.el el && (Nat.beq (tt * (s + 1)) ob.cs.length && Nat.beq o 0))
              (cond (Nat.beq m 0) (some (base, ph))
                (cond (Nat.ble (n + m) tt) (cond (Nat.beq new.length (m * (s + 1)) && new.all eP) (some (.own j tt 0 (n + m), fK j { ob with cs := kV ob.cs (n * (s + 1)) new } ph)) none)
                  (cond (Nat.beq n tt) (cond ob.gr (qAU P el (s + 1) ob.cs n new m j (qES j ph)) (qAU P el (s + 1) ob.cs n new m k ph)) none))) none
           | none => none)
         | _ => none)
       | none => none)
     | _ => none)
   | _, _ => none)
 | _ => none
def qFZ (P : Program) (ts : List TypeId) (base x : PV) (ph : PHp) : Option (PV × PHp) := match ts with
 | [st, xt] => (match xH P st, xH P xt with
   | some el, some _ => (match szT P el with
     | some (s + 1) => (match qE5 P (s + 1) x ph with
       | some (m, new) => (match base with
         | .own j tt o n => (match qE j ph with
           | some ob => cond (Nat.beq ob.el el && (Nat.beq (tt * (s + 1)) ob.cs.length && (Nat.beq new.length (m * (s + 1)) && new.all eP)))
              (some (fvv (.int .i64 ((Nat.min m n : Nat) : Int)), fK j { ob with cs := kV ob.cs (o * (s + 1)) (new.take (Nat.min m n * (s + 1))) } ph)) none
           | none => none)
         | .f (.l _ 0 []) => some (fvv (.int .i64 0), ph)
         | .f (.v (.slice none 0 _)) => some (fvv (.int .i64 0), ph)
         | _ => none)
       | none => none)
     | _ => none)
   | _, _ => none)
 | _ => none
def needs : Op -> Bool
 | .alloc _ | .box _ _ | .buildSlice _ _ _ | .makeSlice _ _ _ | .makeMap _ _ | .range _ _ => true
 | .call c => match c.callee with
   | .builtin .append => true
   | _ => false
 | _ => false
def qXE (P : Program) (ts : Array TypeId) : Bool := match (ts[0]?).bind P.underlying with
 | some .string => true
 | _ => false
def qQD : PV -> Bool
 | .f (.v (.pointer _)) => true
 | _ => false
def erV (x : PV) : Value := (pl x).getD undef
def qRG (env : List PV) : Env := kZ erV env
def vP (P : Program) (b : Builtin) (c : Call) (args : List PV) (env : List PV) (ty : TypeId) (ph : PHp) : Option (PV × PHp) := match plL args with
 | some _ => pp1 ph (qRK (kS P (cop (.call c) ty) (qRG env) H00))
 | none => none
def rC (P : Program) (m : PV) (ph : PHp) : Option (List PV) := match m with
 | .mp k => (match qE k ph with
   | some ob => cond (!ob.gr && (spec P ob.el && Nat.beq ob.el 1000000001)) (some ob.cs) none
   | none => none)
 | _ => none
def q6B (P : Program) (ts : Array TypeId) : Bool := match (ts[0]?).bind P.underlying with
 | some (.map _ _) => true
 | _ => false
def qCV (P : Program) (ts : Array TypeId) (x : PV) (ph : PHp) : Option PV := match rC P x ph with
 | some cs => cond (q6B P ts) (some (fvv (.int .i64 ((cs.length / 3 : Nat) : Int)))) none
 | none => qY7 P ts x ph
def wW (P : Program) (b : Builtin) (c : Call) (args : List PV) (env : List PV) (ty : TypeId) (k : Nat) (ph : PHp) : Option (PV × PHp) := match b with
 | .append => (match args with
   | [x, y] => gL P c.argTypes.toList x y k ph
   | _ => none)
 | .copy => (match args with
   | [x, y] => qFZ P c.argTypes.toList x y ph
   | _ => none)
 | .len => (match args with
   | [x] => cond (qXE P c.argTypes) (vP P b c args env ty ph) (pp1 ph (qCV P c.argTypes x ph))
   | _ => none)
 | .min => vP P b c args env ty ph
 | .max => vP P b c args env ty ph
 | _ => none
def qLQ (c : Nat) (es : List MapEntry) : List PV := .f (.v (.int .i64 c)) :: qQB es
def q7Z (s : ByteArray) (pos : Nat) : List PV := [.f (.v (.string s)), .f (.v (.int .i64 pos))]
def qG3 (P : Program) (o : Oper) (env : List PV) (k : Nat) (ph : PHp) : Option (PV × PHp) :=
 match o.op with
 | .move x => some (qP env x, ph)
 | .assign x => some (qP env x, ph)
 | .pick c a b => (match qP env c with
   | .f (.v (.bool t)) => some (cond t (qP env a) (qP env b), ph)
   | _ => none)
 | .alloc el => qDB P el k ph
 | .box el x => q5N P el (qP env x) k ph
 | .build t parts => pp1 ph (qJQ P t (parts.toList.map fun p => (p.1, qP env p.2)))
 | .buildSlice t len parts => jV P t len (parts.toList.map fun p => (p.1, qP env p.2)) k ph
 | .load t a => pp1 ph (nE P t (qP env a) ph)
 | .store t a x => ppS (nY P t (qP env a) (qP env x) ph)
 | .nilCheck x => pp1 ph (yZ (qP env x) ph)
 | .binOp op t x y t2 => pp1 ph (gF P op t t2 (qP env x) (qP env y) ph)
 | .unOp op t x => pp1 ph (aI P (fun a => .unOp op t a) (qP env x))
 | .convert s d x => cond (qQD (qP env x)) none (pp1 ph (aI P (fun a => .convert s d a) (qP env x)))
 | .makeFunc fn first cap => pp1 ph (j6 fn (first.toList.map (qP env)) (cap.toList.map (qP env)))
 | .makeSlice t l c => vW P t (qP env l) (qP env c) k ph
 | .slice t x lo hi none => (match qP env x with
   | .f (.v (.string s)) => (match plL ((lo.toList ++ hi.toList).map (qP env)) with
     | some _ => pp1 ph (qLT P (.slice t (.const (.string s)) (lo.map fun a => .const ((pl (qP env a)).getD undef)) (hi.map fun a => .const ((pl (qP env a)).getD undef)) none))
     | none => none)
   | v => pp1 ph (wX P t v (lo.map (qP env)) (hi.map (qP env)) ph))
 | .fieldAddr t x i => pp1 ph (yG P t (qP env x) i ph)
 | .field t x i => pp1 ph (qC4 P t (qP env x) i)
 | .indexAddr t x ix => pp1 ph (zF P t (qP env x) (qP env ix) ph)
 | .index t x ix => (match qP env x, pl (qP env ix) with
   | .f (.v (.string s)), some j => pp1 ph (qLT P (.index t (.const (.string s)) (.const j)))
   | v, _ => pp1 ph (qD3 P t v (qP env ix)))
 | .extract t i => pp1 ph (bK (qP env t) i)
 | .call c => (match c.callee with
   | .builtin b => wW P b c (c.args.toList.map (qP env)) env o.type k ph
   | _ => none)
 | _ => none
end
end Go.Idl
namespace Go.Idl
variable [Gc]
variable {P : Program} {Z : Nat -> Prop} {H : IH} {M : Nat -> Option (Nat × PO)}
variable {a v : Value} {b i k : Nat} {m : Nat -> Nat} {ob : PO} {p : Nat -> Bool} {ph : PHp} {vs ws : List Value} {x : PV} {xs ys : List PV}
theorem cells_one (h : oneCell v = true) : v.cells = #[v] := by
 cases v <;> first | rfl | (cases h)
theorem q7V (h : oneCell v = true) : zU v = true := by
 cases v <;> first | rfl | (cases h)
theorem VR.one {x : PV} {v : Value} (h : VR P Z H M x v) (hp : eP x = true) : oneCell v = true := by
 cases h with
 | f h => exact h.one
 | agg => cases hp
 | tup => cases hp
 | own h1 => exact h1
 | ref h1 => exact h1
 | lp => rfl
 | fn => rfl
 | yl => cases hp
 | unk => cases hp
 | mp h1 => exact h1
theorem VR.cells {x : PV} {v : Value} (h : VR P Z H M x v) (hp : pnt x = true) : VRL P Z H M (zX x) v.cells.toList ∧ zU v = true := by
 have one : eP x = true -> zX x = [x] -> VRL P Z H M (zX x) v.cells.toList ∧ zU v = true := fun h1 h2 => by
  have := h.one h1;rw [cells_one this, h2];exact ⟨.cons h .nil, q7V this⟩
 cases x with
 | f => exact one rfl rfl
 | agg cs =>
   cases h with
   | agg hl hc => exact ⟨⟨by simpa [Value.cells, zX] using hl, fun i x v h1 h2 => hc i x v h1 (by simpa [Value.cells] using h2)⟩, rfl⟩
 | tup => cases hp
 | own => exact one rfl rfl
 | ref => exact one rfl rfl
 | lp => exact one rfl rfl
 | fn => exact one rfl rfl
 | yl => cases hp
 | unk => cases hp
 | mp => exact one rfl rfl
theorem VRL.one : ∀ {xs : List PV} {vs : List Value}, VRL P Z H M xs vs -> xs.all eP = true -> vs.all oneCell = true
 | [], _, h, _ => by rw [h.nil_left]; rfl
 | x :: xs, _, h, hp => by
   obtain ⟨v, vs, rfl, h1, h2⟩ := h.uncons;simp only [List.all_cons, Bool.and_eq_true] at hp ⊢;exact ⟨h1.one hp.1, VRL.one h2 hp.2⟩
theorem VRL.over (a : VRL P Z H M xs vs) (b : VRL P Z H M ys ws) (i : Nat) : VRL P Z H M (kV xs i ys) (overwrite vs i ws) := by
 unfold kV overwrite;rw [<- b.len];exact ((a.take i).append b).append (a.drop _)
theorem bJ (h : i + ys.length <= xs.length) : (kV xs i ys).length = xs.length := by
 unfold kV; simp; omega
theorem tH (a : vs.all oneCell = true) (b : ws.all oneCell = true) : (overwrite vs i ws).all oneCell = true := by
 unfold overwrite;rw [List.all_append, List.all_append, b, Bool.and_true, Bool.and_eq_true];rw [List.all_eq_true] at a;exact ⟨List.all_eq_true.2 fun x hx => a x (List.mem_of_mem_take hx), List.all_eq_true.2 fun x hx => a x (List.mem_of_mem_drop hx)⟩
theorem VRL.of_map {f : Value -> PV} (hf : ∀ v, okC v = true -> VR P Z H M (f v) v) : ∀ {vs : List Value}, vQ okC vs = true -> VRL P Z H M (kZ f vs) vs
 | [], _ => .nil
 | v :: vs, h => by
   rw [eX, Bool.and_eq_true] at h;exact .cons (hf v h.1) (VRL.of_map hf h.2)
theorem wB (h : okC v = true) : VR P Z H M (fvv v) v := by
 unfold okC at h;rw [Bool.and_eq_true] at h;exact .f (.v h.1 h.2)
theorem qT5 : ∀ {vs : List Value}, vQ okC vs = true -> vs.all oneCell = true
 | [], _ => rfl
 | v :: vs, h => by
   rw [eX, Bool.and_eq_true] at h;unfold okC at h;simp only [Bool.and_eq_true] at h;simp only [List.all_cons, Bool.and_eq_true];exact ⟨h.1.2, qT5 h.2⟩
theorem qTD (v : Value) : VR P Z H M (ofC v) v := by
 have c1 : VR P Z H M (q72 v) v := by
  unfold q72
  cases h : okC v with
  | true => exact wB h
  | false => exact .unk
 unfold ofC;split
 ·rename_i cs
  cases h : vQ okC cs.toList with
  | true =>
    have := VRL.of_map (P := P) (Z := Z) (H := H) (M := M) (f := fvv) (fun v h => wB h) h;exact .agg (by simpa using this.len) fun i x v h1 h2 => this.val i x v h1 (by simpa using h2)
  | false => exact .unk
 ·rename_i cs
  cases h : vQ okC cs.toList with
  | true =>
    have := VRL.of_map (P := P) (Z := Z) (H := H) (M := M) (f := fvv) (fun v h => wB h) h;exact .tup (by simpa using this.len) fun i x v h1 h2 => this.val i x v h1 (by simpa using h2)
  | false => exact .unk
 ·exact c1
theorem qK {env : List PV} {ienv : Env} (h : VRL P Z H M env ienv) (x : Operand) : VR P Z H M (qP env x) (ienv.val x) := by
 cases x with
 | tmp t =>
   unfold qP Env.val;simp only [qG]
   cases he : env[t]? with
   | none => exact .unk
   | some y =>
     obtain ⟨v, h1, h2⟩ := h.get he;rw [h1];exact h2
 | const v => exact qTD v
 | global g => exact .unk
 | func g => exact wB rfl
theorem q8A (h : VR P Z H M x v) (hp : pl1 x = some a) : v = a := by
 unfold pl1 at hp;split at hp
 ·cases hp
  cases h with
  | f h => cases h; rfl
 ·cases hp
theorem qUD : ∀ {xs : List PV} {vs as : List Value}, VRL P Z H M xs vs -> qTY xs = some as -> vs = as
 | [], _, _, h, hp => by
   rw [h.nil_left];simp only [qTY, Option.some.injEq] at hp;exact hp
 | x :: xs, _, _, h, hp => by
   obtain ⟨v, vs, rfl, h1, h2⟩ := h.uncons;unfold qTY at hp;split at hp
   ·rename_i a ha;split at hp
    ·rename_i as' has;cases hp;rw [q8A h1 ha, qUD h2 has]
    ·cases hp
   ·cases hp
theorem kC (h : VR P Z H M x v) (hp : pl x = some a) : v = a := by
 unfold pl at hp;split at hp
 ·cases hp
  cases h with
  | f h => cases h; rfl
 ·rename_i cs;split at hp
  ·rename_i vs hvs;cases hp
   cases h with
   | agg hl hc =>
     rename_i ws
     have : VRL P Z H M cs ws.toList := ⟨by simpa using hl, fun i x v h1 h2 => hc i x v h1 (by simpa using h2)⟩
     have := qUD this hvs;rw [<- this]
  ·cases hp
 ·cases hp
def own (m : Nat -> Nat) (ph : PHp) : Nat -> Option (Nat × PO) := fun k => (qE k ph).map fun ob => (m k, ob)
theorem zG (h : qE k ph = some ob) : own m ph k = some (m k, ob) := by unfold own; rw [h]; rfl
theorem gX (h : own m ph k = some (b, ob)) : qE k ph = some ob ∧ b = m k := by
 unfold own at h
 cases hl : qE k ph with
 | none => rw [hl] at h; cases h
 | some o => rw [hl] at h; cases h; exact ⟨rfl, rfl⟩
theorem kE {k j : Nat} {o : PO} : ∀ {ph : PHp}, qE k (fK j o ph) = if k = j ∧ (qE j ph).isSome = true then some o else qE k ph
 | [] => by simp [fK, qE]
 | (i, p) :: l => by
   have ih := kE (k := k) (j := j) (o := o) (ph := l);unfold fK;by_cases h : j = i
   ·subst h;simp only [beq_self_eq_true, cond_true, qE, Option.isSome_some, and_true];by_cases hk : k = j
    ·subst hk; simp
    ·have : (k == j) = false := by simpa using hk
     simp [this, hk]
   ·have hj : (j == i) = false := by simpa using h
    simp only [hj, cond_false, qE];by_cases hk : k = i
    ·subst hk;have : ¬ (k = j) := fun e => h e.symm
     simp [this]
    ·have hk' : (k == i) = false := by simpa using hk
     simp only [hk', cond_false];exact ih
theorem uS {k j : Nat} : ∀ {ph : PHp}, qE k (qES j ph) = if k = j then none else qE k ph
 | [] => by simp [qES, qE]
 | (i, p) :: l => by
   have ih := uS (k := k) (j := j) (ph := l);unfold qES;by_cases h : j = i
   ·subst h;simp only [beq_self_eq_true, cond_true, qE];rw [ih];by_cases hk : k = j
    ·simp [hk]
    ·have : (k == j) = false := by simpa using hk
     simp [hk, this]
   ·have hj : (j == i) = false := by simpa using h
    simp only [hj, cond_false, qE];by_cases hk : k = i
    ·subst hk;have : ¬ (k = j) := fun e => h e.symm
     simp [this]
    ·have hk' : (k == i) = false := by simpa using hk
     simp only [hk', cond_false];exact ih
def rV (k : Nat) : PHp -> Bool
 | [] => true
 | (_, o) :: l => xR k o.cs && rV k l
theorem uE {k : Nat} : ∀ {ph : PHp} {j : Nat} {ob : PO}, rV k ph = true -> qE j ph = some ob -> xR k ob.cs = true
 | (i, p) :: l, j, ob, h, e => by
   simp only [rV, Bool.and_eq_true] at h;unfold qE at e
   cases hj : (j == i) with
   | true => rw [hj] at e; cases e; exact h.1
   | false => rw [hj] at e; exact uE h.2 e
structure Res (P : Program) (Z : Nat -> Prop) (H : IH) (m : Nat -> Nat) (ph : PHp) (p : Nat -> Bool) (v : PV) (ph' : PHp) (s : Option Step1) : Prop where
 ex : ∃ u H' Z' m', s = some (.val u H') ∧ Hp P Z' H' (own m' ph') ∧ VR P Z' H' (own m' ph') v u ∧ Step Z H (own m ph) Z' H' (own m' ph') ∧ KR p (own m ph) (own m' ph')
theorem Res.same {v : PV} {u : Value} {s : Option Step1} (hs : s = some (.val u H)) (hp : Hp P Z H (own m ph)) (hv : VR P Z H (own m ph) v u) : Res P Z H m ph p v ph s :=
 ⟨u, H, Z, m, hs, hp, hv, .refl _ _ _, .refl _ _⟩
def real (ob : PO) : Prop := ¬ (ob.gr = true ∧ ob.cs = [])
theorem Hp.pushG {ph0 : PHp} (hp : Hp P Z H (own m ph)) {H1 : IH} (hs1 : H1.size = H.size) (hb1 : H1.base = H.base)
 (hg1 : ∀ b, b < H.size -> (∀ ob0, qE k ph = some ob0 -> real ob0 -> b ≠ m k) -> H1.get b = H.get b)
 (hsp : spec P ob.el = false) (hk1 : p k = true ∨ ∃ ob0, qE k ph = some ob0 ∧ ob0.cs.length < ob.cs.length ∧ ob0.el = ob.el ∧ Nat.ble 1000000000 ob.el = false) (hn : ∀ j, p j = true -> j = k ∧ rV k ph = true ∧ xR k ob.cs = true) (hr : VRL P Z H (own m ph) ob.cs vs) (h1 : vs.all oneCell = true) (hb : H.base <= H.size)
 (h0 : ∀ j, j ≠ k -> qE j ph0 = qE j ph) :
 Hp P Z (H1.push (.cells vs.toArray ob.el (cond ob.gr qV (0, 0)))) (own (fun j => if j = k then H.size else m j) ((k, ob) :: ph0)) ∧
  Step Z H (own m ph) Z (H1.push (.cells vs.toArray ob.el (cond ob.gr qV (0, 0)))) (own (fun j => if j = k then H.size else m j) ((k, ob) :: ph0)) ∧ KR p (own m ph) (own (fun j => if j = k then H.size else m j) ((k, ob) :: ph0)) := by
 have hold : ∀ j, j ≠ k -> own (fun j => if j = k then H.size else m j) ((k, ob) :: ph0) j = own m ph j := fun j hj => by
  have : (j == k) = false := by simpa using hj
  have e : qE j ((k, ob) :: ph0) = qE j ph := by
   show cond (j == k) (some ob) (qE j ph0) = _;rw [this]; exact h0 j hj
  unfold own;rw [e];simp only [if_neg hj]
 have hnew : own (fun j => if j = k then H.size else m j) ((k, ob) :: ph0) k = some (H.size, ob) := by
  simp [own, qE]
 have hkr : KR p (own m ph) (own (fun j => if j = k then H.size else m j) ((k, ob) :: ph0)) := fun j b' ob' h => by
  by_cases hj : j = k
  ·subst hj;rw [hnew] at h; cases h
   rcases hk1 with h | ⟨ob0, q1, q2, q3, q4⟩
   ·exact .inr (.inr h)
   ·exact .inr (.inl ⟨_, ob0, zG q1, q2, q3, fun hh => by rw [q3, q4] at hh; cases hh⟩)
  ·rw [hold j hj] at h; exact .inl ⟨ob', h, rfl, rfl, rfl⟩
 have hg : ∀ b, b < H.size -> (∀ ob0, qE k ph = some ob0 -> real ob0 -> b ≠ m k) -> (H1.push (.cells vs.toArray ob.el (cond ob.gr qV (0, 0)))).get b = H.get b := fun b hb h => (wG (by rw [hs1]; exact hb)).trans (hg1 b hb h)
 have hs : (H1.push (.cells vs.toArray ob.el (cond ob.gr qV (0, 0)))).size = H.size + 1 := by show H1.size + 1 = _; rw [hs1]
 have hzk : ∀ b, Z b -> ∀ ob0, qE k ph = some ob0 -> real ob0 -> b ≠ m k := fun b hz ob0 q1 q2 e => by
  rcases hp.obj k _ _ (zG q1) with h | ⟨_, _, h, _⟩
  ·exact q2 h
  ·exact h (e ▸ hz)
 have hmono : ∀ {xs : List PV} {us : List Value}, VRL P Z H (own m ph) xs us -> (∀ j, p j = true -> xR j xs = true) -> VRL P Z (H1.push (.cells vs.toArray ob.el (cond ob.gr qV (0, 0)))) (own (fun j => if j = k then H.size else m j) ((k, ob) :: ph0)) xs us := fun h hx =>
  h.mono (fun _ h => h) (by omega) (fun b hz hb => hg b hb (hzk b hz)) hkr hx
 refine ⟨⟨fun b hz => by have := hp.zlt b hz; omega, fun j b o hj => ?_, fun j j' b b' o o' h1 h2 r1 r2 hne => ?_, hp.gl.mono hp.zlt (fun _ h => h) fun b hz hb => hg b hb (hzk b hz)⟩, ⟨by omega, hb1, fun _ h => h, fun b hb hn => hg b hb fun ob0 q1 q2 e => hn ⟨k, ob0, by rw [e]; exact zG q1, q2⟩, fun b h _ => .inl h, fun b ⟨j, o, hj, hr⟩ hb => ?_⟩, hkr⟩
 ·by_cases e : j = k
  ·subst e;rw [hnew] at hj; cases hj;refine .inr ⟨by omega, by show H1.base <= _; rw [hb1]; exact hb, fun hz => by have := hp.zlt _ hz; omega, .inl ⟨hsp, vs, by rw [<- hs1]; exact jK, hmono hr fun i hi => by obtain ⟨rfl, _, q⟩ := hn i hi; exact q, h1⟩⟩
  ·rw [hold j e] at hj
   rcases hp.obj j b o hj with h | ⟨q1, q2, q3, q4⟩
   ·exact .inl h
   ·by_cases hro : o.gr = true ∧ o.cs = []
    ·exact .inl hro
    ·exact .inr ⟨by omega, by show H1.base <= _; rw [hb1]; exact q2, q3, q4.mono (hg b q1 fun ob0 r1 r2 => hp.inj j k b (m k) o ob0 hj (zG r1) hro r2 e) fun _ q5 => hmono q5 fun i hi => by obtain ⟨rfl, q, _⟩ := hn i hi; exact uE q (gX hj).1⟩
 ·have lt : ∀ {i c oc}, i ≠ k -> own (fun j => if j = k then H.size else m j) ((k, ob) :: ph0) i = some (c, oc) -> real oc -> c < H.size := fun hi h hr => by
   rw [hold _ hi] at h;rcases hp.obj _ _ _ h with q | q
   ·exact absurd q hr
   ·exact q.1
  by_cases e : j = k
  ·subst e;rw [hnew] at h1; cases h1;have := lt (Ne.symm hne) h2 r2;omega
  ·by_cases e' : j' = k
   ·subst e';rw [hnew] at h2; cases h2;have := lt hne h1 r1;omega
   ·rw [hold _ e] at h1;rw [hold _ e'] at h2;exact hp.inj j j' b b' o o' h1 h2 r1 r2 hne
 ·by_cases e : j = k
  ·subst e; rw [hnew] at hj; cases hj; omega
  ·rw [hold j e] at hj; exact ⟨j, o, hj, hr⟩
theorem Hp.push (hp : Hp P Z H (own m ph)) (hsp : spec P ob.el = false) (hn : rV k ph = true) (hc : xR k ob.cs = true) (hr : VRL P Z H (own m ph) ob.cs vs) (h1 : vs.all oneCell = true) (hb : H.base <= H.size) :
 Hp P Z (H.push (.cells vs.toArray ob.el (cond ob.gr qV (0, 0)))) (own (fun j => if j = k then H.size else m j) ((k, ob) :: ph)) ∧
  Step Z H (own m ph) Z (H.push (.cells vs.toArray ob.el (cond ob.gr qV (0, 0)))) (own (fun j => if j = k then H.size else m j) ((k, ob) :: ph)) ∧ KR (fun j => j == k) (own m ph) (own (fun j => if j = k then H.size else m j) ((k, ob) :: ph)) :=
 hp.pushG rfl rfl (fun _ _ _ => rfl) hsp (.inl (by simp)) (fun j hj => ⟨by simpa using hj, hn, hc⟩) hr h1 hb fun _ _ => rfl
theorem fZ : own (fun j => if j = k then b else m j) ((k, ob) :: ph) k = some (b, ob) := by simp [own, qE]
theorem Hp.put {m : Nat -> Nat} {ph : PHp} (hp : Hp P Z H (own m ph)) {k : Nat} {ob : PO} {cs : List PV} {vs : List Value} (hl : qE k ph = some ob) (hre : real ob) (hsp : spec P ob.el = false) (hlen : cs.length = ob.cs.length) (hr : VRL P Z H (own m ph) cs vs) (h1 : vs.all oneCell = true) :
 Hp P Z (H.put (m k) (.cells vs.toArray ob.el (cond ob.gr qV (0, 0)))) (own m (fK k { ob with cs := cs } ph)) ∧
  Step Z H (own m ph) Z (H.put (m k) (.cells vs.toArray ob.el (cond ob.gr qV (0, 0)))) (own m (fK k { ob with cs := cs } ph)) ∧ ∀ p, KR p (own m ph) (own m (fK k { ob with cs := cs } ph)) := by
 have hk := zG (m := m) hl
 have hreal : real { ob with cs := cs } := fun h => by
  have h2 : cs = [] := h.2;rw [h2] at hlen;exact hre ⟨h.1, List.length_eq_zero_iff.1 hlen.symm⟩
 have hold : ∀ j, j ≠ k -> own m (fK k { ob with cs := cs } ph) j = own m ph j := fun j hj => by
  unfold own; rw [kE, if_neg (fun h => hj h.1)]
 have hnew : own m (fK k { ob with cs := cs } ph) k = some (m k, { ob with cs := cs }) := by
  unfold own; rw [kE, if_pos ⟨rfl, by rw [hl]; rfl⟩]; rfl
 have hkr : ∀ p, KR p (own m ph) (own m (fK k { ob with cs := cs } ph)) := fun p j b' ob' h => by
  by_cases hj : j = k
  ·subst hj;rw [hnew] at h; cases h;exact .inl ⟨ob, hk, hlen.symm, rfl, rfl⟩
  ·rw [hold j hj] at h; exact .inl ⟨ob', h, rfl, rfl, rfl⟩
 obtain ⟨w1, w2, w3, ws0, w4, w5, w6⟩ : m k < H.size ∧ H.base <= m k ∧ ¬ Z (m k) ∧ ∃ vs, H.get (m k) = some (.cells vs.toArray ob.el (cond ob.gr qV (0, 0))) ∧ VRL P Z H (own m ph) ob.cs vs ∧ vs.all oneCell = true := by
  rcases hp.obj k (m k) ob hk with h | ⟨x1, x2, x3, x4⟩
  ·exact absurd h hre
  ·rcases x4 with ⟨_, x4⟩ | ⟨x4, _⟩
   ·exact ⟨x1, x2, x3, x4⟩
   ·rw [hsp] at x4; cases x4
 have hg : ∀ b, b ≠ m k -> (H.put (m k) (.cells vs.toArray ob.el (cond ob.gr qV (0, 0)))).get b = H.get b := fun b hb => yH hb
 have hmono : ∀ {xs : List PV} {us : List Value}, VRL P Z H (own m ph) xs us -> VRL P Z (H.put (m k) (.cells vs.toArray ob.el (cond ob.gr qV (0, 0)))) (own m (fK k { ob with cs := cs } ph)) xs us := fun h =>
  h.mono (p := fun _ => false) (H := H) (H' := H.put (m k) (.cells vs.toArray ob.el (cond ob.gr qV (0, 0)))) (fun _ h => h) (Nat.le_refl _) (fun b hz hb => hg b fun e => w3 (e ▸ hz)) (hkr _) fun j hj => by cases hj
 refine ⟨⟨fun b hz => hp.zlt b hz, fun j b o hj => ?_, fun j j' b b' o o' h1 h2 r1 r2 hne => ?_, hp.gl.mono hp.zlt (fun _ h => h) fun b hz hb => hg b fun e => w3 (e ▸ hz)⟩, ⟨Nat.le_refl _, rfl, fun _ h => h, fun b hb hn => hg b fun e => hn ⟨k, ob, by rw [e]; exact hk, hre⟩, fun b h _ => .inl h, fun b ⟨j, o, hj, hr⟩ hb => ?_⟩, hkr⟩
 ·by_cases e : j = k
  ·subst e;rw [hnew] at hj; cases hj;exact .inr ⟨w1, w2, w3, .inl ⟨hsp, vs, vU, hmono hr, h1⟩⟩
  ·rw [hold j e] at hj
   rcases hp.obj j b o hj with h | ⟨q1, q2, q3, q4⟩
   ·exact .inl h
   ·by_cases hro : real o
    ·exact .inr ⟨q1, q2, q3, q4.mono (hg b (hp.inj j k b (m k) o ob hj hk hro hre e)) fun _ q5 => hmono q5⟩
    ·by_cases hx : o.gr = true ∧ o.cs = []
     ·exact .inl hx
     ·exact absurd hx hro
 ·have back : ∀ {i c oc}, own m (fK k { ob with cs := cs } ph) i = some (c, oc) -> real oc -> ∃ oc', own m ph i = some (c, oc') ∧ real oc' := fun {i c oc} h hr => by
   by_cases e : i = k
   ·subst e; rw [hnew] at h; cases h; exact ⟨ob, hk, hre⟩
   ·rw [hold _ e] at h; exact ⟨oc, h, hr⟩
  obtain ⟨o1, e1, f1⟩ := back h1 r1;obtain ⟨o2, e2, f2⟩ := back h2 r2;exact hp.inj j j' b b' o1 o2 e1 e2 f1 f2 hne
 ·by_cases e : j = k
  ·subst e; rw [hnew] at hj; cases hj; exact ⟨j, ob, hk, hre⟩
  ·rw [hold j e] at hj; exact ⟨j, o, hj, hr⟩
end Go.Idl
namespace Go.Idl
variable [Gc]
variable {P : Program} {Z : Nat -> Prop} {H : IH} {M : Nat -> Option (Nat × PO)} {m : Nat -> Nat} {ph : PHp}
variable {H' : IH} {M' : Nat -> Option (Nat × PO)} {a x : PV} {b k n off s tt : Nat} {cs z : List PV} {el t : TypeId} {ob : PO} {ph' : PHp} {ps : List (Nat × PV)} {qs : List (Nat × Value)} {u v : Value} {vs : List Value}
def qJU (P : Program) (t : TypeId) (vs : List Value) (off : Nat) : Option Value := match qPZ P t with
 | some true => (match szT P t with
   | some n => if off + n <= vs.length then some (.agg ((vs.drop off).take n).toArray) else none
   | none => none)
 | some false => vs[off]?
 | none => none
theorem qC9 {fz : Nat × Nat} (h : H.get b = some (.cells vs.toArray el fz)) : y7 P t (.pointer (some ⟨b, off, none⟩)) H = qJU P t vs off := by
 unfold y7 qJU IH.load IH.loads;simp only [h]
 cases qPZ P t with
 | none => rfl
 | some x =>
   cases x with
   | false => simp
   | true =>
     cases szT P t with
     | none => rfl
     | some n =>
       simp only [List.size_toArray];by_cases hc : off + n <= vs.length
       ·rw [if_pos hc, if_pos hc]
       ·rw [if_neg hc, if_neg hc]
theorem qAM {vs : Array Value} : qPT P t vs off = qJU P t vs.toList off := by
 unfold qPT qJU
 cases qPZ P t with
 | none => rfl
 | some x =>
   cases x with
   | false => simp
   | true =>
     cases szT P t with
     | none => rfl
     | some n =>
       simp only [Array.length_toList];by_cases hc : off + n <= vs.size
       ·rw [if_pos hc, if_pos hc]
        congr 2
        apply Array.ext';rw [Array.toList_extract, List.extract_eq_take_drop]
        congr 1; omega
       ·rw [if_neg hc, if_neg hc]
theorem VRL.toA (h : VRL P Z H M cs vs) : VR P Z H M (.agg cs) (.agg vs.toArray) := .agg (by simpa using h.len) fun i x v h1 h2 => h.val i x v h1 (by simpa using h2)
theorem sU (h : VRL P Z H M cs vs) (hp : oI P t cs off = some x) : ∃ v, qJU P t vs off = some v ∧ VR P Z H M x v := by
 unfold oI at hp;unfold qJU;split at hp
 ·rename_i ha;split at hp
  ·rename_i n hn
   cases hc : Nat.ble (off + n) cs.length with
   | false => rw [hc] at hp; cases hp
   | true =>
     rw [hc] at hp; cases hp;have hle : off + n <= cs.length := Nat.le_of_ble_eq_true hc
     try simp only [ha, hn]
     rw [if_pos (by rw [<- h.len]; exact hle)];exact ⟨_, rfl, ((h.drop off).take n).toA⟩
  ·cases hp
 ·rename_i ha;rw [qG] at hp;obtain ⟨v, h1, h2⟩ := h.get hp
  try simp only [ha]
  exact ⟨v, h1, h2⟩
 ·cases hp
theorem qS8 {cs : List FV} (hl : cs.length = vs.length) (hc : ∀ (i : Nat) x v, cs[i]? = some x -> vs[i]? = some v -> FR Z H x v) : VRL P Z H M (cs.map .f) vs :=
 ⟨by simpa using hl, fun i x v h1 h2 => by
   rw [List.getElem?_map] at h1;obtain ⟨y, h3, rfl⟩ := Option.map_eq_some_iff.1 h1
   exact .f (hc i y v h3 h2)⟩
theorem qZV {cs : List FV} (h : qLO P t cs off = some x) : oI P t (cs.map .f) off = some x := by
 unfold qLO at h;unfold oI;split at h
 ·rename_i ha
  try simp only [ha]
  split at h
  ·rename_i n hn;simp only [hn, List.length_map]
   cases hc : Nat.ble (off + n) cs.length with
   | false => rw [hc] at h; cases h
   | true => rw [hc] at h; cases h; simp [List.map_drop, List.map_take]
  ·cases h
 ·rename_i ha
  try simp only [ha]
  rw [qG, List.getElem?_map];split at h
  ·rename_i y hy; cases h; rw [hy]; rfl
  ·cases h
 ·cases h
theorem qYU {o : Nat} (hl : H.loads b o n = some vs) (h : qJU P t vs off = some v) : y7 P t (.pointer (some ⟨b, o + off, none⟩)) H = some v := by
 unfold IH.loads at hl;split at hl
 ·rename_i c el fz hg;split at hl
  ·rename_i hn;cases hl;rw [qC9 (vs := c.toList) (el := el) (fz := fz) (by simpa using hg)];unfold qJU at h ⊢;split at h
   ·rename_i ha
    try simp only [ha]
    split at h
    ·rename_i k hk
     try simp only [hk]
     split at h
     ·rename_i hle;cases h;simp only [List.length_take, List.length_drop, Array.length_toList] at hle;rw [if_pos (by rw [Array.length_toList]; omega)]
      congr 3
      rw [List.drop_take, List.take_take, List.drop_drop]
      congr 1; omega
     ·cases h
    ·cases h
   ·rename_i ha
    try simp only [ha]
    rw [List.getElem?_take] at h;split at h
    ·rw [List.getElem?_drop] at h; exact h
    ·cases h
   ·cases h
  ·cases hl
 ·cases hl
theorem bD (h : VR P Z H (own m ph) (.ref k tt off) v) (hl : qE k ph = some ob) (he : tt = ob.cs.length) : v = .pointer (some ⟨m k, off, none⟩) ∧ (ob.gr = true -> tt ≠ 0) := by
 cases h with
 | ref _ h => exact (h (m k) ob (zG hl)).2 he
theorem Hp.real0 (hp : Hp P Z H (own m ph)) (hl : qE k ph = some ob) (hr : real ob) : m k < H.size ∧ H.base <= m k ∧ ¬ Z (m k) := by
 rcases hp.obj k (m k) ob (zG hl) with h | ⟨x1, x2, x3, x4⟩
 ·exact absurd h hr
 ·exact ⟨x1, x2, x3⟩
theorem Hp.real (hp : Hp P Z H (own m ph)) (hl : qE k ph = some ob) (hr : real ob) (hsp : spec P ob.el = false) : m k < H.size ∧ H.base <= m k ∧ ¬ Z (m k) ∧ ∃ vs, H.get (m k) = some (.cells vs.toArray ob.el (cond ob.gr qV (0, 0))) ∧ VRL P Z H (own m ph) ob.cs vs ∧ vs.all oneCell = true := by
 rcases hp.obj k (m k) ob (zG hl) with h | ⟨x1, x2, x3, x4⟩
 ·exact absurd h hr
 ·rcases x4 with ⟨_, x4⟩ | ⟨x4, _⟩
  ·exact ⟨x1, x2, x3, x4⟩
  ·rw [hsp] at x4; cases x4
theorem uW {α : Type} {b : Bool} {x : Option α} {y : α} (h : cond b none x = some y) : b = false ∧ x = some y := by
 cases b with
 | true => cases h
 | false => exact ⟨rfl, h⟩
theorem jW (h : szT P el = some s) : spec P el = false := by unfold spec; rw [h]; rfl
theorem qMO (he : tt = ob.cs.length) (h : ob.gr = true -> tt ≠ 0) : Go.Idl.real ob := fun ⟨h1, h2⟩ => h h1 (by rw [he, h2]; rfl)
theorem qPF (hp : Hp P Z H (own m ph)) (ha : VR P Z H (own m ph) a v) (h : nE P t a ph = some x) : ∃ u, y7 P t v H = some u ∧ VR P Z H (own m ph) x u := by
 unfold nE at h;split at h
 ·rename_i k tt off;split at h
  ·rename_i ob hl;obtain ⟨hsp, h⟩ := uW h
   cases hb : Nat.beq tt ob.cs.length with
   | false => rw [hb] at h; cases h
   | true =>
     rw [hb] at h;have he := Nat.eq_of_beq_eq_true hb;obtain ⟨rfl, hz⟩ := bD ha hl he;obtain ⟨_, _, _, vs, q1, q2, q3⟩ := hp.real hl (qMO he hz) hsp;obtain ⟨u, h1, h2⟩ := sU q2 h;exact ⟨u, by rw [qC9 q1]; exact h1, h2⟩
  ·cases h
 ·rename_i cs off
  cases ha with
  | lp hz hb hl hc =>
    obtain ⟨u, h1, h2⟩ := sU (P := P) (M := own m ph) (qS8 (by rw [xN hl]) hc) (qZV h);exact ⟨u, qYU hl h1, h2⟩
 ·cases h
theorem qXA {p : Nat -> Bool} {va vx : Value} (hp : Hp P Z H (own m ph)) (ha : VR P Z H (own m ph) a va) (hx : VR P Z H (own m ph) x vx) (h : nY P t a x ph = some ph') : Res P Z H m ph p (.tup []) ph' (qJ1 (xI P t va vx H)) := by
 unfold nY at h;split at h
 ·rename_i k tt off;split at h
  ·rename_i ob hl;split at h
   ·rename_i n hn;obtain ⟨hsp, h⟩ := uW h
    cases hb : (Nat.beq tt ob.cs.length && (Nat.beq n (zX x).length && (Nat.ble (off + n) ob.cs.length && (pnt x && (zX x).all eP)))) with
    | false => rw [hb] at h; cases h
    | true =>
      rw [hb] at h; cases h;simp only [Bool.and_eq_true] at hb;obtain ⟨b1, b2, b3, b4, b5⟩ := hb;have he := Nat.eq_of_beq_eq_true b1;have hn2 := Nat.eq_of_beq_eq_true b2;have hn3 := Nat.le_of_ble_eq_true b3;obtain ⟨rfl, hz⟩ := bD ha hl he;obtain ⟨w1, w2, w3, vs, q1, q2, q3⟩ := hp.real hl (qMO he hz) hsp;obtain ⟨c1, c2⟩ := hx.cells b4;have c3 := c1.one b5;have hlen : off + vx.cells.toList.length <= vs.length := by rw [<- q2.len, <- c1.len]; omega
      obtain ⟨r1, r2, r3⟩ := hp.put hl (qMO he hz) hsp (bJ (i := off) (ys := zX x) (by omega)) (q2.over c1 off) (tH q3 c3);refine ⟨_, _, Z, m, ?_, r1, .tup (vs := #[]) rfl (fun i x v h => by simp at h), r2, r3 p⟩
      have : xI P t (.pointer (some ⟨m k, off, none⟩)) vx H = some (H.put (m k) (.cells (overwrite vs off vx.cells.toList).toArray ob.el (cond ob.gr qV (0, 0)))) := by
       unfold xI;simp only [];rw [if_pos (by rw [hn, hn2, c1.len]; simp)];unfold IH.stores;rw [q1];simp only;rw [if_pos];have hf : wZ (cond ob.gr qV (0, 0)) = true := by cases ob.gr <;> rfl
       simp only [hf, c3, w2, decide_true, Bool.and_true, Bool.true_and, decide_eq_true_eq, List.size_toArray];exact hlen
      rw [this]; rfl
   ·cases h
  ·cases h
 ·cases h
theorem qZX (h : zc P t = some z) : ∃ zv, pK P t = some zv ∧ VRL P Z H M z zv.cells.toList ∧ zv.cells.toList.all oneCell = true ∧ z = kZ fvv zv.cells.toList := by
 unfold zc at h;split at h
 ·rename_i zv hz
  cases hc : vQ okC zv.cells.toList with
  | false => rw [hc] at h; cases h
  | true =>
    rw [hc] at h; cases h;exact ⟨zv, hz, .of_map (fun v h => wB h) hc, qT5 hc, rfl⟩
 ·cases h
theorem oU (k : Nat) : ∀ (l : List Value), xR k (kZ fvv l) = true
 | [] => rfl
 | v :: l => by
   show (noK k (fvv v) && xR k (kZ fvv l)) = true;rw [oU k l]; rfl
theorem nU {k : Nat} : ∀ {l r : List PV}, xR k (l ++ r) = (xR k l && xR k r)
 | [], r => by simp [xR]
 | x :: l, r => by simp only [List.cons_append, xR, nU (l := l), Bool.and_assoc]
theorem qA9 {k : Nat} : ∀ {l : List PV} {n : Nat}, xR k l = true -> xR k (l.take n) = true
 | [], n, _ => by simp [xR]
 | x :: l, 0, _ => rfl
 | x :: l, n + 1, h => by
   simp only [xR, Bool.and_eq_true] at h;simp only [List.take_succ_cons, xR, Bool.and_eq_true];exact ⟨h.1, qA9 h.2⟩
theorem qAC {k : Nat} : ∀ {l : List PV} {n : Nat}, xR k l = true -> xR k (l.drop n) = true
 | [], n, _ => by simp [xR]
 | x :: l, 0, h => h
 | x :: l, n + 1, h => by
   simp only [xR, Bool.and_eq_true] at h;rw [List.drop_succ_cons];exact qAC h.2
theorem qGO {k : Nat} {z : List PV} (h : xR k z = true) : ∀ (n : Nat), xR k (qHX n z) = true
 | 0 => rfl
 | n + 1 => by
   have : qHX (n + 1) z = z ++ qHX n z := by unfold qHX; rw [List.replicate_succ, List.flatten_cons]
   rw [this, nU, h, qGO h n]; rfl
theorem qHS (h : noK k x = true) : xR k (zX x) = true := by
 cases x <;> first | exact h | (simp only [zX, xR, h, Bool.and_true])
theorem qOJ : (qHX n z).length = n * z.length := by unfold qHX; simp
theorem VRL.row {z : List PV} {vs : List Value} (h : VRL P Z H M z vs) : ∀ (n : Nat), VRL P Z H M (qHX n z) (List.replicate n vs).flatten
 | 0 => .nil
 | n + 1 => by
   have e1 : qHX (n + 1) z = z ++ qHX n z := by unfold qHX; rw [List.replicate_succ, List.flatten_cons]
   rw [e1, List.replicate_succ, List.flatten_cons];exact h.append (VRL.row h n)
theorem flat_get {α : Type} {vs : List α} (hs : 0 < vs.length) : ∀ (n i : Nat), i < n * vs.length -> (List.replicate n vs).flatten[i]? = vs[i % vs.length]?
 | 0, i, h => by omega
 | n + 1, i, h => by
   rw [List.replicate_succ, List.flatten_cons];by_cases hi : i < vs.length
   ·rw [List.getElem?_append_left hi, Nat.mod_eq_of_lt hi]
   ·have hi' : vs.length <= i := by omega
    rw [List.getElem?_append_right hi', flat_get hs n (i - vs.length) (by rw [Nat.succ_mul] at h; omega), Nat.mod_eq_sub_mod hi']
theorem qDH {zv : Value} (hz : pK P el = some zv) (hs : zv.cells.toList.length = s + 1) : fP P el (n * (s + 1)) = some ((List.replicate n zv.cells.toList).flatten).toArray := by
 unfold fP;by_cases h0 : n * (s + 1) = 0
 ·have : n = 0 := by
   rcases Nat.mul_eq_zero.1 h0 with h | h
   ·exact h
   ·omega
  subst this;rw [if_pos h0]; rfl
 ·rw [if_neg h0, hz];simp only [Option.map_some, Option.some.injEq];have hs' : zv.cells.size = s + 1 := by simpa using hs
  apply Array.ext';apply List.ext_getElem?;intro i;by_cases hi : i < n * (s + 1)
  ·rw [flat_get (by omega) n i (by rw [hs]; exact hi)];have hm : i % (s + 1) < zv.cells.size := by rw [hs']; exact Nat.mod_lt _ (by omega)
   have e : zv.cells[i % (s + 1)]! = zv.cells[i % (s + 1)] := by rw [getElem!_pos zv.cells (i % (s + 1)) hm]
   simp [hi, hs', hs, hm, Array.getElem?_eq_getElem hm, e]
  ·rw [List.getElem?_eq_none (by simp; omega), List.getElem?_eq_none (by simp [hs]; omega)]
theorem qPE (h : vs.all oneCell = true) (n : Nat) : ((List.replicate n vs).flatten).all oneCell = true := by
 rw [List.all_eq_true] at h ⊢;intro x hx;rw [List.mem_flatten] at hx;obtain ⟨l, h1, h2⟩ := hx;rw [List.mem_replicate] at h1;exact h x (h1.2 ▸ h2)
theorem qNL {off : Nat} : ∀ (vs : List Value) (j : Nat) (c : Array Value), off + j + vs.length <= c.size -> ((vs.zipIdx j).foldl (fun cs (p : Value × Nat) => cs.setIfInBounds (off + p.2) p.1) c).toList = overwrite c.toList (off + j) vs
 | [], j, c, _ => by simp [nZ]
 | v :: vs, j, c, h => by
   simp only [List.length_cons] at h;rw [List.zipIdx_cons, List.foldl_cons, qNL vs (j + 1) _ (by simp; omega), dI _ _ _ _ (by simp; omega)];simp [Nat.add_assoc]
def PVs (P : Program) (Z : Nat -> Prop) (H : IH) (M : Nat -> Option (Nat × PO)) (ps : List (Nat × PV)) (qs : List (Nat × Value)) : Prop := ps.map (·.1) = qs.map (·.1) ∧ VRL P Z H M (ps.map (·.2)) (qs.map (·.2))
theorem qGS {place : Nat -> Option (Nat × Nat)} : ∀ {ps : List (Nat × PV)} {qs : List (Nat × Value)} {cs r : List PV} {vs : Array Value}, PVs P Z H M ps qs -> VRL P Z H M cs vs.toList -> vs.toList.all oneCell = true -> qJ5 place cs ps = some r ->
 ∃ ws, Instr.fill place vs qs = some ws ∧ VRL P Z H M r ws.toList ∧ ws.toList.all oneCell = true ∧ r.length = cs.length ∧ qs.all (fun p => zU p.2) = true ∧ ∀ k, xR k cs = true -> xR k (ps.map (·.2)) = true -> xR k r = true
 | [], qs, cs, r, vs, hq, hv, h1, h => by
   have : qs = [] := by
    have := hq.1;simpa using this.symm
   subst this;simp only [qJ5, Option.some.injEq] at h;subst h;exact ⟨vs, rfl, hv, h1, rfl, rfl, fun k h _ => h⟩
 | (i, x) :: ps, qs, cs, r, vs, hq, hv, h1, h => by
   cases qs with
   | nil => have := hq.1; simp at this
   | cons q qs =>
     obtain ⟨j, v⟩ := q;have e1 := hq.1;simp only [List.map_cons, List.cons.injEq] at e1;obtain ⟨rfl, e1⟩ := e1;have e2 := hq.2;simp only [List.map_cons] at e2;obtain ⟨v', vs', e3, e4, e5⟩ := e2.uncons;simp only [List.cons.injEq] at e3;obtain ⟨rfl, rfl⟩ := e3;unfold qJ5 at h;split at h
     ·rename_i off size hpl
      cases hb : (Nat.beq (zX x).length size && (Nat.ble (off + size) cs.length && (pnt x && (zX x).all eP))) with
      | false => rw [hb] at h; cases h
      | true =>
        rw [hb] at h;simp only [Bool.and_eq_true] at hb;obtain ⟨b1, b2, b3, b4⟩ := hb;have l1 := Nat.eq_of_beq_eq_true b1;have l2 := Nat.le_of_ble_eq_true b2;obtain ⟨c1, c2⟩ := e4.cells b3;have c3 := c1.one b4;have hsz : v.cells.size = size := by rw [<- l1, c1.len]; simp
        have hcl := hv.len;have hvl : off + v.cells.toList.length <= vs.size := by simp only [Array.length_toList] at hcl ⊢; omega
        have hfill : (v.cells.zipIdx.foldl (fun cs (c, j) => cs.setIfInBounds (off + j) c) vs).toList = overwrite vs.toList off v.cells.toList := by
         have := qNL (off := off) v.cells.toList 0 vs (by simpa using hvl);rw [<- Array.foldl_toList, Array.toList_zipIdx];simpa using this
        obtain ⟨ws, r1, r2, r3, r4, r5, r6⟩ := qGS (vs := v.cells.zipIdx.foldl (fun cs (c, j) => cs.setIfInBounds (off + j) c) vs) ⟨e1, e5⟩ (by rw [hfill]; exact hv.over c1 off) (by rw [hfill]; exact tH h1 c3) h;refine ⟨ws, ?_, r2, r3, by rw [r4, bJ (by omega)], by simp only [List.all_cons, c2, r5, Bool.and_self], fun k k1 k2 => ?_⟩
        ·unfold Instr.fill;simp only [hpl]
         have hcd : ¬ (decide (v.cells.size ≠ size) || decide (off + v.cells.size > vs.size)) = true := by
          simp only [Array.length_toList] at hvl;simp [hsz]; omega
         rw [if_neg hcd];exact r1
        ·simp only [List.map_cons, xR, Bool.and_eq_true] at k2;refine r6 k ?_ k2.2;unfold kV;rw [nU, nU, qA9 k1, qHS k2.1, qAC k1]; rfl
     ·cases h
theorem qU8 {env : List PV} {ienv : Env} (he : VRL P Z H M env ienv) : ∀ (ps : List (Nat × Operand)), PVs P Z H M (ps.map fun p => (p.1, qP env p.2)) (ps.map fun p => (p.1, ienv.val p.2))
 | [] => ⟨rfl, .nil⟩
 | p :: ps => by
   obtain ⟨h1, h2⟩ := qU8 he ps;exact ⟨by simp only [List.map_cons, h1], by simp only [List.map_cons]; exact .cons (qK he p.2) h2⟩
theorem qWN (hq : PVs P Z H M ps qs) (h : qJQ P t ps = some x) : ∃ v, qHK P t qs = some v ∧ VR P Z H M x v := by
 unfold qJQ at h;split at h
 ·rename_i z hz;obtain ⟨zv, z1, z2, z3, _⟩ := qZX (Z := Z) (H := H) (M := M) hz
  cases hb : qAS P t with
  | false => rw [hb] at h; cases h
  | true =>
    rw [hb] at h;simp only [cond_true] at h;split at h
    ·rename_i cs hf;cases h;obtain ⟨ws, r1, r2, r3, r4, r5, r6⟩ := qGS hq z2 z3 hf;refine ⟨.agg ws, ?_, ?_⟩
     ·unfold qHK;simp only [z1];unfold qAS at hb;unfold qU1 at r1;split at hb
      ·rename_i fields hu;simp only [hu] at r1 ⊢;obtain ⟨places, hpl⟩ := Option.isSome_iff_exists.1 hb;simp only [hpl, r5, if_true]
       have : (fun (i : Nat) => places.toArray[i]?) = (fun (i : Nat) => match fields[i]? with | some (f : Field) => (szT P f.type).map fun s => (f.offset, s) | none => none) := by
        funext i
        rw [List.getElem?_toArray]
        have key : ∀ (l : List Field) (pl : List (Nat × Nat)) (i : Nat), l.mapM (fun (f : Field) => (szT P f.type).map fun s => (f.offset, s)) = some pl -> pl[i]? = (match l[i]? with | some (f : Field) => (szT P f.type).map fun s => (f.offset, s) | none => none) := by
         intro l
         induction l with
         | nil => intro pl i h; simp at h; subst h; simp
         | cons f l ih =>
           intro pl i h;rw [List.mapM_cons] at h
           cases hs : szT P f.type with
           | none => rw [hs] at h; cases h
           | some s =>
             rw [hs] at h
             cases hm : l.mapM (fun (f : Field) => (szT P f.type).map fun s => (f.offset, s)) with
             | none => rw [hm] at h; cases h
             | some pl' =>
               rw [hm] at h;have h' : some ((f.offset, s) :: pl') = some pl := h;cases h'
               cases i with
               | zero => simp [hs]
               | succ i => simpa using ih pl' i hm
        have := key fields.toList places i hpl;rw [this];simp
       have r1' : Instr.fill (fun i => places.toArray[i]?) zv.cells qs = some ws := by rw [this]; exact r1
       rw [r1']; rfl
      ·rename_i n el hu;simp only [hu] at r1 ⊢;obtain ⟨s, hs⟩ := Option.isSome_iff_exists.1 hb;simp only [hs, Option.map_some] at r1 ⊢;simp only [r5, if_true, r1]; rfl
      ·cases hb
     ·have := r2.toA;simpa using this
    ·cases h
 ·cases h
theorem bF {v : PV} {ph : PHp} (h : qQU k ob v ph = some (x, ph')) : x = v ∧ ph' = (k, ob) :: ph := by
 unfold qQU at h; cases h; exact ⟨rfl, rfl⟩
theorem qPN {s : Option Step1} (hsp : spec P ob.el = false) (hp : Hp P Z H (own m ph)) (hb : H.base <= H.size) (hn : rV k ph = true) (hc : xR k ob.cs = true) (hr : VRL P Z H (own m ph) ob.cs vs) (h1 : vs.all oneCell = true)
 (hs : s = some (.val u (H.push (.cells vs.toArray ob.el (cond ob.gr qV (0, 0))))))
 (hx : ∀ H' M', M' k = some (H.size, ob) -> VR P Z H' M' x u) : Res P Z H m ph (fun j => j == k) x ((k, ob) :: ph) s := by
 obtain ⟨r1, r2, r3⟩ := hp.push hsp hn hc hr h1 hb;exact ⟨u, _, Z, _, hs, r1, hx _ _ fZ, r2, r3⟩
theorem qVL {t : Nat} (hM : M' k = some (b, ob)) (hs : szT P ob.el = some s) (h0 : 0 < s) (hl : ob.cs.length = t * s) (hg : ob.gr = true -> t ≠ 0) :
 VR P Z H' M' (.own k t 0 t) (.slice (some ⟨b, 0, cond ob.gr (some ob.el) none⟩) t t) := by
 refine .own rfl fun b' ob' h => ?_
 rw [hM] at h; cases h;exact ⟨s, hs, h0, by omega, fun _ => .inr ⟨hg, by omega, .inl rfl, by simp⟩⟩
theorem qS5 (hM : M' k = some (b, ob)) (hg : ob.gr = true -> ob.cs.length ≠ 0) : VR P Z H' M' (.ref k ob.cs.length off) (.pointer (some ⟨b, off, none⟩)) := by
 refine .ref rfl fun b' ob' h => ?_
 rw [hM] at h; cases h;exact ⟨Nat.le_refl _, fun _ => ⟨rfl, hg⟩⟩
theorem q5C (c : Array Value) : c.toList.toArray = c := by simp
theorem qWT (hp : Hp P Z H (own m ph)) (hb : H.base <= H.size) (hn : rV k ph = true) (h : qDB P el k ph = some (x, ph')) : Res P Z H m ph (fun j => j == k) x ph' (rG P el H) := by
 unfold qDB at h;split at h
 ·rename_i z hz;obtain ⟨zv, z1, z2, z3, z4⟩ := qZX (Z := Z) (H := H) (M := own m ph) hz;obtain ⟨hsp, h⟩ := uW h;obtain ⟨rfl, rfl⟩ := bF h;refine qPN hsp hp hb hn (by rw [z4]; exact oU _ _) z2 z3 (u := .pointer (some ⟨H.size, 0, none⟩)) ?_ fun H' M' hM => qS5 hM fun h => by cases h
  unfold rG;simp only [z1, q5C]; rfl
 ·cases h
theorem q34 {v : PV} (hp : Hp P Z H (own m ph)) (hb : H.base <= H.size) (hn : rV k ph = true) (hv : VR P Z H (own m ph) v u) (hk : noK k v = true) (h : q5N P el v k ph = some (x, ph')) : Res P Z H m ph (fun j => j == k) x ph' (q4U el u H) := by
 unfold q5N at h
 cases hc0 : (!(spec P el) && (pnt v && (zX v).all eP)) with
 | false => rw [hc0] at h; cases h
 | true =>
   rw [hc0] at h;rw [Bool.and_eq_true, Bool.not_eq_true', Bool.and_eq_true] at hc0;have hsp := hc0.1;have hc := hc0.2;obtain ⟨rfl, rfl⟩ := bF h;obtain ⟨c1, c2⟩ := hv.cells hc.1;refine qPN hsp hp hb hn (qHS hk) c1 (c1.one hc.2) (u := .pointer (some ⟨H.size, 0, none⟩)) ?_ fun H' M' hM => qS5 hM fun h => by cases h
   unfold q4U;rw [if_pos c2];simp only [q5C]; rfl
theorem yK (h : xH P t = some el) : P.underlying t = some (.slice el) := by
 unfold xH at h;split at h
 ·rename_i e he; cases h; exact he
 ·cases h
theorem qCK {len : Nat} (hp : Hp P Z H (own m ph)) (hb : H.base <= H.size) (hn : rV k ph = true) (hq : PVs P Z H (own m ph) ps qs) (hk : xR k (ps.map (·.2)) = true)
 (h : jV P t len ps k ph = some (x, ph')) : Res P Z H m ph (fun j => j == k) x ph' (kY P t len qs H) := by
 unfold jV at h;split at h
 ·rename_i el he;split at h
  ·rename_i s z hs hz;obtain ⟨zv, z1, z2, z3, z4⟩ := qZX (Z := Z) (H := H) (M := own m ph) hz
   cases hc : (Nat.beq z.length (s + 1) && Nat.ble (len * (s + 1)) 65536) with
   | false => rw [hc] at h; cases h
   | true =>
     rw [hc] at h;simp only [cond_true] at h;rw [Bool.and_eq_true] at hc;have l1 := Nat.eq_of_beq_eq_true hc.1;have l2 := Nat.le_of_ble_eq_true hc.2;split at h
     ·rename_i cs hf;obtain ⟨rfl, rfl⟩ := bF h;have hrow := z2.row len;have hz1 : zv.cells.toList.length = s + 1 := by rw [<- z2.len, l1]
      have zr := qDH (P := P) (n := len) z1 hz1;obtain ⟨ws, r1, r2, r3, r4, r5, r6⟩ := qGS (vs := ((List.replicate len zv.cells.toList).flatten).toArray) hq (by simpa using hrow) (by simpa using qPE z3 len) hf;have hlen : cs.length = len * (s + 1) := by rw [r4, qOJ, l1]
      refine qPN (u := .slice (some ⟨H.size, 0, none⟩) len len) (jW hs) hp hb hn (r6 k (qGO (by rw [z4]; exact oU _ _) _) hk) r2 r3 ?_ fun H' M' hM => qVL hM hs (by omega) hlen (fun h => by cases h)
      unfold kY;simp only [yK he, hs];rw [if_pos (by simp only [r5, Bool.and_true, decide_eq_true_eq]; exact l2), zr];simp only [r1, q5C]; rfl
     ·cases h
  ·cases h
 ·cases h
theorem q35 {z : Int} (h : mkN z = some n) : z = (n : Int) ∧ n <= 65536 := by
 unfold mkN at h;split at h
 ·rename_i hc; cases h; omega
 ·cases h
theorem qTS (h : wS P el = true) : Nat.ble 1000000000 el = false := by
 unfold wS at h;split at h
 ·rw [Bool.and_eq_true, Bool.not_eq_true'] at h;exact h.1
 ·cases h
theorem qC8 (h : wS P el = true) : ∃ i, P.info? el = some i ∧ i.bytes <= 4096 ∧ ((uJ P el).map (·.cells.size)) = some i.size := by
 unfold wS at h;split at h
 ·rename_i i hi;rw [Bool.and_eq_true] at h
  replace h := h.2
  rw [Bool.and_eq_true] at h;refine ⟨i, hi, of_decide_eq_true h.1, ?_⟩;have h2 := h.2;split at h2
  ·rename_i z hz; rw [hz]; simp [Nat.eq_of_beq_eq_true h2]
  ·cases h2
 ·cases h
theorem qFX {l c : PV} {vl vc : Value} (hp : Hp P Z H (own m ph)) (hb : H.base <= H.size) (hn : rV k ph = true) (h1 : VR P Z H (own m ph) l vl) (h2 : VR P Z H (own m ph) c vc) (h : vW P t l c k ph = some (x, ph')) :
 Res P Z H m ph (fun j => j == k) x ph' (jX P t vl vc H) := by
 unfold vW at h;split at h
 ·rename_i el k1 zl k2 zm he;have e1 : vl = .int k1 zl := kC h1 rfl;have e2 : vc = .int k2 zm := kC h2 rfl;subst e1 e2
  cases hd : decide (zl = zm) with
  | false => rw [hd] at h; cases h
  | true =>
    rw [hd] at h;simp only [cond_true] at h;have hd := of_decide_eq_true hd;subst hd;split at h
    ·rename_i n s z hmk hs hz;obtain ⟨zv, z1, z2, z3, z4⟩ := qZX (Z := Z) (H := H) (M := own m ph) hz;obtain ⟨rfl, hle⟩ := q35 hmk
     cases hc : (wS P el && Nat.beq z.length (s + 1)) with
     | false => rw [hc] at h; cases h
     | true =>
       rw [hc] at h;rw [Bool.and_eq_true] at hc;obtain ⟨rfl, rfl⟩ := bF h;have l1 := Nat.eq_of_beq_eq_true hc.2;have hz1 : zv.cells.toList.length = s + 1 := by rw [<- z2.len, l1]
       obtain ⟨i, i1, i2, i3⟩ := qC8 hc.1
       have isz : i.size = s + 1 := by
        unfold szT at hs;rw [i1] at hs;simpa using hs
       refine qPN (u := .slice (some ⟨H.size, 0, none⟩) n n) (jW hs) hp hb hn (qGO (by rw [z4]; exact oU _ _) _) (z2.row n) (qPE z3 n) ?_ fun H' M' hM => qVL hM hs (by omega) (by rw [qOJ, l1]) (fun h => by cases h)
       unfold jX;simp only [yK he, i1];rw [if_pos]
       ·simp only [Int.toNat_natCast, isz, qDH (P := P) (n := n) z1 hz1]; rfl
       ·simp only [Bool.and_eq_true, decide_eq_true_eq];have : i.bytes * n <= 4096 * 65536 := Nat.mul_le_mul i2 hle;have e : (i.bytes : Int) * (n : Int) = ((i.bytes * n : Nat) : Int) := by simp
        refine ⟨⟨⟨by omega, by omega⟩, by rw [e]; omega⟩, by omega⟩
    ·cases h
 ·cases h
end Go.Idl
namespace Go.Idl
variable [Gc]
variable {P : Program} {Z : Nat -> Prop} {H : IH} {M : Nat -> Option (Nat × PO)} {m : Nat -> Nat} {ph : PHp}
variable {d k most r s t : Nat} {ob : PO} {v : Value} {x y : PV}
theorem wR {o n : Nat} (h : VR P Z H (own m ph) (.own k t o n) v) (hl : qE k ph = some ob) (hs : szT P ob.el = some s) (he : t * s = ob.cs.length) : q3Z s (m k) ob t o n v ∧ 0 < s := by
 cases h with
 | own _ h =>
   obtain ⟨s', h1, h2, _, h4⟩ := h (m k) ob (zG hl);rw [hs] at h1; cases h1;exact ⟨h4 he, h2⟩
theorem qEQ (h : live? k t ph = true) : ∃ ob, qE k ph = some ob ∧ t = ob.cs.length := by
 unfold live? at h;split at h
 ·rename_i ob hl; exact ⟨ob, hl, Nat.eq_of_beq_eq_true h⟩
 ·cases h
theorem bA (he : t * s = ob.cs.length) (h0 : 0 < s) (hg : ob.gr = true -> t ≠ 0) : real ob := fun ⟨h1, h2⟩ => by
 have := hg h1;rw [h2] at he;rcases Nat.mul_eq_zero.1 (show t * s = 0 from he) with h | h
 ·exact this h
 ·omega
theorem qKA (hx : VR P Z H (own m ph) x v) (h : yZ x ph = some y) : wM v H = some (.val v H) ∧ y = x := by
 unfold yZ at h;split at h
 ·rename_i k t off
  cases hb : live? k t ph with
  | false => rw [hb] at h; cases h
  | true =>
    rw [hb] at h; cases h;obtain ⟨ob, h1, h2⟩ := qEQ hb;obtain ⟨rfl, _⟩ := bD hx h1 h2;exact ⟨rfl, rfl⟩
 ·cases h; cases hx; exact ⟨rfl, rfl⟩
 ·cases h; cases hx; exact ⟨rfl, rfl⟩
 ·cases h;have := kC hx rfl;subst this;exact ⟨rfl, rfl⟩
 ·cases h
theorem qJV {fn : Fn} {fs cs : List PV} {vf vc : Array Value} (h1 : VRL P Z H M fs vf.toList) (h2 : VRL P Z H M cs vc.toList) (h : j6 fn fs cs = some y) : ∃ v, vZ fn vf vc H = some (.val v H) ∧ VR P Z H M y v := by
 unfold j6 at h;split at h
 ·rename_i g;refine ⟨.func (.func g) vf vc, rfl, ?_⟩;have gen : VR P Z H M (.fn g fs cs) (.func (.func g) vf vc) := .fn (by simpa using h1.len) (by simpa using h2.len) (fun i x v a b => h1.val i x v a (by simpa using b)) (fun i x v a b => h2.val i x v a (by simpa using b));cases h;split
  ·have e1 : vf = #[] := by have := h1.nil_left; simpa using this
   have e2 : vc = #[] := by have := h2.nil_left; simpa using this
   subst e1 e2;exact wB rfl
  ·exact gen
 ·cases h
theorem uI {most' : Nat} {x : Option PV} {v : Option Value} (hx : ∀ y, x = some y -> ∃ u, v = some u ∧ VR P Z H M y u) (hn : x = none -> v = none) (hle : most <= most') (h : bnd d most x = some r) : vD d most' v = some r := by
 unfold bnd at h;split at h
 ·rw [hn rfl]; exact h
 ·rename_i k i;obtain ⟨u, rfl, hu⟩ := hx _ rfl;have := kC hu rfl;subst this;split at h
  ·rename_i hc;cases h
   have : (decide (0 <= i) && decide (i <= (most' : Int))) = true := by
    simp only [Bool.and_eq_true, decide_eq_true_eq]; omega
   simp only [vD, this, if_true]
  ·cases h
 ·cases h
theorem qAK {x : Option PV} (hd : d <= most) (h : bnd d most x = some r) : r <= most := by
 unfold bnd at h;split at h
 ·cases h; exact hd
 ·split at h
  ·cases h; omega
  ·cases h
 ·cases h
def q52 (P : Program) (Z : Nat -> Prop) (H : IH) (M : Nat -> Option (Nat × PO)) (x : Option PV) (v : Option Value) : Prop := (∀ y, x = some y -> ∃ u, v = some u ∧ VR P Z H M y u) ∧ (x = none -> v = none)
theorem q52.of {env : List PV} {ienv : Env} (he : VRL P Z H M env ienv) (x : Option Operand) : q52 P Z H M (x.map (qP env)) (x.map ienv.val) := by
 cases x with
 | none => exact ⟨fun y h => (by cases h), fun _ => rfl⟩
 | some x => exact ⟨fun y h => (by cases h; exact ⟨_, rfl, qK he x⟩), fun h => (by cases h)⟩
theorem nQ {el : TypeId} {sp : Option TypeId} (h : sp = none ∨ sp = some el) : sp.all (· == el) = true := by
 rcases h with rfl | rfl <;> simp
theorem qQY {t : TypeId} {lo hi : Option PV} {vlo vhi : Option Value} (hp : Hp P Z H (own m ph)) (hx : VR P Z H (own m ph) x v) (hlo : q52 P Z H (own m ph) lo vlo) (hhi : q52 P Z H (own m ph) hi vhi) (h : wX P t x lo hi ph = some y) :
 ∃ u, vO P t v vlo vhi none = some u ∧ VR P Z H (own m ph) y u := by
 unfold wX at h;split at h
 ·-- a list that is not written
  rename_i el n cs;split at h
  ·rename_i el' s hh he hs hbh;split at h
   ·rename_i l hbl
    cases hc : (Nat.beq el' el && Nat.beq (n * s) cs.length) with
    | false => rw [hc] at h; cases h
    | true =>
      rw [hc] at h; cases h;rw [Bool.and_eq_true] at hc;have hel := Nat.eq_of_beq_eq_true hc.1;have hns := Nat.eq_of_beq_eq_true hc.2;subst hel;have hle : hh <= n := qAK (Nat.le_refl _) hbh;have hll : l <= hh := qAK (Nat.zero_le _) hbl
      cases hx with
      | f hx =>
        cases hx with
        | nil h0 hsp =>
          rename_i a c;have hh0 : hh = 0 := by omega
          subst hh0;have hl0 : l = 0 := by omega
          subst hl0
          cases a with
          | none =>
            have := h0 rfl;subst this;have b1 := uI hhi.1 hhi.2 (Nat.le_refl 0) hbh;have b2 := uI hlo.1 hlo.2 (Nat.le_refl 0) hbl;refine ⟨.slice none 0 0, ?_, .f (.nil (fun _ => rfl) (fun x h => by cases h))⟩;unfold vO;simp only [yK he, hs, b1, b2]
          | some a =>
            obtain ⟨b, o, sp⟩ := a;have hsp' := hsp _ rfl;have b1 := uI hhi.1 hhi.2 (Nat.zero_le c) hbh;have b2 := uI hlo.1 hlo.2 (Nat.le_refl 0) hbl;refine ⟨.slice (some ⟨b, if c = 0 then o else o + 0 * s, sp⟩) (0 - 0) (c - 0), ?_, .f (.nil (fun h => by cases h) (fun x h => by cases h; exact hsp'))⟩;unfold vO;simp only [yK he, hs, b1, b2];rw [if_pos (by rw [nQ hsp']; simp [Nat.ble_eq])]
        | @l _ _ _ b o sp c vs hz hb hn hsp hl hcv =>
          have b1 := uI hhi.1 hhi.2 hn hbh;have b2 := uI hlo.1 hlo.2 (Nat.le_refl hh) hbl;refine ⟨.slice (some ⟨b, if c = l then o else o + l * s, sp⟩) (hh - l) (c - l), ?_, ?_⟩
          ·unfold vO;simp only [yK he, hs, b1, b2];rw [if_pos (by rw [nQ hsp]; simp [Nat.ble_eq]; omega)]
          ·by_cases hlh : l = hh
           ·subst hlh;have : Nat.beq l l = true := by simp
            rw [this, Nat.sub_self];exact .f (.nil (fun h => by cases h) (fun x h => by cases h; exact hsp))
           ·have : Nat.beq l hh = false := by
             cases hq : Nat.beq l hh with
             | false => rfl
             | true => exact absurd (Nat.eq_of_beq_eq_true hq) hlh
            rw [this, if_neg (by omega)];have hlen := xN hl;refine .f (.l (vs := (vs.drop (l * s)).take ((hh - l) * s)) hz hb (by omega) hsp ?_ fun i x v h1 h2 => ?_)
            ·unfold IH.loads at hl ⊢;split at hl
             ·rename_i c0 el0 fz0 hg;split at hl
              ·rename_i hbd;cases hl;have hl0 : l * s <= cs.length := by rw [<- hns]; exact Nat.mul_le_mul_right _ (by omega)
               rw [if_pos (by simp only [List.length_take, List.length_drop]; omega)];rw [List.drop_take, List.take_take, List.drop_drop]
               congr 2
               simp only [List.length_take, List.length_drop]
              ·cases hl
             ·cases hl
            ·have e1 : cs[l * s + i]? = some x := by
              rw [List.getElem?_take] at h1;split at h1
              ·rw [List.getElem?_drop] at h1; exact h1
              ·cases h1
             have e2 : vs[l * s + i]? = some v := by
              rw [List.getElem?_take] at h2;split at h2
              ·rw [List.getElem?_drop] at h2; exact h2
              ·cases h2
             exact hcv _ _ _ e1 e2
   ·cases h
  ·cases h
 ·-- nil
  have hv := kC hx rfl;subst hv;split at h
  ·rename_i el h1 l1 he hbh hbl
   cases hc : (szT P el).isSome with
   | false => rw [hc] at h; cases h
   | true =>
     rw [hc] at h; cases h;obtain ⟨s, hs⟩ := Option.isSome_iff_exists.1 hc;have q1 : h1 <= 0 := qAK (Nat.le_refl _) hbh;have q2 : h1 = 0 := by omega
     subst q2;have b1 := uI hhi.1 hhi.2 (Nat.le_refl 0) hbh;have b2 := uI hlo.1 hlo.2 (Nat.le_refl 0) hbl;refine ⟨.slice none 0 0, ?_, hx⟩;unfold vO;simp only [yK he, hs, b1, b2]
  ·cases h
 ·-- a slice of an object
  rename_i k tt o n;split at h
  ·rename_i ob hl;split at h
   ·rename_i el' s hh he hs hbh;split at h
    ·rename_i l hbl
     cases hc : (Nat.beq el' ob.el && Nat.beq (tt * s) ob.cs.length) with
     | false => rw [hc] at h; cases h
     | true =>
       rw [hc] at h; cases h;rw [Bool.and_eq_true] at hc;have hel := Nat.eq_of_beq_eq_true hc.1;subst hel;have hts := Nat.eq_of_beq_eq_true hc.2;have hle : hh <= n := qAK (Nat.le_refl _) hbh;have hll : l <= hh := qAK (Nat.zero_le _) hbl;obtain ⟨hO, h0⟩ := wR hx hl hs hts
       rcases hO with ⟨g1, rfl, rfl, rfl, rfl⟩ | ⟨g1, g2, g3, rfl⟩
       ·have hh0 : hh = 0 := by omega
        subst hh0;have hl0 : l = 0 := by omega
        subst hl0;have b1 := uI hhi.1 hhi.2 (Nat.le_refl 0) hbh;have b2 := uI hlo.1 hlo.2 (Nat.le_refl 0) hbl;refine ⟨.slice none 0 0, ?_, hx⟩;unfold vO;simp only [yK he, hs, b1, b2]
       ·have b1 := uI hhi.1 hhi.2 (show n <= tt - o by omega) hbh;have b2 := uI hlo.1 hlo.2 (Nat.le_refl hh) hbl;have hsp : (cond ob.gr (some ob.el) none : Option TypeId) = none ∨ (cond ob.gr (some ob.el) none : Option TypeId) = some ob.el := by cases ob.gr <;> simp
        refine ⟨.slice (some ⟨m k, if tt - o = l then o * s else o * s + l * s, cond ob.gr (some ob.el) none⟩) (hh - l) (tt - o - l), ?_, ?_⟩
        ·unfold vO;simp only [yK he, hs, b1, b2];rw [if_pos (by rw [nQ hsp]; simp [Nat.ble_eq]; omega)]
        ·by_cases hl0 : l = 0
         ·subst hl0;have : Nat.beq 0 0 = true := rfl;rw [this];refine .own rfl fun b' ob' hM => ?_
          rw [zG hl] at hM; cases hM;refine ⟨s, hs, h0, by omega, fun _ => .inr ⟨g1, by omega, g3, ?_⟩⟩;simp
         ·have e0 : Nat.beq l 0 = false := by cases l with
           | zero => exact absurd rfl hl0
           | succ l => rfl
          rw [e0];by_cases hlh : l = hh
          ·subst hlh;have : Nat.beq l l = true := by simp
           rw [this, Nat.sub_self];exact .f (.nil (fun h => by cases h) (fun x h => by cases h; exact hsp))
          ·have : Nat.beq l hh = false := by
            cases hq : Nat.beq l hh with
            | false => rfl
            | true => exact absurd (Nat.eq_of_beq_eq_true hq) hlh
           rw [this, if_neg (by omega)];refine .own rfl fun b' ob' hM => ?_
           rw [zG hl] at hM; cases hM;refine ⟨s, hs, h0, by omega, fun _ => .inr ⟨g1, by omega, .inr (by omega), ?_⟩⟩;rw [Nat.add_mul]
           congr 1; omega
    ·cases h
   ·cases h
  ·cases h
 ·-- an array
  rename_i k tt;split at h
  ·rename_i ob hl;split at h
   ·rename_i mm el ha;split at h
    ·rename_i s hh hs hbh;split at h
     ·rename_i l hbl
      cases hc : (Nat.beq el ob.el && (Nat.beq tt ob.cs.length && (Nat.beq (mm * (s + 1)) tt && !ob.gr))) with
      | false => rw [hc] at h; cases h
      | true =>
        rw [hc] at h; cases h;simp only [Bool.and_eq_true] at hc;obtain ⟨c1, c2, c3, c4⟩ := hc;have hel := Nat.eq_of_beq_eq_true c1;have ht := Nat.eq_of_beq_eq_true c2;have hm := Nat.eq_of_beq_eq_true c3;have hgr : ob.gr = false := by simpa using c4
        subst hel;obtain ⟨rfl, _⟩ := bD hx hl ht;have hle : hh <= mm := qAK (Nat.le_refl _) hbh;have hll : l <= hh := qAK (Nat.zero_le _) hbl;have b1 := uI hhi.1 hhi.2 (Nat.le_refl mm) hbh;have b2 := uI hlo.1 hlo.2 (Nat.le_refl hh) hbl
        have hu : P.underlying t = some (.array mm ob.el) := by
         unfold qSU at ha;split at ha
         ·rename_i a b hab; cases ha; exact hab
         ·cases ha
        refine ⟨.slice (some ⟨m k, if mm = l then 0 else 0 + l * (s + 1), none⟩) (hh - l) (mm - l), ?_, ?_⟩
        ·unfold vO;simp only [hu, hs, b1, b2]
        ·by_cases hl0 : l = 0
         ·subst hl0;have : Nat.beq 0 0 = true := rfl;rw [this];refine .own rfl fun b' ob' hM => ?_
          rw [zG hl] at hM; cases hM;refine ⟨s + 1, hs, by omega, by omega, fun _ => .inr ⟨(by rw [hgr]; intro h; cases h), by omega, .inl rfl, ?_⟩⟩;simp [hgr]
         ·have e0 : Nat.beq l 0 = false := by cases l with
           | zero => exact absurd rfl hl0
           | succ l => rfl
          rw [e0];by_cases hlh : l = hh
          ·subst hlh;have : Nat.beq l l = true := by simp
           rw [this, Nat.sub_self];exact .f (.nil (fun h => by cases h) (fun x h => by cases h; exact .inl rfl))
          ·have : Nat.beq l hh = false := by
            cases hq : Nat.beq l hh with
            | false => rfl
            | true => exact absurd (Nat.eq_of_beq_eq_true hq) hlh
           rw [this, if_neg (by omega)];refine .own rfl fun b' ob' hM => ?_
           rw [zG hl] at hM; cases hM;refine ⟨s + 1, hs, by omega, by omega, fun _ => .inr ⟨(by rw [hgr]; intro h; cases h), by omega, .inr (by omega), ?_⟩⟩;simp [hgr]
     ·cases h
    ·cases h
   ·cases h
  ·cases h
 ·cases h
end Go.Idl
namespace Go.Idl
variable [Gc]
variable {P : Program} {Z : Nat -> Prop} {H : IH} {M : Nat -> Option (Nat × PO)} {m : Nat -> Nat} {ph : PHp}
variable {H0 : IH} {b : Bool} {env : Env} {i n : Nat} {ix x y : PV} {o : Oper} {op : BinOp} {t ty : TypeId} {u v vi : Value}
theorem qKY {lo hi mx : Option Value} (h : vO P t v lo hi mx = some u) : kQ P o t v lo hi mx env H = some (.val u H) := by
 have hs : ∀ s, vO P t (.string s) lo hi mx = none := fun s => by
  unfold vO
  cases P.underlying t with
  | none => rfl
  | some d => cases d <;> cases mx <;> rfl
 unfold kQ;split
 ·rw [hs] at h; cases h
 ·rw [h]; rfl
theorem qOC {t off ft : Nat} (h : q5S P t i = some (off, ft)) : ∃ fields f, P.underlying t = some (.struct fields) ∧ fields[i]? = some f ∧ f.offset = off ∧ f.type = ft := by
 unfold q5S at h;split at h
 ·rename_i fields hu;split at h
  ·rename_i f hf; cases h; exact ⟨fields, f, hu, hf, rfl, rfl⟩
  ·cases h
 ·cases h
theorem sH {t el : Nat} (h : qSU P t = some (n, el)) : P.underlying t = some (.array n el) := by
 unfold qSU at h;split at h
 ·rename_i a b hab; cases h; exact hab
 ·cases h
theorem qFE (hx : VR P Z H (own m ph) x v) (h : yG P t x i ph = some y) : ∃ u, bV P t v i = some u ∧ VR P Z H (own m ph) y u := by
 unfold yG at h;split at h
 ·rename_i off ft hf;obtain ⟨fields, f, q1, q2, rfl, rfl⟩ := qOC hf;split at h
  ·rename_i s hs
   have go : ∀ b o, bV P t (.pointer (some ⟨b, o, none⟩)) i = some (.pointer (some ⟨b, o + f.offset, none⟩)) := fun b o => by
    unfold bV;simp only [q1, q2, hs];rw [if_neg (by omega)]
   split at h
   ·rename_i k tt o
    cases hb : live? k tt ph with
    | false => rw [hb] at h; cases h
    | true =>
      rw [hb] at h; cases h;obtain ⟨ob, h1, h2⟩ := qEQ hb;obtain ⟨rfl, hz⟩ := bD hx h1 h2;refine ⟨_, go _ _, .ref rfl fun b' ob' hM => ?_⟩;rw [zG h1] at hM; cases hM;exact ⟨by omega, fun _ => ⟨rfl, hz⟩⟩
   ·rename_i cs o;cases h
    cases hx with
    | lp hz hb hl hc =>
      refine ⟨_, go _ _, ?_⟩;rw [Nat.add_assoc];exact .lp hz hb hl hc
   ·cases h
  ·cases h
 ·cases h
theorem qWW (hx : VR P Z H M x v) (h : qC4 P t x i = some y) : ∃ u, qIE P t v i = some u ∧ VR P Z H M y u := by
 unfold qC4 at h;split at h
 ·rename_i off ft cs hf;obtain ⟨fields, f, q1, q2, rfl, rfl⟩ := qOC hf
  cases hx with
  | agg hl hc =>
    rename_i vs;obtain ⟨u, h1, h2⟩ := sU (vs := vs.toList) ⟨by simpa using hl, fun i x v a b => hc i x v a (by simpa using b)⟩ h;refine ⟨u, ?_, h2⟩;unfold qIE;simp only [q1, q2];rw [qAM]; exact h1
 ·cases h
theorem qAE {j : Nat} {i : Int} (h : idx n i = some j) : i = (j : Int) ∧ j < n := by
 unfold idx at h;split at h
 ·cases h; omega
 ·cases h
theorem qG1 (hp : Hp P Z H (own m ph)) (hx : VR P Z H (own m ph) x v) (hi : VR P Z H (own m ph) ix vi) (h : zF P t x ix ph = some y) : ∃ u, yC P t v vi = some u ∧ VR P Z H (own m ph) y u := by
 unfold zF at h;split at h
 ·rename_i kk i;have := kC hi rfl;subst this;split at h
  ·rename_i el n cs;split at h
   ·rename_i el' he;split at h
    ·rename_i s hs;split at h
     ·rename_i j hj;cases h;obtain ⟨rfl, hlt⟩ := qAE hj
      cases hx with
      | f hx =>
        cases hx with
        | nil => omega
        | l hz hb hn hsp hl hc =>
          refine ⟨_, ?_, .lp hz hb hl hc⟩;unfold yC;simp only [yK he, hs];rw [if_pos (by simp; omega)];simp
     ·cases h
    ·cases h
   ·cases h
  ·rename_i k tt o n;split at h
   ·rename_i el' ob he hl;split at h
    ·rename_i s hs;split at h
     ·rename_i j hj
      cases hc : (Nat.beq el' ob.el && Nat.beq (tt * s) ob.cs.length) with
      | false => rw [hc] at h; cases h
      | true =>
        rw [hc] at h; cases h;rw [Bool.and_eq_true] at hc;have hel := Nat.eq_of_beq_eq_true hc.1;subst hel;obtain ⟨rfl, hlt⟩ := qAE hj;obtain ⟨hO, h0⟩ := wR hx hl hs (Nat.eq_of_beq_eq_true hc.2)
        rcases hO with ⟨_, _, _, rfl, _⟩ | ⟨g1, g2, g3, rfl⟩
        ·omega
        ·refine ⟨.pointer (some ⟨m k, (o + j) * s, none⟩), ?_, qS5 (zG hl) fun hg => ?_⟩
         ·unfold yC;simp only [yK he, hs];rw [if_pos (by simp; omega)];simp [Nat.add_mul]
         ·rw [<- Nat.eq_of_beq_eq_true hc.2];have := g1 hg;exact Nat.ne_of_gt (Nat.mul_pos (by omega) h0)
     ·cases h
    ·cases h
   ·cases h
  ·rename_i k tt off;split at h
   ·rename_i n el ha;split at h
    ·rename_i s j hs hj
     cases hb : live? k tt ph with
     | false => rw [hb] at h; cases h
     | true =>
       rw [hb] at h; cases h;obtain ⟨ob, h1, h2⟩ := qEQ hb;obtain ⟨rfl, hz⟩ := bD hx h1 h2;obtain ⟨rfl, hlt⟩ := qAE hj;refine ⟨.pointer (some ⟨m k, off + j * s, none⟩), ?_, .ref rfl fun b' ob' hM => ?_⟩
       ·unfold yC;simp only [sH ha, hs];rw [if_pos (by simp; omega)];simp
       ·rw [zG h1] at hM; cases hM;exact ⟨by omega, fun _ => ⟨rfl, hz⟩⟩
    ·cases h
   ·cases h
  ·rename_i cs off;split at h
   ·rename_i n el ha;split at h
    ·rename_i s j hs hj;cases h;obtain ⟨rfl, hlt⟩ := qAE hj
     cases hx with
     | lp hz hb hl hc =>
       refine ⟨_, ?_, .lp hz hb hl hc⟩;unfold yC;simp only [sH ha, hs];rw [if_pos (by simp; omega)];simp [Nat.add_assoc]
    ·cases h
   ·cases h
  ·cases h
 ·cases h
theorem qTN (hx : VR P Z H M x v) (hi : VR P Z H M ix vi) (h : qD3 P t x ix = some y) : ∃ u, pY P t v vi = some u ∧ VR P Z H M y u := by
 unfold qD3 at h;split at h
 ·rename_i n el cs kk i ha;have := kC hi rfl;subst this;split at h
  ·rename_i s j hs hj;obtain ⟨rfl, hlt⟩ := qAE hj
   cases hx with
   | agg hl hc =>
     rename_i vs;obtain ⟨u, h1, h2⟩ := sU (vs := vs.toList) ⟨by simpa using hl, fun i x v a b => hc i x v a (by simpa using b)⟩ h;refine ⟨u, ?_, h2⟩;unfold pY;simp only [sH ha, hs];rw [if_pos (by simp; omega), qAM];simpa using h1
  ·cases h
 ·cases h
theorem qKM {ix : Value} (h : pY P t v ix = some u) : uH P o t v ix env H = some (.val u H) := by
 have hs : ∀ s, pY P t (.string s) ix = none := fun s => by
  unfold pY
  cases P.underlying t with
  | none => rfl
  | some d => cases d <;> rfl
 unfold uH;split
 ·rw [hs] at h; cases h
 ·rw [h]; rfl
theorem qKX (hx : VR P Z H M x v) (h : bK x i = some y) : ∃ u, gP v i H = some (.val u H) ∧ VR P Z H M y u := by
 unfold bK at h;split at h
 ·rename_i cs;split at h
  ·rename_i z hz
   cases hn : pnt z with
   | false => rw [hn] at h; cases h
   | true =>
     rw [hn] at h; cases h
     cases hx with
     | tup hl hc =>
       rename_i vs;rw [qG] at hz;have hlt := (List.getElem?_eq_some_iff.1 hz).1;have hv : vs[i]? = some (vs[i]'(by rw [<- hl]; exact hlt)) := Array.getElem?_eq_getElem _;have hr := hc i _ _ hz hv;refine ⟨_, ?_, hr⟩;have : vs.toList[i]? = some (vs[i]'(by rw [<- hl]; exact hlt)) := by simp
       show wC H (z8 vs.toList i) = _;rw [qG, this];unfold wC;simp only [(hr.cells hn).2, cond_true]
  ·cases h
 ·cases h
theorem qLH {r : Option Step1} {s : Option Step1} (h : qRK r = some x) (hs : ∀ v H0, r = some (.val v H0) -> s = some (.val v H)) : ∃ u, s = some (.val u H) ∧ VR P Z H M x u := by
 unfold qRK at h;split at h
 ·rename_i v H0;cases h;exact ⟨v, hs v H0 rfl, qTD v⟩
 ·cases h
theorem qVV {H' : IH} (h : kS P o env H0 = some (.val v H')) : ∀ H, kS P o env H = some (.val v H) := by
 obtain ⟨w, h1, h2⟩ := Loose.dry o env H0 _ h;cases h1;exact h2
theorem qVE {op : Op} (he : kS P o env H = kS P (cop op ty) [] H) (h : qLT P op ty = some x) : ∃ u, kS P o env H = some (.val u H) ∧ VR P Z H M x u := by
 unfold qLT at h;exact qLH h fun v H0 hv => by rw [he]; exact qVV hv H
theorem qOS {mk : Operand -> Op} (hx : VR P Z H M x v) (he : kS P o env H = kS P (cop (mk (.const v)) ty) [] H) (h : aI P mk x ty = some y) : ∃ u, kS P o env H = some (.val u H) ∧ VR P Z H M y u := by
 unfold aI at h;split at h
 ·rename_i a ha;have := kC hx ha;subst this;exact qVE he h
 ·cases h
theorem qX2 (hx : VR P Z H (own m ph) x v) (h : isNil (P := P) x ph = some b) : ∃ a n c, v = .slice a n c ∧ b = a.isNone := by
 unfold isNil at h;split at h
 ·cases h;have := kC hx rfl;exact ⟨none, _, _, this, rfl⟩
 ·cases h
  cases hx with
  | f hx => cases hx with
    | l => exact ⟨_, _, _, rfl, rfl⟩
 ·rename_i k t o n;split at h
  ·rename_i ob hl;split at h
   ·rename_i s hs
    cases hc : Nat.beq (t * s) ob.cs.length with
    | false => rw [hc] at h; cases h
    | true =>
      rw [hc] at h; cases h;obtain ⟨hO, h0⟩ := wR hx hl hs (Nat.eq_of_beq_eq_true hc)
      rcases hO with ⟨g1, rfl, _, _, rfl⟩ | ⟨g1, _, _, rfl⟩
      ·exact ⟨none, _, _, rfl, by rw [g1]; rfl⟩
      ·refine ⟨_, _, _, rfl, ?_⟩
       cases hg : ob.gr with
       | false => rfl
       | true =>
         have := g1 hg
         cases t with
         | zero => exact absurd rfl this
         | succ t => rfl
   ·cases h
  ·cases h
 ·cases h
theorem qR3 (hx : VR P Z H M x v) (h : qN3 x = some b) : (v = .nilFunc ∧ b = true) ∨ (∃ f a c, v = .func f a c ∧ b = false) := by
 unfold qN3 at h;split at h
 ·cases h;exact .inl ⟨kC hx rfl, rfl⟩
 ·cases h;exact .inr ⟨_, _, _, kC hx rfl, rfl⟩
 ·cases h;cases hx;exact .inr ⟨_, _, _, rfl, rfl⟩
 ·cases h
theorem qSO {op : BinOp} {vx vy : Value} (hx : VR P Z H (own m ph) x vx) (hy : VR P Z H (own m ph) y vy) (h : qXD P t x y ph = some b) :
 xB P o .eql t vx vy env H = some (.val (.bool b) H) ∧ xB P o .neq t vx vy env H = some (.val (.bool !b) H) := by
 have key : asI vx = none ∧ rM P t vx vy = some b := by
  unfold qXD at h;split at h
  ·rename_i n c;have := kC hy rfl;subst this
   cases hc : (xH P t).isSome with
   | false => rw [hc] at h; cases h
   | true =>
     rw [hc] at h;obtain ⟨a, n', c', rfl, rfl⟩ := qX2 hx h;obtain ⟨el, he⟩ := Option.isSome_iff_exists.1 hc;refine ⟨rfl, ?_⟩;have e1 : uV (.slice a n' c') (.slice none n c) = some a.isNone := by cases a <;> rfl
     have e2 : aC P t (.slice a n' c') = true := by unfold aC; rw [yK he]
     unfold rM;rw [e1];simp only [e2, cond_true]
  ·have := kC hy rfl;subst this
   cases hc : qXB P t with
   | false => rw [hc] at h; cases h
   | true =>
     rw [hc] at h;unfold qXB at hc;split at hc
     ·rename_i p1 p2 p3 hu
      rcases qR3 hx h with ⟨rfl, rfl⟩ | ⟨f, a, c, rfl, rfl⟩
      ·refine ⟨rfl, ?_⟩;unfold rM uV aC;simp only [hu, cond_true]
      ·refine ⟨rfl, ?_⟩;unfold rM uV aC;simp only [hu, cond_true]
     ·cases hc
  ·cases h
 constructor
 ·unfold xB;rw [key.1];simp only [nilBin, key.2]
 ·unfold xB;rw [key.1];simp only [nilBin, key.2]
theorem qUS {o' : Oper} {a b : Value} {env' : Env} {H1 : IH} (hd : ∀ H, kS P o env H = kS P o' env' H) (h : xB P o' op t a b env' H0 = some (.val v H1)) : xB P o op t a b env H = some (.val v H) := by
 have e : ∀ H, xB P o op t a b env H = xB P o' op t a b env' H := fun H => by
  simp only [xB, intBin2, nilBin, hd]
 rw [e];obtain ⟨w, h1, h2⟩ := Loose.binOp (P := P) o' op t a b env' H0 _ h;cases h1;exact h2 H
theorem q3A {d : Option Tmp} {t2 : TypeId} {ox oy : Operand} {pos : String} {aft : Array Edge} {g : Option (Nat × Bool)} {z : PV} (hx : VR P Z H (own m ph) x (env.val ox)) (hy : VR P Z H (own m ph) y (env.val oy)) (h : gF P op t t2 x y ph = some z) :
 ∃ u, xB P ⟨d, .binOp op t ox oy t2, ty, pos, aft, g⟩ op t (env.val ox) (env.val oy) env H = some (.val u H) ∧ VR P Z H (own m ph) z u := by
 unfold gF at h;split at h
 ·rename_i a b ha hb;have e1 := kC hx ha;have e2 := kC hy hb
  cases hi : q60 a with
  | true => rw [hi] at h; cases h
  | false =>
    rw [hi] at h;refine qLH h fun v H0 hv => qUS (fun H => ?_) (by rw [e1, e2]; exact hv)
    have hd : execOp env.val ⟨d, .binOp op t ox oy t2, ty, pos, aft, g⟩ = execOp (Env.val []) (cop (.binOp op t (.const a) (.const b) t2)) := by
     show (do let x <- (do eqGuard op t ox oy (env.val ox) (env.val oy); binOp op t (env.val ox) (env.val oy)); pure (Next.value x)) = (do let x <- (do eqGuard op t (.const a) (.const b) a b; binOp op t a b); pure (Next.value x));rw [e1, e2]
     have : eqGuard op t ox oy a b = eqGuard op t (.const a) (.const b) a b := by
      cases a <;> first | (cases hi; done) | rfl | (cases b <;> rfl)
     rw [this]
    unfold kS;rw [hd]
    have hpl : kZ env.val (Op.binOp op t ox oy t2).operands.toList = kZ (Env.val []) (cop (.binOp op t (.const a) (.const b) t2)).op.operands.toList := by
     show [env.val ox, env.val oy] = [a, b];rw [e1, e2]
    simp only [hpl]
 ·split at h
  ·obtain ⟨b, hb, rfl⟩ := Option.map_eq_some_iff.1 h;exact ⟨_, (qSO (op := .eql) hx hy hb).1, wB rfl⟩
  ·obtain ⟨b, hb, rfl⟩ := Option.map_eq_some_iff.1 h;exact ⟨_, (qSO (op := .eql) hx hy hb).2, wB rfl⟩
  ·cases h
end Go.Idl
namespace Go.Idl
variable [Gc]
variable {P : Program} {Z : Nat -> Prop} {H : IH} {M : Nat -> Option (Nat × PO)} {m : Nat -> Nat} {ph : PHp}
variable {a v : Value} {args : Array Operand} {b : Builtin} {d : Option Tmp} {env : Env} {g : Option (Nat × Bool)} {n : Nat} {o : Oper} {ph' : PHp} {ts : Array TypeId} {ty : TypeId} {x y : PV}
theorem aJ {s : Step1} (h : yO P b ⟨.builtin b, args, ts⟩ (kZ env.val args.toList) H = some s) : yN P o ⟨.builtin b, args, ts⟩ env H = some s := by
 have : aR P ⟨.builtin b, args, ts⟩ env H = some s := h;unfold yN; rw [this]
theorem qMN {s : Option Step1} (hn : yO P b ⟨.builtin b, args, ts⟩ (kZ env.val args.toList) H = none) (h : kS P o env H = s) : yN P o ⟨.builtin b, args, ts⟩ env H = s := by
 have : aR P ⟨.builtin b, args, ts⟩ env H = none := hn;unfold yN; rw [this]; exact h
theorem q57 (P : Program) (h : pl (ofC v) = some a) : a = v := (kC (P := P) (Z := fun _ => False) (H := H00) (M := fun _ => none) (qTD v) h).symm
theorem bB (P : Program) {env : List PV} {x : Operand} (h : pl (qP env x) = some a) : (qRG env).val x = a := by
 cases x with
 | tmp t =>
   have h : pl ((z8 env t).getD .unk) = some a := h;unfold Env.val qRG;rw [qG] at h;simp only [qG, vI, List.getElem?_map]
   cases he : env[t]? with
   | none => rw [he] at h; cases h
   | some y => rw [he] at h; simp only [Option.getD_some] at h; simp [erV, h]
 | const v => exact (q57 P h).symm
 | global g => cases h
 | func g => cases h; rfl
theorem qE8 : ∀ {xs : List PV} {as : List Value}, plL xs = some as -> ∀ x ∈ xs, ∃ a, pl x = some a
 | [], _, _, x, hx => by cases hx
 | y :: xs, as, h, x, hx => by
   unfold plL at h;split at h
   ·rename_i a ha;split at h
    ·rename_i as' has;rcases List.mem_cons.1 hx with rfl | hx
     ·exact ⟨a, ha⟩
     ·exact qE8 has x hx
    ·cases h
   ·cases h
theorem qBL {pos : String} {aft : Array Edge} {env : List PV} {ienv : Env} (he : VRL P Z H (own m ph) env ienv)
 (hn : yO P b ⟨.builtin b, args, ts⟩ (kZ ienv.val args.toList) H = none) (h : vP P b ⟨.builtin b, args, ts⟩ (args.toList.map (qP env)) env ty ph = some (y, ph')) :
 ph' = ph ∧ ∃ u, yN P ⟨d, .call ⟨.builtin b, args, ts⟩, ty, pos, aft, g⟩ ⟨.builtin b, args, ts⟩ ienv H = some (.val u H) ∧ VR P Z H (own m ph) y u := by
 unfold vP at h;split at h
 ·rename_i vs hvs;unfold pp1 at h;split at h
  ·rename_i v hv;cases h;refine ⟨rfl, ?_⟩
   obtain ⟨u, h1, h2⟩ := qLH (P := P) (Z := Z) (H := H) (M := own m ph) (s := kS P ⟨d, .call ⟨.builtin b, args, ts⟩, ty, pos, aft, g⟩ ienv H) hv fun w H0 hw => by
    have e : kS P ⟨d, .call ⟨.builtin b, args, ts⟩, ty, pos, aft, g⟩ ienv H = kS P ⟨d, .call ⟨.builtin b, args, ts⟩, ty, pos, aft, g⟩ (qRG env) H := by
     refine pF (fun cs b h => by cases h) fun x hx => ?_
     have hx' : x ∈ args := by simpa [Op.operands, Call.operands] using hx
     obtain ⟨a, ha⟩ := qE8 hvs (qP env x) (List.mem_map.2 ⟨x, by simpa using hx', rfl⟩);rw [bB P ha];exact kC (qK he x) ha
    rw [e];have e2 : ∀ H, kS P ⟨d, .call ⟨.builtin b, args, ts⟩, ty, pos, aft, g⟩ (qRG env) H = kS P (cop (.call ⟨.builtin b, args, ts⟩) ty) (qRG env) H := fun H => rfl
    rw [e2];exact qVV hw H
   exact ⟨u, qMN hn h1, h2⟩
  ·cases h
 ·cases h
theorem qWI {el : Nat} {cs : List FV} (h : VR P Z H M (.f (.l el n cs)) v) : ∃ a c, v = .slice a n c := by
 cases h with
 | f h => cases h <;> exact ⟨_, _, rfl⟩
theorem q2B {x : Operand} {pos : String} {aft : Array Edge} {px : PV} (hx : VR P Z H (own m ph) px (env.val x)) (h : qY7 P ts px ph = some y) :
 ∃ u, yN P ⟨d, .call ⟨.builtin .len, #[x], ts⟩, ty, pos, aft, g⟩ ⟨.builtin .len, #[x], ts⟩ env H = some (.val u H) ∧ VR P Z H (own m ph) y u := by
 have hb : ∀ s, aS P ts [env.val x] H = s -> yO P .len ⟨.builtin .len, #[x], ts⟩ (kZ env.val #[x].toList) H = s := fun s h => h
 unfold qY7 at h;split at h
 ·rename_i t ht;split at h
  ·rename_i el he
   have hsl : ∀ a n c, env.val x = .slice a n c -> ∃ u, yN P ⟨d, .call ⟨.builtin .len, #[x], ts⟩, ty, pos, aft, g⟩ ⟨.builtin .len, #[x], ts⟩ env H = some (.val u H) ∧ VR P Z H (own m ph) (fvv (.int .i64 (n : Int))) u := fun a n c hv => by
    refine ⟨goInt n, aJ (hb _ ?_), wB rfl⟩;unfold aS;rw [ht, hv];simp only [Option.bind_some, yK he]
   split at h
   ·cases h;obtain ⟨a, c, hv⟩ := qWI hx;exact hsl _ _ _ hv
   ·cases h;exact hsl _ _ _ (kC hx rfl)
   ·rename_i k tt o n;split at h
    ·rename_i ob hl;split at h
     ·rename_i s hs
      cases hc : Nat.beq (tt * s) ob.cs.length with
      | false => rw [hc] at h; cases h
      | true =>
        rw [hc] at h; cases h;obtain ⟨hO, h0⟩ := wR hx hl hs (Nat.eq_of_beq_eq_true hc)
        rcases hO with ⟨_, _, _, rfl, hv⟩ | ⟨_, _, _, hv⟩
        ·exact hsl _ _ _ hv
        ·exact hsl _ _ _ hv
     ·cases h
    ·cases h
   ·cases h
  ·rename_i hne;split at h
   ·rename_i n el ha;cases h;refine ⟨goInt n, aJ (hb _ ?_), wB rfl⟩;unfold aS;rw [ht];simp only [Option.bind_some, sH ha]
   ·cases h
 ·cases h
theorem qO3 {s : Nat} {new : List PV} (hp : Hp P Z H (own m ph)) (hx : VR P Z H (own m ph) x v) (h : qE5 P s x ph = some (n, new)) :
 ∃ vs a c, v = .slice a n c ∧ xZ s n H v = some vs ∧ VRL P Z H (own m ph) new vs ∧ new.length = n * s := by
 unfold qE5 at h;split at h
 ·rename_i el n' cs
  cases hc : Nat.beq (n' * s) cs.length with
  | false => rw [hc] at h; cases h
  | true =>
    rw [hc] at h; cases h;have hlen := Nat.eq_of_beq_eq_true hc
    cases hx with
    | f hx =>
      cases hx with
      | nil h0 hsp => exact ⟨[], _, _, rfl, by unfold xZ; simp [xY], by simpa using VRL.nil, by simp⟩
      | @l _ _ _ b o sp c vs hz hb hn hsp hl hcv =>
        refine ⟨vs, _, _, rfl, ?_, qS8 (by rw [xN hl]) hcv, by simp [hlen]⟩;unfold xZ;by_cases h0 : n = 0
        ·subst h0
         have : vs = [] := by
          have := xN hl;rw [<- hlen] at this;exact List.length_eq_zero_iff.1 (by omega)
         subst this;simp [xY]
        ·rw [if_neg h0];unfold jD;rw [hlen]; exact hl
 ·cases h;have := kC hx rfl;subst this;exact ⟨[], _, _, rfl, by unfold xZ; simp [xY], .nil, by simp⟩
 ·rename_i k tt o n';split at h
  ·rename_i ob hl;split at h
   ·rename_i s' hs
    cases hc : (Nat.beq (tt * s') ob.cs.length && Nat.beq s s') with
    | false => rw [hc] at h; cases h
    | true =>
      rw [hc] at h; cases h;rw [Bool.and_eq_true] at hc;have h1 := Nat.eq_of_beq_eq_true hc.1;have h2 := Nat.eq_of_beq_eq_true hc.2;subst h2;obtain ⟨hO, h0⟩ := wR hx hl hs h1
      rcases hO with ⟨g1, rfl, rfl, rfl, rfl⟩ | ⟨g1, g2, g3, rfl⟩
      ·exact ⟨[], _, _, rfl, by unfold xZ; simp [xY], by simpa using VRL.nil, by simp⟩
      ·obtain ⟨w1, w2, w3, vs, q1, q2, q3⟩ := hp.real hl (bA h1 h0 g1) (jW hs);have hle : (o + n) * s <= tt * s := Nat.mul_le_mul_right _ g2;rw [Nat.add_mul] at hle;refine ⟨(vs.drop (o * s)).take (n * s), _, _, rfl, ?_, (q2.drop _).take _, by simp; omega⟩;unfold xZ;by_cases hn0 : n = 0
       ·subst hn0; simp [xY]
       ·rw [if_neg hn0];unfold jD;exact jR q1 (by rw [<- q2.len]; omega) rfl
   ·cases h
  ·cases h
 ·cases h
theorem qU2 (g : Bool) : wZ (cond g qV (0, 0)) = true := by cases g <;> rfl
theorem qQM {el : TypeId} {i : TypeInfo} {need : Nat} {new : List Value} (hi : P.info? el = some i) (hs : wS P el = true) (hn : need <= 1048576) (h1 : new.all oneCell = true) :
 (decide (need <= 2 ^ 40) && decide (need * i.bytes <= 2 ^ 45) && new.all oneCell && ((uJ P el).map (·.cells.size)) == some i.size) = true := by
 obtain ⟨i', q1, q2, q3⟩ := qC8 hs;rw [hi] at q1; cases q1;rw [q3, h1];simp only [beq_self_eq_true, Bool.and_true, Bool.and_eq_true, decide_eq_true_eq];have : need * i.bytes <= 1048576 * 4096 := Nat.mul_le_mul hn q2;omega
theorem qQ0 {ts : List TypeId} {base : PV} {vb vx : Value} {k : Nat} (hp : Hp P Z H (own m ph)) (hb : H.base <= H.size) (hn : rV k ph = true) (hbase : VR P Z H (own m ph) base vb) (hx : VR P Z H (own m ph) x vx) (hkx : noK k x = true) (hkb : noK k base = true)
 (h : gL P ts base x k ph = some (y, ph')) : Res P Z H m ph (fun j => j == k) y ph' (yU P ts.toArray [vb, vx] H) := by
 unfold gL at h;split at h
 ·rename_i st xt;split at h
  ·rename_i el el2 he he2;split at h
   ·rename_i s hs;split at h
    ·rename_i mm new hnew;obtain ⟨vs, a, c, rfl, hf, hr, hlen⟩ := qO3 hp hx hnew;obtain ⟨i, hi, hisz⟩ : ∃ i, P.info? el = some i ∧ i.size = s + 1 := qNS hs
     have hnews : dO P el i (.slice el2) (.slice a mm c) H = some (mm, vs) := by
      unfold dO;simp only [xY, qIP, cond_true, hisz, hf, Option.map_some]
     have hnewk : xR k new = true := by
      unfold qE5 at hnew;split at hnew
      ·rename_i el3 n3 cs3
       cases hc : Nat.beq (n3 * (s + 1)) cs3.length with
       | false => rw [hc] at hnew; cases hnew
       | true =>
         rw [hc] at hnew; cases hnew
         have key : ∀ l : List FV, xR k (l.map PV.f) = true := fun l => by
          induction l with
          | nil => rfl
          | cons a l ih => simp only [List.map_cons, xR, noK, ih, Bool.and_self]
         exact key _
      ·cases hnew; rfl
      ·split at hnew
       ·rename_i ob hl;split at hnew
        ·rename_i s' hs'
         cases hc : (Nat.beq (_ * s') ob.cs.length && Nat.beq (s + 1) s') with
         | false => rw [hc] at hnew; cases hnew
         | true =>
           rw [hc] at hnew; cases hnew;exact qA9 (qAC (uE hn hl))
        ·cases hnew
       ·cases hnew
      ·cases hnew
     have iap : ∀ bs len cap, yU P #[st, xt] [.slice bs len cap, .slice a mm c] H = xX P el i bs len cap H (some (mm, vs)) := fun bs len cap => by
      unfold yU;simp only [yK he, yK he2, hi, hnews]
     -- it grows into a new block
     have grow : ∀ (old : List PV) (ovs : List Value) (n : Nat) (bs : Option Addr) (cap kk : Nat) (H1 : IH) (php : PHp) (p : Nat -> Bool), qAU P el (s + 1) old n new mm kk php = some (y, ph') -> VRL P Z H (own m ph) old ovs -> ovs.all oneCell = true -> cap < n + mm -> jD i.size n H (.slice bs n cap) = some ovs ->
      rO el H bs = some H1 -> H1.size = H.size -> H1.base = H.base -> (∀ b, b < H.size -> (∀ ob0, qE kk ph = some ob0 -> real ob0 -> b ≠ m kk) -> H1.get b = H.get b) -> (∀ j, j ≠ kk -> qE j php = qE j ph) ->
      (p kk = true ∨ ∃ ob0, qE kk ph = some ob0 ∧ ob0.cs.length < (old ++ new).length ∧ ob0.el = el) -> (∀ j, p j = true -> j = kk ∧ rV kk ph = true ∧ xR kk (old ++ new) = true) -> (∀ j, p j = true -> (j == k) = true) ->
      Res P Z H m ph (fun j => j == k) y ph' (xX P el i bs n cap H (some (mm, vs))) := by
      intro old ovs n bs cap kk H1 php p hg hro ho1 hcap hfi hki q1 q2 q3 q4 q5 q6 q7;unfold qAU at hg
      cases hc : (Nat.ble (n + mm) 1048576 && (wS P el && (Nat.beq (old.length) (n * (s + 1)) && (Nat.beq new.length (mm * (s + 1)) && new.all eP)))) with
      | false => rw [hc] at hg; cases hg
      | true =>
        rw [hc] at hg;simp only [cond_true] at hg;simp only [Bool.and_eq_true] at hc;obtain ⟨c1, c2, c3, c4, c5⟩ := hc;obtain ⟨rfl, rfl⟩ := bF hg;have l1 := Nat.le_of_ble_eq_true c1;have l3 := Nat.eq_of_beq_eq_true c3;have l4 := Nat.eq_of_beq_eq_true c4;have hv1 := hr.one c5;obtain ⟨r1, r2, r3⟩ := hp.pushG (p := p) (k := kk) (ob := ⟨el, true, old ++ new⟩) (vs := ovs ++ vs) (ph0 := php) q1 q2 q3 (jW hs) (q5.imp id fun ⟨ob0, z1, z2, z3⟩ => ⟨ob0, z1, z2, z3, qTS c2⟩) (by simpa using q6) (hro.append hr) (by rw [List.all_append, ho1, hv1]; rfl) hb q4;refine ⟨_, _, Z, _, ?_, r1, qVL fZ hs (by omega) (by simp only [List.length_append, l3, l4, Nat.add_mul]) (fun _ => by omega), r2, fun j b' ob' hM => ?_⟩
        ·unfold xX;simp only [];rw [if_neg (by omega)];unfold qEP;rw [if_pos (qQM hi c2 l1 hv1)];simp only [hfi, hki, q1];rfl
        ·rcases r3 j b' ob' hM with h | h | h
         ·exact .inl h
         ·exact .inr (.inl h)
         ·exact .inr (.inr (q7 j h))
     split at h
     ·-- nil
      have := kC hbase rfl;subst this
      cases h0 : Nat.beq mm 0 with
      | true =>
        rw [h0] at h; cases h;have hm0 := Nat.eq_of_beq_eq_true h0;subst hm0
        have hv0 : vs = [] := by
         have := hr.len;rw [hlen] at this;exact List.length_eq_zero_iff.1 (by omega)
        subst hv0;refine .same ?_ hp hbase;rw [show ([st, xt] : List TypeId).toArray = #[st, xt] from rfl, iap];rfl
      | false =>
        rw [h0] at h;have hm0 : mm ≠ 0 := fun e => by subst e; cases h0
        rw [show ([st, xt] : List TypeId).toArray = #[st, xt] from rfl, iap];exact grow [] [] 0 none 0 k H ph (fun j => j == k) h .nil rfl (by omega) (by unfold jD; simp) rfl rfl rfl (fun _ _ _ => rfl) (fun _ _ => rfl) (.inl (by simp)) (fun j hj => ⟨by simpa using hj, hn, by simpa using hnewk⟩) (fun j hj => hj)
     ·-- a slice of an object
      rename_i j tt o n;split at h
      ·rename_i ob hl
       cases hc : (Nat.beq ob.el el && (Nat.beq (tt * (s + 1)) ob.cs.length && Nat.beq o 0)) with
       | false => rw [hc] at h; cases h
       | true =>
         rw [hc] at h;simp only [cond_true] at h;simp only [Bool.and_eq_true] at hc;obtain ⟨c1, c2, c3⟩ := hc;have e1 := Nat.eq_of_beq_eq_true c1;have e2 := Nat.eq_of_beq_eq_true c2;have e3 := Nat.eq_of_beq_eq_true c3;subst e1 e3;obtain ⟨hO, hpos⟩ := wR hbase hl hs e2;rw [show ([st, xt] : List TypeId).toArray = #[st, xt] from rfl]
         cases h0 : Nat.beq mm 0 with
         | true =>
           rw [h0] at h; cases h;have hm0 := Nat.eq_of_beq_eq_true h0;subst hm0
           have hv0 : vs = [] := by
            have := hr.len;rw [hlen] at this;exact List.length_eq_zero_iff.1 (by omega)
           subst hv0
           rcases hO with ⟨g1, rfl, _, rfl, rfl⟩ | ⟨g1, g2, g3, rfl⟩
           ·refine .same ?_ hp hbase;rw [iap]; rfl
           ·refine .same ?_ hp hbase;rw [iap];unfold xX;simp only [];rw [if_pos (by omega)];unfold qHW;have hsp : (cond ob.gr (some ob.el) none : Option TypeId) = none ∨ (cond ob.gr (some ob.el) none : Option TypeId) = some ob.el := by cases ob.gr <;> simp
            simp only [nQ hsp, if_true, List.isEmpty_nil, Nat.add_zero]
         | false =>
           rw [h0] at h;simp only [cond_false] at h;have hm0 : mm ≠ 0 := fun e => by subst e; cases h0
           cases hroom : Nat.ble (n + mm) tt with
           | true =>
             rw [hroom] at h;simp only [cond_true] at h;have hrm := Nat.le_of_ble_eq_true hroom
             cases hc2 : (Nat.beq new.length (mm * (s + 1)) && new.all eP) with
             | false => rw [hc2] at h; cases h
             | true =>
               rw [hc2] at h; cases h;rw [Bool.and_eq_true] at hc2
               rcases hO with ⟨g1, rfl, _, rfl, rfl⟩ | ⟨g1, g2, g3, rfl⟩
               ·omega
               ·have hre := bA e2 hpos g1;obtain ⟨w1, w2, w3, ws, q1, q2, q3⟩ := hp.real hl hre (jW hs);have hle : (n + mm) * (s + 1) <= tt * (s + 1) := Nat.mul_le_mul_right _ hrm;rw [Nat.add_mul] at hle;have hv1 := hr.one hc2.2;obtain ⟨r1, r2, r3⟩ := hp.put (cs := kV ob.cs (n * (s + 1)) new) hl hre (jW hs) (bJ (by omega)) (q2.over hr (n * (s + 1))) (tH q3 hv1);refine ⟨.slice (some ⟨m j, 0 * (s + 1), cond ob.gr (some ob.el) none⟩) (n + mm) (tt - 0), _, Z, m, ?_, r1, ?_, r2, r3 _⟩
                ·rw [iap];unfold xX;simp only [];rw [if_pos (by omega)];unfold qHW;have hsp : (cond ob.gr (some ob.el) none : Option TypeId) = none ∨ (cond ob.gr (some ob.el) none : Option TypeId) = some ob.el := by cases ob.gr <;> simp
                 simp only [nQ hsp, if_true]
                 have hne : vs.isEmpty = false := by
                  have := hr.len;rw [hlen] at this
                  cases vs with
                  | nil =>
                    have h9 : mm * (s + 1) = 0 := this;rcases Nat.mul_eq_zero.1 h9 with h9 | h9 <;> omega
                  | cons => rfl
                 rw [hne];simp only [Bool.false_eq_true, if_false]
                 have hst : H.stores (m j) (0 * (s + 1) + n * i.size) vs = some (H.put (m j) (.cells (overwrite ws (n * (s + 1)) vs).toArray ob.el (cond ob.gr qV (0, 0)))) := by
                  unfold IH.stores;rw [q1];simp only [hisz, Nat.zero_mul, Nat.zero_add];rw [if_pos];simp only [qU2, hv1, w2, decide_true, Bool.and_true, Bool.true_and, decide_eq_true_eq, List.size_toArray];rw [<- q2.len, <- hr.len]; omega
                 rw [hst]
                ·refine .own rfl fun b' ob' hM => ?_
                 have hk : own m (fK j { ob with cs := kV ob.cs (n * (s + 1)) new } ph) j = some (m j, { ob with cs := kV ob.cs (n * (s + 1)) new }) := by
                  unfold own; rw [kE, if_pos ⟨rfl, by rw [hl]; rfl⟩]; rfl
                 rw [hk] at hM; cases hM;have hol : (kV ob.cs (n * (s + 1)) new).length = ob.cs.length := bJ (by omega);exact ⟨s + 1, hs, by omega, by show tt * (s + 1) <= (kV ob.cs (n * (s + 1)) new).length; omega, fun _ => .inr ⟨g1, by omega, .inl rfl, rfl⟩⟩
           | false =>
             rw [hroom] at h;simp only [cond_false] at h
             have hrm : tt < n + mm := by
              have : ¬ (n + mm <= tt) := fun hle => by rw [Nat.ble_eq_true_of_le hle] at hroom; cases hroom
              omega
             cases hnt : Nat.beq n tt with
             | false => rw [hnt] at h; cases h
             | true =>
               rw [hnt] at h;simp only [cond_true] at h;have hnt := Nat.eq_of_beq_eq_true hnt;subst hnt
               have hlong : ob.cs.length < (ob.cs ++ new).length := by
                simp only [List.length_append, hlen];have : 0 < mm * (s + 1) := Nat.mul_pos (by omega) (by omega);omega
               cases hgr : ob.gr with
               | true =>
                 rw [hgr] at h;simp only [cond_true] at h
                 rcases hO with ⟨g1, rfl, _, _, rfl⟩ | ⟨g1, g2, g3, rfl⟩
                 ·have hc0 : ob.cs = [] := List.length_eq_zero_iff.1 (by omega);rw [iap];rw [hc0] at h hlong;exact grow [] [] 0 none 0 j H (qES j ph) (fun _ => false) h .nil rfl (by omega) (by unfold jD; simp) rfl rfl rfl (fun _ _ _ => rfl) (fun i hi => by rw [uS, if_neg hi]) (.inr ⟨ob, hl, by rw [hc0]; exact hlong, rfl⟩) (fun _ h => by cases h) (fun _ h => by cases h)
                 ·have hre := bA e2 hpos g1;obtain ⟨w1, w2, w3, ws, q1, q2, q3⟩ := hp.real hl hre (jW hs);rw [hgr] at q1;rw [iap];refine grow ob.cs ws n _ _ j (H.put (m j) yL) (qES j ph) (fun _ => false) h q2 q3 (by omega) ?_ ?_ rfl rfl ?_ (fun i hi => by rw [uS, if_neg hi]) (.inr ⟨ob, hl, hlong, rfl⟩) (fun _ h => by cases h) (fun _ h => by cases h)
                  ·unfold jD;simp only [hisz, Nat.zero_mul];refine jR q1 (by rw [<- q2.len]; omega) ?_;rw [List.drop_zero, List.take_of_length_le (by rw [<- q2.len]; omega)]
                  ·unfold rO;rw [hgr];simp only [cond_true, q1];rw [if_pos (by simp [w2]; rfl)]
                  ·intro b hb' hne;exact yH (hne ob hl hre)
               | false =>
                 rw [hgr] at h;simp only [cond_false] at h
                 rcases hO with ⟨g1, _⟩ | ⟨g1, g2, g3, rfl⟩
                 ·rw [hgr] at g1; cases g1
                 ·have hre := bA e2 hpos g1;obtain ⟨w1, w2, w3, ws, q1, q2, q3⟩ := hp.real hl hre (jW hs);rw [hgr] at q1;rw [iap];refine grow ob.cs ws n _ _ k H ph (fun i => i == k) h q2 q3 (by omega) ?_ ?_ rfl rfl (fun _ _ _ => rfl) (fun _ _ => rfl) (.inl (by simp)) (fun i hi => ⟨by simpa using hi, hn, by rw [nU, uE hn hl, hnewk]; rfl⟩) (fun _ h => h)
                  ·unfold jD;simp only [hisz, Nat.zero_mul];refine jR q1 (by rw [<- q2.len]; omega) ?_;rw [List.drop_zero, List.take_of_length_le (by rw [<- q2.len]; omega)]
                  ·rw [hgr]; rfl
      ·cases h
     ·cases h
    ·cases h
   ·cases h
  ·cases h
 ·cases h
section
variable {P : Program} {Z : Nat -> Prop} {H : IH} {m : Nat -> Nat} {ph : PHp}
theorem qG9 : ∀ (es : List MapEntry), (qQB es).length = 3 * es.length
 | [] => rfl
 | e :: es => by
   show (qQB es).length + 3 = _;rw [qG9 es, List.length_cons]; omega
theorem qHG (k : Nat) : ∀ (es : List MapEntry), xR k (qQB es) = true
 | [] => rfl
 | e :: es => qHG k es
theorem qW7 (k c : Nat) (es : List MapEntry) : xR k (qLQ c es) = true := qHG k es
theorem qIJ (c : Nat) (es : List MapEntry) : (qLQ c es).length = 3 * es.length + 1 := by
 show (qQB es).length + 1 = _;rw [qG9]
theorem q0A {S : Option Step1} (hp : Hp P Z H (own m ph)) (hx : VR P Z H (own m ph) x v) (hl : qY7 P ts x ph = some y -> ∃ u, S = some (.val u H) ∧ VR P Z H (own m ph) y u) (hS : ∀ w, aS P ts [v] H = some w -> S = some w) (h : qCV P ts x ph = some y) : ∃ u, S = some (.val u H) ∧ VR P Z H (own m ph) y u := by
 unfold qCV at h;split at h
 case h_2 => exact hl h
 rename_i cs hcs
 cases hm : q6B P ts with
 | false => rw [hm] at h; cases h
 | true =>
   rw [hm] at h;cases h;unfold rC at hcs;split at hcs
   case h_2 => cases hcs
   rename_i k;split at hcs
   case h_2 => cases hcs
   rename_i ob hlk
   cases hc : (!ob.gr && (spec P ob.el && Nat.beq ob.el 1000000001)) with
   | false => rw [hc] at hcs; cases hcs
   | true =>
     rw [hc] at hcs;cases hcs;rw [Bool.and_eq_true, Bool.not_eq_true'] at hc;obtain ⟨hgr0, hc⟩ := hc;rw [Bool.and_eq_true] at hc;have he : ob.el = 1000000001 := Nat.eq_of_beq_eq_true hc.2
     cases hx with
     | mp _ hh =>
       obtain ⟨_, rfl⟩ := hh _ _ (zG hlk)
       have key : ∀ a clk, H.get (m k) = some (.map a clk) -> ob.cs = qLQ clk a.toList -> ∃ u, S = some (.val u H) ∧ VR P Z H (own m ph) (fvv (.int .i64 ((ob.cs.length / 3 : Nat) : Int))) u := fun a clk z1 z2 => by
        refine ⟨goInt a.size, hS _ ?_, ?_⟩
        ·unfold q6B at hm;split at hm
         ·rename_i hu;unfold aS;rw [hu];simp only [z1]
         ·cases hm
        ·have : ob.cs.length / 3 = a.size := by rw [z2, qIJ, Array.length_toList]; omega
         rw [this]; exact wB rfl
       rcases hp.obj k (m k) ob (zG hlk) with q | ⟨x1, x2, x3, x4⟩
       ·rw [hgr0] at q; cases q.1
       ·rcases x4 with ⟨y, _⟩ | ⟨y1, y2⟩
        ·rw [hc.1] at y; cases y
        ·rcases y2 with ⟨q, _⟩ | ⟨_, hgr, a, clk, z1, z2⟩
         ·rw [he] at q; cases q
         ·exact key a clk z1 z2
end
end Go.Idl
namespace Go.Idl
variable [Gc]
variable {P : Program} {Z : Nat -> Prop} {H : IH} {M : Nat -> Option (Nat × PO)} {m : Nat -> Nat} {ph : PHp}
variable {env : List PV} {k : Nat} {p : Nat -> Bool} {ph' : PHp} {y : PV}
theorem qL8 {s n : Nat} {a : Option Addr} {len c : Nat} {vs : List Value} (h : xZ s n H (.slice a len c) = some vs) (hk : k <= n) : xZ s k H (.slice a len c) = some (vs.take (k * s)) := by
 by_cases hk0 : k = 0
 ·subst hk0; simp [xZ, xY]
 ·unfold xZ at h ⊢;rw [if_neg (by omega)] at h;rw [if_neg hk0];unfold jD at h ⊢
  cases a with
  | none => simp only at h; split at h <;> first | omega | cases h
  | some a =>
    simp only at h ⊢;unfold IH.loads at h ⊢;split at h
    ·rename_i cc el fz hg;split at h
     ·cases h;have : k * s <= n * s := Nat.mul_le_mul_right _ hk;rw [if_pos (by omega), List.take_take]
      congr 2; omega
     ·cases h
    ·cases h
theorem q0T {j : Nat} {ob : PO} (hl : qE j ph = some ob) : own m (fK j ob ph) = own m ph := by
 funext k
 unfold own;rw [kE];by_cases h : k = j
 ·subst h; rw [if_pos ⟨rfl, by rw [hl]; rfl⟩, hl]
 ·rw [if_neg (fun h' => h h'.1)]
theorem q0I {l : List PV} {i : Nat} : kV l i [] = l := by unfold kV; simp
theorem qYW {ts : List TypeId} {base x : PV} {vb vx : Value} (hp : Hp P Z H (own m ph)) (hbase : VR P Z H (own m ph) base vb) (hx : VR P Z H (own m ph) x vx) (h : qFZ P ts base x ph = some (y, ph')) :
 Res P Z H m ph p y ph' (qCU P ts.toArray [vb, vx] H) := by
 unfold qFZ at h;split at h
 ·rename_i st xt;split at h
  ·rename_i el el2 he he2;split at h
   ·rename_i s hs;split at h
    ·rename_i mm new hnew;obtain ⟨vs, a, c, rfl, hf, hr, hlen⟩ := qO3 hp hx hnew
     have icp : ∀ bs n cap, qCU P #[st, xt] [.slice bs n cap, .slice a mm c] H = wY bs (Nat.min mm n) (vs.take (Nat.min mm n * (s + 1))) H := fun bs n cap => by
      unfold qCU;have hs' : szT P el = some (s + 1) := hs;simp only [yK he, hs', xY, qL8 hf (Nat.min_le_left mm n)]
     split at h
     ·rename_i j tt o n;split at h
      ·rename_i ob hl
       cases hc : (Nat.beq ob.el el && (Nat.beq (tt * (s + 1)) ob.cs.length && (Nat.beq new.length (mm * (s + 1)) && new.all eP))) with
       | false => rw [hc] at h; cases h
       | true =>
         rw [hc] at h; cases h;simp only [Bool.and_eq_true] at hc;obtain ⟨c1, c2, c3, c4⟩ := hc;have e1 := Nat.eq_of_beq_eq_true c1;have e2 := Nat.eq_of_beq_eq_true c2;subst e1;have hv1 := hr.one c4;obtain ⟨hO, hpos⟩ := wR hbase hl hs e2;rw [show ([st, xt] : List TypeId).toArray = #[st, xt] from rfl]
         have same : ∀ s', (s' = some (.val (goInt (Nat.min mm n)) H)) -> new.take (Nat.min mm n * (s + 1)) = [] -> Res P Z H m ph p (fvv (.int .i64 ((Nat.min mm n : Nat) : Int))) (fK j { ob with cs := kV ob.cs (o * (s + 1)) (new.take (Nat.min mm n * (s + 1))) } ph) s' := fun s' hs' h0 => by
          rw [h0, q0I];have e : own m (fK j { ob with cs := ob.cs } ph) = own m ph := q0T hl;refine ⟨goInt (Nat.min mm n), H, Z, m, hs', ?_, wB rfl, ?_, ?_⟩
          ·rw [e]; exact hp
          ·rw [e]; exact .refl _ _ _
          ·rw [e]; exact .refl _ _
         rcases hO with ⟨g1, rfl, rfl, rfl, rfl⟩ | ⟨g1, g2, g3, rfl⟩
         ·rw [icp];exact same _ rfl (by simp)
         ·have hre := bA e2 hpos g1;obtain ⟨w1, w2, w3, ws, q1, q2, q3⟩ := hp.real hl hre (jW hs);rw [icp];by_cases h0 : (vs.take (Nat.min mm n * (s + 1))) = []
          ·rw [h0];refine same _ rfl ?_;have := (hr.take (Nat.min mm n * (s + 1))).len;rw [h0] at this;exact List.length_eq_zero_iff.1 this
          ·have hle : (o + n) * (s + 1) <= tt * (s + 1) := Nat.mul_le_mul_right _ g2;rw [Nat.add_mul] at hle;have hmn : Nat.min mm n * (s + 1) <= n * (s + 1) := Nat.mul_le_mul_right _ (Nat.min_le_right mm n);have hlt : (new.take (Nat.min mm n * (s + 1))).length <= n * (s + 1) := by simp only [List.length_take]; omega
           have h1 : (vs.take (Nat.min mm n * (s + 1))).all oneCell = true := by
            rw [List.all_eq_true] at hv1 ⊢;exact fun x hx => hv1 x (List.mem_of_mem_take hx)
           obtain ⟨r1, r2, r3⟩ := hp.put (cs := kV ob.cs (o * (s + 1)) (new.take (Nat.min mm n * (s + 1)))) hl hre (jW hs) (bJ (by omega)) (q2.over (hr.take (Nat.min mm n * (s + 1))) (o * (s + 1))) (tH q3 h1);refine ⟨goInt (Nat.min mm n), _, Z, m, ?_, r1, wB rfl, r2, r3 _⟩;unfold wY
           have hne : (vs.take (Nat.min mm n * (s + 1))).isEmpty = false := by
            cases hq : vs.take (Nat.min mm n * (s + 1)) with
            | nil => exact absurd hq h0
            | cons => rfl
           simp only [hne, Bool.false_eq_true, if_false]
           have hst : H.stores (m j) (o * (s + 1)) (vs.take (Nat.min mm n * (s + 1))) = some (H.put (m j) (.cells (overwrite ws (o * (s + 1)) (vs.take (Nat.min mm n * (s + 1)))).toArray ob.el (cond ob.gr qV (0, 0)))) := by
            unfold IH.stores;rw [q1];simp only [];rw [if_pos];simp only [qU2, h1, w2, decide_true, Bool.and_true, Bool.true_and, decide_eq_true_eq, List.size_toArray];rw [<- q2.len, <- (hr.take (Nat.min mm n * (s + 1))).len]; omega
           rw [hst]
      ·cases h
     ·cases h;obtain ⟨ab, cb, rfl⟩ := qWI hbase;have h0 : Nat.min mm 0 = 0 := Nat.min_zero mm;refine .same ?_ hp (wB (v := .int .i64 0) rfl);rw [show ([st, xt] : List TypeId).toArray = #[st, xt] from rfl, icp, h0];cases ab <;> simp [wY, goInt]
     ·cases h;have := kC hbase rfl;subst this;have h0 : Nat.min mm 0 = 0 := Nat.min_zero mm;refine .same ?_ hp (wB (v := .int .i64 0) rfl);rw [show ([st, xt] : List TypeId).toArray = #[st, xt] from rfl, icp, h0];simp [wY, goInt]
     ·cases h
    ·cases h
   ·cases h
  ·cases h
 ·cases h
theorem yM {o : Option PV} (h : pp1 ph o = some (y, ph')) : o = some y ∧ ph' = ph := by
 unfold pp1 at h;split at h
 ·cases h; exact ⟨rfl, rfl⟩
 ·cases h
theorem VRL.of {env : List PV} {ienv : Env} (he : VRL P Z H M env ienv) : ∀ (l : List Operand), VRL P Z H M (l.map (qP env)) (l.map ienv.val)
 | [] => .nil
 | x :: l => .cons (qK he x) (VRL.of he l)
theorem qGT (h : xR k env = true) (x : Operand) : noK k (qP env x) = true := by
 cases x with
 | tmp t =>
   show noK k ((z8 env t).getD .unk) = true;rw [qG]
   cases he : env[t]? with
   | none => rfl
   | some y => exact uG h he
 | const v =>
   show noK k (ofC v) = true;unfold ofC q72;split
   ·rename_i cs; cases vQ okC cs.toList with
    | true => exact oU k _
    | false => rfl
   ·rename_i cs; cases vQ okC cs.toList with
    | true => exact oU k _
    | false => rfl
   ·cases okC v <;> rfl
 | global g => rfl
 | func g => rfl
theorem qPH {k : Nat} {env : List PV} (h : xR k env = true) : ∀ (l : List (Nat × Operand)), xR k ((l.map fun p => (p.1, qP env p.2)).map (·.2)) = true
 | [] => rfl
 | p :: l => by simp only [List.map_cons, xR, qGT h, qPH h l, Bool.and_self]
theorem Res.up {q : Nat -> Bool} {v : PV} {s : Option Step1} (h : Res P Z H m ph p v ph' s) (hq : ∀ j, p j = true -> q j = true) : Res P Z H m ph q v ph' s := by
 obtain ⟨u, H', Z', m', h1, h2, h3, h4, h5⟩ := h
 exact ⟨u, H', Z', m', h1, h2, h3, h4, fun j b ob hM => by
  rcases h5 j b ob hM with h | h | h
  ·exact .inl h
  ·exact .inr (.inl h)
  ·exact .inr (.inr (hq j h))⟩
def nw (o : Op) (k : Nat) : Nat -> Bool := fun j => needs o && (j == k)
theorem q2A {o : Oper} {ienv : Env} (hp : Hp P Z H (own m ph)) (hb : H.base <= H.size) (he : VRL P Z H (own m ph) env ienv) (hn : needs o.op = true -> xR k env = true ∧ rV k ph = true) (h : qG3 P o env k ph = some (y, ph')) :
 Res P Z H m ph (nw o.op k) y ph' (iop P o ienv H) := by
 obtain ⟨d, op, ty, pos, aft, g⟩ := o;have fin : ∀ {x : PV} {s : Option Step1}, (∃ u, s = some (.val u H) ∧ VR P Z H (own m ph) x u) -> Res P Z H m ph (nw op k) x ph s := fun ⟨u, h1, h2⟩ => .same h1 hp h2
 have finO : ∀ {x : PV} {s : Option Value}, (∃ u, s = some u ∧ VR P Z H (own m ph) x u) -> Res P Z H m ph (nw op k) x ph (Step1.ofO H s) := fun ⟨u, h1, h2⟩ => .same (by rw [h1]; rfl) hp h2
 cases op <;> simp only [qG3] at h <;> (try (cases h; done)) <;> simp only at hn fin finO
 case move x => cases h; exact fin ⟨_, rfl, qK he x⟩
 case assign x => cases h; exact fin ⟨_, rfl, qK he x⟩
 case pick c a b =>
  split at h
  ·rename_i t ht;cases h;have hc := qK he c;rw [ht] at hc;have hv := kC hc rfl;refine fin ⟨cond t (ienv.val a) (ienv.val b), ?_, ?_⟩
   ·show qL1 (ienv.val c) _ _ H = _;rw [hv]; rfl
   ·cases t
    ·exact qK he b
    ·exact qK he a
  ·cases h
 case alloc el =>
  obtain ⟨n1, n2⟩ := hn rfl;exact (qWT hp hb n2 h).up fun j hj => hj
 case box el x =>
  obtain ⟨n1, n2⟩ := hn rfl;exact (q34 hp hb n2 (qK he x) (qGT n1 x) h).up fun j hj => hj
 case build t ps =>
  obtain ⟨h1, rfl⟩ := yM h;exact finO (qWN (qU8 he _) h1)
 case buildSlice t len ps =>
  obtain ⟨n1, n2⟩ := hn rfl;exact (qCK hp hb n2 (qU8 he _) (qPH n1 _) h).up fun j hj => hj
 case load t a =>
  obtain ⟨h1, rfl⟩ := yM h;exact finO (qPF hp (qK he a) h1)
 case store t a x =>
  unfold ppS at h;split at h
  ·rename_i ph1 hs;cases h;exact qXA hp (qK he a) (qK he x) hs
  ·cases h
 case nilCheck x =>
  obtain ⟨h1, rfl⟩ := yM h;obtain ⟨h2, rfl⟩ := qKA (qK he x) h1;exact fin ⟨_, h2, qK he x⟩
 case binOp op t x z t2 =>
  obtain ⟨h1, rfl⟩ := yM h;exact fin (q3A (qK he x) (qK he z) h1)
 case unOp op t x =>
  obtain ⟨h1, rfl⟩ := yM h;exact fin (qOS (qK he x) rfl h1)
 case convert s t x =>
  cases hpt : qQD (qP env x) with
  | true => rw [hpt] at h; cases h
  | false =>
  rw [hpt] at h;obtain ⟨h1, rfl⟩ := yM h;have hx := qK he x;obtain ⟨u, h2, h3⟩ := qOS (o := ⟨d, .convert s t x, ty, pos, aft, g⟩) (env := ienv) hx rfl h1;refine fin ⟨u, ?_, h3⟩;show gW P _ s t (ienv.val x) ienv H = _;unfold gW;split
  ·rename_i a ha;exfalso;unfold aI at h1;split at h1
   ·rename_i b hb';have hv := kC hx hb';rw [ha] at hv;subst hv;unfold pl at hb';split at hb'
    ·rename_i x0 hx0;cases hb';rw [hx0] at hpt;cases hpt
    ·split at hb' <;> cases hb'
    ·cases hb'
   ·cases h1
  ·exact h2
 case makeFunc fn first cap =>
  obtain ⟨h1, rfl⟩ := yM h;exact fin (qJV (by simpa using VRL.of he first.toList) (by simpa using VRL.of he cap.toList) h1)
 case makeSlice t l c =>
  obtain ⟨n1, n2⟩ := hn rfl;exact (qFX hp hb n2 (qK he l) (qK he c) h).up fun j hj => hj
 case slice t x lo hi mx =>
  cases mx with
  | some mx => cases h
  | none =>
    simp only at h;split at h
    ·rename_i s hs;have hx := qK he x;rw [hs] at hx;have hv := kC hx rfl;split at h
     ·rename_i vs hvs;obtain ⟨h1, rfl⟩ := yM h
      have hopt : ∀ (w : Option Operand), (∀ a, w = some a -> a ∈ lo.toList ++ hi.toList) -> (w.map fun a => (Operand.const ((pl (qP env a)).getD undef))).map (Env.val []) = w.map ienv.val := fun w hw => by
       cases w with
       | none => rfl
       | some a =>
         obtain ⟨b, hb'⟩ := qE8 hvs (qP env a) (List.mem_map.2 ⟨a, hw a rfl, rfl⟩);simp only [Option.map_some, hb', Option.getD_some];rw [kC (qK he a) hb'];rfl
      have hlo := hopt lo (fun a ha => by subst ha; simp);have hhi := hopt hi (fun a ha => by subst ha; simp)
      obtain ⟨u, h2, h3⟩ := qVE (M := own m _) (Z := Z) (H := H) (o := ⟨d, .slice t x lo hi none, ty, pos, aft, g⟩) (env := ienv) (by
       have hex : execOp ienv.val ⟨d, .slice t x lo hi none, ty, pos, aft, g⟩ = execOp (Env.val []) (cop (.slice t (.const (.string s)) (lo.map fun a => .const ((pl (qP env a)).getD undef)) (hi.map fun a => .const ((pl (qP env a)).getD undef)) none)) := by
        show (do let x <- Instr.sliceAt t (ienv.val x) (lo.map ienv.val) (hi.map ienv.val) none; pure (Next.value x)) = (do let x <- Instr.sliceAt t (.string s) ((lo.map fun a => (Operand.const ((pl (qP env a)).getD undef))).map (Env.val [])) ((hi.map fun a => (Operand.const ((pl (qP env a)).getD undef))).map (Env.val [])) none; pure (Next.value x));rw [hlo, hhi, hv]
       have hpl : kZ ienv.val (Op.slice t x lo hi none).operands.toList = kZ (Env.val []) (cop (.slice t (.const (.string s)) (lo.map fun a => .const ((pl (qP env a)).getD undef)) (hi.map fun a => .const ((pl (qP env a)).getD undef)) none)).op.operands.toList := by
        rw [vI, vI];cases lo <;> cases hi <;> simp_all [Op.operands, cop, Env.val]
       unfold kS;rw [hex]
       simp only [hpl]) h1
      refine fin ⟨u, ?_, h3⟩;show kQ P _ t (ienv.val x) _ _ _ ienv H = _;rw [hv];exact h2
     ·cases h
    ·rename_i v hne;obtain ⟨h1, rfl⟩ := yM h;obtain ⟨u, h2, h3⟩ := qQY hp (qK he x) (q52.of he lo) (q52.of he hi) h1;exact fin ⟨u, qKY h2, h3⟩
 case fieldAddr t x i =>
  obtain ⟨h1, rfl⟩ := yM h;exact finO (qFE (qK he x) h1)
 case field t x i =>
  obtain ⟨h1, rfl⟩ := yM h;exact finO (qWW (qK he x) h1)
 case indexAddr t x ix =>
  obtain ⟨h1, rfl⟩ := yM h;exact finO (qG1 hp (qK he x) (qK he ix) h1)
 case index t x ix =>
  split at h
  ·rename_i s j hs hj;obtain ⟨h1, rfl⟩ := yM h;have hx := qK he x;rw [hs] at hx;have hv := kC hx rfl;have hv2 := kC (qK he ix) hj;obtain ⟨u, h2, h3⟩ := qVE (M := own m _) (Z := Z) (H := H) (o := ⟨d, .index t x ix, ty, pos, aft, g⟩) (env := ienv) (by rw [<- hv, <- hv2]; rfl) h1;refine fin ⟨u, ?_, h3⟩;show uH P _ t (ienv.val x) _ ienv H = _;rw [hv];exact h2
  ·obtain ⟨h1, rfl⟩ := yM h;obtain ⟨u, h2, h3⟩ := qTN (qK he x) (qK he ix) h1;exact fin ⟨u, qKM h2, h3⟩
 case extract t i =>
  obtain ⟨h1, rfl⟩ := yM h;exact fin (qKX (qK he t) h1)
 case call c =>
  obtain ⟨cal, args, ts⟩ := c;split at h
  ·rename_i b hbq;simp only at hbq;subst hbq;have two : ∀ x z, args.toList = [x, z] -> kZ ienv.val args.toList = [ienv.val x, ienv.val z] := fun x z e => by rw [e]; rfl
   unfold wW at h;split at h
   ·-- append
    split at h
    ·rename_i x z hxz;obtain ⟨n1, n2⟩ := hn rfl
     obtain ⟨a1, a2, ha, rfl, rfl⟩ : ∃ a1 a2, args.toList = [a1, a2] ∧ x = qP env a1 ∧ z = qP env a2 := by
      cases hq : args.toList with
      | nil => rw [hq] at hxz; cases hxz
      | cons a l =>
        rw [hq] at hxz
        cases l with
        | nil => cases hxz
        | cons a2 l =>
          cases l with
          | nil => simp only [List.map_cons, List.map_nil, List.cons.injEq, and_true] at hxz; exact ⟨a, a2, rfl, hxz.1.symm, hxz.2.symm⟩
          | cons => cases hxz
     have hr := qQ0 hp hb n2 (qK he a1) (qK he a2) (qGT n1 a2) (qGT n1 a1) h;obtain ⟨u, H', Z', m', e1, e2, e3, e4, e5⟩ := hr;refine Res.up (p := fun j => j == k) ⟨u, H', Z', m', ?_, e2, e3, e4, e5⟩ fun j hj => hj
     refine aJ ?_;rw [two _ _ ha];rw [show ts.toList.toArray = ts from by simp] at e1;exact e1
    ·cases h
   ·-- copy
    split at h
    ·rename_i x z hxz
     obtain ⟨a1, a2, ha, rfl, rfl⟩ : ∃ a1 a2, args.toList = [a1, a2] ∧ x = qP env a1 ∧ z = qP env a2 := by
      cases hq : args.toList with
      | nil => rw [hq] at hxz; cases hxz
      | cons a l =>
        rw [hq] at hxz
        cases l with
        | nil => cases hxz
        | cons a2 l =>
          cases l with
          | nil => simp only [List.map_cons, List.map_nil, List.cons.injEq, and_true] at hxz; exact ⟨a, a2, rfl, hxz.1.symm, hxz.2.symm⟩
          | cons => cases hxz
     have hr := qYW (p := nw (.call ⟨.builtin .copy, args, ts⟩) k) hp (qK he a1) (qK he a2) h;obtain ⟨u, H', Z', m', e1, e2, e3, e4, e5⟩ := hr;refine ⟨u, H', Z', m', ?_, e2, e3, e4, e5⟩;refine aJ ?_;rw [two _ _ ha];rw [show ts.toList.toArray = ts from by simp] at e1;exact e1
    ·cases h
   ·-- len
    split at h
    ·rename_i x hx0
     obtain ⟨a1, ha, rfl⟩ : ∃ a1, args = #[a1] ∧ x = qP env a1 := by
      cases hq : args.toList with
      | nil => rw [hq] at hx0; cases hx0
      | cons a l =>
        rw [hq] at hx0
        cases l with
        | nil =>
          simp only [List.map_cons, List.map_nil, List.cons.injEq, and_true] at hx0
          exact ⟨a, by have e9 : args = args.toList.toArray := by simp
                       rw [e9, hq], hx0.symm⟩
        | cons => cases hx0
     subst ha
     cases hst : qXE P ts with
     | true =>
       rw [hst] at h
       have hnone : yO P .len ⟨.builtin .len, #[a1], ts⟩ (kZ ienv.val #[a1].toList) H = none := by
        show aS P ts [ienv.val a1] H = none;unfold qXE at hst;split at hst
        ·rename_i hu;unfold aS;rw [hu]
        ·cases hst
       obtain ⟨e9, hr⟩ := qBL (d := d) (pos := pos) (aft := aft) (g := g) he hnone h;subst e9;exact fin hr
     | false =>
       rw [hst] at h;obtain ⟨h1, rfl⟩ := yM h;exact fin (q0A hp (qK he a1) (fun hq => q2B (qK he a1) hq) (fun w hw => aJ hw) h1)
    ·cases h
   ·obtain ⟨e9, hr⟩ := qBL (d := d) (pos := pos) (aft := aft) (g := g) he rfl h;subst e9;exact fin hr
   ·obtain ⟨e9, hr⟩ := qBL (d := d) (pos := pos) (aft := aft) (g := g) he rfl h;subst e9;exact fin hr
   ·cases h
  ·cases h
end Go.Idl
