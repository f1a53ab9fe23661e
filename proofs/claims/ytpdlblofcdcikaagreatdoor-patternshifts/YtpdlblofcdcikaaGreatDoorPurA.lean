/- Runs told by plain values, part one. Conditions: none. -/
import Derived.Test.YtpdlblofcdcikaaGreatDoorIdlI
set_option linter.unusedSimpArgs false
set_option linter.unusedVariables false
namespace Go.Idl
variable {P : Program}
inductive FV where
 | v (x : Value)
 | l (el : TypeId) (n : Nat) (cs : List FV)
inductive PV where
 | f (x : FV)
 | agg (cs : List PV)
 | tup (cs : List PV)
 | own (k t o n : Nat)
 | ref (k t off : Nat)
 | lp (cs : List FV) (off : Nat)
 | fn (g : FuncId) (first cap : List PV)
 | yl (l : Nat)
 | unk
structure PO where
 el : TypeId
 gr : Bool
 cs : List PV
abbrev PHp := List (Nat × PO)
def qC (k : Nat) : PHp -> Option PO
 | [] => none
 | (j, o) :: l => cond (k == j) (some o) (qC k l)
def cB (k : Nat) (o : PO) : PHp -> PHp
 | [] => []
 | (j, p) :: l => cond (k == j) ((j, o) :: l) ((j, p) :: cB k o l)
def qD1 (k : Nat) : PHp -> PHp
 | [] => []
 | (j, p) :: l => cond (k == j) (qD1 k l) ((j, p) :: qD1 k l)
inductive FR (Z : Nat -> Prop) (H : IH) : FV -> Value -> Prop
 | v {x : Value} (hp : xX x = true) (h1 : oneCell x = true) : FR Z H (.v x) x
 | nil {el : TypeId} {a : Option Addr} {c : Nat} (h0 : a = none -> c = 0) (hs : ∀ x, a = some x -> x.spot = none ∨ x.spot = some el) : FR Z H (.l el 0 []) (.slice a 0 c)
 | l {el : TypeId} {n : Nat} {cs : List FV} {b o : Nat} {sp : Option TypeId} {c : Nat} {vs : List Value} (hz : Z b) (hb : b < H.size) (hn : n <= c) (hs : sp = none ∨ sp = some el)
    (hl : H.loads b o cs.length = some vs) (hc : ∀ (i : Nat) x v, cs[i]? = some x -> vs[i]? = some v -> FR Z H x v) : FR Z H (.l el n cs) (.slice (some ⟨b, o, sp⟩) n c)
theorem xW {H : IH} {b o n : Nat} {vs : List Value} (h : H.loads b o n = some vs) : vs.length = n := by
 unfold IH.loads at h
 split at h
 ·split at h
  ·cases h; simp; omega
  ·cases h
 ·cases h
theorem qHK {H H' : IH} {b o n : Nat} (h : H'.get b = H.get b) : H'.loads b o n = H.loads b o n := by
 unfold IH.loads; rw [h]
theorem j3 {H : IH} {b o n : Nat} {vs c : List Value} {el : TypeId} {fz : Nat × Nat} (h : H.get b = some (.cells c.toArray el fz)) (hn : o + n <= c.length) (hv : (c.drop o).take n = vs) : H.loads b o n = some vs := by
 unfold IH.loads; rw [h]; simp [hn, hv]
theorem FR.mono {Z Z' : Nat -> Prop} {H H' : IH} {x : FV} {v : Value} (h : FR Z H x v) (hz : ∀ b, Z b -> Z' b) (hs : H.size <= H'.size) (hg : ∀ b, Z b -> b < H.size -> H'.get b = H.get b) : FR Z' H' x v := by
 induction h with
 | v hp h1 => exact .v hp h1
 | nil h0 hs => exact .nil h0 hs
 | l hZ hb hn hsp hl hc ih => exact .l (hz _ hZ) (Nat.lt_of_lt_of_le hb hs) hn hsp (by rw [qHK (hg _ hZ hb)]; exact hl) ih
theorem FR.one {Z : Nat -> Prop} {H : IH} {x : FV} {v : Value} (h : FR Z H x v) : oneCell v = true := by
 cases h with
 | v hp h1 => exact h1
 | nil => rfl
 | l => rfl
def qY1 (sz b : Nat) (ob : PO) (t o n : Nat) (v : Value) : Prop :=
 (ob.gr = true ∧ t = 0 ∧ o = 0 ∧ n = 0 ∧ v = .slice none 0 0) ∨ ((ob.gr = true -> t ≠ 0) ∧ o + n <= t ∧ (o = 0 ∨ o < t) ∧ v = .slice (some ⟨b, o * sz, cond ob.gr (some ob.el) none⟩) n (t - o))
inductive VR (P : Program) (Z : Nat -> Prop) (H : IH) (M : Nat -> Option (Nat × PO)) : PV -> Value -> Prop
 | f {x : FV} {v : Value} (h : FR Z H x v) : VR P Z H M (.f x) v
 | agg {cs : List PV} {vs : Array Value} (hl : cs.length = vs.size) (hc : ∀ (i : Nat) x v, cs[i]? = some x -> vs[i]? = some v -> VR P Z H M x v) : VR P Z H M (.agg cs) (.agg vs)
 | tup {cs : List PV} {vs : Array Value} (hl : cs.length = vs.size) (hc : ∀ (i : Nat) x v, cs[i]? = some x -> vs[i]? = some v -> VR P Z H M x v) : VR P Z H M (.tup cs) (.tuple vs)
 | own {k t o n : Nat} {v : Value} (h1 : oneCell v = true) (h : ∀ b ob, M k = some (b, ob) -> ∃ sz, szT P ob.el = some sz ∧ 0 < sz ∧ t * sz <= ob.cs.length ∧ (t * sz = ob.cs.length -> qY1 sz b ob t o n v)) : VR P Z H M (.own k t o n) v
 | ref {k t off : Nat} {v : Value} (h1 : oneCell v = true) (h : ∀ b ob, M k = some (b, ob) -> t <= ob.cs.length ∧ (t = ob.cs.length -> v = .pointer (some ⟨b, off, none⟩) ∧ (ob.gr = true -> t ≠ 0))) : VR P Z H M (.ref k t off) v
 | lp {cs : List FV} {off b o : Nat} {vs : List Value} (hz : Z b) (hb : b < H.size) (hl : H.loads b o cs.length = some vs) (hc : ∀ (i : Nat) x v, cs[i]? = some x -> vs[i]? = some v -> FR Z H x v) : VR P Z H M (.lp cs off) (.pointer (some ⟨b, o + off, none⟩))
 | fn {g : FuncId} {first cap : List PV} {fs cs : Array Value} (hf : first.length = fs.size) (hc : cap.length = cs.size) (hfc : ∀ (i : Nat) x v, first[i]? = some x -> fs[i]? = some v -> VR P Z H M x v) (hcc : ∀ (i : Nat) x v, cap[i]? = some x -> cs[i]? = some v -> VR P Z H M x v) :
    VR P Z H M (.fn g first cap) (.func (.func g) fs cs)
 | yl {l : Nat} : VR P Z H M (.yl l) (.func (.yield l) #[] #[])
 | unk {v : Value} : VR P Z H M .unk v
mutual
def noK (k : Nat) : PV -> Bool
 | .f _ => true
 | .agg cs => kU k cs
 | .tup cs => kU k cs
 | .own j _ _ _ => !(k == j)
 | .ref j _ _ => !(k == j)
 | .lp _ _ => true
 | .fn _ a b => kU k a && kU k b
 | .yl _ => true
 | .unk => true
def kU (k : Nat) : List PV -> Bool
 | [] => true
 | x :: l => noK k x && kU k l
end
theorem uT {k : Nat} : ∀ {l : List PV} {i : Nat} {x : PV}, kU k l = true -> l[i]? = some x -> noK k x = true
 | y :: l, 0, x, h, e => by simp only [kU, Bool.and_eq_true] at h; simp at e; subst e; exact h.1
 | y :: l, i + 1, x, h, e => by simp only [kU, Bool.and_eq_true] at h; exact uT h.2 (by simpa using e)
def KR (p : Nat -> Bool) (M M' : Nat -> Option (Nat × PO)) : Prop := ∀ k b' ob', M' k = some (b', ob') -> (∃ ob, M k = some (b', ob) ∧ ob.cs.length = ob'.cs.length ∧ ob.el = ob'.el ∧ ob.gr = ob'.gr) ∨
 (∃ b ob, M k = some (b, ob) ∧ ob.cs.length < ob'.cs.length ∧ ob.el = ob'.el) ∨ p k = true
theorem KR.refl (p : Nat -> Bool) (M : Nat -> Option (Nat × PO)) : KR p M M := fun k b' ob' h => .inl ⟨ob', h, rfl, rfl, rfl⟩
theorem VR.mono {Z Z' : Nat -> Prop} {H H' : IH} {M M' : Nat -> Option (Nat × PO)} {p : Nat -> Bool} (hz : ∀ b, Z b -> Z' b) (hs : H.size <= H'.size) (hg : ∀ b, Z b -> b < H.size -> H'.get b = H.get b) (hk : KR p M M') {x : PV} {v : Value} (h : VR P Z H M x v) :
 (∀ k, p k = true -> noK k x = true) -> VR P Z' H' M' x v := by
 induction h with
 | f h => exact fun _ => .f (h.mono hz hs hg)
 | agg hl hc ih => exact fun hn => .agg hl fun i x v h1 h2 => ih i x v h1 h2 fun k hp => uT (by have := hn k hp; simpa [noK] using this) h1
 | tup hl hc ih => exact fun hn => .tup hl fun i x v h1 h2 => ih i x v h1 h2 fun k hp => uT (by have := hn k hp; simpa [noK] using this) h1
 | @own k t o n v h1 h =>
   refine fun hn => .own h1 fun b ob hM => ?_
   rcases hk k b ob hM with ⟨ob0, h0, h1, h2, h3⟩ | ⟨b0, ob0, h0, h1, h2⟩ | hp
   ·obtain ⟨sz, q1, q2, q3, q4⟩ := h b ob0 h0
    refine ⟨sz, by rw [<- h2]; exact q1, q2, by omega, fun e => ?_⟩
    have := q4 (by omega)
    unfold qY1 at this ⊢
    rw [h2, h3] at this
    exact this
   ·obtain ⟨sz, q1, q2, q3, q4⟩ := h b0 ob0 h0
    exact ⟨sz, by rw [<- h2]; exact q1, q2, by omega, fun e => by omega⟩
   ·have := hn k hp
    simp [noK] at this
 | @ref k t off v h1 h =>
   refine fun hn => .ref h1 fun b ob hM => ?_
   rcases hk k b ob hM with ⟨ob0, h0, h1, h2, h3⟩ | ⟨b0, ob0, h0, h1, h2⟩ | hp
   ·obtain ⟨q1, q2⟩ := h b ob0 h0
    refine ⟨by omega, fun e => ?_⟩
    obtain ⟨q3, q4⟩ := q2 (by omega)
    exact ⟨q3, fun h => q4 (by rw [h3]; exact h)⟩
   ·obtain ⟨q1, q2⟩ := h b0 ob0 h0
    exact ⟨by omega, fun e => by omega⟩
   ·have := hn k hp
    simp [noK] at this
 | lp hZ hb hl hc => exact fun _ => .lp (hz _ hZ) (Nat.lt_of_lt_of_le hb hs) (by rw [qHK (hg _ hZ hb)]; exact hl) fun i x v h1 h2 => (hc i x v h1 h2).mono hz hs hg
 | fn hf hc hfc hcc i1 i2 =>
   refine fun hn => .fn hf hc (fun i x v h1 h2 => i1 i x v h1 h2 fun k hp => uT ?_ h1) (fun i x v h1 h2 => i2 i x v h1 h2 fun k hp => uT ?_ h1)
   ·have := hn k hp; simp only [noK, Bool.and_eq_true] at this; exact this.1
   ·have := hn k hp; simp only [noK, Bool.and_eq_true] at this; exact this.2
 | yl => exact fun _ => .yl
 | unk => exact fun _ => .unk
structure VRL (P : Program) (Z : Nat -> Prop) (H : IH) (M : Nat -> Option (Nat × PO)) (xs : List PV) (vs : List Value) : Prop where
 len : xs.length = vs.length
 val : ∀ (i : Nat) x v, xs[i]? = some x -> vs[i]? = some v -> VR P Z H M x v
theorem VRL.nil {Z : Nat -> Prop} {H : IH} {M : Nat -> Option (Nat × PO)} : VRL P Z H M [] [] := ⟨rfl, fun i x v h => by simp at h⟩
theorem VRL.cons {Z : Nat -> Prop} {H : IH} {M : Nat -> Option (Nat × PO)} {x : PV} {v : Value} {xs : List PV} {vs : List Value} (h : VR P Z H M x v) (t : VRL P Z H M xs vs) : VRL P Z H M (x :: xs) (v :: vs) :=
 ⟨by simp [t.len], fun i y u h1 h2 => by
   cases i with
   | zero => simp at h1 h2; subst h1 h2; exact h
   | succ i => exact t.val i y u (by simpa using h1) (by simpa using h2)⟩
theorem VRL.uncons {Z : Nat -> Prop} {H : IH} {M : Nat -> Option (Nat × PO)} {x : PV} {xs : List PV} {ws : List Value} (h : VRL P Z H M (x :: xs) ws) : ∃ v vs, ws = v :: vs ∧ VR P Z H M x v ∧ VRL P Z H M xs vs := by
 cases ws with
 | nil => have := h.len; simp at this
 | cons v vs => exact ⟨v, vs, rfl, h.val 0 x v rfl rfl, by have := h.len; simpa using this, fun i y u h1 h2 => h.val (i + 1) y u (by simpa using h1) (by simpa using h2)⟩
theorem VRL.nil_left {Z : Nat -> Prop} {H : IH} {M : Nat -> Option (Nat × PO)} {ws : List Value} (h : VRL P Z H M [] ws) : ws = [] := by
 cases ws with
 | nil => rfl
 | cons v vs => have := h.len; simp at this
theorem VRL.mono {Z Z' : Nat -> Prop} {H H' : IH} {M M' : Nat -> Option (Nat × PO)} {p : Nat -> Bool} (hz : ∀ b, Z b -> Z' b) (hs : H.size <= H'.size) (hg : ∀ b, Z b -> b < H.size -> H'.get b = H.get b) (hk : KR p M M') {xs : List PV} {vs : List Value} (h : VRL P Z H M xs vs)
 (hn : ∀ k, p k = true -> kU k xs = true) : VRL P Z' H' M' xs vs := ⟨h.len, fun i x v h1 h2 => (h.val i x v h1 h2).mono hz hs hg hk fun k hp => uT (hn k hp) h1⟩
theorem VRL.append {Z : Nat -> Prop} {H : IH} {M : Nat -> Option (Nat × PO)} {xs ys : List PV} {vs ws : List Value} (a : VRL P Z H M xs vs) (b : VRL P Z H M ys ws) : VRL P Z H M (xs ++ ys) (vs ++ ws) := by
 refine ⟨by simp [a.len, b.len], fun i x v h1 h2 => ?_⟩
 by_cases hi : i < xs.length
 ·rw [List.getElem?_append_left hi] at h1
  rw [List.getElem?_append_left (by rw [<- a.len]; exact hi)] at h2
  exact a.val i x v h1 h2
 ·rw [List.getElem?_append_right (by omega)] at h1
  rw [List.getElem?_append_right (by rw [<- a.len]; omega), <- a.len] at h2
  exact b.val _ x v h1 h2
theorem VRL.take {Z : Nat -> Prop} {H : IH} {M : Nat -> Option (Nat × PO)} {xs : List PV} {vs : List Value} (a : VRL P Z H M xs vs) (n : Nat) : VRL P Z H M (xs.take n) (vs.take n) := by
 refine ⟨by simp [a.len], fun i x v h1 h2 => ?_⟩
 rw [List.getElem?_take] at h1 h2
 split at h1
 ·rename_i hi; rw [if_pos hi] at h2; exact a.val i x v h1 h2
 ·cases h1
theorem VRL.drop {Z : Nat -> Prop} {H : IH} {M : Nat -> Option (Nat × PO)} {xs : List PV} {vs : List Value} (a : VRL P Z H M xs vs) (n : Nat) : VRL P Z H M (xs.drop n) (vs.drop n) := by
 refine ⟨by simp [a.len], fun i x v h1 h2 => ?_⟩
 rw [List.getElem?_drop] at h1 h2
 exact a.val _ x v h1 h2
theorem VRL.get {Z : Nat -> Prop} {H : IH} {M : Nat -> Option (Nat × PO)} {xs : List PV} {vs : List Value} (a : VRL P Z H M xs vs) {i : Nat} {x : PV} (h : xs[i]? = some x) : ∃ v, vs[i]? = some v ∧ VR P Z H M x v := by
 have hlt := (List.getElem?_eq_some_iff.1 h).1
 have hlt' : i < vs.length := by rw [<- a.len]; exact hlt
 exact ⟨vs[i], List.getElem?_eq_getElem hlt', a.val i x _ h (List.getElem?_eq_getElem hlt')⟩
theorem VRL.set {Z : Nat -> Prop} {H : IH} {M : Nat -> Option (Nat × PO)} {xs : List PV} {vs : List Value} (a : VRL P Z H M xs vs) {x : PV} {v : Value} (h : VR P Z H M x v) (n : Nat) : VRL P Z H M (xs.set n x) (vs.set n v) := by
 refine ⟨by simp [a.len], fun i y u h1 h2 => ?_⟩
 rw [List.getElem?_set] at h1 h2
 by_cases hi : n = i
 ·subst hi
  simp only [if_true] at h1 h2
  by_cases hl : n < xs.length
  ·rw [if_pos hl] at h1
   rw [if_pos (by rw [<- a.len]; exact hl)] at h2
   cases h1; cases h2; exact h
  ·rw [if_neg hl] at h1; cases h1
 ·rw [if_neg hi] at h1 h2
  exact a.val i y u h1 h2
structure Hp (P : Program) (Z : Nat -> Prop) (H : IH) (M : Nat -> Option (Nat × PO)) : Prop where
 zlt : ∀ b, Z b -> b < H.size
 obj : ∀ k b ob, M k = some (b, ob) -> (ob.gr = true ∧ ob.cs = []) ∨ (b < H.size ∧ H.base <= b ∧ ¬ Z b ∧ ∃ vs, H.get b = some (.cells vs.toArray ob.el (cond ob.gr zC (0, 0))) ∧ VRL P Z H M ob.cs vs ∧ vs.all oneCell = true)
 inj : ∀ k k' b b' ob ob', M k = some (b, ob) -> M k' = some (b', ob') -> ¬ (ob.gr = true ∧ ob.cs = []) -> ¬ (ob'.gr = true ∧ ob'.cs = []) -> k ≠ k' -> b ≠ b'
def dF (M : Nat -> Option (Nat × PO)) (b : Nat) : Prop := ∃ k ob, M k = some (b, ob) ∧ ¬ (ob.gr = true ∧ ob.cs = [])
structure Step (Z : Nat -> Prop) (H : IH) (M : Nat -> Option (Nat × PO)) (Z' : Nat -> Prop) (H' : IH) (M' : Nat -> Option (Nat × PO)) : Prop where
 size : H.size <= H'.size
 base : H'.base = H.base
 zle : ∀ b, Z b -> Z' b
 keep : ∀ b, b < H.size -> ¬ dF M b -> H'.get b = H.get b
 znew : ∀ b, Z' b -> b < H.size -> Z b ∨ dF M b
 onew : ∀ b, dF M' b -> b < H.size -> dF M b
theorem Step.refl (Z : Nat -> Prop) (H : IH) (M : Nat -> Option (Nat × PO)) : Step Z H M Z H M := ⟨Nat.le_refl _, rfl, fun _ h => h, fun _ _ _ => rfl, fun _ h _ => .inl h, fun _ h _ => h⟩
theorem Step.trans {Z Z1 Z2 : Nat -> Prop} {H H1 H2 : IH} {M M1 M2 : Nat -> Option (Nat × PO)} (a : Step Z H M Z1 H1 M1) (b : Step Z1 H1 M1 Z2 H2 M2) : Step Z H M Z2 H2 M2 := by
 refine ⟨Nat.le_trans a.size b.size, b.base.trans a.base, fun x h => b.zle x (a.zle x h), fun x hx hn => ?_, fun x h hx => ?_, fun x h hx => a.onew x (b.onew x h (Nat.lt_of_lt_of_le hx a.size)) hx⟩
 ·exact (b.keep x (Nat.lt_of_lt_of_le hx a.size) fun h => hn (a.onew x h hx)).trans (a.keep x hx hn)
 ·rcases b.znew x h (Nat.lt_of_lt_of_le hx a.size) with h | h
  ·exact a.znew x h hx
  ·exact .inr (a.onew x h hx)
theorem Hp.zkeep {Z Z' : Nat -> Prop} {H H' : IH} {M M' : Nat -> Option (Nat × PO)} (h : Hp P Z H M) (s : Step Z H M Z' H' M') : ∀ b, Z b -> b < H.size -> H'.get b = H.get b := fun b hz hb => s.keep b hb fun ⟨k, ob, h1, h2⟩ => by
 rcases h.obj k b ob h1 with h3 | ⟨_, _, h3, _⟩
 ·exact h2 h3
 ·exact h3 hz
end Go.Idl
namespace Go.Idl
noncomputable section
variable {P : Program}
def fvv (v : Value) : PV := .f (.v v)
def okC (v : Value) : Bool := xX v && oneCell v
def q03 (v : Value) : PV := cond (okC v) (fvv v) .unk
def ofC : Value -> PV
 | .agg cs => cond (wD okC cs.toList) (.agg (jZ fvv cs.toList)) .unk
 | .tuple cs => cond (wD okC cs.toList) (.tup (jZ fvv cs.toList)) .unk
 | v => q03 v
def zD (env : List PV) : Operand -> PV
 | .tmp t => (yN env t).getD .unk
 | .const v => ofC v
 | .global _ => .unk
 | .func g => fvv (.func (.func g) #[] #[])
def xQ (env : List PV) (d : Option Tmp) (v : PV) : List PV :=
 match d with
 | some t => jE env t v
 | none => env
def pl1 : PV -> Option Value
 | .f (.v x) => some x
 | _ => none
def qRW : List PV -> Option (List Value)
 | [] => some []
 | x :: l => match pl1 x with
   | some v => (match qRW l with
     | some vs => some (v :: vs)
     | none => none)
   | none => none
def pl : PV -> Option Value
 | .f (.v x) => some x
 | .agg cs => (match qRW cs with
   | some vs => some (.agg vs.toArray)
   | none => none)
 | _ => none
def plL : List PV -> Option (List Value)
 | [] => some []
 | x :: l => match pl x with
   | some v => (match plL l with
     | some vs => some (v :: vs)
     | none => none)
   | none => none
def H00 : IH := ⟨.nil, 0, 0, []⟩
def cop (op : Op) (ty : TypeId := 0) : Oper := ⟨none, op, ty, "", #[], none⟩
def q0Y : Value -> Bool
 | .nilIface => true
 | _ => false
def qT1 : Option Step1 -> Option PV
 | some (.val v _) => some (ofC v)
 | _ => none
def qY5 (P : Program) (op : Op) (ty : TypeId := 0) : Option PV := qT1 (jQ P (cop op ty) [] H00)
def nA : PV -> Bool
 | .agg _ | .tup _ | .yl _ | .unk => false
 | _ => true
def pnt : PV -> Bool
 | .tup _ | .yl _ | .unk => false
 | _ => true
def y8 : PV -> List PV
 | .agg cs => cs
 | v => [v]
def jJ (l : List PV) (i : Nat) (vs : List PV) : List PV := l.take i ++ vs ++ l.drop (i + vs.length)
def xR (P : Program) (t : TypeId) : Option TypeId := match P.underlying t with
 | some (.slice el) => some el
 | _ => none
def qTC (P : Program) (t : TypeId) : Option (Nat × TypeId) := match P.underlying t with
 | some (.array n el) => some (n, el)
 | _ => none
def qZ0 (P : Program) (t : TypeId) (i : Nat) : Option (Nat × TypeId) := match P.underlying t with
 | some (.struct fields) => (match fields[i]? with
   | some f => some (f.offset, f.type)
   | none => none)
 | _ => none
def zc (P : Program) (t : TypeId) : Option (List PV) := match pF P t with
 | some z => cond (wD okC z.cells.toList) (some (jZ fvv z.cells.toList)) none
 | none => none
def qTK (P : Program) (t : TypeId) (i : Nat) : Option (Nat × Nat) := match P.underlying t with
 | some (.struct fields) => (match fields[i]? with
   | some f => (szT P f.type).map fun s => (f.offset, s)
   | none => none)
 | some (.array _ el) => (szT P el).map fun s => (i * s, s)
 | _ => none
def tX (P : Program) (t : TypeId) : Bool := match P.underlying t with
 | some (.struct fields) => (fields.toList.mapM (fun f => (szT P f.type).map fun s => (f.offset, s))).isSome
 | some (.array _ el) => (szT P el).isSome
 | _ => false
def fO (P : Program) (el : TypeId) : Bool := match P.info? el with
 | some i => decide (i.bytes <= 4096) && (match u7 P el with
   | some z => Nat.beq z.cells.size i.size
   | none => false)
 | none => false
def o8 (P : Program) (t : TypeId) (cs : List PV) (off : Nat) : Option PV := match qNN P t with
 | some true => (match szT P t with
   | some n => cond (Nat.ble (off + n) cs.length) (some (.agg ((cs.drop off).take n))) none
   | none => none)
 | some false => yN cs off
 | none => none
def qJK (P : Program) (t : TypeId) (cs : List FV) (off : Nat) : Option PV := match qNN P t with
 | some true => (match szT P t with
   | some n => cond (Nat.ble (off + n) cs.length) (some (.agg (((cs.drop off).take n).map .f))) none
   | none => none)
 | some false => (match cs[off]? with
   | some x => some (.f x)
   | none => none)
 | none => none
def nG (P : Program) (t : TypeId) (a : PV) (ph : PHp) : Option PV := match a with
 | .ref k tt off => (match qC k ph with
   | some ob => cond (Nat.beq tt ob.cs.length) (o8 P t ob.cs off) none
   | none => none)
 | .lp cs off => qJK P t cs off
 | _ => none
def qBG (P : Program) (t : TypeId) (a x : PV) (ph : PHp) : Option PHp := match a with
 | .ref k tt off => (match qC k ph with
   | some ob => (match szT P t with
     | some n => cond (Nat.beq tt ob.cs.length && (Nat.beq n (y8 x).length && (Nat.ble (off + n) ob.cs.length && (pnt x && (y8 x).all nA)))) (some (cB k { ob with cs := jJ ob.cs off (y8 x) } ph)) none
     | none => none)
   | none => none)
 | _ => none
def qF3 (place : Nat -> Option (Nat × Nat)) : List PV -> List (Nat × PV) -> Option (List PV)
 | cells, [] => some cells
 | cells, (i, v) :: rest => match place i with
   | some (off, size) => cond (Nat.beq (y8 v).length size && (Nat.ble (off + size) cells.length && (pnt v && (y8 v).all nA))) (qF3 place (jJ cells off (y8 v)) rest) none
   | none => none
def qHL (P : Program) (t : TypeId) (parts : List (Nat × PV)) : Option PV := match zc P t with
 | some z => cond (tX P t) (match qF3 (qTK P t) z parts with
   | some cs => some (.agg cs)
   | none => none) none
 | none => none
def qHG (n : Nat) (z : List PV) : List PV := (List.replicate n z).flatten
def qON (k : Nat) (ob : PO) (v : PV) (ph : PHp) : Option (PV × PHp) := some (v, (k, ob) :: ph)
def vB (P : Program) (t : TypeId) (len : Nat) (parts : List (Nat × PV)) (k : Nat) (ph : PHp) : Option (PV × PHp) := match xR P t with
 | some el => (match szT P el, zc P el with
   | some (s + 1), some z => cond (Nat.beq z.length (s + 1) && Nat.ble (len * (s + 1)) 65536) (match qF3 (fun i => some (i * (s + 1), s + 1)) (qHG len z) parts with
     | some cs => qON k ⟨el, false, cs⟩ (.own k len 0 len) ph
     | none => none) none
   | _, _ => none)
 | none => none
def mkN (n : Int) : Option Nat := if 0 <= n ∧ n <= 65536 then some n.toNat else none
def wN (P : Program) (t : TypeId) (l c : PV) (k : Nat) (ph : PHp) : Option (PV × PHp) := match xR P t, l, c with
 | some el, .f (.v (.int _ n)), .f (.v (.int _ m)) => cond (decide (n = m)) (match mkN n, szT P el, zc P el with
   | some n, some (s + 1), some z => cond (fO P el && Nat.beq z.length (s + 1)) (qON k ⟨el, false, qHG n z⟩ (.own k n 0 n) ph) none
   | _, _, _ => none) none
 | _, _, _ => none
def qC7 (P : Program) (el : TypeId) (k : Nat) (ph : PHp) : Option (PV × PHp) := match zc P el with
 | some z => qON k ⟨el, false, z⟩ (.ref k z.length 0) ph
 | none => none
def qZ7 (el : TypeId) (v : PV) (k : Nat) (ph : PHp) : Option (PV × PHp) :=
 cond (pnt v && (y8 v).all nA) (qON k ⟨el, false, y8 v⟩ (.ref k (y8 v).length 0) ph) none
def live? (k t : Nat) (ph : PHp) : Bool := match qC k ph with
 | some ob => Nat.beq t ob.cs.length
 | none => false
def xK (v : PV) (ph : PHp) : Option PV := match v with
 | .ref k t off => cond (live? k t ph) (some v) none
 | .lp cs off => some v
 | .fn _ _ _ => some v
 | .f (.v (.func (.func g) a c)) => some v
 | _ => none
def vO (fn : Fn) (first cap : List PV) : Option PV := match fn with
 | .func g => some (match first, cap with
   | [], [] => fvv (.func (.func g) #[] #[])
   | _, _ => .fn g first cap)
 | _ => none
def bnd (d most : Nat) : Option PV -> Option Nat
 | none => some d
 | some (.f (.v (.int _ i))) => if 0 <= i ∧ i <= (most : Int) then some i.toNat else none
 | some _ => none
def uN (P : Program) (t : TypeId) (x : PV) (lo hi : Option PV) (ph : PHp) : Option PV := match x with
 | .f (.l el n cs) => (match xR P t, szT P el, bnd n n hi with
   | some el', some s, some h => (match bnd 0 h lo with
     | some l => cond (Nat.beq el' el && Nat.beq (n * s) cs.length) (some (.f (cond (Nat.beq l h) (.l el 0 []) (.l el (h - l) ((cs.drop (l * s)).take ((h - l) * s)))))) none
     | none => none)
   | _, _, _ => none)
 | .f (.v (.slice none 0 0)) => (match xR P t, bnd 0 0 hi, bnd 0 0 lo with
   | some el, some _, some _ => cond ((szT P el).isSome) (some x) none
   | _, _, _ => none)
 | .own k tt o n => (match qC k ph with
   | some ob => (match xR P t, szT P ob.el, bnd n n hi with
     | some el', some s, some h => (match bnd 0 h lo with
       | some l => cond (Nat.beq el' ob.el && Nat.beq (tt * s) ob.cs.length) (some (cond (Nat.beq l 0) (.own k tt o h) (cond (Nat.beq l h) (.f (.l ob.el 0 [])) (.own k tt (o + l) (h - l))))) none
       | none => none)
     | _, _, _ => none)
   | none => none)
 | .ref k tt 0 => (match qC k ph with
   | some ob => (match qTC P t with
     | some (m, el) => (match szT P el, bnd m m hi with
       | some (s + 1), some h => (match bnd 0 h lo with
         | some l => cond (Nat.beq el ob.el && (Nat.beq tt ob.cs.length && (Nat.beq (m * (s + 1)) tt && !ob.gr))) (some (cond (Nat.beq l 0) (.own k m 0 h) (cond (Nat.beq l h) (.f (.l el 0 [])) (.own k m l (h - l))))) none
         | none => none)
       | _, _ => none)
     | none => none)
   | none => none)
 | _ => none
def kX (P : Program) (t : TypeId) (x : PV) (i : Nat) (ph : PHp) : Option PV := match qZ0 P t i with
 | some (off, ft) => (match szT P ft with
   | some (_ + 1) => (match x with
     | .ref k tt o => cond (live? k tt ph) (some (.ref k tt (o + off))) none
     | .lp cs o => some (.lp cs (o + off))
     | _ => none)
   | _ => none)
 | none => none
def qCF (P : Program) (t : TypeId) (x : PV) (i : Nat) : Option PV := match qZ0 P t i, x with
 | some (off, ft), .agg cs => o8 P ft cs off
 | _, _ => none
def idx (n : Nat) (i : Int) : Option Nat := if 0 <= i ∧ i < (n : Int) then some i.toNat else none
def yL (P : Program) (t : TypeId) (x ix : PV) (ph : PHp) : Option PV := match ix with
 | .f (.v (.int _ i)) => (match x with
   | .f (.l el n cs) => (match xR P t with
     | some el' => (match szT P el' with
       | some s => (match idx n i with
         | some j => some (.lp cs (j * s))
         | none => none)
       | none => none)
     | none => none)
   | .own k tt o n => (match xR P t, qC k ph with
     | some el', some ob => (match szT P ob.el with
       | some s => (match idx n i with
         | some j => cond (Nat.beq el' ob.el && Nat.beq (tt * s) ob.cs.length) (some (.ref k ob.cs.length ((o + j) * s))) none
         | none => none)
       | none => none)
     | _, _ => none)
   | .ref k tt off => (match qTC P t with
     | some (n, el) => (match szT P el, idx n i with
       | some s, some j => cond (live? k tt ph) (some (.ref k tt (off + j * s))) none
       | _, _ => none)
     | none => none)
   | .lp cs off => (match qTC P t with
     | some (n, el) => (match szT P el, idx n i with
       | some s, some j => some (.lp cs (off + j * s))
       | _, _ => none)
     | none => none)
   | _ => none)
 | _ => none
def qC1 (P : Program) (t : TypeId) (x ix : PV) : Option PV := match qTC P t, x, ix with
 | some (n, el), .agg cs, .f (.v (.int _ i)) => (match szT P el, idx n i with
   | some s, some j => o8 P el cs (j * s)
   | _, _ => none)
 | _, _, _ => none
def bW (v : PV) (i : Nat) : Option PV := match v with
 | .tup cs => (match yN cs i with
   | some x => cond (pnt x) (some x) none
   | none => none)
 | _ => none
def pp1 (ph : PHp) : Option PV -> Option (PV × PHp)
 | some v => some (v, ph)
 | none => none
def ppS : Option PHp -> Option (PV × PHp)
 | some ph => some (.tup [], ph)
 | none => none
def isNil (v : PV) (ph : PHp) : Option Bool := match v with
 | .f (.v (.slice none _ _)) => some true
 | .f (.l _ (_ + 1) (_ :: _)) => some false
 | .own k t _ _ => (match qC k ph with
   | some ob => (match szT P ob.el with
     | some s => cond (Nat.beq (t * s) ob.cs.length) (some (ob.gr && Nat.beq t 0)) none
     | none => none)
   | none => none)
 | _ => none
def qMV (v : PV) : Option Bool := match v with
 | .f (.v .nilFunc) => some true
 | .f (.v (.func _ _ _)) => some false
 | .fn _ _ _ => some false
 | _ => none
def qO3 (P : Program) (t : TypeId) : Bool := match P.underlying t with
 | some (.func _ _ _) => true
 | _ => false
def qTM (P : Program) (t : TypeId) (a b : PV) (ph : PHp) : Option Bool := match b with
 | .f (.v (.slice none _ _)) => cond (xR P t).isSome (isNil (P := P) a ph) none
 | .f (.v .nilFunc) => cond (qO3 P t) (qMV a) none
 | _ => none
def gM (P : Program) (op : BinOp) (t t2 : TypeId) (x y : PV) (ph : PHp) : Option PV := match pl x, pl y with
 | some a, some b => cond (q0Y a) none (qT1 (xC P (cop (.binOp op t (.const a) (.const b) t2)) op t a b [] H00))
 | _, _ => (match op with
   | .eql => (qTM P t x y ph).map fun b => fvv (.bool b)
   | .neq => (qTM P t x y ph).map fun b => fvv (.bool !b)
   | _ => none)
def rD (P : Program) (mk : Operand -> Op) (x : PV) (ty : TypeId := 0) : Option PV := match pl x with
 | some a => qY5 P (mk (.const a)) ty
 | none => none
def qWX (P : Program) (ts : Array TypeId) (x : PV) (ph : PHp) : Option PV := match ts[0]? with
 | some t => (match xR P t with
   | some _ => (match x with
     | .f (.l _ n _) => some (fvv (.int .i64 (n : Int)))
     | .f (.v (.slice _ n _)) => some (fvv (.int .i64 (n : Int)))
     | .own k tt _ n => (match qC k ph with
       | some ob => (match szT P ob.el with
         | some s => cond (Nat.beq (tt * s) ob.cs.length) (some (fvv (.int .i64 (n : Int)))) none
         | none => none)
       | none => none)
     | _ => none)
   | none => (match qTC P t with
     | some (n, _) => some (fvv (.int .i64 (n : Int)))
     | none => none))
 | none => none
def qEY (P : Program) (s : Nat) (x : PV) (ph : PHp) : Option (Nat × List PV) := match x with
 | .f (.l _ n cs) => cond (Nat.beq (n * s) cs.length) (some (n, cs.map .f)) none
 | .f (.v (.slice none 0 _)) => some (0, [])
 | .own k tt o n => (match qC k ph with
   | some ob => (match szT P ob.el with
     | some s' => cond (Nat.beq (tt * s') ob.cs.length && Nat.beq s s') (some (n, (ob.cs.drop (o * s)).take (n * s))) none
     | none => none)
   | none => none)
 | _ => none
def qAT (P : Program) (el : TypeId) (s : Nat) (old : List PV) (n : Nat) (new : List PV) (m : Nat) (k : Nat) (ph : PHp) : Option (PV × PHp) :=
 cond (Nat.ble (n + m) 1048576 && (fO P el && (Nat.beq (old.length) (n * s) && (Nat.beq new.length (m * s) && new.all nA)))) (qON k ⟨el, true, old ++ new⟩ (.own k (n + m) 0 (n + m)) ph) none
def fJ (P : Program) (ts : List TypeId) (base x : PV) (k : Nat) (ph : PHp) : Option (PV × PHp) := match ts with
 | [st, xt] => (match xR P st, xR P xt with
   | some el, some _ => (match szT P el with
     | some (s + 1) => (match qEY P (s + 1) x ph with
       | some (m, new) => (match base with
         | .f (.v (.slice none 0 0)) => cond (Nat.beq m 0) (some (base, ph)) (qAT P el (s + 1) [] 0 new m k ph)
         | .own j tt o n => (match qC j ph with
           | some ob => cond (Nat.beq ob.el el && (Nat.beq (tt * (s + 1)) ob.cs.length && Nat.beq o 0))
              (cond (Nat.beq m 0) (some (base, ph))
                (cond (Nat.ble (n + m) tt) (cond (Nat.beq new.length (m * (s + 1)) && new.all nA) (some (.own j tt 0 (n + m), cB j { ob with cs := jJ ob.cs (n * (s + 1)) new } ph)) none)
                  (cond (Nat.beq n tt) (cond ob.gr (qAT P el (s + 1) ob.cs n new m j (qD1 j ph)) (qAT P el (s + 1) ob.cs n new m k ph)) none))) none
           | none => none)
         | _ => none)
       | none => none)
     | _ => none)
   | _, _ => none)
 | _ => none
def qDV (P : Program) (ts : List TypeId) (base x : PV) (ph : PHp) : Option (PV × PHp) := match ts with
 | [st, xt] => (match xR P st, xR P xt with
   | some el, some _ => (match szT P el with
     | some (s + 1) => (match qEY P (s + 1) x ph with
       | some (m, new) => (match base with
         | .own j tt o n => (match qC j ph with
           | some ob => cond (Nat.beq ob.el el && (Nat.beq (tt * (s + 1)) ob.cs.length && (Nat.beq new.length (m * (s + 1)) && new.all nA)))
              (some (fvv (.int .i64 ((Nat.min m n : Nat) : Int)), cB j { ob with cs := jJ ob.cs (o * (s + 1)) (new.take (Nat.min m n * (s + 1))) } ph)) none
           | none => none)
         | .f (.l _ 0 []) => some (fvv (.int .i64 0), ph)
         | .f (.v (.slice none 0 _)) => some (fvv (.int .i64 0), ph)
         | _ => none)
       | none => none)
     | _ => none)
   | _, _ => none)
 | _ => none
def needs : Op -> Bool
 | .alloc _ | .box _ _ | .buildSlice _ _ _ | .makeSlice _ _ _ => true
 | .call c => match c.callee with
   | .builtin .append => true
   | _ => false
 | _ => false
def qZU (P : Program) (ts : Array TypeId) : Bool := match (ts[0]?).bind P.underlying with
 | some .string => true
 | _ => false
def qN8 : PV -> Bool
 | .f (.v (.pointer _)) => true
 | _ => false
def erV (x : PV) : Value := (pl x).getD undef
def qOP (env : List PV) : Env := jZ erV env
def uI (P : Program) (b : Builtin) (c : Call) (args : List PV) (env : List PV) (ty : TypeId) (ph : PHp) : Option (PV × PHp) := match plL args with
 | some _ => pp1 ph (qT1 (jQ P (cop (.call c) ty) (qOP env) H00))
 | none => none
def fP (P : Program) (b : Builtin) (c : Call) (args : List PV) (env : List PV) (ty : TypeId) (k : Nat) (ph : PHp) : Option (PV × PHp) := match b with
 | .append => (match args with
   | [x, y] => fJ P c.argTypes.toList x y k ph
   | _ => none)
 | .copy => (match args with
   | [x, y] => qDV P c.argTypes.toList x y ph
   | _ => none)
 | .len => (match args with
   | [x] => cond (qZU P c.argTypes) (uI P b c args env ty ph) (pp1 ph (qWX P c.argTypes x ph))
   | _ => none)
 | .min => uI P b c args env ty ph
 | .max => uI P b c args env ty ph
 | _ => none
def qF4 (P : Program) (o : Oper) (env : List PV) (k : Nat) (ph : PHp) : Option (PV × PHp) :=
 match o.op with
 | .move x => some (zD env x, ph)
 | .assign x => some (zD env x, ph)
 | .pick c a b => (match zD env c with
   | .f (.v (.bool t)) => some (cond t (zD env a) (zD env b), ph)
   | _ => none)
 | .alloc el => qC7 P el k ph
 | .box el x => qZ7 el (zD env x) k ph
 | .build t parts => pp1 ph (qHL P t (parts.toList.map fun p => (p.1, zD env p.2)))
 | .buildSlice t len parts => vB P t len (parts.toList.map fun p => (p.1, zD env p.2)) k ph
 | .load t a => pp1 ph (nG P t (zD env a) ph)
 | .store t a x => ppS (qBG P t (zD env a) (zD env x) ph)
 | .nilCheck x => pp1 ph (xK (zD env x) ph)
 | .binOp op t x y t2 => pp1 ph (gM P op t t2 (zD env x) (zD env y) ph)
 | .unOp op t x => pp1 ph (rD P (fun a => .unOp op t a) (zD env x))
 | .convert s d x => cond (qN8 (zD env x)) none (pp1 ph (rD P (fun a => .convert s d a) (zD env x)))
 | .makeFunc fn first cap => pp1 ph (vO fn (first.toList.map (zD env)) (cap.toList.map (zD env)))
 | .makeSlice t l c => wN P t (zD env l) (zD env c) k ph
 | .slice t x lo hi none => (match zD env x with
   | .f (.v (.string s)) => (match plL ((lo.toList ++ hi.toList).map (zD env)) with
     | some _ => pp1 ph (qY5 P (.slice t (.const (.string s)) (lo.map fun a => .const ((pl (zD env a)).getD undef)) (hi.map fun a => .const ((pl (zD env a)).getD undef)) none))
     | none => none)
   | v => pp1 ph (uN P t v (lo.map (zD env)) (hi.map (zD env)) ph))
 | .fieldAddr t x i => pp1 ph (kX P t (zD env x) i ph)
 | .field t x i => pp1 ph (qCF P t (zD env x) i)
 | .indexAddr t x ix => pp1 ph (yL P t (zD env x) (zD env ix) ph)
 | .index t x ix => (match zD env x, pl (zD env ix) with
   | .f (.v (.string s)), some j => pp1 ph (qY5 P (.index t (.const (.string s)) (.const j)))
   | v, _ => pp1 ph (qC1 P t v (zD env ix)))
 | .extract t i => pp1 ph (bW (zD env t) i)
 | .call c => (match c.callee with
   | .builtin b => fP P b c (c.args.toList.map (zD env)) env o.type k ph
   | _ => none)
 | _ => none
end
end Go.Idl
namespace Go.Idl
variable {P : Program} {Z : Nat -> Prop} {H : IH} {M : Nat -> Option (Nat × PO)}
theorem cells_one {v : Value} (h : oneCell v = true) : v.cells = #[v] := by
 cases v <;> first | rfl | (cases h)
theorem q0Q {v : Value} (h : oneCell v = true) : yI v = true := by
 cases v <;> first | rfl | (cases h)
theorem VR.one {x : PV} {v : Value} (h : VR P Z H M x v) (hp : nA x = true) : oneCell v = true := by
 cases h with
 | f h => exact h.one
 | agg => cases hp
 | tup => cases hp
 | own h1 => exact h1
 | ref h1 => exact h1
 | lp => rfl
 | fn => rfl
 | yl => cases hp
 | unk => cases hp
theorem VR.cells {x : PV} {v : Value} (h : VR P Z H M x v) (hp : pnt x = true) : VRL P Z H M (y8 x) v.cells.toList ∧ yI v = true := by
 have one : nA x = true -> y8 x = [x] -> VRL P Z H M (y8 x) v.cells.toList ∧ yI v = true := fun h1 h2 => by
  have := h.one h1
  rw [cells_one this, h2]
  exact ⟨.cons h .nil, q0Q this⟩
 cases x with
 | f => exact one rfl rfl
 | agg cs =>
   cases h with
   | agg hl hc => exact ⟨⟨by simpa [Value.cells, y8] using hl, fun i x v h1 h2 => hc i x v h1 (by simpa [Value.cells] using h2)⟩, rfl⟩
 | tup => cases hp
 | own => exact one rfl rfl
 | ref => exact one rfl rfl
 | lp => exact one rfl rfl
 | fn => exact one rfl rfl
 | yl => cases hp
 | unk => cases hp
theorem VRL.one : ∀ {xs : List PV} {vs : List Value}, VRL P Z H M xs vs -> xs.all nA = true -> vs.all oneCell = true
 | [], _, h, _ => by rw [h.nil_left]; rfl
 | x :: xs, _, h, hp => by
   obtain ⟨v, vs, rfl, h1, h2⟩ := h.uncons
   simp only [List.all_cons, Bool.and_eq_true] at hp ⊢
   exact ⟨h1.one hp.1, VRL.one h2 hp.2⟩
theorem VRL.over {xs ys : List PV} {vs ws : List Value} (a : VRL P Z H M xs vs) (b : VRL P Z H M ys ws) (i : Nat) : VRL P Z H M (jJ xs i ys) (overwrite vs i ws) := by
 unfold jJ overwrite
 rw [<- b.len]
 exact ((a.take i).append b).append (a.drop _)
theorem mY {xs ys : List PV} {i : Nat} (h : i + ys.length <= xs.length) : (jJ xs i ys).length = xs.length := by
 unfold jJ; simp; omega
theorem rU {vs ws : List Value} {i : Nat} (a : vs.all oneCell = true) (b : ws.all oneCell = true) : (overwrite vs i ws).all oneCell = true := by
 unfold overwrite
 rw [List.all_append, List.all_append, b, Bool.and_true, Bool.and_eq_true]
 rw [List.all_eq_true] at a
 exact ⟨List.all_eq_true.2 fun x hx => a x (List.mem_of_mem_take hx), List.all_eq_true.2 fun x hx => a x (List.mem_of_mem_drop hx)⟩
theorem VRL.of_map {f : Value -> PV} (hf : ∀ v, okC v = true -> VR P Z H M (f v) v) : ∀ {vs : List Value}, wD okC vs = true -> VRL P Z H M (jZ f vs) vs
 | [], _ => .nil
 | v :: vs, h => by
   rw [nK, Bool.and_eq_true] at h
   exact .cons (hf v h.1) (VRL.of_map hf h.2)
theorem uY {v : Value} (h : okC v = true) : VR P Z H M (fvv v) v := by
 unfold okC at h
 rw [Bool.and_eq_true] at h
 exact .f (.v h.1 h.2)
theorem qPB : ∀ {vs : List Value}, wD okC vs = true -> vs.all oneCell = true
 | [], _ => rfl
 | v :: vs, h => by
   rw [nK, Bool.and_eq_true] at h
   unfold okC at h
   simp only [Bool.and_eq_true] at h
   simp only [List.all_cons, Bool.and_eq_true]
   exact ⟨h.1.2, qPB h.2⟩
theorem qPX (v : Value) : VR P Z H M (ofC v) v := by
 have c1 : VR P Z H M (q03 v) v := by
  unfold q03
  cases h : okC v with
  | true => exact uY h
  | false => exact .unk
 unfold ofC
 split
 ·rename_i cs
  cases h : wD okC cs.toList with
  | true =>
    have := VRL.of_map (P := P) (Z := Z) (H := H) (M := M) (f := fvv) (fun v h => uY h) h
    exact .agg (by simpa using this.len) fun i x v h1 h2 => this.val i x v h1 (by simpa using h2)
  | false => exact .unk
 ·rename_i cs
  cases h : wD okC cs.toList with
  | true =>
    have := VRL.of_map (P := P) (Z := Z) (H := H) (M := M) (f := fvv) (fun v h => uY h) h
    exact .tup (by simpa using this.len) fun i x v h1 h2 => this.val i x v h1 (by simpa using h2)
  | false => exact .unk
 ·exact c1
theorem qM {env : List PV} {ienv : Env} (h : VRL P Z H M env ienv) (x : Operand) : VR P Z H M (zD env x) (ienv.val x) := by
 cases x with
 | tmp t =>
   unfold zD Env.val
   simp only [qG]
   cases he : env[t]? with
   | none => exact .unk
   | some y =>
     obtain ⟨v, h1, h2⟩ := h.get he
     rw [h1]
     exact h2
 | const v => exact qPX v
 | global g => exact .unk
 | func g => exact uY rfl
theorem q1F {x : PV} {v a : Value} (h : VR P Z H M x v) (hp : pl1 x = some a) : v = a := by
 unfold pl1 at hp
 split at hp
 ·cases hp
  cases h with
  | f h => cases h; rfl
 ·cases hp
theorem qQP : ∀ {xs : List PV} {vs as : List Value}, VRL P Z H M xs vs -> qRW xs = some as -> vs = as
 | [], _, _, h, hp => by
   rw [h.nil_left]
   simp only [qRW, Option.some.injEq] at hp
   exact hp
 | x :: xs, _, _, h, hp => by
   obtain ⟨v, vs, rfl, h1, h2⟩ := h.uncons
   unfold qRW at hp
   split at hp
   ·rename_i a ha
    split at hp
    ·rename_i as' has
     cases hp
     rw [q1F h1 ha, qQP h2 has]
    ·cases hp
   ·cases hp
theorem kS {x : PV} {v a : Value} (h : VR P Z H M x v) (hp : pl x = some a) : v = a := by
 unfold pl at hp
 split at hp
 ·cases hp
  cases h with
  | f h => cases h; rfl
 ·rename_i cs
  split at hp
  ·rename_i vs hvs
   cases hp
   cases h with
   | agg hl hc =>
     rename_i ws
     have : VRL P Z H M cs ws.toList := ⟨by simpa using hl, fun i x v h1 h2 => hc i x v h1 (by simpa using h2)⟩
     have := qQP this hvs
     rw [<- this]
  ·cases hp
 ·cases hp
def own (m : Nat -> Nat) (ph : PHp) : Nat -> Option (Nat × PO) := fun k => (qC k ph).map fun ob => (m k, ob)
theorem yF {m : Nat -> Nat} {ph : PHp} {k : Nat} {ob : PO} (h : qC k ph = some ob) : own m ph k = some (m k, ob) := by unfold own; rw [h]; rfl
theorem gU {m : Nat -> Nat} {ph : PHp} {k b : Nat} {ob : PO} (h : own m ph k = some (b, ob)) : qC k ph = some ob ∧ b = m k := by
 unfold own at h
 cases hl : qC k ph with
 | none => rw [hl] at h; cases h
 | some o => rw [hl] at h; cases h; exact ⟨rfl, rfl⟩
theorem jW {k j : Nat} {o : PO} : ∀ {ph : PHp}, qC k (cB j o ph) = if k = j ∧ (qC j ph).isSome = true then some o else qC k ph
 | [] => by simp [cB, qC]
 | (i, p) :: l => by
   have ih := jW (k := k) (j := j) (o := o) (ph := l)
   unfold cB
   by_cases h : j = i
   ·subst h
    simp only [beq_self_eq_true, cond_true, qC, Option.isSome_some, and_true]
    by_cases hk : k = j
    ·subst hk; simp
    ·have : (k == j) = false := by simpa using hk
     simp [this, hk]
   ·have hj : (j == i) = false := by simpa using h
    simp only [hj, cond_false, qC]
    by_cases hk : k = i
    ·subst hk
     have : ¬ (k = j) := fun e => h e.symm
     simp [this]
    ·have hk' : (k == i) = false := by simpa using hk
     simp only [hk', cond_false]
     exact ih
theorem gJ {k j : Nat} : ∀ {ph : PHp}, qC k (qD1 j ph) = if k = j then none else qC k ph
 | [] => by simp [qD1, qC]
 | (i, p) :: l => by
   have ih := gJ (k := k) (j := j) (ph := l)
   unfold qD1
   by_cases h : j = i
   ·subst h
    simp only [beq_self_eq_true, cond_true, qC]
    rw [ih]
    by_cases hk : k = j
    ·simp [hk]
    ·have : (k == j) = false := by simpa using hk
     simp [hk, this]
   ·have hj : (j == i) = false := by simpa using h
    simp only [hj, cond_false, qC]
    by_cases hk : k = i
    ·subst hk
     have : ¬ (k = j) := fun e => h e.symm
     simp [this]
    ·have hk' : (k == i) = false := by simpa using hk
     simp only [hk', cond_false]
     exact ih
def sN (k : Nat) : PHp -> Bool
 | [] => true
 | (_, o) :: l => kU k o.cs && sN k l
theorem uR {k : Nat} : ∀ {ph : PHp} {j : Nat} {ob : PO}, sN k ph = true -> qC j ph = some ob -> kU k ob.cs = true
 | (i, p) :: l, j, ob, h, e => by
   simp only [sN, Bool.and_eq_true] at h
   unfold qC at e
   cases hj : (j == i) with
   | true => rw [hj] at e; cases e; exact h.1
   | false => rw [hj] at e; exact uR h.2 e
structure Res (P : Program) (Z : Nat -> Prop) (H : IH) (m : Nat -> Nat) (ph : PHp) (p : Nat -> Bool) (v : PV) (ph' : PHp) (s : Option Step1) : Prop where
 ex : ∃ u H' Z' m', s = some (.val u H') ∧ Hp P Z' H' (own m' ph') ∧ VR P Z' H' (own m' ph') v u ∧ Step Z H (own m ph) Z' H' (own m' ph') ∧ KR p (own m ph) (own m' ph')
theorem Res.same {m : Nat -> Nat} {ph : PHp} {p : Nat -> Bool} {v : PV} {u : Value} {s : Option Step1} (hs : s = some (.val u H)) (hp : Hp P Z H (own m ph)) (hv : VR P Z H (own m ph) v u) : Res P Z H m ph p v ph s :=
 ⟨u, H, Z, m, hs, hp, hv, .refl _ _ _, .refl _ _⟩
def real (ob : PO) : Prop := ¬ (ob.gr = true ∧ ob.cs = [])
theorem Hp.pushG {p : Nat -> Bool} {m : Nat -> Nat} {ph ph0 : PHp} (hp : Hp P Z H (own m ph)) {k : Nat} {ob : PO} {vs : List Value} {H1 : IH} (hs1 : H1.size = H.size) (hb1 : H1.base = H.base)
 (hg1 : ∀ b, b < H.size -> (∀ ob0, qC k ph = some ob0 -> real ob0 -> b ≠ m k) -> H1.get b = H.get b)
 (hk1 : p k = true ∨ ∃ ob0, qC k ph = some ob0 ∧ ob0.cs.length < ob.cs.length ∧ ob0.el = ob.el) (hn : ∀ j, p j = true -> j = k ∧ sN k ph = true ∧ kU k ob.cs = true) (hr : VRL P Z H (own m ph) ob.cs vs) (h1 : vs.all oneCell = true) (hb : H.base <= H.size)
 (h0 : ∀ j, j ≠ k -> qC j ph0 = qC j ph) :
 Hp P Z (H1.push (.cells vs.toArray ob.el (cond ob.gr zC (0, 0)))) (own (fun j => if j = k then H.size else m j) ((k, ob) :: ph0)) ∧
  Step Z H (own m ph) Z (H1.push (.cells vs.toArray ob.el (cond ob.gr zC (0, 0)))) (own (fun j => if j = k then H.size else m j) ((k, ob) :: ph0)) ∧ KR p (own m ph) (own (fun j => if j = k then H.size else m j) ((k, ob) :: ph0)) := by
 have hold : ∀ j, j ≠ k -> own (fun j => if j = k then H.size else m j) ((k, ob) :: ph0) j = own m ph j := fun j hj => by
  have : (j == k) = false := by simpa using hj
  have e : qC j ((k, ob) :: ph0) = qC j ph := by
   show cond (j == k) (some ob) (qC j ph0) = _
   rw [this]; exact h0 j hj
  unfold own
  rw [e]
  simp only [if_neg hj]
 have hnew : own (fun j => if j = k then H.size else m j) ((k, ob) :: ph0) k = some (H.size, ob) := by
  simp [own, qC]
 have hkr : KR p (own m ph) (own (fun j => if j = k then H.size else m j) ((k, ob) :: ph0)) := fun j b' ob' h => by
  by_cases hj : j = k
  ·subst hj
   rw [hnew] at h; cases h
   rcases hk1 with h | ⟨ob0, q1, q2, q3⟩
   ·exact .inr (.inr h)
   ·exact .inr (.inl ⟨_, ob0, yF q1, q2, q3⟩)
  ·rw [hold j hj] at h; exact .inl ⟨ob', h, rfl, rfl, rfl⟩
 have hg : ∀ b, b < H.size -> (∀ ob0, qC k ph = some ob0 -> real ob0 -> b ≠ m k) -> (H1.push (.cells vs.toArray ob.el (cond ob.gr zC (0, 0)))).get b = H.get b := fun b hb h => (wY (by rw [hs1]; exact hb)).trans (hg1 b hb h)
 have hs : (H1.push (.cells vs.toArray ob.el (cond ob.gr zC (0, 0)))).size = H.size + 1 := by show H1.size + 1 = _; rw [hs1]
 have hzk : ∀ b, Z b -> ∀ ob0, qC k ph = some ob0 -> real ob0 -> b ≠ m k := fun b hz ob0 q1 q2 e => by
  rcases hp.obj k _ _ (yF q1) with h | ⟨_, _, h, _⟩
  ·exact q2 h
  ·exact h (e ▸ hz)
 have hmono : ∀ {xs : List PV} {us : List Value}, VRL P Z H (own m ph) xs us -> (∀ j, p j = true -> kU j xs = true) -> VRL P Z (H1.push (.cells vs.toArray ob.el (cond ob.gr zC (0, 0)))) (own (fun j => if j = k then H.size else m j) ((k, ob) :: ph0)) xs us := fun h hx =>
  h.mono (fun _ h => h) (by omega) (fun b hz hb => hg b hb (hzk b hz)) hkr hx
 refine ⟨⟨fun b hz => by have := hp.zlt b hz; omega, fun j b o hj => ?_, fun j j' b b' o o' h1 h2 r1 r2 hne => ?_⟩, ⟨by omega, hb1, fun _ h => h, fun b hb hn => hg b hb fun ob0 q1 q2 e => hn ⟨k, ob0, by rw [e]; exact yF q1, q2⟩, fun b h _ => .inl h, fun b ⟨j, o, hj, hr⟩ hb => ?_⟩, hkr⟩
 ·by_cases e : j = k
  ·subst e
   rw [hnew] at hj; cases hj
   refine .inr ⟨by omega, by show H1.base <= _; rw [hb1]; exact hb, fun hz => by have := hp.zlt _ hz; omega, vs, by rw [<- hs1]; exact j6, hmono hr fun i hi => by obtain ⟨rfl, _, q⟩ := hn i hi; exact q, h1⟩
  ·rw [hold j e] at hj
   rcases hp.obj j b o hj with h | ⟨q1, q2, q3, ws, q4, q5, q6⟩
   ·exact .inl h
   ·by_cases hro : o.gr = true ∧ o.cs = []
    ·exact .inl hro
    ·exact .inr ⟨by omega, by show H1.base <= _; rw [hb1]; exact q2, q3, ws, (hg b q1 fun ob0 r1 r2 => hp.inj j k b (m k) o ob0 hj (yF r1) hro r2 e).trans q4, hmono q5 fun i hi => by obtain ⟨rfl, q, _⟩ := hn i hi; exact uR q (gU hj).1, q6⟩
 ·have lt : ∀ {i c oc}, i ≠ k -> own (fun j => if j = k then H.size else m j) ((k, ob) :: ph0) i = some (c, oc) -> real oc -> c < H.size := fun hi h hr => by
   rw [hold _ hi] at h
   rcases hp.obj _ _ _ h with q | q
   ·exact absurd q hr
   ·exact q.1
  by_cases e : j = k
  ·subst e
   rw [hnew] at h1; cases h1
   have := lt (Ne.symm hne) h2 r2
   omega
  ·by_cases e' : j' = k
   ·subst e'
    rw [hnew] at h2; cases h2
    have := lt hne h1 r1
    omega
   ·rw [hold _ e] at h1
    rw [hold _ e'] at h2
    exact hp.inj j j' b b' o o' h1 h2 r1 r2 hne
 ·by_cases e : j = k
  ·subst e; rw [hnew] at hj; cases hj; omega
  ·rw [hold j e] at hj; exact ⟨j, o, hj, hr⟩
theorem Hp.push {m : Nat -> Nat} {ph : PHp} (hp : Hp P Z H (own m ph)) {k : Nat} {ob : PO} {vs : List Value} (hn : sN k ph = true) (hc : kU k ob.cs = true) (hr : VRL P Z H (own m ph) ob.cs vs) (h1 : vs.all oneCell = true) (hb : H.base <= H.size) :
 Hp P Z (H.push (.cells vs.toArray ob.el (cond ob.gr zC (0, 0)))) (own (fun j => if j = k then H.size else m j) ((k, ob) :: ph)) ∧
  Step Z H (own m ph) Z (H.push (.cells vs.toArray ob.el (cond ob.gr zC (0, 0)))) (own (fun j => if j = k then H.size else m j) ((k, ob) :: ph)) ∧ KR (fun j => j == k) (own m ph) (own (fun j => if j = k then H.size else m j) ((k, ob) :: ph)) :=
 hp.pushG rfl rfl (fun _ _ _ => rfl) (.inl (by simp)) (fun j hj => ⟨by simpa using hj, hn, hc⟩) hr h1 hb fun _ _ => rfl
theorem aY {m : Nat -> Nat} {k b : Nat} {ob : PO} {ph : PHp} : own (fun j => if j = k then b else m j) ((k, ob) :: ph) k = some (b, ob) := by simp [own, qC]
theorem Hp.put {m : Nat -> Nat} {ph : PHp} (hp : Hp P Z H (own m ph)) {k : Nat} {ob : PO} {cs : List PV} {vs : List Value} (hl : qC k ph = some ob) (hre : real ob) (hlen : cs.length = ob.cs.length) (hr : VRL P Z H (own m ph) cs vs) (h1 : vs.all oneCell = true) :
 Hp P Z (H.put (m k) (.cells vs.toArray ob.el (cond ob.gr zC (0, 0)))) (own m (cB k { ob with cs := cs } ph)) ∧
  Step Z H (own m ph) Z (H.put (m k) (.cells vs.toArray ob.el (cond ob.gr zC (0, 0)))) (own m (cB k { ob with cs := cs } ph)) ∧ ∀ p, KR p (own m ph) (own m (cB k { ob with cs := cs } ph)) := by
 have hk := yF (m := m) hl
 have hreal : real { ob with cs := cs } := fun h => by
  have h2 : cs = [] := h.2
  rw [h2] at hlen
  exact hre ⟨h.1, List.length_eq_zero_iff.1 hlen.symm⟩
 have hold : ∀ j, j ≠ k -> own m (cB k { ob with cs := cs } ph) j = own m ph j := fun j hj => by
  unfold own; rw [jW, if_neg (fun h => hj h.1)]
 have hnew : own m (cB k { ob with cs := cs } ph) k = some (m k, { ob with cs := cs }) := by
  unfold own; rw [jW, if_pos ⟨rfl, by rw [hl]; rfl⟩]; rfl
 have hkr : ∀ p, KR p (own m ph) (own m (cB k { ob with cs := cs } ph)) := fun p j b' ob' h => by
  by_cases hj : j = k
  ·subst hj
   rw [hnew] at h; cases h
   exact .inl ⟨ob, hk, hlen.symm, rfl, rfl⟩
  ·rw [hold j hj] at h; exact .inl ⟨ob', h, rfl, rfl, rfl⟩
 obtain ⟨w1, w2, w3, ws0, w4, w5, w6⟩ : m k < H.size ∧ H.base <= m k ∧ ¬ Z (m k) ∧ ∃ vs, H.get (m k) = some (.cells vs.toArray ob.el (cond ob.gr zC (0, 0))) ∧ VRL P Z H (own m ph) ob.cs vs ∧ vs.all oneCell = true := by
  rcases hp.obj k (m k) ob hk with h | h
  ·exact absurd h hre
  ·exact h
 have hg : ∀ b, b ≠ m k -> (H.put (m k) (.cells vs.toArray ob.el (cond ob.gr zC (0, 0)))).get b = H.get b := fun b hb => y7 hb
 have hmono : ∀ {xs : List PV} {us : List Value}, VRL P Z H (own m ph) xs us -> VRL P Z (H.put (m k) (.cells vs.toArray ob.el (cond ob.gr zC (0, 0)))) (own m (cB k { ob with cs := cs } ph)) xs us := fun h =>
  h.mono (p := fun _ => false) (H := H) (H' := H.put (m k) (.cells vs.toArray ob.el (cond ob.gr zC (0, 0)))) (fun _ h => h) (Nat.le_refl _) (fun b hz hb => hg b fun e => w3 (e ▸ hz)) (hkr _) fun j hj => by cases hj
 refine ⟨⟨fun b hz => hp.zlt b hz, fun j b o hj => ?_, fun j j' b b' o o' h1 h2 r1 r2 hne => ?_⟩, ⟨Nat.le_refl _, rfl, fun _ h => h, fun b hb hn => hg b fun e => hn ⟨k, ob, by rw [e]; exact hk, hre⟩, fun b h _ => .inl h, fun b ⟨j, o, hj, hr⟩ hb => ?_⟩, hkr⟩
 ·by_cases e : j = k
  ·subst e
   rw [hnew] at hj; cases hj
   exact .inr ⟨w1, w2, w3, vs, wL, hmono hr, h1⟩
  ·rw [hold j e] at hj
   rcases hp.obj j b o hj with h | ⟨q1, q2, q3, ws, q4, q5, q6⟩
   ·exact .inl h
   ·by_cases hro : real o
    ·exact .inr ⟨q1, q2, q3, ws, (hg b (hp.inj j k b (m k) o ob hj hk hro hre e)).trans q4, hmono q5, q6⟩
    ·by_cases hx : o.gr = true ∧ o.cs = []
     ·exact .inl hx
     ·exact absurd hx hro
 ·have back : ∀ {i c oc}, own m (cB k { ob with cs := cs } ph) i = some (c, oc) -> real oc -> ∃ oc', own m ph i = some (c, oc') ∧ real oc' := fun {i c oc} h hr => by
   by_cases e : i = k
   ·subst e; rw [hnew] at h; cases h; exact ⟨ob, hk, hre⟩
   ·rw [hold _ e] at h; exact ⟨oc, h, hr⟩
  obtain ⟨o1, e1, f1⟩ := back h1 r1
  obtain ⟨o2, e2, f2⟩ := back h2 r2
  exact hp.inj j j' b b' o1 o2 e1 e2 f1 f2 hne
 ·by_cases e : j = k
  ·subst e; rw [hnew] at hj; cases hj; exact ⟨j, ob, hk, hre⟩
  ·rw [hold j e] at hj; exact ⟨j, o, hj, hr⟩
end Go.Idl
namespace Go.Idl
variable {P : Program} {Z : Nat -> Prop} {H : IH} {M : Nat -> Option (Nat × PO)} {m : Nat -> Nat} {ph : PHp}
def qHE (P : Program) (t : TypeId) (vs : List Value) (off : Nat) : Option Value := match qNN P t with
 | some true => (match szT P t with
   | some n => if off + n <= vs.length then some (.agg ((vs.drop off).take n).toArray) else none
   | none => none)
 | some false => vs[off]?
 | none => none
theorem qDB {t : TypeId} {vs : List Value} {b off : Nat} {el : TypeId} {fz : Nat × Nat} (h : H.get b = some (.cells vs.toArray el fz)) : jB P t (.pointer (some ⟨b, off, none⟩)) H = qHE P t vs off := by
 unfold jB qHE IH.load IH.loads
 simp only [h]
 cases qNN P t with
 | none => rfl
 | some x =>
   cases x with
   | false => simp
   | true =>
     cases szT P t with
     | none => rfl
     | some n =>
       simp only [List.size_toArray]
       by_cases hc : off + n <= vs.length
       ·rw [if_pos hc, if_pos hc]
       ·rw [if_neg hc, if_neg hc]
theorem tC {t : TypeId} {vs : Array Value} {off : Nat} : qNL P t vs off = qHE P t vs.toList off := by
 unfold qNL qHE
 cases qNN P t with
 | none => rfl
 | some x =>
   cases x with
   | false => simp
   | true =>
     cases szT P t with
     | none => rfl
     | some n =>
       simp only [Array.length_toList]
       by_cases hc : off + n <= vs.size
       ·rw [if_pos hc, if_pos hc]
        congr 2
        apply Array.ext'
        rw [Array.toList_extract, List.extract_eq_take_drop]
        congr 1; omega
       ·rw [if_neg hc, if_neg hc]
theorem VRL.toA {cs : List PV} {vs : List Value} (h : VRL P Z H M cs vs) : VR P Z H M (.agg cs) (.agg vs.toArray) := .agg (by simpa using h.len) fun i x v h1 h2 => h.val i x v h1 (by simpa using h2)
theorem sF {t : TypeId} {cs : List PV} {vs : List Value} {off : Nat} {x : PV} (h : VRL P Z H M cs vs) (hp : o8 P t cs off = some x) : ∃ v, qHE P t vs off = some v ∧ VR P Z H M x v := by
 unfold o8 at hp
 unfold qHE
 split at hp
 ·rename_i ha
  split at hp
  ·rename_i n hn
   cases hc : Nat.ble (off + n) cs.length with
   | false => rw [hc] at hp; cases hp
   | true =>
     rw [hc] at hp; cases hp
     have hle : off + n <= cs.length := Nat.le_of_ble_eq_true hc
     try simp only [ha, hn]
     rw [if_pos (by rw [<- h.len]; exact hle)]
     exact ⟨_, rfl, ((h.drop off).take n).toA⟩
  ·cases hp
 ·rename_i ha
  rw [qG] at hp
  obtain ⟨v, h1, h2⟩ := h.get hp
  try simp only [ha]
  exact ⟨v, h1, h2⟩
 ·cases hp
theorem qQU {cs : List FV} {vs : List Value} (hl : cs.length = vs.length) (hc : ∀ (i : Nat) x v, cs[i]? = some x -> vs[i]? = some v -> FR Z H x v) : VRL P Z H M (cs.map .f) vs :=
 ⟨by simpa using hl, fun i x v h1 h2 => by
   rw [List.getElem?_map] at h1
   obtain ⟨y, h3, rfl⟩ := Option.map_eq_some_iff.1 h1
   exact .f (hc i y v h3 h2)⟩
theorem qT8 {t : TypeId} {cs : List FV} {off : Nat} {x : PV} (h : qJK P t cs off = some x) : o8 P t (cs.map .f) off = some x := by
 unfold qJK at h
 unfold o8
 split at h
 ·rename_i ha
  try simp only [ha]
  split at h
  ·rename_i n hn
   simp only [hn, List.length_map]
   cases hc : Nat.ble (off + n) cs.length with
   | false => rw [hc] at h; cases h
   | true => rw [hc] at h; cases h; simp [List.map_drop, List.map_take]
  ·cases h
 ·rename_i ha
  try simp only [ha]
  rw [qG, List.getElem?_map]
  split at h
  ·rename_i y hy; cases h; rw [hy]; rfl
  ·cases h
 ·cases h
theorem qVZ {t : TypeId} {b o off n : Nat} {vs : List Value} {v : Value} (hl : H.loads b o n = some vs) (h : qHE P t vs off = some v) : jB P t (.pointer (some ⟨b, o + off, none⟩)) H = some v := by
 unfold IH.loads at hl
 split at hl
 ·rename_i c el fz hg
  split at hl
  ·rename_i hn
   cases hl
   rw [qDB (vs := c.toList) (el := el) (fz := fz) (by simpa using hg)]
   unfold qHE at h ⊢
   split at h
   ·rename_i ha
    try simp only [ha]
    split at h
    ·rename_i k hk
     try simp only [hk]
     split at h
     ·rename_i hle
      cases h
      simp only [List.length_take, List.length_drop, Array.length_toList] at hle
      rw [if_pos (by rw [Array.length_toList]; omega)]
      congr 3
      rw [List.drop_take, List.take_take, List.drop_drop]
      congr 1; omega
     ·cases h
    ·cases h
   ·rename_i ha
    try simp only [ha]
    rw [List.getElem?_take] at h
    split at h
    ·rw [List.getElem?_drop] at h; exact h
    ·cases h
   ·cases h
  ·cases hl
 ·cases hl
theorem cK {k tt off : Nat} {v : Value} {ob : PO} (h : VR P Z H (own m ph) (.ref k tt off) v) (hl : qC k ph = some ob) (he : tt = ob.cs.length) : v = .pointer (some ⟨m k, off, none⟩) ∧ (ob.gr = true -> tt ≠ 0) := by
 cases h with
 | ref _ h => exact (h (m k) ob (yF hl)).2 he
theorem Hp.real {k : Nat} {ob : PO} (hp : Hp P Z H (own m ph)) (hl : qC k ph = some ob) (hr : real ob) : m k < H.size ∧ H.base <= m k ∧ ¬ Z (m k) ∧ ∃ vs, H.get (m k) = some (.cells vs.toArray ob.el (cond ob.gr zC (0, 0))) ∧ VRL P Z H (own m ph) ob.cs vs ∧ vs.all oneCell = true := by
 rcases hp.obj k (m k) ob (yF hl) with h | h
 ·exact absurd h hr
 ·exact h
theorem qJR {ob : PO} {tt : Nat} (he : tt = ob.cs.length) (h : ob.gr = true -> tt ≠ 0) : Go.Idl.real ob := fun ⟨h1, h2⟩ => h h1 (by rw [he, h2]; rfl)
theorem qK6 {t : TypeId} {a x : PV} {v : Value} (hp : Hp P Z H (own m ph)) (ha : VR P Z H (own m ph) a v) (h : nG P t a ph = some x) : ∃ u, jB P t v H = some u ∧ VR P Z H (own m ph) x u := by
 unfold nG at h
 split at h
 ·rename_i k tt off
  split at h
  ·rename_i ob hl
   cases hb : Nat.beq tt ob.cs.length with
   | false => rw [hb] at h; cases h
   | true =>
     rw [hb] at h
     have he := Nat.eq_of_beq_eq_true hb
     obtain ⟨rfl, hz⟩ := cK ha hl he
     obtain ⟨_, _, _, vs, q1, q2, q3⟩ := hp.real hl (qJR he hz)
     obtain ⟨u, h1, h2⟩ := sF q2 h
     exact ⟨u, by rw [qDB q1]; exact h1, h2⟩
  ·cases h
 ·rename_i cs off
  cases ha with
  | lp hz hb hl hc =>
    obtain ⟨u, h1, h2⟩ := sF (P := P) (M := own m ph) (qQU (by rw [xW hl]) hc) (qT8 h)
    exact ⟨u, qVZ hl h1, h2⟩
 ·cases h
theorem qRA {p : Nat -> Bool} {t : TypeId} {a x : PV} {va vx : Value} {ph' : PHp} (hp : Hp P Z H (own m ph)) (ha : VR P Z H (own m ph) a va) (hx : VR P Z H (own m ph) x vx) (h : qBG P t a x ph = some ph') : Res P Z H m ph p (.tup []) ph' (qEB (jT P t va vx H)) := by
 unfold qBG at h
 split at h
 ·rename_i k tt off
  split at h
  ·rename_i ob hl
   split at h
   ·rename_i n hn
    cases hb : (Nat.beq tt ob.cs.length && (Nat.beq n (y8 x).length && (Nat.ble (off + n) ob.cs.length && (pnt x && (y8 x).all nA)))) with
    | false => rw [hb] at h; cases h
    | true =>
      rw [hb] at h; cases h
      simp only [Bool.and_eq_true] at hb
      obtain ⟨b1, b2, b3, b4, b5⟩ := hb
      have he := Nat.eq_of_beq_eq_true b1
      have hn2 := Nat.eq_of_beq_eq_true b2
      have hn3 := Nat.le_of_ble_eq_true b3
      obtain ⟨rfl, hz⟩ := cK ha hl he
      obtain ⟨w1, w2, w3, vs, q1, q2, q3⟩ := hp.real hl (qJR he hz)
      obtain ⟨c1, c2⟩ := hx.cells b4
      have c3 := c1.one b5
      have hlen : off + vx.cells.toList.length <= vs.length := by rw [<- q2.len, <- c1.len]; omega
      obtain ⟨r1, r2, r3⟩ := hp.put hl (qJR he hz) (mY (i := off) (ys := y8 x) (by omega)) (q2.over c1 off) (rU q3 c3)
      refine ⟨_, _, Z, m, ?_, r1, .tup (vs := #[]) rfl (fun i x v h => by simp at h), r2, r3 p⟩
      have : jT P t (.pointer (some ⟨m k, off, none⟩)) vx H = some (H.put (m k) (.cells (overwrite vs off vx.cells.toList).toArray ob.el (cond ob.gr zC (0, 0)))) := by
       unfold jT
       simp only []
       rw [if_pos (by rw [hn, hn2, c1.len]; simp)]
       unfold IH.stores
       rw [q1]
       simp only
       rw [if_pos]
       have hf : uX (cond ob.gr zC (0, 0)) = true := by cases ob.gr <;> rfl
       simp only [hf, c3, w2, decide_true, Bool.and_true, Bool.true_and, decide_eq_true_eq, List.size_toArray]
       exact hlen
      rw [this]; rfl
   ·cases h
  ·cases h
 ·cases h
theorem qVS {t : TypeId} {z : List PV} (h : zc P t = some z) : ∃ zv, pF P t = some zv ∧ VRL P Z H M z zv.cells.toList ∧ zv.cells.toList.all oneCell = true ∧ z = jZ fvv zv.cells.toList := by
 unfold zc at h
 split at h
 ·rename_i zv hz
  cases hc : wD okC zv.cells.toList with
  | false => rw [hc] at h; cases h
  | true =>
    rw [hc] at h; cases h
    exact ⟨zv, hz, .of_map (fun v h => uY h) hc, qPB hc, rfl⟩
 ·cases h
theorem oC (k : Nat) : ∀ (l : List Value), kU k (jZ fvv l) = true
 | [] => rfl
 | v :: l => by
   show (noK k (fvv v) && kU k (jZ fvv l)) = true
   rw [oC k l]; rfl
theorem eT {k : Nat} : ∀ {l r : List PV}, kU k (l ++ r) = (kU k l && kU k r)
 | [], r => by simp [kU]
 | x :: l, r => by simp only [List.cons_append, kU, eT (l := l), Bool.and_assoc]
theorem qBF {k : Nat} : ∀ {l : List PV} {n : Nat}, kU k l = true -> kU k (l.take n) = true
 | [], n, _ => by simp [kU]
 | x :: l, 0, _ => rfl
 | x :: l, n + 1, h => by
   simp only [kU, Bool.and_eq_true] at h
   simp only [List.take_succ_cons, kU, Bool.and_eq_true]
   exact ⟨h.1, qBF h.2⟩
theorem tK {k : Nat} : ∀ {l : List PV} {n : Nat}, kU k l = true -> kU k (l.drop n) = true
 | [], n, _ => by simp [kU]
 | x :: l, 0, h => h
 | x :: l, n + 1, h => by
   simp only [kU, Bool.and_eq_true] at h
   rw [List.drop_succ_cons]
   exact tK h.2
theorem qFT {k : Nat} {z : List PV} (h : kU k z = true) : ∀ (n : Nat), kU k (qHG n z) = true
 | 0 => rfl
 | n + 1 => by
   have : qHG (n + 1) z = z ++ qHG n z := by unfold qHG; rw [List.replicate_succ, List.flatten_cons]
   rw [this, eT, h, qFT h n]; rfl
theorem qF6 {k : Nat} {x : PV} (h : noK k x = true) : kU k (y8 x) = true := by
 cases x <;> first | exact h | (simp only [y8, kU, h, Bool.and_true])
theorem qMO {n : Nat} {z : List PV} : (qHG n z).length = n * z.length := by unfold qHG; simp
theorem VRL.row {z : List PV} {vs : List Value} (h : VRL P Z H M z vs) : ∀ (n : Nat), VRL P Z H M (qHG n z) (List.replicate n vs).flatten
 | 0 => .nil
 | n + 1 => by
   have e1 : qHG (n + 1) z = z ++ qHG n z := by unfold qHG; rw [List.replicate_succ, List.flatten_cons]
   rw [e1, List.replicate_succ, List.flatten_cons]
   exact h.append (VRL.row h n)
theorem flat_get {α : Type} {vs : List α} (hs : 0 < vs.length) : ∀ (n i : Nat), i < n * vs.length -> (List.replicate n vs).flatten[i]? = vs[i % vs.length]?
 | 0, i, h => by omega
 | n + 1, i, h => by
   rw [List.replicate_succ, List.flatten_cons]
   by_cases hi : i < vs.length
   ·rw [List.getElem?_append_left hi, Nat.mod_eq_of_lt hi]
   ·have hi' : vs.length <= i := by omega
    rw [List.getElem?_append_right hi', flat_get hs n (i - vs.length) (by rw [Nat.succ_mul] at h; omega), Nat.mod_eq_sub_mod hi']
theorem qCM {el : TypeId} {zv : Value} {s n : Nat} (hz : pF P el = some zv) (hs : zv.cells.toList.length = s + 1) : bD P el (n * (s + 1)) = some ((List.replicate n zv.cells.toList).flatten).toArray := by
 unfold bD
 by_cases h0 : n * (s + 1) = 0
 ·have : n = 0 := by
   rcases Nat.mul_eq_zero.1 h0 with h | h
   ·exact h
   ·omega
  subst this
  rw [if_pos h0]; rfl
 ·rw [if_neg h0, hz]
  simp only [Option.map_some, Option.some.injEq]
  have hs' : zv.cells.size = s + 1 := by simpa using hs
  apply Array.ext'
  apply List.ext_getElem?
  intro i
  by_cases hi : i < n * (s + 1)
  ·rw [flat_get (by omega) n i (by rw [hs]; exact hi)]
   have hm : i % (s + 1) < zv.cells.size := by rw [hs']; exact Nat.mod_lt _ (by omega)
   have e : zv.cells[i % (s + 1)]! = zv.cells[i % (s + 1)] := by rw [getElem!_pos zv.cells (i % (s + 1)) hm]
   simp [hi, hs', hs, hm, Array.getElem?_eq_getElem hm, e]
  ·rw [List.getElem?_eq_none (by simp; omega), List.getElem?_eq_none (by simp [hs]; omega)]
theorem qMH {vs : List Value} (h : vs.all oneCell = true) (n : Nat) : ((List.replicate n vs).flatten).all oneCell = true := by
 rw [List.all_eq_true] at h ⊢
 intro x hx
 rw [List.mem_flatten] at hx
 obtain ⟨l, h1, h2⟩ := hx
 rw [List.mem_replicate] at h1
 exact h x (h1.2 ▸ h2)
theorem qLP {off : Nat} : ∀ (vs : List Value) (j : Nat) (c : Array Value), off + j + vs.length <= c.size -> ((vs.zipIdx j).foldl (fun cs (p : Value × Nat) => cs.setIfInBounds (off + p.2) p.1) c).toList = overwrite c.toList (off + j) vs
 | [], j, c, _ => by simp [eX]
 | v :: vs, j, c, h => by
   simp only [List.length_cons] at h
   rw [List.zipIdx_cons, List.foldl_cons, qLP vs (j + 1) _ (by simp; omega), dP _ _ _ _ (by simp; omega)]
   simp [Nat.add_assoc]
def PVs (P : Program) (Z : Nat -> Prop) (H : IH) (M : Nat -> Option (Nat × PO)) (ps : List (Nat × PV)) (qs : List (Nat × Value)) : Prop := ps.map (·.1) = qs.map (·.1) ∧ VRL P Z H M (ps.map (·.2)) (qs.map (·.2))
theorem qES {place : Nat -> Option (Nat × Nat)} : ∀ {ps : List (Nat × PV)} {qs : List (Nat × Value)} {cs r : List PV} {vs : Array Value}, PVs P Z H M ps qs -> VRL P Z H M cs vs.toList -> vs.toList.all oneCell = true -> qF3 place cs ps = some r ->
 ∃ ws, Instr.fill place vs qs = some ws ∧ VRL P Z H M r ws.toList ∧ ws.toList.all oneCell = true ∧ r.length = cs.length ∧ qs.all (fun p => yI p.2) = true ∧ ∀ k, kU k cs = true -> kU k (ps.map (·.2)) = true -> kU k r = true
 | [], qs, cs, r, vs, hq, hv, h1, h => by
   have : qs = [] := by
    have := hq.1
    simpa using this.symm
   subst this
   simp only [qF3, Option.some.injEq] at h
   subst h
   exact ⟨vs, rfl, hv, h1, rfl, rfl, fun k h _ => h⟩
 | (i, x) :: ps, qs, cs, r, vs, hq, hv, h1, h => by
   cases qs with
   | nil => have := hq.1; simp at this
   | cons q qs =>
     obtain ⟨j, v⟩ := q
     have e1 := hq.1
     simp only [List.map_cons, List.cons.injEq] at e1
     obtain ⟨rfl, e1⟩ := e1
     have e2 := hq.2
     simp only [List.map_cons] at e2
     obtain ⟨v', vs', e3, e4, e5⟩ := e2.uncons
     simp only [List.cons.injEq] at e3
     obtain ⟨rfl, rfl⟩ := e3
     unfold qF3 at h
     split at h
     ·rename_i off size hpl
      cases hb : (Nat.beq (y8 x).length size && (Nat.ble (off + size) cs.length && (pnt x && (y8 x).all nA))) with
      | false => rw [hb] at h; cases h
      | true =>
        rw [hb] at h
        simp only [Bool.and_eq_true] at hb
        obtain ⟨b1, b2, b3, b4⟩ := hb
        have l1 := Nat.eq_of_beq_eq_true b1
        have l2 := Nat.le_of_ble_eq_true b2
        obtain ⟨c1, c2⟩ := e4.cells b3
        have c3 := c1.one b4
        have hsz : v.cells.size = size := by rw [<- l1, c1.len]; simp
        have hcl := hv.len
        have hvl : off + v.cells.toList.length <= vs.size := by simp only [Array.length_toList] at hcl ⊢; omega
        have hfill : (v.cells.zipIdx.foldl (fun cs (c, j) => cs.setIfInBounds (off + j) c) vs).toList = overwrite vs.toList off v.cells.toList := by
         have := qLP (off := off) v.cells.toList 0 vs (by simpa using hvl)
         rw [<- Array.foldl_toList, Array.toList_zipIdx]
         simpa using this
        obtain ⟨ws, r1, r2, r3, r4, r5, r6⟩ := qES (vs := v.cells.zipIdx.foldl (fun cs (c, j) => cs.setIfInBounds (off + j) c) vs) ⟨e1, e5⟩ (by rw [hfill]; exact hv.over c1 off) (by rw [hfill]; exact rU h1 c3) h
        refine ⟨ws, ?_, r2, r3, by rw [r4, mY (by omega)], by simp only [List.all_cons, c2, r5, Bool.and_self], fun k k1 k2 => ?_⟩
        ·unfold Instr.fill
         simp only [hpl]
         have hcd : ¬ (decide (v.cells.size ≠ size) || decide (off + v.cells.size > vs.size)) = true := by
          simp only [Array.length_toList] at hvl
          simp [hsz]; omega
         rw [if_neg hcd]
         exact r1
        ·simp only [List.map_cons, kU, Bool.and_eq_true] at k2
         refine r6 k ?_ k2.2
         unfold jJ
         rw [eT, eT, qBF k1, qF6 k2.1, tK k1]; rfl
     ·cases h
theorem qSA {env : List PV} {ienv : Env} (he : VRL P Z H M env ienv) : ∀ (ps : List (Nat × Operand)), PVs P Z H M (ps.map fun p => (p.1, zD env p.2)) (ps.map fun p => (p.1, ienv.val p.2))
 | [] => ⟨rfl, .nil⟩
 | p :: ps => by
   obtain ⟨h1, h2⟩ := qSA he ps
   exact ⟨by simp only [List.map_cons, h1], by simp only [List.map_cons]; exact .cons (qM he p.2) h2⟩
theorem qP7 {t : TypeId} {ps : List (Nat × PV)} {qs : List (Nat × Value)} {x : PV} (hq : PVs P Z H M ps qs) (h : qHL P t ps = some x) : ∃ v, qIS P t qs = some v ∧ VR P Z H M x v := by
 unfold qHL at h
 split at h
 ·rename_i z hz
  obtain ⟨zv, z1, z2, z3, _⟩ := qVS (Z := Z) (H := H) (M := M) hz
  cases hb : tX P t with
  | false => rw [hb] at h; cases h
  | true =>
    rw [hb] at h
    simp only [cond_true] at h
    split at h
    ·rename_i cs hf
     cases h
     obtain ⟨ws, r1, r2, r3, r4, r5, r6⟩ := qES hq z2 z3 hf
     refine ⟨.agg ws, ?_, ?_⟩
     ·unfold qIS
      simp only [z1]
      unfold tX at hb
      unfold qTK at r1
      split at hb
      ·rename_i fields hu
       simp only [hu] at r1 ⊢
       obtain ⟨places, hpl⟩ := Option.isSome_iff_exists.1 hb
       simp only [hpl, r5, if_true]
       have : (fun (i : Nat) => places.toArray[i]?) = (fun (i : Nat) => match fields[i]? with | some (f : Field) => (szT P f.type).map fun s => (f.offset, s) | none => none) := by
        funext i
        rw [List.getElem?_toArray]
        have key : ∀ (l : List Field) (pl : List (Nat × Nat)) (i : Nat), l.mapM (fun (f : Field) => (szT P f.type).map fun s => (f.offset, s)) = some pl -> pl[i]? = (match l[i]? with | some (f : Field) => (szT P f.type).map fun s => (f.offset, s) | none => none) := by
         intro l
         induction l with
         | nil => intro pl i h; simp at h; subst h; simp
         | cons f l ih =>
           intro pl i h
           rw [List.mapM_cons] at h
           cases hs : szT P f.type with
           | none => rw [hs] at h; cases h
           | some s =>
             rw [hs] at h
             cases hm : l.mapM (fun (f : Field) => (szT P f.type).map fun s => (f.offset, s)) with
             | none => rw [hm] at h; cases h
             | some pl' =>
               rw [hm] at h
               have h' : some ((f.offset, s) :: pl') = some pl := h
               cases h'
               cases i with
               | zero => simp [hs]
               | succ i => simpa using ih pl' i hm
        have := key fields.toList places i hpl
        rw [this]
        simp
       have r1' : Instr.fill (fun i => places.toArray[i]?) zv.cells qs = some ws := by rw [this]; exact r1
       rw [r1']; rfl
      ·rename_i n el hu
       simp only [hu] at r1 ⊢
       obtain ⟨s, hs⟩ := Option.isSome_iff_exists.1 hb
       simp only [hs, Option.map_some] at r1 ⊢
       simp only [r5, if_true, r1]; rfl
      ·cases hb
     ·have := r2.toA
      simpa using this
    ·cases h
 ·cases h
theorem bT {k : Nat} {ob : PO} {v x : PV} {ph ph' : PHp} (h : qON k ob v ph = some (x, ph')) : x = v ∧ ph' = (k, ob) :: ph := by
 unfold qON at h; cases h; exact ⟨rfl, rfl⟩
theorem qL2 {k : Nat} {ob : PO} {x : PV} {u : Value} {vs : List Value} {s : Option Step1} (hp : Hp P Z H (own m ph)) (hb : H.base <= H.size) (hn : sN k ph = true) (hc : kU k ob.cs = true) (hr : VRL P Z H (own m ph) ob.cs vs) (h1 : vs.all oneCell = true)
 (hs : s = some (.val u (H.push (.cells vs.toArray ob.el (cond ob.gr zC (0, 0))))))
 (hx : ∀ H' M', M' k = some (H.size, ob) -> VR P Z H' M' x u) : Res P Z H m ph (fun j => j == k) x ((k, ob) :: ph) s := by
 obtain ⟨r1, r2, r3⟩ := hp.push hn hc hr h1 hb
 exact ⟨u, _, Z, _, hs, r1, hx _ _ aY, r2, r3⟩
theorem qQR {H' : IH} {M' : Nat -> Option (Nat × PO)} {k b t s : Nat} {ob : PO} (hM : M' k = some (b, ob)) (hs : szT P ob.el = some s) (h0 : 0 < s) (hl : ob.cs.length = t * s) (hg : ob.gr = true -> t ≠ 0) :
 VR P Z H' M' (.own k t 0 t) (.slice (some ⟨b, 0, cond ob.gr (some ob.el) none⟩) t t) := by
 refine .own rfl fun b' ob' h => ?_
 rw [hM] at h; cases h
 exact ⟨s, hs, h0, by omega, fun _ => .inr ⟨hg, by omega, .inl rfl, by simp⟩⟩
theorem qS8 {H' : IH} {M' : Nat -> Option (Nat × PO)} {k b off : Nat} {ob : PO} (hM : M' k = some (b, ob)) (hg : ob.gr = true -> ob.cs.length ≠ 0) : VR P Z H' M' (.ref k ob.cs.length off) (.pointer (some ⟨b, off, none⟩)) := by
 refine .ref rfl fun b' ob' h => ?_
 rw [hM] at h; cases h
 exact ⟨Nat.le_refl _, fun _ => ⟨rfl, hg⟩⟩
theorem qXQ (c : Array Value) : c.toList.toArray = c := by simp
theorem qPR {el : TypeId} {k : Nat} {x : PV} {ph' : PHp} (hp : Hp P Z H (own m ph)) (hb : H.base <= H.size) (hn : sN k ph = true) (h : qC7 P el k ph = some (x, ph')) : Res P Z H m ph (fun j => j == k) x ph' (pM P el H) := by
 unfold qC7 at h
 split at h
 ·rename_i z hz
  obtain ⟨zv, z1, z2, z3, z4⟩ := qVS (Z := Z) (H := H) (M := own m ph) hz
  obtain ⟨rfl, rfl⟩ := bT h
  refine qL2 hp hb hn (by rw [z4]; exact oC _ _) z2 z3 (u := .pointer (some ⟨H.size, 0, none⟩)) ?_ fun H' M' hM => qS8 hM fun h => by cases h
  unfold pM
  simp only [z1, qXQ]; rfl
 ·cases h
theorem qZR {el : TypeId} {k : Nat} {v x : PV} {u : Value} {ph' : PHp} (hp : Hp P Z H (own m ph)) (hb : H.base <= H.size) (hn : sN k ph = true) (hv : VR P Z H (own m ph) v u) (hk : noK k v = true) (h : qZ7 el v k ph = some (x, ph')) : Res P Z H m ph (fun j => j == k) x ph' (qXT el u H) := by
 unfold qZ7 at h
 cases hc : (pnt v && (y8 v).all nA) with
 | false => rw [hc] at h; cases h
 | true =>
   rw [hc] at h
   rw [Bool.and_eq_true] at hc
   obtain ⟨rfl, rfl⟩ := bT h
   obtain ⟨c1, c2⟩ := hv.cells hc.1
   refine qL2 hp hb hn (qF6 hk) c1 (c1.one hc.2) (u := .pointer (some ⟨H.size, 0, none⟩)) ?_ fun H' M' hM => qS8 hM fun h => by cases h
   unfold qXT
   rw [if_pos c2]
   simp only [qXQ]; rfl
theorem y9 {t el : TypeId} (h : xR P t = some el) : P.underlying t = some (.slice el) := by
 unfold xR at h
 split at h
 ·rename_i e he; cases h; exact he
 ·cases h
theorem qB1 {t : TypeId} {len k : Nat} {ps : List (Nat × PV)} {qs : List (Nat × Value)} {x : PV} {ph' : PHp} (hp : Hp P Z H (own m ph)) (hb : H.base <= H.size) (hn : sN k ph = true) (hq : PVs P Z H (own m ph) ps qs) (hk : kU k (ps.map (·.2)) = true)
 (h : vB P t len ps k ph = some (x, ph')) : Res P Z H m ph (fun j => j == k) x ph' (jL P t len qs H) := by
 unfold vB at h
 split at h
 ·rename_i el he
  split at h
  ·rename_i s z hs hz
   obtain ⟨zv, z1, z2, z3, z4⟩ := qVS (Z := Z) (H := H) (M := own m ph) hz
   cases hc : (Nat.beq z.length (s + 1) && Nat.ble (len * (s + 1)) 65536) with
   | false => rw [hc] at h; cases h
   | true =>
     rw [hc] at h
     simp only [cond_true] at h
     rw [Bool.and_eq_true] at hc
     have l1 := Nat.eq_of_beq_eq_true hc.1
     have l2 := Nat.le_of_ble_eq_true hc.2
     split at h
     ·rename_i cs hf
      obtain ⟨rfl, rfl⟩ := bT h
      have hrow := z2.row len
      have hz1 : zv.cells.toList.length = s + 1 := by rw [<- z2.len, l1]
      have zr := qCM (P := P) (n := len) z1 hz1
      obtain ⟨ws, r1, r2, r3, r4, r5, r6⟩ := qES (vs := ((List.replicate len zv.cells.toList).flatten).toArray) hq (by simpa using hrow) (by simpa using qMH z3 len) hf
      have hlen : cs.length = len * (s + 1) := by rw [r4, qMO, l1]
      refine qL2 (u := .slice (some ⟨H.size, 0, none⟩) len len) hp hb hn (r6 k (qFT (by rw [z4]; exact oC _ _) _) hk) r2 r3 ?_ fun H' M' hM => qQR hM hs (by omega) hlen (fun h => by cases h)
      unfold jL
      simp only [y9 he, hs]
      rw [if_pos (by simp only [r5, Bool.and_true, decide_eq_true_eq]; exact l2), zr]
      simp only [r1, qXQ]; rfl
     ·cases h
  ·cases h
 ·cases h
theorem qZF {z : Int} {n : Nat} (h : mkN z = some n) : z = (n : Int) ∧ n <= 65536 := by
 unfold mkN at h
 split at h
 ·rename_i hc; cases h; omega
 ·cases h
theorem qCI {el : TypeId} (h : fO P el = true) : ∃ i, P.info? el = some i ∧ i.bytes <= 4096 ∧ ((u7 P el).map (·.cells.size)) = some i.size := by
 unfold fO at h
 split at h
 ·rename_i i hi
  rw [Bool.and_eq_true] at h
  refine ⟨i, hi, of_decide_eq_true h.1, ?_⟩
  have h2 := h.2
  split at h2
  ·rename_i z hz; rw [hz]; simp [Nat.eq_of_beq_eq_true h2]
  ·cases h2
 ·cases h
theorem qDY {t : TypeId} {k : Nat} {l c x : PV} {vl vc : Value} {ph' : PHp} (hp : Hp P Z H (own m ph)) (hb : H.base <= H.size) (hn : sN k ph = true) (h1 : VR P Z H (own m ph) l vl) (h2 : VR P Z H (own m ph) c vc) (h : wN P t l c k ph = some (x, ph')) :
 Res P Z H m ph (fun j => j == k) x ph' (vI P t vl vc H) := by
 unfold wN at h
 split at h
 ·rename_i el k1 zl k2 zm he
  have e1 : vl = .int k1 zl := kS h1 rfl
  have e2 : vc = .int k2 zm := kS h2 rfl
  subst e1 e2
  cases hd : decide (zl = zm) with
  | false => rw [hd] at h; cases h
  | true =>
    rw [hd] at h
    simp only [cond_true] at h
    have hd := of_decide_eq_true hd
    subst hd
    split at h
    ·rename_i n s z hmk hs hz
     obtain ⟨zv, z1, z2, z3, z4⟩ := qVS (Z := Z) (H := H) (M := own m ph) hz
     obtain ⟨rfl, hle⟩ := qZF hmk
     cases hc : (fO P el && Nat.beq z.length (s + 1)) with
     | false => rw [hc] at h; cases h
     | true =>
       rw [hc] at h
       rw [Bool.and_eq_true] at hc
       obtain ⟨rfl, rfl⟩ := bT h
       have l1 := Nat.eq_of_beq_eq_true hc.2
       have hz1 : zv.cells.toList.length = s + 1 := by rw [<- z2.len, l1]
       obtain ⟨i, i1, i2, i3⟩ := qCI hc.1
       have isz : i.size = s + 1 := by
        unfold szT at hs
        rw [i1] at hs
        simpa using hs
       refine qL2 (u := .slice (some ⟨H.size, 0, none⟩) n n) hp hb hn (qFT (by rw [z4]; exact oC _ _) _) (z2.row n) (qMH z3 n) ?_ fun H' M' hM => qQR hM hs (by omega) (by rw [qMO, l1]) (fun h => by cases h)
       unfold vI
       simp only [y9 he, i1]
       rw [if_pos]
       ·simp only [Int.toNat_natCast, isz, qCM (P := P) (n := n) z1 hz1]; rfl
       ·simp only [Bool.and_eq_true, decide_eq_true_eq]
        have : i.bytes * n <= 4096 * 65536 := Nat.mul_le_mul i2 hle
        have e : (i.bytes : Int) * (n : Int) = ((i.bytes * n : Nat) : Int) := by simp
        refine ⟨⟨⟨by omega, by omega⟩, by rw [e]; omega⟩, by omega⟩
    ·cases h
 ·cases h
end Go.Idl
namespace Go.Idl
variable {P : Program} {Z : Nat -> Prop} {H : IH} {M : Nat -> Option (Nat × PO)} {m : Nat -> Nat} {ph : PHp}
theorem uS {k t o n s : Nat} {v : Value} {ob : PO} (h : VR P Z H (own m ph) (.own k t o n) v) (hl : qC k ph = some ob) (hs : szT P ob.el = some s) (he : t * s = ob.cs.length) : qY1 s (m k) ob t o n v ∧ 0 < s := by
 cases h with
 | own _ h =>
   obtain ⟨s', h1, h2, _, h4⟩ := h (m k) ob (yF hl)
   rw [hs] at h1; cases h1
   exact ⟨h4 he, h2⟩
theorem qD5 {k t : Nat} (h : live? k t ph = true) : ∃ ob, qC k ph = some ob ∧ t = ob.cs.length := by
 unfold live? at h
 split at h
 ·rename_i ob hl; exact ⟨ob, hl, Nat.eq_of_beq_eq_true h⟩
 ·cases h
theorem bX {t s : Nat} {ob : PO} (he : t * s = ob.cs.length) (h0 : 0 < s) (hg : ob.gr = true -> t ≠ 0) : real ob := fun ⟨h1, h2⟩ => by
 have := hg h1
 rw [h2] at he
 rcases Nat.mul_eq_zero.1 (show t * s = 0 from he) with h | h
 ·exact this h
 ·omega
theorem qG3 {x y : PV} {v : Value} (hx : VR P Z H (own m ph) x v) (h : xK x ph = some y) : w9 v H = some (.val v H) ∧ y = x := by
 unfold xK at h
 split at h
 ·rename_i k t off
  cases hb : live? k t ph with
  | false => rw [hb] at h; cases h
  | true =>
    rw [hb] at h; cases h
    obtain ⟨ob, h1, h2⟩ := qD5 hb
    obtain ⟨rfl, _⟩ := cK hx h1 h2
    exact ⟨rfl, rfl⟩
 ·cases h; cases hx; exact ⟨rfl, rfl⟩
 ·cases h; cases hx; exact ⟨rfl, rfl⟩
 ·cases h
  have := kS hx rfl
  subst this
  exact ⟨rfl, rfl⟩
 ·cases h
theorem qG8 {fn : Fn} {fs cs : List PV} {vf vc : Array Value} {y : PV} (h1 : VRL P Z H M fs vf.toList) (h2 : VRL P Z H M cs vc.toList) (h : vO fn fs cs = some y) : ∃ v, uF fn vf vc H = some (.val v H) ∧ VR P Z H M y v := by
 unfold vO at h
 split at h
 ·rename_i g
  refine ⟨.func (.func g) vf vc, rfl, ?_⟩
  have gen : VR P Z H M (.fn g fs cs) (.func (.func g) vf vc) := .fn (by simpa using h1.len) (by simpa using h2.len) (fun i x v a b => h1.val i x v a (by simpa using b)) (fun i x v a b => h2.val i x v a (by simpa using b))
  cases h
  split
  ·have e1 : vf = #[] := by have := h1.nil_left; simpa using this
   have e2 : vc = #[] := by have := h2.nil_left; simpa using this
   subst e1 e2
   exact uY rfl
  ·exact gen
 ·cases h
theorem uQ {d most most' r : Nat} {x : Option PV} {v : Option Value} (hx : ∀ y, x = some y -> ∃ u, v = some u ∧ VR P Z H M y u) (hn : x = none -> v = none) (hle : most <= most') (h : bnd d most x = some r) : vR d most' v = some r := by
 unfold bnd at h
 split at h
 ·rw [hn rfl]; exact h
 ·rename_i k i
  obtain ⟨u, rfl, hu⟩ := hx _ rfl
  have := kS hu rfl
  subst this
  split at h
  ·rename_i hc
   cases h
   have : (decide (0 <= i) && decide (i <= (most' : Int))) = true := by
    simp only [Bool.and_eq_true, decide_eq_true_eq]; omega
   simp only [vR, this, if_true]
  ·cases h
 ·cases h
theorem tZ {d most r : Nat} {x : Option PV} (hd : d <= most) (h : bnd d most x = some r) : r <= most := by
 unfold bnd at h
 split at h
 ·cases h; exact hd
 ·split at h
  ·cases h; omega
  ·cases h
 ·cases h
def qZ6 (P : Program) (Z : Nat -> Prop) (H : IH) (M : Nat -> Option (Nat × PO)) (x : Option PV) (v : Option Value) : Prop := (∀ y, x = some y -> ∃ u, v = some u ∧ VR P Z H M y u) ∧ (x = none -> v = none)
theorem qZ6.of {env : List PV} {ienv : Env} (he : VRL P Z H M env ienv) (x : Option Operand) : qZ6 P Z H M (x.map (zD env)) (x.map ienv.val) := by
 cases x with
 | none => exact ⟨fun y h => (by cases h), fun _ => rfl⟩
 | some x => exact ⟨fun y h => (by cases h; exact ⟨_, rfl, qM he x⟩), fun h => (by cases h)⟩
theorem mR {el : TypeId} {sp : Option TypeId} (h : sp = none ∨ sp = some el) : sp.all (· == el) = true := by
 rcases h with rfl | rfl <;> simp
theorem qN2 {t : TypeId} {x y : PV} {lo hi : Option PV} {v : Value} {vlo vhi : Option Value} (hp : Hp P Z H (own m ph)) (hx : VR P Z H (own m ph) x v) (hlo : qZ6 P Z H (own m ph) lo vlo) (hhi : qZ6 P Z H (own m ph) hi vhi) (h : uN P t x lo hi ph = some y) :
 ∃ u, wC P t v vlo vhi none = some u ∧ VR P Z H (own m ph) y u := by
 unfold uN at h
 split at h
 ·-- a list that is not written
  rename_i el n cs
  split at h
  ·rename_i el' s hh he hs hbh
   split at h
   ·rename_i l hbl
    cases hc : (Nat.beq el' el && Nat.beq (n * s) cs.length) with
    | false => rw [hc] at h; cases h
    | true =>
      rw [hc] at h; cases h
      rw [Bool.and_eq_true] at hc
      have hel := Nat.eq_of_beq_eq_true hc.1
      have hns := Nat.eq_of_beq_eq_true hc.2
      subst hel
      have hle : hh <= n := tZ (Nat.le_refl _) hbh
      have hll : l <= hh := tZ (Nat.zero_le _) hbl
      cases hx with
      | f hx =>
        cases hx with
        | nil h0 hsp =>
          rename_i a c
          have hh0 : hh = 0 := by omega
          subst hh0
          have hl0 : l = 0 := by omega
          subst hl0
          cases a with
          | none =>
            have := h0 rfl
            subst this
            have b1 := uQ hhi.1 hhi.2 (Nat.le_refl 0) hbh
            have b2 := uQ hlo.1 hlo.2 (Nat.le_refl 0) hbl
            refine ⟨.slice none 0 0, ?_, .f (.nil (fun _ => rfl) (fun x h => by cases h))⟩
            unfold wC
            simp only [y9 he, hs, b1, b2]
          | some a =>
            obtain ⟨b, o, sp⟩ := a
            have hsp' := hsp _ rfl
            have b1 := uQ hhi.1 hhi.2 (Nat.zero_le c) hbh
            have b2 := uQ hlo.1 hlo.2 (Nat.le_refl 0) hbl
            refine ⟨.slice (some ⟨b, if c = 0 then o else o + 0 * s, sp⟩) (0 - 0) (c - 0), ?_, .f (.nil (fun h => by cases h) (fun x h => by cases h; exact hsp'))⟩
            unfold wC
            simp only [y9 he, hs, b1, b2]
            rw [if_pos (by rw [mR hsp']; simp [Nat.ble_eq])]
        | @l _ _ _ b o sp c vs hz hb hn hsp hl hcv =>
          have b1 := uQ hhi.1 hhi.2 hn hbh
          have b2 := uQ hlo.1 hlo.2 (Nat.le_refl hh) hbl
          refine ⟨.slice (some ⟨b, if c = l then o else o + l * s, sp⟩) (hh - l) (c - l), ?_, ?_⟩
          ·unfold wC
           simp only [y9 he, hs, b1, b2]
           rw [if_pos (by rw [mR hsp]; simp [Nat.ble_eq]; omega)]
          ·by_cases hlh : l = hh
           ·subst hlh
            have : Nat.beq l l = true := by simp
            rw [this, Nat.sub_self]
            exact .f (.nil (fun h => by cases h) (fun x h => by cases h; exact hsp))
           ·have : Nat.beq l hh = false := by
             cases hq : Nat.beq l hh with
             | false => rfl
             | true => exact absurd (Nat.eq_of_beq_eq_true hq) hlh
            rw [this, if_neg (by omega)]
            have hlen := xW hl
            refine .f (.l (vs := (vs.drop (l * s)).take ((hh - l) * s)) hz hb (by omega) hsp ?_ fun i x v h1 h2 => ?_)
            ·unfold IH.loads at hl ⊢
             split at hl
             ·rename_i c0 el0 fz0 hg
              split at hl
              ·rename_i hbd
               cases hl
               have hl0 : l * s <= cs.length := by rw [<- hns]; exact Nat.mul_le_mul_right _ (by omega)
               rw [if_pos (by simp only [List.length_take, List.length_drop]; omega)]
               rw [List.drop_take, List.take_take, List.drop_drop]
               congr 2
               simp only [List.length_take, List.length_drop]
              ·cases hl
             ·cases hl
            ·have e1 : cs[l * s + i]? = some x := by
              rw [List.getElem?_take] at h1
              split at h1
              ·rw [List.getElem?_drop] at h1; exact h1
              ·cases h1
             have e2 : vs[l * s + i]? = some v := by
              rw [List.getElem?_take] at h2
              split at h2
              ·rw [List.getElem?_drop] at h2; exact h2
              ·cases h2
             exact hcv _ _ _ e1 e2
   ·cases h
  ·cases h
 ·-- nil
  have hv := kS hx rfl
  subst hv
  split at h
  ·rename_i el h1 l1 he hbh hbl
   cases hc : (szT P el).isSome with
   | false => rw [hc] at h; cases h
   | true =>
     rw [hc] at h; cases h
     obtain ⟨s, hs⟩ := Option.isSome_iff_exists.1 hc
     have q1 : h1 <= 0 := tZ (Nat.le_refl _) hbh
     have q2 : h1 = 0 := by omega
     subst q2
     have b1 := uQ hhi.1 hhi.2 (Nat.le_refl 0) hbh
     have b2 := uQ hlo.1 hlo.2 (Nat.le_refl 0) hbl
     refine ⟨.slice none 0 0, ?_, hx⟩
     unfold wC
     simp only [y9 he, hs, b1, b2]
  ·cases h
 ·-- a slice of an object
  rename_i k tt o n
  split at h
  ·rename_i ob hl
   split at h
   ·rename_i el' s hh he hs hbh
    split at h
    ·rename_i l hbl
     cases hc : (Nat.beq el' ob.el && Nat.beq (tt * s) ob.cs.length) with
     | false => rw [hc] at h; cases h
     | true =>
       rw [hc] at h; cases h
       rw [Bool.and_eq_true] at hc
       have hel := Nat.eq_of_beq_eq_true hc.1
       subst hel
       have hts := Nat.eq_of_beq_eq_true hc.2
       have hle : hh <= n := tZ (Nat.le_refl _) hbh
       have hll : l <= hh := tZ (Nat.zero_le _) hbl
       obtain ⟨hO, h0⟩ := uS hx hl hs hts
       rcases hO with ⟨g1, rfl, rfl, rfl, rfl⟩ | ⟨g1, g2, g3, rfl⟩
       ·have hh0 : hh = 0 := by omega
        subst hh0
        have hl0 : l = 0 := by omega
        subst hl0
        have b1 := uQ hhi.1 hhi.2 (Nat.le_refl 0) hbh
        have b2 := uQ hlo.1 hlo.2 (Nat.le_refl 0) hbl
        refine ⟨.slice none 0 0, ?_, hx⟩
        unfold wC
        simp only [y9 he, hs, b1, b2]
       ·have b1 := uQ hhi.1 hhi.2 (show n <= tt - o by omega) hbh
        have b2 := uQ hlo.1 hlo.2 (Nat.le_refl hh) hbl
        have hsp : (cond ob.gr (some ob.el) none : Option TypeId) = none ∨ (cond ob.gr (some ob.el) none : Option TypeId) = some ob.el := by cases ob.gr <;> simp
        refine ⟨.slice (some ⟨m k, if tt - o = l then o * s else o * s + l * s, cond ob.gr (some ob.el) none⟩) (hh - l) (tt - o - l), ?_, ?_⟩
        ·unfold wC
         simp only [y9 he, hs, b1, b2]
         rw [if_pos (by rw [mR hsp]; simp [Nat.ble_eq]; omega)]
        ·by_cases hl0 : l = 0
         ·subst hl0
          have : Nat.beq 0 0 = true := rfl
          rw [this]
          refine .own rfl fun b' ob' hM => ?_
          rw [yF hl] at hM; cases hM
          refine ⟨s, hs, h0, by omega, fun _ => .inr ⟨g1, by omega, g3, ?_⟩⟩
          simp
         ·have e0 : Nat.beq l 0 = false := by cases l with
           | zero => exact absurd rfl hl0
           | succ l => rfl
          rw [e0]
          by_cases hlh : l = hh
          ·subst hlh
           have : Nat.beq l l = true := by simp
           rw [this, Nat.sub_self]
           exact .f (.nil (fun h => by cases h) (fun x h => by cases h; exact hsp))
          ·have : Nat.beq l hh = false := by
            cases hq : Nat.beq l hh with
            | false => rfl
            | true => exact absurd (Nat.eq_of_beq_eq_true hq) hlh
           rw [this, if_neg (by omega)]
           refine .own rfl fun b' ob' hM => ?_
           rw [yF hl] at hM; cases hM
           refine ⟨s, hs, h0, by omega, fun _ => .inr ⟨g1, by omega, .inr (by omega), ?_⟩⟩
           rw [Nat.add_mul]
           congr 1; omega
    ·cases h
   ·cases h
  ·cases h
 ·-- an array
  rename_i k tt
  split at h
  ·rename_i ob hl
   split at h
   ·rename_i mm el ha
    split at h
    ·rename_i s hh hs hbh
     split at h
     ·rename_i l hbl
      cases hc : (Nat.beq el ob.el && (Nat.beq tt ob.cs.length && (Nat.beq (mm * (s + 1)) tt && !ob.gr))) with
      | false => rw [hc] at h; cases h
      | true =>
        rw [hc] at h; cases h
        simp only [Bool.and_eq_true] at hc
        obtain ⟨c1, c2, c3, c4⟩ := hc
        have hel := Nat.eq_of_beq_eq_true c1
        have ht := Nat.eq_of_beq_eq_true c2
        have hm := Nat.eq_of_beq_eq_true c3
        have hgr : ob.gr = false := by simpa using c4
        subst hel
        obtain ⟨rfl, _⟩ := cK hx hl ht
        have hle : hh <= mm := tZ (Nat.le_refl _) hbh
        have hll : l <= hh := tZ (Nat.zero_le _) hbl
        have b1 := uQ hhi.1 hhi.2 (Nat.le_refl mm) hbh
        have b2 := uQ hlo.1 hlo.2 (Nat.le_refl hh) hbl
        have hu : P.underlying t = some (.array mm ob.el) := by
         unfold qTC at ha
         split at ha
         ·rename_i a b hab; cases ha; exact hab
         ·cases ha
        refine ⟨.slice (some ⟨m k, if mm = l then 0 else 0 + l * (s + 1), none⟩) (hh - l) (mm - l), ?_, ?_⟩
        ·unfold wC
         simp only [hu, hs, b1, b2]
        ·by_cases hl0 : l = 0
         ·subst hl0
          have : Nat.beq 0 0 = true := rfl
          rw [this]
          refine .own rfl fun b' ob' hM => ?_
          rw [yF hl] at hM; cases hM
          refine ⟨s + 1, hs, by omega, by omega, fun _ => .inr ⟨(by rw [hgr]; intro h; cases h), by omega, .inl rfl, ?_⟩⟩
          simp [hgr]
         ·have e0 : Nat.beq l 0 = false := by cases l with
           | zero => exact absurd rfl hl0
           | succ l => rfl
          rw [e0]
          by_cases hlh : l = hh
          ·subst hlh
           have : Nat.beq l l = true := by simp
           rw [this, Nat.sub_self]
           exact .f (.nil (fun h => by cases h) (fun x h => by cases h; exact .inl rfl))
          ·have : Nat.beq l hh = false := by
            cases hq : Nat.beq l hh with
            | false => rfl
            | true => exact absurd (Nat.eq_of_beq_eq_true hq) hlh
           rw [this, if_neg (by omega)]
           refine .own rfl fun b' ob' hM => ?_
           rw [yF hl] at hM; cases hM
           refine ⟨s + 1, hs, by omega, by omega, fun _ => .inr ⟨(by rw [hgr]; intro h; cases h), by omega, .inr (by omega), ?_⟩⟩
           simp [hgr]
     ·cases h
    ·cases h
   ·cases h
  ·cases h
 ·cases h
end Go.Idl
namespace Go.Idl
variable {P : Program} {Z : Nat -> Prop} {H : IH} {M : Nat -> Option (Nat × PO)} {m : Nat -> Nat} {ph : PHp}
theorem qJZ {o : Oper} {t : TypeId} {v u : Value} {lo hi mx : Option Value} {env : Env} (h : wC P t v lo hi mx = some u) : jI P o t v lo hi mx env H = some (.val u H) := by
 have hs : ∀ s, wC P t (.string s) lo hi mx = none := fun s => by
  unfold wC
  cases P.underlying t with
  | none => rfl
  | some d => cases d <;> cases mx <;> rfl
 unfold jI
 split
 ·rw [hs] at h; cases h
 ·rw [h]; rfl
theorem qM3 {t i off ft : Nat} (h : qZ0 P t i = some (off, ft)) : ∃ fields f, P.underlying t = some (.struct fields) ∧ fields[i]? = some f ∧ f.offset = off ∧ f.type = ft := by
 unfold qZ0 at h
 split at h
 ·rename_i fields hu
  split at h
  ·rename_i f hf; cases h; exact ⟨fields, f, hu, hf, rfl, rfl⟩
  ·cases h
 ·cases h
theorem sG {t n el : Nat} (h : qTC P t = some (n, el)) : P.underlying t = some (.array n el) := by
 unfold qTC at h
 split at h
 ·rename_i a b hab; cases h; exact hab
 ·cases h
theorem qE3 {t : TypeId} {x y : PV} {v : Value} {i : Nat} (hx : VR P Z H (own m ph) x v) (h : kX P t x i ph = some y) : ∃ u, bK P t v i = some u ∧ VR P Z H (own m ph) y u := by
 unfold kX at h
 split at h
 ·rename_i off ft hf
  obtain ⟨fields, f, q1, q2, rfl, rfl⟩ := qM3 hf
  split at h
  ·rename_i s hs
   have go : ∀ b o, bK P t (.pointer (some ⟨b, o, none⟩)) i = some (.pointer (some ⟨b, o + f.offset, none⟩)) := fun b o => by
    unfold bK
    simp only [q1, q2, hs]
    rw [if_neg (by omega)]
   split at h
   ·rename_i k tt o
    cases hb : live? k tt ph with
    | false => rw [hb] at h; cases h
    | true =>
      rw [hb] at h; cases h
      obtain ⟨ob, h1, h2⟩ := qD5 hb
      obtain ⟨rfl, hz⟩ := cK hx h1 h2
      refine ⟨_, go _ _, .ref rfl fun b' ob' hM => ?_⟩
      rw [yF h1] at hM; cases hM
      exact ⟨by omega, fun _ => ⟨rfl, hz⟩⟩
   ·rename_i cs o
    cases h
    cases hx with
    | lp hz hb hl hc =>
      refine ⟨_, go _ _, ?_⟩
      rw [Nat.add_assoc]
      exact .lp hz hb hl hc
   ·cases h
  ·cases h
 ·cases h
theorem qPL {t : TypeId} {x y : PV} {v : Value} {i : Nat} (hx : VR P Z H M x v) (h : qCF P t x i = some y) : ∃ u, qF1 P t v i = some u ∧ VR P Z H M y u := by
 unfold qCF at h
 split at h
 ·rename_i off ft cs hf
  obtain ⟨fields, f, q1, q2, rfl, rfl⟩ := qM3 hf
  cases hx with
  | agg hl hc =>
    rename_i vs
    obtain ⟨u, h1, h2⟩ := sF (vs := vs.toList) ⟨by simpa using hl, fun i x v a b => hc i x v a (by simpa using b)⟩ h
    refine ⟨u, ?_, h2⟩
    unfold qF1
    simp only [q1, q2]
    rw [tC]; exact h1
 ·cases h
theorem qAR {n j : Nat} {i : Int} (h : idx n i = some j) : i = (j : Int) ∧ j < n := by
 unfold idx at h
 split at h
 ·cases h; omega
 ·cases h
theorem qFV {t : TypeId} {x y ix : PV} {v vi : Value} (hp : Hp P Z H (own m ph)) (hx : VR P Z H (own m ph) x v) (hi : VR P Z H (own m ph) ix vi) (h : yL P t x ix ph = some y) : ∃ u, xP P t v vi = some u ∧ VR P Z H (own m ph) y u := by
 unfold yL at h
 split at h
 ·rename_i kk i
  have := kS hi rfl
  subst this
  split at h
  ·rename_i el n cs
   split at h
   ·rename_i el' he
    split at h
    ·rename_i s hs
     split at h
     ·rename_i j hj
      cases h
      obtain ⟨rfl, hlt⟩ := qAR hj
      cases hx with
      | f hx =>
        cases hx with
        | nil => omega
        | l hz hb hn hsp hl hc =>
          refine ⟨_, ?_, .lp hz hb hl hc⟩
          unfold xP
          simp only [y9 he, hs]
          rw [if_pos (by simp; omega)]
          simp
     ·cases h
    ·cases h
   ·cases h
  ·rename_i k tt o n
   split at h
   ·rename_i el' ob he hl
    split at h
    ·rename_i s hs
     split at h
     ·rename_i j hj
      cases hc : (Nat.beq el' ob.el && Nat.beq (tt * s) ob.cs.length) with
      | false => rw [hc] at h; cases h
      | true =>
        rw [hc] at h; cases h
        rw [Bool.and_eq_true] at hc
        have hel := Nat.eq_of_beq_eq_true hc.1
        subst hel
        obtain ⟨rfl, hlt⟩ := qAR hj
        obtain ⟨hO, h0⟩ := uS hx hl hs (Nat.eq_of_beq_eq_true hc.2)
        rcases hO with ⟨_, _, _, rfl, _⟩ | ⟨g1, g2, g3, rfl⟩
        ·omega
        ·refine ⟨.pointer (some ⟨m k, (o + j) * s, none⟩), ?_, qS8 (yF hl) fun hg => ?_⟩
         ·unfold xP
          simp only [y9 he, hs]
          rw [if_pos (by simp; omega)]
          simp [Nat.add_mul]
         ·rw [<- Nat.eq_of_beq_eq_true hc.2]
          have := g1 hg
          exact Nat.ne_of_gt (Nat.mul_pos (by omega) h0)
     ·cases h
    ·cases h
   ·cases h
  ·rename_i k tt off
   split at h
   ·rename_i n el ha
    split at h
    ·rename_i s j hs hj
     cases hb : live? k tt ph with
     | false => rw [hb] at h; cases h
     | true =>
       rw [hb] at h; cases h
       obtain ⟨ob, h1, h2⟩ := qD5 hb
       obtain ⟨rfl, hz⟩ := cK hx h1 h2
       obtain ⟨rfl, hlt⟩ := qAR hj
       refine ⟨.pointer (some ⟨m k, off + j * s, none⟩), ?_, .ref rfl fun b' ob' hM => ?_⟩
       ·unfold xP
        simp only [sG ha, hs]
        rw [if_pos (by simp; omega)]
        simp
       ·rw [yF h1] at hM; cases hM
        exact ⟨by omega, fun _ => ⟨rfl, hz⟩⟩
    ·cases h
   ·cases h
  ·rename_i cs off
   split at h
   ·rename_i n el ha
    split at h
    ·rename_i s j hs hj
     cases h
     obtain ⟨rfl, hlt⟩ := qAR hj
     cases hx with
     | lp hz hb hl hc =>
       refine ⟨_, ?_, .lp hz hb hl hc⟩
       unfold xP
       simp only [sG ha, hs]
       rw [if_pos (by simp; omega)]
       simp [Nat.add_assoc]
    ·cases h
   ·cases h
  ·cases h
 ·cases h
theorem qS3 {t : TypeId} {x y ix : PV} {v vi : Value} (hx : VR P Z H M x v) (hi : VR P Z H M ix vi) (h : qC1 P t x ix = some y) : ∃ u, pU P t v vi = some u ∧ VR P Z H M y u := by
 unfold qC1 at h
 split at h
 ·rename_i n el cs kk i ha
  have := kS hi rfl
  subst this
  split at h
  ·rename_i s j hs hj
   obtain ⟨rfl, hlt⟩ := qAR hj
   cases hx with
   | agg hl hc =>
     rename_i vs
     obtain ⟨u, h1, h2⟩ := sF (vs := vs.toList) ⟨by simpa using hl, fun i x v a b => hc i x v a (by simpa using b)⟩ h
     refine ⟨u, ?_, h2⟩
     unfold pU
     simp only [sG ha, hs]
     rw [if_pos (by simp; omega), tC]
     simpa using h1
  ·cases h
 ·cases h
theorem qJ1 {o : Oper} {t : TypeId} {v u ix : Value} {env : Env} (h : pU P t v ix = some u) : uO P o t v ix env H = some (.val u H) := by
 have hs : ∀ s, pU P t (.string s) ix = none := fun s => by
  unfold pU
  cases P.underlying t with
  | none => rfl
  | some d => cases d <;> rfl
 unfold uO
 split
 ·rw [hs] at h; cases h
 ·rw [h]; rfl
theorem qKO {x y : PV} {v : Value} {i : Nat} (hx : VR P Z H M x v) (h : bW x i = some y) : ∃ u, fF v i H = some (.val u H) ∧ VR P Z H M y u := by
 unfold bW at h
 split at h
 ·rename_i cs
  split at h
  ·rename_i z hz
   cases hn : pnt z with
   | false => rw [hn] at h; cases h
   | true =>
     rw [hn] at h; cases h
     cases hx with
     | tup hl hc =>
       rename_i vs
       rw [qG] at hz
       have hlt := (List.getElem?_eq_some_iff.1 hz).1
       have hv : vs[i]? = some (vs[i]'(by rw [<- hl]; exact hlt)) := Array.getElem?_eq_getElem _
       have hr := hc i _ _ hz hv
       refine ⟨_, ?_, hr⟩
       have : vs.toList[i]? = some (vs[i]'(by rw [<- hl]; exact hlt)) := by simp
       show uK H (yN vs.toList i) = _
       rw [qG, this]
       unfold uK
       simp only [(hr.cells hn).2, cond_true]
  ·cases h
 ·cases h
theorem qKH {r : Option Step1} {x : PV} {s : Option Step1} (h : qT1 r = some x) (hs : ∀ v H0, r = some (.val v H0) -> s = some (.val v H)) : ∃ u, s = some (.val u H) ∧ VR P Z H M x u := by
 unfold qT1 at h
 split at h
 ·rename_i v H0
  cases h
  exact ⟨v, hs v H0 rfl, qPX v⟩
 ·cases h
theorem qQ8 {o : Oper} {env : Env} {v : Value} {H0 H' : IH} (h : jQ P o env H0 = some (.val v H')) : ∀ H, jQ P o env H = some (.val v H) := by
 obtain ⟨w, h1, h2⟩ := Loose.dry o env H0 _ h
 cases h1
 exact h2
theorem qS7 {o : Oper} {op : Op} {ty : TypeId} {env : Env} {x : PV} (he : jQ P o env H = jQ P (cop op ty) [] H) (h : qY5 P op ty = some x) : ∃ u, jQ P o env H = some (.val u H) ∧ VR P Z H M x u := by
 unfold qY5 at h
 exact qKH h fun v H0 hv => by rw [he]; exact qQ8 hv H
theorem qLX {o : Oper} {mk : Operand -> Op} {ty : TypeId} {x y : PV} {v : Value} {env : Env} (hx : VR P Z H M x v) (he : jQ P o env H = jQ P (cop (mk (.const v)) ty) [] H) (h : rD P mk x ty = some y) : ∃ u, jQ P o env H = some (.val u H) ∧ VR P Z H M y u := by
 unfold rD at h
 split at h
 ·rename_i a ha
  have := kS hx ha
  subst this
  exact qS7 he h
 ·cases h
theorem qTY {x : PV} {v : Value} {b : Bool} (hx : VR P Z H (own m ph) x v) (h : isNil (P := P) x ph = some b) : ∃ a n c, v = .slice a n c ∧ b = a.isNone := by
 unfold isNil at h
 split at h
 ·cases h
  have := kS hx rfl
  exact ⟨none, _, _, this, rfl⟩
 ·cases h
  cases hx with
  | f hx => cases hx with
    | l => exact ⟨_, _, _, rfl, rfl⟩
 ·rename_i k t o n
  split at h
  ·rename_i ob hl
   split at h
   ·rename_i s hs
    cases hc : Nat.beq (t * s) ob.cs.length with
    | false => rw [hc] at h; cases h
    | true =>
      rw [hc] at h; cases h
      obtain ⟨hO, h0⟩ := uS hx hl hs (Nat.eq_of_beq_eq_true hc)
      rcases hO with ⟨g1, rfl, _, _, rfl⟩ | ⟨g1, _, _, rfl⟩
      ·exact ⟨none, _, _, rfl, by rw [g1]; rfl⟩
      ·refine ⟨_, _, _, rfl, ?_⟩
       cases hg : ob.gr with
       | false => rfl
       | true =>
         have := g1 hg
         cases t with
         | zero => exact absurd rfl this
         | succ t => rfl
   ·cases h
  ·cases h
 ·cases h
theorem qTL {x : PV} {v : Value} {b : Bool} (hx : VR P Z H M x v) (h : qMV x = some b) : (v = .nilFunc ∧ b = true) ∨ (∃ f a c, v = .func f a c ∧ b = false) := by
 unfold qMV at h
 split at h
 ·cases h
  exact .inl ⟨kS hx rfl, rfl⟩
 ·cases h
  exact .inr ⟨_, _, _, kS hx rfl, rfl⟩
 ·cases h
  cases hx
  exact .inr ⟨_, _, _, rfl, rfl⟩
 ·cases h
theorem qRX {o : Oper} {op : BinOp} {t : TypeId} {x y : PV} {vx vy : Value} {b : Bool} {env : Env} (hx : VR P Z H (own m ph) x vx) (hy : VR P Z H (own m ph) y vy) (h : qTM P t x y ph = some b) :
 xC P o .eql t vx vy env H = some (.val (.bool b) H) ∧ xC P o .neq t vx vy env H = some (.val (.bool !b) H) := by
 have key : asI vx = none ∧ pI P t vx vy = some b := by
  unfold qTM at h
  split at h
  ·rename_i n c
   have := kS hy rfl
   subst this
   cases hc : (xR P t).isSome with
   | false => rw [hc] at h; cases h
   | true =>
     rw [hc] at h
     obtain ⟨a, n', c', rfl, rfl⟩ := qTY hx h
     obtain ⟨el, he⟩ := Option.isSome_iff_exists.1 hc
     refine ⟨rfl, ?_⟩
     have e1 : gI (.slice a n' c') (.slice none n c) = some a.isNone := by cases a <;> rfl
     have e2 : aK P t (.slice a n' c') = true := by unfold aK; rw [y9 he]
     unfold pI
     rw [e1]
     simp only [e2, cond_true]
  ·have := kS hy rfl
   subst this
   cases hc : qO3 P t with
   | false => rw [hc] at h; cases h
   | true =>
     rw [hc] at h
     unfold qO3 at hc
     split at hc
     ·rename_i p1 p2 p3 hu
      rcases qTL hx h with ⟨rfl, rfl⟩ | ⟨f, a, c, rfl, rfl⟩
      ·refine ⟨rfl, ?_⟩
       unfold pI gI aK
       simp only [hu, cond_true]
      ·refine ⟨rfl, ?_⟩
       unfold pI gI aK
       simp only [hu, cond_true]
     ·cases hc
  ·cases h
 constructor
 ·unfold xC
  rw [key.1]
  simp only [nilBin, key.2]
 ·unfold xC
  rw [key.1]
  simp only [nilBin, key.2]
theorem qPV {o o' : Oper} {op : BinOp} {t : TypeId} {a b : Value} {env env' : Env} {v : Value} {H0 H1 : IH} (hd : ∀ H, jQ P o env H = jQ P o' env' H) (h : xC P o' op t a b env' H0 = some (.val v H1)) : xC P o op t a b env H = some (.val v H) := by
 have e : ∀ H, xC P o op t a b env H = xC P o' op t a b env' H := fun H => by
  simp only [xC, intBin2, nilBin, hd]
 rw [e]
 obtain ⟨w, h1, h2⟩ := Loose.binOp (P := P) o' op t a b env' H0 _ h
 cases h1
 exact h2 H
theorem qX0 {d : Option Tmp} {op : BinOp} {t t2 ty : TypeId} {ox oy : Operand} {pos : String} {aft : Array Edge} {g : Option (Nat × Bool)} {x y z : PV} {env : Env} (hx : VR P Z H (own m ph) x (env.val ox)) (hy : VR P Z H (own m ph) y (env.val oy)) (h : gM P op t t2 x y ph = some z) :
 ∃ u, xC P ⟨d, .binOp op t ox oy t2, ty, pos, aft, g⟩ op t (env.val ox) (env.val oy) env H = some (.val u H) ∧ VR P Z H (own m ph) z u := by
 unfold gM at h
 split at h
 ·rename_i a b ha hb
  have e1 := kS hx ha
  have e2 := kS hy hb
  cases hi : q0Y a with
  | true => rw [hi] at h; cases h
  | false =>
    rw [hi] at h
    refine qKH h fun v H0 hv => qPV (fun H => ?_) (by rw [e1, e2]; exact hv)
    have hd : execOp env.val ⟨d, .binOp op t ox oy t2, ty, pos, aft, g⟩ = execOp (Env.val []) (cop (.binOp op t (.const a) (.const b) t2)) := by
     show (do let x <- (do eqGuard op t ox oy (env.val ox) (env.val oy); binOp op t (env.val ox) (env.val oy)); pure (Next.value x)) = (do let x <- (do eqGuard op t (.const a) (.const b) a b; binOp op t a b); pure (Next.value x))
     rw [e1, e2]
     have : eqGuard op t ox oy a b = eqGuard op t (.const a) (.const b) a b := by
      cases a <;> first | (cases hi; done) | rfl | (cases b <;> rfl)
     rw [this]
    unfold jQ
    rw [hd]
    have hpl : jZ env.val (Op.binOp op t ox oy t2).operands.toList = jZ (Env.val []) (cop (.binOp op t (.const a) (.const b) t2)).op.operands.toList := by
     show [env.val ox, env.val oy] = [a, b]
     rw [e1, e2]
    simp only [hpl]
 ·split at h
  ·obtain ⟨b, hb, rfl⟩ := Option.map_eq_some_iff.1 h
   exact ⟨_, (qRX (op := .eql) hx hy hb).1, uY rfl⟩
  ·obtain ⟨b, hb, rfl⟩ := Option.map_eq_some_iff.1 h
   exact ⟨_, (qRX (op := .eql) hx hy hb).2, uY rfl⟩
  ·cases h
end Go.Idl
namespace Go.Idl
variable {P : Program} {Z : Nat -> Prop} {H : IH} {M : Nat -> Option (Nat × PO)} {m : Nat -> Nat} {ph : PHp}
theorem nQ {o : Oper} {b : Builtin} {args : Array Operand} {ts : Array TypeId} {env : Env} {s : Step1} (h : xD P b ⟨.builtin b, args, ts⟩ (jZ env.val args.toList) H = some s) : yT P o ⟨.builtin b, args, ts⟩ env H = some s := by
 have : aS P ⟨.builtin b, args, ts⟩ env H = some s := h
 unfold yT; rw [this]
theorem qKS {o : Oper} {b : Builtin} {args : Array Operand} {ts : Array TypeId} {env : Env} {s : Option Step1} (hn : xD P b ⟨.builtin b, args, ts⟩ (jZ env.val args.toList) H = none) (h : jQ P o env H = s) : yT P o ⟨.builtin b, args, ts⟩ env H = s := by
 have : aS P ⟨.builtin b, args, ts⟩ env H = none := hn
 unfold yT; rw [this]; exact h
theorem q0P (P : Program) {v a : Value} (h : pl (ofC v) = some a) : a = v := (kS (P := P) (Z := fun _ => False) (H := H00) (M := fun _ => none) (qPX v) h).symm
theorem nJ (P : Program) {env : List PV} {x : Operand} {a : Value} (h : pl (zD env x) = some a) : (qOP env).val x = a := by
 cases x with
 | tmp t =>
   have h : pl ((yN env t).getD .unk) = some a := h
   unfold Env.val qOP
   rw [qG] at h
   simp only [qG, vW, List.getElem?_map]
   cases he : env[t]? with
   | none => rw [he] at h; cases h
   | some y => rw [he] at h; simp only [Option.getD_some] at h; simp [erV, h]
 | const v => exact (q0P P h).symm
 | global g => cases h
 | func g => cases h; rfl
theorem qEO : ∀ {xs : List PV} {as : List Value}, plL xs = some as -> ∀ x ∈ xs, ∃ a, pl x = some a
 | [], _, _, x, hx => by cases hx
 | y :: xs, as, h, x, hx => by
   unfold plL at h
   split at h
   ·rename_i a ha
    split at h
    ·rename_i as' has
     rcases List.mem_cons.1 hx with rfl | hx
     ·exact ⟨a, ha⟩
     ·exact qEO has x hx
    ·cases h
   ·cases h
theorem qAU {d : Option Tmp} {b : Builtin} {args : Array Operand} {ts : Array TypeId} {ty : TypeId} {pos : String} {aft : Array Edge} {g : Option (Nat × Bool)} {env : List PV} {ienv : Env} {y : PV} {ph' : PHp} (he : VRL P Z H (own m ph) env ienv)
 (hn : xD P b ⟨.builtin b, args, ts⟩ (jZ ienv.val args.toList) H = none) (h : uI P b ⟨.builtin b, args, ts⟩ (args.toList.map (zD env)) env ty ph = some (y, ph')) :
 ph' = ph ∧ ∃ u, yT P ⟨d, .call ⟨.builtin b, args, ts⟩, ty, pos, aft, g⟩ ⟨.builtin b, args, ts⟩ ienv H = some (.val u H) ∧ VR P Z H (own m ph) y u := by
 unfold uI at h
 split at h
 ·rename_i vs hvs
  unfold pp1 at h
  split at h
  ·rename_i v hv
   cases h
   refine ⟨rfl, ?_⟩
   obtain ⟨u, h1, h2⟩ := qKH (P := P) (Z := Z) (H := H) (M := own m ph) (s := jQ P ⟨d, .call ⟨.builtin b, args, ts⟩, ty, pos, aft, g⟩ ienv H) hv fun w H0 hw => by
    have e : jQ P ⟨d, .call ⟨.builtin b, args, ts⟩, ty, pos, aft, g⟩ ienv H = jQ P ⟨d, .call ⟨.builtin b, args, ts⟩, ty, pos, aft, g⟩ (qOP env) H := by
     refine nX (fun cs b h => by cases h) fun x hx => ?_
     have hx' : x ∈ args := by simpa [Op.operands, Call.operands] using hx
     obtain ⟨a, ha⟩ := qEO hvs (zD env x) (List.mem_map.2 ⟨x, by simpa using hx', rfl⟩)
     rw [nJ P ha]
     exact kS (qM he x) ha
    rw [e]
    have e2 : ∀ H, jQ P ⟨d, .call ⟨.builtin b, args, ts⟩, ty, pos, aft, g⟩ (qOP env) H = jQ P (cop (.call ⟨.builtin b, args, ts⟩) ty) (qOP env) H := fun H => rfl
    rw [e2]
    exact qQ8 hw H
   exact ⟨u, qKS hn h1, h2⟩
  ·cases h
 ·cases h
theorem qRJ {el n : Nat} {cs : List FV} {v : Value} (h : VR P Z H M (.f (.l el n cs)) v) : ∃ a c, v = .slice a n c := by
 cases h with
 | f h => cases h <;> exact ⟨_, _, rfl⟩
theorem qYO {d : Option Tmp} {x : Operand} {ts : Array TypeId} {ty : TypeId} {pos : String} {aft : Array Edge} {g : Option (Nat × Bool)} {env : Env} {px y : PV} (hx : VR P Z H (own m ph) px (env.val x)) (h : qWX P ts px ph = some y) :
 ∃ u, yT P ⟨d, .call ⟨.builtin .len, #[x], ts⟩, ty, pos, aft, g⟩ ⟨.builtin .len, #[x], ts⟩ env H = some (.val u H) ∧ VR P Z H (own m ph) y u := by
 have hb : ∀ s, dY P ts [env.val x] H = s -> xD P .len ⟨.builtin .len, #[x], ts⟩ (jZ env.val #[x].toList) H = s := fun s h => h
 unfold qWX at h
 split at h
 ·rename_i t ht
  split at h
  ·rename_i el he
   have hsl : ∀ a n c, env.val x = .slice a n c -> ∃ u, yT P ⟨d, .call ⟨.builtin .len, #[x], ts⟩, ty, pos, aft, g⟩ ⟨.builtin .len, #[x], ts⟩ env H = some (.val u H) ∧ VR P Z H (own m ph) (fvv (.int .i64 (n : Int))) u := fun a n c hv => by
    refine ⟨goInt n, nQ (hb _ ?_), uY rfl⟩
    unfold dY
    rw [ht, hv]
    simp only [Option.bind_some, y9 he]
   split at h
   ·cases h
    obtain ⟨a, c, hv⟩ := qRJ hx
    exact hsl _ _ _ hv
   ·cases h
    exact hsl _ _ _ (kS hx rfl)
   ·rename_i k tt o n
    split at h
    ·rename_i ob hl
     split at h
     ·rename_i s hs
      cases hc : Nat.beq (tt * s) ob.cs.length with
      | false => rw [hc] at h; cases h
      | true =>
        rw [hc] at h; cases h
        obtain ⟨hO, h0⟩ := uS hx hl hs (Nat.eq_of_beq_eq_true hc)
        rcases hO with ⟨_, _, _, rfl, hv⟩ | ⟨_, _, _, hv⟩
        ·exact hsl _ _ _ hv
        ·exact hsl _ _ _ hv
     ·cases h
    ·cases h
   ·cases h
  ·rename_i hne
   split at h
   ·rename_i n el ha
    cases h
    refine ⟨goInt n, nQ (hb _ ?_), uY rfl⟩
    unfold dY
    rw [ht]
    simp only [Option.bind_some, sG ha]
   ·cases h
 ·cases h
theorem qL3 {x : PV} {v : Value} {s n : Nat} {new : List PV} (hp : Hp P Z H (own m ph)) (hx : VR P Z H (own m ph) x v) (h : qEY P s x ph = some (n, new)) :
 ∃ vs a c, v = .slice a n c ∧ kJ s n H v = some vs ∧ VRL P Z H (own m ph) new vs ∧ new.length = n * s := by
 unfold qEY at h
 split at h
 ·rename_i el n' cs
  cases hc : Nat.beq (n' * s) cs.length with
  | false => rw [hc] at h; cases h
  | true =>
    rw [hc] at h; cases h
    have hlen := Nat.eq_of_beq_eq_true hc
    cases hx with
    | f hx =>
      cases hx with
      | nil h0 hsp => exact ⟨[], _, _, rfl, by unfold kJ; simp [kN], by simpa using VRL.nil, by simp⟩
      | @l _ _ _ b o sp c vs hz hb hn hsp hl hcv =>
        refine ⟨vs, _, _, rfl, ?_, qQU (by rw [xW hl]) hcv, by simp [hlen]⟩
        unfold kJ
        by_cases h0 : n = 0
        ·subst h0
         have : vs = [] := by
          have := xW hl
          rw [<- hlen] at this
          exact List.length_eq_zero_iff.1 (by omega)
         subst this
         simp [kN]
        ·rw [if_neg h0]
         unfold jV
         rw [hlen]; exact hl
 ·cases h
  have := kS hx rfl
  subst this
  exact ⟨[], _, _, rfl, by unfold kJ; simp [kN], .nil, by simp⟩
 ·rename_i k tt o n'
  split at h
  ·rename_i ob hl
   split at h
   ·rename_i s' hs
    cases hc : (Nat.beq (tt * s') ob.cs.length && Nat.beq s s') with
    | false => rw [hc] at h; cases h
    | true =>
      rw [hc] at h; cases h
      rw [Bool.and_eq_true] at hc
      have h1 := Nat.eq_of_beq_eq_true hc.1
      have h2 := Nat.eq_of_beq_eq_true hc.2
      subst h2
      obtain ⟨hO, h0⟩ := uS hx hl hs h1
      rcases hO with ⟨g1, rfl, rfl, rfl, rfl⟩ | ⟨g1, g2, g3, rfl⟩
      ·exact ⟨[], _, _, rfl, by unfold kJ; simp [kN], by simpa using VRL.nil, by simp⟩
      ·obtain ⟨w1, w2, w3, vs, q1, q2, q3⟩ := hp.real hl (bX h1 h0 g1)
       have hle : (o + n) * s <= tt * s := Nat.mul_le_mul_right _ g2
       rw [Nat.add_mul] at hle
       refine ⟨(vs.drop (o * s)).take (n * s), _, _, rfl, ?_, (q2.drop _).take _, by simp; omega⟩
       unfold kJ
       by_cases hn0 : n = 0
       ·subst hn0; simp [kN]
       ·rw [if_neg hn0]
        unfold jV
        exact j3 q1 (by rw [<- q2.len]; omega) rfl
   ·cases h
  ·cases h
 ·cases h
theorem qPG (g : Bool) : uX (cond g zC (0, 0)) = true := by cases g <;> rfl
theorem qN1 {el : TypeId} {i : TypeInfo} {need : Nat} {new : List Value} (hi : P.info? el = some i) (hs : fO P el = true) (hn : need <= 1048576) (h1 : new.all oneCell = true) :
 (decide (need <= 2 ^ 40) && decide (need * i.bytes <= 2 ^ 45) && new.all oneCell && ((u7 P el).map (·.cells.size)) == some i.size) = true := by
 obtain ⟨i', q1, q2, q3⟩ := qCI hs
 rw [hi] at q1; cases q1
 rw [q3, h1]
 simp only [beq_self_eq_true, Bool.and_true, Bool.and_eq_true, decide_eq_true_eq]
 have : need * i.bytes <= 1048576 * 4096 := Nat.mul_le_mul hn q2
 omega
theorem qNI {ts : List TypeId} {base x y : PV} {vb vx : Value} {k : Nat} {ph' : PHp} (hp : Hp P Z H (own m ph)) (hb : H.base <= H.size) (hn : sN k ph = true) (hbase : VR P Z H (own m ph) base vb) (hx : VR P Z H (own m ph) x vx) (hkx : noK k x = true) (hkb : noK k base = true)
 (h : fJ P ts base x k ph = some (y, ph')) : Res P Z H m ph (fun j => j == k) y ph' (xL P ts.toArray [vb, vx] H) := by
 unfold fJ at h
 split at h
 ·rename_i st xt
  split at h
  ·rename_i el el2 he he2
   split at h
   ·rename_i s hs
    split at h
    ·rename_i mm new hnew
     obtain ⟨vs, a, c, rfl, hf, hr, hlen⟩ := qL3 hp hx hnew
     obtain ⟨i, hi, hisz⟩ : ∃ i, P.info? el = some i ∧ i.size = s + 1 := qLI hs
     have hnews : d9 P el i (.slice el2) (.slice a mm c) H = some (mm, vs) := by
      unfold d9
      simp only [kN, qGY, cond_true, hisz, hf, Option.map_some]
     have hnewk : kU k new = true := by
      unfold qEY at hnew
      split at hnew
      ·rename_i el3 n3 cs3
       cases hc : Nat.beq (n3 * (s + 1)) cs3.length with
       | false => rw [hc] at hnew; cases hnew
       | true =>
         rw [hc] at hnew; cases hnew
         have key : ∀ l : List FV, kU k (l.map PV.f) = true := fun l => by
          induction l with
          | nil => rfl
          | cons a l ih => simp only [List.map_cons, kU, noK, ih, Bool.and_self]
         exact key _
      ·cases hnew; rfl
      ·split at hnew
       ·rename_i ob hl
        split at hnew
        ·rename_i s' hs'
         cases hc : (Nat.beq (_ * s') ob.cs.length && Nat.beq (s + 1) s') with
         | false => rw [hc] at hnew; cases hnew
         | true =>
           rw [hc] at hnew; cases hnew
           exact qBF (tK (uR hn hl))
        ·cases hnew
       ·cases hnew
      ·cases hnew
     have iap : ∀ bs len cap, xL P #[st, xt] [.slice bs len cap, .slice a mm c] H = kK P el i bs len cap H (some (mm, vs)) := fun bs len cap => by
      unfold xL
      simp only [y9 he, y9 he2, hi, hnews]
     -- it grows into a new block
     have grow : ∀ (old : List PV) (ovs : List Value) (n : Nat) (bs : Option Addr) (cap kk : Nat) (H1 : IH) (php : PHp) (p : Nat -> Bool), qAT P el (s + 1) old n new mm kk php = some (y, ph') -> VRL P Z H (own m ph) old ovs -> ovs.all oneCell = true -> cap < n + mm -> jV i.size n H (.slice bs n cap) = some ovs ->
      p8 el H bs = some H1 -> H1.size = H.size -> H1.base = H.base -> (∀ b, b < H.size -> (∀ ob0, qC kk ph = some ob0 -> real ob0 -> b ≠ m kk) -> H1.get b = H.get b) -> (∀ j, j ≠ kk -> qC j php = qC j ph) ->
      (p kk = true ∨ ∃ ob0, qC kk ph = some ob0 ∧ ob0.cs.length < (old ++ new).length ∧ ob0.el = el) -> (∀ j, p j = true -> j = kk ∧ sN kk ph = true ∧ kU kk (old ++ new) = true) -> (∀ j, p j = true -> (j == k) = true) ->
      Res P Z H m ph (fun j => j == k) y ph' (kK P el i bs n cap H (some (mm, vs))) := by
      intro old ovs n bs cap kk H1 php p hg hro ho1 hcap hfi hki q1 q2 q3 q4 q5 q6 q7
      unfold qAT at hg
      cases hc : (Nat.ble (n + mm) 1048576 && (fO P el && (Nat.beq (old.length) (n * (s + 1)) && (Nat.beq new.length (mm * (s + 1)) && new.all nA)))) with
      | false => rw [hc] at hg; cases hg
      | true =>
        rw [hc] at hg
        simp only [cond_true] at hg
        simp only [Bool.and_eq_true] at hc
        obtain ⟨c1, c2, c3, c4, c5⟩ := hc
        obtain ⟨rfl, rfl⟩ := bT hg
        have l1 := Nat.le_of_ble_eq_true c1
        have l3 := Nat.eq_of_beq_eq_true c3
        have l4 := Nat.eq_of_beq_eq_true c4
        have hv1 := hr.one c5
        obtain ⟨r1, r2, r3⟩ := hp.pushG (p := p) (k := kk) (ob := ⟨el, true, old ++ new⟩) (vs := ovs ++ vs) (ph0 := php) q1 q2 q3 (by simpa using q5) (by simpa using q6) (hro.append hr) (by rw [List.all_append, ho1, hv1]; rfl) hb q4
        refine ⟨_, _, Z, _, ?_, r1, qQR aY hs (by omega) (by simp only [List.length_append, l3, l4, Nat.add_mul]) (fun _ => by omega), r2, fun j b' ob' hM => ?_⟩
        ·unfold kK
         simp only []
         rw [if_neg (by omega)]
         unfold qFQ
         rw [if_pos (qN1 hi c2 l1 hv1)]
         simp only [hfi, hki, q1]
         rfl
        ·rcases r3 j b' ob' hM with h | h | h
         ·exact .inl h
         ·exact .inr (.inl h)
         ·exact .inr (.inr (q7 j h))
     split at h
     ·-- nil
      have := kS hbase rfl
      subst this
      cases h0 : Nat.beq mm 0 with
      | true =>
        rw [h0] at h; cases h
        have hm0 := Nat.eq_of_beq_eq_true h0
        subst hm0
        have hv0 : vs = [] := by
         have := hr.len
         rw [hlen] at this
         exact List.length_eq_zero_iff.1 (by omega)
        subst hv0
        refine .same ?_ hp hbase
        rw [show ([st, xt] : List TypeId).toArray = #[st, xt] from rfl, iap]
        rfl
      | false =>
        rw [h0] at h
        have hm0 : mm ≠ 0 := fun e => by subst e; cases h0
        rw [show ([st, xt] : List TypeId).toArray = #[st, xt] from rfl, iap]
        exact grow [] [] 0 none 0 k H ph (fun j => j == k) h .nil rfl (by omega) (by unfold jV; simp) rfl rfl rfl (fun _ _ _ => rfl) (fun _ _ => rfl) (.inl (by simp)) (fun j hj => ⟨by simpa using hj, hn, by simpa using hnewk⟩) (fun j hj => hj)
     ·-- a slice of an object
      rename_i j tt o n
      split at h
      ·rename_i ob hl
       cases hc : (Nat.beq ob.el el && (Nat.beq (tt * (s + 1)) ob.cs.length && Nat.beq o 0)) with
       | false => rw [hc] at h; cases h
       | true =>
         rw [hc] at h
         simp only [cond_true] at h
         simp only [Bool.and_eq_true] at hc
         obtain ⟨c1, c2, c3⟩ := hc
         have e1 := Nat.eq_of_beq_eq_true c1
         have e2 := Nat.eq_of_beq_eq_true c2
         have e3 := Nat.eq_of_beq_eq_true c3
         subst e1 e3
         obtain ⟨hO, hpos⟩ := uS hbase hl hs e2
         rw [show ([st, xt] : List TypeId).toArray = #[st, xt] from rfl]
         cases h0 : Nat.beq mm 0 with
         | true =>
           rw [h0] at h; cases h
           have hm0 := Nat.eq_of_beq_eq_true h0
           subst hm0
           have hv0 : vs = [] := by
            have := hr.len
            rw [hlen] at this
            exact List.length_eq_zero_iff.1 (by omega)
           subst hv0
           rcases hO with ⟨g1, rfl, _, rfl, rfl⟩ | ⟨g1, g2, g3, rfl⟩
           ·refine .same ?_ hp hbase
            rw [iap]; rfl
           ·refine .same ?_ hp hbase
            rw [iap]
            unfold kK
            simp only []
            rw [if_pos (by omega)]
            unfold qIF
            have hsp : (cond ob.gr (some ob.el) none : Option TypeId) = none ∨ (cond ob.gr (some ob.el) none : Option TypeId) = some ob.el := by cases ob.gr <;> simp
            simp only [mR hsp, if_true, List.isEmpty_nil, Nat.add_zero]
         | false =>
           rw [h0] at h
           simp only [cond_false] at h
           have hm0 : mm ≠ 0 := fun e => by subst e; cases h0
           cases hroom : Nat.ble (n + mm) tt with
           | true =>
             rw [hroom] at h
             simp only [cond_true] at h
             have hrm := Nat.le_of_ble_eq_true hroom
             cases hc2 : (Nat.beq new.length (mm * (s + 1)) && new.all nA) with
             | false => rw [hc2] at h; cases h
             | true =>
               rw [hc2] at h; cases h
               rw [Bool.and_eq_true] at hc2
               rcases hO with ⟨g1, rfl, _, rfl, rfl⟩ | ⟨g1, g2, g3, rfl⟩
               ·omega
               ·have hre := bX e2 hpos g1
                obtain ⟨w1, w2, w3, ws, q1, q2, q3⟩ := hp.real hl hre
                have hle : (n + mm) * (s + 1) <= tt * (s + 1) := Nat.mul_le_mul_right _ hrm
                rw [Nat.add_mul] at hle
                have hv1 := hr.one hc2.2
                obtain ⟨r1, r2, r3⟩ := hp.put (cs := jJ ob.cs (n * (s + 1)) new) hl hre (mY (by omega)) (q2.over hr (n * (s + 1))) (rU q3 hv1)
                refine ⟨.slice (some ⟨m j, 0 * (s + 1), cond ob.gr (some ob.el) none⟩) (n + mm) (tt - 0), _, Z, m, ?_, r1, ?_, r2, r3 _⟩
                ·rw [iap]
                 unfold kK
                 simp only []
                 rw [if_pos (by omega)]
                 unfold qIF
                 have hsp : (cond ob.gr (some ob.el) none : Option TypeId) = none ∨ (cond ob.gr (some ob.el) none : Option TypeId) = some ob.el := by cases ob.gr <;> simp
                 simp only [mR hsp, if_true]
                 have hne : vs.isEmpty = false := by
                  have := hr.len
                  rw [hlen] at this
                  cases vs with
                  | nil =>
                    have h9 : mm * (s + 1) = 0 := this
                    rcases Nat.mul_eq_zero.1 h9 with h9 | h9 <;> omega
                  | cons => rfl
                 rw [hne]
                 simp only [Bool.false_eq_true, if_false]
                 have hst : H.stores (m j) (0 * (s + 1) + n * i.size) vs = some (H.put (m j) (.cells (overwrite ws (n * (s + 1)) vs).toArray ob.el (cond ob.gr zC (0, 0)))) := by
                  unfold IH.stores
                  rw [q1]
                  simp only [hisz, Nat.zero_mul, Nat.zero_add]
                  rw [if_pos]
                  simp only [qPG, hv1, w2, decide_true, Bool.and_true, Bool.true_and, decide_eq_true_eq, List.size_toArray]
                  rw [<- q2.len, <- hr.len]; omega
                 rw [hst]
                ·refine .own rfl fun b' ob' hM => ?_
                 have hk : own m (cB j { ob with cs := jJ ob.cs (n * (s + 1)) new } ph) j = some (m j, { ob with cs := jJ ob.cs (n * (s + 1)) new }) := by
                  unfold own; rw [jW, if_pos ⟨rfl, by rw [hl]; rfl⟩]; rfl
                 rw [hk] at hM; cases hM
                 have hol : (jJ ob.cs (n * (s + 1)) new).length = ob.cs.length := mY (by omega)
                 exact ⟨s + 1, hs, by omega, by show tt * (s + 1) <= (jJ ob.cs (n * (s + 1)) new).length; omega, fun _ => .inr ⟨g1, by omega, .inl rfl, rfl⟩⟩
           | false =>
             rw [hroom] at h
             simp only [cond_false] at h
             have hrm : tt < n + mm := by
              have : ¬ (n + mm <= tt) := fun hle => by rw [Nat.ble_eq_true_of_le hle] at hroom; cases hroom
              omega
             cases hnt : Nat.beq n tt with
             | false => rw [hnt] at h; cases h
             | true =>
               rw [hnt] at h
               simp only [cond_true] at h
               have hnt := Nat.eq_of_beq_eq_true hnt
               subst hnt
               have hlong : ob.cs.length < (ob.cs ++ new).length := by
                simp only [List.length_append, hlen]
                have : 0 < mm * (s + 1) := Nat.mul_pos (by omega) (by omega)
                omega
               cases hgr : ob.gr with
               | true =>
                 rw [hgr] at h
                 simp only [cond_true] at h
                 rcases hO with ⟨g1, rfl, _, _, rfl⟩ | ⟨g1, g2, g3, rfl⟩
                 ·have hc0 : ob.cs = [] := List.length_eq_zero_iff.1 (by omega)
                  rw [iap]
                  rw [hc0] at h hlong
                  exact grow [] [] 0 none 0 j H (qD1 j ph) (fun _ => false) h .nil rfl (by omega) (by unfold jV; simp) rfl rfl rfl (fun _ _ _ => rfl) (fun i hi => by rw [gJ, if_neg hi]) (.inr ⟨ob, hl, by rw [hc0]; exact hlong, rfl⟩) (fun _ h => by cases h) (fun _ h => by cases h)
                 ·have hre := bX e2 hpos g1
                  obtain ⟨w1, w2, w3, ws, q1, q2, q3⟩ := hp.real hl hre
                  rw [hgr] at q1
                  rw [iap]
                  refine grow ob.cs ws n _ _ j (H.put (m j) xB) (qD1 j ph) (fun _ => false) h q2 q3 (by omega) ?_ ?_ rfl rfl ?_ (fun i hi => by rw [gJ, if_neg hi]) (.inr ⟨ob, hl, hlong, rfl⟩) (fun _ h => by cases h) (fun _ h => by cases h)
                  ·unfold jV
                   simp only [hisz, Nat.zero_mul]
                   refine j3 q1 (by rw [<- q2.len]; omega) ?_
                   rw [List.drop_zero, List.take_of_length_le (by rw [<- q2.len]; omega)]
                  ·unfold p8
                   rw [hgr]
                   simp only [cond_true, q1]
                   rw [if_pos (by simp [w2]; rfl)]
                  ·intro b hb' hne
                   exact y7 (hne ob hl hre)
               | false =>
                 rw [hgr] at h
                 simp only [cond_false] at h
                 rcases hO with ⟨g1, _⟩ | ⟨g1, g2, g3, rfl⟩
                 ·rw [hgr] at g1; cases g1
                 ·have hre := bX e2 hpos g1
                  obtain ⟨w1, w2, w3, ws, q1, q2, q3⟩ := hp.real hl hre
                  rw [hgr] at q1
                  rw [iap]
                  refine grow ob.cs ws n _ _ k H ph (fun i => i == k) h q2 q3 (by omega) ?_ ?_ rfl rfl (fun _ _ _ => rfl) (fun _ _ => rfl) (.inl (by simp)) (fun i hi => ⟨by simpa using hi, hn, by rw [eT, uR hn hl, hnewk]; rfl⟩) (fun _ h => h)
                  ·unfold jV
                   simp only [hisz, Nat.zero_mul]
                   refine j3 q1 (by rw [<- q2.len]; omega) ?_
                   rw [List.drop_zero, List.take_of_length_le (by rw [<- q2.len]; omega)]
                  ·rw [hgr]; rfl
      ·cases h
     ·cases h
    ·cases h
   ·cases h
  ·cases h
 ·cases h
end Go.Idl
namespace Go.Idl
variable {P : Program} {Z : Nat -> Prop} {H : IH} {M : Nat -> Option (Nat × PO)} {m : Nat -> Nat} {ph : PHp}
theorem qJX {s n k : Nat} {a : Option Addr} {len c : Nat} {vs : List Value} (h : kJ s n H (.slice a len c) = some vs) (hk : k <= n) : kJ s k H (.slice a len c) = some (vs.take (k * s)) := by
 by_cases hk0 : k = 0
 ·subst hk0; simp [kJ, kN]
 ·unfold kJ at h ⊢
  rw [if_neg (by omega)] at h
  rw [if_neg hk0]
  unfold jV at h ⊢
  cases a with
  | none => simp only at h; split at h <;> first | omega | cases h
  | some a =>
    simp only at h ⊢
    unfold IH.loads at h ⊢
    split at h
    ·rename_i cc el fz hg
     split at h
     ·cases h
      have : k * s <= n * s := Nat.mul_le_mul_right _ hk
      rw [if_pos (by omega), List.take_take]
      congr 2; omega
     ·cases h
    ·cases h
theorem qUM {j : Nat} {ob : PO} (hl : qC j ph = some ob) : own m (cB j ob ph) = own m ph := by
 funext k
 unfold own
 rw [jW]
 by_cases h : k = j
 ·subst h; rw [if_pos ⟨rfl, by rw [hl]; rfl⟩, hl]
 ·rw [if_neg (fun h' => h h'.1)]
theorem qVH {l : List PV} {i : Nat} : jJ l i [] = l := by unfold jJ; simp
theorem qU9 {p : Nat -> Bool} {ts : List TypeId} {base x y : PV} {vb vx : Value} {ph' : PHp} (hp : Hp P Z H (own m ph)) (hbase : VR P Z H (own m ph) base vb) (hx : VR P Z H (own m ph) x vx) (h : qDV P ts base x ph = some (y, ph')) :
 Res P Z H m ph p y ph' (qAG P ts.toArray [vb, vx] H) := by
 unfold qDV at h
 split at h
 ·rename_i st xt
  split at h
  ·rename_i el el2 he he2
   split at h
   ·rename_i s hs
    split at h
    ·rename_i mm new hnew
     obtain ⟨vs, a, c, rfl, hf, hr, hlen⟩ := qL3 hp hx hnew
     have icp : ∀ bs n cap, qAG P #[st, xt] [.slice bs n cap, .slice a mm c] H = uZ bs (Nat.min mm n) (vs.take (Nat.min mm n * (s + 1))) H := fun bs n cap => by
      unfold qAG
      have hs' : szT P el = some (s + 1) := hs
      simp only [y9 he, hs', kN, qJX hf (Nat.min_le_left mm n)]
     split at h
     ·rename_i j tt o n
      split at h
      ·rename_i ob hl
       cases hc : (Nat.beq ob.el el && (Nat.beq (tt * (s + 1)) ob.cs.length && (Nat.beq new.length (mm * (s + 1)) && new.all nA))) with
       | false => rw [hc] at h; cases h
       | true =>
         rw [hc] at h; cases h
         simp only [Bool.and_eq_true] at hc
         obtain ⟨c1, c2, c3, c4⟩ := hc
         have e1 := Nat.eq_of_beq_eq_true c1
         have e2 := Nat.eq_of_beq_eq_true c2
         subst e1
         have hv1 := hr.one c4
         obtain ⟨hO, hpos⟩ := uS hbase hl hs e2
         rw [show ([st, xt] : List TypeId).toArray = #[st, xt] from rfl]
         have same : ∀ s', (s' = some (.val (goInt (Nat.min mm n)) H)) -> new.take (Nat.min mm n * (s + 1)) = [] -> Res P Z H m ph p (fvv (.int .i64 ((Nat.min mm n : Nat) : Int))) (cB j { ob with cs := jJ ob.cs (o * (s + 1)) (new.take (Nat.min mm n * (s + 1))) } ph) s' := fun s' hs' h0 => by
          rw [h0, qVH]
          have e : own m (cB j { ob with cs := ob.cs } ph) = own m ph := qUM hl
          refine ⟨goInt (Nat.min mm n), H, Z, m, hs', ?_, uY rfl, ?_, ?_⟩
          ·rw [e]; exact hp
          ·rw [e]; exact .refl _ _ _
          ·rw [e]; exact .refl _ _
         rcases hO with ⟨g1, rfl, rfl, rfl, rfl⟩ | ⟨g1, g2, g3, rfl⟩
         ·rw [icp]
          exact same _ rfl (by simp)
         ·have hre := bX e2 hpos g1
          obtain ⟨w1, w2, w3, ws, q1, q2, q3⟩ := hp.real hl hre
          rw [icp]
          by_cases h0 : (vs.take (Nat.min mm n * (s + 1))) = []
          ·rw [h0]
           refine same _ rfl ?_
           have := (hr.take (Nat.min mm n * (s + 1))).len
           rw [h0] at this
           exact List.length_eq_zero_iff.1 this
          ·have hle : (o + n) * (s + 1) <= tt * (s + 1) := Nat.mul_le_mul_right _ g2
           rw [Nat.add_mul] at hle
           have hmn : Nat.min mm n * (s + 1) <= n * (s + 1) := Nat.mul_le_mul_right _ (Nat.min_le_right mm n)
           have hlt : (new.take (Nat.min mm n * (s + 1))).length <= n * (s + 1) := by simp only [List.length_take]; omega
           have h1 : (vs.take (Nat.min mm n * (s + 1))).all oneCell = true := by
            rw [List.all_eq_true] at hv1 ⊢
            exact fun x hx => hv1 x (List.mem_of_mem_take hx)
           obtain ⟨r1, r2, r3⟩ := hp.put (cs := jJ ob.cs (o * (s + 1)) (new.take (Nat.min mm n * (s + 1)))) hl hre (mY (by omega)) (q2.over (hr.take (Nat.min mm n * (s + 1))) (o * (s + 1))) (rU q3 h1)
           refine ⟨goInt (Nat.min mm n), _, Z, m, ?_, r1, uY rfl, r2, r3 _⟩
           unfold uZ
           have hne : (vs.take (Nat.min mm n * (s + 1))).isEmpty = false := by
            cases hq : vs.take (Nat.min mm n * (s + 1)) with
            | nil => exact absurd hq h0
            | cons => rfl
           simp only [hne, Bool.false_eq_true, if_false]
           have hst : H.stores (m j) (o * (s + 1)) (vs.take (Nat.min mm n * (s + 1))) = some (H.put (m j) (.cells (overwrite ws (o * (s + 1)) (vs.take (Nat.min mm n * (s + 1)))).toArray ob.el (cond ob.gr zC (0, 0)))) := by
            unfold IH.stores
            rw [q1]
            simp only []
            rw [if_pos]
            simp only [qPG, h1, w2, decide_true, Bool.and_true, Bool.true_and, decide_eq_true_eq, List.size_toArray]
            rw [<- q2.len, <- (hr.take (Nat.min mm n * (s + 1))).len]; omega
           rw [hst]
      ·cases h
     ·cases h
      obtain ⟨ab, cb, rfl⟩ := qRJ hbase
      have h0 : Nat.min mm 0 = 0 := Nat.min_zero mm
      refine .same ?_ hp (uY (v := .int .i64 0) rfl)
      rw [show ([st, xt] : List TypeId).toArray = #[st, xt] from rfl, icp, h0]
      cases ab <;> simp [uZ, goInt]
     ·cases h
      have := kS hbase rfl
      subst this
      have h0 : Nat.min mm 0 = 0 := Nat.min_zero mm
      refine .same ?_ hp (uY (v := .int .i64 0) rfl)
      rw [show ([st, xt] : List TypeId).toArray = #[st, xt] from rfl, icp, h0]
      simp [uZ, goInt]
     ·cases h
    ·cases h
   ·cases h
  ·cases h
 ·cases h
theorem xG {o : Option PV} {y : PV} {ph' : PHp} (h : pp1 ph o = some (y, ph')) : o = some y ∧ ph' = ph := by
 unfold pp1 at h
 split at h
 ·cases h; exact ⟨rfl, rfl⟩
 ·cases h
theorem VRL.of {env : List PV} {ienv : Env} (he : VRL P Z H M env ienv) : ∀ (l : List Operand), VRL P Z H M (l.map (zD env)) (l.map ienv.val)
 | [] => .nil
 | x :: l => .cons (qM he x) (VRL.of he l)
theorem qEF {k : Nat} {env : List PV} (h : kU k env = true) (x : Operand) : noK k (zD env x) = true := by
 cases x with
 | tmp t =>
   show noK k ((yN env t).getD .unk) = true
   rw [qG]
   cases he : env[t]? with
   | none => rfl
   | some y => exact uT h he
 | const v =>
   show noK k (ofC v) = true
   unfold ofC q03
   split
   ·rename_i cs; cases wD okC cs.toList with
    | true => exact oC k _
    | false => rfl
   ·rename_i cs; cases wD okC cs.toList with
    | true => exact oC k _
    | false => rfl
   ·cases okC v <;> rfl
 | global g => rfl
 | func g => rfl
theorem qLG {k : Nat} {env : List PV} (h : kU k env = true) : ∀ (l : List (Nat × Operand)), kU k ((l.map fun p => (p.1, zD env p.2)).map (·.2)) = true
 | [] => rfl
 | p :: l => by simp only [List.map_cons, kU, qEF h, qLG h l, Bool.and_self]
theorem Res.up {p q : Nat -> Bool} {v : PV} {ph' : PHp} {s : Option Step1} (h : Res P Z H m ph p v ph' s) (hq : ∀ j, p j = true -> q j = true) : Res P Z H m ph q v ph' s := by
 obtain ⟨u, H', Z', m', h1, h2, h3, h4, h5⟩ := h
 exact ⟨u, H', Z', m', h1, h2, h3, h4, fun j b ob hM => by
  rcases h5 j b ob hM with h | h | h
  ·exact .inl h
  ·exact .inr (.inl h)
  ·exact .inr (.inr (hq j h))⟩
def nw (o : Op) (k : Nat) : Nat -> Bool := fun j => needs o && (j == k)
theorem qX3 {o : Oper} {env : List PV} {ienv : Env} {k : Nat} {y : PV} {ph' : PHp} (hp : Hp P Z H (own m ph)) (hb : H.base <= H.size) (he : VRL P Z H (own m ph) env ienv) (hn : needs o.op = true -> kU k env = true ∧ sN k ph = true) (h : qF4 P o env k ph = some (y, ph')) :
 Res P Z H m ph (nw o.op k) y ph' (iop P o ienv H) := by
 obtain ⟨d, op, ty, pos, aft, g⟩ := o
 have fin : ∀ {x : PV} {s : Option Step1}, (∃ u, s = some (.val u H) ∧ VR P Z H (own m ph) x u) -> Res P Z H m ph (nw op k) x ph s := fun ⟨u, h1, h2⟩ => .same h1 hp h2
 have finO : ∀ {x : PV} {s : Option Value}, (∃ u, s = some u ∧ VR P Z H (own m ph) x u) -> Res P Z H m ph (nw op k) x ph (Step1.ofO H s) := fun ⟨u, h1, h2⟩ => .same (by rw [h1]; rfl) hp h2
 cases op <;> simp only [qF4] at h <;> (try (cases h; done)) <;> simp only at hn fin finO
 case move x => cases h; exact fin ⟨_, rfl, qM he x⟩
 case assign x => cases h; exact fin ⟨_, rfl, qM he x⟩
 case pick c a b =>
  split at h
  ·rename_i t ht
   cases h
   have hc := qM he c
   rw [ht] at hc
   have hv := kS hc rfl
   refine fin ⟨cond t (ienv.val a) (ienv.val b), ?_, ?_⟩
   ·show qGI (ienv.val c) _ _ H = _
    rw [hv]; rfl
   ·cases t
    ·exact qM he b
    ·exact qM he a
  ·cases h
 case alloc el =>
  obtain ⟨n1, n2⟩ := hn rfl
  exact (qPR hp hb n2 h).up fun j hj => hj
 case box el x =>
  obtain ⟨n1, n2⟩ := hn rfl
  exact (qZR hp hb n2 (qM he x) (qEF n1 x) h).up fun j hj => hj
 case build t ps =>
  obtain ⟨h1, rfl⟩ := xG h
  exact finO (qP7 (qSA he _) h1)
 case buildSlice t len ps =>
  obtain ⟨n1, n2⟩ := hn rfl
  exact (qB1 hp hb n2 (qSA he _) (qLG n1 _) h).up fun j hj => hj
 case load t a =>
  obtain ⟨h1, rfl⟩ := xG h
  exact finO (qK6 hp (qM he a) h1)
 case store t a x =>
  unfold ppS at h
  split at h
  ·rename_i ph1 hs
   cases h
   exact qRA hp (qM he a) (qM he x) hs
  ·cases h
 case nilCheck x =>
  obtain ⟨h1, rfl⟩ := xG h
  obtain ⟨h2, rfl⟩ := qG3 (qM he x) h1
  exact fin ⟨_, h2, qM he x⟩
 case binOp op t x z t2 =>
  obtain ⟨h1, rfl⟩ := xG h
  exact fin (qX0 (qM he x) (qM he z) h1)
 case unOp op t x =>
  obtain ⟨h1, rfl⟩ := xG h
  exact fin (qLX (qM he x) rfl h1)
 case convert s t x =>
  cases hpt : qN8 (zD env x) with
  | true => rw [hpt] at h; cases h
  | false =>
  rw [hpt] at h
  obtain ⟨h1, rfl⟩ := xG h
  have hx := qM he x
  obtain ⟨u, h2, h3⟩ := qLX (o := ⟨d, .convert s t x, ty, pos, aft, g⟩) (env := ienv) hx rfl h1
  refine fin ⟨u, ?_, h3⟩
  show gZ P _ s t (ienv.val x) ienv H = _
  unfold gZ
  split
  ·rename_i a ha
   exfalso
   unfold rD at h1
   split at h1
   ·rename_i b hb'
    have hv := kS hx hb'
    rw [ha] at hv
    subst hv
    unfold pl at hb'
    split at hb'
    ·rename_i x0 hx0
     cases hb'
     rw [hx0] at hpt
     cases hpt
    ·split at hb' <;> cases hb'
    ·cases hb'
   ·cases h1
  ·exact h2
 case makeFunc fn first cap =>
  obtain ⟨h1, rfl⟩ := xG h
  exact fin (qG8 (by simpa using VRL.of he first.toList) (by simpa using VRL.of he cap.toList) h1)
 case makeSlice t l c =>
  obtain ⟨n1, n2⟩ := hn rfl
  exact (qDY hp hb n2 (qM he l) (qM he c) h).up fun j hj => hj
 case slice t x lo hi mx =>
  cases mx with
  | some mx => cases h
  | none =>
    simp only at h
    split at h
    ·rename_i s hs
     have hx := qM he x
     rw [hs] at hx
     have hv := kS hx rfl
     split at h
     ·rename_i vs hvs
      obtain ⟨h1, rfl⟩ := xG h
      have hopt : ∀ (w : Option Operand), (∀ a, w = some a -> a ∈ lo.toList ++ hi.toList) -> (w.map fun a => (Operand.const ((pl (zD env a)).getD undef))).map (Env.val []) = w.map ienv.val := fun w hw => by
       cases w with
       | none => rfl
       | some a =>
         obtain ⟨b, hb'⟩ := qEO hvs (zD env a) (List.mem_map.2 ⟨a, hw a rfl, rfl⟩)
         simp only [Option.map_some, hb', Option.getD_some]
         rw [kS (qM he a) hb']
         rfl
      have hlo := hopt lo (fun a ha => by subst ha; simp)
      have hhi := hopt hi (fun a ha => by subst ha; simp)
      obtain ⟨u, h2, h3⟩ := qS7 (M := own m _) (Z := Z) (H := H) (o := ⟨d, .slice t x lo hi none, ty, pos, aft, g⟩) (env := ienv) (by
       have hex : execOp ienv.val ⟨d, .slice t x lo hi none, ty, pos, aft, g⟩ = execOp (Env.val []) (cop (.slice t (.const (.string s)) (lo.map fun a => .const ((pl (zD env a)).getD undef)) (hi.map fun a => .const ((pl (zD env a)).getD undef)) none)) := by
        show (do let x <- Instr.sliceAt t (ienv.val x) (lo.map ienv.val) (hi.map ienv.val) none; pure (Next.value x)) = (do let x <- Instr.sliceAt t (.string s) ((lo.map fun a => (Operand.const ((pl (zD env a)).getD undef))).map (Env.val [])) ((hi.map fun a => (Operand.const ((pl (zD env a)).getD undef))).map (Env.val [])) none; pure (Next.value x))
        rw [hlo, hhi, hv]
       have hpl : jZ ienv.val (Op.slice t x lo hi none).operands.toList = jZ (Env.val []) (cop (.slice t (.const (.string s)) (lo.map fun a => .const ((pl (zD env a)).getD undef)) (hi.map fun a => .const ((pl (zD env a)).getD undef)) none)).op.operands.toList := by
        rw [vW, vW]
        cases lo <;> cases hi <;> simp_all [Op.operands, cop, Env.val]
       unfold jQ
       rw [hex]
       simp only [hpl]) h1
      refine fin ⟨u, ?_, h3⟩
      show jI P _ t (ienv.val x) _ _ _ ienv H = _
      rw [hv]
      exact h2
     ·cases h
    ·rename_i v hne
     obtain ⟨h1, rfl⟩ := xG h
     obtain ⟨u, h2, h3⟩ := qN2 hp (qM he x) (qZ6.of he lo) (qZ6.of he hi) h1
     exact fin ⟨u, qJZ h2, h3⟩
 case fieldAddr t x i =>
  obtain ⟨h1, rfl⟩ := xG h
  exact finO (qE3 (qM he x) h1)
 case field t x i =>
  obtain ⟨h1, rfl⟩ := xG h
  exact finO (qPL (qM he x) h1)
 case indexAddr t x ix =>
  obtain ⟨h1, rfl⟩ := xG h
  exact finO (qFV hp (qM he x) (qM he ix) h1)
 case index t x ix =>
  split at h
  ·rename_i s j hs hj
   obtain ⟨h1, rfl⟩ := xG h
   have hx := qM he x
   rw [hs] at hx
   have hv := kS hx rfl
   have hv2 := kS (qM he ix) hj
   obtain ⟨u, h2, h3⟩ := qS7 (M := own m _) (Z := Z) (H := H) (o := ⟨d, .index t x ix, ty, pos, aft, g⟩) (env := ienv) (by rw [<- hv, <- hv2]; rfl) h1
   refine fin ⟨u, ?_, h3⟩
   show uO P _ t (ienv.val x) _ ienv H = _
   rw [hv]
   exact h2
  ·obtain ⟨h1, rfl⟩ := xG h
   obtain ⟨u, h2, h3⟩ := qS3 (qM he x) (qM he ix) h1
   exact fin ⟨u, qJ1 h2, h3⟩
 case extract t i =>
  obtain ⟨h1, rfl⟩ := xG h
  exact fin (qKO (qM he t) h1)
 case call c =>
  obtain ⟨cal, args, ts⟩ := c
  split at h
  ·rename_i b hbq
   simp only at hbq
   subst hbq
   have two : ∀ x z, args.toList = [x, z] -> jZ ienv.val args.toList = [ienv.val x, ienv.val z] := fun x z e => by rw [e]; rfl
   unfold fP at h
   split at h
   ·-- append
    split at h
    ·rename_i x z hxz
     obtain ⟨n1, n2⟩ := hn rfl
     obtain ⟨a1, a2, ha, rfl, rfl⟩ : ∃ a1 a2, args.toList = [a1, a2] ∧ x = zD env a1 ∧ z = zD env a2 := by
      cases hq : args.toList with
      | nil => rw [hq] at hxz; cases hxz
      | cons a l =>
        rw [hq] at hxz
        cases l with
        | nil => cases hxz
        | cons a2 l =>
          cases l with
          | nil => simp only [List.map_cons, List.map_nil, List.cons.injEq, and_true] at hxz; exact ⟨a, a2, rfl, hxz.1.symm, hxz.2.symm⟩
          | cons => cases hxz
     have hr := qNI hp hb n2 (qM he a1) (qM he a2) (qEF n1 a2) (qEF n1 a1) h
     obtain ⟨u, H', Z', m', e1, e2, e3, e4, e5⟩ := hr
     refine Res.up (p := fun j => j == k) ⟨u, H', Z', m', ?_, e2, e3, e4, e5⟩ fun j hj => hj
     refine nQ ?_
     rw [two _ _ ha]
     rw [show ts.toList.toArray = ts from by simp] at e1
     exact e1
    ·cases h
   ·-- copy
    split at h
    ·rename_i x z hxz
     obtain ⟨a1, a2, ha, rfl, rfl⟩ : ∃ a1 a2, args.toList = [a1, a2] ∧ x = zD env a1 ∧ z = zD env a2 := by
      cases hq : args.toList with
      | nil => rw [hq] at hxz; cases hxz
      | cons a l =>
        rw [hq] at hxz
        cases l with
        | nil => cases hxz
        | cons a2 l =>
          cases l with
          | nil => simp only [List.map_cons, List.map_nil, List.cons.injEq, and_true] at hxz; exact ⟨a, a2, rfl, hxz.1.symm, hxz.2.symm⟩
          | cons => cases hxz
     have hr := qU9 (p := nw (.call ⟨.builtin .copy, args, ts⟩) k) hp (qM he a1) (qM he a2) h
     obtain ⟨u, H', Z', m', e1, e2, e3, e4, e5⟩ := hr
     refine ⟨u, H', Z', m', ?_, e2, e3, e4, e5⟩
     refine nQ ?_
     rw [two _ _ ha]
     rw [show ts.toList.toArray = ts from by simp] at e1
     exact e1
    ·cases h
   ·-- len
    split at h
    ·rename_i x hx0
     obtain ⟨a1, ha, rfl⟩ : ∃ a1, args = #[a1] ∧ x = zD env a1 := by
      cases hq : args.toList with
      | nil => rw [hq] at hx0; cases hx0
      | cons a l =>
        rw [hq] at hx0
        cases l with
        | nil =>
          simp only [List.map_cons, List.map_nil, List.cons.injEq, and_true] at hx0
          exact ⟨a, by have e9 : args = args.toList.toArray := by simp
                       rw [e9, hq], hx0.symm⟩
        | cons => cases hx0
     subst ha
     cases hst : qZU P ts with
     | true =>
       rw [hst] at h
       have hnone : xD P .len ⟨.builtin .len, #[a1], ts⟩ (jZ ienv.val #[a1].toList) H = none := by
        show dY P ts [ienv.val a1] H = none
        unfold qZU at hst
        split at hst
        ·rename_i hu
         unfold dY
         rw [hu]
        ·cases hst
       obtain ⟨e9, hr⟩ := qAU (d := d) (pos := pos) (aft := aft) (g := g) he hnone h
       subst e9
       exact fin hr
     | false =>
       rw [hst] at h
       obtain ⟨h1, rfl⟩ := xG h
       exact fin (qYO (qM he a1) h1)
    ·cases h
   ·obtain ⟨e9, hr⟩ := qAU (d := d) (pos := pos) (aft := aft) (g := g) he rfl h
    subst e9
    exact fin hr
   ·obtain ⟨e9, hr⟩ := qAU (d := d) (pos := pos) (aft := aft) (g := g) he rfl h
    subst e9
    exact fin hr
   ·cases h
  ·cases h
end Go.Idl
