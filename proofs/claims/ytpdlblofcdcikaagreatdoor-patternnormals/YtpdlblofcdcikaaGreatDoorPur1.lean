/- Values without a heap, and how they lie in the ideal heap. Conditions: none. -/
import Derived.Test.YtpdlblofcdcikaaGreatDoorIdlK
set_option linter.unusedSimpArgs false
set_option linter.unusedVariables false
namespace Go.Idl
variable {P : Program}

/-- what is not written any more: a value without addresses; a list, by its cells -/
inductive FV where
  | v (x : Value)
  | l (el : TypeId) (n : Nat) (cs : List FV)

/-- a value: of what is not written any more; an aggregate; a slice of an object (with the number of its elements then, the first element, how many); a place in an object (with the number of its cells then); a place in a list; a function -/
inductive PV where
  | f (x : FV)
  | agg (cs : List PV)
  | tup (cs : List PV)
  | own (k t o n : Nat)
  | ref (k t off : Nat)
  | lp (cs : List FV) (off : Nat)
  | fn (g : FuncId) (first cap : List PV)
  | yl (l : Nat)
  | unk

/-- an object: the type of its elements, whether it grew, its cells -/
structure PO where
  el : TypeId
  gr : Bool
  cs : List PV

abbrev PHp := List (Nat × PO)
def plook (k : Nat) : PHp → Option PO
  | [] => none
  | (j, o) :: l => cond (k == j) (some o) (plook k l)
def pset (k : Nat) (o : PO) : PHp → PHp
  | [] => []
  | (j, p) :: l => cond (k == j) ((j, o) :: l) ((j, p) :: pset k o l)
def pdel (k : Nat) : PHp → PHp
  | [] => []
  | (j, p) :: l => cond (k == j) (pdel k l) ((j, p) :: pdel k l)

inductive FR (Z : Nat → Prop) (H : IH) : FV → Value → Prop
  | v {x : Value} (hp : plainV x = true) (h1 : oneCell x = true) : FR Z H (.v x) x
  | nil {el : TypeId} {a : Option Addr} {c : Nat} (h0 : a = none → c = 0) (hs : ∀ x, a = some x → x.spot = none ∨ x.spot = some el) : FR Z H (.l el 0 []) (.slice a 0 c)
  | l {el : TypeId} {n : Nat} {cs : List FV} {b o : Nat} {sp : Option TypeId} {c : Nat} {vs : List Value} (hz : Z b) (hb : b < H.size) (hn : n ≤ c) (hs : sp = none ∨ sp = some el)
      (hl : H.loads b o cs.length = some vs) (hc : ∀ (i : Nat) x v, cs[i]? = some x → vs[i]? = some v → FR Z H x v) : FR Z H (.l el n cs) (.slice (some ⟨b, o, sp⟩) n c)

theorem loads_len {H : IH} {b o n : Nat} {vs : List Value} (h : H.loads b o n = some vs) : vs.length = n := by
  unfold IH.loads at h
  split at h
  · split at h
    · cases h; simp; omega
    · cases h
  · cases h
theorem loads_get {H H' : IH} {b o n : Nat} (h : H'.get b = H.get b) : H'.loads b o n = H.loads b o n := by
  unfold IH.loads; rw [h]
theorem loads_cells {H : IH} {b o n : Nat} {vs c : List Value} {el : TypeId} {fz : Nat × Nat} (h : H.get b = some (.cells c.toArray el fz)) (hn : o + n ≤ c.length) (hv : (c.drop o).take n = vs) : H.loads b o n = some vs := by
  unfold IH.loads; rw [h]; simp [hn, hv]

theorem FR.mono {Z Z' : Nat → Prop} {H H' : IH} {x : FV} {v : Value} (h : FR Z H x v) (hz : ∀ b, Z b → Z' b) (hs : H.size ≤ H'.size) (hg : ∀ b, Z b → b < H.size → H'.get b = H.get b) : FR Z' H' x v := by
  induction h with
  | v hp h1 => exact .v hp h1
  | nil h0 hs => exact .nil h0 hs
  | l hZ hb hn hsp hl hc ih => exact .l (hz _ hZ) (Nat.lt_of_lt_of_le hb hs) hn hsp (by rw [loads_get (hg _ hZ hb)]; exact hl) ih
theorem FR.one {Z : Nat → Prop} {H : IH} {x : FV} {v : Value} (h : FR Z H x v) : oneCell v = true := by
  cases h with
  | v hp h1 => exact h1
  | nil => rfl
  | l => rfl

/-- a slice of an object, as it lies -/
def OwnIs (sz b : Nat) (ob : PO) (t o n : Nat) (v : Value) : Prop :=
  (ob.gr = true ∧ t = 0 ∧ o = 0 ∧ n = 0 ∧ v = .slice none 0 0) ∨ ((ob.gr = true → t ≠ 0) ∧ o + n ≤ t ∧ (o = 0 ∨ o < t) ∧ v = .slice (some ⟨b, o * sz, cond ob.gr (some ob.el) none⟩) n (t - o))

inductive VR (P : Program) (Z : Nat → Prop) (H : IH) (M : Nat → Option (Nat × PO)) : PV → Value → Prop
  | f {x : FV} {v : Value} (h : FR Z H x v) : VR P Z H M (.f x) v
  | agg {cs : List PV} {vs : Array Value} (hl : cs.length = vs.size) (hc : ∀ (i : Nat) x v, cs[i]? = some x → vs[i]? = some v → VR P Z H M x v) : VR P Z H M (.agg cs) (.agg vs)
  | tup {cs : List PV} {vs : Array Value} (hl : cs.length = vs.size) (hc : ∀ (i : Nat) x v, cs[i]? = some x → vs[i]? = some v → VR P Z H M x v) : VR P Z H M (.tup cs) (.tuple vs)
  | own {k t o n : Nat} {v : Value} (h1 : oneCell v = true) (h : ∀ b ob, M k = some (b, ob) → ∃ sz, szT P ob.el = some sz ∧ 0 < sz ∧ t * sz ≤ ob.cs.length ∧ (t * sz = ob.cs.length → OwnIs sz b ob t o n v)) : VR P Z H M (.own k t o n) v
  | ref {k t off : Nat} {v : Value} (h1 : oneCell v = true) (h : ∀ b ob, M k = some (b, ob) → t ≤ ob.cs.length ∧ (t = ob.cs.length → v = .pointer (some ⟨b, off, none⟩) ∧ (ob.gr = true → t ≠ 0))) : VR P Z H M (.ref k t off) v
  | lp {cs : List FV} {off b o : Nat} {vs : List Value} (hz : Z b) (hb : b < H.size) (hl : H.loads b o cs.length = some vs) (hc : ∀ (i : Nat) x v, cs[i]? = some x → vs[i]? = some v → FR Z H x v) : VR P Z H M (.lp cs off) (.pointer (some ⟨b, o + off, none⟩))
  | fn {g : FuncId} {first cap : List PV} {fs cs : Array Value} (hf : first.length = fs.size) (hc : cap.length = cs.size) (hfc : ∀ (i : Nat) x v, first[i]? = some x → fs[i]? = some v → VR P Z H M x v) (hcc : ∀ (i : Nat) x v, cap[i]? = some x → cs[i]? = some v → VR P Z H M x v) :
      VR P Z H M (.fn g first cap) (.func (.func g) fs cs)
  | yl {l : Nat} : VR P Z H M (.yl l) (.func (.yield l) #[] #[])
  | unk {v : Value} : VR P Z H M .unk v

mutual
/-- it bears no place in an object -/
def noK (k : Nat) : PV → Bool
  | .f _ => true
  | .agg cs => noKL k cs
  | .tup cs => noKL k cs
  | .own j _ _ _ => !(k == j)
  | .ref j _ _ => !(k == j)
  | .lp _ _ => true
  | .fn _ a b => noKL k a && noKL k b
  | .yl _ => true
  | .unk => true
def noKL (k : Nat) : List PV → Bool
  | [] => true
  | x :: l => noK k x && noKL k l
end
theorem noKL_get {k : Nat} : ∀ {l : List PV} {i : Nat} {x : PV}, noKL k l = true → l[i]? = some x → noK k x = true
  | y :: l, 0, x, h, e => by simp only [noKL, Bool.and_eq_true] at h; simp at e; subst e; exact h.1
  | y :: l, i + 1, x, h, e => by simp only [noKL, Bool.and_eq_true] at h; exact noKL_get h.2 (by simpa using e)

/-- objects there are as they were, or gone, or longer, or new -/
def KR (p : Nat → Bool) (M M' : Nat → Option (Nat × PO)) : Prop := ∀ k b' ob', M' k = some (b', ob') → (∃ ob, M k = some (b', ob) ∧ ob.cs.length = ob'.cs.length ∧ ob.el = ob'.el ∧ ob.gr = ob'.gr) ∨
  (∃ b ob, M k = some (b, ob) ∧ ob.cs.length < ob'.cs.length ∧ ob.el = ob'.el) ∨ p k = true
theorem KR.refl (p : Nat → Bool) (M : Nat → Option (Nat × PO)) : KR p M M := fun k b' ob' h => .inl ⟨ob', h, rfl, rfl, rfl⟩
theorem VR.mono {Z Z' : Nat → Prop} {H H' : IH} {M M' : Nat → Option (Nat × PO)} {p : Nat → Bool} (hz : ∀ b, Z b → Z' b) (hs : H.size ≤ H'.size) (hg : ∀ b, Z b → b < H.size → H'.get b = H.get b) (hk : KR p M M') {x : PV} {v : Value} (h : VR P Z H M x v) :
    (∀ k, p k = true → noK k x = true) → VR P Z' H' M' x v := by
  induction h with
  | f h => exact fun _ => .f (h.mono hz hs hg)
  | agg hl hc ih => exact fun hn => .agg hl fun i x v h1 h2 => ih i x v h1 h2 fun k hp => noKL_get (by have := hn k hp; simpa [noK] using this) h1
  | tup hl hc ih => exact fun hn => .tup hl fun i x v h1 h2 => ih i x v h1 h2 fun k hp => noKL_get (by have := hn k hp; simpa [noK] using this) h1
  | @own k t o n v h1 h =>
    refine fun hn => .own h1 fun b ob hM => ?_
    rcases hk k b ob hM with ⟨ob0, h0, h1, h2, h3⟩ | ⟨b0, ob0, h0, h1, h2⟩ | hp
    · obtain ⟨sz, q1, q2, q3, q4⟩ := h b ob0 h0
      refine ⟨sz, by rw [← h2]; exact q1, q2, by omega, fun e => ?_⟩
      have := q4 (by omega)
      unfold OwnIs at this ⊢
      rw [h2, h3] at this
      exact this
    · obtain ⟨sz, q1, q2, q3, q4⟩ := h b0 ob0 h0
      exact ⟨sz, by rw [← h2]; exact q1, q2, by omega, fun e => by omega⟩
    · have := hn k hp
      simp [noK] at this
  | @ref k t off v h1 h =>
    refine fun hn => .ref h1 fun b ob hM => ?_
    rcases hk k b ob hM with ⟨ob0, h0, h1, h2, h3⟩ | ⟨b0, ob0, h0, h1, h2⟩ | hp
    · obtain ⟨q1, q2⟩ := h b ob0 h0
      refine ⟨by omega, fun e => ?_⟩
      obtain ⟨q3, q4⟩ := q2 (by omega)
      exact ⟨q3, fun h => q4 (by rw [h3]; exact h)⟩
    · obtain ⟨q1, q2⟩ := h b0 ob0 h0
      exact ⟨by omega, fun e => by omega⟩
    · have := hn k hp
      simp [noK] at this
  | lp hZ hb hl hc => exact fun _ => .lp (hz _ hZ) (Nat.lt_of_lt_of_le hb hs) (by rw [loads_get (hg _ hZ hb)]; exact hl) fun i x v h1 h2 => (hc i x v h1 h2).mono hz hs hg
  | fn hf hc hfc hcc i1 i2 =>
    refine fun hn => .fn hf hc (fun i x v h1 h2 => i1 i x v h1 h2 fun k hp => noKL_get ?_ h1) (fun i x v h1 h2 => i2 i x v h1 h2 fun k hp => noKL_get ?_ h1)
    · have := hn k hp; simp only [noK, Bool.and_eq_true] at this; exact this.1
    · have := hn k hp; simp only [noK, Bool.and_eq_true] at this; exact this.2
  | yl => exact fun _ => .yl
  | unk => exact fun _ => .unk

/-- values, place by place -/
structure VRL (P : Program) (Z : Nat → Prop) (H : IH) (M : Nat → Option (Nat × PO)) (xs : List PV) (vs : List Value) : Prop where
  len : xs.length = vs.length
  val : ∀ (i : Nat) x v, xs[i]? = some x → vs[i]? = some v → VR P Z H M x v
theorem VRL.nil {Z : Nat → Prop} {H : IH} {M : Nat → Option (Nat × PO)} : VRL P Z H M [] [] := ⟨rfl, fun i x v h => by simp at h⟩
theorem VRL.cons {Z : Nat → Prop} {H : IH} {M : Nat → Option (Nat × PO)} {x : PV} {v : Value} {xs : List PV} {vs : List Value} (h : VR P Z H M x v) (t : VRL P Z H M xs vs) : VRL P Z H M (x :: xs) (v :: vs) :=
  ⟨by simp [t.len], fun i y u h1 h2 => by
    cases i with
    | zero => simp at h1 h2; subst h1 h2; exact h
    | succ i => exact t.val i y u (by simpa using h1) (by simpa using h2)⟩
theorem VRL.uncons {Z : Nat → Prop} {H : IH} {M : Nat → Option (Nat × PO)} {x : PV} {xs : List PV} {ws : List Value} (h : VRL P Z H M (x :: xs) ws) : ∃ v vs, ws = v :: vs ∧ VR P Z H M x v ∧ VRL P Z H M xs vs := by
  cases ws with
  | nil => have := h.len; simp at this
  | cons v vs => exact ⟨v, vs, rfl, h.val 0 x v rfl rfl, by have := h.len; simpa using this, fun i y u h1 h2 => h.val (i + 1) y u (by simpa using h1) (by simpa using h2)⟩
theorem VRL.nil_left {Z : Nat → Prop} {H : IH} {M : Nat → Option (Nat × PO)} {ws : List Value} (h : VRL P Z H M [] ws) : ws = [] := by
  cases ws with
  | nil => rfl
  | cons v vs => have := h.len; simp at this
theorem VRL.mono {Z Z' : Nat → Prop} {H H' : IH} {M M' : Nat → Option (Nat × PO)} {p : Nat → Bool} (hz : ∀ b, Z b → Z' b) (hs : H.size ≤ H'.size) (hg : ∀ b, Z b → b < H.size → H'.get b = H.get b) (hk : KR p M M') {xs : List PV} {vs : List Value} (h : VRL P Z H M xs vs)
    (hn : ∀ k, p k = true → noKL k xs = true) : VRL P Z' H' M' xs vs := ⟨h.len, fun i x v h1 h2 => (h.val i x v h1 h2).mono hz hs hg hk fun k hp => noKL_get (hn k hp) h1⟩
theorem VRL.append {Z : Nat → Prop} {H : IH} {M : Nat → Option (Nat × PO)} {xs ys : List PV} {vs ws : List Value} (a : VRL P Z H M xs vs) (b : VRL P Z H M ys ws) : VRL P Z H M (xs ++ ys) (vs ++ ws) := by
  refine ⟨by simp [a.len, b.len], fun i x v h1 h2 => ?_⟩
  by_cases hi : i < xs.length
  · rw [List.getElem?_append_left hi] at h1
    rw [List.getElem?_append_left (by rw [← a.len]; exact hi)] at h2
    exact a.val i x v h1 h2
  · rw [List.getElem?_append_right (by omega)] at h1
    rw [List.getElem?_append_right (by rw [← a.len]; omega), ← a.len] at h2
    exact b.val _ x v h1 h2
theorem VRL.take {Z : Nat → Prop} {H : IH} {M : Nat → Option (Nat × PO)} {xs : List PV} {vs : List Value} (a : VRL P Z H M xs vs) (n : Nat) : VRL P Z H M (xs.take n) (vs.take n) := by
  refine ⟨by simp [a.len], fun i x v h1 h2 => ?_⟩
  rw [List.getElem?_take] at h1 h2
  split at h1
  · rename_i hi; rw [if_pos hi] at h2; exact a.val i x v h1 h2
  · cases h1
theorem VRL.drop {Z : Nat → Prop} {H : IH} {M : Nat → Option (Nat × PO)} {xs : List PV} {vs : List Value} (a : VRL P Z H M xs vs) (n : Nat) : VRL P Z H M (xs.drop n) (vs.drop n) := by
  refine ⟨by simp [a.len], fun i x v h1 h2 => ?_⟩
  rw [List.getElem?_drop] at h1 h2
  exact a.val _ x v h1 h2
theorem VRL.get {Z : Nat → Prop} {H : IH} {M : Nat → Option (Nat × PO)} {xs : List PV} {vs : List Value} (a : VRL P Z H M xs vs) {i : Nat} {x : PV} (h : xs[i]? = some x) : ∃ v, vs[i]? = some v ∧ VR P Z H M x v := by
  have hlt := (List.getElem?_eq_some_iff.1 h).1
  have hlt' : i < vs.length := by rw [← a.len]; exact hlt
  exact ⟨vs[i], List.getElem?_eq_getElem hlt', a.val i x _ h (List.getElem?_eq_getElem hlt')⟩
theorem VRL.set {Z : Nat → Prop} {H : IH} {M : Nat → Option (Nat × PO)} {xs : List PV} {vs : List Value} (a : VRL P Z H M xs vs) {x : PV} {v : Value} (h : VR P Z H M x v) (n : Nat) : VRL P Z H M (xs.set n x) (vs.set n v) := by
  refine ⟨by simp [a.len], fun i y u h1 h2 => ?_⟩
  rw [List.getElem?_set] at h1 h2
  by_cases hi : n = i
  · subst hi
    simp only [if_true] at h1 h2
    by_cases hl : n < xs.length
    · rw [if_pos hl] at h1
      rw [if_pos (by rw [← a.len]; exact hl)] at h2
      cases h1; cases h2; exact h
    · rw [if_neg hl] at h1; cases h1
  · rw [if_neg hi] at h1 h2
    exact a.val i y u h1 h2

/-- the objects, where they lie -/
structure Hp (P : Program) (Z : Nat → Prop) (H : IH) (M : Nat → Option (Nat × PO)) : Prop where
  zlt : ∀ b, Z b → b < H.size
  obj : ∀ k b ob, M k = some (b, ob) → (ob.gr = true ∧ ob.cs = []) ∨ (b < H.size ∧ H.base ≤ b ∧ ¬ Z b ∧ ∃ vs, H.get b = some (.cells vs.toArray ob.el (cond ob.gr roomFz (0, 0))) ∧ VRL P Z H M ob.cs vs ∧ vs.all oneCell = true)
  inj : ∀ k k' b b' ob ob', M k = some (b, ob) → M k' = some (b', ob') → ¬ (ob.gr = true ∧ ob.cs = []) → ¬ (ob'.gr = true ∧ ob'.cs = []) → k ≠ k' → b ≠ b'

/-- a block of an object -/
def OwnB (M : Nat → Option (Nat × PO)) (b : Nat) : Prop := ∃ k ob, M k = some (b, ob) ∧ ¬ (ob.gr = true ∧ ob.cs = [])

/-- what a step leaves of what lay there -/
structure Step (Z : Nat → Prop) (H : IH) (M : Nat → Option (Nat × PO)) (Z' : Nat → Prop) (H' : IH) (M' : Nat → Option (Nat × PO)) : Prop where
  size : H.size ≤ H'.size
  base : H'.base = H.base
  zle : ∀ b, Z b → Z' b
  keep : ∀ b, b < H.size → ¬ OwnB M b → H'.get b = H.get b
  znew : ∀ b, Z' b → b < H.size → Z b ∨ OwnB M b
  onew : ∀ b, OwnB M' b → b < H.size → OwnB M b
theorem Step.refl (Z : Nat → Prop) (H : IH) (M : Nat → Option (Nat × PO)) : Step Z H M Z H M := ⟨Nat.le_refl _, rfl, fun _ h => h, fun _ _ _ => rfl, fun _ h _ => .inl h, fun _ h _ => h⟩
theorem Step.trans {Z Z1 Z2 : Nat → Prop} {H H1 H2 : IH} {M M1 M2 : Nat → Option (Nat × PO)} (a : Step Z H M Z1 H1 M1) (b : Step Z1 H1 M1 Z2 H2 M2) : Step Z H M Z2 H2 M2 := by
  refine ⟨Nat.le_trans a.size b.size, b.base.trans a.base, fun x h => b.zle x (a.zle x h), fun x hx hn => ?_, fun x h hx => ?_, fun x h hx => a.onew x (b.onew x h (Nat.lt_of_lt_of_le hx a.size)) hx⟩
  · exact (b.keep x (Nat.lt_of_lt_of_le hx a.size) fun h => hn (a.onew x h hx)).trans (a.keep x hx hn)
  · rcases b.znew x h (Nat.lt_of_lt_of_le hx a.size) with h | h
    · exact a.znew x h hx
    · exact .inr (a.onew x h hx)
theorem Hp.zkeep {Z Z' : Nat → Prop} {H H' : IH} {M M' : Nat → Option (Nat × PO)} (h : Hp P Z H M) (s : Step Z H M Z' H' M') : ∀ b, Z b → b < H.size → H'.get b = H.get b := fun b hz hb => s.keep b hb fun ⟨k, ob, h1, h2⟩ => by
  rcases h.obj k b ob h1 with h3 | ⟨_, _, h3, _⟩
  · exact h2 h3
  · exact h3 hz
end Go.Idl
