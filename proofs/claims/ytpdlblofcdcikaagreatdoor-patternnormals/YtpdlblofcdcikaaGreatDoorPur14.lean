/- How values of a type are told; rules by which a region is run. Conditions: none. -/
import Derived.Test.YtpdlblofcdcikaaGreatDoorPur13
set_option linter.unusedSimpArgs false
set_option linter.unusedVariables false
namespace Go.Idl
variable {P : Program} {G : Nat → Bool} {nat : Nats} {tab : PTab} {inl : FuncId → Bool} {nm : Nm} {good : FuncId → Bool} {Z : Nat → Prop} {H : IH} {M : Nat → Option (Nat × PO)}

/-! ### Types -/
structure C1 (α : Type) where
  f : α → FV
  inj : ∀ x y, f x = f y → x = y
  uniq : ∀ (Z Z' : Nat → Prop) (H : IH) (x y : α) (v : Value), FR Z H (f x) v → FR Z' H (f y) v → x = y
structure CN (α : Type) where
  f : α → List FV
  k : Nat
  len : ∀ x, (f x).length = k
  inj : ∀ x y, f x = f y → x = y
  uniq : ∀ (Z Z' : Nat → Prop) (H : IH) (x y : α) (vs : List Value), FRL Z H (f x) vs → FRL Z' H (f y) vs → x = y
theorem fr_v {x : Value} {v : Value} (h : FR Z H (.v x) v) : v = x := by cases h; rfl
def C1.plain {α : Type} (g : α → Value) (hi : ∀ x y, g x = g y → x = y) : C1 α := ⟨fun x => .v (g x), fun x y h => hi x y (by injection h), fun Z Z' H x y v a b => hi x y ((fr_v a).symm.trans (fr_v b))⟩
def C1.int (k : IntKind) : C1 Int := .plain (fun z => .int k z) fun x y h => by injection h
def C1.bool : C1 Bool := .plain (fun z => .bool z) fun x y h => by injection h
theorem FRL.uncons {x : FV} {xs : List FV} {ws : List Value} (h : FRL Z H (x :: xs) ws) : ∃ v vs, ws = v :: vs ∧ FR Z H x v ∧ FRL Z H xs vs := by
  cases ws with
  | nil => have := h.len; simp at this
  | cons v vs => exact ⟨v, vs, rfl, h.val 0 x v rfl rfl, by have := h.len; simpa using this, fun i y u h1 h2 => h.val (i + 1) y u (by simpa using h1) (by simpa using h2)⟩
theorem FRL.split {xs ys : List FV} {ws : List Value} (h : FRL Z H (xs ++ ys) ws) : FRL Z H xs (ws.take xs.length) ∧ FRL Z H ys (ws.drop xs.length) := by
  have hl := h.len
  rw [List.length_append] at hl
  refine ⟨⟨by simp; omega, fun i x v h1 h2 => ?_⟩, ⟨by simp; omega, fun i x v h1 h2 => ?_⟩⟩
  · have hi := (List.getElem?_eq_some_iff.1 h1).1
    rw [List.getElem?_take, if_pos hi] at h2
    exact h.val i x v (by rw [List.getElem?_append_left hi]; exact h1) h2
  · rw [List.getElem?_drop] at h2
    exact h.val (xs.length + i) x v (by rw [List.getElem?_append_right (by omega)]; simpa using h1) h2
theorem map_uniq {α : Type} (c : C1 α) {Z' : Nat → Prop} : ∀ (xs ys : List α) (vs : List Value), FRL Z H (xs.map c.f) vs → FRL Z' H (ys.map c.f) vs → xs = ys
  | [], [], _, _, _ => rfl
  | [], y :: ys, vs, a, b => by have h1 := a.len; have h2 := b.len; simp at h1 h2; omega
  | x :: xs, [], vs, a, b => by have h1 := a.len; have h2 := b.len; simp at h1 h2; omega
  | x :: xs, y :: ys, vs, a, b => by
    obtain ⟨v, vs', rfl, a1, a2⟩ := a.uncons
    obtain ⟨v', vs2, e, b1, b2⟩ := b.uncons
    simp only [List.cons.injEq] at e
    obtain ⟨rfl, rfl⟩ := e
    rw [c.uniq _ _ H x y _ a1 b1, map_uniq c xs ys _ a2 b2]
theorem map_inj {α : Type} (c : C1 α) : ∀ (xs ys : List α), xs.map c.f = ys.map c.f → xs = ys
  | [], [], _ => rfl
  | [], y :: ys, h => by cases h
  | x :: xs, [], h => by cases h
  | x :: xs, y :: ys, h => by
    simp only [List.map_cons, List.cons.injEq] at h
    rw [c.inj x y h.1, map_inj c xs ys h.2]
theorem list_uniq {el n n' : Nat} {cs cs' : List FV} {Z' : Nat → Prop} {v : Value} (a : FR Z H (.l el n cs) v) (b : FR Z' H (.l el n' cs') v) : n = n' ∧ ∃ vs vs', FRL Z H cs vs ∧ FRL Z' H cs' vs' ∧ (cs.length = cs'.length → vs = vs') := by
  cases a with
  | nil h0 hs =>
    cases b with
    | nil => exact ⟨rfl, [], [], ⟨rfl, fun i x v h => by simp at h⟩, ⟨rfl, fun i x v h => by simp at h⟩, fun _ => rfl⟩
    | l hz hb hn hs' hl hc => exact ⟨rfl, [], _, ⟨rfl, fun i x v h => by simp at h⟩, ⟨(loads_len hl).symm, hc⟩, fun e => by
        have := loads_len hl
        rw [← e] at this
        exact (List.length_eq_zero_iff.1 this).symm⟩
  | l hz hb hn hs hl hc =>
    cases b with
    | nil => exact ⟨rfl, _, [], ⟨(loads_len hl).symm, hc⟩, ⟨rfl, fun i x v h => by simp at h⟩, fun e => by
        have := loads_len hl
        rw [e] at this
        exact List.length_eq_zero_iff.1 this⟩
    | l hz' hb' hn' hs' hl' hc' => exact ⟨rfl, _, _, ⟨(loads_len hl).symm, hc⟩, ⟨(loads_len hl').symm, hc'⟩, fun e => by
        rw [e] at hl
        rw [hl] at hl'
        exact Option.some.inj hl'⟩
def C1.list {α : Type} (el : TypeId) (c : C1 α) : C1 (List α) := ⟨fun xs => .l el xs.length (xs.map c.f), fun xs ys h => map_inj c xs ys (by injection h), fun Z Z' H xs ys v a b => by
  obtain ⟨h1, vs, vs', h2, h3, h4⟩ := list_uniq a b
  have := h4 (by simp [h1])
  subst this
  exact map_uniq c xs ys _ h2 h3⟩
def CN.one {α : Type} (c : C1 α) : CN α := ⟨fun x => [c.f x], 1, fun _ => rfl, fun x y h => c.inj x y (by injection h), fun Z Z' H x y vs a b => by
  obtain ⟨v, vs', rfl, a1, _⟩ := a.uncons
  obtain ⟨v', vs2, e, b1, _⟩ := b.uncons
  simp only [List.cons.injEq] at e
  obtain ⟨rfl, rfl⟩ := e
  exact c.uniq _ _ H x y _ a1 b1⟩
def CN.pair {α β : Type} (a : CN α) (b : CN β) : CN (α × β) := ⟨fun x => a.f x.1 ++ b.f x.2, a.k + b.k, fun x => by simp [a.len, b.len], fun x y h => by
  have := List.append_inj h (by rw [a.len, a.len])
  exact Prod.ext (a.inj _ _ this.1) (b.inj _ _ this.2), fun Z Z' H x y vs h1 h2 => by
  obtain ⟨a1, a2⟩ := h1.split
  obtain ⟨b1, b2⟩ := h2.split
  rw [a.len] at a1 a2 b1 b2
  exact Prod.ext (a.uniq _ _ H _ _ _ a1 b1) (b.uniq _ _ H _ _ _ a2 b2)⟩
def PEn.one {α : Type} (c : C1 α) : PEn α := ⟨fun x => .f (c.f x), fun x y h => c.inj x y (by injection h), fun P Z Z' H x y v a b => by
  cases a with
  | f a => cases b with
    | f b => exact c.uniq _ _ H x y v a b⟩
theorem f_inj : ∀ (l m : List FV), l.map PV.f = m.map PV.f → l = m
  | [], [], _ => rfl
  | [], y :: m, h => by cases h
  | x :: l, [], h => by cases h
  | x :: l, y :: m, h => by
    simp only [List.map_cons, List.cons.injEq, PV.f.injEq] at h
    rw [h.1, f_inj l m h.2]
theorem vrl_frl {xs : List FV} {vs : List Value} (h : VRL P Z H M (xs.map .f) vs) : FRL Z H xs vs := ⟨by simpa using h.len, fun i x v h1 h2 => by
  have := h.val i (.f x) v (by simp [h1]) h2
  cases this with
  | f h => exact h⟩
def PEn.agg {α : Type} (c : CN α) : PEn α := ⟨fun x => .agg ((c.f x).map .f), fun x y h => c.inj x y (f_inj _ _ (by injection h)), fun P Z Z' H x y v a b => by
  obtain ⟨vs, rfl, h1⟩ := a.aggL
  obtain ⟨vs', e, h2⟩ := b.aggL
  cases e
  exact c.uniq _ _ H x y _ (vrl_frl h1) (vrl_frl h2)⟩

/-! ### Rules -/
section
variable {ds : List (Option Tmp)} {o : Oper} {l : List Oper} {env : List PV} {ph : PHp}
noncomputable def pthen (P : Program) (tab : PTab) (inl : FuncId → Bool) (nm : Nm) (ds : List (Option Tmp)) (o : Oper) (l : List Oper) (env : List PV) (ph : PHp) : PE → PT
  | .fail => .fail
  | .ok v ph' => pchk (needs o.op) (labOf nm o.dst) nm env ph (pops P tab inl nm ds l (pputD env o.dst v) ph')
  | .call g args ph' => .call (subN nm g) g args ph' fun v ph2 => .chk (clean (subN nm g).p env ph2) (pops P tab inl nm ds l (pputD env o.dst v) ph2)
  | .rnd x args ph' => .rnd x args ph' fun v ph2 => pops P tab inl nm ds l (pputD env o.dst v) ph2
noncomputable def pgo (P : Program) (tab : PTab) (inl : FuncId → Bool) (nm : Nm) (ds : List (Option Tmp)) (o : Oper) (l : List Oper) (env : List PV) (ph : PHp) (c : Option Bool) : PT :=
  byWant c (pthen P tab inl nm ds o l env ph (pexec P tab inl (labOf nm o.dst) o env ph)) (pops P tab inl nm ds l (pputD env o.dst (.tup [])) ph) .fail
theorem pops_cons : pops P tab inl nm ds (o :: l) env ph = pgo P tab inl nm ds o l env ph (pwant ds o env) := by
  unfold pops pgo pthen
  cases pexec P tab inl (labOf nm o.dst) o env ph <;> rfl
theorem pgo_true : pgo P tab inl nm ds o l env ph (some true) = pthen P tab inl nm ds o l env ph (pexec P tab inl (labOf nm o.dst) o env ph) := Eq.trans rfl rfl
theorem pgo_false : pgo P tab inl nm ds o l env ph (some false) = pops P tab inl nm ds l (pputD env o.dst (.tup [])) ph := Eq.trans rfl rfl
theorem pthen_ok {v : PV} {ph' : PHp} : pthen P tab inl nm ds o l env ph (.ok v ph') = pchk (needs o.op) (labOf nm o.dst) nm env ph (pops P tab inl nm ds l (pputD env o.dst v) ph') := Eq.trans rfl rfl
theorem pthen_call {g : FuncId} {args : List PV} {ph' : PHp} : pthen P tab inl nm ds o l env ph (.call g args ph') = .call (subN nm g) g args ph' fun v ph2 => .chk (clean (subN nm g).p env ph2) (pops P tab inl nm ds l (pputD env o.dst v) ph2) := Eq.trans rfl rfl
theorem pthen_rnd {x : Nat} {args : List PV} {ph' : PHp} : pthen P tab inl nm ds o l env ph (.rnd x args ph') = .rnd x args ph' fun v ph2 => pops P tab inl nm ds l (pputD env o.dst v) ph2 := Eq.trans rfl rfl
noncomputable def pwantN (w : Bool) : Option PV → Option Bool
  | some v => pwantV w v
  | none => none
theorem pwantT_some {w : Bool} {t : Tmp} : pwantT w env (some t) = pwantN w (nthR env t) := by
  show (match nthR env t with | some v => pwantV w v | none => none) = pwantN w (nthR env t)
  cases nthR env t <;> rfl
theorem pwantN_bool {w b : Bool} : pwantN w (some (fvv (.bool b))) = some (b == w) := rfl
theorem pwantN_und {w : Bool} : pwantN w (some (.tup [])) = some false := rfl
theorem nbeq (n : Nat) : Nat.beq n n = true := by simp
end
/-! Integers -/
section
variable {t t2 : TypeId} {k : IntKind} {a b : Int} {ph : PHp}
theorem pb_int {op : BinOp} {v : Value} (h : intBin op k a b = some v) (hv : ofC v = fvv v) : pbin P op t t2 (fvv (.int k a)) (fvv (.int k b)) ph = some (fvv v) := by
  rw [← hv]
  unfold pbin
  simp only [fvv, pl, isIf, cond_false]
  rw [bin_int h]; rfl
theorem pb_lss : pbin P .lss t t2 (fvv (.int k a)) (fvv (.int k b)) ph = some (fvv (.bool (decide (a < b)))) := pb_int rfl rfl
theorem pb_leq : pbin P .leq t t2 (fvv (.int k a)) (fvv (.int k b)) ph = some (fvv (.bool (decide (a ≤ b)))) := pb_int rfl rfl
theorem pb_gtr : pbin P .gtr t t2 (fvv (.int k a)) (fvv (.int k b)) ph = some (fvv (.bool (decide (b < a)))) := pb_int rfl rfl
theorem pb_geq : pbin P .geq t t2 (fvv (.int k a)) (fvv (.int k b)) ph = some (fvv (.bool (decide (b ≤ a)))) := pb_int rfl rfl
theorem pb_eql : pbin P .eql t t2 (fvv (.int k a)) (fvv (.int k b)) ph = some (fvv (.bool (a == b))) := pb_int rfl rfl
theorem pb_neq : pbin P .neq t t2 (fvv (.int k a)) (fvv (.int k b)) ph = some (fvv (.bool (a != b))) := pb_int rfl rfl
theorem pb_add : pbin P .add t t2 (fvv (.int k a)) (fvv (.int k b)) ph = some (fvv (.int k (k.wrap (a + b)))) := pb_int rfl rfl
theorem pb_sub : pbin P .sub t t2 (fvv (.int k a)) (fvv (.int k b)) ph = some (fvv (.int k (k.wrap (a - b)))) := pb_int rfl rfl
theorem pb_mul : pbin P .mul t t2 (fvv (.int k a)) (fvv (.int k b)) ph = some (fvv (.int k (k.wrap (a * b)))) := pb_int rfl rfl
/-- quotients and remainders -/
def quoI (k : IntKind) (a b : Int) : Option Int := if b = 0 then none else some (k.wrap (a.tdiv b))
def remI (a b : Int) : Option Int := if b = 0 then none else some (a.tmod b)
theorem pb_quo {c : Int} (h : quoI k a b = some c) : pbin P .quo t t2 (fvv (.int k a)) (fvv (.int k b)) ph = some (fvv (.int k c)) := by
  unfold quoI at h
  split at h
  · cases h
  · rename_i hb
    cases h
    exact pb_int (v := .int k (k.wrap (a.tdiv b))) (by unfold intBin; simp only [if_neg hb]) rfl
theorem pb_rem {c : Int} (h : remI a b = some c) : pbin P .rem t t2 (fvv (.int k a)) (fvv (.int k b)) ph = some (fvv (.int k c)) := by
  unfold remI at h
  split at h
  · cases h
  · rename_i hb
    cases h
    exact pb_int (v := .int k (a.tmod b)) (by unfold intBin; simp only [if_neg hb]) rfl
theorem pu_not {x : Bool} : pdry1 P (fun a => .unOp .not t a) (fvv (.bool x)) = some (fvv (.bool !x)) := rfl
end
end Go.Idl
