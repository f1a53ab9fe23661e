/- A symbolic run, part one. Conditions: none. -/
import Derived.Test.YtpdlblofcdcikaaGreatDoorPur19
set_option linter.unusedSimpArgs false
set_option linter.unusedVariables false
namespace Go.Sv
open Go.Idl
/-- the place of the loop whose body an iterator calls -/
class Yl where
  l : Nat
variable {P : Program} {Z Z' : Nat → Prop} {H : IH} {M : Nat → Option (Nat × PO)}

inductive Ty where
  | int (k : IntKind)
  | bool
  | str
  | unit
  | list (el : TypeId) (t : Ty)
  | pair (a b : Ty) deriving DecidableEq
@[reducible] def Ty.sem : Ty → Type
  | .int _ => Int
  | .bool => Bool
  | .str => ByteArray
  | .unit => Unit
  | .list _ t => List t.sem
  | .pair a b => a.sem × b.sem
def Ty.cells : (t : Ty) → t.sem → List FV
  | .int k, x => [.v (.int k x)]
  | .bool, x => [.v (.bool x)]
  | .str, x => [.v (.string x)]
  | .unit, _ => []
  | .list el t, xs => [.l el (List.length xs) (List.flatMap t.cells xs)]
  | .pair a b, x => a.cells x.1 ++ b.cells x.2
def Ty.w : Ty → Nat
  | .int _ | .bool | .str | .list _ _ => 1
  | .unit => 0
  | .pair a b => a.w + b.w
/-- of one cell -/
def Ty.one : Ty → Bool
  | .unit => false
  | .pair _ _ => false
  | _ => true
/-- the cell of a value of one cell -/
def Ty.fv : (t : Ty) → t.sem → FV
  | .int k, x => .v (.int k x)
  | .bool, x => .v (.bool x)
  | .str, x => .v (.string x)
  | .list el t, xs => .l el (List.length xs) (List.flatMap t.cells xs)
  | _, _ => .v undef
theorem Ty.cells_one : ∀ {t : Ty} {x : t.sem}, t.one = true → t.cells x = [t.fv x]
  | .int _, _, _ => rfl
  | .bool, _, _ => rfl
  | .str, _, _ => rfl
  | .list _ _, _, _ => rfl
  | .unit, _, h => by cases h
  | .pair _ _, _, h => by cases h
theorem Ty.cells_len : ∀ (t : Ty) (x : t.sem), (t.cells x).length = t.w
  | .int _, _ => rfl
  | .bool, _ => rfl
  | .str, _ => rfl
  | .list _ _, _ => rfl
  | .unit, _ => rfl
  | .pair a b, x => by
    show (a.cells x.1 ++ b.cells x.2).length = a.w + b.w
    rw [List.length_append, a.cells_len, b.cells_len]
theorem flat_len {t : Ty} : ∀ (xs : List t.sem), (xs.flatMap t.cells).length = xs.length * t.w
  | [] => by simp
  | x :: xs => by rw [List.flatMap_cons, List.length_append, t.cells_len, flat_len xs, List.length_cons, Nat.succ_mul, Nat.add_comm]
theorem flat_drop {t : Ty} : ∀ (xs : List t.sem) (j : Nat), (xs.flatMap t.cells).drop (j * t.w) = (xs.drop j).flatMap t.cells
  | xs, 0 => by simp
  | [], j + 1 => by simp
  | x :: xs, j + 1 => by
    rw [List.flatMap_cons, List.drop_succ_cons, ← flat_drop xs j, Nat.succ_mul, Nat.add_comm, ← List.drop_drop]
    congr 1
    rw [List.drop_append_of_le_length (by rw [t.cells_len]; exact Nat.le_refl _), List.drop_of_length_le (by rw [t.cells_len]; exact Nat.le_refl _), List.nil_append]
theorem flat_take {t : Ty} : ∀ (xs : List t.sem) (j : Nat), (xs.flatMap t.cells).take (j * t.w) = (xs.take j).flatMap t.cells
  | xs, 0 => by simp
  | [], j + 1 => by simp
  | x :: xs, j + 1 => by
    rw [List.flatMap_cons, List.take_succ_cons, List.flatMap_cons, ← flat_take xs j, Nat.succ_mul, Nat.add_comm, List.take_append, t.cells_len, Nat.add_sub_cancel_left, List.take_of_length_le (by rw [t.cells_len]; omega)]
/-- the cells of one element -/
theorem flat_at {t : Ty} {xs : List t.sem} {j : Nat} {x : t.sem} (h : xs[j]? = some x) : ((xs.flatMap t.cells).drop (j * t.w)).take t.w = t.cells x := by
  rw [flat_drop]
  have hj := (List.getElem?_eq_some_iff.1 h)
  obtain ⟨hl, hx⟩ := hj
  rw [List.drop_eq_getElem_cons hl, hx, List.flatMap_cons, List.take_append_of_le_length (by rw [t.cells_len]; exact Nat.le_refl _), List.take_of_length_le (by rw [t.cells_len]; exact Nat.le_refl _)]
theorem flat_part {t : Ty} {xs : List t.sem} {j : Nat} {x : t.sem} (h : xs[j]? = some x) {off n : Nat} (hn : off + n ≤ t.w) : ((xs.flatMap t.cells).drop (j * t.w + off)).take n = ((t.cells x).drop off).take n := by
  rw [← flat_at h, List.drop_take, List.drop_drop, List.take_take, Nat.min_eq_left (by omega)]
theorem flat_get {t : Ty} {xs : List t.sem} {j : Nat} {x : t.sem} (h : xs[j]? = some x) {off : Nat} (hn : off < t.w) : (xs.flatMap t.cells)[j * t.w + off]? = (t.cells x)[off]? := by
  rw [← flat_at h, List.getElem?_take, if_pos hn, List.getElem?_drop]
theorem flat_lt {t : Ty} {xs : List t.sem} {j : Nat} {x : t.sem} (h : xs[j]? = some x) {off n : Nat} (hn : off + n ≤ t.w) : j * t.w + off + n ≤ (xs.flatMap t.cells).length := by
  have hl := (List.getElem?_eq_some_iff.1 h).1
  rw [flat_len]
  have : (j + 1) * t.w ≤ xs.length * t.w := Nat.mul_le_mul_right _ hl
  rw [Nat.succ_mul] at this
  omega

/-! ### A value is told in one way -/
theorem Ty.inj : ∀ (t : Ty) (x y : t.sem), t.cells x = t.cells y → x = y
  | .int _, x, y, h => by injection h with h; injection h with h; injection h
  | .bool, x, y, h => by injection h with h; injection h with h; injection h
  | .str, x, y, h => by injection h with h; injection h with h; injection h
  | .unit, _, _, _ => rfl
  | .pair a b, x, y, h => by
    have := List.append_inj (show a.cells x.1 ++ b.cells x.2 = a.cells y.1 ++ b.cells y.2 from h) (by rw [a.cells_len, a.cells_len])
    exact Prod.ext (a.inj _ _ this.1) (b.inj _ _ this.2)
  | .list el t, xs, ys, h => by
    injection h with h
    injection h with _ h1 h2
    exact go t xs ys h1 h2
where
  go (t : Ty) : ∀ (xs ys : List t.sem), xs.length = ys.length → xs.flatMap t.cells = ys.flatMap t.cells → xs = ys
  | [], [], _, _ => rfl
  | [], y :: ys, e, h => by cases e
  | x :: xs, [], e, h => by cases e
  | x :: xs, y :: ys, e, h => by
    rw [List.flatMap_cons, List.flatMap_cons] at h
    have := List.append_inj h (by rw [t.cells_len, t.cells_len])
    rw [t.inj x y this.1, go t xs ys (by simpa using e) this.2]
theorem Ty.uniq : ∀ (t : Ty) {x y : t.sem} {vs : List Value}, FRL Z H (t.cells x) vs → FRL Z' H (t.cells y) vs → x = y
  | .int k, x, y, vs, a, b => by
    obtain ⟨v, vs', rfl, a1, _⟩ := a.uncons
    obtain ⟨v', vs2, e, b1, _⟩ := b.uncons
    cases e
    have := (fr_v a1).symm.trans (fr_v b1)
    injection this
  | .bool, x, y, vs, a, b => by
    obtain ⟨v, vs', rfl, a1, _⟩ := a.uncons
    obtain ⟨v', vs2, e, b1, _⟩ := b.uncons
    cases e
    have := (fr_v a1).symm.trans (fr_v b1)
    injection this
  | .str, x, y, vs, a, b => by
    obtain ⟨v, vs', rfl, a1, _⟩ := a.uncons
    obtain ⟨v', vs2, e, b1, _⟩ := b.uncons
    cases e
    have := (fr_v a1).symm.trans (fr_v b1)
    injection this
  | .unit, _, _, _, _, _ => rfl
  | .pair s t, x, y, vs, a, b => by
    obtain ⟨a1, a2⟩ := FRL.split (xs := s.cells x.1) (ys := t.cells x.2) a
    obtain ⟨b1, b2⟩ := FRL.split (xs := s.cells y.1) (ys := t.cells y.2) b
    rw [s.cells_len] at a1 a2 b1 b2
    exact Prod.ext (s.uniq a1 b1) (t.uniq a2 b2)
  | .list el t, xs, ys, vs, a, b => by
    obtain ⟨v, vs', rfl, a1, _⟩ := a.uncons
    obtain ⟨v', vs2, e, b1, _⟩ := b.uncons
    cases e
    obtain ⟨h1, ws, ws', h2, h3, h4⟩ := list_uniq a1 b1
    have := h4 (by rw [flat_len, flat_len, h1])
    subst this
    exact go t xs ys ws h1 h2 h3
where
  go (t : Ty) : ∀ (xs ys : List t.sem) (vs : List Value), xs.length = ys.length → FRL Z H (xs.flatMap t.cells) vs → FRL Z' H (ys.flatMap t.cells) vs → xs = ys
  | [], [], _, _, _, _ => rfl
  | [], y :: ys, vs, e, a, b => by cases e
  | x :: xs, [], vs, e, a, b => by cases e
  | x :: xs, y :: ys, vs, e, a, b => by
    rw [List.flatMap_cons] at a b
    obtain ⟨a1, a2⟩ := a.split
    obtain ⟨b1, b2⟩ := b.split
    rw [t.cells_len] at a1 a2 b1 b2
    rw [t.uniq a1 b1, go t xs ys _ (by simpa using e) a2 b2]
/-- a value as a parameter or a result -/
def Ty.pv (t : Ty) (x : t.sem) : PV := cond t.one (.f (t.fv x)) (.agg ((t.cells x).map .f))
def Ty.en (t : Ty) : PEn t.sem := ⟨t.pv, fun x y h => by
    unfold Ty.pv at h
    cases ht : t.one with
    | true =>
      rw [ht] at h
      injection h with h
      exact t.inj x y (by rw [Ty.cells_one ht, Ty.cells_one ht, h])
    | false =>
      rw [ht] at h
      injection h with h
      exact t.inj x y (f_inj _ _ h), fun P Z Z' H x y v a b => by
    unfold Ty.pv at a b
    cases ht : t.one with
    | true =>
      rw [ht] at a b
      cases a with
      | f a => cases b with
        | f b => exact t.uniq (vs := [v]) (by rw [Ty.cells_one ht]; exact .cons a ⟨rfl, fun i x v h => by simp at h⟩) (by rw [Ty.cells_one ht]; exact .cons b ⟨rfl, fun i x v h => by simp at h⟩)
    | false =>
      rw [ht] at a b
      obtain ⟨vs, rfl, h1⟩ := VR.aggL a
      obtain ⟨vs', e, h2⟩ := VR.aggL b
      cases e
      exact t.uniq (vrl_frl h1) (vrl_frl h2)⟩
/-- the values of parameters -/
@[reducible] def TyL : List Ty → Type
  | [] => Unit
  | [t] => t.sem
  | t :: u :: ts => t.sem × TyL (u :: ts)
def pvL : (ts : List Ty) → TyL ts → List PV
  | [], _ => []
  | [t], x => [t.pv x]
  | t :: u :: ts, x => t.pv x.1 :: pvL (u :: ts) x.2
theorem pvL_inj : ∀ (ts : List Ty) (x y : TyL ts), pvL ts x = pvL ts y → x = y
  | [], _, _, _ => rfl
  | [t], x, y, h => by injection h with h; exact t.en.inj x y h
  | t :: u :: ts, x, y, h => by
    injection h with h1 h2
    exact Prod.ext (t.en.inj _ _ h1) (pvL_inj (u :: ts) _ _ h2)
theorem pvL_uniq : ∀ (ts : List Ty) (x y : TyL ts) (vs : List Value), VRL P Z H (fun _ => none) (pvL ts x) vs → VRL P Z' H (fun _ => none) (pvL ts y) vs → x = y
  | [], _, _, _, _, _ => rfl
  | [t], x, y, vs, a, b => by
    obtain ⟨v, vs', rfl, a1, _⟩ := a.uncons
    obtain ⟨v', vs2, e, b1, _⟩ := b.uncons
    cases e
    exact t.en.uniq P Z Z' H x y v a1 b1
  | t :: u :: ts, x, y, vs, a, b => by
    obtain ⟨v, vs', rfl, a1, a2⟩ := a.uncons
    obtain ⟨v', vs2, e, b1, b2⟩ := b.uncons
    cases e
    exact Prod.ext (t.en.uniq P Z Z' H _ _ v a1 b1) (pvL_uniq (u :: ts) _ _ _ a2 b2)
def enL (ts : List Ty) : AEn (TyL ts) := ⟨pvL ts, pvL_inj ts, fun P Z Z' H x y vs a b => pvL_uniq ts x y vs a b⟩
/-- a result: of several values a tuple -/
def resPV : (ts : List Ty) → TyL ts → PV := fun ts x => pone1 (pvL ts x)
end Go.Sv

namespace Go.Sv
open Go.Idl
variable {P : Program}

/-! ### Trees -/
/-- what a run comes to: a result, or nothing -/
def Tree (R : Type) : Type := Option R
section
variable {R α σ ρ : Type}
def Tree.run (t : Tree R) : Option R := t
def Tree.fail : Tree R := (none : Option R)
def Tree.ret (r : R) : Tree R := some r
def Tree.ite (b : Bool) (x y : Tree R) : Tree R := cond b x y
noncomputable def Tree.bind (o : Option α) (k : α → Tree R) : Tree R := Option.rec Tree.fail k o
noncomputable def Tree.loop (f : σ → Tree (σ ⊕ ρ)) (s : σ) (k : ρ → Tree R) : Tree R := Tree.bind (loopC (fun s => (f s).run) s) k
end
theorem run_ite {R : Type} {b : Bool} {x y : Tree R} {r : R} (h : (Tree.ite b x y).run = some r) : (b = true ∧ x.run = some r) ∨ (b = false ∧ y.run = some r) := by
  cases b with
  | true => exact .inl ⟨rfl, h⟩
  | false => exact .inr ⟨rfl, h⟩
theorem run_bind {R α : Type} {o : Option α} {k : α → Tree R} {r : R} (h : (Tree.bind o k).run = some r) : ∃ a, o = some a ∧ (k a).run = some r := by
  cases o with
  | none => cases h
  | some a => exact ⟨a, rfl, h⟩
theorem run_loop {R σ ρ : Type} {f : σ → Tree (σ ⊕ ρ)} {s : σ} {k : ρ → Tree R} {r : R} (h : (Tree.loop f s k).run = some r) : ∃ a, loopC (fun s => (f s).run) s = some a ∧ (k a).run = some r := run_bind h
theorem run_cond {R : Type} {b : Bool} {x : Tree R} {r : R} (h : (cond b x .fail).run = some r) : b = true ∧ x.run = some r := by
  cases b with
  | true => exact ⟨rfl, h⟩
  | false => cases h

/-! ### Values -/
inductive SV where
  | d (t : Ty) (x : t.sem)
  | c (v : Value)
  | agg (l : List SV)
  | tup (l : List SV)
  | own (k g n : Nat)
  | sl (k g n o m : Nat)
  | ref (k off w : Nat)
  | elt (k g n w j off : Nat)
  | lp (t : Ty) (xs : List t.sem) (j off : Nat)
  | fn (f : FuncId) (first cap : List SV)
  | unk
  | yv
section
variable [Yl]
mutual
def SV.enc : SV → PV
  | .d t x => .f (t.fv x)
  | .c v => fvv v
  | .agg l => .agg (encL l)
  | .tup l => .tup (encL l)
  | .own k _ n => .own k n 0 n
  | .sl k _ n o m => .own k n o m
  | .ref k off w => .ref k w off
  | .elt k _ n w j off => .ref k (n * w) (j * w + off)
  | .lp t xs j off => .lp (List.flatMap t.cells xs) (j * t.w + off)
  | .fn f a b => .fn f (encL a) (encL b)
  | .unk => .unk
  | .yv => .yl Yl.l
def encL : List SV → List PV
  | [] => []
  | x :: l => x.enc :: encL l
end
theorem encL_map : ∀ (l : List SV), encL l = l.map SV.enc
  | [] => by simp [encL]
  | x :: l => by simp [encL, encL_map l]
end
inductive SO where
  | cells (el : TypeId) (w : Nat) (l : List SV)
  | list (el : TypeId) (gr : Bool) (g w : Nat) (t : Ty) (xs : List t.sem)
section
variable [Yl]
def SO.enc : SO → PO
  | .cells el _ l => ⟨el, false, encL l⟩
  | .list el gr _ _ t xs => ⟨el, gr, (List.flatMap t.cells xs).map .f⟩
def SO.w : SO → Nat
  | .cells _ w _ => w
  | .list _ _ _ w _ _ => w
structure SH where
  next : Nat
  l : List (Nat × SO)
def slk (k : Nat) : List (Nat × SO) → Option SO
  | [] => none
  | (j, o) :: l => cond (k == j) (some o) (slk k l)
def sst (k : Nat) (o : SO) : List (Nat × SO) → List (Nat × SO)
  | [] => []
  | (j, p) :: l => cond (k == j) ((j, o) :: l) ((j, p) :: sst k o l)
def sdl (k : Nat) : List (Nat × SO) → List (Nat × SO)
  | [] => []
  | (j, p) :: l => cond (k == j) (sdl k l) ((j, p) :: sdl k l)
def ench : List (Nat × SO) → PHp
  | [] => []
  | (j, o) :: l => (j, o.enc) :: ench l
theorem ench_look (k : Nat) : ∀ (l : List (Nat × SO)), plook k (ench l) = (slk k l).map SO.enc
  | [] => rfl
  | (j, o) :: l => by
    show cond (k == j) (some o.enc) (plook k (ench l)) = (cond (k == j) (some o) (slk k l)).map SO.enc
    cases k == j
    · exact ench_look k l
    · rfl
theorem ench_set (k : Nat) (o : SO) : ∀ (l : List (Nat × SO)), ench (sst k o l) = pset k o.enc (ench l)
  | [] => rfl
  | (j, p) :: l => by
    show ench (cond (k == j) ((j, o) :: l) ((j, p) :: sst k o l)) = cond (k == j) ((j, o.enc) :: ench l) ((j, p.enc) :: pset k o.enc (ench l))
    cases k == j
    · show (j, p.enc) :: ench (sst k o l) = _
      rw [ench_set k o l]; rfl
    · rfl
theorem ench_del (k : Nat) : ∀ (l : List (Nat × SO)), ench (sdl k l) = pdel k (ench l)
  | [] => rfl
  | (j, p) :: l => by
    show ench (cond (k == j) (sdl k l) ((j, p) :: sdl k l)) = cond (k == j) (pdel k (ench l)) ((j, p.enc) :: pdel k (ench l))
    cases k == j
    · show (j, p.enc) :: ench (sdl k l) = _
      rw [ench_del k l]; rfl
    · exact ench_del k l
end
theorem slk_set_ne {k j : Nat} {o : SO} (hj : j ≠ k) : ∀ (l : List (Nat × SO)), slk j (sst k o l) = slk j l
  | [] => rfl
  | (i, p) :: l => by
    show slk j (cond (k == i) ((i, o) :: l) ((i, p) :: sst k o l)) = cond (j == i) (some p) (slk j l)
    cases h : k == i with
    | true =>
      have : k = i := by simpa using h
      subst this
      show cond (j == k) (some o) (slk j l) = _
      rw [show (j == k) = false by simpa using hj]; rfl
    | false =>
      show cond (j == i) (some p) (slk j (sst k o l)) = _
      rw [slk_set_ne hj l]
theorem slk_set {k : Nat} {o p : SO} : ∀ {l : List (Nat × SO)}, slk k l = some p → slk k (sst k o l) = some o
  | (i, q) :: l, h => by
    have h : cond (k == i) (some q) (slk k l) = some p := h
    show slk k (cond (k == i) ((i, o) :: l) ((i, q) :: sst k o l)) = some o
    cases hi : k == i with
    | true =>
      show cond (k == i) (some o) (slk k l) = some o
      rw [hi]; rfl
    | false =>
      rw [hi] at h
      show cond (k == i) (some q) (slk k (sst k o l)) = some o
      rw [hi]; exact slk_set (l := l) h
theorem slk_del_ne {k j : Nat} (hj : j ≠ k) : ∀ (l : List (Nat × SO)), slk j (sdl k l) = slk j l
  | [] => rfl
  | (i, p) :: l => by
    show slk j (cond (k == i) (sdl k l) ((i, p) :: sdl k l)) = cond (j == i) (some p) (slk j l)
    cases h : k == i with
    | true =>
      have : k = i := by simpa using h
      subst this
      rw [show (j == k) = false by simpa using hj]
      exact slk_del_ne hj l
    | false =>
      show cond (j == i) (some p) (slk j (sdl k l)) = _
      rw [slk_del_ne hj l]
theorem slk_del (k : Nat) : ∀ (l : List (Nat × SO)), slk k (sdl k l) = none
  | [] => rfl
  | (i, p) :: l => by
    show slk k (cond (k == i) (sdl k l) ((i, p) :: sdl k l)) = none
    cases h : k == i with
    | true => exact slk_del k l
    | false =>
      show cond (k == i) (some p) (slk k (sdl k l)) = none
      rw [h]; exact slk_del k l
theorem slk_cons_ne {k j : Nat} {o : SO} {l : List (Nat × SO)} (hj : j ≠ k) : slk j ((k, o) :: l) = slk j l := by
  show cond (j == k) (some o) (slk j l) = _
  rw [show (j == k) = false by simpa using hj]; rfl
theorem slk_cons {k : Nat} {o : SO} {l : List (Nat × SO)} : slk k ((k, o) :: l) = some o := by
  show cond (k == k) (some o) (slk k l) = _
  simp

/-! ### What holds of values -/
def SlOk (h : SH) (k g n : Nat) : Prop := g < h.next ∧ ∀ el gr w t xs, slk k h.l = some (.list el gr g w t xs) → n = xs.length
mutual
def SV.ok (h : SH) : SV → Prop
  | .agg l => okL h l
  | .tup l => okL h l
  | .own k g n => SlOk h k g n
  | .sl k g n o m => SlOk h k g n ∧ o + m ≤ n
  | .elt k g n _ _ _ => SlOk h k g n
  | .fn _ a b => okL h a ∧ okL h b
  | _ => True
def okL (h : SH) : List SV → Prop
  | [] => True
  | x :: l => x.ok h ∧ okL h l
end
theorem okL_iff {h : SH} : ∀ {l : List SV}, okL h l ↔ ∀ x ∈ l, x.ok h
  | [] => by simp [okL]
  | x :: l => by simp [okL, okL_iff (l := l)]
/-- the heap: versions are old, elements have their size -/
structure OkH (P : Program) (h : SH) : Prop where
  ver : ∀ k ob, slk k h.l = some ob → ob.w < h.next
  cells : ∀ k el w l, slk k h.l = some (.cells el w l) → okL h l
  list : ∀ k el gr g w t xs, slk k h.l = some (.list el gr g w t xs) → g < h.next ∧ szT P el = some t.w ∧ 0 < t.w
/-- what was not written is as it was -/
structure Keep (h h' : SH) : Prop where
  next : h.next ≤ h'.next
  same : ∀ k ob, slk k h'.l = some ob → ob.w < h.next → slk k h.l = some ob
  len : ∀ k el gr g w t xs, slk k h'.l = some (.list el gr g w t xs) → g < h.next → ∃ w0, ∃ xs0 : List t.sem, slk k h.l = some (.list el gr g w0 t xs0) ∧ xs0.length = xs.length
theorem Keep.refl (h : SH) : Keep h h := ⟨Nat.le_refl _, fun _ _ h _ => h, fun k el gr g w t xs h _ => ⟨w, xs, h, rfl⟩⟩
theorem Keep.trans {a b c : SH} (x : Keep a b) (y : Keep b c) : Keep a c :=
  ⟨Nat.le_trans x.next y.next, fun k ob h hw => x.same k ob (y.same k ob h (Nat.lt_of_lt_of_le hw x.next)) hw, fun k el gr g w t xs h hg => by
    obtain ⟨w1, xs1, h1, e1⟩ := y.len k el gr g w t xs h (Nat.lt_of_lt_of_le hg x.next)
    obtain ⟨w2, xs2, h2, e2⟩ := x.len k el gr g w1 t xs1 h1 hg
    exact ⟨w2, xs2, h2, e2.trans e1⟩⟩
theorem SlOk.keep {h h' : SH} {k g n : Nat} (a : SlOk h k g n) (b : Keep h h') : SlOk h' k g n :=
  ⟨Nat.lt_of_lt_of_le a.1 b.next, fun el gr w t xs hk => by
    obtain ⟨w0, xs0, h0, e0⟩ := b.len k el gr g w t xs hk a.1
    rw [← e0]; exact a.2 el gr w0 t xs0 h0⟩
mutual
theorem SV.ok.keep {h h' : SH} (b : Keep h h') : ∀ {x : SV}, x.ok h → x.ok h'
  | .agg l, a => by simp only [SV.ok] at a ⊢; exact okL_keep b a
  | .tup l, a => by simp only [SV.ok] at a ⊢; exact okL_keep b a
  | .own k g n, a => by simp only [SV.ok] at a ⊢; exact a.keep b
  | .sl k g n o m, a => by simp only [SV.ok] at a ⊢; exact ⟨a.1.keep b, a.2⟩
  | .elt k g n w j off, a => by simp only [SV.ok] at a ⊢; exact a.keep b
  | .fn f x y, a => by simp only [SV.ok] at a ⊢; exact ⟨okL_keep b a.1, okL_keep b a.2⟩
  | .d _ _, _ => by simp [SV.ok]
  | .c _, _ => by simp [SV.ok]
  | .ref _ _ _, _ => by simp [SV.ok]
  | .lp _ _ _ _, _ => by simp [SV.ok]
  | .unk, _ => by simp [SV.ok]
  | .yv, _ => by simp [SV.ok]
theorem okL_keep {h h' : SH} (b : Keep h h') : ∀ {l : List SV}, okL h l → okL h' l
  | [], _ => by simp [okL]
  | x :: l, a => by simp only [okL] at a ⊢; exact ⟨SV.ok.keep b a.1, okL_keep b a.2⟩
end

/-! ### Changes of the heap -/
/-- a new object -/
def SH.new (h : SH) (k : Nat) (f : Nat → SO) : SH := ⟨h.next + 1, (k, f h.next) :: h.l⟩
/-- an object written -/
def SH.put (h : SH) (k : Nat) (f : Nat → SO) : SH := ⟨h.next + 1, sst k (f h.next) h.l⟩
/-- an object is gone -/
def SH.del (h : SH) (k : Nat) : SH := ⟨h.next, sdl k h.l⟩
/-- what an object must be to be new at a version -/
def NewOk (P : Program) (h : SH) (n : Nat) : SO → Prop
  | .cells _ w l => w = n ∧ okL h l
  | .list el _ g w t _ => w = n ∧ g = n ∧ szT P el = some t.w ∧ 0 < t.w
theorem keep_new {h : SH} {k : Nat} {f : Nat → SO} (hw : (f h.next).w = h.next) (hg : ∀ el gr g w t xs, f h.next = .list el gr g w t xs → g = h.next) : Keep h (h.new k f) :=
  ⟨Nat.le_succ _, fun j ob hj hlt => by
    by_cases e : j = k
    · subst e; rw [show slk j (h.new j f).l = some (f h.next) from slk_cons] at hj
      cases hj; omega
    · rwa [show slk j (h.new k f).l = slk j h.l from slk_cons_ne e] at hj, fun j el gr g w t xs hj hlt => by
    by_cases e : j = k
    · subst e; rw [show slk j (h.new j f).l = some (f h.next) from slk_cons] at hj
      have := hg _ _ _ _ _ _ (Option.some.inj hj)
      omega
    · rw [show slk j (h.new k f).l = slk j h.l from slk_cons_ne e] at hj
      exact ⟨w, xs, hj, rfl⟩⟩
theorem okH_new {h : SH} {k : Nat} {f : Nat → SO} (a : OkH P h) (hf : NewOk P h h.next (f h.next)) : Keep h (h.new k f) ∧ OkH P (h.new k f) := by
  have hw : (f h.next).w = h.next := by
    cases hq : f h.next with
    | cells el w l => rw [hq] at hf; exact hf.1
    | list el gr g w t xs => rw [hq] at hf; exact hf.1
  have hk : Keep h (h.new k f) := keep_new hw fun el gr g w t xs e => by rw [e] at hf; exact hf.2.1
  refine ⟨hk, ⟨fun j ob hj => ?_, fun j el w l hj => ?_, fun j el gr g w t xs hj => ?_⟩⟩
  · by_cases e : j = k
    · subst e; rw [show slk j (h.new j f).l = some (f h.next) from slk_cons] at hj
      cases hj; rw [hw]; exact Nat.lt_succ_self _
    · rw [show slk j (h.new k f).l = slk j h.l from slk_cons_ne e] at hj
      exact Nat.lt_succ_of_lt (a.ver j ob hj)
  · by_cases e : j = k
    · subst e; rw [show slk j (h.new j f).l = some (f h.next) from slk_cons] at hj
      rw [Option.some.inj hj] at hf
      exact okL_keep hk hf.2
    · rw [show slk j (h.new k f).l = slk j h.l from slk_cons_ne e] at hj
      exact okL_keep hk (a.cells j el w l hj)
  · by_cases e : j = k
    · subst e; rw [show slk j (h.new j f).l = some (f h.next) from slk_cons] at hj
      rw [Option.some.inj hj] at hf
      exact ⟨by rw [hf.2.1]; exact Nat.lt_succ_self _, hf.2.2⟩
    · rw [show slk j (h.new k f).l = slk j h.l from slk_cons_ne e] at hj
      have := a.list j el gr g w t xs hj
      exact ⟨Nat.lt_succ_of_lt this.1, this.2⟩
/-- a write: cells in place of cells, or as many elements as there were -/
def PutOk (h : SH) (n : Nat) : SO → SO → Prop
  | .cells _ _ _, .cells _ w' l' => w' = n ∧ okL h l'
  | .list el gr g _ t xs, ob' => ∃ xs' : List t.sem, ob' = .list el gr g n t xs' ∧ xs.length = xs'.length
  | _, _ => False
theorem okH_put {h : SH} {k : Nat} {f : Nat → SO} {ob : SO} (a : OkH P h) (hk : slk k h.l = some ob) (hf : PutOk h h.next ob (f h.next)) : Keep h (h.put k f) ∧ OkH P (h.put k f) := by
  have hs : slk k (h.put k f).l = some (f h.next) := slk_set hk
  have hn : ∀ j, j ≠ k → slk j (h.put k f).l = slk j h.l := fun j hj => slk_set_ne hj _
  have hw : (f h.next).w = h.next := by
    cases ob with
    | cells el w l =>
      cases hq : f h.next with
      | cells el' w' l' => rw [hq] at hf; exact hf.1
      | list => rw [hq] at hf; exact hf.elim
    | list el gr g w t xs =>
      obtain ⟨xs', e, _⟩ := hf
      rw [e]; rfl
  have hkp : Keep h (h.put k f) := by
    refine ⟨Nat.le_succ _, fun j o hj hlt => ?_, fun j el gr g w t xs hj hlt => ?_⟩
    · by_cases e : j = k
      · subst e; rw [hs] at hj; cases hj; omega
      · rwa [hn j e] at hj
    · by_cases e : j = k
      · subst e
        rw [hs] at hj
        have hj := Option.some.inj hj
        cases ob with
        | cells el0 w0 l0 =>
          rw [hj] at hf
          exact hf.elim
        | list el0 gr0 g0 w0 t0 xs0 =>
          obtain ⟨xs', e2, e3⟩ := hf
          rw [e2] at hj
          injection hj with a1 a2 a3 a4 a5 a6
          subst a1 a2 a3 a5
          cases a6
          exact ⟨w0, xs0, hk, e3⟩
      · rw [hn j e] at hj; exact ⟨w, xs, hj, rfl⟩
  refine ⟨hkp, ⟨fun j o hj => ?_, fun j el w l hj => ?_, fun j el gr g w t xs hj => ?_⟩⟩
  · by_cases e : j = k
    · subst e; rw [hs] at hj; cases hj; rw [hw]; exact Nat.lt_succ_self _
    · rw [hn j e] at hj; exact Nat.lt_succ_of_lt (a.ver j o hj)
  · by_cases e : j = k
    · subst e
      rw [hs] at hj
      have hj := Option.some.inj hj
      cases ob with
      | cells el0 w0 l0 => rw [hj] at hf; exact okL_keep hkp hf.2
      | list el0 gr0 g0 w0 t0 xs0 =>
        obtain ⟨xs', e2, e3⟩ := hf
        rw [e2] at hj; cases hj
    · rw [hn j e] at hj; exact okL_keep hkp (a.cells j el w l hj)
  · by_cases e : j = k
    · subst e
      rw [hs] at hj
      have hj := Option.some.inj hj
      cases ob with
      | cells el0 w0 l0 => rw [hj] at hf; exact hf.elim
      | list el0 gr0 g0 w0 t0 xs0 =>
        obtain ⟨xs', e2, e3⟩ := hf
        rw [e2] at hj
        injection hj with a1 a2 a3 a4 a5 a6
        subst a1 a2 a3 a5
        have := a.list j _ _ _ _ _ _ hk
        exact ⟨Nat.lt_succ_of_lt this.1, this.2⟩
    · rw [hn j e] at hj
      have := a.list j el gr g w t xs hj
      exact ⟨Nat.lt_succ_of_lt this.1, this.2⟩
theorem okH_del {h : SH} {k : Nat} (a : OkH P h) : Keep h (h.del k) ∧ OkH P (h.del k) := by
  have hl : ∀ j ob, slk j (h.del k).l = some ob → slk j h.l = some ob := fun j ob hj => by
    by_cases e : j = k
    · subst e; rw [show slk j (h.del j).l = none from slk_del j _] at hj; cases hj
    · rwa [show slk j (h.del k).l = slk j h.l from slk_del_ne e _] at hj
  have hkp : Keep h (h.del k) := ⟨Nat.le_refl _, fun j ob hj _ => hl j ob hj, fun j el gr g w t xs hj _ => ⟨w, xs, hl _ _ hj, rfl⟩⟩
  exact ⟨hkp, ⟨fun j ob hj => a.ver j ob (hl j ob hj), fun j el w l hj => okL_keep hkp (a.cells j el w l (hl _ _ hj)), fun j el gr g w t xs hj => a.list j el gr g w t xs (hl _ _ hj)⟩⟩
/-! ### An iterator's state beside the own one -/
def GV (Γ : Option Type) : Type := match Γ with
  | none => Unit
  | some γ => γ
def GS (Γ : Option Type) (S : Type) : Type := match Γ with
  | none => S
  | some γ => γ × S
def gj : {Γ : Option Type} → {S : Type} → GV Γ → S → GS Γ S
  | none, _, _, s => s
  | some _, _, g, s => (g, s)
def g1 : {Γ : Option Type} → {S : Type} → GS Γ S → GV Γ
  | none, _, _ => ()
  | some _, _, p => p.1
def g2 : {Γ : Option Type} → {S : Type} → GS Γ S → S
  | none, _, s => s
  | some _, _, p => p.2
theorem g1_j {Γ : Option Type} {S : Type} {g : GV Γ} {s : S} : g1 (gj g s) = g := by cases Γ <;> rfl
theorem g2_j {Γ : Option Type} {S : Type} {g : GV Γ} {s : S} : g2 (gj g s) = s := by cases Γ <;> rfl
/-! ### What is told by hand, and what is told of functions -/
structure Ent where
  as : List Ty
  rs : List Ty
  F : TyL as → Option (TyL rs)
abbrev STab := List (FuncId × Ent)
def slT (g : FuncId) : STab → Option Ent
  | [] => none
  | (k, e) :: l => cond (Nat.beq g k) (some e) (slT g l)
/-- which slots bear data, which objects are turned, which slots bear a whole object; nil slices that grow; further exits; boxes whose cells are data, or bear a whole object; nil slices in boxes that grow -/
structure Sh where
  d : List Nat
  o : List Nat
  s : List (Nat × Nat)
  v : List (Nat × TypeId)
  ex : List Nat
  b : List (Nat × List (Option Nat)) := []
  bv : List (Nat × Nat × TypeId × Nat) := []
/-- what is told by hand: slots that are told anew ahead of a region; the states of loops; of ranges over functions -/
structure An where
  fz : List (Nat × List (Nat × TypeId))
  lp : List (Nat × Sh)
  rg : List (Nat × Sh) := []
def lkA {α : Type} (i : Nat) : List (Nat × α) → Option α
  | [] => none
  | (j, x) :: l => cond (Nat.beq i j) (some x) (lkA i l)
/-- an iterator: what it is given, what it yields -/
structure IEnt where
  as : List Ty
  ys : List Ty
  yt : List TypeId
  F : TyL as → (γ : Type) → (γ → TyL ys → Option (γ × Bool)) → γ → Option γ
def slI (g : FuncId) : List (FuncId × IEnt) → Option IEnt
  | [] => none
  | (k, e) :: l => cond (Nat.beq g k) (some e) (slI g l)
/-- what a yield does -/
structure YI (Γ : Type) where
  ys : List Ty
  yt : List TypeId
  stp : Γ → TyL ys → Option (Γ × Bool)
def yi0 : YI Unit := ⟨[], [], fun _ _ => none⟩
/-- calls that are run where they stand -/
abbrev CIT : Type 1 := (R : Type) → Nm → FuncId → List SV → SH → (SV → SH → Tree R) → Tree R
end Go.Sv

namespace Go.Sv
open Go.Idl
noncomputable section
variable [Yl]
variable {P : Program} {h : SH} {R : Type} {r : R}

/-! ### Operands -/
def sofC : Value → SV
  | .agg cs => cond (allR okC cs.toList) (.agg (mapR .c cs.toList)) .unk
  | .tuple cs => cond (allR okC cs.toList) (.tup (mapR .c cs.toList)) .unk
  | v => cond (okC v) (.c v) .unk
def sval (env : List SV) : Operand → SV
  | .tmp t => (nthR env t).getD .unk
  | .const v => sofC v
  | .global _ => .unk
  | .func g => .c (.func (.func g) #[] #[])
theorem encC : ∀ (l : List Value), encL (mapR .c l) = mapR fvv l
  | [] => by simp [mapR, encL]
  | v :: l => by
    show encL (.c v :: mapR .c l) = fvv v :: mapR fvv l
    simp [encL, encC l, SV.enc]
omit [Yl] in
theorem okC' : ∀ (l : List Value), okL h (mapR .c l)
  | [] => by simp [mapR, okL]
  | v :: l => by
    show okL h (.c v :: mapR .c l)
    simp [okL, okC' l, SV.ok]
theorem sofC_enc (v : Value) : ofC v = (sofC v).enc := by
  cases v with
  | agg cs =>
    show cond _ _ _ = (cond (allR okC cs.toList) (SV.agg (mapR .c cs.toList)) SV.unk).enc
    cases allR okC cs.toList
    · simp [SV.enc]
    · simp [SV.enc, encC]
  | tuple cs =>
    show cond _ _ _ = (cond (allR okC cs.toList) (SV.tup (mapR .c cs.toList)) SV.unk).enc
    cases allR okC cs.toList
    · simp [SV.enc]
    · simp [SV.enc, encC]
  | _ =>
    simp only [ofC, ofC1, sofC]
    cases okC _ <;> simp [SV.enc]
omit [Yl] in
theorem sofC_ok (v : Value) : (sofC v).ok h := by
  cases v with
  | agg cs =>
    show (cond (allR okC cs.toList) (.agg (mapR .c cs.toList)) .unk : SV).ok h
    cases allR okC cs.toList
    · simp [SV.ok]
    · simp [SV.ok, okC']
  | tuple cs =>
    show (cond (allR okC cs.toList) (.tup (mapR .c cs.toList)) .unk : SV).ok h
    cases allR okC cs.toList
    · simp [SV.ok]
    · simp [SV.ok, okC']
  | _ =>
    simp only [sofC]
    cases okC _ <;> simp [SV.ok]
theorem nth_enc (env : List SV) (t : Nat) : nthR (encL env) t = (nthR env t).map SV.enc := by
  rw [nthR_eq, nthR_eq, encL_map, List.getElem?_map]
omit [Yl] in
theorem okL_nth {env : List SV} {t : Nat} {x : SV} (ho : okL h env) (hx : nthR env t = some x) : x.ok h := by
  rw [nthR_eq] at hx
  exact okL_iff.1 ho x (List.mem_of_getElem? hx)
theorem sval_enc (env : List SV) (x : Operand) : pval (encL env) x = (sval env x).enc := by
  cases x with
  | tmp t =>
    show (nthR (encL env) t).getD .unk = ((nthR env t).getD .unk).enc
    rw [nth_enc]
    cases nthR env t <;> simp [SV.enc]
  | const v => exact sofC_enc v
  | global g => simp [pval, sval, SV.enc]
  | func g => simp [pval, sval, SV.enc]
omit [Yl] in
theorem sval_ok {env : List SV} (ho : okL h env) (x : Operand) : (sval env x).ok h := by
  cases x with
  | tmp t =>
    show ((nthR env t).getD .unk).ok h
    cases hx : nthR env t with
    | none => simp [SV.ok]
    | some y => exact okL_nth ho hx
  | const v => exact sofC_ok v
  | global g => simp [sval, SV.ok]
  | func g => simp [sval, SV.ok]
def asI : SV → Option (IntKind × Int)
  | .d (.int k) x => some (k, x)
  | .c (.int k x) => some (k, x)
  | _ => none
def asB : SV → Option Bool
  | .d .bool x => some x
  | .c (.bool x) => some x
  | _ => none
def asS : SV → Option ByteArray
  | .d .str x => some x
  | .c (.string x) => some x
  | _ => none
theorem asI_enc {v : SV} {k : IntKind} {x : Int} (e : asI v = some (k, x)) : v.enc = fvv (.int k x) := by
  unfold asI at e
  split at e
  · cases e; simp [SV.enc, Ty.fv, fvv]
  · cases e; simp [SV.enc]
  · cases e
theorem asB_enc {v : SV} {x : Bool} (e : asB v = some x) : v.enc = fvv (.bool x) := by
  unfold asB at e
  split at e
  · cases e; simp [SV.enc, Ty.fv, fvv]
  · cases e; simp [SV.enc]
  · cases e
theorem asS_enc {v : SV} {x : ByteArray} (e : asS v = some x) : v.enc = fvv (.string x) := by
  unfold asS at e
  split at e
  · cases e; simp [SV.enc, Ty.fv, fvv]
  · cases e; simp [SV.enc]
  · cases e

/-! ### Data -/
def Ty.svs : (t : Ty) → t.sem → List SV
  | .int k, x => [.d (.int k) x]
  | .bool, x => [.d .bool x]
  | .str, x => [.d .str x]
  | .unit, _ => []
  | .list el t, x => [.d (.list el t) x]
  | .pair a b, x => a.svs x.1 ++ b.svs x.2
theorem encL_app (a b : List SV) : encL (a ++ b) = encL a ++ encL b := by simp [encL_map]
theorem svs_enc : ∀ (t : Ty) (x : t.sem), encL (t.svs x) = (t.cells x).map .f
  | .int k, x => by simp [Ty.svs, Ty.cells, encL, SV.enc, Ty.fv]
  | .bool, x => by simp [Ty.svs, Ty.cells, encL, SV.enc, Ty.fv]
  | .str, x => by simp [Ty.svs, Ty.cells, encL, SV.enc, Ty.fv]
  | .unit, x => by simp [Ty.svs, Ty.cells, encL]
  | .list el t, x => by simp [Ty.svs, Ty.cells, encL, SV.enc, Ty.fv]
  | .pair a b, x => by
    show encL (a.svs x.1 ++ b.svs x.2) = (a.cells x.1 ++ b.cells x.2).map .f
    rw [encL_app, svs_enc a, svs_enc b, List.map_append]
omit [Yl] in
theorem okL_app {a b : List SV} (x : okL h a) (y : okL h b) : okL h (a ++ b) := okL_iff.2 fun z hz => by
  rcases List.mem_append.1 hz with q | q
  · exact okL_iff.1 x z q
  · exact okL_iff.1 y z q
omit [Yl] in
theorem svs_ok : ∀ (t : Ty) (x : t.sem), okL h (t.svs x)
  | .int k, x => by simp [Ty.svs, okL, SV.ok]
  | .bool, x => by simp [Ty.svs, okL, SV.ok]
  | .str, x => by simp [Ty.svs, okL, SV.ok]
  | .unit, x => by simp [Ty.svs, okL]
  | .list el t, x => by simp [Ty.svs, okL, SV.ok]
  | .pair a b, x => okL_app (svs_ok a x.1) (svs_ok b x.2)
/-- data of one cell, told as it is -/
def decI (k : IntKind) (v : SV) : Option Int := match asI v with
  | some (k', x) => cond (decide (k' = k)) (some x) none
  | none => none
def decT (el : TypeId) (t : Ty) : SV → Option (List t.sem)
  | .d (.list el' t') xs => if e : t' = t then cond (Nat.beq el' el) (some (e ▸ xs)) none else none
  | _ => none
def Ty.decS : (t : Ty) → SV → Option t.sem
  | .int k, v => decI k v
  | .bool, v => asB v
  | .str, v => asS v
  | .list el t, v => decT el t v
  | .unit, _ => none
  | .pair _ _, _ => none
theorem decI_enc {k : IntKind} {v : SV} {x : Int} (e : decI k v = some x) : v.enc = fvv (.int k x) := by
  unfold decI at e
  split at e
  · rename_i k' x' hx
    cases hk : decide (k' = k) with
    | false => rw [hk] at e; cases e
    | true =>
      rw [hk] at e
      cases e
      have : k' = k := by simpa using hk
      subst this
      exact asI_enc hx
  · cases e
omit [Yl] in
theorem decT_enc {el : TypeId} {t : Ty} {v : SV} {x : List t.sem} (e : decT el t v = some x) : v = .d (.list el t) x := by
  unfold decT at e
  split at e
  · rename_i el' t' xs
    split at e
    · rename_i ht
      subst ht
      cases hk : Nat.beq el' el with
      | false => rw [hk] at e; cases e
      | true =>
        rw [hk] at e
        cases e
        have : el' = el := Nat.eq_of_beq_eq_true hk
        subst this
        rfl
    · cases e
  · cases e
theorem decS_enc : ∀ {t : Ty} {v : SV} {x : t.sem}, t.decS v = some x → v.enc = .f (t.fv x) ∧ t.one = true
  | .int k, v, x, e => ⟨decI_enc e, rfl⟩
  | .bool, v, x, e => ⟨asB_enc e, rfl⟩
  | .str, v, x, e => ⟨asS_enc e, rfl⟩
  | .list el t, v, x, e => ⟨by rw [decT_enc e]; simp [SV.enc], rfl⟩
  | .unit, v, x, e => by cases e
  | .pair a b, v, x, e => by cases e
def dec1 (t : Ty) : List SV → Option (t.sem × List SV)
  | v :: l => match t.decS v with
    | some x => some (x, l)
    | none => none
  | [] => none
def Ty.decL : (t : Ty) → List SV → Option (t.sem × List SV)
  | .int k, l => dec1 (.int k) l
  | .bool, l => dec1 .bool l
  | .str, l => dec1 .str l
  | .list el t, l => dec1 (.list el t) l
  | .unit, l => some ((), l)
  | .pair a b, l => match a.decL l with
    | some (x, l1) => (match b.decL l1 with
      | some (y, l2) => some ((x, y), l2)
      | none => none)
    | none => none
theorem dec1_enc {t : Ty} {l l' : List SV} {x : t.sem} (e : dec1 t l = some (x, l')) : encL l = (t.cells x).map .f ++ encL l' := by
  cases l with
  | nil => cases e
  | cons v l =>
    unfold dec1 at e
    simp only at e
    split at e
    · rename_i y hy
      cases e
      obtain ⟨h1, h2⟩ := decS_enc hy
      rw [Ty.cells_one h2]
      simp [encL, h1]
    · cases e
theorem decL_enc : ∀ {t : Ty} {l l' : List SV} {x : t.sem}, t.decL l = some (x, l') → encL l = (t.cells x).map .f ++ encL l'
  | .int k, l, l', x, e => dec1_enc e
  | .bool, l, l', x, e => dec1_enc e
  | .str, l, l', x, e => dec1_enc e
  | .list el t, l, l', x, e => dec1_enc e
  | .unit, l, l', x, e => by cases e; simp [Ty.cells]
  | .pair a b, l, l', x, e => by
    unfold Ty.decL at e
    split at e
    · rename_i x1 l1 h1
      split at e
      · rename_i y l2 h2
        cases e
        show encL l = (a.cells x1 ++ b.cells y).map .f ++ encL l'
        rw [decL_enc h1, decL_enc h2, List.map_append, List.append_assoc]
      · cases e
    · cases e
/-- a list of cells, as data -/
def Ty.decA (t : Ty) (l : List SV) : Option t.sem := match t.decL l with
  | some (x, []) => some x
  | _ => none
theorem decA_enc {t : Ty} {l : List SV} {x : t.sem} (e : t.decA l = some x) : encL l = (t.cells x).map .f := by
  unfold Ty.decA at e
  split at e
  · rename_i y hy
    cases e
    rw [decL_enc hy]; simp [encL]
  · cases e

/-! ### Parts -/
def spart (P : Program) (t : TypeId) (l : List SV) (off : Nat) : Option SV := match aggT P t with
  | some true => (match szT P t with
    | some n => cond (Nat.ble (off + n) l.length) (some (.agg ((l.drop off).take n))) none
    | none => none)
  | some false => nthR l off
  | none => none
omit [Yl] in
theorem okL_sub {a b : List SV} (x : okL h a) (hs : ∀ z ∈ b, z ∈ a) : okL h b := okL_iff.2 fun z hz => okL_iff.1 x z (hs z hz)
theorem spart_ok {t : TypeId} {l : List SV} {off : Nat} {v : SV} (e : spart P t l off = some v) : ppart P t (encL l) off = some v.enc ∧ (okL h l → v.ok h) := by
  unfold spart at e
  unfold ppart
  split at e
  · rename_i ha
    rw [ha]
    simp only
    split at e
    · rename_i n hn
      rw [hn]
      simp only
      cases hc : Nat.ble (off + n) l.length with
      | false => rw [hc] at e; cases e
      | true =>
        rw [hc] at e
        cases e
        refine ⟨by rw [encL_map, List.length_map, hc]; simp [SV.enc, encL_map, List.map_drop, List.map_take], fun ho => ?_⟩
        simp only [SV.ok]
        exact okL_sub ho fun z hz => List.mem_of_mem_drop (List.mem_of_mem_take hz)
    · cases e
  · rename_i ha
    rw [ha]
    simp only
    rw [nth_enc, e]
    exact ⟨rfl, fun ho => okL_nth ho e⟩
  · cases e
theorem part_flat {t : TypeId} {t' : Ty} {xs : List t'.sem} {j off : Nat} {x : t'.sem} {v : SV} (hx : xs[j]? = some x) (e : spart P t (t'.svs x) off = some v) :
    ppart P t ((xs.flatMap t'.cells).map .f) (j * t'.w + off) = some v.enc ∧ fpart P t (xs.flatMap t'.cells) (j * t'.w + off) = some v.enc ∧ v.ok h := by
  have h0 := spart_ok (h := h) e
  refine ⟨?_, ?_, h0.2 (svs_ok t' x)⟩
  all_goals
    have h1 := h0.1
    rw [svs_enc] at h1
    unfold ppart at h1
  · unfold ppart
    split at h1
    · rename_i ha
      split at h1
      · rename_i n hn
        cases hc : Nat.ble (off + n) ((t'.cells x).map PV.f).length with
        | false => rw [hc] at h1; cases h1
        | true =>
          rw [hc] at h1
          have hle : off + n ≤ t'.w := by
            have := Nat.le_of_ble_eq_true hc
            rw [List.length_map, t'.cells_len] at this
            exact this
          rw [show Nat.ble (j * t'.w + off + n) ((xs.flatMap t'.cells).map PV.f).length = true from Nat.ble_eq_true_of_le (by rw [List.length_map]; exact flat_lt hx hle)]
          simp only [cond_true] at h1 ⊢
          rw [← h1, ← List.map_drop, ← List.map_take, flat_part hx hle, ← List.map_drop, ← List.map_take]
      · cases h1
    · rename_i ha
      rw [nthR_eq, List.getElem?_map] at h1 ⊢
      have hlt : off < t'.w := by
        rw [← t'.cells_len x]
        cases hq : (t'.cells x)[off]? with
        | none => rw [hq] at h1; cases h1
        | some y => exact (List.getElem?_eq_some_iff.1 hq).1
      rw [Go.Sv.flat_get hx hlt]; exact h1
    · cases h1
  · unfold fpart
    split at h1
    · rename_i ha
      split at h1
      · rename_i n hn
        cases hc : Nat.ble (off + n) ((t'.cells x).map PV.f).length with
        | false => rw [hc] at h1; cases h1
        | true =>
          rw [hc] at h1
          have hle : off + n ≤ t'.w := by
            have := Nat.le_of_ble_eq_true hc
            rw [List.length_map, t'.cells_len] at this
            exact this
          rw [show Nat.ble (j * t'.w + off + n) (xs.flatMap t'.cells).length = true from Nat.ble_eq_true_of_le (flat_lt hx hle)]
          simp only [cond_true] at h1 ⊢
          rw [← h1, flat_part hx hle, ← List.map_drop, ← List.map_take]
      · cases h1
    · rename_i ha
      rw [nthR_eq, List.getElem?_map] at h1
      cases hq : (t'.cells x)[off]? with
      | none => rw [hq] at h1; cases h1
      | some y =>
        rw [hq] at h1
        have hlt : off < t'.w := by
          rw [← t'.cells_len x]
          exact (List.getElem?_eq_some_iff.1 hq).1
        rw [Go.Sv.flat_get hx hlt, hq]
        exact h1
    · cases h1

/-! ### Reading -/
def sload (P : Program) (t : TypeId) (a : SV) (h : SH) (K : SV → Tree R) : Tree R := match a with
  | .ref k off w => (match slk k h.l with
    | some (.cells _ _ l) => (match spart P t l off with
      | some v => cond (Nat.beq w l.length) (K v) .fail
      | none => .fail)
    | _ => .fail)
  | .elt k g n w j off => (match slk k h.l with
    | some (.list _ _ g' _ t' xs) => cond (Nat.beq g g' && Nat.beq w t'.w) (.bind (xs[j]?) fun x => match spart P t (t'.svs x) off with
      | some v => K v
      | none => .fail) .fail
    | _ => .fail)
  | .lp t' xs j off => .bind (xs[j]?) fun x => match spart P t (t'.svs x) off with
    | some v => K v
    | none => .fail
  | _ => .fail
theorem encL_len (l : List SV) : (encL l).length = l.length := by rw [encL_map, List.length_map]
theorem slk_p {k : Nat} {ob : SO} {l : List (Nat × SO)} (e : slk k l = some ob) : plook k (ench l) = some ob.enc := by rw [ench_look, e]; rfl
theorem list_cs_len {el : TypeId} {gr : Bool} {g w : Nat} {t : Ty} {xs : List t.sem} : (SO.list el gr g w t xs).enc.cs.length = xs.length * t.w := by
  show ((xs.flatMap t.cells).map PV.f).length = _
  rw [List.length_map, flat_len]
theorem sload_ok {t : TypeId} {a : SV} {K : SV → Tree R} (ho : OkH P h) (ha : a.ok h) (e : (sload P t a h K).run = some r) : ∃ v, pload P t a.enc (ench h.l) = some v.enc ∧ v.ok h ∧ (K v).run = some r := by
  unfold sload at e
  split at e
  · rename_i k off w
    split at e
    · rename_i el w' l hk
      split at e
      · rename_i v hv
        obtain ⟨h1, h2⟩ := run_cond e
        obtain ⟨h3, h4⟩ := spart_ok (h := h) hv
        refine ⟨v, ?_, h4 (ho.cells _ _ _ _ hk), h2⟩
        simp only [SV.enc, pload, slk_p hk]
        show cond (Nat.beq w (encL l).length) (ppart P t (encL l) off) none = _
        rw [encL_len, h1]
        exact h3
      · cases e
    · cases e
  · rename_i k g n w j off
    split at e
    · rename_i el gr g' w' t' xs hk
      obtain ⟨h1, h2⟩ := run_cond e
      rw [Bool.and_eq_true] at h1
      have hg : g = g' := Nat.eq_of_beq_eq_true h1.1
      have hw : w = t'.w := Nat.eq_of_beq_eq_true h1.2
      subst hg hw
      obtain ⟨x, hx, h3⟩ := run_bind h2
      split at h3
      · rename_i v hv
        have h5 := part_flat (h := h) hx hv
        refine ⟨v, ?_, h5.2.2, h3⟩
        simp only [SV.ok] at ha
        have hn : n = xs.length := ha.2 _ _ _ _ _ hk
        simp only [SV.enc, pload, slk_p hk]
        rw [list_cs_len, hn]
        simp only [nbeq, cond_true]
        exact h5.1
      · cases h3
    · cases e
  · rename_i t' xs j off
    obtain ⟨x, hx, h3⟩ := run_bind e
    split at h3
    · rename_i v hv
      have h5 := part_flat (h := h) hx hv
      exact ⟨v, by simp only [SV.enc, pload]; exact h5.2.1, h5.2.2, h3⟩
    · cases h3
  · cases e

/-! ### Writing -/
def Post (P : Program) (h h' : SH) (v : SV) : Prop := Keep h h' ∧ OkH P h' ∧ v.ok h'
def scells : SV → List SV
  | .agg l => l
  | v => [v]
theorem scells_enc (v : SV) : pcells v.enc = encL (scells v) := by
  cases v <;> simp [SV.enc, pcells, scells, encL, fvv]
omit [Yl] in
theorem scells_ok {v : SV} (hv : v.ok h) : okL h (scells v) := by
  cases v <;> simp only [scells, okL, SV.ok, and_true] at hv ⊢ <;> exact hv
def sover (l : List SV) (i : Nat) (vs : List SV) : List SV := l.take i ++ vs ++ l.drop (i + vs.length)
theorem sover_enc (l vs : List SV) (i : Nat) : encL (sover l i vs) = pover (encL l) i (encL vs) := by
  simp [sover, pover, encL_map, List.map_take, List.map_drop]
omit [Yl] in
theorem sover_ok {l vs : List SV} {i : Nat} (a : okL h l) (b : okL h vs) : okL h (sover l i vs) :=
  okL_app (okL_app (okL_sub a fun z hz => List.mem_of_mem_take hz) b) (okL_sub a fun z hz => List.mem_of_mem_drop hz)
omit [Yl] in
theorem over_app {α : Type} (A B C : List α) (c : List α) {off : Nat} (hle : off + c.length ≤ B.length) :
    (A ++ B ++ C).take (A.length + off) ++ c ++ (A ++ B ++ C).drop (A.length + off + c.length) = A ++ (B.take off ++ c ++ B.drop (off + c.length)) ++ C := by
  rw [List.append_assoc A B C, List.take_append, List.take_of_length_le (by omega), Nat.add_sub_cancel_left, List.take_append_of_le_length (by omega)]
  rw [Nat.add_assoc, List.drop_append, List.drop_of_length_le (by omega), Nat.add_sub_cancel_left, List.nil_append, List.drop_append_of_le_length (by omega)]
  simp [List.append_assoc]
omit [Yl] in
theorem flat_split {t : Ty} {xs : List t.sem} {j : Nat} {x : t.sem} (hx : xs[j]? = some x) (y : t.sem) : (xs.set j y).flatMap t.cells = (xs.take j).flatMap t.cells ++ t.cells y ++ (xs.drop (j + 1)).flatMap t.cells := by
  have hl := (List.getElem?_eq_some_iff.1 hx).1
  rw [List.set_eq_take_append_cons_drop, if_pos hl, List.flatMap_append, List.flatMap_cons, List.append_assoc]
omit [Yl] in
theorem pover_flat {t : Ty} {xs : List t.sem} {j : Nat} {x y : t.sem} (hx : xs[j]? = some x) {off : Nat} {c : List PV} (hle : off + c.length ≤ t.w) (hy : pover ((t.cells x).map .f) off c = (t.cells y).map .f) :
    pover ((xs.flatMap t.cells).map .f) (j * t.w + off) c = ((xs.set j y).flatMap t.cells).map .f := by
  have hl := (List.getElem?_eq_some_iff.1 hx).1
  have e0 : xs.set j x = xs := by
    apply List.ext_getElem?
    intro i
    rw [List.getElem?_set]
    by_cases e : j = i
    · subst e; rw [if_pos rfl, if_pos hl, hx]
    · rw [if_neg e]
  have e1 := flat_split hx x
  rw [e0] at e1
  rw [flat_split hx y, e1]
  simp only [List.map_append]
  unfold pover
  have hA : (((xs.take j).flatMap t.cells).map PV.f).length = j * t.w := by rw [List.length_map, flat_len, List.length_take, Nat.min_eq_left (by omega)]
  rw [← hA, over_app _ _ _ _ (by rw [List.length_map, t.cells_len]; exact hle)]
  unfold pover at hy
  rw [hy]
def sstore (P : Program) (t : TypeId) (a x : SV) (h : SH) (K : SV → SH → Tree R) : Tree R := match szT P t with
  | some n => (match a with
    | .ref k off w => (match slk k h.l with
      | some (.cells el _ l) => cond (Nat.beq w l.length && (Nat.beq n (scells x).length && (Nat.ble (off + n) l.length && (pnt x.enc && (encL (scells x)).all pone))))
          (K (.tup []) (h.put k fun v => .cells el v (sover l off (scells x)))) .fail
      | _ => .fail)
    | .elt k g m w j off => (match slk k h.l with
      | some (.list el gr g' _ t' xs) => cond (Nat.beq g g' && (Nat.beq w t'.w && (Nat.beq n (scells x).length && (Nat.ble (off + n) w && (pnt x.enc && (encL (scells x)).all pone)))))
          (.bind (xs[j]?) fun y => match t'.decA (sover (t'.svs y) off (scells x)) with
            | some z => K (.tup []) (h.put k fun v => .list el gr g v t' (List.set xs j z))
            | none => .fail) .fail
      | _ => .fail)
    | _ => .fail)
  | none => .fail
theorem sstore_ok {t : TypeId} {a x : SV} {K : SV → SH → Tree R} (ho : OkH P h) (ha : a.ok h) (hx : x.ok h) (e : (sstore P t a x h K).run = some r) :
    ∃ h', pstore P t a.enc x.enc (ench h.l) = some (ench h'.l) ∧ Keep h h' ∧ OkH P h' ∧ (K (.tup []) h').run = some r := by
  unfold sstore at e
  split at e
  · rename_i n hn
    split at e
    · rename_i k off w
      split at e
      · rename_i el w' l hk
        obtain ⟨h1, h2⟩ := run_cond e
        have hp := okH_put (f := fun v => .cells el v (sover l off (scells x))) ho hk ⟨rfl, sover_ok (ho.cells _ _ _ _ hk) (scells_ok hx)⟩
        refine ⟨_, ?_, hp.1, hp.2, h2⟩
        simp only [SV.enc, pstore, slk_p hk, hn]
        show cond (Nat.beq w (encL l).length && (Nat.beq n (pcells x.enc).length && (Nat.ble (off + n) (encL l).length && (pnt x.enc && (pcells x.enc).all pone)))) _ _ = _
        rw [scells_enc, encL_len, encL_len, h1]
        simp only [cond_true]
        rw [show ench (h.put k fun v => .cells el v (sover l off (scells x))).l = pset k (SO.enc (.cells el h.next (sover l off (scells x)))) (ench h.l) from ench_set k _ _]
        show some (pset k ⟨el, false, pover (encL l) off (encL (scells x))⟩ (ench h.l)) = some (pset k ⟨el, false, encL (sover l off (scells x))⟩ (ench h.l))
        rw [sover_enc]
      · cases e
    · rename_i k g m w j off
      split at e
      · rename_i el gr g' w' t' xs hk
        obtain ⟨h1, h2⟩ := run_cond e
        simp only [Bool.and_eq_true] at h1
        obtain ⟨q1, q2, q3, q4, q5, q6⟩ := h1
        have hg : g = g' := Nat.eq_of_beq_eq_true q1
        have hw : w = t'.w := Nat.eq_of_beq_eq_true q2
        subst hg hw
        obtain ⟨y, hy, h3⟩ := run_bind h2
        split at h3
        · rename_i z hz
          have hp := okH_put (f := fun v => .list el gr g v t' (List.set xs j z)) ho hk ⟨_, rfl, by simp⟩
          refine ⟨_, ?_, hp.1, hp.2, h3⟩
          simp only [SV.ok] at ha
          have hm : m = xs.length := ha.2 _ _ _ _ _ hk
          have hle : off + n ≤ t'.w := Nat.le_of_ble_eq_true q4
          simp only [SV.enc, pstore, slk_p hk, hn]
          rw [list_cs_len, hm, scells_enc, encL_len]
          have hjl : j * t'.w + off + n ≤ xs.length * t'.w := by
            have := flat_lt hy hle
            rwa [flat_len] at this
          rw [q3, q5, q6, show Nat.ble (j * t'.w + off + n) (xs.length * t'.w) = true from Nat.ble_eq_true_of_le hjl]
          simp only [nbeq, Bool.and_self, cond_true]
          rw [show ench (h.put k fun v => .list el gr g v t' (List.set xs j z)).l = pset k (SO.enc (.list el gr g h.next t' (List.set xs j z))) (ench h.l) from ench_set k _ _]
          show some (pset k ⟨el, gr, pover ((xs.flatMap t'.cells).map .f) (j * t'.w + off) (encL (scells x))⟩ (ench h.l)) = some (pset k ⟨el, gr, ((List.set xs j z).flatMap t'.cells).map .f⟩ (ench h.l))
          have hnl : n = (encL (scells x)).length := by rw [encL_len]; exact Nat.eq_of_beq_eq_true q3
          rw [pover_flat hy (y := z) (by rw [← hnl]; exact hle) (by rw [← svs_enc, ← sover_enc]; exact decA_enc hz)]
        · cases h3
      · cases e
    · cases e
  · cases e
end
end Go.Sv

namespace Go.Sv
open Go.Idl
noncomputable section
variable [Yl]
variable {P : Program} {h : SH} {R : Type} {r : R}

/-! ### Types -/
def tyL : List (Option Ty) → Option Ty
  | [] => some .unit
  | [t] => t.map fun t => .pair t .unit
  | [a, b] => match a, b with
    | some a, some b => some (.pair a b)
    | _, _ => none
  | a :: l => match a, tyL l with
    | some a, some b => some (.pair a b)
    | _, _ => none
def tyOf (P : Program) : Nat → TypeId → Option Ty
  | 0, _ => none
  | n + 1, t => match P.underlying t with
    | some (.int k) => some (.int k)
    | some .bool => some .bool
    | some .string => some .str
    | some (.slice el) => (match tyOf P n el with
      | some u => some (.list el u)
      | none => none)
    | some (.struct fields) => tyL (fields.toList.map fun f => tyOf P n f.type)
    | some (.array k el) => tyL (List.replicate k (tyOf P n el))
    | _ => none

/-! ### New objects -/
def zcS (P : Program) (t : TypeId) : Option (List SV) := match zeroP P t with
  | some z => cond (allR okC z.cells.toList) (some (mapR .c z.cells.toList)) none
  | none => none
theorem zcS_enc {t : TypeId} {l : List SV} (e : zcS P t = some l) : zc P t = some (encL l) ∧ okL h l := by
  unfold zcS at e
  unfold zc
  split at e
  · rename_i z hz
    cases hc : allR okC z.cells.toList with
    | false => rw [hc] at e; cases e
    | true =>
      rw [hc] at e
      cases e
      rw [hz]
      simp only [hc, cond_true]
      exact ⟨by rw [encC], okC' _⟩
  · cases e
def salloc (P : Program) (el : TypeId) (k : Nat) (h : SH) (K : SV → SH → Tree R) : Tree R := match zcS P el with
  | some l => K (.ref k 0 l.length) (h.new k fun v => .cells el v l)
  | none => .fail
theorem salloc_ok {el : TypeId} {k : Nat} {K : SV → SH → Tree R} (ho : OkH P h) (e : (salloc P el k h K).run = some r) : ∃ v h', palloc P el k (ench h.l) = some (v.enc, ench h'.l) ∧ Post P h h' v ∧ (K v h').run = some r := by
  unfold salloc at e
  split at e
  · rename_i l hl
    obtain ⟨h1, h2⟩ := zcS_enc (h := h) hl
    have hp := okH_new (k := k) (f := fun v => .cells el v l) ho ⟨rfl, h2⟩
    refine ⟨_, _, ?_, ⟨hp.1, hp.2, by simp [SV.ok]⟩, e⟩
    simp only [palloc, h1, pnew, SV.enc, encL_len]
    rfl
  · cases e
def sbox (el : TypeId) (v : SV) (k : Nat) (h : SH) (K : SV → SH → Tree R) : Tree R :=
  cond (pnt v.enc && (encL (scells v)).all pone) (K (.ref k 0 (scells v).length) (h.new k fun n => .cells el n (scells v))) .fail
theorem sbox_ok {el : TypeId} {v : SV} {k : Nat} {K : SV → SH → Tree R} (ho : OkH P h) (hv : v.ok h) (e : (sbox el v k h K).run = some r) : ∃ x h', pbox el v.enc k (ench h.l) = some (x.enc, ench h'.l) ∧ Post P h h' x ∧ (K x h').run = some r := by
  obtain ⟨h1, h2⟩ := run_cond e
  have hp := okH_new (k := k) (f := fun n => .cells el n (scells v)) ho ⟨rfl, scells_ok hv⟩
  refine ⟨_, _, ?_, ⟨hp.1, hp.2, by simp [SV.ok]⟩, h2⟩
  unfold pbox
  rw [scells_enc, h1]
  simp only [cond_true, pnew, SV.enc, encL_len]
  rfl
def sfill (place : Nat → Option (Nat × Nat)) : List SV → List (Nat × SV) → Option (List SV)
  | cells, [] => some cells
  | cells, (i, v) :: rest => match place i with
    | some (off, size) => cond (Nat.beq (scells v).length size && (Nat.ble (off + size) cells.length && (pnt v.enc && (encL (scells v)).all pone))) (sfill place (sover cells off (scells v)) rest) none
    | none => none
def encP (l : List (Nat × SV)) : List (Nat × PV) := l.map fun p => (p.1, p.2.enc)
theorem sfill_ok {place : Nat → Option (Nat × Nat)} : ∀ {l cs : List SV} {parts : List (Nat × SV)}, sfill place l parts = some cs → pfill place (encL l) (encP parts) = some (encL cs) ∧ (okL h l → (∀ p ∈ parts, p.2.ok h) → okL h cs)
  | l, cs, [], e => by cases e; exact ⟨rfl, fun a _ => a⟩
  | l, cs, (i, v) :: rest, e => by
    unfold sfill at e
    split at e
    · rename_i off size hpl
      cases hc : (Nat.beq (scells v).length size && (Nat.ble (off + size) l.length && (pnt v.enc && (encL (scells v)).all pone))) with
      | false => rw [hc] at e; cases e
      | true =>
        rw [hc] at e
        obtain ⟨h1, h2⟩ := sfill_ok (l := sover l off (scells v)) e
        refine ⟨?_, fun a b => h2 (sover_ok a (scells_ok (b _ List.mem_cons_self))) fun p hp => b p (List.mem_cons_of_mem _ hp)⟩
        show (match place i with
          | some (off, size) => cond (Nat.beq (pcells v.enc).length size && (Nat.ble (off + size) (encL l).length && (pnt v.enc && (pcells v.enc).all pone))) (pfill place (pover (encL l) off (pcells v.enc)) (encP rest)) none
          | none => none) = some (encL cs)
        rw [hpl]
        simp only
        rw [scells_enc, encL_len, encL_len, hc, ← sover_enc]
        exact h1
    · cases e
def sbuild (P : Program) (t : TypeId) (parts : List (Nat × SV)) : Option SV := match zcS P t with
  | some z => cond (buildOk P t) (match sfill (placeT P t) z parts with
    | some cs => some (.agg cs)
    | none => none) none
  | none => none
theorem sbuild_ok {t : TypeId} {parts : List (Nat × SV)} {v : SV} (hp : ∀ p ∈ parts, p.2.ok h) (e : sbuild P t parts = some v) : pbuild P t (encP parts) = some v.enc ∧ v.ok h := by
  unfold sbuild at e
  split at e
  · rename_i z hz
    obtain ⟨h1, h2⟩ := zcS_enc (h := h) hz
    cases hb : buildOk P t with
    | false => rw [hb] at e; cases e
    | true =>
      rw [hb] at e
      simp only [cond_true] at e
      split at e
      · rename_i cs hcs
        cases e
        obtain ⟨h3, h4⟩ := sfill_ok (h := h) hcs
        simp only [pbuild, h1, hb, cond_true, h3, SV.enc, SV.ok, true_and]
        exact h4 h2 hp
      · cases e
  · cases e
/-- cells, as a list of data -/
def Ty.decs (t : Ty) : Nat → List SV → Option (List t.sem)
  | 0, [] => some []
  | 0, _ :: _ => none
  | n + 1, l => match t.decL l with
    | some (x, l') => (match t.decs n l' with
      | some xs => some (x :: xs)
      | none => none)
    | none => none
theorem decs_enc {t : Ty} : ∀ {n : Nat} {l : List SV} {xs : List t.sem}, t.decs n l = some xs → encL l = (xs.flatMap t.cells).map .f ∧ xs.length = n
  | 0, [], xs, e => by cases e; simp [encL]
  | 0, _ :: _, xs, e => by cases e
  | n + 1, l, xs, e => by
    unfold Ty.decs at e
    split at e
    · rename_i x l' hx
      split at e
      · rename_i ys hy
        cases e
        obtain ⟨h1, h2⟩ := decs_enc hy
        rw [decL_enc hx, h1, List.flatMap_cons, List.map_append]
        exact ⟨rfl, by rw [List.length_cons, h2]⟩
      · cases e
    · cases e
def srow (n : Nat) (z : List SV) : List SV := (List.replicate n z).flatten
theorem srow_enc (n : Nat) (z : List SV) : encL (srow n z) = prow n (encL z) := by simp [srow, prow, encL_map, List.map_flatten]
def sbuildSlice (P : Program) (t : TypeId) (len : Nat) (parts : List (Nat × SV)) (k : Nat) (h : SH) (K : SV → SH → Tree R) : Tree R := match elemT P t with
  | some el => (match szT P el, zcS P el, tyOf P 8 el with
    | some (s + 1), some z, some ty => cond (Nat.beq ty.w (s + 1)) (cond (Nat.beq z.length (s + 1) && Nat.ble (len * (s + 1)) 65536) (match sfill (fun i => some (i * (s + 1), s + 1)) (srow len z) parts with
      | some cs => (match ty.decs len cs with
        | some xs => K (.own k h.next len) (h.new k fun v => .list el false v v ty xs)
        | none => .fail)
      | none => .fail) .fail) .fail
    | _, _, _ => .fail)
  | none => .fail
omit [Yl] in
theorem own_new {el : TypeId} {gr : Bool} {k n : Nat} {ty : Ty} {xs : List ty.sem} (hn : n = xs.length) : (SV.own k h.next n).ok (h.new k fun v => .list el gr v v ty xs) := by
  simp only [SV.ok]
  refine ⟨Nat.lt_succ_self _, fun el' gr' w' t' xs' hk => ?_⟩
  rw [show slk k (h.new k fun v => .list el gr v v ty xs).l = some (.list el gr h.next h.next ty xs) from slk_cons] at hk
  cases hk
  exact hn
theorem sbuildSlice_ok {t : TypeId} {len k : Nat} {parts : List (Nat × SV)} {K : SV → SH → Tree R} (ho : OkH P h) (hp : ∀ p ∈ parts, p.2.ok h) (e : (sbuildSlice P t len parts k h K).run = some r) :
    ∃ v h', pbuildSlice P t len (encP parts) k (ench h.l) = some (v.enc, ench h'.l) ∧ Post P h h' v ∧ (K v h').run = some r := by
  unfold sbuildSlice at e
  split at e
  · rename_i el hel
    split at e
    · rename_i s z ty hs hz hty
      obtain ⟨e1, e⟩ := run_cond e
      obtain ⟨e2, e⟩ := run_cond e
      split at e
      · rename_i cs hcs
        split at e
        · rename_i xs hxs
          obtain ⟨z1, z2⟩ := zcS_enc (h := h) hz
          obtain ⟨f1, f2⟩ := sfill_ok (h := h) hcs
          obtain ⟨d1, d2⟩ := decs_enc hxs
          have hw : ty.w = s + 1 := Nat.eq_of_beq_eq_true e1
          have hn := okH_new (k := k) (f := fun v => .list el false v v ty xs) ho ⟨rfl, rfl, by rw [hs, hw], by omega⟩
          refine ⟨_, _, ?_, ⟨hn.1, hn.2, own_new d2.symm⟩, e⟩
          rw [srow_enc] at f1
          simp only [pbuildSlice, hel, hs, z1, encL_len, e2, cond_true, f1, pnew, SV.enc, d1]
          rfl
        · cases e
      · cases e
    · cases e
  · cases e
def smake (P : Program) (t : TypeId) (l : SV) (k : Nat) (h : SH) (K : SV → SH → Tree R) : Tree R := match elemT P t, asI l with
  | some el, some (_, n) => (match szT P el, zcS P el, tyOf P 8 el with
    | some (s + 1), some z, some ty => cond (smallT P el && (Nat.beq z.length (s + 1) && Nat.beq ty.w (s + 1))) (match ty.decA z with
      | some z0 => .bind (mkN n) fun N => K (.own k h.next N) (h.new k fun v => .list el false v v ty (List.replicate N z0))
      | none => .fail) .fail
    | _, _, _ => .fail)
  | _, _ => .fail
omit [Yl] in
theorem rep_flat {t : Ty} {z : t.sem} : ∀ (n : Nat), ((List.replicate n z).flatMap t.cells).map PV.f = prow n ((t.cells z).map .f)
  | 0 => rfl
  | n + 1 => by
    rw [List.replicate_succ, List.flatMap_cons, List.map_append, rep_flat n]
    simp [prow, List.replicate_succ]
theorem smake_ok {t : TypeId} {l : SV} {k : Nat} {K : SV → SH → Tree R} (ho : OkH P h) (e : (smake P t l k h K).run = some r) :
    ∃ v h', pmakeSlice P t l.enc l.enc k (ench h.l) = some (v.enc, ench h'.l) ∧ Post P h h' v ∧ (K v h').run = some r := by
  unfold smake at e
  split at e
  · rename_i el ki n hel hl
    split at e
    · rename_i s z ty hs hz hty
      obtain ⟨e1, e⟩ := run_cond e
      simp only [Bool.and_eq_true] at e1
      obtain ⟨q1, q2, q3⟩ := e1
      split at e
      · rename_i z0 hz0
        obtain ⟨N, hN, e⟩ := run_bind e
        obtain ⟨z1, z2⟩ := zcS_enc (h := h) hz
        have hw : ty.w = s + 1 := Nat.eq_of_beq_eq_true q3
        have hn := okH_new (k := k) (f := fun v => .list el false v v ty (List.replicate N z0)) ho ⟨rfl, rfl, by rw [hs, hw], by omega⟩
        refine ⟨_, _, ?_, ⟨hn.1, hn.2, own_new (xs := List.replicate N z0) (by simp)⟩, e⟩
        rw [asI_enc hl]
        simp only [pmakeSlice, fvv, hel, decide_true, cond_true, hN, hs, z1, encL_len, q1, q2, Bool.and_self, pnew, SV.enc]
        show some (PV.own k N 0 N, (k, (⟨el, false, prow N (encL z)⟩ : PO)) :: ench h.l) = some (PV.own k N 0 N, (k, ⟨el, false, ((List.replicate N z0).flatMap ty.cells).map PV.f⟩) :: ench h.l)
        rw [rep_flat, decA_enc hz0]
      · cases e
    · cases e
  · cases e

/-! ### Addresses and parts -/
/-- is a place as it was -/
def sliv (h : SH) : SV → Bool
  | .ref k _ w => match slk k h.l with
    | some (.cells _ _ l) => Nat.beq w l.length
    | _ => false
  | .elt k g _ w _ _ => match slk k h.l with
    | some (.list _ _ g' _ t _) => Nat.beq g g' && Nat.beq w t.w
    | _ => false
  | .lp _ _ _ _ => true
  | _ => false
theorem sliv_ref {k off w : Nat} (e : sliv h (.ref k off w) = true) : live? k w (ench h.l) = true := by
  simp only [sliv] at e
  split at e
  · rename_i el w' l hk
    unfold live?
    rw [slk_p hk]
    show Nat.beq w (encL l).length = true
    rw [encL_len]; exact e
  · cases e
theorem sliv_elt {k g n w j off : Nat} (ho : (SV.elt k g n w j off).ok h) (e : sliv h (.elt k g n w j off) = true) : live? k (n * w) (ench h.l) = true := by
  simp only [sliv] at e
  split at e
  · rename_i el gr g' w' t xs hk
    rw [Bool.and_eq_true] at e
    have hg : g = g' := Nat.eq_of_beq_eq_true e.1
    have hw : w = t.w := Nat.eq_of_beq_eq_true e.2
    subst hg hw
    simp only [SV.ok] at ho
    unfold live?
    rw [slk_p hk]
    show Nat.beq (n * t.w) (SO.list el gr g w' t xs).enc.cs.length = true
    rw [list_cs_len, ho.2 _ _ _ _ _ hk]; exact nbeq _
  · cases e
/-- a place further on -/
def sadd (n : Nat) : SV → SV
  | .ref k off w => .ref k (off + n) w
  | .elt k g m w j off => .elt k g m w j (off + n)
  | .lp t xs j off => .lp t xs j (off + n)
  | v => v
def isPl : SV → Bool
  | .ref _ _ _ => true
  | .elt _ _ _ _ _ _ => true
  | .lp _ _ _ _ => true
  | _ => false
omit [Yl] in
theorem sadd_ok {n : Nat} {v : SV} (hv : v.ok h) : (sadd n v).ok h := by
  cases v <;> simp only [sadd, SV.ok] at hv ⊢ <;> exact hv
def sfieldAddr (P : Program) (t : TypeId) (x : SV) (i : Nat) (h : SH) : Option SV := match fldT P t i with
  | some (off, ft) => (match szT P ft with
    | some (_ + 1) => cond (sliv h x) (some (sadd off x)) none
    | _ => none)
  | none => none
theorem sfieldAddr_ok {t : TypeId} {x v : SV} {i : Nat} (hx : x.ok h) (e : sfieldAddr P t x i h = some v) : pfieldAddr P t x.enc i (ench h.l) = some v.enc ∧ v.ok h := by
  unfold sfieldAddr at e
  unfold pfieldAddr
  split at e
  · rename_i off ft hf
    split at e
    · rename_i s hs
      cases hl : sliv h x with
      | false => rw [hl] at e; cases e
      | true =>
        rw [hl] at e
        cases e
        refine ⟨?_, sadd_ok hx⟩
        simp only [hf, hs]
        cases x with
        | ref k o w => simp only [SV.enc, sadd, sliv_ref hl, cond_true]
        | elt k g n w j o => simp only [SV.enc, sadd, sliv_elt hx hl, cond_true, Nat.add_assoc]
        | lp t xs j o => simp only [SV.enc, sadd, Nat.add_assoc]
        | _ => cases hl
    · cases e
  · cases e
def sfield (P : Program) (t : TypeId) (x : SV) (i : Nat) : Option SV := match fldT P t i, x with
  | some (off, ft), .agg l => spart P ft l off
  | _, _ => none
theorem sfield_ok {t : TypeId} {x v : SV} {i : Nat} (hx : x.ok h) (e : sfield P t x i = some v) : pfield P t x.enc i = some v.enc ∧ v.ok h := by
  unfold sfield at e
  split at e
  · rename_i off ft l hf
    obtain ⟨h1, h2⟩ := spart_ok (h := h) e
    simp only [SV.ok] at hx
    refine ⟨?_, h2 hx⟩
    simp only [pfield, hf, SV.enc]
    exact h1
  · cases e
/-- an index of an array: a constant, or not known -/
def sidx (n : Nat) (ix : SV) (K : Nat → Tree R) : Tree R := match ix with
  | .c (.int _ i) => (match idx n i with
    | some j => K j
    | none => .fail)
  | v => (match asI v with
    | some (_, i) => .bind (idx n i) K
    | none => .fail)
theorem sidx_ok {n : Nat} {ix : SV} {K : Nat → Tree R} (e : (sidx n ix K).run = some r) : ∃ k i j, ix.enc = fvv (.int k i) ∧ idx n i = some j ∧ (K j).run = some r := by
  unfold sidx at e
  split at e
  · rename_i k i
    split at e
    · rename_i j hj
      exact ⟨k, i, j, by simp [SV.enc], hj, e⟩
    · cases e
  · split at e
    · rename_i k i hi
      obtain ⟨j, hj, e⟩ := run_bind e
      exact ⟨k, i, j, asI_enc hi, hj, e⟩
    · cases e
def sindexAddr (P : Program) (t : TypeId) (x ix : SV) (h : SH) (K : SV → Tree R) : Tree R := match x with
  | .d (.list el u) xs => (match asI ix, elemT P t with
    | some (_, i), some el' => (match szT P el' with
      | some s => cond (Nat.beq s u.w) (.bind (idx (List.length xs) i) fun j => K (.lp u xs j 0)) .fail
      | none => .fail)
    | _, _ => .fail)
  | .own k g n => (match asI ix, elemT P t, slk k h.l with
    | some (_, i), some el', some (.list el _ g' _ u _) => cond (Nat.beq el' el && Nat.beq g g') (.bind (idx n i) fun j => K (.elt k g n u.w j 0)) .fail
    | _, _, _ => .fail)
  | .sl k g n o m => (match asI ix, elemT P t, slk k h.l with
    | some (_, i), some el', some (.list el _ g' _ u _) => cond (Nat.beq el' el && Nat.beq g g') (.bind (idx m i) fun j => K (.elt k g n u.w (o + j) 0)) .fail
    | _, _, _ => .fail)
  | x => (match arrT P t with
    | some (n, el) => (match szT P el with
      | some s => cond (isPl x && sliv h x) (sidx n ix fun j => K (sadd (j * s) x)) .fail
      | none => .fail)
    | none => .fail)
theorem sindexAddr_ok {t : TypeId} {x ix : SV} {K : SV → Tree R} (ho : OkH P h) (hx : x.ok h) (e : (sindexAddr P t x ix h K).run = some r) : ∃ v, pindexAddr P t x.enc ix.enc (ench h.l) = some v.enc ∧ v.ok h ∧ (K v).run = some r := by
  unfold sindexAddr at e
  split at e
  · rename_i el u xs
    split at e
    · rename_i k i el' hi hel
      split at e
      · rename_i s hs
        obtain ⟨h1, e1⟩ := run_cond e
        obtain ⟨j, hj, e2⟩ := run_bind e1
        have hw : s = u.w := Nat.eq_of_beq_eq_true h1
        subst hw
        refine ⟨_, ?_, by simp [SV.ok], e2⟩
        rw [asI_enc hi]
        simp only [SV.enc, Ty.fv, fvv, pindexAddr, hel, hs, hj, Nat.add_zero]
      · cases e
    · cases e
  · rename_i k g n
    split at e
    · rename_i ki i el' el gr g' w u xs hi hel hk
      obtain ⟨h1, e1⟩ := run_cond e
      obtain ⟨j, hj, e2⟩ := run_bind e1
      rw [Bool.and_eq_true] at h1
      have hg : g = g' := Nat.eq_of_beq_eq_true h1.2
      subst hg
      simp only [SV.ok] at hx
      have hn := hx.2 _ _ _ _ _ hk
      have hl := ho.list _ _ _ _ _ _ _ hk
      refine ⟨_, ?_, by simp only [SV.ok]; exact hx, e2⟩
      rw [asI_enc hi]
      simp only [SV.enc, fvv, pindexAddr, hel, slk_p hk]
      show (match szT P el with
        | some s => (match idx n i with
          | some j => cond (Nat.beq el' el && Nat.beq (n * s) (SO.list el gr g w u xs).enc.cs.length) (some (PV.ref k (SO.list el gr g w u xs).enc.cs.length ((0 + j) * s))) none
          | none => none)
        | none => none) = _
      rw [hl.2.1, hj]
      simp only [list_cs_len, hn, nbeq, h1.1, Bool.and_self, cond_true, Nat.zero_add, Nat.add_zero]
    · cases e
  · rename_i k g n o m
    split at e
    · rename_i ki i el' el gr g' w u xs hi hel hk
      obtain ⟨h1, e1⟩ := run_cond e
      obtain ⟨j, hj, e2⟩ := run_bind e1
      rw [Bool.and_eq_true] at h1
      have hg : g = g' := Nat.eq_of_beq_eq_true h1.2
      subst hg
      simp only [SV.ok] at hx
      have hn := hx.1.2 _ _ _ _ _ hk
      have hl := ho.list _ _ _ _ _ _ _ hk
      refine ⟨_, ?_, by simp only [SV.ok]; exact hx.1, e2⟩
      rw [asI_enc hi]
      simp only [SV.enc, fvv, pindexAddr, hel, slk_p hk]
      show (match szT P el with
        | some s => (match idx m i with
          | some j => cond (Nat.beq el' el && Nat.beq (n * s) (SO.list el gr g w u xs).enc.cs.length) (some (PV.ref k (SO.list el gr g w u xs).enc.cs.length ((o + j) * s))) none
          | none => none)
        | none => none) = _
      rw [hl.2.1]
      simp only [hj, list_cs_len, hn, nbeq, h1.1, Bool.and_self, cond_true, Nat.add_zero]
    · cases e
  · split at e
    · rename_i n el ha
      split at e
      · rename_i s hs
        obtain ⟨h1, e⟩ := run_cond e
        rw [Bool.and_eq_true] at h1
        obtain ⟨ki, i, j, hi, hj, e⟩ := sidx_ok e
        refine ⟨_, ?_, sadd_ok hx, e⟩
        rw [hi]
        cases x with
        | ref k o w => simp only [SV.enc, sadd, fvv, pindexAddr, ha, hs, hj, sliv_ref h1.2, cond_true]
        | elt k g n w j o => simp only [SV.enc, sadd, fvv, pindexAddr, ha, hs, hj, sliv_elt hx h1.2, cond_true, Nat.add_assoc]
        | lp t xs j o => simp only [SV.enc, sadd, fvv, pindexAddr, ha, hs, hj, Nat.add_assoc]
        | _ => cases h1.1
      · cases e
    · cases e
def sindex (P : Program) (t : TypeId) (x ix : SV) (K : SV → Tree R) : Tree R := match arrT P t, x with
  | some (n, el), .agg l => (match szT P el with
    | some s => sidx n ix fun j => match spart P el l (j * s) with
      | some v => K v
      | none => .fail
    | none => .fail)
  | _, _ => .fail
theorem sindex_ok {t : TypeId} {x ix : SV} {K : SV → Tree R} (hx : x.ok h) (e : (sindex P t x ix K).run = some r) : ∃ v, pindex P t x.enc ix.enc = some v.enc ∧ v.ok h ∧ (K v).run = some r ∧ ∃ l, x = .agg l := by
  unfold sindex at e
  split at e
  · rename_i n el l ha
    split at e
    · rename_i s hs
      obtain ⟨ki, i, j, hi, hj, e⟩ := sidx_ok e
      split at e
      · rename_i v hv
        obtain ⟨h1, h2⟩ := spart_ok (h := h) hv
        simp only [SV.ok] at hx
        refine ⟨v, ?_, h2 hx, e, l, rfl⟩
        rw [hi]
        simp only [pindex, ha, SV.enc, fvv, hs, hj]
        exact h1
      · cases e
    · cases e
  · cases e
def sextract (v : SV) (i : Nat) : Option SV := match v with
  | .tup l => (match nthR l i with
    | some x => cond (pnt x.enc) (some x) none
    | none => none)
  | _ => none
theorem sextract_ok {x v : SV} {i : Nat} (hx : x.ok h) (e : sextract x i = some v) : pextract x.enc i = some v.enc ∧ v.ok h := by
  unfold sextract at e
  split at e
  · rename_i l
    split at e
    · rename_i y hy
      cases hp : pnt y.enc with
      | false => rw [hp] at e; cases e
      | true =>
        rw [hp] at e
        cases e
        simp only [SV.ok] at hx
        refine ⟨?_, okL_nth hx hy⟩
        simp only [pextract, SV.enc, nth_enc, hy, Option.map_some, hp, cond_true]
    · cases e
  · cases e
def smakeFunc (fn : Fn) (first cap : List SV) : Option SV := match fn with
  | .func g => some (match first, cap with
    | [], [] => .c (.func (.func g) #[] #[])
    | _, _ => .fn g first cap)
  | _ => none
theorem smakeFunc_ok {fn : Fn} {first cap : List SV} {v : SV} (h1 : okL h first) (h2 : okL h cap) (e : smakeFunc fn first cap = some v) : pmakeFunc fn (encL first) (encL cap) = some v.enc ∧ v.ok h := by
  unfold smakeFunc at e
  split at e
  · rename_i g
    cases e
    cases first with
    | nil => cases cap with
      | nil => exact ⟨by simp [pmakeFunc, encL, SV.enc], by simp [SV.ok]⟩
      | cons x l => exact ⟨by simp [pmakeFunc, encL, SV.enc], by simp only [SV.ok]; exact ⟨h1, h2⟩⟩
    | cons y l => exact ⟨by simp [pmakeFunc, encL, SV.enc], by simp only [SV.ok]; exact ⟨h1, h2⟩⟩
  · cases e
def snilCheck (v : SV) (h : SH) : Option SV := match v with
  | .fn _ _ _ => some v
  | .c (.func (.func _) _ _) => some v
  | v => cond (sliv h v) (some v) none
theorem snilCheck_ok {x v : SV} (hx : x.ok h) (e : snilCheck x h = some v) : pnilCheck x.enc (ench h.l) = some v.enc ∧ v.ok h := by
  unfold snilCheck at e
  split at e
  · cases e; exact ⟨by simp [pnilCheck, SV.enc], hx⟩
  · cases e; exact ⟨by simp [pnilCheck, SV.enc, fvv], hx⟩
  · cases hl : sliv h x with
    | false => rw [hl] at e; cases e
    | true =>
      rw [hl] at e
      cases e
      refine ⟨?_, hx⟩
      cases x with
      | ref k o w => simp only [SV.enc, pnilCheck, sliv_ref hl, cond_true]
      | elt k g n w j o => simp only [SV.enc, pnilCheck, sliv_elt hx hl, cond_true]
      | lp t xs j o => simp only [SV.enc, pnilCheck]
      | _ => cases hl
end
end Go.Sv

namespace Go.Sv
open Go.Idl
noncomputable section
variable [Yl]
variable {P : Program} {h : SH} {R : Type} {r : R}

def slen (P : Program) (ts : Array TypeId) (x : SV) (h : SH) : Option SV := match ts[0]? with
  | some t => (match elemT P t with
    | some _ => (match x with
      | .d (.list _ _) xs => some (.d (.int .i64) ((List.length xs : Nat) : Int))
      | .c (.slice _ n _) => some (.c (.int .i64 (n : Int)))
      | .own k g n => (match slk k h.l with
        | some (.list _ _ g' _ _ _) => cond (Nat.beq g g') (some (.d (.int .i64) (n : Int))) none
        | _ => none)
      | .sl k g _ _ m => (match slk k h.l with
        | some (.list _ _ g' _ _ _) => cond (Nat.beq g g') (some (.d (.int .i64) (m : Int))) none
        | _ => none)
      | _ => none)
    | none => (match arrT P t with
      | some (n, _) => some (.c (.int .i64 (n : Int)))
      | none => none))
  | none => none
theorem slen_ok {ts : Array TypeId} {x v : SV} (ho : OkH P h) (hx : x.ok h) (e : slen P ts x h = some v) : plen P ts x.enc (ench h.l) = some v.enc ∧ v.ok h := by
  unfold slen at e
  unfold plen
  split at e
  · rename_i t ht
    split at e
    · rename_i el hel
      split at e
      · rename_i el' u xs
        cases e
        simp [ht, hel, SV.enc, Ty.fv, fvv, SV.ok]
      · rename_i a n c
        cases e
        simp [ht, hel, SV.enc, fvv, SV.ok]
      · rename_i k g n
        split at e
        · rename_i el' gr g' w u xs hk
          obtain ⟨h1, e1⟩ : Nat.beq g g' = true ∧ some (SV.d (.int .i64) (n : Int)) = some v := by
            cases hb : Nat.beq g g' with
            | false => rw [hb] at e; cases e
            | true => rw [hb] at e; exact ⟨rfl, e⟩
          cases e1
          have hg : g = g' := Nat.eq_of_beq_eq_true h1
          subst hg
          simp only [SV.ok] at hx
          have hn := hx.2 _ _ _ _ _ hk
          have hl := ho.list _ _ _ _ _ _ _ hk
          refine ⟨?_, by simp [SV.ok]⟩
          simp only [ht, hel, SV.enc, slk_p hk]
          show (match szT P el' with
            | some s => cond (Nat.beq (n * s) (SO.list el' gr g w u xs).enc.cs.length) (some (fvv (.int .i64 (n : Int)))) none
            | none => none) = _
          rw [hl.2.1]
          simp only [list_cs_len, hn, nbeq, cond_true, Ty.fv, fvv]
        · cases e
      · rename_i k g n o m
        split at e
        · rename_i el' gr g' w u xs hk
          obtain ⟨h1, e1⟩ : Nat.beq g g' = true ∧ some (SV.d (.int .i64) (m : Int)) = some v := by
            cases hb : Nat.beq g g' with
            | false => rw [hb] at e; cases e
            | true => rw [hb] at e; exact ⟨rfl, e⟩
          cases e1
          have hg : g = g' := Nat.eq_of_beq_eq_true h1
          subst hg
          simp only [SV.ok] at hx
          have hn := hx.1.2 _ _ _ _ _ hk
          have hl := ho.list _ _ _ _ _ _ _ hk
          refine ⟨?_, by simp [SV.ok]⟩
          simp only [ht, hel, SV.enc, slk_p hk]
          show (match szT P el' with
            | some s => cond (Nat.beq (n * s) (SO.list el' gr g w u xs).enc.cs.length) (some (fvv (.int .i64 (m : Int)))) none
            | none => none) = _
          rw [hl.2.1]
          simp only [list_cs_len, hn, nbeq, cond_true, Ty.fv, fvv]
        · cases e
      · cases e
    · rename_i hel
      split at e
      · rename_i n el ha
        cases e
        simp [ht, hel, ha, SV.enc, SV.ok]
      · cases e
  · cases e

/-! ### Elements of slices -/
def castL (u t : Ty) (xs : List u.sem) : Option (List t.sem) := if e : u = t then some (e ▸ xs) else none
omit [Yl] in
theorem castL_eq {u t : Ty} {xs : List u.sem} {ys : List t.sem} (e : castL u t xs = some ys) : (⟨u, xs⟩ : (t : Ty) × List t.sem) = ⟨t, ys⟩ := by
  unfold castL at e
  split at e
  · rename_i h
    subst h
    cases e
    rfl
  · cases e
def snews (t : Ty) (x : SV) (h : SH) : Option (List t.sem) := match x with
  | .d (.list _ u) xs => castL u t xs
  | .c (.slice none 0 _) => some []
  | .own k g _ => (match slk k h.l with
    | some (.list _ _ g' _ u xs) => cond (Nat.beq g g') (castL u t xs) none
    | _ => none)
  | .sl k g _ o m => (match slk k h.l with
    | some (.list _ _ g' _ u xs) => cond (Nat.beq g g') (match castL u t xs with
      | some xs => some ((xs.drop o).take m)
      | none => none) none
    | _ => none)
  | _ => none
theorem snews_ok {t : Ty} {x : SV} {ys : List t.sem} (ho : OkH P h) (hx : x.ok h) (e : snews t x h = some ys) : pnews P t.w x.enc (ench h.l) = some (ys.length, (ys.flatMap t.cells).map .f) := by
  unfold snews at e
  unfold pnews
  split at e
  · rename_i el u xs
    cases castL_eq e
    simp only [SV.enc, Ty.fv, flat_len, nbeq, cond_true]
  · cases e
    simp [SV.enc, fvv]
  · rename_i k g n
    split at e
    · rename_i el gr g' w u xs hk
      cases hb : Nat.beq g g' with
      | false => rw [hb] at e; cases e
      | true =>
        rw [hb] at e
        have hg : g = g' := Nat.eq_of_beq_eq_true hb
        subst hg
        cases castL_eq e
        simp only [SV.ok] at hx
        have hn := hx.2 _ _ _ _ _ hk
        have hl := ho.list _ _ _ _ _ _ _ hk
        simp only [SV.enc, slk_p hk]
        show (match szT P el with
          | some s' => cond (Nat.beq (n * s') (SO.list el gr g w t ys).enc.cs.length && Nat.beq t.w s') (some (n, (((ys.flatMap t.cells).map PV.f).drop (0 * t.w)).take (n * t.w))) none
          | none => none) = _
        rw [hl.2.1]
        simp only [list_cs_len, hn, nbeq, Bool.and_self, cond_true, Nat.zero_mul, List.drop_zero]
        rw [List.take_of_length_le (by rw [List.length_map, flat_len]; exact Nat.le_refl _)]
    · cases e
  · rename_i k g n o m
    split at e
    · rename_i el gr g' w u xs hk
      cases hb : Nat.beq g g' with
      | false => rw [hb] at e; cases e
      | true =>
        rw [hb] at e
        have hg : g = g' := Nat.eq_of_beq_eq_true hb
        subst hg
        simp only [cond_true] at e
        split at e
        case h_2 => cases e
        rename_i xs2 hxs2
        cases e
        cases castL_eq hxs2
        simp only [SV.ok] at hx
        have hn := hx.1.2 _ _ _ _ _ hk
        have hl := ho.list _ _ _ _ _ _ _ hk
        simp only [SV.enc, slk_p hk]
        show (match szT P el with
          | some s' => cond (Nat.beq (n * s') (SO.list el gr g w t xs2).enc.cs.length && Nat.beq t.w s') (some (m, (((xs2.flatMap t.cells).map PV.f).drop (o * t.w)).take (m * t.w))) none
          | none => none) = _
        rw [hl.2.1]
        simp only [list_cs_len, hn, nbeq, Bool.and_self, cond_true]
        rw [← List.map_drop, ← List.map_take, flat_drop, flat_take]
        congr 1
        have := hx.2
        rw [List.length_take, List.length_drop, Nat.min_eq_left (by omega)]
    · cases e
  · cases e
omit [Yl] in
theorem flat_pone {t : Ty} (ys : List t.sem) : ((ys.flatMap t.cells).map PV.f).all pone = true := by
  rw [List.all_eq_true]
  intro x hx
  obtain ⟨y, _, rfl⟩ := List.mem_map.1 hx
  rfl

/-! ### Append -/
omit [Yl] in
theorem own_new' {h0 : SH} {el : TypeId} {gr : Bool} {k n m : Nat} {ty : Ty} {xs ys : List ty.sem} (hn : n = xs.length) (hm : m = ys.length) : (SV.own k h0.next (n + m)).ok (h0.new k fun v => .list el gr v v ty (xs ++ ys)) :=
  own_new (by rw [List.length_append, hn, hm])
def sappend (P : Program) (ts : List TypeId) (base x : SV) (k : Nat) (h : SH) (K : SV → SH → Tree R) : Tree R := match ts with
  | [st, xt] => (match elemT P st, elemT P xt with
    | some el, some _ => (match szT P el, tyOf P 8 el with
      | some (s + 1), some t => cond (Nat.beq t.w (s + 1) && smallT P el) (match snews t x h with
        | some ys => (match base with
          | .c (.slice none 0 0) => .ite (Nat.beq ys.length 0) (K base h)
              (.ite (Nat.ble (0 + ys.length) 1048576) (K (.own k h.next (0 + ys.length)) (h.new k fun v => .list el true v v t ([] ++ ys))) .fail)
          | .own j g n => (match slk j h.l with
            | some (.list el' gr g' _ u xs) => cond (Nat.beq el' el && Nat.beq g g') (match castL u t xs with
              | some xs => .ite (Nat.beq ys.length 0) (K base h)
                  (.ite (Nat.ble (n + ys.length) 1048576) (cond gr (K (.own j h.next (n + ys.length)) ((h.del j).new j fun v => .list el true v v t (xs ++ ys))) (K (.own k h.next (n + ys.length)) (h.new k fun v => .list el true v v t (xs ++ ys)))) .fail)
              | none => .fail) .fail
            | _ => .fail)
          | _ => .fail)
        | none => .fail) .fail
      | _, _ => .fail)
    | _, _ => .fail)
  | _ => .fail
omit [Yl] in
theorem pgrow_eq {el : TypeId} {t : Ty} {xs ys : List t.sem} {k : Nat} {ph : PHp} (h1 : Nat.ble (xs.length + ys.length) 1048576 = true) (h2 : smallT P el = true) :
    pgrow P el t.w ((xs.flatMap t.cells).map .f) xs.length ((ys.flatMap t.cells).map .f) ys.length k ph = some (.own k (xs.length + ys.length) 0 (xs.length + ys.length), (k, ⟨el, true, ((xs ++ ys).flatMap t.cells).map .f⟩) :: ph) := by
  unfold pgrow
  rw [h1, h2, List.length_map, flat_len, List.length_map, flat_len, flat_pone]
  simp only [nbeq, Bool.and_self, cond_true, pnew]
  rw [List.flatMap_append, List.map_append]
theorem sappend_ok {ts : List TypeId} {base x : SV} {k : Nat} {K : SV → SH → Tree R} (ho : OkH P h) (hb : base.ok h) (hx : x.ok h) (e : (sappend P ts base x k h K).run = some r) :
    ∃ v h', pappend P ts base.enc x.enc k (ench h.l) = some (v.enc, ench h'.l) ∧ Post P h h' v ∧ (K v h').run = some r := by
  unfold sappend at e
  split at e
  · rename_i st xt
    split at e
    · rename_i el el2 hel hel2
      split at e
      · rename_i s t hs hty
        have e_ := run_cond e
        clear e
        obtain ⟨c1, e⟩ := e_
        rw [Bool.and_eq_true] at c1
        have hw : s + 1 = t.w := (Nat.eq_of_beq_eq_true c1.1).symm
        split at e
        · rename_i ys hys
          have hnw := snews_ok ho hx hys
          split at e
          · have e_ := run_ite e
            clear e
            rcases e_ with ⟨z, e⟩ | ⟨z, e⟩
            · refine ⟨_, _, ?_, ⟨.refl _, ho, hb⟩, e⟩
              simp only [pappend, hel, hel2, hs, SV.enc, fvv]
              rw [hw, hnw]
              simp only [z, cond_true]
            · have e_ := run_ite e
              clear e
              rcases e_ with ⟨z2, e⟩ | ⟨z2, e⟩
              · have hn := okH_new (k := k) (f := fun v => .list el true v v t ([] ++ ys)) ho ⟨rfl, rfl, by rw [hs]; exact congrArg some hw, by omega⟩
                refine ⟨_, _, ?_, ⟨hn.1, hn.2, own_new' (xs := []) rfl rfl⟩, e⟩
                simp only [pappend, hel, hel2, hs, SV.enc, fvv]
                rw [hw, hnw]
                simp only [z, cond_false]
                exact pgrow_eq (xs := []) z2 c1.2
              · cases e
          · rename_i j g n
            split at e
            · rename_i el' gr g' w u xs0 hk
              have e_ := run_cond e
              clear e
              obtain ⟨c2, e⟩ := e_
              rw [Bool.and_eq_true] at c2
              have he : el' = el := Nat.eq_of_beq_eq_true c2.1
              have hg : g = g' := Nat.eq_of_beq_eq_true c2.2
              split at e
              · rename_i xs hxs
                have hcast := castL_eq hxs
                have hk2 : slk j h.l = some (.list el gr g w t xs) := by
                  rw [hk, he, ← hg]
                  cases hcast
                  rfl
                have hnl : n = xs.length := by
                  simp only [SV.ok] at hb
                  exact hb.2 _ _ _ _ _ hk2
                have pre : ∀ z : PV × PHp, (cond (Nat.beq ys.length 0) (some (PV.own j n 0 n, ench h.l))
                    (cond (Nat.ble (n + ys.length) n) (cond (Nat.beq ((ys.flatMap t.cells).map PV.f).length (ys.length * (s + 1)) && ((ys.flatMap t.cells).map PV.f).all pone) (some (PV.own j n 0 (n + ys.length), pset j { (SO.list el gr g w t xs).enc with cs := pover (SO.list el gr g w t xs).enc.cs (n * (s + 1)) ((ys.flatMap t.cells).map PV.f) } (ench h.l))) none)
                      (cond gr (pgrow P el (s + 1) (SO.list el gr g w t xs).enc.cs n ((ys.flatMap t.cells).map PV.f) ys.length j (pdel j (ench h.l))) (pgrow P el (s + 1) (SO.list el gr g w t xs).enc.cs n ((ys.flatMap t.cells).map PV.f) ys.length k (ench h.l))))) = some z →
                    pappend P [st, xt] (SV.own j g n).enc x.enc k (ench h.l) = some z := fun z hz => by
                  simp only [pappend, hel, hel2, hs, SV.enc]
                  rw [show pnews P (s + 1) x.enc (ench h.l) = _ from (hw ▸ hnw)]
                  simp only [slk_p hk2]
                  rw [show (SO.list el gr g w t xs).enc.el = el from rfl, show Nat.beq (n * (s + 1)) (SO.list el gr g w t xs).enc.cs.length = true by rw [list_cs_len, hw, hnl]; exact nbeq _]
                  simp only [nbeq, Bool.and_self, cond_true]
                  exact hz
                have e_ := run_ite e
                clear e
                rcases e_ with ⟨z, e⟩ | ⟨z, e⟩
                · refine ⟨_, _, pre _ ?_, ⟨.refl _, ho, hb⟩, e⟩
                  rw [z]; simp [SV.enc]
                · have e_ := run_ite e
                  clear e
                  rcases e_ with ⟨z2, e⟩ | ⟨z2, e⟩
                  · have hpos : Nat.ble (n + ys.length) n = false := by
                      cases hq : Nat.ble (n + ys.length) n with
                      | false => rfl
                      | true =>
                        have h0 := Nat.le_of_ble_eq_true hq
                        have : ys.length = 0 := by omega
                        rw [this] at z
                        cases z
                    cases hgr : gr with
                    | true =>
                      rw [hgr] at e
                      have hd := okH_del (k := j) ho
                      have hn := okH_new (h := h.del j) (k := j) (f := fun v => .list el true v v t (xs ++ ys)) hd.2 ⟨rfl, rfl, by rw [hs]; exact congrArg some hw, by omega⟩
                      refine ⟨_, _, pre _ ?_, ⟨hd.1.trans hn.1, hn.2, own_new' (h0 := h.del j) hnl rfl⟩, e⟩
                      rw [z, hpos, hgr]
                      simp only [cond_true, cond_false]
                      rw [hw, hnl]
                      rw [hnl] at z2
                      rw [show (SO.list el true g w t xs).enc.cs = (xs.flatMap t.cells).map .f from rfl, pgrow_eq z2 c1.2, ← ench_del]
                      rfl
                    | false =>
                      rw [hgr] at e
                      have hn := okH_new (h := h) (k := k) (f := fun v => .list el true v v t (xs ++ ys)) ho ⟨rfl, rfl, by rw [hs]; exact congrArg some hw, by omega⟩
                      refine ⟨_, _, pre _ ?_, ⟨hn.1, hn.2, own_new' (h0 := h) hnl rfl⟩, e⟩
                      rw [z, hpos, hgr]
                      simp only [cond_true, cond_false]
                      rw [hw, hnl]
                      rw [hnl] at z2
                      rw [show (SO.list el false g w t xs).enc.cs = (xs.flatMap t.cells).map .f from rfl, pgrow_eq z2 c1.2]
                      rfl
                  · cases e
              · cases e
            · cases e
          · cases e
        · cases e
      · cases e
    · cases e
  · cases e
end
end Go.Sv

namespace Go.Sv
open Go.Idl
noncomputable section
variable [Yl]
variable {P : Program} {h : SH} {R : Type} {r : R}

/-! ### Copy -/
def putL {α : Type} (xs ys : List α) (o c : Nat) : List α := xs.take o ++ (ys.take c ++ xs.drop (o + c))
omit [Yl] in
theorem putL_len {α : Type} {xs ys : List α} {o c : Nat} (h1 : o + c ≤ xs.length) (h2 : c ≤ ys.length) : xs.length = (putL xs ys o c).length := by
  simp [putL]; omega
omit [Yl] in
theorem putL_flat {t : Ty} {xs ys : List t.sem} {o c : Nat} (h2 : c ≤ ys.length) :
    pover ((xs.flatMap t.cells).map PV.f) (o * t.w) (((ys.flatMap t.cells).map PV.f).take (c * t.w)) = ((putL xs ys o c).flatMap t.cells).map PV.f := by
  have hl : (((ys.flatMap t.cells).map PV.f).take (c * t.w)).length = c * t.w := by
    rw [List.length_take, List.length_map, flat_len]
    exact Nat.min_eq_left (Nat.mul_le_mul_right _ h2)
  unfold pover
  rw [hl, ← Nat.add_mul, ← List.map_take, ← List.map_take, ← List.map_drop, flat_take, flat_take, flat_drop]
  unfold putL
  simp [List.flatMap_append, List.append_assoc]
def scopy (P : Program) (ts : List TypeId) (base x : SV) (h : SH) (K : SV → SH → Tree R) : Tree R := match ts with
  | [st, xt] => (match elemT P st, elemT P xt with
    | some el, some _ => (match szT P el, tyOf P 8 el with
      | some (s + 1), some t => cond (Nat.beq t.w (s + 1)) (match snews t x h with
        | some ys => (match base with
          | .own j g n => (match slk j h.l with
            | some (.list el' gr g' _ u xs) => cond (Nat.beq el' el && Nat.beq g g') (match castL u t xs with
              | some xs => K (.d (.int .i64) ((Nat.min ys.length n : Nat) : Int)) (h.put j fun v => .list el gr g v t (putL xs ys 0 (Nat.min ys.length n)))
              | none => .fail) .fail
            | _ => .fail)
          | .sl j g n o m => (match slk j h.l with
            | some (.list el' gr g' _ u xs) => cond (Nat.beq el' el && Nat.beq g g') (match castL u t xs with
              | some xs => K (.d (.int .i64) ((Nat.min ys.length m : Nat) : Int)) (h.put j fun v => .list el gr g v t (putL xs ys o (Nat.min ys.length m)))
              | none => .fail) .fail
            | _ => .fail)
          | .d (.list _ _) xs => .ite (Nat.beq (List.length xs) 0) (K (.d (.int .i64) 0) h) .fail
          | .c (.slice none 0 _) => K (.d (.int .i64) 0) h
          | _ => .fail)
        | none => .fail) .fail
      | _, _ => .fail)
    | _, _ => .fail)
  | _ => .fail
theorem scopy_ok {ts : List TypeId} {base x : SV} {K : SV → SH → Tree R} (ho : OkH P h) (hb : base.ok h) (hx : x.ok h) (e : (scopy P ts base x h K).run = some r) :
    ∃ v h', pcopy P ts base.enc x.enc (ench h.l) = some (v.enc, ench h'.l) ∧ Post P h h' v ∧ (K v h').run = some r := by
  unfold scopy at e
  split at e
  · rename_i st xt
    split at e
    · rename_i el el2 hel hel2
      split at e
      · rename_i s t hs hty
        have e_ := run_cond e
        clear e
        obtain ⟨c1, e⟩ := e_
        have hw : s + 1 = t.w := (Nat.eq_of_beq_eq_true c1).symm
        split at e
        · rename_i ys hys
          have hnw : pnews P (s + 1) x.enc (ench h.l) = some (ys.length, (ys.flatMap t.cells).map .f) := hw ▸ snews_ok ho hx hys
          have hlen : ((ys.flatMap t.cells).map PV.f).length = ys.length * (s + 1) := by rw [List.length_map, flat_len, hw]
          have key : ∀ {j g n o m w : Nat} {gr : Bool} {xs : List t.sem}, slk j h.l = some (.list el gr g w t xs) → n = xs.length → o + m ≤ n →
              (K (.d (.int .i64) ((Nat.min ys.length m : Nat) : Int)) (h.put j fun v => .list el gr g v t (putL xs ys o (Nat.min ys.length m)))).run = some r →
              ∃ v h', pcopy P [st, xt] (.own j n o m) x.enc (ench h.l) = some (v.enc, ench h'.l) ∧ Post P h h' v ∧ (K v h').run = some r := by
            intro j g n o m w gr xs hk hn hom e
            have hc : Nat.min ys.length m ≤ ys.length := Nat.min_le_left _ _
            have hc2 : Nat.min ys.length m ≤ m := Nat.min_le_right _ _
            have hp := okH_put (f := fun v => .list el gr g v t (putL xs ys o (Nat.min ys.length m))) ho hk ⟨_, rfl, putL_len (by omega) hc⟩
            refine ⟨_, _, ?_, ⟨hp.1, hp.2, by simp [SV.ok]⟩, e⟩
            simp only [pcopy, hel, hel2, hs, hnw, slk_p hk]
            rw [show (SO.list el gr g w t xs).enc.el = el from rfl, show Nat.beq (n * (s + 1)) (SO.list el gr g w t xs).enc.cs.length = true by rw [list_cs_len, hw, hn]; exact nbeq _, hlen, flat_pone]
            simp only [nbeq, Bool.and_self, cond_true]
            rw [show ench (h.put j fun v => .list el gr g v t (putL xs ys o (Nat.min ys.length m))).l = pset j (SO.list el gr g h.next t (putL xs ys o (Nat.min ys.length m))).enc (ench h.l) from ench_set j _ _]
            rw [hw]
            show some (_, pset j ⟨el, gr, pover ((xs.flatMap t.cells).map PV.f) (o * t.w) _⟩ (ench h.l)) = some (_, pset j ⟨el, gr, ((putL xs ys o (Nat.min ys.length m)).flatMap t.cells).map PV.f⟩ (ench h.l))
            rw [putL_flat hc]
            simp [SV.enc, Ty.fv, fvv]
          split at e
          · rename_i j g n
            split at e
            · rename_i el' gr g' w u xs0 hk
              have e_ := run_cond e
              clear e
              obtain ⟨c2, e⟩ := e_
              rw [Bool.and_eq_true] at c2
              have he : el' = el := Nat.eq_of_beq_eq_true c2.1
              have hg : g = g' := Nat.eq_of_beq_eq_true c2.2
              split at e
              · rename_i xs hxs
                have hcast := castL_eq hxs
                have hk2 : slk j h.l = some (.list el gr g w t xs) := by
                  rw [hk, he, ← hg]
                  cases hcast
                  rfl
                simp only [SV.ok] at hb
                exact key hk2 (hb.2 _ _ _ _ _ hk2) (by omega) e
              · cases e
            · cases e
          · rename_i j g n o m
            split at e
            · rename_i el' gr g' w u xs0 hk
              have e_ := run_cond e
              clear e
              obtain ⟨c2, e⟩ := e_
              rw [Bool.and_eq_true] at c2
              have he : el' = el := Nat.eq_of_beq_eq_true c2.1
              have hg : g = g' := Nat.eq_of_beq_eq_true c2.2
              split at e
              · rename_i xs hxs
                have hcast := castL_eq hxs
                have hk2 : slk j h.l = some (.list el gr g w t xs) := by
                  rw [hk, he, ← hg]
                  cases hcast
                  rfl
                simp only [SV.ok] at hb
                exact key hk2 (hb.1.2 _ _ _ _ _ hk2) hb.2 e
              · cases e
            · cases e
          · rename_i el' u xs
            rcases run_ite e with ⟨z, e⟩ | ⟨z, e⟩
            · refine ⟨_, _, ?_, ⟨.refl _, ho, by simp [SV.ok]⟩, e⟩
              have hz : xs = [] := List.length_eq_zero_iff.1 (Nat.eq_of_beq_eq_true z)
              subst hz
              simp [pcopy, hel, hel2, hs, hnw, SV.enc, Ty.fv, fvv]
            · cases e
          · refine ⟨_, _, ?_, ⟨.refl _, ho, by simp [SV.ok]⟩, e⟩
            simp [pcopy, hel, hel2, hs, hnw, SV.enc, Ty.fv, fvv]
          · cases e
        · cases e
      · cases e
    · cases e
  · cases e

/-! ### Slices -/
def bndI (most : Nat) (i : Int) : Option Nat := if 0 ≤ i ∧ i ≤ (most : Int) then some i.toNat else none
def sbnd (d most : Nat) (x : Option SV) (K : Nat → Tree R) : Tree R := match x with
  | none => K d
  | some v => (match asI v with
    | some (_, i) => .bind (bndI most i) K
    | none => .fail)
theorem sbnd_ok {d most : Nat} {x : Option SV} {K : Nat → Tree R} (e : (sbnd d most x K).run = some r) : ∃ n, bnd d most (x.map SV.enc) = some n ∧ (n = d ∨ n ≤ most) ∧ (K n).run = some r := by
  unfold sbnd at e
  split at e
  · exact ⟨d, rfl, .inl rfl, e⟩
  · rename_i v
    split at e
    · rename_i k i hi
      have e_ := run_bind e
      clear e
      obtain ⟨n, hn, e⟩ := e_
      refine ⟨n, ?_, .inr ?_, e⟩
      · simp only [Option.map_some, asI_enc hi, fvv, bnd]; exact hn
      · unfold bndI at hn
        split at hn
        · cases hn; omega
        · cases hn
    · cases e
def sslice (P : Program) (t : TypeId) (x : SV) (lo hi : Option SV) (h : SH) (K : SV → Tree R) : Tree R := match x with
  | .d (.list el u) xs => (match elemT P t, szT P el with
    | some el', some s => cond (Nat.beq el' el && Nat.beq s u.w) (sbnd (List.length xs) (List.length xs) hi fun b => sbnd 0 b lo fun a => K (.d (.list el u) ((List.drop a xs).take (b - a)))) .fail
    | _, _ => .fail)
  | .c (.slice none 0 0) => (match elemT P t with
    | some el => cond (szT P el).isSome (sbnd 0 0 hi fun _ => sbnd 0 0 lo fun _ => K x) .fail
    | none => .fail)
  | .own k g n => (match elemT P t, slk k h.l with
    | some el', some (.list el _ g' _ u _) => cond (Nat.beq el' el && Nat.beq g g') (sbnd n n hi fun b => sbnd 0 b lo fun a =>
        .ite (Nat.beq a 0) (K (.sl k g n 0 b)) (.ite (Nat.beq a b) (K (.d (.list el u) [])) (K (.sl k g n a (b - a))))) .fail
    | _, _ => .fail)
  | .sl k g n o m => (match elemT P t, slk k h.l with
    | some el', some (.list el _ g' _ u _) => cond (Nat.beq el' el && Nat.beq g g') (sbnd m m hi fun b => sbnd 0 b lo fun a =>
        .ite (Nat.beq a 0) (K (.sl k g n o b)) (.ite (Nat.beq a b) (K (.d (.list el u) [])) (K (.sl k g n (o + a) (b - a))))) .fail
    | _, _ => .fail)
  | _ => .fail
theorem sslice_ok {t : TypeId} {x : SV} {lo hi : Option SV} {K : SV → Tree R} (ho : OkH P h) (hx : x.ok h) (e : (sslice P t x lo hi h K).run = some r) :
    ∃ v, pslice P t x.enc (lo.map SV.enc) (hi.map SV.enc) (ench h.l) = some v.enc ∧ v.ok h ∧ (K v).run = some r := by
  unfold sslice at e
  have key : ∀ {k g n o m w : Nat} {gr : Bool} {el el' : TypeId} {u : Ty} {xs : List u.sem}, slk k h.l = some (.list el gr g w u xs) → n = xs.length → o + m ≤ n → g < h.next → elemT P t = some el' → Nat.beq el' el = true →
      ∀ a b, bnd m m (hi.map SV.enc) = some b → b ≤ m → bnd 0 b (lo.map SV.enc) = some a → a ≤ b →
      (Tree.ite (Nat.beq a 0) (K (.sl k g n o b)) (.ite (Nat.beq a b) (K (.d (.list el u) [])) (K (.sl k g n (o + a) (b - a))))).run = some r →
      ∃ v, pslice P t (.own k n o m) (lo.map SV.enc) (hi.map SV.enc) (ench h.l) = some v.enc ∧ v.ok h ∧ (K v).run = some r := by
    intro k g n o m w gr el el' u xs hk hn hom hg hel hbe a b hb hbm ha hab e
    have hl := ho.list _ _ _ _ _ _ _ hk
    have pre : pslice P t (.own k n o m) (lo.map SV.enc) (hi.map SV.enc) (ench h.l) = some (cond (Nat.beq a 0) (.own k n o b) (cond (Nat.beq a b) (.f (.l el 0 [])) (.own k n (o + a) (b - a)))) := by
      simp only [pslice, slk_p hk, hel]
      rw [show (SO.list el gr g w u xs).enc.el = el from rfl, hl.2.1, hb]
      simp only [ha, list_cs_len, hn, nbeq, hbe, Bool.and_self, cond_true]
    have hsl : SlOk h k g n := ⟨hg, fun el2 gr2 w2 t2 xs2 hk2 => by
      rw [hk] at hk2
      cases hk2
      exact hn⟩
    rw [pre]
    rcases run_ite e with ⟨z, e⟩ | ⟨z, e⟩
    · exact ⟨_, by rw [z]; simp [SV.enc], by simp only [SV.ok]; exact ⟨hsl, by omega⟩, e⟩
    · rcases run_ite e with ⟨z2, e⟩ | ⟨z2, e⟩
      · exact ⟨_, by rw [z, z2]; simp [SV.enc, Ty.fv], by simp [SV.ok], e⟩
      · exact ⟨_, by rw [z, z2]; simp [SV.enc], by simp only [SV.ok]; exact ⟨hsl, by omega⟩, e⟩
  split at e
  · rename_i el u xs
    split at e
    · rename_i el' s hel hs
      have e_ := run_cond e
      clear e
      obtain ⟨c1, e⟩ := e_
      rw [Bool.and_eq_true] at c1
      have hw : s = u.w := Nat.eq_of_beq_eq_true c1.2
      have he : el' = el := Nat.eq_of_beq_eq_true c1.1
      subst hw he
      obtain ⟨b, hb, hb2, e1⟩ := sbnd_ok e
      obtain ⟨a, ha, ha2, e2⟩ := sbnd_ok e1
      have hbl : b ≤ xs.length := by rcases hb2 with q | q <;> omega
      have hab : a ≤ b := by rcases ha2 with q | q <;> omega
      refine ⟨_, ?_, by simp [SV.ok], e2⟩
      simp only [SV.enc, Ty.fv, pslice, hel, hs, hb, ha, nbeq, flat_len, Bool.and_self, cond_true]
      rw [flat_drop, flat_take]
      cases hq : Nat.beq a b with
      | true =>
        have : a = b := Nat.eq_of_beq_eq_true hq
        subst this
        simp
      | false =>
        simp only [cond_false, List.length_take, List.length_drop]
        rw [Nat.min_eq_left (by omega)]
    · cases e
  · split at e
    · rename_i el hel
      have e_ := run_cond e
      clear e
      obtain ⟨c1, e⟩ := e_
      obtain ⟨b, hb, hb2, e1⟩ := sbnd_ok e
      obtain ⟨a, ha, ha2, e2⟩ := sbnd_ok e1
      refine ⟨_, ?_, by simp [SV.ok], e2⟩
      have hb' : bnd 0 0 (hi.map SV.enc) = some b := hb
      simp only [SV.enc, fvv, pslice, hel, hb', ha, c1, cond_true]
    · cases e
  · rename_i k g n
    split at e
    · rename_i el' el gr g' w u xs hel hk
      have e_ := run_cond e
      clear e
      obtain ⟨c1, e⟩ := e_
      rw [Bool.and_eq_true] at c1
      have hg : g = g' := Nat.eq_of_beq_eq_true c1.2
      subst hg
      obtain ⟨b, hb, hb2, e1⟩ := sbnd_ok e
      obtain ⟨a, ha, ha2, e2⟩ := sbnd_ok e1
      simp only [SV.ok] at hx
      refine key hk (hx.2 _ _ _ _ _ hk) (by omega) hx.1 hel c1.1 a b hb (by rcases hb2 with q | q <;> omega) ha (by rcases ha2 with q | q <;> omega) ?_
      rw [Nat.zero_add]; exact e2
    · cases e
  · rename_i k g n o m
    split at e
    · rename_i el' el gr g' w u xs hel hk
      have e_ := run_cond e
      clear e
      obtain ⟨c1, e⟩ := e_
      rw [Bool.and_eq_true] at c1
      have hg : g = g' := Nat.eq_of_beq_eq_true c1.2
      subst hg
      obtain ⟨b, hb, hb2, e1⟩ := sbnd_ok e
      obtain ⟨a, ha, ha2, e2⟩ := sbnd_ok e1
      simp only [SV.ok] at hx
      exact key hk (hx.1.2 _ _ _ _ _ hk) hx.2 hx.1.1 hel c1.1 a b hb (by rcases hb2 with q | q <;> omega) ha (by rcases ha2 with q | q <;> omega) e2
    · cases e
  · cases e
end
end Go.Sv

namespace Go.Sv
open Go.Idl
noncomputable section
variable [Yl]
variable {P : Program} {h : SH} {R : Type} {r : R}

/-! ### What the model's own run yields -/
def decPI (k : IntKind) : PV → Option Int
  | .f (.v (.int k' x)) => cond (decide (k' = k)) (some x) none
  | _ => none
def decPB : PV → Option Bool
  | .f (.v (.bool x)) => some x
  | _ => none
def decPS : PV → Option ByteArray
  | .f (.v (.string x)) => some x
  | _ => none
def Ty.decP : (t : Ty) → PV → Option t.sem
  | .int k, p => decPI k p
  | .bool, p => decPB p
  | .str, p => decPS p
  | .unit, _ => none
  | .list _ _, _ => none
  | .pair _ _, _ => none
omit [Yl] in
theorem decP_eq : ∀ {t : Ty} {p : PV} {x : t.sem}, t.decP p = some x → p = .f (t.fv x)
  | .int k, p, x, e => by
    have e1 : decPI k p = some x := e
    clear e
    unfold decPI at e1
    split at e1
    · rename_i k' y
      have e := e1
      clear e1
      cases hk : decide (k' = k) with
      | false => rw [hk] at e; cases e
      | true =>
        rw [hk] at e
        cases e
        have : k' = k := by simpa using hk
        subst this
        rfl
    · cases e1
  | .bool, p, x, e => by
    have e1 : decPB p = some x := e
    clear e
    unfold decPB at e1
    split at e1
    · cases e1; rfl
    · cases e1
  | .str, p, x, e => by
    have e1 : decPS p = some x := e
    clear e
    unfold decPS at e1
    split at e1
    · cases e1; rfl
    · cases e1
  | .unit, _, _, e => by cases e
  | .list _ _, _, _, e => by cases e
  | .pair _ _, _, _, e => by cases e
def Ty.decPO (t : Ty) (o : Option PV) : Option t.sem := o.bind t.decP
theorem decPO_eq {t : Ty} {o : Option PV} {x : t.sem} (e : t.decPO o = some x) : o = some (SV.d t x).enc := by
  obtain ⟨p, h1, h2⟩ := Option.bind_eq_some_iff.1 e
  rw [h1, decP_eq h2]; simp [SV.enc]
def splain : SV → Option Value
  | .d (.int k) x => some (.int k x)
  | .d .bool x => some (.bool x)
  | .d .str x => some (.string x)
  | .c v => some v
  | _ => none
theorem splain_enc {v : SV} {a : Value} (e : splain v = some a) : v.enc = fvv a := by
  unfold splain at e
  split at e <;> cases e <;> simp [SV.enc, Ty.fv, fvv]

/-! ### Operators -/
def sint (op : BinOp) (k : IntKind) (a b : Int) (K : SV → Tree R) (F : Tree R) : Tree R := match op with
  | .lss => K (.d .bool (decide (a < b)))
  | .leq => K (.d .bool (decide (a ≤ b)))
  | .gtr => K (.d .bool (decide (b < a)))
  | .geq => K (.d .bool (decide (b ≤ a)))
  | .eql => K (.d .bool (a == b))
  | .neq => K (.d .bool (a != b))
  | .add => K (.d (.int k) (k.wrap (a + b)))
  | .sub => K (.d (.int k) (k.wrap (a - b)))
  | .mul => K (.d (.int k) (k.wrap (a * b)))
  | .quo => .bind (quoI k a b) fun c => K (.d (.int k) c)
  | .rem => .bind (remI a b) fun c => K (.d (.int k) c)
  | _ => F
def splainL : List SV → Option (List Value)
  | [] => some []
  | v :: l => match splain v, splainL l with
    | some a, some b => some (a :: b)
    | _, _ => none
/-- whole structures, too -/
def splainA : SV → Option Value
  | .agg l => (match splainL l with
    | some vs => some (.agg vs.toArray)
    | none => none)
  | v => splain v
theorem splainL_pl : ∀ {l : List SV} {vs : List Value}, splainL l = some vs → pl1L (encL l) = some vs
  | [], vs, e => by cases e; simp [encL, pl1L]
  | v :: l, vs, e => by
    unfold splainL at e
    split at e
    · rename_i a b ha hb
      cases e
      simp only [encL, splain_enc ha, fvv, pl1L, pl1, splainL_pl hb]
    · cases e
theorem splainA_pl {v : SV} {a : Value} (e : splainA v = some a) : pl v.enc = some a := by
  unfold splainA at e
  split at e
  · rename_i l
    split at e
    · rename_i vs hvs
      cases e
      simp only [SV.enc, pl, splainL_pl hvs]
    · cases e
  · rw [splain_enc e]
    rfl
omit [Yl] in
theorem pbin_pl {op : BinOp} {t t2 : TypeId} {x y : PV} {a b : Value} {ph : PHp} (hx : pl x = some a) (hy : pl y = some b) : pbin P op t t2 x y ph = pbin P op t t2 (fvv a) (fvv b) [] := by
  unfold pbin
  rw [hx, hy]
  rfl
def sfall (P : Program) (op : BinOp) (t t2 ty : TypeId) (x y : SV) (K : SV → Tree R) : Tree R := match splainA x, splainA y, tyOf P 8 ty with
  | some a, some b, some u => .bind (u.decPO (pbin P op t t2 (fvv a) (fvv b) [])) fun z => K (.d u z)
  | _, _, _ => .fail
/-- a slice or a function, held against nil -/
def snil (P : Program) (t : TypeId) (x y : SV) (h : SH) : Option Bool := match y with
  | .c (.slice none _ _) => cond (elemT P t).isSome (match x with
    | .own k g n => (match slk k h.l with
      | some (.list _ gr g' _ _ _) => cond (Nat.beq g g') (some (gr && Nat.beq n 0)) none
      | _ => none)
    | _ => none) none
  | .c .nilFunc => cond (funcT P t) (match x with
    | .fn _ _ _ => some false
    | _ => none) none
  | _ => none
theorem snil_ok {t : TypeId} {x y : SV} {b : Bool} (ho : OkH P h) (hx : x.ok h) (e : snil P t x y h = some b) : pnil P t x.enc y.enc (ench h.l) = some b ∧ pl x.enc = none := by
  unfold snil at e
  split at e
  · rename_i n c
    cases h1 : (elemT P t).isSome with
    | false => rw [h1] at e; cases e
    | true =>
      rw [h1] at e
      simp only [cond_true] at e
      split at e
      · rename_i k g n
        split at e
        · rename_i el gr g' w u xs hk
          cases h2 : Nat.beq g g' with
          | false => rw [h2] at e; cases e
          | true =>
            rw [h2] at e
            cases e
            have hg : g = g' := Nat.eq_of_beq_eq_true h2
            subst hg
            simp only [SV.ok] at hx
            have hn := hx.2 _ _ _ _ _ hk
            have hl := ho.list _ _ _ _ _ _ _ hk
            refine ⟨?_, by simp [SV.enc, pl]⟩
            simp only [SV.enc, fvv, pnil, h1, cond_true, isNil, slk_p hk]
            rw [show (SO.list el gr g w u xs).enc.el = el from rfl, hl.2.1]
            simp only [list_cs_len, hn, nbeq, cond_true]
            rfl
        · cases e
      · cases e
  · cases h1 : funcT P t with
    | false => rw [h1] at e; cases e
    | true =>
      rw [h1] at e
      simp only [cond_true] at e
      split at e
      · cases e
        exact ⟨by simp [SV.enc, fvv, pnil, h1, isNilF], by simp [SV.enc, pl]⟩
      · cases e
  · cases e
def sbin (P : Program) (op : BinOp) (t t2 ty : TypeId) (x y : SV) (h : SH) (K : SV → Tree R) : Tree R := match asI x, asI y with
  | some (k, a), some (k', b) => cond (decide (k = k')) (sint op k a b K (sfall P op t t2 ty x y K)) (sfall P op t t2 ty x y K)
  | _, _ => (match snil P t x y h, op with
    | some b, .eql => K (.d .bool b)
    | some b, .neq => K (.d .bool (!b))
    | _, _ => sfall P op t t2 ty x y K)
theorem sfall_ok {op : BinOp} {t t2 ty : TypeId} {x y : SV} {K : SV → Tree R} (e : (sfall P op t t2 ty x y K).run = some r) : ∃ v, pbin P op t t2 x.enc y.enc (ench h.l) = some v.enc ∧ v.ok h ∧ (K v).run = some r := by
  unfold sfall at e
  split at e
  · rename_i a b u ha hb hu
    obtain ⟨z, hz, e1⟩ := run_bind e
    refine ⟨_, ?_, by simp [SV.ok], e1⟩
    rw [pbin_pl (splainA_pl ha) (splainA_pl hb)]
    exact decPO_eq hz
  · cases e
theorem sbin_ok {op : BinOp} {t t2 ty : TypeId} {x y : SV} {K : SV → Tree R} (ho : OkH P h) (hx : x.ok h) (e : (sbin P op t t2 ty x y h K).run = some r) : ∃ v, pbin P op t t2 x.enc y.enc (ench h.l) = some v.enc ∧ v.ok h ∧ (K v).run = some r := by
  unfold sbin at e
  split at e
  · rename_i k a k' b ha hb
    cases hk : decide (k = k') with
    | false => rw [hk] at e; exact sfall_ok e
    | true =>
      rw [hk] at e
      have hkk : k = k' := by simpa using hk
      subst hkk
      simp only [cond_true] at e
      have ha' := asI_enc ha
      have hb' := asI_enc hb
      have fin : ∀ {v : SV}, pbin P op t t2 (fvv (.int k a)) (fvv (.int k b)) (ench h.l) = some v.enc → v.ok h → (K v).run = some r → ∃ v, pbin P op t t2 x.enc y.enc (ench h.l) = some v.enc ∧ v.ok h ∧ (K v).run = some r := fun h1 h2 h3 => ⟨_, by rw [ha', hb']; exact h1, h2, h3⟩
      unfold sint at e
      split at e
      · exact fin (v := .d .bool (decide (a < b))) pb_lss (by simp [SV.ok]) e
      · exact fin (v := .d .bool (decide (a ≤ b))) pb_leq (by simp [SV.ok]) e
      · exact fin (v := .d .bool (decide (b < a))) pb_gtr (by simp [SV.ok]) e
      · exact fin (v := .d .bool (decide (b ≤ a))) pb_geq (by simp [SV.ok]) e
      · exact fin (v := .d .bool (a == b)) pb_eql (by simp [SV.ok]) e
      · exact fin (v := .d .bool (a != b)) pb_neq (by simp [SV.ok]) e
      · exact fin (v := .d (.int k) (k.wrap (a + b))) pb_add (by simp [SV.ok]) e
      · exact fin (v := .d (.int k) (k.wrap (a - b))) pb_sub (by simp [SV.ok]) e
      · exact fin (v := .d (.int k) (k.wrap (a * b))) pb_mul (by simp [SV.ok]) e
      · obtain ⟨c, hc, e1⟩ := run_bind e
        exact fin (v := .d (.int k) c) (pb_quo hc) (by simp [SV.ok]) e1
      · obtain ⟨c, hc, e1⟩ := run_bind e
        exact fin (v := .d (.int k) c) (pb_rem hc) (by simp [SV.ok]) e1
      · exact sfall_ok e
  · split at e
    · rename_i b hs
      obtain ⟨h1, h2⟩ := snil_ok ho hx hs
      refine ⟨_, ?_, by simp [SV.ok], e⟩
      unfold pbin
      rw [h2]
      simp [h1, SV.enc, Ty.fv, fvv]
    · rename_i b hs
      obtain ⟨h1, h2⟩ := snil_ok ho hx hs
      refine ⟨_, ?_, by simp [SV.ok], e⟩
      unfold pbin
      rw [h2]
      simp [h1, SV.enc, Ty.fv, fvv]
    · exact sfall_ok e
/-- an operation of one operand, by the model's own run -/
def sdry1 (P : Program) (mk : Operand → Op) (ty : TypeId) (x : SV) (K : SV → Tree R) : Tree R := match splain x, tyOf P 8 ty with
  | some a, some u => .bind (u.decPO (pdry1 P mk (fvv a))) fun z => K (.d u z)
  | _, _ => .fail
theorem sdry1_ok {mk : Operand → Op} {ty : TypeId} {x : SV} {K : SV → Tree R} (e : (sdry1 P mk ty x K).run = some r) : ∃ v, pdry1 P mk x.enc = some v.enc ∧ v.ok h ∧ (K v).run = some r ∧ ∃ a, splain x = some a := by
  unfold sdry1 at e
  split at e
  · rename_i a u ha hu
    obtain ⟨z, hz, e1⟩ := run_bind e
    exact ⟨_, by rw [splain_enc ha]; exact decPO_eq hz, by simp [SV.ok], e1, a, ha⟩
  · cases e
def sun (P : Program) (op : UnOp) (t ty : TypeId) (x : SV) (K : SV → Tree R) : Tree R := match op, asI x, asB x with
  | .neg, some (k, a), _ => K (.d (.int k) (k.wrap (0 - a)))
  | .not, _, some b => K (.d .bool (!b))
  | _, _, _ => sdry1 P (fun a => .unOp op t a) ty x K
omit [Yl] in
theorem pu_negI {k : IntKind} {x : Int} {t : TypeId} : pdry1 P (fun a => .unOp .neg t a) (fvv (.int k x)) = some (fvv (.int k (k.wrap (0 - x)))) := rfl
theorem sun_ok {op : UnOp} {t ty : TypeId} {x : SV} {K : SV → Tree R} (e : (sun P op t ty x K).run = some r) : ∃ v, pdry1 P (fun a => .unOp op t a) x.enc = some v.enc ∧ v.ok h ∧ (K v).run = some r := by
  unfold sun at e
  split at e
  · rename_i k a ha
    exact ⟨_, by rw [asI_enc ha, pu_negI]; simp [SV.enc, Ty.fv, fvv], by simp [SV.ok], e⟩
  · rename_i b hb
    exact ⟨_, by rw [asB_enc hb, pu_not]; simp [SV.enc, Ty.fv, fvv], by simp [SV.ok], e⟩
  · obtain ⟨v, h1, h2, h3, _⟩ := sdry1_ok (h := h) e
    exact ⟨v, h1, h2, h3⟩

/-! ### One operation -/
def sparts (env : List SV) (parts : Array (Nat × Operand)) : List (Nat × SV) := parts.toList.map fun p => (p.1, sval env p.2)
theorem sparts_enc (env : List SV) (parts : Array (Nat × Operand)) : (parts.toList.map fun p => (p.1, pval (encL env) p.2)) = encP (sparts env parts) := by
  simp [sparts, encP, sval_enc]
omit [Yl] in
theorem sparts_ok {env : List SV} (ho : okL h env) (parts : Array (Nat × Operand)) : ∀ p ∈ sparts env parts, p.2.ok h := fun p hp => by
  obtain ⟨q, _, rfl⟩ := List.mem_map.1 hp
  exact sval_ok ho _
def sargs (env : List SV) (l : Array Operand) : List SV := l.toList.map (sval env)
theorem sargs_enc (env : List SV) (l : Array Operand) : l.toList.map (pval (encL env)) = encL (sargs env l) := by
  unfold sargs
  rw [encL_map (l.toList.map (sval env)), List.map_map]
  exact List.map_congr_left fun x _ => sval_enc env x
omit [Yl] in
theorem sargs_ok {env : List SV} (ho : okL h env) (l : Array Operand) : okL h (sargs env l) := okL_iff.2 fun x hx => by
  obtain ⟨q, _, rfl⟩ := List.mem_map.1 hx
  exact sval_ok ho _
def sameOp : Operand → Operand → Bool
  | .tmp i, .tmp j => Nat.beq i j
  | .const (.int k a), .const (.int k' b) => decide (k = k') && decide (a = b)
  | _, _ => false
omit [Yl] in
theorem sameOp_eq {a b : Operand} (e : sameOp a b = true) : a = b := by
  unfold sameOp at e
  split at e
  · rw [Nat.eq_of_beq_eq_true e]
  · rw [Bool.and_eq_true] at e
    have h1 := of_decide_eq_true e.1
    have h2 := of_decide_eq_true e.2
    rw [h1, h2]
  · cases e
def gv (o : Option SV) (h : SH) (K : SV → SH → Tree R) : Tree R := match o with
  | some v => K v h
  | none => .fail
def sop (P : Program) (o : Oper) (env : List SV) (k : Nat) (h : SH) (K : SV → SH → Tree R) : Tree R := match o.op with
  | .move x => K (sval env x) h
  | .assign x => K (sval env x) h
  | .pick c a b => (match asB (sval env c) with
    | some t => .ite t (K (sval env a) h) (K (sval env b) h)
    | none => .fail)
  | .alloc el => salloc P el k h K
  | .box el x => sbox el (sval env x) k h K
  | .build t parts => gv (sbuild P t (sparts env parts)) h K
  | .buildSlice t len parts => sbuildSlice P t len (sparts env parts) k h K
  | .load t a => sload P t (sval env a) h fun v => K v h
  | .store t a x => sstore P t (sval env a) (sval env x) h K
  | .nilCheck x => gv (snilCheck (sval env x) h) h K
  | .binOp op t x y t2 => sbin P op t t2 o.type (sval env x) (sval env y) h fun v => K v h
  | .unOp op t x => sun P op t o.type (sval env x) fun v => K v h
  | .convert s d x => cond (isPtr (sval env x).enc) .fail (sdry1 P (fun a => .convert s d a) o.type (sval env x) fun v => K v h)
  | .makeFunc fn first cap => gv (smakeFunc fn (sargs env first) (sargs env cap)) h K
  | .makeSlice t l c => cond (sameOp l c) (smake P t (sval env l) k h K) .fail
  | .slice t x lo hi none => sslice P t (sval env x) (lo.map (sval env)) (hi.map (sval env)) h fun v => K v h
  | .fieldAddr t x i => gv (sfieldAddr P t (sval env x) i h) h K
  | .field t x i => gv (sfield P t (sval env x) i) h K
  | .indexAddr t x ix => sindexAddr P t (sval env x) (sval env ix) h fun v => K v h
  | .index t x ix => sindex P t (sval env x) (sval env ix) fun v => K v h
  | .extract t i => gv (sextract (sval env t) i) h K
  | .call c => (match c.callee, sargs env c.args with
    | .builtin .append, [x, y] => sappend P c.argTypes.toList x y k h K
    | .builtin .copy, [x, y] => scopy P c.argTypes.toList x y h K
    | .builtin .len, [x] => cond (strT P c.argTypes) .fail (gv (slen P c.argTypes x h) h K)
    | _, _ => .fail)
  | _ => .fail
omit [Yl] in
theorem gv_ok {o : Option SV} {K : SV → SH → Tree R} (e : (gv o h K).run = some r) : ∃ v, o = some v ∧ (K v h).run = some r := by
  unfold gv at e
  split at e
  · exact ⟨_, rfl, e⟩
  · cases e
theorem sop_ok {o : Oper} {env : List SV} {k : Nat} {K : SV → SH → Tree R} (ho : OkH P h) (he : okL h env) (e : (sop P o env k h K).run = some r) :
    ∃ v h', pop1 P o (encL env) k (ench h.l) = some (v.enc, ench h'.l) ∧ Post P h h' v ∧ (K v h').run = some r := by
  have same : ∀ {v : SV}, v.ok h → Post P h h v := fun hv => ⟨.refl _, ho, hv⟩
  have sv := fun x => sval_ok (h := h) he x
  unfold sop at e
  unfold pop1
  split at e
  · rename_i x ho'
    exact ⟨_, _, by simp only [ho', sval_enc], same (sv x), e⟩
  · rename_i x ho'
    exact ⟨_, _, by simp only [ho', sval_enc], same (sv x), e⟩
  · rename_i c a b ho'
    split at e
    · rename_i t ht
      have h1 := asB_enc ht
      rcases run_ite e with ⟨z, e1⟩ | ⟨z, e1⟩
      · exact ⟨_, _, by simp only [ho', sval_enc, h1, fvv, z, cond_true], same (sv a), e1⟩
      · exact ⟨_, _, by simp only [ho', sval_enc, h1, fvv, z, cond_false], same (sv b), e1⟩
    · cases e
  · rename_i el ho'
    rw [ho']
    exact salloc_ok ho e
  · rename_i el x ho'
    rw [ho']
    simp only [sval_enc]
    exact sbox_ok ho (sv x) e
  · rename_i t parts ho'
    rw [ho']
    obtain ⟨v, h1, h2⟩ := gv_ok e
    have h3 := sbuild_ok (sparts_ok he parts) h1
    exact ⟨v, h, by simp only [sparts_enc, h3.1, pp1], same h3.2, h2⟩
  · rename_i t len parts ho'
    rw [ho']
    simp only [sparts_enc]
    exact sbuildSlice_ok ho (sparts_ok he parts) e
  · rename_i t a ho'
    rw [ho']
    obtain ⟨v, h1, h2, h3⟩ := sload_ok ho (sv a) e
    exact ⟨v, h, by simp only [sval_enc, h1, pp1], same h2, h3⟩
  · rename_i t a x ho'
    rw [ho']
    obtain ⟨h', h1, h2, h3, h4⟩ := sstore_ok ho (sv a) (sv x) e
    exact ⟨_, h', by simp only [sval_enc, h1, ppS]; simp [SV.enc, encL], ⟨h2, h3, by simp [SV.ok, okL]⟩, h4⟩
  · rename_i x ho'
    rw [ho']
    obtain ⟨v, h1, h2⟩ := gv_ok e
    have h3 := snilCheck_ok (sv x) h1
    exact ⟨v, h, by simp only [sval_enc, h3.1, pp1], same h3.2, h2⟩
  · rename_i op t x y t2 ho'
    rw [ho']
    obtain ⟨v, h1, h2, h3⟩ := sbin_ok ho (sv x) e
    exact ⟨v, h, by simp only [sval_enc, h1, pp1], same h2, h3⟩
  · rename_i op t x ho'
    rw [ho']
    obtain ⟨v, h1, h2, h3⟩ := sun_ok (h := h) e
    exact ⟨v, h, by simp only [sval_enc, h1, pp1], same h2, h3⟩
  · rename_i s d x ho'
    rw [ho']
    cases hp : isPtr (sval env x).enc with
    | true => rw [hp] at e; cases e
    | false =>
      rw [hp] at e
      have e1 : (sdry1 P (fun a => .convert s d a) o.type (sval env x) fun v => K v h).run = some r := e
      obtain ⟨v, h1, h2, h3, _⟩ := sdry1_ok (h := h) e1
      exact ⟨v, h, by simp only [sval_enc, hp, cond_false, h1, pp1], same h2, h3⟩
  · rename_i fn first cap ho'
    rw [ho']
    obtain ⟨v, h1, h2⟩ := gv_ok e
    have h3 := smakeFunc_ok (sargs_ok he first) (sargs_ok he cap) h1
    exact ⟨v, h, by simp only [sargs_enc, h3.1, pp1], same h3.2, h2⟩
  · rename_i t l c ho'
    rw [ho']
    obtain ⟨h1, h2⟩ := run_cond e
    have := sameOp_eq h1
    subst this
    simp only [sval_enc]
    exact smake_ok ho h2
  · rename_i t x lo hi ho'
    rw [ho']
    obtain ⟨v, h1, h2, h3⟩ := sslice_ok ho (sv x) e
    refine ⟨v, h, ?_, same h2, h3⟩
    have m : ∀ o : Option Operand, o.map (pval (encL env)) = (o.map (sval env)).map SV.enc := fun o => by cases o <;> simp [sval_enc]
    simp only [sval_enc, m]
    have ns : ∀ s, (sval env x).enc ≠ .f (.v (.string s)) := fun s hs => by
      rw [hs] at h1
      simp only [pslice] at h1
      cases h1
    split
    · rename_i s hs; exact absurd hs (ns s)
    · rw [h1]; rfl
  · rename_i t x i ho'
    rw [ho']
    obtain ⟨v, h1, h2⟩ := gv_ok e
    have h3 := sfieldAddr_ok (sv x) h1
    exact ⟨v, h, by simp only [sval_enc, h3.1, pp1], same h3.2, h2⟩
  · rename_i t x i ho'
    rw [ho']
    obtain ⟨v, h1, h2⟩ := gv_ok e
    have h3 := sfield_ok (sv x) h1
    exact ⟨v, h, by simp only [sval_enc, h3.1, pp1], same h3.2, h2⟩
  · rename_i t x ix ho'
    rw [ho']
    obtain ⟨v, h1, h2, h3⟩ := sindexAddr_ok ho (sv x) e
    exact ⟨v, h, by simp only [sval_enc, h1, pp1], same h2, h3⟩
  · rename_i t x ix ho'
    rw [ho']
    obtain ⟨v, h1, h2, h3, l, hl⟩ := sindex_ok (sv x) e
    refine ⟨v, h, ?_, same h2, h3⟩
    simp only [sval_enc]
    rw [hl] at h1 ⊢
    simp only [SV.enc] at h1 ⊢
    rw [h1]
    rfl
  · rename_i t i ho'
    rw [ho']
    obtain ⟨v, h1, h2⟩ := gv_ok e
    have h3 := sextract_ok (sv t) h1
    exact ⟨v, h, by simp only [sval_enc, h3.1, pp1], same h3.2, h2⟩
  · rename_i c ho'
    rw [ho']
    have ha := sargs_enc env c.args
    have hao := sargs_ok he c.args
    split at e
    · rename_i x y hc hl
      rw [hl] at ha hao
      simp only [okL] at hao
      simp only [hc, ha, encL, pcallB]
      exact sappend_ok ho hao.1 hao.2.1 e
    · rename_i x y hc hl
      rw [hl] at ha hao
      simp only [okL] at hao
      simp only [hc, ha, encL, pcallB]
      exact scopy_ok ho hao.1 hao.2.1 e
    · rename_i x hc hl
      rw [hl] at ha hao
      simp only [okL] at hao
      cases hst : strT P c.argTypes with
      | true => rw [hst] at e; cases e
      | false =>
        rw [hst] at e
        obtain ⟨v, h1, h2⟩ := gv_ok e
        have h3 := slen_ok ho hao.1 h1
        refine ⟨v, h, ?_, same h3.2, h2⟩
        simp only [hc, ha, encL, pcallB, hst, cond_false, h3.1, pp1]
    · cases e
  · cases e
end
end Go.Sv

namespace Go.Sv
open Go.Idl
noncomputable section
variable [Yl]
variable {P : Program} {h : SH} {R : Type} {r : R} {tab : PTab}

/-! ### What is handed on is not written any more -/
omit [Yl] in
theorem fzLw_map : ∀ (cs : List FV) (ph : PHp) (n : Nat), fzLw (fz1 P n) (cs.map .f) ph = some (cs, ph)
  | [], ph, n => rfl
  | c :: cs, ph, n => by
    have e : fz1 P n ph (.f c) = some (c, ph) := by cases n <;> rfl
    show (match fz1 P n ph (.f c) with
      | some (y, ph1) => (match fzLw (fz1 P n) (cs.map .f) ph1 with
        | some (ys, ph2) => some (y :: ys, ph2)
        | none => none)
      | none => none) = _
    rw [e]
    simp only [fzLw_map cs ph n]
theorem fz1_own {k n o m : Nat} {el : TypeId} {gr : Bool} {g w : Nat} {t : Ty} {xs : List t.sem} (ho : OkH P h) (hk : slk k h.l = some (.list el gr g w t xs)) (hn : n = xs.length) (hom : o + m ≤ n) :
    fz1 P 4 (ench h.l) (.own k n o m) = some (.l el m (((xs.drop o).take m).flatMap t.cells), ench (h.del k).l) := by
  have hl := ho.list _ _ _ _ _ _ _ hk
  simp only [fz1, slk_p hk]
  rw [show (SO.list el gr g w t xs).enc.el = el from rfl, hl.2.1]
  simp only [list_cs_len, hn, nbeq, cond_true]
  rw [show (SO.list el gr g w t xs).enc.cs = (xs.flatMap t.cells).map .f from rfl, ← List.map_drop, ← List.map_take, flat_drop, flat_take, fzLw_map]
  show some _ = some (_, ench (sdl k h.l))
  rw [ench_del]
/-- data of one cell: what is not written any more -/
def decO (el : TypeId) (t : Ty) (k g : Nat) (f : List t.sem → List t.sem) (h : SH) : Option (List t.sem × SH) := match slk k h.l with
  | some (.list el' _ g' _ u xs) => cond (Nat.beq el' el && Nat.beq g g') (match castL u t xs with
    | some xs => some (f xs, h.del k)
    | none => none) none
  | _ => none
def decN (P : Program) (ty el : TypeId) (t : Ty) (h : SH) : Option (List t.sem × SH) := match elemT P ty with
  | some el' => cond (Nat.beq el' el) (some ([], h)) none
  | none => none
def dec1F (P : Program) (ty : TypeId) : (t : Ty) → SV → SH → Option (t.sem × SH)
  | .list el t, .own k g _, h => decO el t k g (fun xs => xs) h
  | .list el t, .sl k g _ o m, h => decO el t k g (fun xs => (xs.drop o).take m) h
  | .list el t, .c (.slice none 0 0), h => decN P ty el t h
  | t, v, h => match t.decS v with
    | some x => some (x, h)
    | none => none
omit [Yl] in
theorem rt0_fv {ty : TypeId} : ∀ {t : Ty} {x : t.sem}, t.one = true → rt0 P ty (.f (t.fv x)) = .f (t.fv x)
  | .int _, _, _ => rfl
  | .bool, _, _ => rfl
  | .str, _, _ => rfl
  | .list _ _, _, _ => rfl
  | .unit, _, e => by cases e
  | .pair _ _, _, e => by cases e
theorem decO_ok {el ty : TypeId} {t : Ty} {k g n o m : Nat} {f : List t.sem → List t.sem} {x : List t.sem} {h' : SH} (ho : OkH P h) (hs : SlOk h k g n) (hom : o + m ≤ n) (hf : ∀ xs : List t.sem, xs.length = n → f xs = (xs.drop o).take m) (e : decO el t k g f h = some (x, h')) :
    fz1 P 4 (ench h.l) (.own k n o m) = some ((Ty.list el t).fv x, ench h'.l) ∧ Keep h h' ∧ OkH P h' := by
  unfold decO at e
  split at e
  · rename_i el' gr g' w u xs hk
    cases hc : (Nat.beq el' el && Nat.beq g g') with
    | false => rw [hc] at e; cases e
    | true =>
      rw [hc] at e
      rw [Bool.and_eq_true] at hc
      have he : el' = el := Nat.eq_of_beq_eq_true hc.1
      have hg : g = g' := Nat.eq_of_beq_eq_true hc.2
      subst he hg
      simp only [cond_true] at e
      split at e
      · rename_i ys hys
        cases castL_eq hys
        cases e
        have hn := hs.2 _ _ _ _ _ hk
        have hd := okH_del (k := k) ho
        refine ⟨?_, hd.1, hd.2⟩
        rw [fz1_own ho hk hn hom, hf _ hn.symm]
        show some (FV.l el' m _, _) = some (FV.l el' _ _, _)
        rw [List.length_take, List.length_drop, Nat.min_eq_left (by omega)]
      · cases e
  · cases e
theorem dec1F_ok {ty : TypeId} {t : Ty} {v : SV} {x : t.sem} {h' : SH} (ho : OkH P h) (hv : v.ok h) (e : dec1F P ty t v h = some (x, h')) :
    ∃ y, fz1 P 4 (ench h.l) v.enc = some (y, ench h'.l) ∧ rt0 P ty (.f y) = .f (t.fv x) ∧ t.one = true ∧ Keep h h' ∧ OkH P h' := by
  unfold dec1F at e
  split at e
  · rename_i el t k g n
    simp only [SV.ok] at hv
    obtain ⟨h1, h2, h3⟩ := decO_ok (ty := ty) (n := n) (o := 0) (m := n) ho hv (by omega) (fun xs hl => by rw [List.drop_zero, ← hl, List.take_length]) e
    exact ⟨_, by simp only [SV.enc]; exact h1, rt0_fv rfl, rfl, h2, h3⟩
  · rename_i el t k g n o m
    simp only [SV.ok] at hv
    obtain ⟨h1, h2, h3⟩ := decO_ok (ty := ty) (n := n) (o := o) (m := m) ho hv.1 hv.2 (fun xs hl => rfl) e
    exact ⟨_, by simp only [SV.enc]; exact h1, rt0_fv rfl, rfl, h2, h3⟩
  · rename_i el t
    unfold decN at e
    split at e
    · rename_i el' hel
      cases hc : Nat.beq el' el with
      | false => rw [hc] at e; cases e
      | true =>
        rw [hc] at e
        cases e
        have he : el' = el := Nat.eq_of_beq_eq_true hc
        subst he
        refine ⟨.v (.slice none 0 0), by simp only [SV.enc, fvv, fz1], ?_, rfl, .refl _, ho⟩
        show (match elemT P ty with
          | some el => PV.f (.l el 0 [])
          | none => fvv (.slice none 0 0)) = _
        rw [hel]
        rfl
    · cases e
  · split at e
    · rename_i y hy
      cases e
      obtain ⟨h1, h2⟩ := decS_enc hy
      exact ⟨_, by rw [h1]; rfl, rt0_fv h2, h2, .refl _, ho⟩
    · cases e
def decC1 (P : Program) (t : Ty) (tys : List TypeId) (l : List SV) (h : SH) : Option (t.sem × List TypeId × List SV × SH) := match tys, l with
  | ty :: tys, v :: l => (match dec1F P ty t v h with
    | some (x, h') => some (x, tys, l, h')
    | none => none)
  | _, _ => none
def Ty.decC (P : Program) : (t : Ty) → List TypeId → List SV → SH → Option (t.sem × List TypeId × List SV × SH)
  | .unit, tys, l, h => some ((), tys, l, h)
  | .pair a b, tys, l, h => match a.decC P tys l h with
    | some (x, tys1, l1, h1) => (match b.decC P tys1 l1 h1 with
      | some (y, tys2, l2, h2) => some ((x, y), tys2, l2, h2)
      | none => none)
    | none => none
  | .int k, tys, l, h => decC1 P (.int k) tys l h
  | .bool, tys, l, h => decC1 P .bool tys l h
  | .str, tys, l, h => decC1 P .str tys l h
  | .list el t, tys, l, h => decC1 P (.list el t) tys l h
/-- cells, one by one -/
def DecC (P : Program) (t : Ty) (tys : List TypeId) (l : List SV) (h : SH) (x : t.sem) (tys' : List TypeId) (l' : List SV) (h' : SH) : Prop :=
  okL h' l' ∧ Keep h h' ∧ OkH P h' ∧ ∃ ys : List FV, (∀ zs p, fzLw (fz1 P 4) (encL l') (ench h'.l) = some (zs, p) → fzLw (fz1 P 4) (encL l) (ench h.l) = some (ys ++ zs, p)) ∧
    ∀ zs : List PV, rtL (rt0 P) tys (ys.map .f ++ zs) = (t.cells x).map .f ++ rtL (rt0 P) tys' zs
theorem decC1_ok {t : Ty} {tys tys' : List TypeId} {l l' : List SV} {x : t.sem} {h' : SH} (ho : OkH P h) (hl : okL h l) (e : decC1 P t tys l h = some (x, tys', l', h')) : DecC P t tys l h x tys' l' h' := by
  unfold decC1 at e
  split at e
  · rename_i ty tys v l
    split at e
    · rename_i y h1 hd
      cases e
      simp only [okL] at hl
      obtain ⟨y, a1, a2, a3, a4, a5⟩ := dec1F_ok ho hl.1 hd
      refine ⟨okL_keep a4 hl.2, a4, a5, [y], fun zs p hz => ?_, fun zs => ?_⟩
      · simp only [encL, fzLw, a1, hz]; rfl
      · show rt0 P ty (.f y) :: rtL (rt0 P) _ zs = _
        rw [a2, Ty.cells_one a3]; rfl
    · cases e
  · cases e
theorem decC_ok : ∀ {t : Ty} {tys tys' : List TypeId} {l l' : List SV} {h : SH} {x : t.sem} {h' : SH}, OkH P h → okL h l → t.decC P tys l h = some (x, tys', l', h') → DecC P t tys l h x tys' l' h'
  | .unit, tys, tys', l, l', h, x, h', ho, hl, e => by
    cases e
    exact ⟨hl, .refl _, ho, [], fun zs p hz => hz, fun zs => rfl⟩
  | .int k, tys, tys', l, l', h, x, h', ho, hl, e => decC1_ok ho hl e
  | .bool, tys, tys', l, l', h, x, h', ho, hl, e => decC1_ok ho hl e
  | .str, tys, tys', l, l', h, x, h', ho, hl, e => decC1_ok ho hl e
  | .list el t, tys, tys', l, l', h, x, h', ho, hl, e => decC1_ok ho hl e
  | .pair a b, tys, tys', l, l', h, x, h', ho, hl, e => by
    unfold Ty.decC at e
    split at e
    · rename_i x1 tys1 l1 h1 hd1
      split at e
      · rename_i y tys2 l2 h2 hd2
        cases e
        obtain ⟨a1, a2, a3, ys, a4, a5⟩ := decC_ok ho hl hd1
        obtain ⟨b1, b2, b3, zs, b4, b5⟩ := decC_ok a3 a1 hd2
        refine ⟨b1, a2.trans b2, b3, ys ++ zs, fun us p hu => ?_, fun us => ?_⟩
        · rw [List.append_assoc]
          exact a4 _ _ (b4 _ _ hu)
        · rw [List.map_append, List.append_assoc, a5, b5]
          show _ = (a.cells x1 ++ b.cells y).map PV.f ++ _
          rw [List.map_append, List.append_assoc]
      · cases e
    · cases e
/-- an argument -/
def decF (P : Program) (ty : TypeId) (t : Ty) (v : SV) (h : SH) : Option (t.sem × SH) := cond t.one (match v with
  | .agg _ => none
  | v => dec1F P ty t v h) (match v with
  | .agg l => (match t.decC P (cellTs P 8 ty) l h with
    | some (x, _, [], h') => some (x, h')
    | _ => none)
  | _ => none)
theorem decF_ok {ty : TypeId} {t : Ty} {v : SV} {x : t.sem} {h' : SH} (ho : OkH P h) (hv : v.ok h) (e : decF P ty t v h = some (x, h')) :
    ∃ y, fzP P (ench h.l) v.enc = some (y, ench h'.l) ∧ rt1 P ty y = t.pv x ∧ Keep h h' ∧ OkH P h' := by
  unfold decF at e
  cases ht : t.one with
  | true =>
    rw [ht] at e
    simp only [cond_true] at e
    split at e
    · cases e
    · rename_i hna
      obtain ⟨y, h1, h2, h3, h4, h5⟩ := dec1F_ok ho hv e
      refine ⟨.f y, ?_, ?_, h4, h5⟩
      · cases v with
        | agg l => exact absurd rfl (hna l)
        | _ => simp only [SV.enc, fvv, fzP] at h1 ⊢; rw [h1]
      · show rt0 P ty (.f y) = _
        rw [h2]
        unfold Ty.pv
        rw [ht]; rfl
  | false =>
    rw [ht] at e
    simp only [cond_false] at e
    split at e
    · rename_i l
      split at e
      · rename_i x1 tys1 h1 hd
        cases e
        simp only [SV.ok] at hv
        obtain ⟨a1, a2, a3, ys, a4, a5⟩ := decC_ok ho hv hd
        refine ⟨.agg (ys.map .f), ?_, ?_, a2, a3⟩
        · have := a4 [] (ench h'.l) (by simp [encL, fzLw])
          simp only [SV.enc, fzP, this, List.append_nil]
        · show PV.agg (rtL (rt0 P) (cellTs P 8 ty) (ys.map .f)) = _
          have := a5 []
          rw [List.append_nil] at this
          rw [this]
          unfold Ty.pv
          rw [ht]
          cases tys1 <;> simp [rtL]
      · cases e
    · cases e
def decArgs (P : Program) : List TypeId → (ts : List Ty) → List SV → SH → Option (TyL ts × SH)
  | _, [], [], h => some ((), h)
  | ty :: _, [t], [v], h => decF P ty t v h
  | ty :: tys, t :: u :: ts, v :: vs, h => match decF P ty t v h with
    | some (x, h1) => (match decArgs P tys (u :: ts) vs h1 with
      | some (y, h2) => some ((x, y), h2)
      | none => none)
    | none => none
  | _, _, _, _ => none
theorem decArgs_ok : ∀ {tys : List TypeId} {ts : List Ty} {vs : List SV} {h : SH} {x : TyL ts} {h' : SH}, OkH P h → okL h vs → decArgs P tys ts vs h = some (x, h') →
    ∃ ys, fzA P (encL vs) (ench h.l) = some (ys, ench h'.l) ∧ rtL (rt1 P) tys ys = pvL ts x ∧ Keep h h' ∧ OkH P h'
  | tys, [], [], h, x, h', ho, hv, e => by
    unfold decArgs at e
    cases e
    refine ⟨[], rfl, ?_, .refl _, ho⟩
    cases tys <;> rfl
  | ty :: tys, [t], [v], h, x, h', ho, hv, e => by
    unfold decArgs at e
    simp only [okL] at hv
    obtain ⟨y, h1, h2, h3, h4⟩ := decF_ok ho hv.1 e
    refine ⟨[y], ?_, ?_, h3, h4⟩
    · simp only [encL, fzA, h1]
    · show rt1 P ty y :: rtL (rt1 P) tys [] = [t.pv x]
      rw [h2]
      cases tys <;> rfl
  | ty :: tys, t :: u :: ts, v :: vs, h, x, h', ho, hv, e => by
    unfold decArgs at e
    simp only [okL] at hv
    split at e
    · rename_i x1 h1 hd
      split at e
      · rename_i y1 h2 hd2
        cases e
        obtain ⟨y, a1, a2, a3, a4⟩ := decF_ok ho hv.1 hd
        obtain ⟨ys, b1, b2, b3, b4⟩ := decArgs_ok a4 (okL_keep a3 hv.2) hd2
        refine ⟨y :: ys, ?_, ?_, a3.trans b3, b4⟩
        · simp only [encL, fzA, a1, b1]
        · show rt1 P ty y :: rtL (rt1 P) tys ys = t.pv x1 :: pvL (u :: ts) y1
          rw [a2, b2]
      · cases e
    · cases e
  | [], [_], [_], _, _, _, _, _, e => by unfold decArgs at e; cases e
  | [], _ :: _ :: _, _ :: _, _, _, _, _, _, e => by unfold decArgs at e; cases e
  | tys, [], _ :: _, _, _, _, _, _, e => by cases tys <;> (unfold decArgs at e; cases e)
  | tys, _ :: ts, [], _, _, _, _, _, e => by cases tys <;> cases ts <;> (unfold decArgs at e; cases e)
  | tys, [_], _ :: _ :: _, _, _, _, _, _, e => by cases tys <;> (unfold decArgs at e; cases e)

/-! ### Results -/
def Ty.sv (t : Ty) (x : t.sem) : SV := cond t.one (.d t x) (.agg (t.svs x))
theorem sv_enc (t : Ty) (x : t.sem) : (t.sv x).enc = t.pv x := by
  unfold Ty.sv Ty.pv
  cases t.one <;> simp [SV.enc, svs_enc]
omit [Yl] in
theorem sv_ok (t : Ty) (x : t.sem) : (t.sv x).ok h := by
  unfold Ty.sv
  cases t.one
  · simp only [cond_false, SV.ok]; exact svs_ok t x
  · simp [SV.ok]
def svL : (ts : List Ty) → TyL ts → List SV
  | [], _ => []
  | [t], x => [t.sv x]
  | t :: u :: ts, x => t.sv x.1 :: svL (u :: ts) x.2
theorem svL_enc : ∀ (ts : List Ty) (x : TyL ts), encL (svL ts x) = pvL ts x
  | [], _ => by simp [svL, pvL, encL]
  | [t], x => by simp [svL, pvL, encL, sv_enc]
  | t :: u :: ts, x => by
    show encL (t.sv x.1 :: svL (u :: ts) x.2) = t.pv x.1 :: pvL (u :: ts) x.2
    simp only [encL, sv_enc, svL_enc (u :: ts)]
omit [Yl] in
theorem svL_ok : ∀ (ts : List Ty) (x : TyL ts), okL h (svL ts x)
  | [], _ => by simp [svL, okL]
  | [t], x => by simp [svL, okL, sv_ok]
  | t :: u :: ts, x => by
    show okL h (t.sv x.1 :: svL (u :: ts) x.2)
    simp only [okL]
    exact ⟨sv_ok t x.1, svL_ok (u :: ts) x.2⟩
def resSV (ts : List Ty) (x : TyL ts) : SV := match svL ts x with
  | [v] => v
  | vs => .tup vs
theorem resSV_enc (ts : List Ty) (x : TyL ts) : (resSV ts x).enc = resPV ts x := by
  unfold resSV resPV
  rw [← svL_enc]
  match svL ts x with
  | [] => simp [encL, pone1, SV.enc]
  | [v] => simp [encL, pone1]
  | a :: b :: l => simp [encL, pone1, SV.enc]
omit [Yl] in
theorem resSV_ok (ts : List Ty) (x : TyL ts) : (resSV ts x).ok h := by
  unfold resSV
  have := svL_ok (h := h) ts x
  split
  · rename_i v hv
    rw [hv] at this
    simp only [okL] at this
    exact this.1
  · simp only [SV.ok]; exact this

/-! ### Calls -/
/-- the table, by its entries -/
def TabS (tab : PTab) (T : STab) : Prop := ∀ g ent, slT g T = some ent → ∀ x, tab g (pvL ent.as x) = (ent.F x).map (resPV ent.rs)
def scall (P : Program) (T : STab) (d : Bool) (g : FuncId) (as : List SV) (h : SH) (K : SV → SH → Tree R) : Tree R := match slT g T, P.funcs[g]? with
  | some ent, some fn => (match decArgs P fn.params.toList ent.as as h with
    | some (x, h1) => .bind (ent.F x) fun y => cond d (cond (plainR (resPV ent.rs y) || (encL as).all frzA) (K (resSV ent.rs y) h) .fail) (K (resSV ent.rs y) (cond (plainR (resPV ent.rs y)) h h1))
    | none => .fail)
  | _, _ => .fail
theorem scall_ok {T : STab} (ht : TabS tab T) {g : FuncId} {as : List SV} {K : SV → SH → Tree R} (ho : OkH P h) (ha : okL h as) (e : (scall P T false g as h K).run = some r) :
    ∃ v h', pcallT P tab g (encL as) (ench h.l) = .ok v.enc (ench h'.l) ∧ Post P h h' v ∧ (K v h').run = some r := by
  unfold scall at e
  split at e
  · rename_i ent fn hent hfn
    split at e
    · rename_i x h1 hx
      obtain ⟨y, hy, e1⟩ := run_bind e
      obtain ⟨ys, a1, a2, a3, a4⟩ := decArgs_ok ho ha hx
      have e2 : (K (resSV ent.rs y) (cond (plainR (resPV ent.rs y)) h h1)).run = some r := e1
      refine ⟨_, _, ?_, ⟨?_, ?_, resSV_ok _ _⟩, e2⟩
      · unfold pcallT
        rw [a1]
        simp only
        rw [show rtA P g ys = pvL ent.as x by unfold rtA; rw [hfn]; exact a2, ht g ent hent x, hy]
        simp only [Option.map_some, resSV_enc]
        cases plainR (resPV ent.rs y) <;> rfl
      · cases plainR (resPV ent.rs y)
        · exact a3
        · exact .refl _
      · cases plainR (resPV ent.rs y)
        · exact a4
        · exact ho
    · cases e
  · cases e
theorem scallD_ok {T : STab} (ht : TabS tab T) {g : FuncId} {as : List SV} {K : SV → SH → Tree R} (ho : OkH P h) (ha : okL h as) (e : (scall P T true g as h K).run = some r) :
    ∃ v h', pcallDD P tab g (encL as) (ench h.l) = .ok v.enc (ench h'.l) ∧ Post P h h' v ∧ (K v h').run = some r := by
  unfold scall at e
  split at e
  · rename_i ent fn hent hfn
    split at e
    · rename_i x h1 hx
      obtain ⟨y, hy, e1⟩ := run_bind e
      obtain ⟨ys, a1, a2, a3, a4⟩ := decArgs_ok ho ha hx
      obtain ⟨c, e2⟩ := run_cond (show (cond (plainR (resPV ent.rs y) || (encL as).all frzA) (K (resSV ent.rs y) h) .fail : Tree R).run = some r from e1)
      refine ⟨_, _, ?_, ⟨.refl _, ho, resSV_ok _ _⟩, e2⟩
      unfold pcallDD
      rw [a1]
      simp only
      rw [show rtA P g ys = pvL ent.as x by unfold rtA; rw [hfn]; exact a2, ht g ent hent x, hy]
      simp only [Option.map_some, resSV_enc, c, cond_true]
    · cases e
  · cases e
def starget (fv : SV) (args : List SV) : Option (FuncId × List SV) := match fv with
  | .c (.func (.func g) a c) => cond (a.toList.isEmpty && c.toList.isEmpty) (some (g, args)) none
  | .fn g first cap => some (g, first ++ (args ++ cap))
  | _ => none
theorem starget_ok {fv : SV} {args as : List SV} {g : FuncId} (hf : fv.ok h) (ha : okL h args) (e : starget fv args = some (g, as)) : target fv.enc (encL args) = some (g, encL as) ∧ okL h as := by
  unfold starget at e
  split at e
  · rename_i g' a c
    cases hc : (a.toList.isEmpty && c.toList.isEmpty) with
    | false => rw [hc] at e; cases e
    | true =>
      rw [hc] at e
      cases e
      exact ⟨by simp only [target, SV.enc, fvv, hc, cond_true], ha⟩
  · rename_i g' first cap
    cases e
    simp only [SV.ok] at hf
    exact ⟨by simp only [target, SV.enc, encL_app], okL_app hf.1 (okL_app ha hf.2)⟩
  · cases e
def scallO (P : Program) (T : STab) (d : Bool) (f : SV) (args : List SV) (h : SH) (K : SV → SH → Tree R) : Tree R := match starget f args with
  | some (g, as) => scall P T d g as h K
  | none => .fail
/-- an operation, a call or not -/
def sexec (P : Program) (T : STab) (d : Bool) (k : Nat) (o : Oper) (env : List SV) (h : SH) (K : SV → SH → Tree R) : Tree R := match o.op with
  | .call ⟨.value f, args, _⟩ => scallO P T d (sval env f) (sargs env args) h K
  | _ => sop P o env k h K
/-- what a call that is run where it stands must keep -/
def CIOk (P : Program) (G : Nat → Bool) (CI : CIT) : Prop := ∀ {R : Type} (nm : Nm) (f : FuncId) (as : List SV) (h : SH) (K : SV → SH → Tree R) (r : R), OkH P h → okL h as → (CI R nm f as h K).run = some r →
  CallP P G nm f (encL as) (ench h.l) fun v p => ∃ v' h', v = v'.enc ∧ p = ench h'.l ∧ Post P h h' v' ∧ (K v' h').run = some r
def sclean (p : Nat → Bool) (env : List SV) : List (Nat × SO) → Bool
  | [] => true
  | (k, _) :: l => (!p k || noKL k (encL env)) && sclean p env l
theorem sclean_ok {p : Nat → Bool} {env : List SV} : ∀ {l : List (Nat × SO)}, sclean p env l = true → clean p (encL env) (ench l) = true
  | [], _ => rfl
  | (k, o) :: l, h => by
    have h : ((!p k || noKL k (encL env)) && sclean p env l) = true := h
    show ((!p k || noKL k (encL env)) && clean p (encL env) (ench l)) = true
    rw [Bool.and_eq_true] at h ⊢
    exact ⟨h.1, sclean_ok h.2⟩
section
variable {Γ : Type}
/-- a call in an iterator or not -/
def scallY (P : Program) (T : STab) (CI : CIT) (Y : YI Γ) (nm : Nm) (f : SV) (args : List SV) (g : Γ) (env : List SV) (h : SH) (K : Γ → SV → SH → Tree R) : Tree R := match f with
  | .yv => (match decArgs P Y.yt Y.ys args h with
    | some (y, h1) => .bind (Y.stp g y) fun p => K p.1 (.d .bool p.2) h1
    | none => .fail)
  | f => (match starget f args with
    | some (t, as) => cond (slT t T).isSome (scall P T false t as h (K g)) (CI R (subN nm t) t as h fun v h2 => cond (sclean (subN nm t).p env h2.l) (K g v h2) .fail)
    | none => .fail)
def sexecY (P : Program) (T : STab) (CI : CIT) (Y : YI Γ) (nm : Nm) (o : Oper) (g : Γ) (env : List SV) (h : SH) (K : Γ → SV → SH → Tree R) : Tree R := match o.op with
  | .call ⟨.value f, args, _⟩ => scallY P T CI Y nm (sval env f) (sargs env args) g env h K
  | _ => sop P o env (labOf nm o.dst) h (K g)
def YOk (P : Program) (G : Nat → Bool) (w : Wld Γ) (Y : YI Γ) : Prop := ∀ g y g' b, Y.stp g y = some (g', b) → RoundP P G w Yl.l g (pvL Y.ys y) g' b
end
theorem sexecD_ok {T : STab} (ht : TabS tab T) {k : Nat} {o : Oper} {env : List SV} {K : SV → SH → Tree R} (ho : OkH P h) (he : okL h env) (e : (sexec P T true k o env h K).run = some r) :
    ∃ v h', pexecD P tab k o (encL env) (ench h.l) = .ok v.enc (ench h'.l) ∧ Post P h h' v ∧ (K v h').run = some r := by
  unfold sexec at e
  unfold pexecD
  split at e
  · rename_i f args ts hop
    unfold scallO at e
    split at e
    · rename_i g as hst
      obtain ⟨h1, h2⟩ := starget_ok (sval_ok he f) (sargs_ok he args) hst
      obtain ⟨v, h', a1, a2, a3⟩ := scallD_ok ht ho h2 e
      refine ⟨v, h', ?_, a2, a3⟩
      simp only [hop, sval_enc, sargs_enc, h1]
      exact a1
    · cases e
  · rename_i hne
    obtain ⟨v, h', a1, a2, a3⟩ := sop_ok ho he e
    refine ⟨v, h', ?_, a2, a3⟩
    split
    · rename_i f args ts hop; exact absurd hop (hne f args ts)
    · rw [a1]; rfl
end
end Go.Sv

namespace Go.Sv
open Go.Idl
noncomputable section
variable [Yl]
variable {P : Program} {R : Type} {r : R} {tab : PTab} {G : Nat → Bool} {nm : Nm}

omit [Yl] in
theorem holds_mono {Q Q' : List PV → PHp → Prop} (hq : ∀ e p, Q e p → Q' e p) : ∀ {t : PT}, t.holds P G Q → t.holds P G Q'
  | .fail, h => h.elim
  | .ret e p, h => hq e p h
  | .chk c t, h => ⟨h.1, holds_mono hq h.2⟩
  | .call nm g args ph k, h => by
    obtain ⟨R, h1, h2⟩ := h
    exact ⟨R, h1, fun v p hr => holds_mono hq (h2 v p hr)⟩
  | .rnd _ _ _ _, h => h.elim
omit [Yl] in
theorem noKL_f (k : Nat) : ∀ (cs : List FV), noKL k (cs.map .f) = true
  | [] => by simp [noKL]
  | c :: cs => by simp [noKL, noK, noKL_f k cs]
def snoH (k : Nat) : List (Nat × SO) → Bool
  | [] => true
  | (_, .cells _ _ l) :: r => noKL k (encL l) && snoH k r
  | (_, .list _ _ _ _ _ _) :: r => snoH k r
theorem snoH_ok {k : Nat} : ∀ {l : List (Nat × SO)}, snoH k l = true → noKH k (ench l) = true
  | [], _ => rfl
  | (j, .cells el w l) :: r, h => by
    simp only [snoH, Bool.and_eq_true] at h
    show (noKL k (encL l) && noKH k (ench r)) = true
    rw [h.1, snoH_ok h.2]; rfl
  | (j, .list el gr g w t xs) :: r, h => by
    simp only [snoH] at h
    show (noKL k ((xs.flatMap t.cells).map .f) && noKH k (ench r)) = true
    rw [noKL_f, snoH_ok h]; rfl

/-! ### Guards -/
def sputD (env : List SV) (d : Option Tmp) (v : SV) : List SV := match d with
  | some t => setR env t v
  | none => env
theorem set_enc (env : List SV) (t : Nat) (v : SV) : encL (setR env t v) = setR (encL env) t v.enc := by
  rw [setR_eq, setR_eq, encL_map, encL_map, List.map_set]
theorem sputD_enc (env : List SV) (d : Option Tmp) (v : SV) : encL (sputD env d v) = pputD (encL env) d v.enc := by
  cases d with
  | none => rfl
  | some t => exact set_enc env t v
omit [Yl] in
theorem okL_set {h : SH} {env : List SV} {t : Nat} {v : SV} (he : okL h env) (hv : v.ok h) : okL h (setR env t v) := by
  rw [setR_eq]
  exact okL_iff.2 fun x hx => by
    rcases List.mem_or_eq_of_mem_set hx with q | q
    · exact okL_iff.1 he x q
    · rw [q]; exact hv
omit [Yl] in
theorem okL_putD {h : SH} {env : List SV} {d : Option Tmp} {v : SV} (he : okL h env) (hv : v.ok h) : okL h (sputD env d v) := by
  cases d with
  | none => exact he
  | some t => exact okL_set he hv
omit [Yl] in
theorem set_len (env : List SV) (t : Nat) (v : SV) : (setR env t v).length = env.length := by rw [setR_eq, List.length_set]
omit [Yl] in
theorem putD_len (env : List SV) (d : Option Tmp) (v : SV) : (sputD env d v).length = env.length := by
  cases d with
  | none => rfl
  | some t => exact set_len env t v
theorem set_same {env : List SV} {t : Nat} {v w : SV} (h1 : nthR env t = some v) (h2 : w.enc = v.enc) : encL (setR env t w) = encL env := by
  rw [set_enc, setR_eq]
  rw [nthR_eq] at h1
  apply List.ext_getElem?
  intro i
  rw [List.getElem?_set]
  by_cases e : t = i
  · subst e
    rw [if_pos rfl, encL_map, List.getElem?_map, h1, List.length_map, if_pos (List.getElem?_eq_some_iff.1 h1).1, h2]
    rfl
  · rw [if_neg e]
def wantB (b w : Bool) : Bool := cond w b (!b)
omit [Yl] in
theorem wantB_eq (b w : Bool) : wantB b w = (b == w) := by cases b <;> cases w <;> rfl
/-- an operation is wanted, or not -/
def sbranch (ds : List (Option Tmp)) (o : Oper) (env : List SV) (Y N : List SV → Tree R) : Tree R := match o.guard with
  | none => Y env
  | some (j, w) => (match dstAt ds j with
    | none => N env
    | some t => (match nthR env t with
      | none => .fail
      | some v => (match asB v with
        | some b => .ite (wantB b w) (Y (setR env t (.c (.bool w)))) (N (setR env t (.c (.bool (!w)))))
        | none => (match v with
          | .tup [] => N env
          | _ => .fail))))
theorem sbranch_ok {ds : List (Option Tmp)} {o : Oper} {env : List SV} {Y N : List SV → Tree R} {h : SH} (he : okL h env) (e : (sbranch ds o env Y N).run = some r) :
    ∃ env', encL env' = encL env ∧ okL h env' ∧ env'.length = env.length ∧ ((pwant ds o (encL env) = some true ∧ (Y env').run = some r) ∨ (pwant ds o (encL env) = some false ∧ (N env').run = some r)) := by
  unfold sbranch at e
  unfold pwant
  split at e
  · rename_i hg
    exact ⟨env, rfl, he, rfl, .inl ⟨by rw [hg], e⟩⟩
  · rename_i j w hg
    rw [hg]
    simp only
    split at e
    · rename_i hd
      exact ⟨env, rfl, he, rfl, .inr ⟨by rw [hd]; rfl, e⟩⟩
    · rename_i t hd
      rw [hd]
      simp only [pwantT_some, nth_enc]
      split at e
      · cases e
      · rename_i v hv
        rw [hv]
        split at e
        · rename_i b hb
          have hbe := asB_enc hb
          rcases run_ite e with ⟨z, e1⟩ | ⟨z, e1⟩
          · rw [wantB_eq] at z
            have : b = w := by simpa using z
            subst this
            refine ⟨_, set_same hv (by rw [hbe]; simp [SV.enc]), okL_set he (by simp [SV.ok]), set_len _ _ _, .inl ⟨?_, e1⟩⟩
            simp only [Option.map_some, hbe, pwantN_bool, z]
          · rw [wantB_eq] at z
            have : b = !w := by cases b <;> cases w <;> first | rfl | cases z
            refine ⟨_, set_same hv (by rw [hbe, this]; simp [SV.enc]), okL_set he (by simp [SV.ok]), set_len _ _ _, .inr ⟨?_, e1⟩⟩
            simp only [Option.map_some, hbe, pwantN_bool, z]
        · split at e
          · exact ⟨env, rfl, he, rfl, .inr ⟨by simp only [Option.map_some, SV.enc, encL]; exact pwantN_und, e⟩⟩
          · cases e

/-! ### Regions in the order of the text -/
def sfresh (nm : Nm) (k : Nat) (env : List SV) (h : SH) : Bool := inP nm k && (noKL k (encL env) && snoH k h.l)
section
variable {Γ : Type}
def sops (P : Program) (T : STab) (CI : CIT) (Y : YI Γ) (nm : Nm) (ds : List (Option Tmp)) : List Oper → Γ → List SV → SH → (Γ → List SV → SH → Tree R) → Tree R
  | [], g, env, h, K => K g env h
  | o :: l, g, env, h, K => sbranch ds o env
      (fun env => cond (cond (needs o.op) (sfresh nm (labOf nm o.dst) env h) true) (sexecY P T CI Y nm o g env h fun g v h' => sops P T CI Y nm ds l g (sputD env o.dst v) h' K) .fail)
      (fun env => sops P T CI Y nm ds l g (sputD env o.dst (.tup [])) h K)
end
/-- a run's end -/
def Ends (P : Program) (w : List (Option Tmp)) (env : List SV) (h : SH) (env' : List SV) (h' : SH) : Prop :=
  okL h' env' ∧ OkH P h' ∧ Keep h h' ∧ (∀ i, some i ∉ w → nthR (encL env') i = nthR (encL env) i) ∧ env'.length = env.length
theorem put_nth {env : List SV} {d : Option Tmp} {v : SV} {i : Nat} (h : d ≠ some i) : nthR (encL (sputD env d v)) i = nthR (encL env) i := by
  cases d with
  | none => rfl
  | some t =>
    show nthR (encL (setR env t v)) i = _
    rw [set_enc, setR_eq, nthR_eq, nthR_eq, List.getElem?_set, if_neg (fun e => h (by rw [e]))]
theorem Ends.step {o : Oper} {w : List (Option Tmp)} {env env0 : List SV} {h h1 : SH} {v : SV} {env' : List SV} {h' : SH} (he : encL env = encL env0) (hl : env.length = env0.length) (hk : Keep h h1) (x : Ends P w (sputD env o.dst v) h1 env' h') : Ends P (o.dst :: w) env0 h env' h' :=
  ⟨x.1, x.2.1, hk.trans x.2.2.1, fun i hi => by
    rw [List.mem_cons, not_or] at hi
    rw [x.2.2.2.1 i hi.2, put_nth (fun e => hi.1 e.symm), he], by rw [x.2.2.2.2, putD_len, hl]⟩
omit [Yl] in
theorem holdsY_mono {Γ : Type} {w : Wld Γ} {Q Q' : Γ → List PV → PHp → Prop} (hq : ∀ g e p, Q g e p → Q' g e p) : ∀ {t : PT} {g : Γ}, t.holdsY P G w Q g → t.holdsY P G w Q' g
  | .fail, _, h => h.elim
  | .ret e p, g, h => hq g e p h
  | .chk c t, g, h => ⟨h.1, holdsY_mono hq h.2⟩
  | .call nm f args ph k, g, h => by
    obtain ⟨R, h1, h2⟩ := h
    exact ⟨R, h1, fun v p hr => holdsY_mono hq (h2 v p hr)⟩
  | .rnd l args ph k, g, h => by
    obtain ⟨fargs, tys, ph1, g', b, h1, h2, h3⟩ := h
    exact ⟨fargs, tys, ph1, g', b, h1, h2, holdsY_mono hq h3⟩
def inlT (T : STab) (f : FuncId) : Bool := !(slT f T).isSome
theorem sops_ok {Γ : Type} {w : Wld Γ} {T : STab} {CI : CIT} {Y : YI Γ} (ht : TabS tab T) (hci : CIOk P G CI) (hy : YOk P G w Y) {ds : List (Option Tmp)} : ∀ {l : List Oper} {g : Γ} {env : List SV} {h : SH} {K : Γ → List SV → SH → Tree R}, OkH P h → okL h env → (sops P T CI Y nm ds l g env h K).run = some r →
    (pops P tab (inlT T) nm ds l (encL env) (ench h.l)).holdsY P G w (fun g e p => ∃ env' h', e = encL env' ∧ p = ench h'.l ∧ Ends P (l.map (·.dst)) env h env' h' ∧ (K g env' h').run = some r) g
  | [], g, env, h, K, ho, he, e => ⟨env, h, rfl, rfl, ⟨he, ho, .refl _, fun _ _ => rfl, rfl⟩, e⟩
  | o :: l, g, env, h, K, ho, he, e => by
    unfold sops at e
    obtain ⟨env1, q1, q2, q3, q4⟩ := sbranch_ok he e
    rw [pops_cons]
    rcases q4 with ⟨hw, e1⟩ | ⟨hw, e1⟩
    · rw [hw, pgo_true]
      obtain ⟨c, e2⟩ := run_cond e1
      have next : ∀ {g' : Γ} {v : SV} {h' : SH}, Post P h h' v → (sops P T CI Y nm ds l g' (sputD env1 o.dst v) h' K).run = some r → (pops P tab (inlT T) nm ds l (pputD (encL env) o.dst v.enc) (ench h'.l)).holdsY P G w (fun g e p => ∃ env' h', e = encL env' ∧ p = ench h'.l ∧ Ends P ((o :: l).map (·.dst)) env h env' h' ∧ (K g env' h').run = some r) g' := fun {g' v h'} a2 a3 => by
        have ih := sops_ok ht hci hy a2.2.1 (okL_putD (d := o.dst) (okL_keep a2.1 q2) a2.2.2) a3
        rw [sputD_enc, q1] at ih
        exact holdsY_mono (fun g e p ⟨env', h', b1, b2, b3, b4⟩ => ⟨env', h', b1, b2, Ends.step q1 q3 a2.1 b3, b4⟩) ih
      have chk : ∀ {g' : Γ} {v : SV} {h' : SH}, Post P h h' v → (sops P T CI Y nm ds l g' (sputD env1 o.dst v) h' K).run = some r → (pchk (needs o.op) (labOf nm o.dst) nm (encL env) (ench h.l) (pops P tab (inlT T) nm ds l (pputD (encL env) o.dst v.enc) (ench h'.l))).holdsY P G w (fun g e p => ∃ env' h', e = encL env' ∧ p = ench h'.l ∧ Ends P ((o :: l).map (·.dst)) env h env' h' ∧ (K g env' h').run = some r) g' := fun {g' v h'} a2 a3 => by
        unfold pchk
        cases hn : needs o.op with
        | false => exact next a2 a3
        | true =>
          rw [hn] at c
          simp only [cond_true] at c ⊢
          refine ⟨?_, next a2 a3⟩
          unfold sfresh at c
          rw [q1] at c
          simp only [Bool.and_eq_true] at c
          unfold fresh
          rw [c.1, c.2.1, snoH_ok c.2.2]; rfl
      unfold sexecY at e2
      split at e2
      · rename_i f args ts hop
        have hpe : pexec P tab (inlT T) (labOf nm o.dst) o (encL env) (ench h.l) = pcallV P tab (inlT T) (sval env1 f).enc (encL (sargs env1 args)) (ench h.l) := by
          unfold pexec
          rw [← q1]
          simp only [hop, sval_enc, sargs_enc]
        rw [hpe]
        have hfv := sval_ok q2 f
        have has := sargs_ok q2 args
        revert e2 hfv
        generalize sval env1 f = fv
        intro e2 hfv
        unfold scallY at e2
        split at e2
        · split at e2
          · rename_i y h1 hd
            obtain ⟨p, hp, e3⟩ := run_bind e2
            obtain ⟨g', b⟩ := p
            obtain ⟨ys, a1, a2, a3, a4⟩ := decArgs_ok ho has hd
            have : pcallV P tab (inlT T) (SV.enc .yv) (encL (sargs env1 args)) (ench h.l) = .rnd Yl.l (encL (sargs env1 args)) (ench h.l) := by
              simp only [SV.enc, pcallV]
            rw [this, pthen_rnd]
            refine ⟨ys, Y.yt, ench h1.l, g', b, a1, ?_, ?_⟩
            · rw [a2]; exact hy _ _ _ _ hp
            · have := next (v := .d .bool b) ⟨a3, a4, by simp [SV.ok]⟩ e3
              simpa [SV.enc, Ty.fv, fvv] using this
          · cases e2
        · split at e2
          · rename_i t as hst
            obtain ⟨h1, h2⟩ := starget_ok hfv has hst
            rw [pcallV_eq h1]
            unfold pcallG inlT
            cases hsl : (slT t T).isSome with
            | true =>
              rw [hsl] at e2
              simp only [cond_true] at e2
              obtain ⟨v, h', a1, a2, a3⟩ := scall_ok ht ho h2 e2
              simp only [Bool.not_true, cond_false]
              rw [a1, pthen_ok]
              exact chk a2 a3
            | false =>
              rw [hsl] at e2
              simp only [cond_false] at e2
              simp only [Bool.not_false, cond_true]
              rw [pthen_call]
              refine ⟨_, hci _ _ _ _ _ _ ho h2 e2, ?_⟩
              rintro v p ⟨v', h', rfl, rfl, a2, a3⟩
              obtain ⟨c2, a4⟩ := run_cond a3
              have := sclean_ok c2
              rw [q1] at this
              exact ⟨this, next a2 a4⟩
          · cases e2
      · rename_i hne
        obtain ⟨v, h', a1, a2, a3⟩ := sop_ok ho q2 e2
        rw [q1] at a1
        have hpe : pexec P tab (inlT T) (labOf nm o.dst) o (encL env) (ench h.l) = .ok v.enc (ench h'.l) := by
          unfold pexec
          split
          · rename_i f args ts hop; exact absurd hop (hne f args ts)
          · rw [a1]; rfl
        rw [hpe, pthen_ok]
        exact chk a2 a3
    · rw [hw, pgo_false]
      have ih := sops_ok ht hci hy ho (okL_putD (d := o.dst) (v := .tup []) q2 (by simp [SV.ok, okL])) e1
      rw [sputD_enc, q1] at ih
      simp only [SV.enc, encL] at ih
      exact holdsY_mono (fun g e p ⟨env', h', b1, b2, b3, b4⟩ => ⟨env', h', b1, b2, Ends.step q1 q3 (.refl _) b3, b4⟩) ih

/-! ### Drawn regions -/
def sdrw (P : Program) (T : STab) (nm : Nm) (ds : List (Option Tmp)) (b : Array Nat) (env0 : List SV) : Nat → List Oper → List SV → SH → List (Nat × List Nat) → List (Nat × List Nat) → List (Nat × Nat) → List (Nat × PV) → (List SV → SH → Tree R) → Tree R
  | i, [], env, h, E, F, N, V, K => cond (drawChk b (encL env0) E F N V) (K env h) .fail
  | i, o :: l, env, h, E, F, N, V, K => sbranch ds o env
      (fun env => cond (cond (needs o.op) (inP nm (labOf nm o.dst) && snoH (labOf nm o.dst) h.l) true) (sexec P T true (labOf nm o.dst) o env h fun v h' =>
        sdrw P T nm ds b env0 (i + 1) l (sputD env o.dst v) h' (cond (isEffX o) ((i, wlO nm o (encL env)) :: E) E) (cond (isEffX o) F ((i, dlO o (encL env)) :: F)) (cond (needs o.op) ((i, labOf nm o.dst) :: N) N) ((i, v.enc) :: V) K) .fail)
      (fun env => sdrw P T nm ds b env0 (i + 1) l (sputD env o.dst (.tup [])) h E F N ((i, .tup []) :: V) K)
theorem sdrw_ok {T : STab} (ht : TabS tab T) {ds : List (Option Tmp)} {b : Array Nat} {env0 : List SV} : ∀ {l : List Oper} {i : Nat} {env : List SV} {h : SH} {E F : List (Nat × List Nat)} {N : List (Nat × Nat)} {V : List (Nat × PV)} {K : List SV → SH → Tree R}, OkH P h → okL h env → (sdrw P T nm ds b env0 i l env h E F N V K).run = some r →
    (pdrw P tab nm ds b (encL env0) i l (encL env) (ench h.l) E F N V).holds P G fun e p => ∃ env' h', e = encL env' ∧ p = ench h'.l ∧ Ends P (l.map (·.dst)) env h env' h' ∧ (K env' h').run = some r
  | [], i, env, h, E, F, N, V, K, ho, he, e => by
    unfold sdrw at e
    obtain ⟨c, e1⟩ := run_cond e
    rw [pdrw_nil]
    exact ⟨c, env, h, rfl, rfl, ⟨he, ho, .refl _, fun _ _ => rfl, rfl⟩, e1⟩
  | o :: l, i, env, h, E, F, N, V, K, ho, he, e => by
    unfold sdrw at e
    obtain ⟨env1, q1, q2, q3, q4⟩ := sbranch_ok he e
    rw [pdrw_cons]
    rcases q4 with ⟨hw, e1⟩ | ⟨hw, e1⟩
    · rw [hw, pdgo_true]
      obtain ⟨c, e2⟩ := run_cond e1
      obtain ⟨v, h', a1, a2, a3⟩ := sexecD_ok ht ho q2 e2
      rw [q1] at a1
      rw [a1, pdthen_ok]
      have ih := sdrw_ok ht a2.2.1 (okL_putD (d := o.dst) (okL_keep a2.1 q2) a2.2.2) a3
      rw [sputD_enc, q1] at ih
      have ih2 := holds_mono (Q' := fun e p => ∃ env' h', e = encL env' ∧ p = ench h'.l ∧ Ends P ((o :: l).map (·.dst)) env h env' h' ∧ (K env' h').run = some r) (fun e p ⟨env', h', b1, b2, b3, b4⟩ => ⟨env', h', b1, b2, Ends.step q1 q3 a2.1 b3, b4⟩) ih
      unfold pchkD
      cases hn : needs o.op with
      | false => rw [hn] at ih2; exact ih2
      | true =>
        rw [hn] at c ih2
        simp only [cond_true] at c ⊢
        refine ⟨?_, ih2⟩
        rw [Bool.and_eq_true] at c
        rw [c.1, snoH_ok c.2]; rfl
    · rw [hw, pdgo_false]
      have ih := sdrw_ok ht ho (okL_putD (d := o.dst) (v := .tup []) q2 (by simp [SV.ok, okL])) e1
      rw [sputD_enc, q1] at ih
      simp only [SV.enc, encL] at ih
      exact holds_mono (fun e p ⟨env', h', b1, b2, b3, b4⟩ => ⟨env', h', b1, b2, Ends.step q1 q3 (.refl _) b3, b4⟩) ih
/-- a region -/
def sreg {Γ : Type} (P : Program) (G : Nat → Bool) (T : STab) (CI : CIT) (Y : YI Γ) (nm : Nm) (ops : Array Oper) (d : Bool) (g : Γ) (env : List SV) (h : SH) (K : Γ → List SV → SH → Tree R) : Tree R :=
  cond (opsOk G ops) (cond d (cond (drawOk ops && effCmp ops) (sdrw P T nm (ops.toList.map (·.dst)) (Region.before ops) env 0 ops.toList env h [] [] [] [] (K g)) .fail) (sops P T CI Y nm (ops.toList.map (·.dst)) ops.toList g env h K)) .fail
variable {nat : Nats} {good : FuncId → Bool} {rd : Bool}
theorem sreg_ok {Γ : Type} {w : Wld Γ} {T : STab} {CI : CIT} {Y : YI Γ} (s : PSet P good nat G tab) (ht : TabS tab T) (hci : CIOk P G CI) (hy : YOk P G w Y) {id : Nat} {ops : Array Oper} {d : Bool} {g : Γ} {env : List SV} {h : SH} {K : Γ → List SV → SH → Tree R} (ho : OkH P h) (he : okL h env) (e : (sreg P G T CI Y nm ops d g env h K).run = some r) :
    RunsY P G rd nm w (.region id ops d) g (encL env) (ench h.l) fun x g' pe ph => x = .normal ∧ ∃ env' h', pe = encL env' ∧ ph = ench h'.l ∧ Ends P (ops.toList.map (·.dst)) env h env' h' ∧ (K g' env' h').run = some r := by
  unfold sreg at e
  obtain ⟨c1, e1⟩ := run_cond e
  cases d with
  | true =>
    obtain ⟨c2, e2⟩ := run_cond (show (cond (drawOk ops && effCmp ops) (sdrw P T nm (ops.toList.map (·.dst)) (Region.before ops) env 0 ops.toList env h [] [] [] [] (K g)) .fail : Tree R).run = some r from e1)
    rw [Bool.and_eq_true] at c2
    refine (RunsY.of (s.drwZ (Q := fun x pe ph => x = .normal ∧ ∃ env' h', pe = encL env' ∧ ph = ench h'.l ∧ Ends P (ops.toList.map (·.dst)) env h env' h' ∧ (K g env' h').run = some r) c1 c2.1 c2.2 rfl rfl ?_)).mono ?_
    · exact holds_mono (fun e p hq => ⟨rfl, hq⟩) (sdrw_ok (G := G) ht ho he e2)
    · rintro x g' pe ph ⟨rfl, hq⟩
      exact hq
  | false => exact s.regY c1 (holdsY_mono (fun g e p hq => ⟨rfl, hq⟩) (sops_ok (G := G) ht hci hy ho he e1))
end
end Go.Sv
