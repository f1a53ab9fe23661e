/- A symbolic run, part one. Conditions: none. -/
import Derived.Test.YtjboddididohgaaGreatDoorPur23
set_option linter.all false
namespace Go.Sv
open Go.Idl
variable {el : TypeId} {j n off : Nat} {k : IntKind}
class Yl where
 l : Nat
variable [Gc]
variable {P : Program} {Z Z' : Nat -> Prop} {H : IH} {M : Nat -> Option (Nat × PO)}
inductive Ty where
 | int (k : IntKind)
 | bool
 | str
 | unit
 | list (el : TypeId) (t : Ty)
 | pair (a b : Ty)
 | raw
 | ol (el : TypeId) (k : IntKind)
 | nif deriving DecidableEq
@[reducible] def Ty.sem : Ty -> Type
  | .int _ => Int
  | .bool => Bool
  | .str => ByteArray
  | .unit => Unit
  | .list _ t => List t.sem
  | .pair a b => a.sem × b.sem
  | .raw => List (Value × Value)
  | .ol _ _ => List Int
  | .nif => Unit
def bV (l : List (Value × Value)) : List FV := List.flatMap (fun p => [.v p.1, .v p.2]) l
def fvo (el : TypeId) (k : IntKind) : List Int -> FV
 | [] => .v (.slice none 0 0)
 | x :: xs => .l el (xs.length + 1) (List.flatMap (fun i => [FV.v (.int k i)]) (x :: xs))
def Ty.cells : (t : Ty) -> t.sem -> List FV
 | .int k, x => [.v (.int k x)]
 | .bool, x => [.v (.bool x)]
 | .str, x => [.v (.string x)]
 | .unit, _ => []
 | .list el t, xs => [.l el (List.length xs) (List.flatMap t.cells xs)]
 | .pair a b, x => a.cells x.1 ++ b.cells x.2
 | .raw, xs => [.l 1000000001 (List.length xs) (bV xs)]
 | .ol el k, xs => [fvo el k xs]
 | .nif, _ => [.v .nilIface]
def Ty.w : Ty -> Nat
 | .int _ | .bool | .str | .list _ _ | .raw | .ol _ _ | .nif => 1
 | .unit => 0
 | .pair a b => a.w + b.w
def Ty.nol : Ty -> Bool
 | .ol _ _ => false
 | .pair a b => a.nol && b.nol
 | _ => true
def Ty.one : Ty -> Bool
 | .unit => false
 | .pair _ _ => false
 | _ => true
def Ty.fv : (t : Ty) -> t.sem -> FV
 | .int k, x => .v (.int k x)
 | .bool, x => .v (.bool x)
 | .str, x => .v (.string x)
 | .list el t, xs => .l el (List.length xs) (List.flatMap t.cells xs)
 | .raw, xs => .l 1000000001 (List.length xs) (bV xs)
 | .ol el k, xs => fvo el k xs
 | .nif, _ => .v .nilIface
 | _, _ => .v undef
theorem Ty.cells_one : ∀ {t : Ty} {x : t.sem}, t.one = true -> t.cells x = [t.fv x]
 | .int _, _, _ => rfl
 | .bool, _, _ => rfl
 | .str, _, _ => rfl
 | .list _ _, _, _ => rfl
 | .raw, _, _ => rfl
 | .ol _ _, _, _ => rfl
 | .nif, _, _ => rfl
 | .unit, _, h => by cases h
 | .pair _ _, _, h => by cases h
theorem Ty.zAH : ∀ (t : Ty) (x : t.sem), (t.cells x).length = t.w
 | .int _, _ => rfl
 | .bool, _ => rfl
 | .str, _ => rfl
 | .list _ _, _ => rfl
 | .raw, _ => rfl
 | .ol _ _, _ => rfl
 | .nif, _ => rfl
 | .unit, _ => rfl
 | .pair a b, x => by
   show (a.cells x.1 ++ b.cells x.2).length = a.w + b.w;rw [zKS, a.zAH, b.zAH]
theorem yR {t : Ty} : ∀ (xs : List t.sem), (xs.flatMap t.cells).length = xs.length * t.w
 | [] => by simp
 | x :: xs => by rw [zKV, zKS, t.zAH, yR xs, zKM, zMK, zMV]
theorem aH {t : Ty} : ∀ (xs : List t.sem) (j : Nat), (xs.flatMap t.cells).drop (j * t.w) = (xs.drop j).flatMap t.cells
 | xs, 0 => by simp
 | [], j + 1 => by simp
 | x :: xs, j + 1 => by
   rw [zKV, List.drop_succ_cons, <- aH xs j, zMK, zMV, <- zNI]
   congr 1
   rw [List.drop_append_of_le_length (by rw [t.zAH]; exact zJ3 _), List.drop_of_length_le (by rw [t.zAH]; exact zJ3 _), List.nil_append]
theorem nK {t : Ty} : ∀ (xs : List t.sem) (j : Nat), (xs.flatMap t.cells).take (j * t.w) = (xs.take j).flatMap t.cells
 | xs, 0 => by simp
 | [], j + 1 => by simp
 | x :: xs, j + 1 => by
   rw [zKV, zLV, zKV, <- nK xs j, zMK, zMV, List.take_append, t.zAH, zNJ, zK5 (by rw [t.zAH]; omega)]
theorem qSL {t : Ty} {xs : List t.sem} {x : t.sem} (h : xs[j]? = some x) : ((xs.flatMap t.cells).drop (j * t.w)).take t.w = t.cells x := by
 rw [aH]
 have hj := (zJ6.1 h)
 obtain ⟨hl, hx⟩ := hj;rw [zMQ hl, hx, zKV, List.take_append_of_le_length (by rw [t.zAH]; exact zJ3 _), zK5 (by rw [t.zAH]; exact zJ3 _)]
theorem qHI {t : Ty} {xs : List t.sem} {x : t.sem} (h : xs[j]? = some x) (hn : off + n <= t.w) : ((xs.flatMap t.cells).drop (j * t.w + off)).take n = ((t.cells x).drop off).take n := by
 rw [<- qSL h, List.drop_take, zNI, zN8, zL2 (by omega)]
theorem flat_get {t : Ty} {xs : List t.sem} {x : t.sem} (h : xs[j]? = some x) (hn : off < t.w) : (xs.flatMap t.cells)[j * t.w + off]? = (t.cells x)[off]? := by
 rw [<- qSL h, zLD, if_pos hn, zLH]
theorem qFQ {t : Ty} {xs : List t.sem} {x : t.sem} (h : xs[j]? = some x) (hn : off + n <= t.w) : j * t.w + off + n <= (xs.flatMap t.cells).length := by
 have hl := (zJ6.1 h).1;rw [yR];have : (j + 1) * t.w <= xs.length * t.w := zLJ _ hl;rw [zMK] at this;omega
theorem qHG : ∀ (xs ys : List (Value × Value)), bV xs = bV ys -> xs = ys
 | [], [], _ => rfl
 | [], y :: ys, h => by cases h
 | x :: xs, [], h => by cases h
 | x :: xs, y :: ys, h => by
   have h : FV.v x.1 :: FV.v x.2 :: bV xs = FV.v y.1 :: FV.v y.2 :: bV ys := h;injection h with h1 h2;injection h2 with h2 h3;injection h1 with h1;injection h2 with h2;rw [qHG xs ys h3, Prod.ext h1 h2]
theorem qA4 : ∀ (xs : List (Value × Value)), (bV xs).length = 2 * xs.length
 | [] => rfl
 | x :: xs => by
   show (bV xs).length + 2 = _;rw [qA4 xs, zKM]; omega
theorem qOP : ∀ (xs ys : List (Value × Value)) (vs : List Value), FRL Z H (bV xs) vs -> FRL Z' H (bV ys) vs -> xs = ys
 | [], [], _, _, _ => rfl
 | [], y :: ys, vs, a, b => by have := a.len; have := b.len; simp [bV] at *; omega
 | x :: xs, [], vs, a, b => by have := a.len; have := b.len; simp [bV] at *; omega
 | x :: xs, y :: ys, vs, a, b => by
   have a : FRL Z H (FV.v x.1 :: FV.v x.2 :: bV xs) vs := a;have b : FRL Z' H (FV.v y.1 :: FV.v y.2 :: bV ys) vs := b;obtain ⟨v, vs', rfl, a1, a2⟩ := a.zAA;obtain ⟨v', vs2, e, b1, b2⟩ := b.zAA;cases e;obtain ⟨w, vs3, rfl, a3, a4⟩ := a2.zAA;obtain ⟨w', vs4, e, b3, b4⟩ := b2.zAA;cases e;have e1 := (qJ7 a1).symm.trans (qJ7 b1);have e2 := (qJ7 a3).symm.trans (qJ7 b3);rw [qOP xs ys _ a4 b4, Prod.ext e1 e2]
theorem qOU {k : IntKind} : ∀ (xs ys : List Int), List.flatMap (fun i => [FV.v (.int k i)]) xs = List.flatMap (fun i => [FV.v (.int k i)]) ys -> xs = ys
 | [], [], _ => rfl
 | [], y :: ys, h => by simp at h
 | x :: xs, [], h => by simp at h
 | x :: xs, y :: ys, h => by
   have h : FV.v (.int k x) :: List.flatMap (fun i => [FV.v (.int k i)]) xs = FV.v (.int k y) :: List.flatMap (fun i => [FV.v (.int k i)]) ys := h;injection h with h1 h2;injection h1 with h1;injection h1 with _ h1;rw [h1, qOU xs ys h2]
theorem qNQ (xs : List Int) : (List.flatMap (fun i => [FV.v (.int k i)]) xs).length = xs.length := by
 induction xs with
 | nil => rfl
 | cons x xs ih => rw [zKV, zKS, ih]; simp; omega
theorem qJ2 {k : IntKind} : ∀ (xs ys : List Int) (vs : List Value), FRL Z H (List.flatMap (fun i => [FV.v (.int k i)]) xs) vs -> FRL Z' H (List.flatMap (fun i => [FV.v (.int k i)]) ys) vs -> xs = ys
 | [], [], _, _, _ => rfl
 | [], y :: ys, vs, a, b => by have := a.len; have := b.len; simp at *; omega
 | x :: xs, [], vs, a, b => by have := a.len; have := b.len; simp at *; omega
 | x :: xs, y :: ys, vs, a, b => by
   have a : FRL Z H (FV.v (.int k x) :: List.flatMap (fun i => [FV.v (.int k i)]) xs) vs := a;have b : FRL Z' H (FV.v (.int k y) :: List.flatMap (fun i => [FV.v (.int k i)]) ys) vs := b;obtain ⟨v, vs', rfl, a1, a2⟩ := a.zAA;obtain ⟨v', vs2, e, b1, b2⟩ := b.zAA;cases e;have e1 := (qJ7 a1).symm.trans (qJ7 b1);injection e1 with _ e1;rw [qJ2 xs ys _ a2 b2, e1]
theorem q21 : ∀ {xs ys : List Int}, fvo el k xs = fvo el k ys -> xs = ys
 | [], [], _ => rfl
 | [], _ :: _, h => by cases h
 | _ :: _, [], h => by cases h
 | x :: xs, y :: ys, h => by
   injection h with _ _ h;exact qOU _ _ h
theorem qW9 {v : Value} : ∀ {xs ys : List Int}, FR Z H (fvo el k xs) v -> FR Z' H (fvo el k ys) v -> xs = ys
 | [], [], _, _ => rfl
 | [], _ :: _, a, b => by have := qJ7 a; subst this; cases b
 | _ :: _, [], a, b => by have := qJ7 b; subst this; cases a
 | x :: xs, y :: ys, a, b => by
   obtain ⟨h1, ws, ws', h2, h3, h4⟩ := nL a b;have := h4 (by rw [qNQ, qNQ]; simpa using h1);subst this;exact qJ2 _ _ ws h2 h3
theorem Ty.inj : ∀ (t : Ty) (x y : t.sem), t.cells x = t.cells y -> x = y
 | .int _, x, y, h => by injection h with h; injection h with h; injection h
 | .bool, x, y, h => by injection h with h; injection h with h; injection h
 | .str, x, y, h => by injection h with h; injection h with h; injection h
 | .unit, _, _, _ => rfl
 | .nif, _, _, _ => rfl
 | .ol el k, xs, ys, h => by
   injection h with h;exact q21 h
 | .raw, xs, ys, h => by
   injection h with h;injection h with _ h1 h2;exact qHG _ _ h2
 | .pair a b, x, y, h => by
   have := List.append_inj (show a.cells x.1 ++ b.cells x.2 = a.cells y.1 ++ b.cells y.2 from h) (by rw [a.zAH, a.zAH]);exact Prod.ext (a.inj _ _ this.1) (b.inj _ _ this.2)
 | .list el t, xs, ys, h => by
   injection h with h;injection h with _ h1 h2;exact go t xs ys h1 h2
where
 go (t : Ty) : ∀ (xs ys : List t.sem), xs.length = ys.length -> xs.flatMap t.cells = ys.flatMap t.cells -> xs = ys
 | [], [], _, _ => rfl
 | [], y :: ys, e, h => by cases e
 | x :: xs, [], e, h => by cases e
 | x :: xs, y :: ys, e, h => by
   rw [zKV, zKV] at h;have := List.append_inj h (by rw [t.zAH, t.zAH]);rw [t.inj x y this.1, go t xs ys (by simpa using e) this.2]
theorem Ty.uniq : ∀ (t : Ty) {x y : t.sem} {vs : List Value}, FRL Z H (t.cells x) vs -> FRL Z' H (t.cells y) vs -> x = y
 | .int k, x, y, vs, a, b => by
   obtain ⟨v, vs', rfl, a1, _⟩ := a.zAA;obtain ⟨v', vs2, e, b1, _⟩ := b.zAA;cases e;have := (qJ7 a1).symm.trans (qJ7 b1);injection this
 | .bool, x, y, vs, a, b => by
   obtain ⟨v, vs', rfl, a1, _⟩ := a.zAA;obtain ⟨v', vs2, e, b1, _⟩ := b.zAA;cases e;have := (qJ7 a1).symm.trans (qJ7 b1);injection this
 | .str, x, y, vs, a, b => by
   obtain ⟨v, vs', rfl, a1, _⟩ := a.zAA;obtain ⟨v', vs2, e, b1, _⟩ := b.zAA;cases e;have := (qJ7 a1).symm.trans (qJ7 b1);injection this
 | .unit, _, _, _, _, _ => rfl
 | .nif, _, _, _, _, _ => rfl
 | .ol el k, xs, ys, vs, a, b => by
   obtain ⟨v, vs', rfl, a1, _⟩ := a.zAA;obtain ⟨v', vs2, e, b1, _⟩ := b.zAA;cases e;exact qW9 a1 b1
 | .raw, xs, ys, vs, a, b => by
   obtain ⟨v, vs', rfl, a1, _⟩ := a.zAA;obtain ⟨v', vs2, e, b1, _⟩ := b.zAA;cases e;obtain ⟨h1, ws, ws', h2, h3, h4⟩ := nL a1 b1;have := h4 (by rw [qA4, qA4, h1]);subst this;exact qOP xs ys ws h2 h3
 | .pair s t, x, y, vs, a, b => by
   obtain ⟨a1, a2⟩ := FRL.split (xs := s.cells x.1) (ys := t.cells x.2) a;obtain ⟨b1, b2⟩ := FRL.split (xs := s.cells y.1) (ys := t.cells y.2) b;rw [s.zAH] at a1 a2 b1 b2;exact Prod.ext (s.uniq a1 b1) (t.uniq a2 b2)
 | .list el t, xs, ys, vs, a, b => by
   obtain ⟨v, vs', rfl, a1, _⟩ := a.zAA;obtain ⟨v', vs2, e, b1, _⟩ := b.zAA;cases e;obtain ⟨h1, ws, ws', h2, h3, h4⟩ := nL a1 b1;have := h4 (by rw [yR, yR, h1]);subst this;exact go t xs ys ws h1 h2 h3
where
 go (t : Ty) : ∀ (xs ys : List t.sem) (vs : List Value), xs.length = ys.length -> FRL Z H (xs.flatMap t.cells) vs -> FRL Z' H (ys.flatMap t.cells) vs -> xs = ys
 | [], [], _, _, _, _ => rfl
 | [], y :: ys, vs, e, a, b => by cases e
 | x :: xs, [], vs, e, a, b => by cases e
 | x :: xs, y :: ys, vs, e, a, b => by
   rw [zKV] at a b;obtain ⟨a1, a2⟩ := a.split;obtain ⟨b1, b2⟩ := b.split;rw [t.zAH] at a1 a2 b1 b2;rw [t.uniq a1 b1, go t xs ys _ (by simpa using e) a2 b2]
def Ty.pv (t : Ty) (x : t.sem) : PV := cond t.one (.f (t.fv x)) (.agg ((t.cells x).map .f))
def Ty.en (t : Ty) : PEn t.sem := ⟨t.pv, fun x y h => by
 unfold Ty.pv at h
 cases ht : t.one with
 | true =>
   rw [ht] at h;injection h with h;exact t.inj x y (by rw [Ty.cells_one ht, Ty.cells_one ht, h])
 | false =>
   rw [ht] at h;injection h with h
   exact t.inj x y (q67 _ _ h), fun P Z Z' H x y v a b => by
 unfold Ty.pv at a b
 cases ht : t.one with
 | true =>
   rw [ht] at a b
   cases a with
   | f a => cases b with
     | f b => exact t.uniq (vs := [v]) (by rw [Ty.cells_one ht]; exact .cons a ⟨rfl, fun i x v h => by simp at h⟩) (by rw [Ty.cells_one ht]; exact .cons b ⟨rfl, fun i x v h => by simp at h⟩)
 | false =>
   rw [ht] at a b;obtain ⟨vs, rfl, h1⟩ := VR.zCO a;obtain ⟨vs', e, h2⟩ := VR.zCO b;cases e
   exact t.uniq (qGH h1) (qGH h2)⟩
@[reducible] def TyL : List Ty -> Type
  | [] => Unit
  | [t] => t.sem
  | t :: u :: ts => t.sem × TyL (u :: ts)
def pvL : (ts : List Ty) -> TyL ts -> List PV
 | [], _ => []
 | [t], x => [t.pv x]
 | t :: u :: ts, x => t.pv x.1 :: pvL (u :: ts) x.2
theorem qR3 : ∀ (ts : List Ty) (x y : TyL ts), pvL ts x = pvL ts y -> x = y
 | [], _, _, _ => rfl
 | [t], x, y, h => by injection h with h; exact t.en.inj x y h
 | t :: u :: ts, x, y, h => by
   injection h with h1 h2;exact Prod.ext (t.en.inj _ _ h1) (qR3 (u :: ts) _ _ h2)
theorem qNJ : ∀ (ts : List Ty) (x y : TyL ts) (vs : List Value), VRL P Z H (fun _ => none) (pvL ts x) vs -> VRL P Z' H (fun _ => none) (pvL ts y) vs -> x = y
 | [], _, _, _, _, _ => rfl
 | [t], x, y, vs, a, b => by
   obtain ⟨v, vs', rfl, a1, _⟩ := a.zAA;obtain ⟨v', vs2, e, b1, _⟩ := b.zAA;cases e;exact t.en.uniq P Z Z' H x y v a1 b1
 | t :: u :: ts, x, y, vs, a, b => by
   obtain ⟨v, vs', rfl, a1, a2⟩ := a.zAA;obtain ⟨v', vs2, e, b1, b2⟩ := b.zAA;cases e;exact Prod.ext (t.en.uniq P Z Z' H _ _ v a1 b1) (qNJ (u :: ts) _ _ _ a2 b2)
def enL (ts : List Ty) : AEn (TyL ts) := ⟨pvL ts, qR3 ts, fun P Z Z' H x y vs a b => qNJ ts x y vs a b⟩
def j5 : (ts : List Ty) -> TyL ts -> PV := fun ts x => qCJ (pvL ts x)
end Go.Sv
namespace Go.Sv
open Go.Idl
variable [Gc]
variable {P : Program}
variable {b : Bool} {k : Nat}
def q97 (R : Type) : Type := Option R
section
variable {R α σ ρ : Type}
def q97.run (t : q97 R) : Option R := t
def q97.fail : q97 R := (none : Option R)
def q97.ret (r : R) : q97 R := some r
def q97.ite (b : Bool) (x y : q97 R) : q97 R := cond b x y
noncomputable def q97.bind (o : Option α) (k : α -> q97 R) : q97 R := Option.rec q97.fail k o
open Classical in
noncomputable def qIQ (x y : Option R) : Option R := if x = y then x else none
noncomputable def q97.both (x y : q97 R) : q97 R := q97.bind (qIQ x y) .ret
noncomputable def q97.loop (f : σ -> q97 (σ ⊕ ρ)) (s : σ) (k : ρ -> q97 R) : q97 R := q97.bind (zW (fun s => (f s).run) s) k
end
theorem run_ite {R : Type} {x y : q97 R} {r : R} (h : (q97.ite b x y).run = some r) : (b = true ∧ x.run = some r) ∨ (b = false ∧ y.run = some r) := by
 cases b with
 | true => exact .inl ⟨rfl, h⟩
 | false => exact .inr ⟨rfl, h⟩
theorem run_bind {R α : Type} {o : Option α} {k : α -> q97 R} {r : R} (h : (q97.bind o k).run = some r) : ∃ a, o = some a ∧ (k a).run = some r := by
 cases o with
 | none => cases h
 | some a => exact ⟨a, rfl, h⟩
theorem qW2 {R σ ρ : Type} {f : σ -> q97 (σ ⊕ ρ)} {s : σ} {k : ρ -> q97 R} {r : R} (h : (q97.loop f s k).run = some r) : ∃ a, zW (fun s => (f s).run) s = some a ∧ (k a).run = some r := run_bind h
theorem qSY {R : Type} {x y : Option R} {r : R} (h : qIQ x y = some r) : x = some r ∧ y = some r := by
 unfold qIQ at h;split at h
 ·rename_i e;exact ⟨h, e ▸ h⟩
 ·cases h
theorem qXA {R : Type} {x y : q97 R} {r : R} (h : (q97.both x y).run = some r) : x.run = some r ∧ y.run = some r := by
 obtain ⟨a, h1, h2⟩ := run_bind h;cases h2;exact qSY h1
theorem qP9 {R : Type} (x : Option R) : qIQ x x = x := by unfold qIQ; rw [if_pos rfl]
theorem qG {R : Type} {x : q97 R} {r : R} (h : (cond b x .fail).run = some r) : b = true ∧ x.run = some r := by
 cases b with
 | true => exact ⟨rfl, h⟩
 | false => cases h
inductive SV where
 | d (t : Ty) (x : t.sem)
 | c (v : Value)
 | agg (l : List SV)
 | tup (l : List SV)
 | own (k g n : Nat)
 | sl (k g n o m : Nat)
 | ref (k off w : Nat)
 | elt (k g n w j off : Nat)
 | lp (t : Ty) (xs : List t.sem) (j off : Nat)
 | fn (f : FuncId) (first cap : List SV)
 | unk
 | yv
 | bq
 | mp (k : Nat)
 | opt (b : Bool) (k off w : Nat)
 | rfx (k off w : Nat)
 | etx (k g n w j off : Nat)
section
variable [Yl]
mutual
def SV.enc : SV -> PV
 | .d t x => .f (t.fv x)
 | .c v => fvv v
 | .agg l => .agg (qB l)
 | .tup l => .tup (qB l)
 | .own k _ n => .own k n 0 n
 | .sl k _ n o m => .own k n o m
 | .ref k off w => .ref k w off
 | .elt k _ n w j off => .ref k (n * w) (j * w + off)
 | .lp t xs j off => .lp (List.flatMap t.cells xs) (j * t.w + off)
 | .fn f a b => .fn f (qB a) (qB b)
 | .unk => .unk
 | .yv => .yl Yl.l
 | .bq => .bq
 | .mp k => .mp k
 | .opt b k off w => cond b (.ref k w off) (fvv (.pointer none))
 | .rfx k off w => .ref k w off
 | .etx k _ n w j off => .ref k (n * w) (j * w + off)
def qB : List SV -> List PV
 | [] => []
 | x :: l => x.enc :: qB l
end
theorem qZ : ∀ (l : List SV), qB l = l.map SV.enc
 | [] => by simp [qB]
 | x :: l => by simp [qB, qZ l]
end
inductive SpO where
 | map (es : List (Value × Value))
 | iter (s : ByteArray) (pos : Nat)
 | mit (t : TypeId) (k since last : Nat) (seen : List Nat)
def yD : Nat -> List (Value × Value) -> List MapEntry
 | _, [] => []
 | i, p :: l => ⟨p.1, p.2, i⟩ :: yD (i + 1) l
def SpO.enc : SpO -> PO
 | .map es => ⟨1000000001, false, kR (List.length es) (yD 0 es)⟩
 | .iter s pos => ⟨1000000000, false, qRR s pos⟩
 | .mit _ k since last seen => ⟨1000000002, false, qS2 (.mp k) since last seen⟩
inductive SO where
 | spc (w : Nat) (x : SpO)
 | cells (el : TypeId) (w : Nat) (l : List SV)
 | list (el : TypeId) (gr : Bool) (g w : Nat) (t : Ty) (xs : List t.sem)
section
variable [Yl]
def SO.enc : SO -> PO
 | .cells el _ l => ⟨el, false, qB l⟩
 | .list el gr _ _ t xs => ⟨el, gr, (List.flatMap t.cells xs).map .f⟩
 | .spc _ x => x.enc
def SO.w : SO -> Nat
 | .cells _ w _ => w
 | .list _ _ _ w _ _ => w
 | .spc w _ => w
structure SH where
 next : Nat
 l : List (Nat × SO)
def slk (k : Nat) : List (Nat × SO) -> Option SO
 | [] => none
 | (j, o) :: l => cond (k == j) (some o) (slk k l)
def sst (k : Nat) (o : SO) : List (Nat × SO) -> List (Nat × SO)
 | [] => []
 | (j, p) :: l => cond (k == j) ((j, o) :: l) ((j, p) :: sst k o l)
def sdl (k : Nat) : List (Nat × SO) -> List (Nat × SO)
 | [] => []
 | (j, p) :: l => cond (k == j) (sdl k l) ((j, p) :: sdl k l)
def qD : List (Nat × SO) -> PHp
 | [] => []
 | (j, o) :: l => (j, o.enc) :: qD l
theorem uQ (k : Nat) : ∀ (l : List (Nat × SO)), qA k (qD l) = (slk k l).map SO.enc
 | [] => rfl
 | (j, o) :: l => by
   show cond (k == j) (some o.enc) (qA k (qD l)) = (cond (k == j) (some o) (slk k l)).map SO.enc;cases k == j
   ·exact uQ k l
   ·rfl
theorem vK (k : Nat) (o : SO) : ∀ (l : List (Nat × SO)), qD (sst k o l) = kQ k o.enc (qD l)
 | [] => rfl
 | (j, p) :: l => by
   show qD (cond (k == j) ((j, o) :: l) ((j, p) :: sst k o l)) = cond (k == j) ((j, o.enc) :: qD l) ((j, p.enc) :: kQ k o.enc (qD l));cases k == j
   ·show (j, p.enc) :: qD (sst k o l) = _;rw [vK k o l]; rfl
   ·rfl
theorem mY (k : Nat) : ∀ (l : List (Nat × SO)), qD (sdl k l) = rV k (qD l)
 | [] => rfl
 | (j, p) :: l => by
   show qD (cond (k == j) (sdl k l) ((j, p) :: sdl k l)) = cond (k == j) (rV k (qD l)) ((j, p.enc) :: rV k (qD l));cases k == j
   ·show (j, p.enc) :: qD (sdl k l) = _;rw [mY k l]; rfl
   ·exact mY k l
end
theorem qDE {k j : Nat} {o : SO} (hj : j ≠ k) : ∀ (l : List (Nat × SO)), slk j (sst k o l) = slk j l
 | [] => rfl
 | (i, p) :: l => by
   show slk j (cond (k == i) ((i, o) :: l) ((i, p) :: sst k o l)) = cond (j == i) (some p) (slk j l)
   cases h : k == i with
   | true =>
     have : k = i := by simpa using h
     subst this;show cond (j == k) (some o) (slk j l) = _;rw [show (j == k) = false by simpa using hj]; rfl
   | false =>
     show cond (j == i) (some p) (slk j (sst k o l)) = _;rw [qDE hj l]
theorem qRD {k : Nat} {o p : SO} : ∀ {l : List (Nat × SO)}, slk k l = some p -> slk k (sst k o l) = some o
 | (i, q) :: l, h => by
   have h : cond (k == i) (some q) (slk k l) = some p := h;show slk k (cond (k == i) ((i, o) :: l) ((i, q) :: sst k o l)) = some o
   cases hi : k == i with
   | true =>
     show cond (k == i) (some o) (slk k l) = some o;rw [hi]; rfl
   | false =>
     rw [hi] at h;show cond (k == i) (some q) (slk k (sst k o l)) = some o;rw [hi]; exact qRD (l := l) h
theorem jH {k j : Nat} (hj : j ≠ k) : ∀ (l : List (Nat × SO)), slk j (sdl k l) = slk j l
 | [] => rfl
 | (i, p) :: l => by
   show slk j (cond (k == i) (sdl k l) ((i, p) :: sdl k l)) = cond (j == i) (some p) (slk j l)
   cases h : k == i with
   | true =>
     have : k = i := by simpa using h
     subst this;rw [show (j == k) = false by simpa using hj];exact jH hj l
   | false =>
     show cond (j == i) (some p) (slk j (sdl k l)) = _;rw [jH hj l]
theorem qMG (k : Nat) : ∀ (l : List (Nat × SO)), slk k (sdl k l) = none
 | [] => rfl
 | (i, p) :: l => by
   show slk k (cond (k == i) (sdl k l) ((i, p) :: sdl k l)) = none
   cases h : k == i with
   | true => exact qMG k l
   | false =>
     show cond (k == i) (some p) (slk k (sdl k l)) = none;rw [h]; exact qMG k l
theorem yB {j : Nat} {o : SO} {l : List (Nat × SO)} (hj : j ≠ k) : slk j ((k, o) :: l) = slk j l := by
 show cond (j == k) (some o) (slk j l) = _;rw [show (j == k) = false by simpa using hj]; rfl
theorem vG {o : SO} {l : List (Nat × SO)} : slk k ((k, o) :: l) = some o := by
 show cond (k == k) (some o) (slk k l) = _;simp
def qYJ (h : SH) (k g n : Nat) : Prop := g < h.next ∧ ∀ el gr w t xs, slk k h.l = some (.list el gr g w t xs) -> n = xs.length
mutual
def SV.ok (h : SH) : SV -> Prop
 | .agg l => okL h l
 | .tup l => okL h l
 | .own k g n => qYJ h k g n
 | .sl k g n o m => qYJ h k g n ∧ o + m <= n
 | .elt k g n _ _ _ => qYJ h k g n
 | .etx k g n _ _ _ => qYJ h k g n
 | .fn _ a b => okL h a ∧ okL h b
 | _ => True
def okL (h : SH) : List SV -> Prop
 | [] => True
 | x :: l => x.ok h ∧ okL h l
end
theorem yF {h : SH} : ∀ {l : List SV}, okL h l ↔ ∀ x ∈ l, x.ok h
 | [] => by simp [okL]
 | x :: l => by simp [okL, yF (l := l)]
structure OkH (P : Program) (h : SH) : Prop where
 ver : ∀ k ob, slk k h.l = some ob -> ob.w < h.next
 cells : ∀ k el w l, slk k h.l = some (.cells el w l) -> okL h l
 list : ∀ k el gr g w t xs, slk k h.l = some (.list el gr g w t xs) -> g < h.next ∧ szT P el = some t.w ∧ 0 < t.w
structure Keep (h h' : SH) : Prop where
 next : h.next <= h'.next
 same : ∀ k ob, slk k h'.l = some ob -> ob.w < h.next -> slk k h.l = some ob
 len : ∀ k el gr g w t xs, slk k h'.l = some (.list el gr g w t xs) -> g < h.next -> ∃ w0, ∃ xs0 : List t.sem, slk k h.l = some (.list el gr g w0 t xs0) ∧ xs0.length = xs.length
theorem Keep.refl (h : SH) : Keep h h := ⟨zJ3 _, fun _ _ h _ => h, fun k el gr g w t xs h _ => ⟨w, xs, h, rfl⟩⟩
theorem Keep.trans {a b c : SH} (x : Keep a b) (y : Keep b c) : Keep a c :=
 ⟨zKL x.next y.next, fun k ob h hw => x.same k ob (y.same k ob h (zJ7 hw x.next)) hw, fun k el gr g w t xs h hg => by
   obtain ⟨w1, xs1, h1, e1⟩ := y.len k el gr g w t xs h (zJ7 hg x.next);obtain ⟨w2, xs2, h2, e2⟩ := x.len k el gr g w1 t xs1 h1 hg
   exact ⟨w2, xs2, h2, e2.trans e1⟩⟩
theorem qYJ.keep {h h' : SH} {g n : Nat} (a : qYJ h k g n) (b : Keep h h') : qYJ h' k g n :=
 ⟨zJ7 a.1 b.next, fun el gr w t xs hk => by
   obtain ⟨w0, xs0, h0, e0⟩ := b.len k el gr g w t xs hk a.1
   rw [<- e0]; exact a.2 el gr w0 t xs0 h0⟩
mutual
theorem SV.ok.keep {h h' : SH} (b : Keep h h') : ∀ {x : SV}, x.ok h -> x.ok h'
 | .agg l, a => by simp only [SV.ok] at a ⊢; exact qN b a
 | .tup l, a => by simp only [SV.ok] at a ⊢; exact qN b a
 | .own k g n, a => by simp only [SV.ok] at a ⊢; exact a.keep b
 | .sl k g n o m, a => by simp only [SV.ok] at a ⊢; exact ⟨a.1.keep b, a.2⟩
 | .elt k g n w j off, a => by simp only [SV.ok] at a ⊢; exact a.keep b
 | .etx k g n w j off, a => by simp only [SV.ok] at a ⊢; exact a.keep b
 | .fn f x y, a => by simp only [SV.ok] at a ⊢; exact ⟨qN b a.1, qN b a.2⟩
 | .d _ _, _ => by simp [SV.ok]
 | .c _, _ => by simp [SV.ok]
 | .ref _ _ _, _ => by simp [SV.ok]
 | .lp _ _ _ _, _ => by simp [SV.ok]
 | .unk, _ => by simp [SV.ok]
 | .yv, _ => by simp [SV.ok]
 | .bq, _ => by simp [SV.ok]
 | .mp _, _ => by simp [SV.ok]
 | .opt _ _ _ _, _ => by simp [SV.ok]
 | .rfx _ _ _, _ => by simp [SV.ok]
theorem qN {h h' : SH} (b : Keep h h') : ∀ {l : List SV}, okL h l -> okL h' l
 | [], _ => by simp [okL]
 | x :: l, a => by simp only [okL] at a ⊢; exact ⟨SV.ok.keep b a.1, qN b a.2⟩
end
def SH.new (h : SH) (k : Nat) (f : Nat -> SO) : SH := ⟨h.next + 1, (k, f h.next) :: h.l⟩
def SH.put (h : SH) (k : Nat) (f : Nat -> SO) : SH := ⟨h.next + 1, sst k (f h.next) h.l⟩
def SH.del (h : SH) (k : Nat) : SH := ⟨h.next, sdl k h.l⟩
def q5Z (P : Program) (h : SH) (n : Nat) : SO -> Prop
 | .cells _ w l => w = n ∧ okL h l
 | .list el _ g w t _ => w = n ∧ g = n ∧ szT P el = some t.w ∧ 0 < t.w
 | .spc w _ => w = n
theorem qZL {h : SH} {f : Nat -> SO} (hw : (f h.next).w = h.next) (hg : ∀ el gr g w t xs, f h.next = .list el gr g w t xs -> g = h.next) : Keep h (h.new k f) :=
 ⟨zNO _, fun j ob hj hlt => by
   by_cases e : j = k
   ·subst e; rw [show slk j (h.new j f).l = some (f h.next) from vG] at hj;cases hj; omega
   ·rwa [show slk j (h.new k f).l = slk j h.l from yB e] at hj, fun j el gr g w t xs hj hlt => by
   by_cases e : j = k
   ·subst e; rw [show slk j (h.new j f).l = some (f h.next) from vG] at hj;have := hg _ _ _ _ _ _ (zK2 hj);omega
   ·rw [show slk j (h.new k f).l = slk j h.l from yB e] at hj
    exact ⟨w, xs, hj, rfl⟩⟩
theorem xU {h : SH} {f : Nat -> SO} (a : OkH P h) (hf : q5Z P h h.next (f h.next)) : Keep h (h.new k f) ∧ OkH P (h.new k f) := by
 have hw : (f h.next).w = h.next := by
  cases hq : f h.next with
  | cells el w l => rw [hq] at hf; exact hf.1
  | list el gr g w t xs => rw [hq] at hf; exact hf.1
  | spc w x => rw [hq] at hf; exact hf
 have hk : Keep h (h.new k f) := qZL hw fun el gr g w t xs e => by rw [e] at hf; exact hf.2.1
 refine ⟨hk, ⟨fun j ob hj => ?_, fun j el w l hj => ?_, fun j el gr g w t xs hj => ?_⟩⟩
 ·by_cases e : j = k
  ·subst e; rw [show slk j (h.new j f).l = some (f h.next) from vG] at hj;cases hj; rw [hw]; exact zK0 _
  ·rw [show slk j (h.new k f).l = slk j h.l from yB e] at hj;exact zLQ (a.ver j ob hj)
 ·by_cases e : j = k
  ·subst e; rw [show slk j (h.new j f).l = some (f h.next) from vG] at hj;rw [zK2 hj] at hf;exact qN hk hf.2
  ·rw [show slk j (h.new k f).l = slk j h.l from yB e] at hj;exact qN hk (a.cells j el w l hj)
 ·by_cases e : j = k
  ·subst e; rw [show slk j (h.new j f).l = some (f h.next) from vG] at hj;rw [zK2 hj] at hf;exact ⟨by rw [hf.2.1]; exact zK0 _, hf.2.2⟩
  ·rw [show slk j (h.new k f).l = slk j h.l from yB e] at hj;have := a.list j el gr g w t xs hj;exact ⟨zLQ this.1, this.2⟩
def q8I (h : SH) (n : Nat) : SO -> SO -> Prop
 | .cells _ _ _, .cells _ w' l' => w' = n ∧ okL h l'
 | .list el gr g _ t xs, ob' => ∃ xs' : List t.sem, ob' = .list el gr g n t xs' ∧ xs.length = xs'.length
 | .spc _ _, .spc w' _ => w' = n
 | _, _ => False
theorem aF {h : SH} {f : Nat -> SO} {ob : SO} (a : OkH P h) (hk : slk k h.l = some ob) (hf : q8I h h.next ob (f h.next)) : Keep h (h.put k f) ∧ OkH P (h.put k f) := by
 have hs : slk k (h.put k f).l = some (f h.next) := qRD hk;have hn : ∀ j, j ≠ k -> slk j (h.put k f).l = slk j h.l := fun j hj => qDE hj _
 have hw : (f h.next).w = h.next := by
  cases ob with
  | cells el w l =>
    cases hq : f h.next with
    | cells el' w' l' => rw [hq] at hf; exact hf.1
    | list => rw [hq] at hf; exact hf.elim
    | spc => rw [hq] at hf; exact hf.elim
  | spc w0 x0 =>
    cases hq : f h.next with
    | spc w' x' => rw [hq] at hf; exact hf
    | list => rw [hq] at hf; exact hf.elim
    | cells => rw [hq] at hf; exact hf.elim
  | list el gr g w t xs =>
    obtain ⟨xs', e, _⟩ := hf;rw [e]; rfl
 have hkp : Keep h (h.put k f) := by
  refine ⟨zNO _, fun j o hj hlt => ?_, fun j el gr g w t xs hj hlt => ?_⟩
  ·by_cases e : j = k
   ·subst e; rw [hs] at hj; cases hj; omega
   ·rwa [hn j e] at hj
  ·by_cases e : j = k
   ·subst e;rw [hs] at hj;have hj := zK2 hj
    cases ob with
    | cells el0 w0 l0 =>
      rw [hj] at hf;exact hf.elim
    | spc w0 x0 =>
      rw [hj] at hf;exact hf.elim
    | list el0 gr0 g0 w0 t0 xs0 =>
      obtain ⟨xs', e2, e3⟩ := hf;rw [e2] at hj;injection hj with a1 a2 a3 a4 a5 a6;subst a1 a2 a3 a5;cases a6;exact ⟨w0, xs0, hk, e3⟩
   ·rw [hn j e] at hj; exact ⟨w, xs, hj, rfl⟩
 refine ⟨hkp, ⟨fun j o hj => ?_, fun j el w l hj => ?_, fun j el gr g w t xs hj => ?_⟩⟩
 ·by_cases e : j = k
  ·subst e; rw [hs] at hj; cases hj; rw [hw]; exact zK0 _
  ·rw [hn j e] at hj; exact zLQ (a.ver j o hj)
 ·by_cases e : j = k
  ·subst e;rw [hs] at hj;have hj := zK2 hj
   cases ob with
   | cells el0 w0 l0 => rw [hj] at hf; exact qN hkp hf.2
   | spc w0 x0 => rw [hj] at hf; exact hf.elim
   | list el0 gr0 g0 w0 t0 xs0 =>
     obtain ⟨xs', e2, e3⟩ := hf;rw [e2] at hj; cases hj
  ·rw [hn j e] at hj; exact qN hkp (a.cells j el w l hj)
 ·by_cases e : j = k
  ·subst e;rw [hs] at hj;have hj := zK2 hj
   cases ob with
   | cells el0 w0 l0 => rw [hj] at hf; exact hf.elim
   | spc w0 x0 => rw [hj] at hf; exact hf.elim
   | list el0 gr0 g0 w0 t0 xs0 =>
     obtain ⟨xs', e2, e3⟩ := hf;rw [e2] at hj;injection hj with a1 a2 a3 a4 a5 a6;subst a1 a2 a3 a5;have := a.list j _ _ _ _ _ _ hk;exact ⟨zLQ this.1, this.2⟩
  ·rw [hn j e] at hj;have := a.list j el gr g w t xs hj;exact ⟨zLQ this.1, this.2⟩
theorem dZ {h : SH} (a : OkH P h) : Keep h (h.del k) ∧ OkH P (h.del k) := by
 have hl : ∀ j ob, slk j (h.del k).l = some ob -> slk j h.l = some ob := fun j ob hj => by
  by_cases e : j = k
  ·subst e; rw [show slk j (h.del j).l = none from qMG j _] at hj; cases hj
  ·rwa [show slk j (h.del k).l = slk j h.l from jH e _] at hj
 have hkp : Keep h (h.del k) := ⟨zJ3 _, fun j ob hj _ => hl j ob hj, fun j el gr g w t xs hj _ => ⟨w, xs, hl _ _ hj, rfl⟩⟩
 exact ⟨hkp, ⟨fun j ob hj => a.ver j ob (hl j ob hj), fun j el w l hj => qN hkp (a.cells j el w l (hl _ _ hj)), fun j el gr g w t xs hj => a.list j el gr g w t xs (hl _ _ hj)⟩⟩
def GV (Γ : Option Type) : Type := match Γ with
 | none => Unit
 | some γ => γ
def GS (Γ : Option Type) (S : Type) : Type := match Γ with
 | none => S
 | some γ => γ × S
def gj : {Γ : Option Type} -> {S : Type} -> GV Γ -> S -> GS Γ S
 | none, _, _, s => s
 | some _, _, g, s => (g, s)
def g1 : {Γ : Option Type} -> {S : Type} -> GS Γ S -> GV Γ
 | none, _, _ => ()
 | some _, _, p => p.1
def g2 : {Γ : Option Type} -> {S : Type} -> GS Γ S -> S
 | none, _, s => s
 | some _, _, p => p.2
theorem q3Q {Γ : Option Type} {S : Type} {g : GV Γ} {s : S} : g1 (gj g s) = g := by cases Γ <;> rfl
theorem q0T {Γ : Option Type} {S : Type} {g : GV Γ} {s : S} : g2 (gj g s) = s := by cases Γ <;> rfl
structure Ent where
 as : List Ty
 rs : List Ty
 F : TyL as -> Option (TyL rs)
abbrev jE := List (FuncId × Ent)
def slT (g : FuncId) : jE -> Option Ent
 | [] => none
 | (k, e) :: l => cond (Nat.beq g k) (some e) (slT g l)
structure Sh where
 d : List Nat
 o : List Nat
 s : List (Nat × Nat)
 v : List (Nat × TypeId)
 ex : List Nat
 b : List (Nat × List (Option Nat)) := []
 bv : List (Nat × Nat × TypeId × Nat) := []
structure Ab where
 A : List Ty -> Type
 f : ∀ ts, TyL ts -> A ts
def Ab.id : Ab := ⟨fun ts => TyL ts, fun _ s => s⟩
structure An where
 fz : List (Nat × List (Nat × TypeId))
 lp : List (Nat × Sh)
 rg : List (Nat × Sh) := []
 ab : List (Nat × Ab) := []
def lkA.{u} {α : Type u} (i : Nat) : List (Nat × α) -> Option α
 | [] => none
 | (j, x) :: l => cond (Nat.beq i j) (some x) (lkA i l)
structure zAV where
 as : List Ty
 ys : List Ty
 yt : List TypeId
 F : TyL as -> (γ : Type) -> (γ -> TyL ys -> Option (γ × Bool)) -> γ -> Option γ
def slI (g : FuncId) : List (FuncId × zAV) -> Option zAV
 | [] => none
 | (k, e) :: l => cond (Nat.beq g k) (some e) (slI g l)
structure YI (Γ : Type) where
 ys : List Ty
 yt : List TypeId
 stp : Γ -> TyL ys -> Option (Γ × Bool)
def yi0 : YI Unit := ⟨[], [], fun _ _ => none⟩
abbrev CIT : Type 1 := (R : Type) -> Nm -> FuncId -> List SV -> SH -> (SV -> SH -> q97 R) -> q97 R
end Go.Sv
namespace Go.Sv
open Go.Idl
variable {a b env l : List SV} {el t : TypeId} {ik k : IntKind} {j n off : Nat} {v x : SV} {ys : List Int}
noncomputable section
variable [Gc]
variable [Yl]
variable {P : Program} {h : SH} {R : Type} {r : R}
def q7F : Value -> SV
 | .agg cs => cond (kP okC cs.toList) (.agg (kD .c cs.toList)) .unk
 | .tuple cs => cond (kP okC cs.toList) (.tup (kD .c cs.toList)) .unk
 | v => cond (okC v) (.c v) .unk
def xK (env : List SV) : Operand -> SV
 | .tmp t => (zF env t).getD .unk
 | .const v => q7F v
 | .global _ => .unk
 | .func g => .c (.func (.func g) #[] #[])
theorem q7T : ∀ (l : List Value), qB (kD .c l) = kD fvv l
 | [] => by simp [kD, qB]
 | v :: l => by
   show qB (.c v :: kD .c l) = fvv v :: kD fvv l;simp [qB, q7T l, SV.enc]
omit [Yl] in
theorem q7O : ∀ (l : List Value), okL h (kD .c l)
 | [] => by simp [kD, okL]
 | v :: l => by
   show okL h (.c v :: kD .c l);simp [okL, q7O l, SV.ok]
theorem qZH (v : Value) : ofC v = (q7F v).enc := by
 cases v with
 | agg cs =>
   show cond _ _ _ = (cond (kP okC cs.toList) (SV.agg (kD .c cs.toList)) SV.unk).enc;cases kP okC cs.toList
   ·simp [SV.enc]
   ·simp [SV.enc, q7T]
 | tuple cs =>
   show cond _ _ _ = (cond (kP okC cs.toList) (SV.tup (kD .c cs.toList)) SV.unk).enc;cases kP okC cs.toList
   ·simp [SV.enc]
   ·simp [SV.enc, q7T]
 | _ =>
   simp only [ofC, q15, q7F];cases okC _ <;> simp [SV.enc]
omit [Yl] in
theorem q4U (v : Value) : (q7F v).ok h := by
 cases v with
 | agg cs =>
   show (cond (kP okC cs.toList) (.agg (kD .c cs.toList)) .unk : SV).ok h;cases kP okC cs.toList
   ·simp [SV.ok]
   ·simp [SV.ok, q7O]
 | tuple cs =>
   show (cond (kP okC cs.toList) (.tup (kD .c cs.toList)) .unk : SV).ok h;cases kP okC cs.toList
   ·simp [SV.ok]
   ·simp [SV.ok, q7O]
 | _ =>
   simp only [q7F];cases okC _ <;> simp [SV.ok]
theorem zJ (env : List SV) (t : Nat) : zF (qB env) t = (zF env t).map SV.enc := by
 rw [qF, qF, qZ, zKG]
omit [Yl] in
theorem dK {t : Nat} (ho : okL h env) (hx : zF env t = some x) : x.ok h := by
 rw [qF] at hx;exact yF.1 ho x (zKZ hx)
theorem qO (env : List SV) (x : Operand) : qK (qB env) x = (xK env x).enc := by
 cases x with
 | tmp t =>
   show (zF (qB env) t).getD .unk = ((zF env t).getD .unk).enc;rw [zJ];cases zF env t <;> simp [SV.enc]
 | const v => exact qZH v
 | global g => simp [qK, xK, SV.enc]
 | func g => simp [qK, xK, SV.enc]
omit [Yl] in
theorem pI (ho : okL h env) (x : Operand) : (xK env x).ok h := by
 cases x with
 | tmp t =>
   show ((zF env t).getD .unk).ok h
   cases hx : zF env t with
   | none => simp [SV.ok]
   | some y => exact dK ho hx
 | const v => exact q4U v
 | global g => simp [xK, SV.ok]
 | func g => simp [xK, SV.ok]
def asI : SV -> Option (IntKind × Int)
 | .d (.int k) x => some (k, x)
 | .c (.int k x) => some (k, x)
 | _ => none
def asB : SV -> Option Bool
 | .d .bool x => some x
 | .c (.bool x) => some x
 | _ => none
def asS : SV -> Option ByteArray
 | .d .str x => some x
 | .c (.string x) => some x
 | _ => none
theorem yJ {x : Int} (e : asI v = some (k, x)) : v.enc = fvv (.int k x) := by
 unfold asI at e;split at e
 ·cases e; simp [SV.enc, Ty.fv, fvv]
 ·cases e; simp [SV.enc]
 ·cases e
theorem oI {x : Bool} (e : asB v = some x) : v.enc = fvv (.bool x) := by
 unfold asB at e;split at e
 ·cases e; simp [SV.enc, Ty.fv, fvv]
 ·cases e; simp [SV.enc]
 ·cases e
theorem gN {x : ByteArray} (e : asS v = some x) : v.enc = fvv (.string x) := by
 unfold asS at e;split at e
 ·cases e; simp [SV.enc, Ty.fv, fvv]
 ·cases e; simp [SV.enc]
 ·cases e
def Ty.svs : (t : Ty) -> t.sem -> List SV
 | .int k, x => [.d (.int k) x]
 | .bool, x => [.d .bool x]
 | .str, x => [.d .str x]
 | .unit, _ => []
 | .list el t, x => [.d (.list el t) x]
 | .pair a b, x => a.svs x.1 ++ b.svs x.2
 | .raw, x => [.d .raw x]
 | .ol el k, x => [.d (.ol el k) x]
 | .nif, x => [.d .nif x]
theorem nP (a b : List SV) : qB (a ++ b) = qB a ++ qB b := by simp [qZ]
theorem u7 : ∀ (t : Ty) (x : t.sem), qB (t.svs x) = (t.cells x).map .f
 | .int k, x => by simp [Ty.svs, Ty.cells, qB, SV.enc, Ty.fv]
 | .bool, x => by simp [Ty.svs, Ty.cells, qB, SV.enc, Ty.fv]
 | .str, x => by simp [Ty.svs, Ty.cells, qB, SV.enc, Ty.fv]
 | .unit, x => by simp [Ty.svs, Ty.cells, qB]
 | .list el t, x => by simp [Ty.svs, Ty.cells, qB, SV.enc, Ty.fv]
 | .raw, x => by simp [Ty.svs, Ty.cells, qB, SV.enc, Ty.fv]
 | .ol el k, x => by simp [Ty.svs, Ty.cells, qB, SV.enc, Ty.fv]
 | .nif, x => by simp [Ty.svs, Ty.cells, qB, SV.enc, Ty.fv]
 | .pair a b, x => by
   show qB (a.svs x.1 ++ b.svs x.2) = (a.cells x.1 ++ b.cells x.2).map .f;rw [nP, u7 a, u7 b, zK8]
omit [Yl] in
theorem aQ (x : okL h a) (y : okL h b) : okL h (a ++ b) := yF.2 fun z hz => by
 rcases zLE.1 hz with q | q
 ·exact yF.1 x z q
 ·exact yF.1 y z q
omit [Yl] in
theorem qDB : ∀ (t : Ty) (x : t.sem), okL h (t.svs x)
 | .int k, x => by simp [Ty.svs, okL, SV.ok]
 | .bool, x => by simp [Ty.svs, okL, SV.ok]
 | .str, x => by simp [Ty.svs, okL, SV.ok]
 | .unit, x => by simp [Ty.svs, okL]
 | .list el t, x => by simp [Ty.svs, okL, SV.ok]
 | .raw, x => by simp [Ty.svs, okL, SV.ok]
 | .ol el k, x => by simp [Ty.svs, okL, SV.ok]
 | .nif, x => by simp [Ty.svs, okL, SV.ok]
 | .pair a b, x => aQ (qDB a x.1) (qDB b x.2)
def q40 (k : IntKind) (v : SV) : Option Int := match asI v with
 | some (k', x) => cond (decide (k' = k)) (some x) none
 | none => none
def q82 (el : TypeId) (t : Ty) : SV -> Option (List t.sem)
 | .d (.list el' t') xs => if e : t' = t then cond (Nat.beq el' el) (some (e ▸ xs)) none else none
 | _ => none
def asR : SV -> Option (List (Value × Value))
 | .d .raw x => some x
 | _ => none
def q30 (el : TypeId) (k : IntKind) : SV -> Option (List Int)
 | .d (.ol el' k') xs => cond (Nat.beq el' el && decide (k' = k)) (some xs) none
 | .c (.slice none 0 0) => some []
 | _ => none
def q20 : SV -> Option Unit
 | .d .nif _ => some ()
 | .c .nilIface => some ()
 | _ => none
def Ty.zEH : (t : Ty) -> SV -> Option t.sem
 | .int k, v => q40 k v
 | .bool, v => asB v
 | .str, v => asS v
 | .list el t, v => q82 el t v
 | .unit, _ => none
 | .pair _ _, _ => none
 | .raw, v => asR v
 | .ol el k, v => q30 el k v
 | .nif, v => q20 v
theorem rZ {x : Int} (e : q40 k v = some x) : v.enc = fvv (.int k x) := by
 unfold q40 at e;split at e
 ·rename_i k' x' hx
  cases hk : decide (k' = k) with
  | false => rw [hk] at e; cases e
  | true =>
    rw [hk] at e;cases e;have : k' = k := by simpa using hk
    subst this;exact yJ hx
 ·cases e
omit [Yl] in
theorem qZN {t : Ty} {x : List t.sem} (e : q82 el t v = some x) : v = .d (.list el t) x := by
 unfold q82 at e;split at e
 ·rename_i el' t' xs;split at e
  ·rename_i ht;subst ht
   cases hk : Nat.beq el' el with
   | false => rw [hk] at e; cases e
   | true =>
     rw [hk] at e;cases e;have : el' = el := zJ2 hk;subst this;rfl
  ·cases e
 ·cases e
theorem qU1 {x : List Int} (e : q30 el k v = some x) : v.enc = .f (fvo el k x) := by
 unfold q30 at e;split at e
 ·rename_i el' k' xs
  cases hk : (Nat.beq el' el && decide (k' = k)) with
  | false => rw [hk] at e; cases e
  | true =>
    rw [hk] at e;cases e;rw [zJ1] at hk;have h1 : el' = el := zJ2 hk.1;have h2 : k' = k := by simpa using hk.2
    subst h1 h2;simp [SV.enc, Ty.fv]
 ·cases e; simp [SV.enc, fvo, fvv]
 ·cases e
theorem sH : ∀ {t : Ty} {v : SV} {x : t.sem}, t.zEH v = some x -> v.enc = .f (t.fv x) ∧ t.one = true
 | .int k, v, x, e => ⟨rZ e, rfl⟩
 | .bool, v, x, e => ⟨oI e, rfl⟩
 | .str, v, x, e => ⟨gN e, rfl⟩
 | .list el t, v, x, e => ⟨by rw [qZN e]; simp [SV.enc], rfl⟩
 | .ol el k, v, x, e => ⟨qU1 e, rfl⟩
 | .nif, v, x, e => by
   have e : q20 v = some x := e;refine ⟨?_, rfl⟩;unfold q20 at e;split at e
   ·simp [SV.enc, Ty.fv]
   ·simp [SV.enc, Ty.fv, fvv]
   ·cases e
 | .raw, v, x, e => by
   have e : asR v = some x := e;refine ⟨?_, rfl⟩;unfold asR at e;split at e
   ·cases e; simp [SV.enc]
   ·cases e
 | .unit, v, x, e => by cases e
 | .pair a b, v, x, e => by cases e
def qXT (t : Ty) : List SV -> Option (t.sem × List SV)
 | v :: l => match t.zEH v with
   | some x => some (x, l)
   | none => none
 | [] => none
def Ty.zC3 : (t : Ty) -> List SV -> Option (t.sem × List SV)
 | .int k, l => qXT (.int k) l
 | .bool, l => qXT .bool l
 | .str, l => qXT .str l
 | .raw, l => qXT .raw l
 | .ol el k, l => qXT (.ol el k) l
 | .nif, l => qXT .nif l
 | .list el t, l => qXT (.list el t) l
 | .unit, l => some ((), l)
 | .pair a b, l => match a.zC3 l with
   | some (x, l1) => (match b.zC3 l1 with
     | some (y, l2) => some ((x, y), l2)
     | none => none)
   | none => none
theorem gW {t : Ty} {l' : List SV} {x : t.sem} (e : qXT t l = some (x, l')) : qB l = (t.cells x).map .f ++ qB l' := by
 cases l with
 | nil => cases e
 | cons v l =>
   unfold qXT at e;simp only at e;split at e
   ·rename_i y hy;cases e;obtain ⟨h1, h2⟩ := sH hy;rw [Ty.cells_one h2];simp [qB, h1]
   ·cases e
theorem sI : ∀ {t : Ty} {l l' : List SV} {x : t.sem}, t.zC3 l = some (x, l') -> qB l = (t.cells x).map .f ++ qB l'
 | .int k, l, l', x, e => gW e
 | .bool, l, l', x, e => gW e
 | .str, l, l', x, e => gW e
 | .raw, l, l', x, e => gW e
 | .ol _ _, l, l', x, e => gW e
 | .nif, l, l', x, e => gW e
 | .list el t, l, l', x, e => gW e
 | .unit, l, l', x, e => by cases e; simp [Ty.cells]
 | .pair a b, l, l', x, e => by
   unfold Ty.zC3 at e;split at e
   ·rename_i x1 l1 h1;split at e
    ·rename_i y l2 h2;cases e;show qB l = (a.cells x1 ++ b.cells y).map .f ++ qB l';rw [sI h1, sI h2, zK8, zKY]
    ·cases e
   ·cases e
def Ty.zCP (t : Ty) (l : List SV) : Option t.sem := match t.zC3 l with
 | some (x, []) => some x
 | _ => none
theorem nT {t : Ty} {x : t.sem} (e : t.zCP l = some x) : qB l = (t.cells x).map .f := by
 unfold Ty.zCP at e;split at e
 ·rename_i y hy;cases e;rw [sI hy]; simp [qB]
 ·cases e
def qFR (P : Program) (t : TypeId) (l : List SV) (off : Nat) : Option SV := match qLY P t with
 | some true => (match szT P t with
   | some n => cond (Nat.ble (off + n) l.length) (some (.agg ((l.drop off).take n))) none
   | none => none)
 | some false => zF l off
 | none => none
omit [Yl] in
theorem qMK {b : List SV} (x : okL h a) (hs : ∀ z ∈ b, z ∈ a) : okL h b := yF.2 fun z hz => yF.1 x z (hs z hz)
theorem qD5 (e : qFR P t l off = some v) : nV P t (qB l) off = some v.enc ∧ (okL h l -> v.ok h) := by
 unfold qFR at e;unfold nV;split at e
 ·rename_i ha;rw [ha];simp only;split at e
  ·rename_i n hn;rw [hn];simp only
   cases hc : Nat.ble (off + n) l.length with
   | false => rw [hc] at e; cases e
   | true =>
     rw [hc] at e;cases e;refine ⟨by rw [qZ, zKK, hc]; simp [SV.enc, qZ, zMF, zMG], fun ho => ?_⟩;simp only [SV.ok];exact qMK ho fun z hz => zMR (zM9 hz)
  ·cases e
 ·rename_i ha;rw [ha];simp only;rw [zJ, e];exact ⟨rfl, fun ho => dK ho e⟩
 ·cases e
theorem qB4 {t' : Ty} {xs : List t'.sem} {x : t'.sem} (hx : xs[j]? = some x) (e : qFR P t (t'.svs x) off = some v) :
 nV P t ((xs.flatMap t'.cells).map .f) (j * t'.w + off) = some v.enc ∧ qMN P t (xs.flatMap t'.cells) (j * t'.w + off) = some v.enc ∧ v.ok h := by
 have h0 := qD5 (h := h) e;refine ⟨?_, ?_, h0.2 (qDB t' x)⟩
 all_goals
  have h1 := h0.1;rw [u7] at h1;unfold nV at h1
 ·unfold nV;split at h1
  ·rename_i ha;split at h1
   ·rename_i n hn
    cases hc : Nat.ble (off + n) ((t'.cells x).map PV.f).length with
    | false => rw [hc] at h1; cases h1
    | true =>
      rw [hc] at h1
      have hle : off + n <= t'.w := by
       have := zKB hc;rw [zKK, t'.zAH] at this;exact this
      rw [show Nat.ble (j * t'.w + off + n) ((xs.flatMap t'.cells).map PV.f).length = true from zKW (by rw [zKK]; exact qFQ hx hle)];simp only [cond_true] at h1 ⊢;rw [<- h1, <- zMF, <- zMG, qHI hx hle, <- zMF, <- zMG]
   ·cases h1
  ·rename_i ha;rw [qF, zKG] at h1 ⊢
   have hlt : off < t'.w := by
    rw [<- t'.zAH x]
    cases hq : (t'.cells x)[off]? with
    | none => rw [hq] at h1; cases h1
    | some y => exact (zJ6.1 hq).1
   rw [Go.Sv.flat_get hx hlt]; exact h1
  ·cases h1
 ·unfold qMN;split at h1
  ·rename_i ha;split at h1
   ·rename_i n hn
    cases hc : Nat.ble (off + n) ((t'.cells x).map PV.f).length with
    | false => rw [hc] at h1; cases h1
    | true =>
      rw [hc] at h1
      have hle : off + n <= t'.w := by
       have := zKB hc;rw [zKK, t'.zAH] at this;exact this
      rw [show Nat.ble (j * t'.w + off + n) (xs.flatMap t'.cells).length = true from zKW (qFQ hx hle)];simp only [cond_true] at h1 ⊢;rw [<- h1, qHI hx hle, <- zMF, <- zMG]
   ·cases h1
  ·rename_i ha;rw [qF, zKG] at h1
   cases hq : (t'.cells x)[off]? with
   | none => rw [hq] at h1; cases h1
   | some y =>
     rw [hq] at h1
     have hlt : off < t'.w := by
      rw [<- t'.zAH x];exact (zJ6.1 hq).1
     rw [Go.Sv.flat_get hx hlt, hq];exact h1
  ·cases h1
def q7Z : List SV -> Option IntKind
 | v :: _ => (asI v).map Prod.fst
 | [] => none
def qK6 (ik : IntKind) : List SV -> Option (List Int)
 | [] => some []
 | v :: l => match q40 ik v, qK6 ik l with
   | some x, some xs => some (x :: xs)
   | _, _ => none
def q70 (off : Nat) (v : Int) (xs : List Int) : Option (List Int) := if off < xs.length then some (xs.set off v) else none
def spread (ik : IntKind) (n : Nat) (ys : List Int) : List SV := (List.range n).map fun i => SV.d (.int ik) (ys.getD i 0 : Int)
theorem aJ {ik : IntKind} : ∀ {l : List SV} {xs : List Int}, qK6 ik l = some xs -> qB l = xs.map fun x => fvv (.int ik x)
 | [], xs, e => by cases e; simp [qB]
 | v :: l, xs, e => by
   unfold qK6 at e;split at e
   ·rename_i x ys hx hy;cases e;simp only [qB, zKI, rZ hx, aJ hy]
   ·cases e
theorem qDL (h : ys.length = n) : qB (spread ik n ys) = ys.map fun x => fvv (.int ik x) := by
 rw [qZ];unfold spread;rw [zNG];apply zK9;intro i;rw [zKG, zKG];by_cases hi : i < n
 ·rw [zN5 hi, zJ5 (by omega : i < ys.length)];simp only [zKD, Function.comp, zJ8];rw [zLU, zJ5 (by omega : i < ys.length)];simp [SV.enc, Ty.fv, fvv]
 ·rw [zLB (by simp; omega), zLB (by omega)];rfl
theorem qUN : okL h (spread ik n ys) := yF.2 fun x hx => by
 unfold spread at hx;obtain ⟨i, _, rfl⟩ := zKT.1 hx;simp [SV.ok]
def q17 (P : Program) (t : TypeId) (a : SV) (h : SH) (K : SV -> q97 R) : q97 R := match a with
 | .ref k off w => (match slk k h.l with
   | some (.cells el _ l) => (match qFR P t l off with
     | some v => cond (!(spec P el) && Nat.beq w l.length) (K v) .fail
     | none => .fail)
   | _ => .fail)
 | .elt k g n w j off => (match slk k h.l with
   | some (.list _ _ g' _ t' xs) => cond (Nat.beq g g' && Nat.beq w t'.w) (.bind (xs[j]?) fun x => match qFR P t (t'.svs x) off with
     | some v => K v
     | none => .fail) .fail
   | _ => .fail)
 | .lp t' xs j off => .bind (xs[j]?) fun x => match qFR P t (t'.svs x) off with
   | some v => K v
   | none => .fail
 | .rfx k off w => (match slk k h.l with
   | some (.cells el _ l) => (match q7Z l with
     | some ik => (match qK6 ik l, qLY P t with
       | some xs, some false => cond (!(spec P el) && Nat.beq w l.length) (.bind (xs[off]?) fun x => K (.d (.int ik) (x : Int))) .fail
       | _, _ => .fail)
     | none => .fail)
   | _ => .fail)
 | .etx k g n w j off => (match slk k h.l with
   | some (.list _ _ g' _ t' xs) => cond (Nat.beq g g' && Nat.beq w t'.w) (.bind (xs[j]?) fun x => match q7Z (t'.svs x) with
     | some ik => (match qK6 ik (t'.svs x), qLY P t with
       | some ys, some false => .bind (ys[off]?) fun z => K (.d (.int ik) (z : Int))
       | _, _ => .fail)
     | none => .fail) .fail
   | _ => .fail)
 | _ => .fail
theorem qY (l : List SV) : (qB l).length = l.length := by rw [qZ, zKK]
theorem y5 {k : Nat} {ob : SO} {l : List (Nat × SO)} (e : slk k l = some ob) : qA k (qD l) = some ob.enc := by rw [uQ, e]; rfl
theorem qX {gr : Bool} {g w : Nat} {t : Ty} {xs : List t.sem} : (SO.list el gr g w t xs).enc.cs.length = xs.length * t.w := by
 show ((xs.flatMap t.cells).map PV.f).length = _;rw [zKK, yR]
theorem qZE {a : SV} {K : SV -> q97 R} (ho : OkH P h) (ha : a.ok h) (e : (q17 P t a h K).run = some r) : ∃ v, bU P t a.enc (qD h.l) = some v.enc ∧ v.ok h ∧ (K v).run = some r := by
 unfold q17 at e;split at e
 ·rename_i k off w;split at e
  ·rename_i el w' l hk;split at e
   ·rename_i v hv;obtain ⟨h1, h2⟩ := qG e;rw [zJ1, zKO] at h1;obtain ⟨hsp, h1⟩ := h1;obtain ⟨h3, h4⟩ := qD5 (h := h) hv;refine ⟨v, ?_, h4 (ho.cells _ _ _ _ hk), h2⟩;simp only [SV.enc, bU, y5 hk];show cond (spec P el) none (cond (Nat.beq w (qB l).length) (nV P t (qB l) off) none) = _;rw [qY, h1, hsp];exact h3
   ·cases e
  ·cases e
 ·rename_i k g n w j off;split at e
  ·rename_i el gr g' w' t' xs hk;obtain ⟨h1, h2⟩ := qG e;rw [zJ1] at h1;have hg : g = g' := zJ2 h1.1;have hw : w = t'.w := zJ2 h1.2;subst hg hw;obtain ⟨x, hx, h3⟩ := run_bind h2;split at h3
   ·rename_i v hv;have h5 := qB4 (h := h) hx hv;refine ⟨v, ?_, h5.2.2, h3⟩;simp only [SV.ok] at ha;have hn : n = xs.length := ha.2 _ _ _ _ _ hk;simp only [SV.enc, bU, y5 hk];rw [qX, hn, show spec P (SO.list el gr g w' t' xs).enc.el = false from kS (ho.list _ _ _ _ _ _ _ hk).2.1];simp only [rC, cond_true, cond_false];exact h5.1
   ·cases h3
  ·cases e
 ·rename_i t' xs j off;obtain ⟨x, hx, h3⟩ := run_bind e;split at h3
  ·rename_i v hv;have h5 := qB4 (h := h) hx hv;exact ⟨v, by simp only [SV.enc, bU]; exact h5.2.1, h5.2.2, h3⟩
  ·cases h3
 ·rename_i k off w;split at e
  ·rename_i el w' l hk;split at e
   ·rename_i ik hik;split at e
    ·rename_i xs hxs hag;obtain ⟨h1, h2⟩ := qG e;rw [zJ1, zKO] at h1;obtain ⟨hsp, h1⟩ := h1;obtain ⟨x, hx, h3⟩ := run_bind h2;refine ⟨_, ?_, by simp [SV.ok], h3⟩;simp only [SV.enc, bU, y5 hk];show cond (spec P el) none (cond (Nat.beq w (qB l).length) (nV P t (qB l) off) none) = _;rw [qY, h1, hsp];simp only [cond_true, cond_false];unfold nV;rw [hag];show zF (qB l) off = _;rw [qF, aJ hxs, zKG, hx];simp [Ty.fv, fvv]
    ·cases e
   ·cases e
  ·cases e
 ·rename_i k g n w j off;split at e
  ·rename_i el gr g' w' t' xs hk;obtain ⟨h1, h2⟩ := qG e;rw [zJ1] at h1;have hg : g = g' := zJ2 h1.1;have hw : w = t'.w := zJ2 h1.2;subst hg hw;obtain ⟨x, hx, h3⟩ := run_bind h2;split at h3
   ·rename_i ik hik;split at h3
    ·rename_i ys hys hag;obtain ⟨z, hz, h4⟩ := run_bind h3;refine ⟨_, ?_, by simp [SV.ok], h4⟩;have hn1 : zF (qB (t'.svs x)) off = some (fvv (.int ik z)) := by rw [qF, aJ hys, zKG, hz]; rfl
     rw [zJ] at hn1;obtain ⟨v0, hv0, hv1⟩ := zKA.1 hn1;have hsp : qFR P t (t'.svs x) off = some v0 := by unfold qFR; rw [hag]; exact hv0
     have h5 := qB4 (h := h) hx hsp;simp only [SV.ok] at ha;have hn : n = xs.length := ha.2 _ _ _ _ _ hk;simp only [SV.enc, bU, y5 hk];rw [qX, hn, show spec P (SO.list el gr g w' t' xs).enc.el = false from kS (ho.list _ _ _ _ _ _ _ hk).2.1];simp only [rC, cond_true, cond_false];have h6 := h5.1;rw [hv1] at h6;rw [show (SO.list el gr g w' t' xs).enc.cs = (xs.flatMap t'.cells).map .f from rfl, h6];simp [Ty.fv, fvv]
    ·cases h3
   ·cases h3
  ·cases e
 ·cases e
def Post (P : Program) (h h' : SH) (v : SV) : Prop := Keep h h' ∧ OkH P h' ∧ v.ok h'
def yL : SV -> List SV
 | .agg l => l
 | v => [v]
theorem bR (v : SV) : zH v.enc = qB (yL v) := by
 cases v <;> simp [SV.enc, zH, yL, qB, fvv];rename_i b _ _ _;cases b <;> rfl
omit [Yl] in
theorem qBD (hv : v.ok h) : okL h (yL v) := by
 cases v <;> simp only [yL, okL, SV.ok, and_true] at hv ⊢ <;> exact hv
def qAI (l : List SV) (i : Nat) (vs : List SV) : List SV := l.take i ++ vs ++ l.drop (i + vs.length)
theorem sV (l vs : List SV) (i : Nat) : qB (qAI l i vs) = kL (qB l) i (qB vs) := by
 simp [qAI, kL, qZ, zMG, zMF]
omit [Yl] in
theorem qNH {vs : List SV} {i : Nat} (a : okL h l) (b : okL h vs) : okL h (qAI l i vs) :=
 aQ (aQ (qMK a fun z hz => zM9 hz) b) (qMK a fun z hz => zMR hz)
omit [Yl] in
theorem qXG {α : Type} (A B C : List α) (c : List α) (hle : off + c.length <= B.length) :
 (A ++ B ++ C).take (A.length + off) ++ c ++ (A ++ B ++ C).drop (A.length + off + c.length) = A ++ (B.take off ++ c ++ B.drop (off + c.length)) ++ C := by
 rw [zKY A B C, List.take_append, zK5 (by omega), zNJ, List.take_append_of_le_length (by omega)];rw [zLT, List.drop_append, List.drop_of_length_le (by omega), zNJ, List.nil_append, List.drop_append_of_le_length (by omega)];simp [zKY]
omit [Yl] in
theorem qDP {t : Ty} {xs : List t.sem} {x : t.sem} (hx : xs[j]? = some x) (y : t.sem) : (xs.set j y).flatMap t.cells = (xs.take j).flatMap t.cells ++ t.cells y ++ (xs.drop (j + 1)).flatMap t.cells := by
 have hl := (zJ6.1 hx).1;rw [zMT, if_pos hl, zND, zKV, zKY]
omit [Yl] in
theorem qD3 {t : Ty} {xs : List t.sem} {x y : t.sem} (hx : xs[j]? = some x) {c : List PV} (hle : off + c.length <= t.w) (hy : kL ((t.cells x).map .f) off c = (t.cells y).map .f) :
 kL ((xs.flatMap t.cells).map .f) (j * t.w + off) c = ((xs.set j y).flatMap t.cells).map .f := by
 have hl := (zJ6.1 hx).1
 have e0 : xs.set j x = xs := by
  apply zK9;intro i;rw [zKX];by_cases e : j = i
  ·subst e; rw [if_pos rfl, if_pos hl, hx]
  ·rw [if_neg e]
 have e1 := qDP hx x;rw [e0] at e1;rw [qDP hx y, e1];simp only [zK8];unfold kL;have hA : (((xs.take j).flatMap t.cells).map PV.f).length = j * t.w := by rw [zKK, yR, zLN, zL2 (by omega)]
 rw [<- hA, qXG _ _ _ _ (by rw [zKK, t.zAH]; exact hle)];unfold kL at hy;rw [hy]
def qVM (P : Program) (t : TypeId) (a x : SV) (h : SH) (K : SV -> SH -> q97 R) : q97 R := match szT P t with
 | some n => (match a with
   | .ref k off w => (match slk k h.l with
     | some (.cells el _ l) => cond (!(spec P el) && (Nat.beq w l.length && (Nat.beq n (yL x).length && (Nat.ble (off + n) l.length && (pnt x.enc && (qB (yL x)).all eH)))))
        (K (.tup []) (h.put k fun v => .cells el v (qAI l off (yL x)))) .fail
     | _ => .fail)
   | .elt k g m w j off => (match slk k h.l with
     | some (.list el gr g' _ t' xs) => cond (Nat.beq g g' && (Nat.beq w t'.w && (Nat.beq n (yL x).length && (Nat.ble (off + n) w && (pnt x.enc && (qB (yL x)).all eH)))))
        (.bind (xs[j]?) fun y => match t'.zCP (qAI (t'.svs y) off (yL x)) with
          | some z => K (.tup []) (h.put k fun v => .list el gr g v t' (List.set xs j z))
          | none => .fail) .fail
     | _ => .fail)
   | .rfx k off w => (match slk k h.l with
     | some (.cells el _ l) => (match q7Z l with
       | some ik => (match qK6 ik l, q40 ik x with
         | some xs, some v => cond (!(spec P el) && (Nat.beq w l.length && Nat.beq n 1)) (.bind (q70 off v xs) fun ys => K (.tup []) (h.put k fun u => .cells el u (spread ik (List.length xs) ys))) .fail
         | _, _ => .fail)
       | none => .fail)
     | _ => .fail)
   | .etx k g m w j off => (match slk k h.l with
     | some (.list el gr g' _ t' xs) => cond (Nat.beq g g' && (Nat.beq w t'.w && Nat.beq n 1)) (.bind (xs[j]?) fun y => match q7Z (t'.svs y) with
       | some ik => (match qK6 ik (t'.svs y), q40 ik x with
         | some ys, some v => .bind (q70 off v ys) fun zs => match t'.zCP (spread ik (List.length ys) zs) with
           | some z => K (.tup []) (h.put k fun v => .list el gr g v t' (List.set xs j z))
           | none => .fail
         | _, _ => .fail)
       | none => .fail) .fail
     | _ => .fail)
   | _ => .fail)
 | none => .fail
theorem qUF {a : SV} {K : SV -> SH -> q97 R} (ho : OkH P h) (ha : a.ok h) (hx : x.ok h) (e : (qVM P t a x h K).run = some r) :
 ∃ h', vO P t a.enc x.enc (qD h.l) = some (qD h'.l) ∧ Keep h h' ∧ OkH P h' ∧ (K (.tup []) h').run = some r := by
 unfold qVM at e;split at e
 ·rename_i n hn;split at e
  ·rename_i k off w;split at e
   ·rename_i el w' l hk;obtain ⟨h1, h2⟩ := qG e;rw [zJ1, zKO] at h1;obtain ⟨hsp, h1⟩ := h1;have hp := aF (f := fun v => .cells el v (qAI l off (yL x))) ho hk ⟨rfl, qNH (ho.cells _ _ _ _ hk) (qBD hx)⟩;refine ⟨_, ?_, hp.1, hp.2, h2⟩;simp only [SV.enc, vO, y5 hk, hn];show cond (spec P el) none (cond (Nat.beq w (qB l).length && (Nat.beq n (zH x.enc).length && (Nat.ble (off + n) (qB l).length && (pnt x.enc && (zH x.enc).all eH)))) _ _) = _;rw [bR, qY, qY, h1, hsp];simp only [cond_true];rw [show qD (h.put k fun v => .cells el v (qAI l off (yL x))).l = kQ k (SO.enc (.cells el h.next (qAI l off (yL x)))) (qD h.l) from vK k _ _];show some (kQ k ⟨el, false, kL (qB l) off (qB (yL x))⟩ (qD h.l)) = some (kQ k ⟨el, false, qB (qAI l off (yL x))⟩ (qD h.l));rw [sV]
   ·cases e
  ·rename_i k g m w j off;split at e
   ·rename_i el gr g' w' t' xs hk;obtain ⟨h1, h2⟩ := qG e;simp only [zJ1] at h1;obtain ⟨q1, q2, q3, q4, q5, q6⟩ := h1;have hg : g = g' := zJ2 q1;have hw : w = t'.w := zJ2 q2;subst hg hw;obtain ⟨y, hy, h3⟩ := run_bind h2;split at h3
    ·rename_i z hz;have hp := aF (f := fun v => .list el gr g v t' (List.set xs j z)) ho hk ⟨_, rfl, by simp⟩;refine ⟨_, ?_, hp.1, hp.2, h3⟩;simp only [SV.ok] at ha;have hm : m = xs.length := ha.2 _ _ _ _ _ hk;have hle : off + n <= t'.w := zKB q4;simp only [SV.enc, vO, y5 hk, hn];rw [qX, hm, bR, qY, show spec P (SO.list el gr g w' t' xs).enc.el = false from kS (ho.list _ _ _ _ _ _ _ hk).2.1]
     have hjl : j * t'.w + off + n <= xs.length * t'.w := by
      have := qFQ hy hle
      rwa [yR] at this
     rw [q3, q5, q6, show Nat.ble (j * t'.w + off + n) (xs.length * t'.w) = true from zKW hjl];simp only [rC, zK4, cond_true, cond_false];rw [show qD (h.put k fun v => .list el gr g v t' (List.set xs j z)).l = kQ k (SO.enc (.list el gr g h.next t' (List.set xs j z))) (qD h.l) from vK k _ _];show some (kQ k ⟨el, gr, kL ((xs.flatMap t'.cells).map .f) (j * t'.w + off) (qB (yL x))⟩ (qD h.l)) = some (kQ k ⟨el, gr, ((List.set xs j z).flatMap t'.cells).map .f⟩ (qD h.l));have hnl : n = (qB (yL x)).length := by rw [qY]; exact zJ2 q3
     rw [qD3 hy (y := z) (by rw [<- hnl]; exact hle) (by rw [<- u7, <- sV]; exact nT hz)]
    ·cases h3
   ·cases e
  ·rename_i k off w;split at e
   ·rename_i el w' l hk;split at e
    ·rename_i ik hik;split at e
     ·rename_i xs v hxs hv;obtain ⟨h1, h2⟩ := qG e;simp only [zJ1, zKO] at h1;obtain ⟨hsp, hw, hn1⟩ := h1;have hn2 := zJ2 hn1;subst hn2;obtain ⟨ys, hys, h3⟩ := run_bind h2;unfold q70 at hys;split at hys
      case isFalse => cases hys
      rename_i hlt;cases hys;have hp := aF (f := fun u => .cells el u (spread ik (List.length xs) (xs.set off v))) ho hk ⟨rfl, qUN⟩;refine ⟨_, ?_, hp.1, hp.2, h3⟩;have hel := aJ hxs;have hll : (qB l).length = xs.length := by rw [hel, zKK]
      simp only [SV.enc, vO, y5 hk, hn];rw [rZ hv];show cond (spec P el) none (cond (Nat.beq w (qB l).length && (Nat.beq 1 1 && (Nat.ble (off + 1) (qB l).length && (true && true)))) (some (kQ k ⟨el, false, kL (qB l) off [fvv (.int ik v)]⟩ (qD h.l))) none) = _;rw [hsp, show Nat.beq w (qB l).length = true by rw [qY]; exact hw, hll, show Nat.ble (off + 1) xs.length = true from zKW hlt];rw [show qD (h.put k fun u => .cells el u (spread ik (List.length xs) (xs.set off v))).l = kQ k (SO.enc (.cells el h.next (spread ik (List.length xs) (xs.set off v)))) (qD h.l) from vK k _ _];show some (kQ k ⟨el, false, kL (qB l) off [fvv (.int ik v)]⟩ (qD h.l)) = some (kQ k ⟨el, false, qB (spread ik (List.length xs) (xs.set off v))⟩ (qD h.l));rw [qDL (by simp), hel]
      have : kL (xs.map fun x => fvv (.int ik x)) off [fvv (.int ik v)] = (xs.set off v).map fun x => fvv (.int ik x) := by
       rw [List.map_set, zMT, if_pos (by rw [zKK]; exact hlt)];unfold kL;simp
      rw [this]
     ·cases e
    ·cases e
   ·cases e
  ·rename_i k g m w j off;split at e
   ·rename_i el gr g' w' t' xs hk;obtain ⟨h1, h2⟩ := qG e;simp only [zJ1] at h1;obtain ⟨q1, q2, q3⟩ := h1;have hg : g = g' := zJ2 q1;have hw : w = t'.w := zJ2 q2;have hn2 := zJ2 q3;subst hg hw hn2;obtain ⟨y, hy, h3⟩ := run_bind h2;split at h3
    ·rename_i ik hik;split at h3
     ·rename_i ys v hys hv;obtain ⟨zs, hzs, h4⟩ := run_bind h3;split at h4
      ·rename_i z hz;unfold q70 at hzs;split at hzs
       case isFalse => cases hzs
       rename_i hlt;cases hzs;have hp := aF (f := fun v => .list el gr g v t' (List.set xs j z)) ho hk ⟨_, rfl, by simp⟩;refine ⟨_, ?_, hp.1, hp.2, h4⟩;simp only [SV.ok] at ha;have hm : m = xs.length := ha.2 _ _ _ _ _ hk;have hel := aJ hys
       have hcw : ys.length = t'.w := by
        have := congrArg List.length hel;rw [u7, zKK, zKK, t'.zAH] at this;exact this.symm
       have hle : off + 1 <= t'.w := by omega
       simp only [SV.enc, vO, y5 hk, hn];rw [qX, hm, rZ hv, show spec P (SO.list el gr g w' t' xs).enc.el = false from kS (ho.list _ _ _ _ _ _ _ hk).2.1]
       have hjl : j * t'.w + off + 1 <= xs.length * t'.w := by
        have := qFQ hy hle
        rwa [yR] at this
       rw [show Nat.ble (j * t'.w + off + 1) (xs.length * t'.w) = true from zKW hjl];simp only [rC, cond_false];show some (kQ k ⟨el, gr, kL ((xs.flatMap t'.cells).map .f) (j * t'.w + off) [fvv (.int ik v)]⟩ (qD h.l)) = _;rw [show qD (h.put k fun v => .list el gr g v t' (List.set xs j z)).l = kQ k (SO.enc (.list el gr g h.next t' (List.set xs j z))) (qD h.l) from vK k _ _];show _ = some (kQ k ⟨el, gr, ((List.set xs j z).flatMap t'.cells).map .f⟩ (qD h.l));rw [qD3 hy (y := z) hle ?_];rw [<- nT hz, qDL (by simp), <- u7, hel, List.map_set, zMT, if_pos (by rw [zKK]; exact hlt)];unfold kL;simp
      ·cases h4
     ·cases h3
    ·cases h3
   ·cases e
  ·cases e
 ·cases e
end
end Go.Sv
namespace Go.Sv
open Go.Idl
noncomputable section
variable [Gc]
variable [Yl]
variable {P : Program} {h : SH} {R : Type} {r : R}
def tyL : List (Option Ty) -> Option Ty
 | [] => some .unit
 | [t] => t.map fun t => .pair t .unit
 | [a, b] => match a, b with
   | some a, some b => some (.pair a b)
   | _, _ => none
 | a :: l => match a, tyL l with
   | some a, some b => some (.pair a b)
   | _, _ => none
def q95 (P : Program) (t : TypeId) : Option Ty := match P.underlying t with
 | some (.slice el) => (match P.underlying el with
   | some (.int k) => some (.ol el k)
   | _ => none)
 | _ => none
def qCU (P : Program) : Nat -> TypeId -> Option Ty
 | 0, _ => none
 | n + 1, t => match P.underlying t with
   | some (.int k) => some (.int k)
   | some .bool => some .bool
   | some .string => some .str
   | some (.slice el) => (match qCU P n el with
     | some u => some (.list el u)
     | none => none)
   | some (.struct fields) => tyL (fields.toList.map fun f => cond (Gc.ol f.type) (q95 P f.type) (qCU P n f.type))
   | some (.array k el) => tyL (List.replicate k (qCU P n el))
   | some (.interface ..) => some .nif
   | _ => none
def zcS (P : Program) (t : TypeId) : Option (List SV) := match qAD P t with
 | some z => cond (kP okC z.cells.toList) (some (kD .c z.cells.toList)) none
 | none => none
theorem sZ {t : TypeId} {l : List SV} (e : zcS P t = some l) : zc P t = some (qB l) ∧ okL h l := by
 unfold zcS at e;unfold zc;split at e
 ·rename_i z hz
  cases hc : kP okC z.cells.toList with
  | false => rw [hc] at e; cases e
  | true =>
    rw [hc] at e;cases e;rw [hz];simp only [hc, cond_true];exact ⟨by rw [q7T], q7O _⟩
 ·cases e
def qV5 (P : Program) (el : TypeId) (k : Nat) (h : SH) (K : SV -> SH -> q97 R) : q97 R := match zcS P el with
 | some l => cond (spec P el) .fail (K (.ref k 0 l.length) (h.new k fun v => .cells el v l))
 | none => .fail
theorem qRB {el : TypeId} {k : Nat} {K : SV -> SH -> q97 R} (ho : OkH P h) (e : (qV5 P el k h K).run = some r) : ∃ v h', nC P el k (qD h.l) = some (v.enc, qD h'.l) ∧ Post P h h' v ∧ (K v h').run = some r := by
 unfold qV5 at e;split at e
 ·rename_i l hl;obtain ⟨h1, h2⟩ := sZ (h := h) hl;have hp := xU (k := k) (f := fun v => .cells el v l) ho ⟨rfl, h2⟩
  cases hsp : spec P el with
  | true => rw [hsp] at e; cases e
  | false =>
  rw [hsp] at e;refine ⟨_, _, ?_, ⟨hp.1, hp.2, by simp [SV.ok]⟩, e⟩;simp only [nC, h1, qJ8, SV.enc, qY, hsp, cond_false];rfl
 ·cases e
def q9C (P : Program) (el : TypeId) (v : SV) (k : Nat) (h : SH) (K : SV -> SH -> q97 R) : q97 R :=
 cond (!(spec P el) && (pnt v.enc && (qB (yL v)).all eH)) (K (.ref k 0 (yL v).length) (h.new k fun n => .cells el n (yL v))) .fail
theorem q2W {el : TypeId} {v : SV} {k : Nat} {K : SV -> SH -> q97 R} (ho : OkH P h) (hv : v.ok h) (e : (q9C P el v k h K).run = some r) : ∃ x h', qXB P el v.enc k (qD h.l) = some (x.enc, qD h'.l) ∧ Post P h h' x ∧ (K x h').run = some r := by
 obtain ⟨h1, h2⟩ := qG e;have hp := xU (k := k) (f := fun n => .cells el n (yL v)) ho ⟨rfl, qBD hv⟩;refine ⟨_, _, ?_, ⟨hp.1, hp.2, by simp [SV.ok]⟩, h2⟩;unfold qXB;rw [bR, h1];simp only [cond_true, qJ8, SV.enc, qY];rfl
def qPV (place : Nat -> Option (Nat × Nat)) : List SV -> List (Nat × SV) -> Option (List SV)
 | cells, [] => some cells
 | cells, (i, v) :: rest => match place i with
   | some (off, size) => cond (Nat.beq (yL v).length size && (Nat.ble (off + size) cells.length && (pnt v.enc && (qB (yL v)).all eH))) (qPV place (qAI cells off (yL v)) rest) none
   | none => none
def q46 (l : List (Nat × SV)) : List (Nat × PV) := l.map fun p => (p.1, p.2.enc)
theorem rX {place : Nat -> Option (Nat × Nat)} : ∀ {l cs : List SV} {parts : List (Nat × SV)}, qPV place l parts = some cs -> qI2 place (qB l) (q46 parts) = some (qB cs) ∧ (okL h l -> (∀ p ∈ parts, p.2.ok h) -> okL h cs)
 | l, cs, [], e => by cases e; exact ⟨rfl, fun a _ => a⟩
 | l, cs, (i, v) :: rest, e => by
   unfold qPV at e;split at e
   ·rename_i off size hpl
    cases hc : (Nat.beq (yL v).length size && (Nat.ble (off + size) l.length && (pnt v.enc && (qB (yL v)).all eH))) with
    | false => rw [hc] at e; cases e
    | true =>
      rw [hc] at e;obtain ⟨h1, h2⟩ := rX (l := qAI l off (yL v)) e;refine ⟨?_, fun a b => h2 (qNH a (qBD (b _ zKF))) fun p hp => b p (zJ9 _ hp)⟩
      show (match place i with
       | some (off, size) => cond (Nat.beq (zH v.enc).length size && (Nat.ble (off + size) (qB l).length && (pnt v.enc && (zH v.enc).all eH))) (qI2 place (kL (qB l) off (zH v.enc)) (q46 rest)) none
       | none => none) = some (qB cs)
      rw [hpl];simp only;rw [bR, qY, qY, hc, <- sV];exact h1
   ·cases e
def qRU (P : Program) (t : TypeId) (parts : List (Nat × SV)) : Option SV := match zcS P t with
 | some z => cond (qB6 P t) (match qPV (qSG P t) z parts with
   | some cs => some (.agg cs)
   | none => none) none
 | none => none
theorem qSC {t : TypeId} {parts : List (Nat × SV)} {v : SV} (hp : ∀ p ∈ parts, p.2.ok h) (e : qRU P t parts = some v) : qHZ P t (q46 parts) = some v.enc ∧ v.ok h := by
 unfold qRU at e;split at e
 ·rename_i z hz;obtain ⟨h1, h2⟩ := sZ (h := h) hz
  cases hb : qB6 P t with
  | false => rw [hb] at e; cases e
  | true =>
    rw [hb] at e;simp only [cond_true] at e;split at e
    ·rename_i cs hcs;cases e;obtain ⟨h3, h4⟩ := rX (h := h) hcs;simp only [qHZ, h1, hb, cond_true, h3, SV.enc, SV.ok, true_and];exact h4 h2 hp
    ·cases e
 ·cases e
def Ty.zEI (t : Ty) : Nat -> List SV -> Option (List t.sem)
 | 0, [] => some []
 | 0, _ :: _ => none
 | n + 1, l => match t.zC3 l with
   | some (x, l') => (match t.zEI n l' with
     | some xs => some (x :: xs)
     | none => none)
   | none => none
theorem qMR {t : Ty} : ∀ {n : Nat} {l : List SV} {xs : List t.sem}, t.zEI n l = some xs -> qB l = (xs.flatMap t.cells).map .f ∧ xs.length = n
 | 0, [], xs, e => by cases e; simp [qB]
 | 0, _ :: _, xs, e => by cases e
 | n + 1, l, xs, e => by
   unfold Ty.zEI at e;split at e
   ·rename_i x l' hx;split at e
    ·rename_i ys hy;cases e;obtain ⟨h1, h2⟩ := qMR hy;rw [sI hx, h1, zKV, zK8];exact ⟨rfl, by rw [zKM, h2]⟩
    ·cases e
   ·cases e
def q52 (n : Nat) (z : List SV) : List SV := (List.replicate n z).flatten
theorem qN3 (n : Nat) (z : List SV) : qB (q52 n z) = qJL n (qB z) := by simp [q52, qJL, qZ, List.map_flatten]
def dW (P : Program) (t : TypeId) (len : Nat) (parts : List (Nat × SV)) (k : Nat) (h : SH) (K : SV -> SH -> q97 R) : q97 R := match zV P t with
 | some el => (match szT P el, zcS P el, qCU P 8 el with
   | some (s + 1), some z, some ty => cond (Nat.beq ty.w (s + 1)) (cond (Nat.beq z.length (s + 1) && Nat.ble (len * (s + 1)) 65536) (match qPV (fun i => some (i * (s + 1), s + 1)) (q52 len z) parts with
     | some cs => (match ty.zEI len cs with
       | some xs => K (.own k h.next len) (h.new k fun v => .list el false v v ty xs)
       | none => .fail)
     | none => .fail) .fail) .fail
   | some (s + 1), some z, none => cond (Nat.beq z.length (s + 1) && Nat.ble (len * (s + 1)) 65536) (match qPV (fun i => some (i * (s + 1), s + 1)) (q52 len z) parts with
     | some cs => K (.own k h.next len) (h.new k fun v => .cells el v cs)
     | none => .fail) .fail
   | _, _, _ => .fail)
 | none => .fail
omit [Yl] in
theorem wC {el : TypeId} {gr : Bool} {k n : Nat} {ty : Ty} {xs : List ty.sem} (hn : n = xs.length) : (SV.own k h.next n).ok (h.new k fun v => .list el gr v v ty xs) := by
 simp only [SV.ok];refine ⟨zK0 _, fun el' gr' w' t' xs' hk => ?_⟩;rw [show slk k (h.new k fun v => .list el gr v v ty xs).l = some (.list el gr h.next h.next ty xs) from vG] at hk;cases hk;exact hn
theorem qCO {t : TypeId} {len k : Nat} {parts : List (Nat × SV)} {K : SV -> SH -> q97 R} (ho : OkH P h) (hp : ∀ p ∈ parts, p.2.ok h) (e : (dW P t len parts k h K).run = some r) :
 ∃ v h', yA P t len (q46 parts) k (qD h.l) = some (v.enc, qD h'.l) ∧ Post P h h' v ∧ (K v h').run = some r := by
 unfold dW at e;split at e
 ·rename_i el hel;split at e
  ·rename_i s z ty hs hz hty;obtain ⟨e1, e⟩ := qG e;obtain ⟨e2, e⟩ := qG e;split at e
   ·rename_i cs hcs;split at e
    ·rename_i xs hxs;obtain ⟨z1, z2⟩ := sZ (h := h) hz;obtain ⟨f1, f2⟩ := rX (h := h) hcs;obtain ⟨d1, d2⟩ := qMR hxs;have hw : ty.w = s + 1 := zJ2 e1;have hn := xU (k := k) (f := fun v => .list el false v v ty xs) ho ⟨rfl, rfl, by rw [hs, hw], by omega⟩;refine ⟨_, _, ?_, ⟨hn.1, hn.2, wC d2.symm⟩, e⟩;rw [qN3] at f1;simp only [yA, hel, hs, z1, qY, e2, cond_true, f1, qJ8, SV.enc, d1];rfl
    ·cases e
   ·cases e
  ·rename_i s z hs hz hty;obtain ⟨e2, e⟩ := qG e;split at e
   ·rename_i cs hcs;obtain ⟨z1, z2⟩ := sZ (h := h) hz;obtain ⟨f1, f2⟩ := rX (h := h) hcs
    have zHS : okL h cs := f2 (yF.2 fun x hx => by
     unfold q52 at hx;obtain ⟨l, hl, hx⟩ := zNR.1 hx;rw [List.eq_of_mem_replicate hl] at hx
     exact yF.1 z2 x hx) hp
    have hn := xU (k := k) (f := fun v => .cells el v cs) ho ⟨rfl, zHS⟩;refine ⟨_, _, ?_, ⟨hn.1, hn.2, ?_⟩, e⟩
    ·rw [qN3] at f1;simp only [yA, hel, hs, z1, qY, e2, cond_true, f1, qJ8, SV.enc];rfl
    ·simp only [SV.ok];refine ⟨zK0 _, fun el' gr' w' t' xs' hk => ?_⟩;rw [show slk k (h.new k fun v => .cells el v cs).l = some (.cells el h.next cs) from vG] at hk;cases hk
   ·cases e
  ·cases e
 ·cases e
def q4C (P : Program) (t : TypeId) (l : SV) (k : Nat) (h : SH) (K : SV -> SH -> q97 R) : q97 R := match zV P t, asI l with
 | some el, some (_, n) => (match szT P el, zcS P el, qCU P 8 el with
   | some (s + 1), some z, some ty => cond (kH P el && (Nat.beq z.length (s + 1) && Nat.beq ty.w (s + 1))) (match ty.zCP z with
     | some z0 => .bind (mkN n) fun N => K (.own k h.next N) (h.new k fun v => .list el false v v ty (List.replicate N z0))
     | none => .fail) .fail
   | _, _, _ => .fail)
 | _, _ => .fail
omit [Yl] in
theorem qN1 {t : Ty} {z : t.sem} : ∀ (n : Nat), ((List.replicate n z).flatMap t.cells).map PV.f = qJL n ((t.cells z).map .f)
 | 0 => rfl
 | n + 1 => by
   rw [zLP, zKV, zK8, qN1 n];simp [qJL, zLP]
theorem qYG {t : TypeId} {l : SV} {k : Nat} {K : SV -> SH -> q97 R} (ho : OkH P h) (e : (q4C P t l k h K).run = some r) :
 ∃ v h', xD P t l.enc l.enc k (qD h.l) = some (v.enc, qD h'.l) ∧ Post P h h' v ∧ (K v h').run = some r := by
 unfold q4C at e;split at e
 ·rename_i el ki n hel hl;split at e
  ·rename_i s z ty hs hz hty;obtain ⟨e1, e⟩ := qG e;simp only [zJ1] at e1;obtain ⟨q1, q2, q3⟩ := e1;split at e
   ·rename_i z0 hz0;obtain ⟨N, hN, e⟩ := run_bind e;obtain ⟨z1, z2⟩ := sZ (h := h) hz;have hw : ty.w = s + 1 := zJ2 q3;have hn := xU (k := k) (f := fun v => .list el false v v ty (List.replicate N z0)) ho ⟨rfl, rfl, by rw [hs, hw], by omega⟩;refine ⟨_, _, ?_, ⟨hn.1, hn.2, wC (xs := List.replicate N z0) (by simp)⟩, e⟩;rw [yJ hl];simp only [xD, fvv, hel, decide_true, cond_true, hN, hs, z1, qY, q1, q2, zK4, qJ8, SV.enc];show some (PV.own k N 0 N, (k, (⟨el, false, qJL N (qB z)⟩ : PO)) :: qD h.l) = some (PV.own k N 0 N, (k, ⟨el, false, ((List.replicate N z0).flatMap ty.cells).map PV.f⟩) :: qD h.l);rw [qN1, nT hz0]
   ·cases e
  ·cases e
 ·cases e
def q4A (h : SH) : SV -> Bool
 | .ref k _ w => match slk k h.l with
   | some (.cells _ _ l) => Nat.beq w l.length
   | _ => false
 | .elt k g _ w _ _ => match slk k h.l with
   | some (.list _ _ g' _ t _) => Nat.beq g g' && Nat.beq w t.w
   | _ => false
 | .lp _ _ _ _ => true
 | _ => false
theorem qNW {k off w : Nat} (e : q4A h (.ref k off w) = true) : live? k w (qD h.l) = true := by
 simp only [q4A] at e;split at e
 ·rename_i el w' l hk;unfold live?;rw [y5 hk];show Nat.beq w (qB l).length = true;rw [qY]; exact e
 ·cases e
theorem qM7 {k g n w j off : Nat} (ho : (SV.elt k g n w j off).ok h) (e : q4A h (.elt k g n w j off) = true) : live? k (n * w) (qD h.l) = true := by
 simp only [q4A] at e;split at e
 ·rename_i el gr g' w' t xs hk;rw [zJ1] at e;have hg : g = g' := zJ2 e.1;have hw : w = t.w := zJ2 e.2;subst hg hw;simp only [SV.ok] at ho;unfold live?;rw [y5 hk];show Nat.beq (n * t.w) (SO.list el gr g w' t xs).enc.cs.length = true;rw [qX, ho.2 _ _ _ _ _ hk]; exact rC _
 ·cases e
def qL5 (n : Nat) : SV -> SV
 | .ref k off w => .ref k (off + n) w
 | .elt k g m w j off => .elt k g m w j (off + n)
 | .lp t xs j off => .lp t xs j (off + n)
 | v => v
def q85 : SV -> Bool
 | .ref _ _ _ => true
 | .elt _ _ _ _ _ _ => true
 | .lp _ _ _ _ => true
 | _ => false
omit [Yl] in
theorem qVX {n : Nat} {v : SV} (hv : v.ok h) : (qL5 n v).ok h := by
 cases v <;> simp only [qL5, SV.ok] at hv ⊢ <;> exact hv
def pF (P : Program) (t : TypeId) (x : SV) (i : Nat) (h : SH) : Option SV := match q7Q P t i with
 | some (off, ft) => (match szT P ft with
   | some (_ + 1) => cond (q4A h x) (some (qL5 off x)) none
   | _ => none)
 | none => none
theorem qEL {t : TypeId} {x v : SV} {i : Nat} (hx : x.ok h) (e : pF P t x i h = some v) : zR P t x.enc i (qD h.l) = some v.enc ∧ v.ok h := by
 unfold pF at e;unfold zR;split at e
 ·rename_i off ft hf;split at e
  ·rename_i s hs
   cases hl : q4A h x with
   | false => rw [hl] at e; cases e
   | true =>
     rw [hl] at e;cases e;refine ⟨?_, qVX hx⟩;simp only [hf, hs]
     cases x with
     | ref k o w => simp only [SV.enc, qL5, qNW hl, cond_true]
     | elt k g n w j o => simp only [SV.enc, qL5, qM7 hx hl, cond_true, zLT]
     | lp t xs j o => simp only [SV.enc, qL5, zLT]
     | _ => cases hl
  ·cases e
 ·cases e
def q8R (n : Nat) (ix : SV) (K : Nat -> q97 R) : q97 R := match ix with
 | .c (.int _ i) => (match idx n i with
   | some j => K j
   | none => .fail)
 | v => (match asI v with
   | some (_, i) => .bind (idx n i) K
   | none => .fail)
theorem q33 {n : Nat} {ix : SV} {K : Nat -> q97 R} (e : (q8R n ix K).run = some r) : ∃ k i j, ix.enc = fvv (.int k i) ∧ idx n i = some j ∧ (K j).run = some r := by
 unfold q8R at e;split at e
 ·rename_i k i;split at e
  ·rename_i j hj;exact ⟨k, i, j, by simp [SV.enc], hj, e⟩
  ·cases e
 ·split at e
  ·rename_i k i hi;obtain ⟨j, hj, e⟩ := run_bind e;exact ⟨k, i, j, yJ hi, hj, e⟩
  ·cases e
def q1F (n : Nat) (ix : SV) (K K2 : Nat -> q97 R) : q97 R := match ix with
 | .c (.int _ i) => (match idx n i with
   | some j => K j
   | none => .fail)
 | v => (match asI v with
   | some (_, i) => .bind (idx n i) K2
   | none => .fail)
theorem qWK {n : Nat} {ix : SV} {K K2 : Nat -> q97 R} (e : (q1F n ix K K2).run = some r) : ∃ k i j, ix.enc = fvv (.int k i) ∧ idx n i = some j ∧ ((K j).run = some r ∨ (K2 j).run = some r) := by
 unfold q1F at e;split at e
 ·rename_i k i;split at e
  ·rename_i j hj;exact ⟨k, i, j, by simp [SV.enc], hj, .inl e⟩
  ·cases e
 ·split at e
  ·rename_i k i hi;obtain ⟨j, hj, e⟩ := run_bind e;exact ⟨k, i, j, yJ hi, hj, .inr e⟩
  ·cases e
def q55 (n : Nat) : SV -> SV
 | .ref k off w => .rfx k (off + n) w
 | .elt k g m w j off => .etx k g m w j (off + n)
 | v => qL5 n v
omit [Yl] in
theorem q2I {n : Nat} {v : SV} (hv : v.ok h) : (q55 n v).ok h := by
 cases v <;> simp only [q55, qL5, SV.ok] at hv ⊢ <;> exact hv
theorem qYZ {n : Nat} {v : SV} (hv : q85 v = true) : (q55 n v).enc = (qL5 n v).enc := by
 cases v <;> first | rfl | (simp only [q55, qL5, SV.enc])
def o5 (P : Program) (t : TypeId) (x ix : SV) (h : SH) (K : SV -> q97 R) : q97 R := match x with
 | .d (.list el u) xs => (match asI ix, zV P t with
   | some (_, i), some el' => (match szT P el' with
     | some s => cond (Nat.beq s u.w) (.bind (idx (List.length xs) i) fun j => K (.lp u xs j 0)) .fail
     | none => .fail)
   | _, _ => .fail)
 | .own k g n => (match asI ix, zV P t, slk k h.l with
   | some (_, i), some el', some (.list el _ g' _ u _) => cond (Nat.beq el' el && Nat.beq g g') (.bind (idx n i) fun j => K (.elt k g n u.w j 0)) .fail
   | some (_, i), some el', some (.cells el _ cs) => (match szT P el with
     | some s => cond (Nat.beq el' el && Nat.beq (n * s) cs.length) (.bind (idx n i) fun j => K (.ref k (j * s) cs.length)) .fail
     | none => .fail)
   | _, _, _ => .fail)
 | .sl k g n o m => (match asI ix, zV P t, slk k h.l with
   | some (_, i), some el', some (.list el _ g' _ u _) => cond (Nat.beq el' el && Nat.beq g g') (.bind (idx m i) fun j => K (.elt k g n u.w (o + j) 0)) .fail
   | _, _, _ => .fail)
 | x => (match qTG P t with
   | some (n, el) => (match szT P el with
     | some s => cond (q85 x && q4A h x) (q1F n ix (fun j => K (qL5 (j * s) x)) fun j => K (q55 (j * s) x)) .fail
     | none => .fail)
   | none => .fail)
theorem qF4 {t : TypeId} {x ix : SV} {K : SV -> q97 R} (ho : OkH P h) (hx : x.ok h) (e : (o5 P t x ix h K).run = some r) : ∃ v, qU P t x.enc ix.enc (qD h.l) = some v.enc ∧ v.ok h ∧ (K v).run = some r := by
 unfold o5 at e;split at e
 ·rename_i el u xs;split at e
  ·rename_i k i el' hi hel;split at e
   ·rename_i s hs;obtain ⟨h1, e1⟩ := qG e;obtain ⟨j, hj, e2⟩ := run_bind e1;have hw : s = u.w := zJ2 h1;subst hw;refine ⟨_, ?_, by simp [SV.ok], e2⟩;rw [yJ hi];simp only [SV.enc, Ty.fv, fvv, qU, hel, hs, hj, zL3]
   ·cases e
  ·cases e
 ·rename_i k g n;split at e
  ·rename_i ki i el' el gr g' w u xs hi hel hk;obtain ⟨h1, e1⟩ := qG e;obtain ⟨j, hj, e2⟩ := run_bind e1;rw [zJ1] at h1;have hg : g = g' := zJ2 h1.2;subst hg;simp only [SV.ok] at hx;have hn := hx.2 _ _ _ _ _ hk;have hl := ho.list _ _ _ _ _ _ _ hk;refine ⟨_, ?_, by simp only [SV.ok]; exact hx, e2⟩;rw [yJ hi];simp only [SV.enc, fvv, qU, hel, y5 hk]
   show (match szT P el with
    | some s => (match idx n i with
      | some j => cond (Nat.beq el' el && Nat.beq (n * s) (SO.list el gr g w u xs).enc.cs.length) (some (PV.ref k (SO.list el gr g w u xs).enc.cs.length ((0 + j) * s))) none
      | none => none)
    | none => none) = _
   rw [hl.2.1, hj];simp only [qX, hn, rC, h1.1, zK4, cond_true, zKP, zL3]
  ·rename_i ki i el' el w cs hi hel hk;split at e
   ·rename_i s hs;obtain ⟨h1, e1⟩ := qG e;obtain ⟨j, hj, e2⟩ := run_bind e1;refine ⟨_, ?_, by simp [SV.ok], e2⟩;rw [yJ hi];simp only [SV.enc, fvv, qU, hel, y5 hk]
    show (match szT P el with
     | some s => (match idx n i with
       | some j => cond (Nat.beq el' el && Nat.beq (n * s) (qB cs).length) (some (PV.ref k (qB cs).length ((0 + j) * s))) none
       | none => none)
     | none => none) = _
    rw [hs, hj];simp only [qY, h1, cond_true, zKP]
   ·cases e
  ·cases e
 ·rename_i k g n o m;split at e
  ·rename_i ki i el' el gr g' w u xs hi hel hk;obtain ⟨h1, e1⟩ := qG e;obtain ⟨j, hj, e2⟩ := run_bind e1;rw [zJ1] at h1;have hg : g = g' := zJ2 h1.2;subst hg;simp only [SV.ok] at hx;have hn := hx.1.2 _ _ _ _ _ hk;have hl := ho.list _ _ _ _ _ _ _ hk;refine ⟨_, ?_, by simp only [SV.ok]; exact hx.1, e2⟩;rw [yJ hi];simp only [SV.enc, fvv, qU, hel, y5 hk]
   show (match szT P el with
    | some s => (match idx m i with
      | some j => cond (Nat.beq el' el && Nat.beq (n * s) (SO.list el gr g w u xs).enc.cs.length) (some (PV.ref k (SO.list el gr g w u xs).enc.cs.length ((o + j) * s))) none
      | none => none)
    | none => none) = _
   rw [hl.2.1];simp only [hj, qX, hn, rC, h1.1, zK4, cond_true, zL3]
  ·cases e
 ·split at e
  ·rename_i n el ha;split at e
   ·rename_i s hs;obtain ⟨h1, e⟩ := qG e;rw [zJ1] at h1;obtain ⟨ki, i, j, hi, hj, e⟩ := qWK e
    obtain ⟨v, hv1, hv2, e⟩ : ∃ v : SV, v.enc = (qL5 (j * s) x).enc ∧ v.ok h ∧ (K v).run = some r := by
     rcases e with e | e
     ·exact ⟨_, rfl, qVX hx, e⟩
     ·exact ⟨_, qYZ h1.1, q2I hx, e⟩
    refine ⟨_, ?_, hv2, e⟩;rw [hi, hv1]
    cases x with
    | ref k o w => simp only [SV.enc, qL5, fvv, qU, ha, hs, hj, qNW h1.2, cond_true]
    | elt k g n w j o => simp only [SV.enc, qL5, fvv, qU, ha, hs, hj, qM7 hx h1.2, cond_true, zLT]
    | lp t xs j o => simp only [SV.enc, qL5, fvv, qU, ha, hs, hj, zLT]
    | _ => cases h1.1
   ·cases e
  ·cases e
def qR4 (P : Program) (t : TypeId) (x ix : SV) (K : SV -> q97 R) : q97 R := match qTG P t, x with
 | some (n, el), .agg l => (match szT P el with
   | some s => q8R n ix fun j => match qFR P el l (j * s) with
     | some v => K v
     | none => .fail
   | none => .fail)
 | _, _ => .fail
theorem qUQ {t : TypeId} {x ix : SV} {K : SV -> q97 R} (hx : x.ok h) (e : (qR4 P t x ix K).run = some r) : ∃ v, qCY P t x.enc ix.enc = some v.enc ∧ v.ok h ∧ (K v).run = some r ∧ ∃ l, x = .agg l := by
 unfold qR4 at e;split at e
 ·rename_i n el l ha;split at e
  ·rename_i s hs;obtain ⟨ki, i, j, hi, hj, e⟩ := q33 e;split at e
   ·rename_i v hv;obtain ⟨h1, h2⟩ := qD5 (h := h) hv;simp only [SV.ok] at hx;refine ⟨v, ?_, h2 hx, e, l, rfl⟩;rw [hi];simp only [qCY, ha, SV.enc, fvv, hs, hj];exact h1
   ·cases e
  ·cases e
 ·cases e
def qFL (v : SV) (i : Nat) : Option SV := match v with
 | .tup l => (match zF l i with
   | some x => cond (pnt x.enc) (some x) none
   | none => none)
 | _ => none
theorem qKP {x v : SV} {i : Nat} (hx : x.ok h) (e : qFL x i = some v) : aU x.enc i = some v.enc ∧ v.ok h := by
 unfold qFL at e;split at e
 ·rename_i l;split at e
  ·rename_i y hy
   cases hp : pnt y.enc with
   | false => rw [hp] at e; cases e
   | true =>
     rw [hp] at e;cases e;simp only [SV.ok] at hx;refine ⟨?_, dK hx hy⟩;simp only [aU, SV.enc, zJ, hy, zKD, hp, cond_true]
  ·cases e
 ·cases e
def qAH (fn : Fn) (first cap : List SV) : Option SV := match fn with
 | .func g => some (match first, cap with
   | [], [] => .c (.func (.func g) #[] #[])
   | _, _ => .fn g first cap)
 | _ => none
theorem qH8 {fn : Fn} {first cap : List SV} {v : SV} (h1 : okL h first) (h2 : okL h cap) (e : qAH fn first cap = some v) : jX fn (qB first) (qB cap) = some v.enc ∧ v.ok h := by
 unfold qAH at e;split at e
 ·rename_i g;cases e
  cases first with
  | nil => cases cap with
    | nil => exact ⟨by simp [jX, qB, SV.enc], by simp [SV.ok]⟩
    | cons x l => exact ⟨by simp [jX, qB, SV.enc], by simp only [SV.ok]; exact ⟨h1, h2⟩⟩
  | cons y l => exact ⟨by simp [jX, qB, SV.enc], by simp only [SV.ok]; exact ⟨h1, h2⟩⟩
 ·cases e
end
end Go.Sv
namespace Go.Sv
open Go.Idl
variable {el : TypeId} {k : Nat} {t : Ty} {x : SV}
noncomputable section
variable [Gc]
variable [Yl]
variable {P : Program} {h : SH} {R : Type} {r : R}
def q8Y (P : Program) (ts : Array TypeId) (x : SV) (h : SH) : Option SV := match ts[0]? with
 | some t => (match zV P t with
   | some _ => (match x with
     | .d (.list _ _) xs => some (.d (.int .i64) ((List.length xs : Nat) : Int))
     | .c (.slice _ n _) => some (.c (.int .i64 (n : Int)))
     | .own k g n => (match slk k h.l with
       | some (.list _ _ g' _ _ _) => cond (Nat.beq g g') (some (.d (.int .i64) (n : Int))) none
       | some (.cells el _ cs) => (match szT P el with
         | some s => cond (Nat.beq (n * s) cs.length) (some (.c (.int .i64 (n : Int)))) none
         | none => none)
       | _ => none)
     | .sl k g _ _ m => (match slk k h.l with
       | some (.list _ _ g' _ _ _) => cond (Nat.beq g g') (some (.d (.int .i64) (m : Int))) none
       | _ => none)
     | _ => none)
   | none => (match qTG P t with
     | some (n, _) => some (.c (.int .i64 (n : Int)))
     | none => none))
 | none => none
theorem q3F {ts : Array TypeId} {v : SV} (ho : OkH P h) (hx : x.ok h) (e : q8Y P ts x h = some v) : qXC P ts x.enc (qD h.l) = some v.enc ∧ v.ok h := by
 unfold q8Y at e;unfold qXC;split at e
 ·rename_i t ht;split at e
  ·rename_i el hel;split at e
   ·rename_i el' u xs;cases e;simp [ht, hel, SV.enc, Ty.fv, fvv, SV.ok]
   ·rename_i a n c;cases e;simp [ht, hel, SV.enc, fvv, SV.ok]
   ·rename_i k g n;split at e
    ·rename_i el' gr g' w u xs hk
     obtain ⟨h1, e1⟩ : Nat.beq g g' = true ∧ some (SV.d (.int .i64) (n : Int)) = some v := by
      cases hb : Nat.beq g g' with
      | false => rw [hb] at e; cases e
      | true => rw [hb] at e; exact ⟨rfl, e⟩
     cases e1;have hg : g = g' := zJ2 h1;subst hg;simp only [SV.ok] at hx;have hn := hx.2 _ _ _ _ _ hk;have hl := ho.list _ _ _ _ _ _ _ hk;refine ⟨?_, by simp [SV.ok]⟩;simp only [ht, hel, SV.enc, y5 hk]
     show (match szT P el' with
      | some s => cond (Nat.beq (n * s) (SO.list el' gr g w u xs).enc.cs.length) (some (fvv (.int .i64 (n : Int)))) none
      | none => none) = _
     rw [hl.2.1];simp only [qX, hn, rC, cond_true, Ty.fv, fvv]
    ·rename_i el' w cs hk;split at e
     ·rename_i s hs
      cases hb : Nat.beq (n * s) cs.length with
      | false => rw [hb] at e; cases e
      | true =>
        rw [hb] at e;cases e;refine ⟨?_, by simp [SV.ok]⟩;simp only [ht, hel, SV.enc, y5 hk]
        show (match szT P el' with
         | some s => cond (Nat.beq (n * s) (qB cs).length) (some (fvv (.int .i64 (n : Int)))) none
         | none => none) = _
        rw [hs];simp only [qY, hb, cond_true]
     ·cases e
    ·cases e
   ·rename_i k g n o m;split at e
    ·rename_i el' gr g' w u xs hk
     obtain ⟨h1, e1⟩ : Nat.beq g g' = true ∧ some (SV.d (.int .i64) (m : Int)) = some v := by
      cases hb : Nat.beq g g' with
      | false => rw [hb] at e; cases e
      | true => rw [hb] at e; exact ⟨rfl, e⟩
     cases e1;have hg : g = g' := zJ2 h1;subst hg;simp only [SV.ok] at hx;have hn := hx.1.2 _ _ _ _ _ hk;have hl := ho.list _ _ _ _ _ _ _ hk;refine ⟨?_, by simp [SV.ok]⟩;simp only [ht, hel, SV.enc, y5 hk]
     show (match szT P el' with
      | some s => cond (Nat.beq (n * s) (SO.list el' gr g w u xs).enc.cs.length) (some (fvv (.int .i64 (m : Int)))) none
      | none => none) = _
     rw [hl.2.1];simp only [qX, hn, rC, cond_true, Ty.fv, fvv]
    ·cases e
   ·cases e
  ·rename_i hel;split at e
   ·rename_i n el ha;cases e;simp [ht, hel, ha, SV.enc, SV.ok]
   ·cases e
 ·cases e
def qEO (u t : Ty) (xs : List u.sem) : Option (List t.sem) := if e : u = t then some (e ▸ xs) else none
omit [Yl] in
theorem mW {u : Ty} {xs : List u.sem} {ys : List t.sem} (e : qEO u t xs = some ys) : (⟨u, xs⟩ : (t : Ty) × List t.sem) = ⟨t, ys⟩ := by
 unfold qEO at e;split at e
 ·rename_i h;subst h;cases e;rfl
 ·cases e
def qWH (t : Ty) (x : SV) (h : SH) : Option (List t.sem) := match x with
 | .d (.list _ u) xs => qEO u t xs
 | .c (.slice none 0 _) => some []
 | .own k g _ => (match slk k h.l with
   | some (.list _ _ g' _ u xs) => cond (Nat.beq g g') (qEO u t xs) none
   | _ => none)
 | .sl k g _ o m => (match slk k h.l with
   | some (.list _ _ g' _ u xs) => cond (Nat.beq g g') (match qEO u t xs with
     | some xs => some ((xs.drop o).take m)
     | none => none) none
   | _ => none)
 | _ => none
theorem qYH {ys : List t.sem} (ho : OkH P h) (hx : x.ok h) (e : qWH t x h = some ys) : rH P t.w x.enc (qD h.l) = some (ys.length, (ys.flatMap t.cells).map .f) := by
 unfold qWH at e;unfold rH;split at e
 ·rename_i el u xs;cases mW e;simp only [SV.enc, Ty.fv, yR, rC, cond_true]
 ·cases e;simp [SV.enc, fvv]
 ·rename_i k g n;split at e
  ·rename_i el gr g' w u xs hk
   cases hb : Nat.beq g g' with
   | false => rw [hb] at e; cases e
   | true =>
     rw [hb] at e;have hg : g = g' := zJ2 hb;subst hg;cases mW e;simp only [SV.ok] at hx;have hn := hx.2 _ _ _ _ _ hk;have hl := ho.list _ _ _ _ _ _ _ hk;simp only [SV.enc, y5 hk]
     show (match szT P el with
      | some s' => cond (Nat.beq (n * s') (SO.list el gr g w t ys).enc.cs.length && Nat.beq t.w s') (some (n, (((ys.flatMap t.cells).map PV.f).drop (0 * t.w)).take (n * t.w))) none
      | none => none) = _
     rw [hl.2.1];simp only [qX, hn, rC, zK4, cond_true, zN0, zMJ];rw [zK5 (by rw [zKK, yR]; exact zJ3 _)]
  ·cases e
 ·rename_i k g n o m;split at e
  ·rename_i el gr g' w u xs hk
   cases hb : Nat.beq g g' with
   | false => rw [hb] at e; cases e
   | true =>
     rw [hb] at e;have hg : g = g' := zJ2 hb;subst hg;simp only [cond_true] at e;split at e
     case h_2 => cases e
     rename_i xs2 zHT;cases e;cases mW zHT;simp only [SV.ok] at hx;have hn := hx.1.2 _ _ _ _ _ hk;have hl := ho.list _ _ _ _ _ _ _ hk;simp only [SV.enc, y5 hk]
     show (match szT P el with
      | some s' => cond (Nat.beq (n * s') (SO.list el gr g w t xs2).enc.cs.length && Nat.beq t.w s') (some (m, (((xs2.flatMap t.cells).map PV.f).drop (o * t.w)).take (m * t.w))) none
      | none => none) = _
     rw [hl.2.1];simp only [qX, hn, rC, zK4, cond_true];rw [<- zMF, <- zMG, aH, nK]
     congr 1
     have := hx.2;rw [zLN, zMI, zL2 (by omega)]
  ·cases e
 ·cases e
omit [Yl] in
theorem qRX (ys : List t.sem) : ((ys.flatMap t.cells).map PV.f).all eH = true := by
 rw [zJ4];intro x hx;obtain ⟨y, _, rfl⟩ := zKT.1 hx;rfl
omit [Yl] in
theorem qFZ {h0 : SH} {gr : Bool} {n m : Nat} {ty : Ty} {xs ys : List ty.sem} (hn : n = xs.length) (hm : m = ys.length) : (SV.own k h0.next (n + m)).ok (h0.new k fun v => .list el gr v v ty (xs ++ ys)) :=
 wC (by rw [zKS, hn, hm])
def qK8 (P : Program) (ts : List TypeId) (base x : SV) (k : Nat) (h : SH) (K : SV -> SH -> q97 R) : q97 R := match ts with
 | [st, xt] => (match zV P st, zV P xt with
   | some el, some _ => (match szT P el, qCU P 8 el with
     | some (s + 1), some t => cond (Nat.beq t.w (s + 1) && kH P el) (match qWH t x h with
       | some ys => (match base with
         | .c (.slice none 0 0) => .ite (Nat.beq ys.length 0) (K base h)
            (.ite (Nat.ble (0 + ys.length) 1048576) (K (.own k h.next (0 + ys.length)) (h.new k fun v => .list el true v v t ([] ++ ys))) .fail)
         | .own j g n => (match slk j h.l with
           | some (.list el' gr g' _ u xs) => cond (Nat.beq el' el && Nat.beq g g') (match qEO u t xs with
             | some xs => .ite (Nat.beq ys.length 0) (K base h)
                (.ite (Nat.ble (n + ys.length) 1048576) (cond gr (K (.own j h.next (n + ys.length)) ((h.del j).new j fun v => .list el true v v t (xs ++ ys))) (K (.own k h.next (n + ys.length)) (h.new k fun v => .list el true v v t (xs ++ ys)))) .fail)
             | none => .fail) .fail
           | _ => .fail)
         | _ => .fail)
       | none => .fail) .fail
     | _, _ => .fail)
   | _, _ => .fail)
 | _ => .fail
omit [Yl] in
theorem qGI {xs ys : List t.sem} {ph : PHp} (h1 : Nat.ble (xs.length + ys.length) 1048576 = true) (h2 : kH P el = true) :
 nA P el t.w ((xs.flatMap t.cells).map .f) xs.length ((ys.flatMap t.cells).map .f) ys.length k ph = some (.own k (xs.length + ys.length) 0 (xs.length + ys.length), (k, ⟨el, true, ((xs ++ ys).flatMap t.cells).map .f⟩) :: ph) := by
 unfold nA;rw [h1, h2, zKK, yR, zKK, yR, qRX];simp only [rC, zK4, cond_true, qJ8];rw [zND, zK8]
theorem qQA {ts : List TypeId} {base : SV} {K : SV -> SH -> q97 R} (ho : OkH P h) (hb : base.ok h) (hx : x.ok h) (e : (qK8 P ts base x k h K).run = some r) :
 ∃ v h', yE P ts base.enc x.enc k (qD h.l) = some (v.enc, qD h'.l) ∧ Post P h h' v ∧ (K v h').run = some r := by
 unfold qK8 at e;split at e
 ·rename_i st xt;split at e
  ·rename_i el el2 hel zFG;split at e
   ·rename_i s t hs hty;have e_ := qG e;clear e;obtain ⟨c1, e⟩ := e_;rw [zJ1] at c1;have hw : s + 1 = t.w := (zJ2 c1.1).symm;split at e
    ·rename_i ys hys;have hnw := qYH ho hx hys;split at e
     ·have e_ := run_ite e;clear e
      rcases e_ with ⟨z, e⟩ | ⟨z, e⟩
      ·refine ⟨_, _, ?_, ⟨.refl _, ho, hb⟩, e⟩;simp only [yE, hel, zFG, hs, SV.enc, fvv];rw [hw, hnw];simp only [z, cond_true]
      ·have e_ := run_ite e;clear e
       rcases e_ with ⟨z2, e⟩ | ⟨z2, e⟩
       ·have hn := xU (k := k) (f := fun v => .list el true v v t ([] ++ ys)) ho ⟨rfl, rfl, by rw [hs]; exact congrArg some hw, by omega⟩;refine ⟨_, _, ?_, ⟨hn.1, hn.2, qFZ (xs := []) rfl rfl⟩, e⟩;simp only [yE, hel, zFG, hs, SV.enc, fvv];rw [hw, hnw];simp only [z, cond_false];exact qGI (xs := []) z2 c1.2
       ·cases e
     ·rename_i j g n;split at e
      ·rename_i el' gr g' w u xs0 hk;have e_ := qG e;clear e;obtain ⟨c2, e⟩ := e_;rw [zJ1] at c2;have he : el' = el := zJ2 c2.1;have hg : g = g' := zJ2 c2.2;split at e
       ·rename_i xs hxs;have hcast := mW hxs
        have hk2 : slk j h.l = some (.list el gr g w t xs) := by
         rw [hk, he, <- hg];cases hcast;rfl
        have hnl : n = xs.length := by
         simp only [SV.ok] at hb;exact hb.2 _ _ _ _ _ hk2
        have pre : ∀ z : PV × PHp, (cond (Nat.beq ys.length 0) (some (PV.own j n 0 n, qD h.l))
         (cond (Nat.ble (n + ys.length) n) (cond (Nat.beq ((ys.flatMap t.cells).map PV.f).length (ys.length * (s + 1)) && ((ys.flatMap t.cells).map PV.f).all eH) (some (PV.own j n 0 (n + ys.length), kQ j { (SO.list el gr g w t xs).enc with cs := kL (SO.list el gr g w t xs).enc.cs (n * (s + 1)) ((ys.flatMap t.cells).map PV.f) } (qD h.l))) none)
           (cond gr (nA P el (s + 1) (SO.list el gr g w t xs).enc.cs n ((ys.flatMap t.cells).map PV.f) ys.length j (rV j (qD h.l))) (nA P el (s + 1) (SO.list el gr g w t xs).enc.cs n ((ys.flatMap t.cells).map PV.f) ys.length k (qD h.l))))) = some z ->
         yE P [st, xt] (SV.own j g n).enc x.enc k (qD h.l) = some z := fun z hz => by
         simp only [yE, hel, zFG, hs, SV.enc];rw [show rH P (s + 1) x.enc (qD h.l) = _ from (hw ▸ hnw)];simp only [y5 hk2];rw [show (SO.list el gr g w t xs).enc.el = el from rfl, show Nat.beq (n * (s + 1)) (SO.list el gr g w t xs).enc.cs.length = true by rw [qX, hw, hnl]; exact rC _];simp only [rC, zK4, cond_true];exact hz
        have e_ := run_ite e;clear e
        rcases e_ with ⟨z, e⟩ | ⟨z, e⟩
        ·refine ⟨_, _, pre _ ?_, ⟨.refl _, ho, hb⟩, e⟩;rw [z]; simp [SV.enc]
        ·have e_ := run_ite e;clear e
         rcases e_ with ⟨z2, e⟩ | ⟨z2, e⟩
         ·have hpos : Nat.ble (n + ys.length) n = false := by
           cases hq : Nat.ble (n + ys.length) n with
           | false => rfl
           | true =>
             have h0 := zKB hq;have : ys.length = 0 := by omega
             rw [this] at z;cases z
          cases hgr : gr with
          | true =>
            rw [hgr] at e;have hd := dZ (k := j) ho;have hn := xU (h := h.del j) (k := j) (f := fun v => .list el true v v t (xs ++ ys)) hd.2 ⟨rfl, rfl, by rw [hs]; exact congrArg some hw, by omega⟩;refine ⟨_, _, pre _ ?_, ⟨hd.1.trans hn.1, hn.2, qFZ (h0 := h.del j) hnl rfl⟩, e⟩;rw [z, hpos, hgr];simp only [cond_true, cond_false];rw [hw, hnl];rw [hnl] at z2;rw [show (SO.list el true g w t xs).enc.cs = (xs.flatMap t.cells).map .f from rfl, qGI z2 c1.2, <- mY];rfl
          | false =>
            rw [hgr] at e;have hn := xU (h := h) (k := k) (f := fun v => .list el true v v t (xs ++ ys)) ho ⟨rfl, rfl, by rw [hs]; exact congrArg some hw, by omega⟩;refine ⟨_, _, pre _ ?_, ⟨hn.1, hn.2, qFZ (h0 := h) hnl rfl⟩, e⟩;rw [z, hpos, hgr];simp only [cond_false];rw [hw, hnl];rw [hnl] at z2;rw [show (SO.list el false g w t xs).enc.cs = (xs.flatMap t.cells).map .f from rfl, qGI z2 c1.2];rfl
         ·cases e
       ·cases e
      ·cases e
     ·cases e
    ·cases e
   ·cases e
  ·cases e
 ·cases e
end
end Go.Sv
namespace Go.Sv
open Go.Idl
noncomputable section
variable [Gc]
variable [Yl]
variable {P : Program} {h : SH} {R : Type} {r : R}
def q9K {α : Type} (xs ys : List α) (o c : Nat) : List α := xs.take o ++ (ys.take c ++ xs.drop (o + c))
def q9Y (P : Program) (ts : List TypeId) (base x : SV) (h : SH) (K : SV -> SH -> q97 R) : q97 R := match ts with
 | [st, xt] => (match zV P st, zV P xt with
   | some el, some _ => (match szT P el, qCU P 8 el with
     | some (s + 1), some t => cond (Nat.beq t.w (s + 1)) (match qWH t x h with
       | some ys => (match base with
         | .own j g n => (match slk j h.l with
           | some (.list el' gr g' _ u xs) => cond (Nat.beq el' el && Nat.beq g g') (match qEO u t xs with
             | some xs => K (.d (.int .i64) ((Nat.min ys.length n : Nat) : Int)) (h.put j fun v => .list el gr g v t (q9K xs ys 0 (Nat.min ys.length n)))
             | none => .fail) .fail
           | _ => .fail)
         | .sl j g n o m => (match slk j h.l with
           | some (.list el' gr g' _ u xs) => cond (Nat.beq el' el && Nat.beq g g') (match qEO u t xs with
             | some xs => K (.d (.int .i64) ((Nat.min ys.length m : Nat) : Int)) (h.put j fun v => .list el gr g v t (q9K xs ys o (Nat.min ys.length m)))
             | none => .fail) .fail
           | _ => .fail)
         | .d (.list _ _) xs => .ite (Nat.beq (List.length xs) 0) (K (.d (.int .i64) 0) h) .fail
         | .c (.slice none 0 _) => K (.d (.int .i64) 0) h
         | _ => .fail)
       | none => .fail) .fail
     | _, _ => .fail)
   | _, _ => .fail)
 | _ => .fail
def q04 (most : Nat) (i : Int) : Option Nat := if 0 <= i ∧ i <= (most : Int) then some i.toNat else none
def qQ4 (d most : Nat) (x : Option SV) (K : Nat -> q97 R) : q97 R := match x with
 | none => K d
 | some v => (match asI v with
   | some (_, i) => .bind (q04 most i) K
   | none => .fail)
theorem wY {d most : Nat} {x : Option SV} {K : Nat -> q97 R} (e : (qQ4 d most x K).run = some r) : ∃ n, bnd d most (x.map SV.enc) = some n ∧ (n = d ∨ n <= most) ∧ (K n).run = some r := by
 unfold qQ4 at e;split at e
 ·exact ⟨d, rfl, .inl rfl, e⟩
 ·rename_i v;split at e
  ·rename_i k i hi;have e_ := run_bind e;clear e;obtain ⟨n, hn, e⟩ := e_;refine ⟨n, ?_, .inr ?_, e⟩
   ·simp only [zKD, yJ hi, fvv, bnd]; exact hn
   ·unfold q04 at hn;split at hn
    ·cases hn; omega
    ·cases hn
  ·cases e
def qTB (P : Program) (t : TypeId) (x : SV) (lo hi : Option SV) (h : SH) (K : SV -> q97 R) : q97 R := match x with
 | .d (.list el u) xs => (match zV P t, szT P el with
   | some el', some s => cond (Nat.beq el' el && Nat.beq s u.w) (qQ4 (List.length xs) (List.length xs) hi fun b => qQ4 0 b lo fun a => K (.d (.list el u) ((List.drop a xs).take (b - a)))) .fail
   | _, _ => .fail)
 | .c (.slice none 0 0) => (match zV P t with
   | some el => cond (szT P el).isSome (qQ4 0 0 hi fun _ => qQ4 0 0 lo fun _ => K x) .fail
   | none => .fail)
 | .own k g n => (match zV P t, slk k h.l with
   | some el', some (.list el _ g' _ u _) => cond (Nat.beq el' el && Nat.beq g g') (qQ4 n n hi fun b => qQ4 0 b lo fun a =>
      .ite (Nat.beq a 0) (K (.sl k g n 0 b)) (.ite (Nat.beq a b) (K (.d (.list el u) [])) (K (.sl k g n a (b - a))))) .fail
   | _, _ => .fail)
 | .sl k g n o m => (match zV P t, slk k h.l with
   | some el', some (.list el _ g' _ u _) => cond (Nat.beq el' el && Nat.beq g g') (qQ4 m m hi fun b => qQ4 0 b lo fun a =>
      .ite (Nat.beq a 0) (K (.sl k g n o b)) (.ite (Nat.beq a b) (K (.d (.list el u) [])) (K (.sl k g n (o + a) (b - a))))) .fail
   | _, _ => .fail)
 | _ => .fail
theorem qUR {t : TypeId} {x : SV} {lo hi : Option SV} {K : SV -> q97 R} (ho : OkH P h) (hx : x.ok h) (e : (qTB P t x lo hi h K).run = some r) :
 ∃ v, wT P t x.enc (lo.map SV.enc) (hi.map SV.enc) (qD h.l) = some v.enc ∧ v.ok h ∧ (K v).run = some r := by
 unfold qTB at e
 have key : ∀ {k g n o m w : Nat} {gr : Bool} {el el' : TypeId} {u : Ty} {xs : List u.sem}, slk k h.l = some (.list el gr g w u xs) -> n = xs.length -> o + m <= n -> g < h.next -> zV P t = some el' -> Nat.beq el' el = true ->
  ∀ a b, bnd m m (hi.map SV.enc) = some b -> b <= m -> bnd 0 b (lo.map SV.enc) = some a -> a <= b ->
  (q97.ite (Nat.beq a 0) (K (.sl k g n o b)) (.ite (Nat.beq a b) (K (.d (.list el u) [])) (K (.sl k g n (o + a) (b - a))))).run = some r ->
  ∃ v, wT P t (.own k n o m) (lo.map SV.enc) (hi.map SV.enc) (qD h.l) = some v.enc ∧ v.ok h ∧ (K v).run = some r := by
  intro k g n o m w gr el el' u xs hk hn hom hg hel hbe a b hb hbm ha hab e;have hl := ho.list _ _ _ _ _ _ _ hk
  have pre : wT P t (.own k n o m) (lo.map SV.enc) (hi.map SV.enc) (qD h.l) = some (cond (Nat.beq a 0) (.own k n o b) (cond (Nat.beq a b) (.f (.l el 0 [])) (.own k n (o + a) (b - a)))) := by
   simp only [wT, y5 hk, hel];rw [show (SO.list el gr g w u xs).enc.el = el from rfl, hl.2.1, hb];simp only [ha, qX, hn, rC, hbe, zK4, cond_true]
  have hsl : qYJ h k g n := ⟨hg, fun el2 gr2 w2 t2 xs2 hk2 => by
   rw [hk] at hk2;cases hk2
   exact hn⟩
  rw [pre]
  rcases run_ite e with ⟨z, e⟩ | ⟨z, e⟩
  ·exact ⟨_, by rw [z]; simp [SV.enc], by simp only [SV.ok]; exact ⟨hsl, by omega⟩, e⟩
  ·rcases run_ite e with ⟨z2, e⟩ | ⟨z2, e⟩
   ·exact ⟨_, by rw [z, z2]; simp [SV.enc, Ty.fv], by simp [SV.ok], e⟩
   ·exact ⟨_, by rw [z, z2]; simp [SV.enc], by simp only [SV.ok]; exact ⟨hsl, by omega⟩, e⟩
 split at e
 ·rename_i el u xs;split at e
  ·rename_i el' s hel hs;have e_ := qG e;clear e;obtain ⟨c1, e⟩ := e_;rw [zJ1] at c1;have hw : s = u.w := zJ2 c1.2;have he : el' = el := zJ2 c1.1;subst hw he;obtain ⟨b, hb, hb2, e1⟩ := wY e;obtain ⟨a, ha, ha2, e2⟩ := wY e1;have hbl : b <= xs.length := by rcases hb2 with q | q <;> omega
   have hab : a <= b := by rcases ha2 with q | q <;> omega
   refine ⟨_, ?_, by simp [SV.ok], e2⟩;simp only [SV.enc, Ty.fv, wT, hel, hs, hb, ha, rC, yR, zK4, cond_true];rw [aH, nK]
   cases hq : Nat.beq a b with
   | true =>
     have : a = b := zJ2 hq;subst this;simp
   | false =>
     simp only [cond_false, zLN, zMI];rw [zL2 (by omega)]
  ·cases e
 ·split at e
  ·rename_i el hel;have e_ := qG e;clear e;obtain ⟨c1, e⟩ := e_;obtain ⟨b, hb, hb2, e1⟩ := wY e;obtain ⟨a, ha, ha2, e2⟩ := wY e1;refine ⟨_, ?_, by simp [SV.ok], e2⟩;have hb' : bnd 0 0 (hi.map SV.enc) = some b := hb;simp only [SV.enc, fvv, wT, hel, hb', ha, c1, cond_true]
  ·cases e
 ·rename_i k g n;split at e
  ·rename_i el' el gr g' w u xs hel hk;have e_ := qG e;clear e;obtain ⟨c1, e⟩ := e_;rw [zJ1] at c1;have hg : g = g' := zJ2 c1.2;subst hg;obtain ⟨b, hb, hb2, e1⟩ := wY e;obtain ⟨a, ha, ha2, e2⟩ := wY e1;simp only [SV.ok] at hx;refine key hk (hx.2 _ _ _ _ _ hk) (by omega) hx.1 hel c1.1 a b hb (by rcases hb2 with q | q <;> omega) ha (by rcases ha2 with q | q <;> omega) ?_;rw [zKP]; exact e2
  ·cases e
 ·rename_i k g n o m;split at e
  ·rename_i el' el gr g' w u xs hel hk;have e_ := qG e;clear e;obtain ⟨c1, e⟩ := e_;rw [zJ1] at c1;have hg : g = g' := zJ2 c1.2;subst hg;obtain ⟨b, hb, hb2, e1⟩ := wY e;obtain ⟨a, ha, ha2, e2⟩ := wY e1;simp only [SV.ok] at hx;exact key hk (hx.1.2 _ _ _ _ _ hk) hx.2 hx.1.1 hel c1.1 a b hb (by rcases hb2 with q | q <;> omega) ha (by rcases ha2 with q | q <;> omega) e2
  ·cases e
 ·cases e
end
end Go.Sv
namespace Go.Sv
open Go.Idl
variable [Gc]
variable {P : Program} {t t2 : TypeId} {a b : ByteArray} {ph : PHp}
theorem bM {v : Value} (h3 : qI0 v = true) (h4 : ofC v = fvv v) : qUK (qA7 H00 v) = some (fvv v) := by
 unfold qA7;rw [h3];show some (ofC v) = _;rw [h4]
theorem qLN {op : BinOp} {v : Value} (h1 : zAN P (cop (.binOp op t (.const (.string a)) (.const (.string b)) t2)) op t (.string a) (.string b) [] H00 = kN P (cop (.binOp op t (.const (.string a)) (.const (.string b)) t2)) [] H00)
 (h2 : zX P (execOp (Env.val []) (cop (.binOp op t (.const (.string a)) (.const (.string b)) t2))) = some (.value v)) (h3 : qI0 v = true) (h4 : ofC v = fvv v) : wE P op t t2 (fvv (.string a)) (fvv (.string b)) ph = some (fvv v) := by
 unfold wE;simp only [fvv, pl, q7V, cond_false];show qUK (zAN P _ op t (.string a) (.string b) [] H00) = _;rw [h1];unfold kN;have : zM (kD (Env.val []) (cop (.binOp op t (.const (.string a)) (.const (.string b)) t2)).op.operands.toList) = true := rfl;rw [if_pos this, h2];exact bM h3 h4
theorem q4J (hl : a.size + b.size <= 9223372036854775807) : wE P .add t t2 (fvv (.string a)) (fvv (.string b)) ph = some (fvv (.string (a ++ b))) := by
 refine qLN rfl ?_ rfl rfl;have hm : IntKind.i64.max = 9223372036854775807 := rfl;have : ¬ (((a.size + b.size : Nat) : Int) > IntKind.i64.max) := by rw [hm]; omega
 show zX P (do eqGuard .add t (.const (.string a)) (.const (.string b)) (.string a) (.string b); let v <- Op.stringOp .add a b; pure (Next.value v)) = _;unfold Op.stringOp;simp only [this, if_false];rfl
theorem q1W : wE P .eql t t2 (fvv (.string a)) (fvv (.string b)) ph = some (fvv (.bool (a.toList == b.toList))) := qLN rfl rfl rfl rfl
theorem q2E : wE P .neq t t2 (fvv (.string a)) (fvv (.string b)) ph = some (fvv (.bool (!(a.toList == b.toList)))) := qLN rfl rfl rfl rfl
theorem dB {α β : Type} (s : Sem α) (g : α -> Sem β) : zX P (s >>= g) = (zX P s).bind fun a => zX P (g a) := kI g s
theorem dP {α : Type} (a : α) : zX P (pure a : Sem α) = some a := rfl
theorem qXD {ts : Array TypeId} (hs : qV9 P ts = true) : ∃ t, ts[0]? = some t ∧ P.underlying t = some .string := by
 unfold qV9 at hs
 cases h0 : ts[0]? with
 | none => rw [h0] at hs; cases hs
 | some t =>
   rw [h0] at hs;simp only [zKJ] at hs;split at hs
   ·rename_i hq; exact ⟨t, rfl, hq⟩
   ·cases hs
theorem q6E {t : TypeId} {ts : Array TypeId} {ty : TypeId} (h0 : ts[0]? = some t) (hu : P.underlying t = some .string) : zX P (Go.Builtin.len_ ts ty #[.string a]) = some (goInt a.size) := by
 unfold Go.Builtin.len_;simp only [h0, dB, zT, hu, zKJ, zL7, zKQ];rfl
theorem qNR {x : Operand} {ts : Array TypeId} {ty : TypeId} {env : Env} (hs : qV9 P ts = true) (hx : env.val x = .string a) :
 qUK (kN P (cop (.call ⟨.builtin .len, #[x], ts⟩) ty) env H00) = some (fvv (.int .i64 (a.size : Int))) := by
 have h2 : kD env.val (cop (.call ⟨.builtin .len, #[x], ts⟩) ty).op.operands.toList = [env.val x] := rfl;unfold kN;rw [h2];obtain ⟨t, h0, hu⟩ := qXD hs;have hp : zM [env.val x] = true := by rw [hx]; rfl
 rw [if_pos hp]
 have he : zX P (execOp env.val (cop (.call ⟨.builtin .len, #[x], ts⟩) ty)) = some (.value (goInt a.size)) := by
  simp only [cop, execOp, resolve, List.map_toArray, zKI, zMD, hx];show zX P (do let v <- Go.Builtin.len_ ts ty #[.string a]; pure (Next.value v)) = _;rw [dB, q6E h0 hu]; rfl
 rw [he];exact bM rfl rfl
def qWZ (s : ByteArray) (i : Int) : Option Int := if 0 <= i then (s[i.toNat]?).map fun b => (b.toNat : Int) else none
theorem qXY {t : TypeId} {s : ByteArray} {k : IntKind} {i c : Int} {ty : TypeId} (hu : P.underlying t = some .string) (h : qWZ s i = some c) : qLZ P (.index t (.const (.string s)) (.const (.int k i))) ty = some (fvv (.int .u8 c)) := by
 unfold qLZ kN;have hp : zM (kD (Env.val []) (cop (.index t (.const (.string s)) (.const (.int k i))) ty).op.operands.toList) = true := rfl;rw [if_pos hp]
 have he : zX P (execOp (Env.val []) (cop (.index t (.const (.string s)) (.const (.int k i))) ty)) = some (.value (.int .u8 c)) := by
  show zX P (do let v <- Instr.index t (.string s) (.int k i); pure (Next.value v)) = _;unfold qWZ at h;split at h
  ·rename_i hc;obtain ⟨b, hb, rfl⟩ := zKA.1 h;unfold Instr.index;simp only [dB, zT, hu, zKJ];have h0 : zX P (asIntOf (.int k i)) = some (k, i) := rfl;rw [h0];simp only [zKJ, if_pos hc, hb, dP]
  ·cases h
 rw [he];exact bM rfl rfl
theorem sN {k : IntKind} {i : Int} {y n : Nat} {code : BoundsCode} (h : (if 0 <= i ∧ i <= (y : Int) then some i.toNat else none) = some n) : zX P (Instr.sliceBound (.int k i) y code) = some n := by
 unfold Instr.sliceBound;rw [dB];have h0 : zX P (asIntOf (.int k i)) = some (k, i) := rfl;rw [h0];simp only [zKJ];split at h
 ·rename_i hc;rw [if_pos hc];cases h; rfl
 ·cases h
theorem qT1 {d most n : Nat} {x : Option PV} (h : bnd d most x = some n) : (x = none ∧ n = d) ∨ ∃ k i, x = some (fvv (.int k i)) ∧ (if 0 <= i ∧ i <= (most : Int) then some i.toNat else none) = some n := by
 unfold bnd at h;split at h
 ·cases h; exact .inl ⟨rfl, rfl⟩
 ·rename_i k i; exact .inr ⟨k, i, rfl, h⟩
 ·cases h
theorem qX0 {t : TypeId} {s : ByteArray} {lo hi : Option Operand} {l u : Nat} {env : List PV} {ty : TypeId} (hu : P.underlying t = some .string) (h1 : bnd s.size s.size (hi.map (qK env)) = some u) (h2 : bnd 0 u (lo.map (qK env)) = some l) :
 qLZ P (.slice t (.const (.string s)) (lo.map fun a => .const ((pl (qK env a)).getD undef)) (hi.map fun a => .const ((pl (qK env a)).getD undef)) none) ty = some (fvv (.string (s.extract l u))) := by
 have opt : ∀ {o : Option Operand} {d most n : Nat}, bnd d most (o.map (qK env)) = some n -> (o = none ∧ n = d) ∨ ∃ k i, (o.map fun a => Operand.const ((pl (qK env a)).getD undef)) = some (.const (.int k i)) ∧ (if 0 <= i ∧ i <= (most : Int) then some i.toNat else none) = some n := fun {o d most n} h => by
  rcases qT1 h with ⟨q, e⟩ | ⟨k, i, q, e⟩
  ·cases o with
   | none => exact .inl ⟨rfl, e⟩
   | some a => cases q
  ·cases o with
   | none => cases q
   | some a =>
     have q : qK env a = fvv (.int k i) := by simpa using q
     exact .inr ⟨k, i, by simp [q, fvv, pl], e⟩
 unfold qLZ kN
 have hk : ∀ (lo' hi' : Option Operand) (vl vh : Option Value), lo'.map (Env.val []) = vl -> hi'.map (Env.val []) = vh -> zM (kD (Env.val []) (cop (.slice t (.const (.string s)) lo' hi' none) ty).op.operands.toList) = true ->
  zX P (Instr.sliceBounds false s.size s.size vl vh none) = some (l, u, s.size) -> qUK (if zM (kD (Env.val []) (cop (.slice t (.const (.string s)) lo' hi' none) ty).op.operands.toList) = true then qD7 H00 (zX P (execOp (Env.val []) (cop (.slice t (.const (.string s)) lo' hi' none) ty))) else none) = some (fvv (.string (s.extract l u))) := by
  intro lo' hi' vl vh e1 e2 hp hb;rw [if_pos hp]
  have he : zX P (execOp (Env.val []) (cop (.slice t (.const (.string s)) lo' hi' none) ty)) = some (.value (.string (s.extract l u))) := by
   show zX P (do let v <- Instr.sliceAt t (.string s) (lo'.map (Env.val [])) (hi'.map (Env.val [])) none; pure (Next.value v)) = _;rw [e1, e2];unfold Instr.sliceAt;simp only [dB, zT, hu, zKJ];unfold Instr.slice;simp only [dB, zT, hu, zKJ];simp only [zOA, zLR, if_false, dB, hb, zKJ, dP]
  rw [he];exact bM rfl rfl
 have hB : ∀ (vl vh : Option Value), (vh = none ∧ u = s.size ∨ ∃ k i, vh = some (.int k i) ∧ (if 0 <= i ∧ i <= (s.size : Int) then some i.toNat else none) = some u) -> (vl = none ∧ l = 0 ∨ ∃ k i, vl = some (.int k i) ∧ (if 0 <= i ∧ i <= (u : Int) then some i.toNat else none) = some l) ->
  zX P (Instr.sliceBounds false s.size s.size vl vh none) = some (l, u, s.size) := by
  intro vl vh a b;unfold Instr.sliceBounds;rcases a with ⟨rfl, rfl⟩ | ⟨k, i, rfl, ha⟩ <;> rcases b with ⟨rfl, rfl⟩ | ⟨k', i', rfl, hb⟩ <;> simp only [dB, dP, zKJ, zOA, zLR, if_false]
  ·rw [sN hb]; rfl
  ·rw [sN ha]; rfl
  ·rw [sN ha]; simp only [zKJ]; rw [sN hb]; rfl
 rcases opt h1 with ⟨rfl, e1⟩ | ⟨k, i, e1, f1⟩ <;> rcases opt h2 with ⟨rfl, e2⟩ | ⟨k', i', e2, f2⟩
 ·exact hk none none none none rfl rfl rfl (hB _ _ (.inl ⟨rfl, e1⟩) (.inl ⟨rfl, e2⟩))
 ·rw [e2]; exact hk _ none _ none rfl rfl rfl (hB _ _ (.inl ⟨rfl, e1⟩) (.inr ⟨k', i', rfl, f2⟩))
 ·rw [e1]; exact hk none _ none _ rfl rfl rfl (hB _ _ (.inr ⟨k, i, rfl, f1⟩) (.inl ⟨rfl, e2⟩))
 ·rw [e1, e2]; exact hk _ _ _ _ rfl rfl rfl (hB _ _ (.inr ⟨k, i, rfl, f1⟩) (.inr ⟨k', i', rfl, f2⟩))
theorem q3Y {s d : TypeId} {k k' : IntKind} {x : Int} {u : TypeDesc} (hs : P.underlying s = some u) (hd : P.underlying d = some (.int k')) : fK P (fun a => .convert s d a) (fvv (.int k x)) = some (fvv (.int k' (k'.wrap x))) := by
 have hl : pl (fvv (.int k x)) = some (.int k x) := rfl;unfold fK;rw [hl];unfold qLZ kN;have hp : zM (kD (Env.val []) (cop (.convert s d (.const (.int k x)))).op.operands.toList) = true := rfl;simp only [hp, if_true]
 have he : zX P (execOp (Env.val []) (cop (.convert s d (.const (.int k x))))) = some (.value (.int k' (k'.wrap x))) := by
  show zX P (do let v <- convert s d (.int k x); pure (Next.value v)) = _;unfold convert;simp only [dB, zT, hs, hd, zKJ];rfl
 rw [he];exact bM rfl rfl
theorem qWJ {s d : TypeId} {x : ByteArray} {u : TypeDesc} (hs : P.underlying s = some u) (hd : P.underlying d = some .string) : fK P (fun a => .convert s d a) (fvv (.string x)) = some (fvv (.string x)) := by
 have hl : pl (fvv (.string x)) = some (.string x) := rfl;unfold fK;rw [hl];unfold qLZ kN;have hp : zM (kD (Env.val []) (cop (.convert s d (.const (.string x)))).op.operands.toList) = true := rfl;simp only [hp, if_true]
 have he : zX P (execOp (Env.val []) (cop (.convert s d (.const (.string x))))) = some (.value (.string x)) := by
  show zX P (do let v <- convert s d (.string x); pure (Next.value v)) = _;unfold convert;simp only [dB, zT, hs, hd, zKJ];cases u <;> rfl
 rw [he];exact bM rfl rfl
end Go.Sv
namespace Go.Sv
open Go.Idl
noncomputable section
variable [Gc]
variable [Yl]
variable {P : Program} {h : SH} {R : Type} {r : R}
def qC2 : SV -> Option Value
 | .d (.int k) x => some (.int k x)
 | .d .bool x => some (.bool x)
 | .d .str x => some (.string x)
 | .c v => some v
 | _ => none
theorem o6 {v : SV} {a : Value} (e : qC2 v = some a) : v.enc = fvv a := by
 unfold qC2 at e;split at e <;> cases e <;> simp [SV.enc, Ty.fv, fvv]
def qF1 : List SV -> Option (List Value)
 | [] => some []
 | v :: l => match qC2 v, qF1 l with
   | some a, some b => some (a :: b)
   | _, _ => none
def aI : SV -> Option Value
 | .agg l => (match qF1 l with
   | some vs => some (.agg vs.toArray)
   | none => none)
 | v => qC2 v
theorem qDV : ∀ {l : List SV} {vs : List Value}, qF1 l = some vs -> qJ4 (qB l) = some vs
 | [], vs, e => by cases e; simp [qB, qJ4]
 | v :: l, vs, e => by
   unfold qF1 at e;split at e
   ·rename_i a b ha hb;cases e;simp only [qB, o6 ha, fvv, qJ4, pl1, qDV hb]
   ·cases e
theorem vL {v : SV} {a : Value} (e : aI v = some a) : pl v.enc = some a := by
 unfold aI at e;split at e
 ·rename_i l;split at e
  ·rename_i vs hvs;cases e;simp only [SV.enc, pl, qDV hvs]
  ·cases e
 ·rw [o6 e];rfl
def q9N (op : BinOp) (a b : ByteArray) (K : SV -> q97 R) (F : q97 R) : q97 R := match op with
 | .add => .ite (Nat.ble (a.size + b.size) 9223372036854775807) (K (.d .str (a ++ b))) .fail
 | .eql => K (.d .bool (a.toList == b.toList))
 | .neq => K (.d .bool (!(a.toList == b.toList)))
 | _ => F
def qMU (P : Program) (t : TypeId) : Bool := match P.underlying t with
 | some .string => true
 | _ => false
omit [Yl] in
theorem qDW {t : TypeId} (e : qMU P t = true) : P.underlying t = some .string := by
 unfold qMU at e;split at e
 ·assumption
 ·cases e
def qL4 (P : Program) (t : TypeId) (s : ByteArray) (ix : SV) (K : SV -> q97 R) : q97 R := match asI ix with
 | some (_, i) => cond (qMU P t) (.bind (qWZ s i) fun c => K (.d (.int .u8) c)) .fail
 | none => .fail
def qUV (P : Program) (t : TypeId) (s : ByteArray) (lo hi : Option SV) (K : SV -> q97 R) : q97 R :=
 cond (qMU P t) (qQ4 s.size s.size hi fun b => qQ4 0 b lo fun a => K (.d .str (s.extract a b))) .fail
def qYU (P : Program) (s d : TypeId) (x : SV) (K : SV -> q97 R) (F : q97 R) : q97 R := match P.underlying s, P.underlying d with
 | some _, some (.int k') => (match asI x with
   | some (_, a) => K (.d (.int k') (k'.wrap a))
   | none => F)
 | some _, some .string => (match asS x with
   | some a => K (.d .str a)
   | none => F)
 | _, _ => F
def Ty.vals : (t : Ty) -> List Value -> Option (t.sem × List Value)
 | .int k, .int k' x :: l => cond (decide (k' = k)) (some (x, l)) none
 | .bool, .bool x :: l => some (x, l)
 | .str, .string x :: l => some (x, l)
 | .unit, l => some ((), l)
 | .pair a b, l => match a.vals l with
   | some (x, l1) => (match b.vals l1 with
     | some (y, l2) => some ((x, y), l2)
     | none => none)
   | none => none
 | _, _ => none
def Ty.ofV (t : Ty) (v : Value) : Option t.sem := cond t.one (match t.vals [v] with
 | some (x, []) => some x
 | _ => none) (match v with
 | .agg a => (match t.vals a.toList with
   | some (x, []) => some x
   | _ => none)
 | _ => none)
def qZQ (t : Ty) (x : t.sem) : SV := cond t.one (.d t x) (.agg (t.svs x))
omit [Yl] in
theorem qBE (t : Ty) (x : t.sem) : (qZQ t x).ok h := by
 unfold qZQ
 cases t.one with
 | true => simp [SV.ok]
 | false => simp only [cond_false, SV.ok]; exact qDB t x
omit [Yl] in
theorem qH4 : ∀ {a b : List Value}, kP okC a = true -> kP okC b = true -> kP okC (a ++ b) = true
 | [], _, _, h => h
 | x :: a, b, h1, h2 => by
   rw [xA, zJ1] at h1;rw [zLZ, xA, h1.1, qH4 h1.2 h2]; rfl
omit [Yl] in
theorem bN : ∀ {t : Ty} {l l' : List Value} {x : t.sem}, t.vals l = some (x, l') -> ∃ us, l = us ++ l' ∧ kP okC us = true ∧ kD fvv us = (t.cells x).map PV.f
 | .int k, l, l', x, e => by
   cases l with
   | nil => cases e
   | cons v l =>
     cases v <;> try (cases e; done)
     rename_i k' y;have e : cond (decide (k' = k)) (some ((y : Int), l)) none = some (x, l') := e
     cases hk : decide (k' = k) with
     | false => rw [hk] at e; cases e
     | true =>
       rw [hk] at e;cases e;have : k' = k := by simpa using hk
       subst this;exact ⟨[.int k' x], rfl, rfl, rfl⟩
 | .bool, l, l', x, e => by
   cases l with
   | nil => cases e
   | cons v l =>
     cases v <;> try (cases e; done)
     cases e;exact ⟨[.bool x], rfl, rfl, rfl⟩
 | .str, l, l', x, e => by
   cases l with
   | nil => cases e
   | cons v l =>
     cases v <;> try (cases e; done)
     cases e;exact ⟨[.string x], rfl, rfl, rfl⟩
 | .unit, l, l', x, e => by
   have e : some ((), l) = some ((), l') := by cases l <;> exact e
   cases e;exact ⟨[], rfl, rfl, rfl⟩
 | .list _ _, l, l', x, e => by cases l <;> cases e
 | .raw, l, l', x, e => by cases l <;> cases e
 | .ol _ _, l, l', x, e => by cases l <;> cases e
 | .nif, l, l', x, e => by cases l <;> cases e
 | .pair a b, l, l', x, e => by
   have e : (match a.vals l with
    | some (x, l1) => (match b.vals l1 with
      | some (y, l2) => some ((x, y), l2)
      | none => none)
    | none => none) = some (x, l') := by cases l <;> exact e
   split at e
   ·rename_i x1 l1 h1;split at e
    ·rename_i y l2 h2;cases e;obtain ⟨us, rfl, u1, u2⟩ := bN h1;obtain ⟨ws, rfl, w1, w2⟩ := bN h2;refine ⟨us ++ ws, by rw [zKY], ?_, ?_⟩
     ·exact qH4 u1 w1
     ·show _ = (a.cells x1 ++ b.cells y).map PV.f;rw [yZ] at u2 w2 ⊢;rw [zK8, zK8, u2, w2]
    ·cases e
   ·cases e
theorem oM {t : Ty} {v : Value} {x : t.sem} (e : t.ofV v = some x) : ofC v = (qZQ t x).enc := by
 unfold Ty.ofV at e;unfold qZQ
 cases ht : t.one with
 | true =>
   rw [ht] at e;simp only [cond_true] at e ⊢;split at e
   ·rename_i y hy;cases e;obtain ⟨us, h1, h2, h3⟩ := bN hy;rw [zLM] at h1;subst h1;rw [Ty.cells_one ht] at h3
    have h3 : fvv v = .f (t.fv x) := by
     have : kD fvv [v] = [fvv v] := rfl;rw [this] at h3;simpa using h3
    have h2 : okC v = true := by
     rw [xA, zJ1] at h2; exact h2.1
    have : ofC v = fvv v := by
     unfold okC at h2;rw [zJ1] at h2
     cases v <;> first | (exact absurd h2.2 (by decide)) | skip
     all_goals first | (show q15 _ = _; unfold q15 okC; simp [h2.1, h2.2]) | (simp [oneCell] at h2)
    rw [this, h3]; simp [SV.enc]
   ·cases e
 | false =>
   rw [ht] at e;simp only [cond_false] at e ⊢;split at e
   ·rename_i a;split at e
    ·rename_i y hy;cases e;obtain ⟨us, h1, h2, h3⟩ := bN hy;rw [zLM] at h1;show cond (kP okC a.toList) (PV.agg (kD fvv a.toList)) .unk = _;rw [h1, h2, h3];simp only [cond_true, SV.enc, u7]
    ·cases e
   ·cases e
def smp (x : SV) (h : SH) : Option (Nat × List (Value × Value)) := match x with
 | .mp k => (match slk k h.l with
   | some (.spc _ (.map es)) => some (k, es)
   | _ => none)
 | _ => none
omit [Yl] in
theorem uI : ∀ (n : Nat) (es : List (Value × Value)) (i : Nat), (yD n es)[i]? = (es[i]?).map fun p => (⟨p.1, p.2, n + i⟩ : MapEntry)
 | n, [], i => by simp [yD]
 | n, p :: es, 0 => by simp [yD]
 | n, p :: es, i + 1 => by
   show (yD (n + 1) es)[i]? = _;rw [uI (n + 1) es i];have : n + 1 + i = n + (i + 1) := by omega
   rw [this]; simp
omit [Yl] in
theorem qBU : ∀ (n : Nat) (es : List (Value × Value)), (yD n es).length = es.length
 | n, [] => rfl
 | n, p :: es => by
   show (yD (n + 1) es).length + 1 = _;rw [qBU, zKM]
omit [Yl] in
theorem nQ : ∀ (n : Nat) (es : List (Value × Value)) (k v : Value), yD n (es ++ [(k, v)]) = yD n es ++ [⟨k, v, n + es.length⟩]
 | n, [], k, v => rfl
 | n, p :: es, k, v => by
   show _ :: yD (n + 1) (es ++ [(k, v)]) = _;rw [nQ (n + 1) es k v];show _ = _ :: (yD (n + 1) es ++ _);rw [zKM];have : n + 1 + es.length = n + (es.length + 1) := by omega
   rw [this]
omit [Yl] in
theorem qBC (es : List (Value × Value)) (i : Nat) (k v : Value) (f : MapEntry -> MapEntry) (hf : ∀ p, es[i]? = some p -> f ⟨p.1, p.2, i⟩ = ⟨k, v, i⟩) : yD 0 (es.set i (k, v)) = (yD 0 es).modify i f := by
 apply zK9;intro j;rw [uI, zNZ, uI, zKX, zKP];by_cases hij : i = j
 ·subst hij;rw [if_pos rfl];simp only [if_true]
  cases he : es[i]? with
  | none =>
    have : ¬ i < es.length := fun hl => by rw [zJ5 hl] at he; cases he
    rw [if_neg this]; rfl
  | some p =>
    have := (zJ6.1 he).1;rw [if_pos this];simp [hf p he]
 ·rw [if_neg hij];simp only [if_neg hij];cases es[j]? <;> rfl
theorem qX9 {x : SV} {k : Nat} {es : List (Value × Value)} (hs : spec P 1000000001 = true) (e : smp x h = some (k, es)) : fF P x.enc (qD h.l) = some (k, (SpO.map es).enc, es.length, yD 0 es) ∧ ∃ w, slk k h.l = some (.spc w (.map es)) := by
 unfold smp at e;split at e
 ·rename_i k';split at e
  ·rename_i w es' hk;cases e;refine ⟨?_, w, hk⟩;simp only [SV.enc, fF, y5 hk]
   show cond (spec P 1000000001 && Nat.beq 1000000001 1000000001) (match mapOf (kR es.length (yD 0 es)) with
    | some (c, es') => some (k, (SO.spc w (SpO.map es)).enc, c, es')
    | none => none) none = _
   rw [hs, qEJ];rfl
  ·cases e
 ·cases e
def q4Z (P : Program) (kt : TypeId) (k : Value) (es : List (Value × Value)) : Option Bool := (vJ P kt k (yD 0 es)).map Option.isSome
def q2Z (P : Program) (kt : TypeId) (t : Ty) (k : Value) (es : List (Value × Value)) : Option t.sem := match vJ P kt k (yD 0 es) with
 | some (some i) => (match es[i]? with
   | some p => t.ofV p.2
   | none => none)
 | _ => none
def q2N (ok : Bool) (t : Ty) (x : t.sem) (b : Bool) : SV := cond ok (.tup [qZQ t x, .c (.bool b)]) (qZQ t x)
theorem qN2 {ok b : Bool} {t : Ty} {x : t.sem} {v : Value} (e : t.ofV v = some x) : qYQ ok v b = (q2N ok t x b).enc := by
 unfold qYQ q2N
 cases ok with
 | true => simp [oM e, SV.enc, qB]
 | false => exact oM e
omit [Yl] in
theorem qVD {ok b : Bool} {t : Ty} {x : t.sem} : (q2N ok t x b).ok h := by
 unfold q2N
 cases ok with
 | true => simp only [cond_true, SV.ok, okL, and_true]; exact qBE t x
 | false => exact qBE t x
def qL2 (P : Program) (t : TypeId) (m kx : SV) (ok : Bool) (h : SH) (K : SV -> q97 R) : q97 R := match P.underlying t, smp m h, aI kx with
 | some (.map kt et), some (_, es), some kv => (match qCU P 8 et, vZ P et with
   | some vt, some z => (match vt.ofV z with
     | some z0 => cond (spec P 1000000001 && zL z) (.bind (q4Z P kt kv es) fun b => .ite b (.bind (q2Z P kt vt kv es) fun x => K (q2N ok vt x true)) (K (q2N ok vt z0 false))) .fail
     | none => .fail)
   | _, _ => .fail)
 | _, _, _ => .fail
theorem qQT {t : TypeId} {m kx : SV} {ok : Bool} {K : SV -> q97 R} (e : (qL2 P t m kx ok h K).run = some r) : ∃ v, xY P t m.enc kx.enc ok (qD h.l) = some v.enc ∧ v.ok h ∧ (K v).run = some r := by
 unfold qL2 at e;split at e
 case h_2 => cases e
 rename_i kt et k es kv hu hm hk;split at e
 case h_2 => cases e
 rename_i vt z hvt hz;split at e
 case h_2 => cases e
 rename_i z0 hz0;obtain ⟨c, e1⟩ := qG e;rw [zJ1] at c;obtain ⟨b, hb, e2⟩ := run_bind e1;obtain ⟨h1, w, h2⟩ := qX9 c.1 hm
 have pre : xY P t m.enc kx.enc ok (qD h.l) = (match vJ P kt kv (yD 0 es) with
  | some (some i) => (match (yD 0 es)[i]? with
    | some e => some (qYQ ok e.val true)
    | none => none)
  | some none => some (qYQ ok z false)
  | none => none) := by
  unfold xY;rw [hu, h1, vL hk];simp only [hz, c.2, cond_true];rfl
 rw [pre];unfold q4Z at hb
 cases hf : vJ P kt kv (yD 0 es) with
 | none => rw [hf] at hb; cases hb
 | some o =>
   rw [hf] at hb
   cases o with
   | none =>
     cases hb;refine ⟨_, by simp only [qN2 hz0], qVD, e2⟩
   | some i =>
     cases hb;obtain ⟨x, hx, e3⟩ := run_bind (show (q97.bind (q2Z P kt vt kv es) fun x => K (q2N ok vt x true)).run = some r from e2);unfold q2Z at hx;rw [hf] at hx;simp only at hx;split at hx
     ·rename_i p hp;refine ⟨_, ?_, qVD, e3⟩;simp only [uI, hp, zKD, qN2 hx]
     ·cases hx
def qWA (P : Program) (kt : TypeId) (k v : Value) (es : List (Value × Value)) : Option (List (Value × Value)) := match vJ P kt k (yD 0 es) with
 | some (some i) => (match es[i]? with
   | some p => cond (Instr.sameBits 10000 p.1 k) (some (es.set i (k, v))) none
   | none => none)
 | some none => some (es ++ [(k, v)])
 | none => none
def oV (P : Program) (t : TypeId) (m kx x : SV) (h : SH) (K : SV -> SH -> q97 R) : q97 R := match P.underlying t, smp m h, aI kx, aI x with
 | some (.map kt _), some (k, es), some kv, some xv => cond (spec P 1000000001 && zA xv) (.bind (qWA P kt kv xv es) fun es' => K (.tup []) (h.put k fun v => .spc v (.map es'))) .fail
 | _, _, _, _ => .fail
theorem aB {k : Nat} {es es' : List (Value × Value)} {w : Nat} (ho : OkH P h) (hk : slk k h.l = some (.spc w (.map es))) : Keep h (h.put k fun v => .spc v (.map es')) ∧ OkH P (h.put k fun v => .spc v (.map es')) ∧
 qD (h.put k fun v => .spc v (.map es')).l = kQ k { (SpO.map es).enc with cs := kR es'.length (yD 0 es') } (qD h.l) := by
 have := aF (f := fun v => .spc v (.map es')) ho hk rfl;exact ⟨this.1, this.2, vK k _ _⟩
theorem qFD {t : TypeId} {m kx x : SV} {K : SV -> SH -> q97 R} (ho : OkH P h) (e : (oV P t m kx x h K).run = some r) :
 ∃ h', kZ P t m.enc kx.enc x.enc (qD h.l) = some (qD h'.l) ∧ Keep h h' ∧ OkH P h' ∧ (K (.tup []) h').run = some r := by
 unfold oV at e;split at e
 case h_2 => cases e
 rename_i kt et k es kv xv hu hm hkv hxv;obtain ⟨c, e1⟩ := qG e;rw [zJ1] at c;obtain ⟨es', hs, e2⟩ := run_bind e1;obtain ⟨h1, w, h2⟩ := qX9 c.1 hm;obtain ⟨p1, p2, p3⟩ := aB (es' := es') ho h2;refine ⟨_, ?_, p1, p2, e2⟩;unfold kZ;rw [hu, h1, vL hkv, vL hxv, p3];simp only [c.2, cond_true];unfold qWA at hs
 cases hf : vJ P kt kv (yD 0 es) with
 | none => rw [hf] at hs; cases hs
 | some o =>
   rw [hf] at hs
   cases o with
   | none =>
     cases hs;simp only [nQ, zKS, zKM, zNY, zKP]
   | some i =>
     simp only at hs ⊢;split at hs
     ·rename_i p hp
      cases hb : Instr.sameBits 10000 p.1 kv with
      | false => rw [hb] at hs; cases hs
      | true =>
        rw [hb] at hs;cases hs;simp only [uI, hp, zKD, hb, cond_true];rw [qBC es i kv xv (fun e => { e with key := kv, val := xv }) (fun _ _ => rfl), zM3]
     ·cases hs
def q9P (P : Program) (kt : TypeId) (t : Ty) (k z : Value) (es : List (Value × Value)) : Option (List (Value × Value) × Nat × t.sem) := match vJ P kt k (yD 0 es) with
 | some (some i) => (match es[i]? with
   | some p => cond (Instr.sameBits 10000 p.1 k && q43 i (vJ P kt k (yD 0 (es.set i (k, p.2))))) (match t.ofV p.2 with
     | some x => some (es.set i (k, p.2), i, x)
     | none => none) none
   | none => none)
 | some none => cond (q43 es.length (vJ P kt k (yD 0 (es ++ [(k, z)])))) (match t.ofV z with
   | some x => some (es ++ [(k, z)], es.length, x)
   | none => none) none
 | none => none
def qBY (P : Program) (t : TypeId) (m kx : SV) (h : SH) (K : SV -> SH -> q97 R) : q97 R := match P.underlying t, smp m h, aI kx with
 | some (.map kt et), some (k, es), some kv => (match qCU P 8 et, vZ P et with
   | some vt, some z => cond (spec P 1000000001 && zL z) (.bind (q9P P kt vt kv z es) fun q => K (.tup [qZQ vt q.2.2, .d (.int .i64) (q.2.1 : Int)]) (h.put k fun v => .spc v (.map q.1))) .fail
   | _, _ => .fail)
 | _, _, _ => .fail
theorem qG7 {t : TypeId} {m kx : SV} {K : SV -> SH -> q97 R} (ho : OkH P h) (e : (qBY P t m kx h K).run = some r) :
 ∃ v h', xM P t m.enc kx.enc (qD h.l) = some (v.enc, qD h'.l) ∧ Post P h h' v ∧ (K v h').run = some r := by
 unfold qBY at e;split at e
 case h_2 => cases e
 rename_i kt et k es kv hu hm hkv;split at e
 case h_2 => cases e
 rename_i vt z hvt hz;obtain ⟨c, e1⟩ := qG e;rw [zJ1] at c;obtain ⟨q, hs, e2⟩ := run_bind e1;obtain ⟨h1, w, h2⟩ := qX9 c.1 hm;obtain ⟨p1, p2, p3⟩ := aB (es' := q.1) ho h2;refine ⟨_, _, ?_, ⟨p1, p2, ?_⟩, e2⟩
 ·unfold xM;rw [hu, h1, vL hkv, p3];unfold q9P at hs
  cases hf : vJ P kt kv (yD 0 es) with
  | none => rw [hf] at hs; cases hs
  | some o =>
    rw [hf] at hs
    cases o with
    | none =>
      simp only at hs ⊢;obtain ⟨hat, hs⟩ := xP hs;split at hs
      ·rename_i x hx;cases hs
       have hat' : q43 (yD 0 es).length (vJ P kt kv (yD 0 es ++ [⟨kv, z, es.length⟩])) = true := by
        rw [nQ, zKP] at hat;rw [qBU];exact hat
       simp only [hf, hz, c.2, hat', zK4, cond_true, nQ, zKS, zKM, zNY, zKP, SV.enc, qB, oM hx, Ty.fv, fvv]
      ·cases hs
    | some i =>
      simp only at hs ⊢;split at hs
      ·rename_i p hp;obtain ⟨hb', hs⟩ := xP hs;rw [zJ1] at hb';obtain ⟨hb, hat⟩ := hb'
       ·split at hs
        ·rename_i x hx;cases hs;rw [qBC es i kv p.2 (fun e => { e with key := kv }) (fun p' hp' => by rw [hp] at hp'; cases hp'; rfl)] at hat;simp only [hf, uI, hp, zKD, hb, hat, zK4, cond_true, SV.enc, qB, oM hx, Ty.fv, fvv, zKP];rw [qBC es i kv p.2 (fun e => { e with key := kv }) (fun p' hp' => by rw [hp] at hp'; cases hp'; rfl), zM3]
        ·cases hs
      ·cases hs
 ·simp only [SV.ok, okL, and_true]; exact qBE _ _
def qON (P : Program) (k : Nat) (h : SH) (K : SV -> SH -> q97 R) : q97 R := cond (spec P 1000000001) (K (.mp k) (h.new k fun v => .spc v (.map []))) .fail
theorem qMD {k : Nat} {K : SV -> SH -> q97 R} (ho : OkH P h) (e : (qON P k h K).run = some r) : ∃ v h', bJ P k (qD h.l) = some (v.enc, qD h'.l) ∧ Post P h h' v ∧ (K v h').run = some r := by
 obtain ⟨c, e1⟩ := qG e;have hp := xU (k := k) (f := fun v => .spc v (.map [])) ho rfl;refine ⟨_, _, ?_, ⟨hp.1, hp.2, by simp [SV.ok]⟩, e1⟩;unfold bJ;rw [c];simp only [cond_true, qJ8, SV.enc];rfl
def q1D (P : Program) (ts : Array TypeId) (x : SV) (h : SH) : Option SV := match smp x h with
 | some (_, es) => cond (spec P 1000000001 && q65 P ts) (some (.d (.int .i64) ((List.length es : Nat) : Int))) none
 | none => none
theorem qYX {ts : Array TypeId} {x v : SV} (e : q1D P ts x h = some v) : qCI P ts x.enc (qD h.l) = some v.enc ∧ v.ok h := by
 unfold q1D at e;split at e
 case h_2 => cases e
 rename_i k es hm
 cases hc : (spec P 1000000001 && q65 P ts) with
 | false => rw [hc] at e; cases e
 | true =>
   rw [hc] at e;cases e;rw [zJ1] at hc;refine ⟨?_, by simp [SV.ok]⟩;unfold smp at hm;split at hm
   case h_2 => cases hm
   rename_i k';split at hm
   case h_2 => cases hm
   rename_i w es' hk;cases hm
   have h1 : rA P (SV.enc (.mp k)) (qD h.l) = some (kR es.length (yD 0 es)) := by
    simp only [SV.enc, rA, y5 hk];show cond (!false && (spec P 1000000001 && Nat.beq 1000000001 1000000001)) (some (kR es.length (yD 0 es))) none = _;rw [hc.1]; rfl
   unfold qCI;rw [h1];simp only [hc.2, cond_true, xO, qBU];have : (3 * es.length + 1) / 3 = es.length := by omega
   rw [this];simp [SV.enc, Ty.fv, fvv]
omit [Yl] in
theorem qG6 {p : Value -> Bool} : ∀ {a b : List Value}, kP p a = true -> kP p b = true -> kP p (a ++ b) = true
 | [], _, _, h => h
 | x :: a, b, h, h2 => by
   rw [zLZ, xA, zJ1];rw [xA, zJ1] at h;exact ⟨h.1, qG6 h.2 h2⟩
omit [Yl] in
theorem bA (n : Nat) : ∀ {t : Ty} {l l' : List Value} {x : t.sem}, t.vals l = some (x, l') -> ∃ us, l = us ++ l' ∧ kP (xC (n + 1)) us = true
 | .int k, l, l', x, e => by
   cases l with
   | nil => cases e
   | cons v l =>
     cases v <;> try (cases e; done)
     rename_i k' y;have e : cond (decide (k' = k)) (some ((y : Int), l)) none = some (x, l') := e
     cases hk : decide (k' = k) with
     | false => rw [hk] at e; cases e
     | true =>
       rw [hk] at e;cases e;exact ⟨[.int k' x], rfl, rfl⟩
 | .bool, l, l', x, e => by
   cases l with
   | nil => cases e
   | cons v l =>
     cases v <;> try (cases e; done)
     cases e;exact ⟨[.bool x], rfl, rfl⟩
 | .str, l, l', x, e => by
   cases l with
   | nil => cases e
   | cons v l =>
     cases v <;> try (cases e; done)
     cases e;exact ⟨[.string x], rfl, rfl⟩
 | .unit, l, l', x, e => by
   have e : some ((), l) = some ((), l') := by cases l <;> exact e
   cases e;exact ⟨[], rfl, rfl⟩
 | .list _ _, l, l', x, e => by cases l <;> cases e
 | .raw, l, l', x, e => by cases l <;> cases e
 | .ol _ _, l, l', x, e => by cases l <;> cases e
 | .nif, l, l', x, e => by cases l <;> cases e
 | .pair a b, l, l', x, e => by
   have e : (match a.vals l with
    | some (x, l1) => (match b.vals l1 with
      | some (y, l2) => some ((x, y), l2)
      | none => none)
    | none => none) = some (x, l') := by cases l <;> exact e
   split at e
   ·rename_i x1 l1 h1;split at e
    ·rename_i y l2 h2;cases e;obtain ⟨us, rfl, u1⟩ := bA n h1;obtain ⟨ws, rfl, w1⟩ := bA n h2;exact ⟨us ++ ws, by rw [zKY], qG6 u1 w1⟩
    ·cases e
   ·cases e
omit [Yl] in
theorem qUO {t : Ty} {v : Value} {x : t.sem} (e : t.ofV v = some x) : zL v = true := by
 unfold Ty.ofV at e
 cases ht : t.one with
 | true =>
   rw [ht] at e;simp only [cond_true] at e;split at e
   ·rename_i y hy;obtain ⟨us, h1, h2⟩ := bA 2 hy;rw [zLM] at h1;subst h1;rw [xA, zJ1] at h2;exact h2.1
   ·cases e
 | false =>
   rw [ht] at e;simp only [cond_false] at e;split at e
   ·rename_i a;split at e
    ·rename_i y hy;obtain ⟨us, h1, h2⟩ := bA 1 hy;rw [zLM] at h1;show kP (xC 2) a.toList = true;rw [h1]; exact h2
    ·cases e
   ·cases e
omit [Yl] in
theorem qCV : ∀ (n : Nat) (es : List (Value × Value)) (i : Nat), (yD n es).find? (·.born == n + i) = (es[i]?).map fun p => (⟨p.1, p.2, n + i⟩ : MapEntry)
 | n, [], i => by simp [yD]
 | n, p :: es, 0 => by simp [yD]
 | n, p :: es, i + 1 => by
   have h : ((⟨p.1, p.2, n⟩ : MapEntry).born == n + (i + 1)) = false := by simp
   have ih := qCV (n + 1) es i;have e : n + 1 + i = n + (i + 1) := by omega
   rw [e] at ih;show List.find? (fun x => x.born == n + (i + 1)) ((⟨p.1, p.2, n⟩ : MapEntry) :: yD (n + 1) es) = _;rw [List.find?_cons, h, ih];simp
def qZ9 (kt vt : Ty) (i : Nat) (es : List (Value × Value)) : Option (kt.sem × vt.sem) := match es[i]? with
 | some p => (match kt.ofV p.1, vt.ofV p.2 with
   | some x, some y => some (x, y)
   | _, _ => none)
 | none => none
def qT2 (P : Program) (x : SV) (h : SH) (K : SV -> SH -> q97 R) : q97 R := match x with
 | .ref k off w => (match slk k h.l with
   | some (.spc _ (.mit t j since (last + 1) _)) => (match P.underlying t, smp (.mp j) h with
     | some (.map kt vt), some (_, es) => (match qCU P 8 kt, qCU P 8 vt with
       | some kT, some vT => cond (spec P 1000000001 && (spec P 1000000002 && (Nat.beq w 4 && (Nat.beq off 0 && Nat.beq (List.length es) since)))) (.bind (qZ9 kT vT last es) fun p => K (.tup [qZQ kT p.1, qZQ vT p.2]) h) .fail
       | _, _ => .fail)
     | _, _ => .fail)
   | _ => .fail)
 | _ => .fail
theorem qV4 {x : SV} {K : SV -> SH -> q97 R} (ho : OkH P h) (e : (qT2 P x h K).run = some r) : ∃ v, qI4 P x.enc (qD h.l) = some v.enc ∧ v.ok h ∧ (K v h).run = some r := by
 unfold qT2 at e;split at e
 case h_2 => cases e
 rename_i k off w;split at e
 case h_2 => cases e
 rename_i w0 t j since last seen hk;split at e
 case h_2 => cases e
 rename_i kt vt j2 es hu hs;split at e
 case h_2 => cases e
 rename_i kT vT hkT hvT;obtain ⟨c, e1⟩ := qG e;simp only [zJ1] at c;obtain ⟨c1, c2, c3, c4, c5⟩ := c;obtain ⟨q, hq, e2⟩ := run_bind e1;obtain ⟨h1, _⟩ := qX9 c1 hs;unfold qZ9 at hq;split at hq
 case h_2 => cases hq
 rename_i p hp;split at hq
 case h_2 => cases hq
 rename_i x1 y1 hx1 hy1;cases hq;refine ⟨_, ?_, ?_, e2⟩
 ·have e3 := zJ2 c3;have e4 := zJ2 c4;subst e3 e4;simp only [SV.enc, qI4, y5 hk]
  show cond (spec P 1000000002 && (Nat.beq 1000000002 1000000002 && (Nat.beq 4 4 && Nat.beq 0 0))) (match fF P (.mp j) (qD h.l) with
   | some (_, _, c, es) => cond (Nat.beq c (since : Int).toNat && Nat.ble 1 ((last + 1 : Nat) : Int).toNat) (match es.find? (·.born == ((last + 1 : Nat) : Int).toNat - 1) with
     | some e => cond (zL e.key) (some (PV.tup [ofC e.key, ofC e.val])) none
     | none => none) none
   | none => none) none = _
  have h1 : fF P (.mp j) (qD h.l) = some (j2, (SpO.map es).enc, es.length, yD 0 es) := h1;rw [h1, c2];have hl : ((last + 1 : Nat) : Int).toNat = last + 1 := rfl;have hsi : ((since : Nat) : Int).toNat = since := rfl;have hf := qCV 0 es last;simp only [zKP] at hf;rw [hl, hsi];simp only [zOB, hf, hp, c5, zKD];rw [show Nat.ble 1 (last + 1) = true from zKW (by omega), show (Nat.beq 1000000002 1000000002) = true from rfl, show (Nat.beq 4 4) = true from rfl, show (Nat.beq 0 0) = true from rfl];simp only [zK4, cond_true, qUO hx1, oM hx1, oM hy1, qB]
 ·simp only [SV.ok, okL];exact ⟨qBE _ _, qBE _ _, trivial⟩
end
end Go.Sv
namespace Go.Sv
open Go.Idl
variable {a : Int} {b : Bool} {env : List SV} {k : IntKind} {o : Oper} {op : BinOp} {ph : PHp} {s : ByteArray} {t t2 ty : TypeId} {ts : Array TypeId} {x y : SV}
noncomputable section
variable [Gc]
variable [Yl]
variable {P : Program} {h : SH} {R : Type} {r : R}
def q1M (k : IntKind) : PV -> Option Int
 | .f (.v (.int k' x)) => cond (decide (k' = k)) (some x) none
 | _ => none
def q4K : PV -> Option Bool
 | .f (.v (.bool x)) => some x
 | _ => none
def q19 : PV -> Option ByteArray
 | .f (.v (.string x)) => some x
 | _ => none
def Ty.zGJ : (t : Ty) -> PV -> Option t.sem
 | .int k, p => q1M k p
 | .bool, p => q4K p
 | .str, p => q19 p
 | .raw, _ => none
 | .ol _ _, _ => none
 | .nif, _ => none
 | .unit, _ => none
 | .list _ _, _ => none
 | .pair _ _, _ => none
omit [Yl] in
theorem q3C : ∀ {t : Ty} {p : PV} {x : t.sem}, t.zGJ p = some x -> p = .f (t.fv x)
 | .int k, p, x, e => by
   have e1 : q1M k p = some x := e;clear e;unfold q1M at e1;split at e1
   ·rename_i k' y;have e := e1;clear e1
    cases hk : decide (k' = k) with
    | false => rw [hk] at e; cases e
    | true =>
      rw [hk] at e;cases e;have : k' = k := by simpa using hk
      subst this;rfl
   ·cases e1
 | .bool, p, x, e => by
   have e1 : q4K p = some x := e;clear e;unfold q4K at e1;split at e1
   ·cases e1; rfl
   ·cases e1
 | .str, p, x, e => by
   have e1 : q19 p = some x := e;clear e;unfold q19 at e1;split at e1
   ·cases e1; rfl
   ·cases e1
 | .unit, _, _, e => by cases e
 | .list _ _, _, _, e => by cases e
 | .pair _ _, _, _, e => by cases e
 | .raw, _, _, e => by cases e
 | .ol _ _, _, _, e => by cases e
 | .nif, _, _, e => by cases e
def Ty.zDR (t : Ty) (o : Option PV) : Option t.sem := o.bind t.zGJ
theorem qNZ {t : Ty} {o : Option PV} {x : t.sem} (e : t.zDR o = some x) : o = some (SV.d t x).enc := by
 obtain ⟨p, h1, h2⟩ := zLS.1 e;rw [h1, q3C h2]; simp [SV.enc]
def sint (op : BinOp) (k : IntKind) (a b : Int) (K : SV -> q97 R) (F : q97 R) : q97 R := match op with
 | .lss => K (.d .bool (decide (a < b)))
 | .leq => K (.d .bool (decide (a <= b)))
 | .gtr => K (.d .bool (decide (b < a)))
 | .geq => K (.d .bool (decide (b <= a)))
 | .eql => K (.d .bool (a == b))
 | .neq => K (.d .bool (a != b))
 | .add => K (.d (.int k) (k.wrap (a + b)))
 | .sub => K (.d (.int k) (k.wrap (a - b)))
 | .mul => K (.d (.int k) (k.wrap (a * b)))
 | .quo => .bind (q7L k a b) fun c => K (.d (.int k) c)
 | .rem => .bind (q0V a b) fun c => K (.d (.int k) c)
 | _ => F
omit [Yl] in
theorem q1P {x y : PV} {a b : Value} (hx : pl x = some a) (hy : pl y = some b) : wE P op t t2 x y ph = wE P op t t2 (fvv a) (fvv b) [] := by
 unfold wE;rw [hx, hy];rfl
def qQ1 (P : Program) (op : BinOp) (t t2 ty : TypeId) (x y : SV) (K : SV -> q97 R) : q97 R := match aI x, aI y, qCU P 8 ty with
 | some a, some b, some u => .bind (u.zDR (wE P op t t2 (fvv a) (fvv b) [])) fun z => K (.d u z)
 | _, _, _ => .fail
def q8B (P : Program) (t : TypeId) (x y : SV) (h : SH) : Option Bool := match y with
 | .c (.slice none _ _) => cond (zV P t).isSome (match x with
   | .own k g n => (match slk k h.l with
     | some (.list _ gr g' _ _ _) => cond (Nat.beq g g') (some (gr && Nat.beq n 0)) none
     | _ => none)
   | _ => none) none
 | .c .nilFunc => cond (qVV P t) (match x with
   | .fn _ _ _ => some false
   | _ => none) none
 | _ => none
theorem qR9 (ho : OkH P h) (hx : x.ok h) (e : q8B P t x y h = some b) : qFF P t x.enc y.enc (qD h.l) = some b ∧ pl x.enc = none := by
 unfold q8B at e;split at e
 ·rename_i n c
  cases h1 : (zV P t).isSome with
  | false => rw [h1] at e; cases e
  | true =>
    rw [h1] at e;simp only [cond_true] at e;split at e
    ·rename_i k g n;split at e
     ·rename_i el gr g' w u xs hk
      cases h2 : Nat.beq g g' with
      | false => rw [h2] at e; cases e
      | true =>
        rw [h2] at e;cases e;have hg : g = g' := zJ2 h2;subst hg;simp only [SV.ok] at hx;have hn := hx.2 _ _ _ _ _ hk;have hl := ho.list _ _ _ _ _ _ _ hk;refine ⟨?_, by simp [SV.enc, pl]⟩;simp only [SV.enc, fvv, qFF, h1, cond_true, isNil, y5 hk];rw [show (SO.list el gr g w u xs).enc.el = el from rfl, hl.2.1];simp only [qX, hn, rC, cond_true];rfl
     ·cases e
    ·cases e
 ·cases h1 : qVV P t with
  | false => rw [h1] at e; cases e
  | true =>
    rw [h1] at e;simp only [cond_true] at e;split at e
    ·cases e;exact ⟨by simp [SV.enc, fvv, qFF, h1, qNB], by simp [SV.enc, pl]⟩
    ·cases e
 ·cases e
def q1S (P : Program) (t : TypeId) (x y : SV) : Option Bool := match x, y with
 | .d (.ol _ _) xs, .c (.slice none 0 0) => cond (zV P t).isSome (some (List.isEmpty xs)) none
 | _, _ => none
theorem qNI (e : q1S P t x y = some b) : wE P .eql t t2 x.enc y.enc ph = some (fvv (.bool b)) ∧ wE P .neq t t2 x.enc y.enc ph = some (fvv (.bool !b)) := by
 unfold q1S at e;split at e
 ·rename_i el k xs
  cases h1 : (zV P t).isSome with
  | false => rw [h1] at e; cases e
  | true =>
    rw [h1] at e;cases e
    cases xs with
    | nil =>
      have hn : qFF P t (fvv (.slice none 0 0)) (fvv (.slice none 0 0)) ph = some true := by simp only [qFF, fvv, h1, cond_true, isNil]
      have hv : ∀ H, VR P (fun _ => True) H (own (fun _ => 0) ph) (fvv (.slice none 0 0)) (.slice none 0 0) := fun H => .f (.v rfl rfl)
      constructor
      ·have := (qGL (op := .eql) (o := cop (.binOp .eql t (.const (.slice none 0 0)) (.const (.slice none 0 0)) t2)) (env := []) (hv H00) (hv H00) hn).1;simp only [SV.enc, Ty.fv, fvo];show wE P .eql t t2 (fvv (.slice none 0 0)) (fvv (.slice none 0 0)) ph = _;unfold wE;rw [show pl (fvv (.slice none 0 0)) = some (.slice none 0 0) from rfl];simp only [this];rfl
      ·have := (qGL (op := .neq) (o := cop (.binOp .neq t (.const (.slice none 0 0)) (.const (.slice none 0 0)) t2)) (env := []) (hv H00) (hv H00) hn).2;simp only [SV.enc, Ty.fv, fvo];show wE P .neq t t2 (fvv (.slice none 0 0)) (fvv (.slice none 0 0)) ph = _;unfold wE;rw [show pl (fvv (.slice none 0 0)) = some (.slice none 0 0) from rfl];simp only [this];rfl
    | cons x xs =>
      have hn : qFF P t (.f (fvo el k (x :: xs))) (fvv (.slice none 0 0)) ph = some false := by
       simp only [qFF, fvv, h1, cond_true, fvo, zKV, zLZ, isNil]
      constructor
      ·simp only [SV.enc, Ty.fv];show uF P t (.f (fvo el k (x :: xs))) (fvv (.slice none 0 0)) ph _ = _;unfold uF;rw [hn]; rfl
      ·simp only [SV.enc, Ty.fv];show uF P t (.f (fvo el k (x :: xs))) (fvv (.slice none 0 0)) ph _ = _;unfold uF;rw [hn]; rfl
 ·cases e
def q25 (P : Program) (t : TypeId) (x y : SV) : Option Bool := match x, y with
 | .d (.list _ u) xs, .c (.slice none 0 0) => cond ((zV P t).isSome && Nat.blt 0 u.w) (some (List.isEmpty xs)) none
 | _, _ => none
theorem rT (e : q25 P t x y = some b) :
 (b = true -> wE P .eql t t2 x.enc y.enc ph = some .bq ∧ wE P .neq t t2 x.enc y.enc ph = some .bq) ∧ (b = false -> wE P .eql t t2 x.enc y.enc ph = some (fvv (.bool false)) ∧ wE P .neq t t2 x.enc y.enc ph = some (fvv (.bool true))) := by
 unfold q25 at e;split at e
 case h_2 => cases e
 rename_i el u xs
 cases h1 : ((zV P t).isSome && Nat.blt 0 u.w) with
 | false => rw [h1] at e; cases e
 | true =>
   rw [h1] at e;cases e;rw [zJ1] at h1;obtain ⟨h1, h2⟩ := h1;have h2 : 0 < u.w := zKB h2
   cases xs with
   | nil =>
     have hq : qPR P t (.f (.l el 0 [])) (fvv (.slice none 0 0)) = some .bq := by simp only [qPR, fvv, h1, cond_true]
     have hn : qFF P t (.f (.l el 0 [])) (fvv (.slice none 0 0)) ph = none := by simp only [qFF, fvv, h1, cond_true, isNil]
     refine ⟨fun _ => ?_, fun h => (by cases h)⟩;simp only [SV.enc, Ty.fv, List.flatMap_nil, zNY];constructor
     ·show uF P t (.f (.l el 0 [])) (fvv (.slice none 0 0)) ph _ = _;unfold uF; rw [hn]; exact hq
     ·show uF P t (.f (.l el 0 [])) (fvv (.slice none 0 0)) ph _ = _;unfold uF; rw [hn]; exact hq
   | cons x xs =>
     refine ⟨fun h => (by cases h), fun _ => ?_⟩
     obtain ⟨c, cs, hcs⟩ : ∃ c cs, List.flatMap u.cells (x :: xs) = c :: cs := by
      cases hf : List.flatMap u.cells (x :: xs) with
      | nil =>
        have := congrArg List.length hf;rw [yR, zKM, zMK] at this;simp at this;omega
      | cons c cs => exact ⟨c, cs, rfl⟩
     have hn : qFF P t (.f (.l el (xs.length + 1) (c :: cs))) (fvv (.slice none 0 0)) ph = some false := by simp only [qFF, fvv, h1, cond_true, isNil]
     simp only [SV.enc, Ty.fv, hcs, zKM];constructor
     ·show uF P t (.f (.l el (xs.length + 1) (c :: cs))) (fvv (.slice none 0 0)) ph _ = _;unfold uF; rw [hn]
     ·show uF P t (.f (.l el (xs.length + 1) (c :: cs))) (fvv (.slice none 0 0)) ph _ = _;unfold uF; rw [hn]; rfl
def q3M (P : Program) (op : BinOp) (t t2 ty : TypeId) (x y : SV) (h : SH) (K : SV -> q97 R) : q97 R := match q8B P t x y h, op with
 | some b, .eql => K (.d .bool b)
 | some b, .neq => K (.d .bool (!b))
 | _, _ => qQ1 P op t t2 ty x y K
def q38 (P : Program) (op : BinOp) (t t2 ty : TypeId) (x y : SV) (h : SH) (K : SV -> q97 R) : q97 R := match q25 P t x y, op with
 | some b, .eql => .ite b (K .bq) (K (.d .bool false))
 | some b, .neq => .ite b (K .bq) (K (.d .bool true))
 | _, _ => q3M P op t t2 ty x y h K
def q8E (P : Program) (op : BinOp) (t t2 ty : TypeId) (x y : SV) (h : SH) (K : SV -> q97 R) : q97 R := match asI x, asI y with
 | some (k, a), some (k', b) => cond (decide (k = k')) (sint op k a b K (qQ1 P op t t2 ty x y K)) (qQ1 P op t t2 ty x y K)
 | _, _ => (match asS x, asS y with
   | some a, some b => q9N op a b K (qQ1 P op t t2 ty x y K)
   | _, _ => (match q1S P t x y, op with
     | some b, .eql => K (.d .bool b)
     | some b, .neq => K (.d .bool (!b))
     | _, _ => q38 P op t t2 ty x y h K))
theorem sU {K : SV -> q97 R} (e : (qQ1 P op t t2 ty x y K).run = some r) : ∃ v, wE P op t t2 x.enc y.enc (qD h.l) = some v.enc ∧ v.ok h ∧ (K v).run = some r := by
 unfold qQ1 at e;split at e
 ·rename_i a b u ha hb hu;obtain ⟨z, hz, e1⟩ := run_bind e;refine ⟨_, ?_, by simp [SV.ok], e1⟩;rw [q1P (vL ha) (vL hb)];exact qNZ hz
 ·cases e
theorem qW3 {K : SV -> q97 R} (ho : OkH P h) (hx : x.ok h) (e : (q3M P op t t2 ty x y h K).run = some r) : ∃ v, wE P op t t2 x.enc y.enc (qD h.l) = some v.enc ∧ v.ok h ∧ (K v).run = some r := by
 unfold q3M at e;split at e
 ·rename_i b hs;obtain ⟨h1, h2⟩ := qR9 ho hx hs;refine ⟨_, ?_, by simp [SV.ok], e⟩;unfold wE;rw [h2];simp [uF, h1, SV.enc, Ty.fv, fvv]
 ·rename_i b hs;obtain ⟨h1, h2⟩ := qR9 ho hx hs;refine ⟨_, ?_, by simp [SV.ok], e⟩;unfold wE;rw [h2];simp [uF, h1, SV.enc, Ty.fv, fvv]
 ·exact sU e
theorem qXJ {K : SV -> q97 R} (ho : OkH P h) (hx : x.ok h) (e : (q38 P op t t2 ty x y h K).run = some r) : ∃ v, wE P op t t2 x.enc y.enc (qD h.l) = some v.enc ∧ v.ok h ∧ (K v).run = some r := by
 unfold q38 at e;split at e
 ·rename_i b hs
  rcases run_ite e with ⟨z, e1⟩ | ⟨z, e1⟩
  ·exact ⟨.bq, by rw [((rT hs).1 z).1]; simp [SV.enc], by simp [SV.ok], e1⟩
  ·exact ⟨.d .bool false, by rw [((rT hs).2 z).1]; simp [SV.enc, Ty.fv, fvv], by simp [SV.ok], e1⟩
 ·rename_i b hs
  rcases run_ite e with ⟨z, e1⟩ | ⟨z, e1⟩
  ·exact ⟨.bq, by rw [((rT hs).1 z).2]; simp [SV.enc], by simp [SV.ok], e1⟩
  ·exact ⟨.d .bool true, by rw [((rT hs).2 z).2]; simp [SV.enc, Ty.fv, fvv], by simp [SV.ok], e1⟩
 ·exact qW3 ho hx e
theorem q2P {K : SV -> q97 R} (ho : OkH P h) (hx : x.ok h) (e : (q8E P op t t2 ty x y h K).run = some r) : ∃ v, wE P op t t2 x.enc y.enc (qD h.l) = some v.enc ∧ v.ok h ∧ (K v).run = some r := by
 unfold q8E at e;split at e
 ·rename_i k a k' b ha hb
  cases hk : decide (k = k') with
  | false => rw [hk] at e; exact sU e
  | true =>
    rw [hk] at e;have hkk : k = k' := by simpa using hk
    subst hkk;simp only [cond_true] at e;have ha' := yJ ha;have hb' := yJ hb
    have fin : ∀ {v : SV}, wE P op t t2 (fvv (.int k a)) (fvv (.int k b)) (qD h.l) = some v.enc -> v.ok h -> (K v).run = some r -> ∃ v, wE P op t t2 x.enc y.enc (qD h.l) = some v.enc ∧ v.ok h ∧ (K v).run = some r := fun h1 h2 h3 => ⟨_, by rw [ha', hb']; exact h1, h2, h3⟩
    unfold sint at e;split at e
    ·exact fin (v := .d .bool (decide (a < b))) q7D (by simp [SV.ok]) e
    ·exact fin (v := .d .bool (decide (a <= b))) q6G (by simp [SV.ok]) e
    ·exact fin (v := .d .bool (decide (b < a))) q6X (by simp [SV.ok]) e
    ·exact fin (v := .d .bool (decide (b <= a))) q5J (by simp [SV.ok]) e
    ·exact fin (v := .d .bool (a == b)) q7C (by simp [SV.ok]) e
    ·exact fin (v := .d .bool (a != b)) q6I (by simp [SV.ok]) e
    ·exact fin (v := .d (.int k) (k.wrap (a + b))) q6K (by simp [SV.ok]) e
    ·exact fin (v := .d (.int k) (k.wrap (a - b))) q5G (by simp [SV.ok]) e
    ·exact fin (v := .d (.int k) (k.wrap (a * b))) q5C (by simp [SV.ok]) e
    ·obtain ⟨c, hc, e1⟩ := run_bind e;exact fin (v := .d (.int k) c) (q63 hc) (by simp [SV.ok]) e1
    ·obtain ⟨c, hc, e1⟩ := run_bind e;exact fin (v := .d (.int k) c) (q5O hc) (by simp [SV.ok]) e1
    ·exact sU e
 ·split at e
  ·rename_i a b ha hb;have ha' := gN ha;have hb' := gN hb;unfold q9N at e;split at e
   ·rcases run_ite e with ⟨z, e1⟩ | ⟨z, e1⟩
    ·exact ⟨.d .str (a ++ b), by rw [ha', hb', q4J (zKB z)]; simp [SV.enc, Ty.fv, fvv], by simp [SV.ok], e1⟩
    ·cases e1
   ·exact ⟨.d .bool (a.toList == b.toList), by rw [ha', hb', q1W]; simp [SV.enc, Ty.fv, fvv], by simp [SV.ok], e⟩
   ·exact ⟨.d .bool (!(a.toList == b.toList)), by rw [ha', hb', q2E]; simp [SV.enc, Ty.fv, fvv], by simp [SV.ok], e⟩
   ·exact sU e
  split at e
  ·rename_i b hs;exact ⟨_, by rw [(qNI hs).1]; simp [SV.enc, Ty.fv, fvv], by simp [SV.ok], e⟩
  ·rename_i b hs;exact ⟨_, by rw [(qNI hs).2]; simp [SV.enc, Ty.fv, fvv], by simp [SV.ok], e⟩
  exact qXJ ho hx e
def qSA (P : Program) (mk : Operand -> Op) (ty : TypeId) (x : SV) (K : SV -> q97 R) : q97 R := match qC2 x, qCU P 8 ty with
 | some a, some u => .bind (u.zDR (fK P mk (fvv a))) fun z => K (.d u z)
 | _, _ => .fail
theorem qOQ {mk : Operand -> Op} {K : SV -> q97 R} (e : (qSA P mk ty x K).run = some r) : ∃ v, fK P mk x.enc = some v.enc ∧ v.ok h ∧ (K v).run = some r ∧ ∃ a, qC2 x = some a := by
 unfold qSA at e;split at e
 ·rename_i a u ha hu;obtain ⟨z, hz, e1⟩ := run_bind e;exact ⟨_, by rw [o6 ha]; exact qNZ hz, by simp [SV.ok], e1, a, ha⟩
 ·cases e
def sun (P : Program) (op : UnOp) (t ty : TypeId) (x : SV) (K : SV -> q97 R) : q97 R := match op, asI x, asB x with
 | .neg, some (k, a), _ => K (.d (.int k) (k.wrap (0 - a)))
 | .not, _, some b => K (.d .bool (!b))
 | _, _, _ => qSA P (fun a => .unOp op t a) ty x K
omit [Yl] in
theorem q1Q {x : Int} : fK P (fun a => .unOp .neg t a) (fvv (.int k x)) = some (fvv (.int k (k.wrap (0 - x)))) := rfl
theorem q7G {op : UnOp} {K : SV -> q97 R} (e : (sun P op t ty x K).run = some r) : ∃ v, fK P (fun a => .unOp op t a) x.enc = some v.enc ∧ v.ok h ∧ (K v).run = some r := by
 unfold sun at e;split at e
 ·rename_i k a ha;exact ⟨_, by rw [yJ ha, q1Q]; simp [SV.enc, Ty.fv, fvv], by simp [SV.ok], e⟩
 ·rename_i b hb;exact ⟨_, by rw [oI hb, q5Y]; simp [SV.enc, Ty.fv, fvv], by simp [SV.ok], e⟩
 ·obtain ⟨v, h1, h2, h3, _⟩ := qOQ (h := h) e;exact ⟨v, h1, h2, h3⟩
def dL (env : List SV) (l : Array Operand) : List SV := l.toList.map (xK env)
theorem aP (env : List SV) (l : Array Operand) : l.toList.map (qK (qB env)) = qB (dL env l) := by
 unfold dL;rw [qZ (l.toList.map (xK env)), zNG];exact zLC fun x _ => qO env x
omit [Yl] in
theorem aZ (ho : okL h env) (l : Array Operand) : okL h (dL env l) := yF.2 fun x hx => by
 obtain ⟨q, _, rfl⟩ := zKT.1 hx;exact pI ho _
def smm (lo : Bool) (x y : SV) (K : SV -> q97 R) : q97 R := match asI x, asI y with
 | some (k, a), some (k', b) => cond (decide (k = k')) (K (.d (.int k) (cond lo (cond (decide (b < a)) b a) (cond (decide (a < b)) b a)))) .fail
 | _, _ => .fail
omit [Yl] in
theorem dmin {x y : Operand} {b : Int} {env : Env} (hx : env.val x = .int k a) (hy : env.val y = .int k b) :
 qUK (kN P (cop (.call ⟨.builtin .min, #[x, y], ts⟩) ty) env H00) = some (fvv (.int k (if b < a then b else a))) := by
 have h2 : kD env.val (cop (.call ⟨.builtin .min, #[x, y], ts⟩) ty).op.operands.toList = [env.val x, env.val y] := rfl;unfold kN;rw [h2];simp only [cop, execOp, resolve, List.map_toArray, zKI, zMD, hx, hy];rfl
omit [Yl] in
theorem dmax {x y : Operand} {b : Int} {env : Env} (hx : env.val x = .int k a) (hy : env.val y = .int k b) :
 qUK (kN P (cop (.call ⟨.builtin .max, #[x, y], ts⟩) ty) env H00) = some (fvv (.int k (if a < b then b else a))) := by
 have h2 : kD env.val (cop (.call ⟨.builtin .max, #[x, y], ts⟩) ty).op.operands.toList = [env.val x, env.val y] := rfl;unfold kN;rw [h2];simp only [cop, execOp, resolve, List.map_toArray, zKI, zMD, hx, hy];rfl
omit [Yl] in
theorem qVL {p : Prop} [Decidable p] {α : Type} {x y : α} : cond (decide p) x y = if p then x else y := by
 by_cases h : p <;> simp [h]
theorem q0Z {lo : Bool} {c : Call} {K : SV -> q97 R} (hl : dL env c.args = [x, y]) (hc : c.callee = .builtin (cond lo .min .max)) (e : (smm lo x y K).run = some r) :
 ∃ v, vE P (cond lo .min .max) c [x.enc, y.enc] (qB env) ty (qD h.l) = some (v.enc, qD h.l) ∧ v.ok h ∧ (K v).run = some r := by
 unfold smm at e;split at e
 ·rename_i k a k' b ha hb
  cases hk : decide (k = k') with
  | false => rw [hk] at e; cases e
  | true =>
    rw [hk] at e;have : k = k' := by simpa using hk
    subst this;have e1 := yJ ha;have e2 := yJ hb;refine ⟨_, ?_, by simp [SV.ok], e⟩;obtain ⟨cal, args, ts⟩ := c;simp only at hc hl;subst hc;unfold dL at hl
    have hal : ∃ p q, args = #[p, q] ∧ xK env p = x ∧ xK env q = y := by
     obtain ⟨l⟩ := args
     match l, hl with
     | [p, q], hl => simp at hl; exact ⟨p, q, rfl, hl.1, hl.2⟩
    obtain ⟨p, q, rfl, hp, hq⟩ := hal;have vp : (qPM (qB env)).val p = .int k a := bE P (by rw [qO, hp, e1]; rfl);have vq : (qPM (qB env)).val q = .int k b := bE P (by rw [qO, hq, e2]; rfl);unfold vE;rw [e1, e2];have hpl : plL [fvv (.int k a), fvv (.int k b)] = some [.int k a, .int k b] := rfl;rw [hpl]
    cases lo with
    | true =>
      simp only [cond_true];rw [dmin vp vq, qVL];simp [pp1, SV.enc, Ty.fv, fvv]
    | false =>
      simp only [cond_false];rw [dmax vp vq, qVL];simp [pp1, SV.enc, Ty.fv, fvv]
 ·cases e
def q4T (P : Program) (ts : Array TypeId) (x : SV) (h : SH) : Option SV := match rA P x.enc (qD h.l) with
 | some _ => none
 | none => q8Y P ts x h
theorem qXE {v : SV} (ho : OkH P h) (hx : x.ok h) (e : q4T P ts x h = some v) : qCI P ts x.enc (qD h.l) = some v.enc ∧ v.ok h := by
 unfold q4T at e;split at e
 ·cases e
 ·rename_i hn;unfold qCI;rw [hn];exact q3F ho hx e
theorem qQQ {lo hi : Option Operand} {K : SV -> q97 R} (e : (qUV P t s (lo.map (xK env)) (hi.map (xK env)) K).run = some r) :
 ∃ v, qLZ P (.slice t (.const (.string s)) (lo.map fun a => .const ((pl (qK (qB env) a)).getD undef)) (hi.map fun a => .const ((pl (qK (qB env) a)).getD undef)) none) = some v.enc ∧ v.ok h ∧ (K v).run = some r ∧ (plL ((lo.toList ++ hi.toList).map (qK (qB env)))).isSome = true := by
 obtain ⟨c, e1⟩ := qG e;obtain ⟨b, hb, _, e2⟩ := wY e1;obtain ⟨a, ha, _, e3⟩ := wY e2;have m : ∀ o : Option Operand, (o.map (xK env)).map SV.enc = o.map (qK (qB env)) := fun o => by cases o <;> simp [qO]
 rw [m] at hb ha;refine ⟨.d .str (s.extract a b), by rw [qX0 (qDW c) hb ha]; simp [SV.enc, Ty.fv, fvv], by simp [SV.ok], e3, ?_⟩
 have one : ∀ {o : Option Operand} {d most n : Nat}, bnd d most (o.map (qK (qB env))) = some n -> o = none ∨ ∃ a k i, o = some a ∧ qK (qB env) a = fvv (.int k i) := fun {o d most n} h => by
  rcases qT1 h with ⟨q, _⟩ | ⟨k, i, q, _⟩
  ·cases o with
   | none => exact .inl rfl
   | some a => cases q
  ·cases o with
   | none => cases q
   | some a => exact .inr ⟨a, k, i, rfl, by simpa using q⟩
 rcases one hb with rfl | ⟨x, k, i, rfl, hx⟩ <;> rcases one ha with rfl | ⟨y, k', i', rfl, hy⟩ <;> simp_all [plL, fvv, pl]
theorem qPD {ix : SV} {K : SV -> q97 R} (e : (qL4 P t s ix K).run = some r) :
 ∃ v k i, ix.enc = fvv (.int k i) ∧ qLZ P (.index t (.const (.string s)) (.const (.int k i))) = some v.enc ∧ v.ok h ∧ (K v).run = some r := by
 unfold qL4 at e;split at e
 ·rename_i k i hi;obtain ⟨c, e1⟩ := qG e;obtain ⟨b, hb, e2⟩ := run_bind e1;exact ⟨.d (.int .u8) b, k, i, yJ hi, by rw [qXY (qDW c) hb]; simp [SV.enc, Ty.fv, fvv], by simp [SV.ok], e2⟩
 ·cases e
theorem qYS {s d : TypeId} {K : SV -> q97 R} {F : q97 R} (e : (qYU P s d x K F).run = some r) : (∃ v, fK P (fun a => .convert s d a) x.enc = some v.enc ∧ v.ok h ∧ (K v).run = some r) ∨ F.run = some r := by
 unfold qYU at e;split at e
 ·rename_i u k' hs hd;split at e
  ·rename_i k a ha;exact .inl ⟨_, by rw [yJ ha, q3Y hs hd]; simp [SV.enc, Ty.fv, fvv], by simp [SV.ok], e⟩
  ·exact .inr e
 ·rename_i u hs hd;split at e
  ·rename_i a ha;exact .inl ⟨_, by rw [gN ha, qWJ hs hd]; simp [SV.enc, Ty.fv, fvv], by simp [SV.ok], e⟩
  ·exact .inr e
 ·exact .inr e
def qH5 (env : List SV) (parts : Array (Nat × Operand)) : List (Nat × SV) := parts.toList.map fun p => (p.1, xK env p.2)
theorem qDX (env : List SV) (parts : Array (Nat × Operand)) : (parts.toList.map fun p => (p.1, qK (qB env) p.2)) = q46 (qH5 env parts) := by
 simp [qH5, q46, qO]
omit [Yl] in
theorem qH7 {env : List SV} (ho : okL h env) (parts : Array (Nat × Operand)) : ∀ p ∈ qH5 env parts, p.2.ok h := fun p hp => by
 obtain ⟨q, _, rfl⟩ := zKT.1 hp;exact pI ho _
def qV0 : Operand -> Operand -> Bool
 | .tmp i, .tmp j => Nat.beq i j
 | .const (.int k a), .const (.int k' b) => decide (k = k') && decide (a = b)
 | _, _ => false
omit [Yl] in
theorem qTZ {a b : Operand} (e : qV0 a b = true) : a = b := by
 unfold qV0 at e;split at e
 ·rw [zJ2 e]
 ·rw [zJ1] at e;have h1 := of_decide_eq_true e.1;have h2 := of_decide_eq_true e.2;rw [h1, h2]
 ·cases e
def gv (o : Option SV) (h : SH) (K : SV -> SH -> q97 R) : q97 R := match o with
 | some v => K v h
 | none => .fail
def sop (P : Program) (o : Oper) (env : List SV) (k : Nat) (h : SH) (K : SV -> SH -> q97 R) : q97 R := match o.op with
 | .move x => K (xK env x) h
 | .assign x => K (xK env x) h
 | .pick c a b => (match asB (xK env c) with
   | some t => .ite t (K (xK env a) h) (K (xK env b) h)
   | none => .fail)
 | .alloc el => qV5 P el k h K
 | .box el x => q9C P el (xK env x) k h K
 | .build t parts => gv (qRU P t (qH5 env parts)) h K
 | .buildSlice t len parts => dW P t len (qH5 env parts) k h K
 | .load t a => q17 P t (xK env a) h fun v => K v h
 | .store t a x => qVM P t (xK env a) (xK env x) h K
 | .binOp op t x y t2 => q8E P op t t2 o.type (xK env x) (xK env y) h fun v => K v h
 | .unOp op t x => sun P op t o.type (xK env x) fun v => K v h
 | .convert s d x => cond (qP2 (xK env x).enc) .fail (qYU P s d (xK env x) (fun v => K v h) (qSA P (fun a => .convert s d a) o.type (xK env x) fun v => K v h))
 | .makeFunc fn first cap => gv (qAH fn (dL env first) (dL env cap)) h K
 | .makeSlice t l c => cond (qV0 l c) (q4C P t (xK env l) k h K) .fail
 | .slice t x lo hi none => (match asS (xK env x) with
   | some s => qUV P t s (lo.map (xK env)) (hi.map (xK env)) fun v => K v h
   | none => qTB P t (xK env x) (lo.map (xK env)) (hi.map (xK env)) h fun v => K v h)
 | .fieldAddr t x i => gv (pF P t (xK env x) i h) h K
 | .indexAddr t x ix => o5 P t (xK env x) (xK env ix) h fun v => K v h
 | .index t x ix => (match asS (xK env x) with
   | some s => qL4 P t s (xK env ix) fun v => K v h
   | none => qR4 P t (xK env x) (xK env ix) fun v => K v h)
 | .extract t i => gv (qFL (xK env t) i) h K
 | .makeMap _ none => qON P k h K
 | .lookup t m kx ok => qL2 P t (xK env m) (xK env kx) ok h fun v => K v h
 | .mapUpdate t m kx x => oV P t (xK env m) (xK env kx) (xK env x) h K
 | .mapEntry t m kx => qBY P t (xK env m) (xK env kx) h K
 | .call c => (match c.callee, dL env c.args with
   | .builtin .append, [x, y] => qK8 P c.argTypes.toList x y k h K
   | .builtin .len, [x] => cond (qV9 P c.argTypes) (match asS x with
     | some s => K (.d (.int .i64) (s.size : Int)) h
     | none => .fail) (match q1D P c.argTypes x h with
     | some v => K v h
     | none => gv (q4T P c.argTypes x h) h K)
   | .builtin .min, [x, y] => smm true x y fun v => K v h
   | .builtin .max, [x, y] => smm false x y fun v => K v h
   | _, _ => .fail)
 | _ => .fail
omit [Yl] in
theorem qTI {o : Option SV} {K : SV -> SH -> q97 R} (e : (gv o h K).run = some r) : ∃ v, o = some v ∧ (K v h).run = some r := by
 unfold gv at e;split at e
 ·exact ⟨_, rfl, e⟩
 ·cases e
theorem q02 {k : Nat} {K : SV -> SH -> q97 R} (ho : OkH P h) (he : okL h env) (e : (sop P o env k h K).run = some r) :
 ∃ v h', oO P o (qB env) k (qD h.l) = some (v.enc, qD h'.l) ∧ Post P h h' v ∧ (K v h').run = some r := by
 have same : ∀ {v : SV}, v.ok h -> Post P h h v := fun hv => ⟨.refl _, ho, hv⟩
 have sv := fun x => pI (h := h) he x
 unfold sop at e;unfold oO;split at e
 ·rename_i x ho';exact ⟨_, _, by simp only [ho', qO], same (sv x), e⟩
 ·rename_i x ho';exact ⟨_, _, by simp only [ho', qO], same (sv x), e⟩
 ·rename_i c a b ho';split at e
  ·rename_i t ht;have h1 := oI ht
   rcases run_ite e with ⟨z, e1⟩ | ⟨z, e1⟩
   ·exact ⟨_, _, by simp only [ho', qO, h1, fvv, z, cond_true], same (sv a), e1⟩
   ·exact ⟨_, _, by simp only [ho', qO, h1, fvv, z, cond_false], same (sv b), e1⟩
  ·cases e
 ·rename_i el ho';rw [ho'];exact qRB ho e
 ·rename_i el x ho';rw [ho'];simp only [qO];exact q2W ho (sv x) e
 ·rename_i t parts ho';rw [ho'];obtain ⟨v, h1, h2⟩ := qTI e;have h3 := qSC (qH7 he parts) h1;exact ⟨v, h, by simp only [qDX, h3.1, pp1], same h3.2, h2⟩
 ·rename_i t len parts ho';rw [ho'];simp only [qDX];exact qCO ho (qH7 he parts) e
 ·rename_i t a ho';rw [ho'];obtain ⟨v, h1, h2, h3⟩ := qZE ho (sv a) e;exact ⟨v, h, by simp only [qO, h1, pp1], same h2, h3⟩
 ·rename_i t a x ho';rw [ho'];obtain ⟨h', h1, h2, h3, h4⟩ := qUF ho (sv a) (sv x) e;exact ⟨_, h', by simp only [qO, h1, ppS]; simp [SV.enc, qB], ⟨h2, h3, by simp [SV.ok, okL]⟩, h4⟩
 ·rename_i op t x y t2 ho';rw [ho'];obtain ⟨v, h1, h2, h3⟩ := q2P ho (sv x) e;exact ⟨v, h, by simp only [qO, h1, pp1], same h2, h3⟩
 ·rename_i op t x ho';rw [ho'];obtain ⟨v, h1, h2, h3⟩ := q7G (h := h) e;exact ⟨v, h, by simp only [qO, h1, pp1], same h2, h3⟩
 ·rename_i s d x ho';rw [ho']
  cases hp : qP2 (xK env x).enc with
  | true => rw [hp] at e; cases e
  | false =>
    rw [hp] at e;have e1 : (qYU P s d (xK env x) (fun v => K v h) (qSA P (fun a => .convert s d a) o.type (xK env x) fun v => K v h)).run = some r := e;rcases qYS (h := h) e1 with ⟨v, h1, h2, h3⟩ | e1
    ·exact ⟨v, h, by simp only [qO, hp, cond_false, h1, pp1], same h2, h3⟩
    ·obtain ⟨v, h1, h2, h3, _⟩ := qOQ (h := h) e1;exact ⟨v, h, by simp only [qO, hp, cond_false, h1, pp1], same h2, h3⟩
 ·rename_i fn first cap ho'
  rw [ho'];obtain ⟨v, h1, h2⟩ := qTI e;have h3 := qH8 (aZ he first) (aZ he cap) h1;exact ⟨v, h, by simp only [aP, h3.1, pp1], same h3.2, h2⟩
 ·rename_i t l c ho';rw [ho'];obtain ⟨h1, h2⟩ := qG e;have := qTZ h1;subst this;simp only [qO];exact qYG ho h2
 ·rename_i t x lo hi ho';rw [ho'];split at e
  ·rename_i s hs;obtain ⟨v, h1, h2, h3, h4⟩ := qQQ (h := h) e;obtain ⟨vs, hvs⟩ := zK1.1 h4;refine ⟨v, h, ?_, same h2, h3⟩;have hx : qK (qB env) x = .f (.v (.string s)) := by rw [qO]; exact gN hs
   simp only [hx, hvs, h1, pp1]
  obtain ⟨v, h1, h2, h3⟩ := qUR ho (sv x) e;refine ⟨v, h, ?_, same h2, h3⟩;have m : ∀ o : Option Operand, o.map (qK (qB env)) = (o.map (xK env)).map SV.enc := fun o => by cases o <;> simp [qO]
  simp only [qO, m]
  have ns : ∀ s, (xK env x).enc ≠ .f (.v (.string s)) := fun s hs => by
   rw [hs] at h1;simp only [wT] at h1;cases h1
  split
  ·rename_i s hs; exact absurd hs (ns s)
  ·rw [h1]; rfl
 ·rename_i t x i ho';rw [ho'];obtain ⟨v, h1, h2⟩ := qTI e;have h3 := qEL (sv x) h1;exact ⟨v, h, by simp only [qO, h3.1, pp1], same h3.2, h2⟩
 ·rename_i t x ix ho';rw [ho'];obtain ⟨v, h1, h2, h3⟩ := qF4 ho (sv x) e;exact ⟨v, h, by simp only [qO, h1, pp1], same h2, h3⟩
 ·rename_i t x ix ho';rw [ho'];split at e
  ·rename_i s hs;obtain ⟨v, k', i, h0, h1, h2, h3⟩ := qPD (h := h) e;refine ⟨v, h, ?_, same h2, h3⟩;have hx := gN hs;have hpl : pl (fvv (.int k' i)) = some (.int k' i) := rfl;simp only [qO, hx, h0, hpl];simp only [fvv, h1, pp1]
  obtain ⟨v, h1, h2, h3, l, hl⟩ := qUQ (sv x) e;refine ⟨v, h, ?_, same h2, h3⟩;simp only [qO];rw [hl] at h1 ⊢;simp only [SV.enc] at h1 ⊢;rw [h1];rfl
 ·rename_i t i ho';rw [ho'];obtain ⟨v, h1, h2⟩ := qTI e;have h3 := qKP (sv t) h1;exact ⟨v, h, by simp only [qO, h3.1, pp1], same h3.2, h2⟩
 ·rename_i ho';rw [ho'];exact qMD ho e
 ·rename_i t m kx ok ho';rw [ho'];obtain ⟨v, h1, h2, h3⟩ := qQT e;exact ⟨v, h, by simp only [qO, h1, pp1], same h2, h3⟩
 ·rename_i t m kx x ho';rw [ho'];obtain ⟨h', h1, h2, h3, h4⟩ := qFD ho e;exact ⟨_, h', by simp only [qO, h1, ppS]; simp [SV.enc, qB], ⟨h2, h3, by simp [SV.ok, okL]⟩, h4⟩
 ·rename_i t m kx ho';rw [ho'];simp only [qO];exact qG7 ho e
 ·rename_i c ho';rw [ho'];have ha := aP env c.args;have hao := aZ he c.args;split at e
  ·rename_i x y hc hl;rw [hl] at ha hao;simp only [okL] at hao;simp only [hc, ha, qB, uL];exact qQA ho hao.1 hao.2.1 e
  ·rename_i x hc hl;rw [hl] at ha hao;simp only [okL] at hao
   cases hst : qV9 P c.argTypes with
   | true =>
     rw [hst] at e;simp only [cond_true] at e;split at e
     ·rename_i s hs;refine ⟨_, h, ?_, same (by simp [SV.ok]), e⟩;obtain ⟨cal, args, ts⟩ := c;simp only at hc hl hst;subst hc
      obtain ⟨p, rfl, hp⟩ : ∃ p, args = #[p] ∧ xK env p = x := by
       unfold dL at hl;obtain ⟨l⟩ := args
       match l, hl with
       | [p], hl => simp at hl; exact ⟨p, rfl, hl⟩
      have vp : (qPM (qB env)).val p = .string s := bE P (by rw [qO, hp, gN hs]; rfl);simp only [uL, ha, qB, hst, cond_true];unfold vE;have hpl : plL [x.enc] = some [.string s] := by rw [gN hs]; rfl
      rw [hpl];simp only;rw [qNR hst vp];simp [pp1, SV.enc, Ty.fv, fvv]
     ·cases e
   | false =>
     rw [hst] at e;simp only [cond_false] at e;split at e
     ·rename_i v hv;have h3 := qYX hv;refine ⟨v, h, ?_, same h3.2, e⟩;simp only [hc, ha, qB, uL, hst, cond_false, h3.1, pp1]
     obtain ⟨v, h1, h2⟩ := qTI e;have h3 := qXE ho hao.1 h1;refine ⟨v, h, ?_, same h3.2, h2⟩;simp only [hc, ha, qB, uL, hst, cond_false, h3.1, pp1]
  ·rename_i x y hc hl;rw [hl] at ha;obtain ⟨v, h1, h2, h3⟩ := q0Z (h := h) (lo := true) (ty := o.type) hl hc e;exact ⟨v, h, by simp only [hc, ha, qB, uL]; exact h1, same h2, h3⟩
  ·rename_i x y hc hl;rw [hl] at ha;obtain ⟨v, h1, h2, h3⟩ := q0Z (h := h) (lo := false) (ty := o.type) hl hc e;exact ⟨v, h, by simp only [hc, ha, qB, uL]; exact h1, same h2, h3⟩
  ·cases e
 ·cases e
def q8H (P : Program) (o : Oper) (env : List SV) (k : Nat) (h : SH) (K : SV -> SH -> q97 R) : q97 R := match o.op with
 | .entry it => qT2 P (xK env it) h K
 | _ => sop P o env k h K
theorem q3R {k : Nat} {K : SV -> SH -> q97 R} (ho : OkH P h) (he : okL h env) (e : (q8H P o env k h K).run = some r) :
 ∃ v h', qZ6 P o (qB env) k (qD h.l) = some (v.enc, qD h'.l) ∧ Post P h h' v ∧ (K v h').run = some r := by
 unfold q8H at e;split at e
 ·rename_i it ho';obtain ⟨v, h1, h2, h3⟩ := qV4 ho e;refine ⟨v, h, ?_, ⟨.refl _, ho, h2⟩, h3⟩;unfold qZ6;rw [ho'];simp only [qO, h1, pp1]
 ·obtain ⟨v, h', h1, h2, h3⟩ := q02 ho he e;exact ⟨v, h', qUS h1, h2, h3⟩
end
end Go.Sv
namespace Go.Sv
open Go.Idl
variable {as : List SV} {el ty : TypeId} {g : FuncId} {h' : SH} {k m n o : Nat} {v : SV}
noncomputable section
variable [Gc]
variable [Yl]
variable {P : Program} {h : SH} {R : Type} {r : R} {tab : uH}
omit [Yl] in
theorem qFB : ∀ (cs : List FV) (ph : PHp) (n : Nat), qDT (fz1 P n) (cs.map .f) ph = some (cs, ph)
 | [], ph, n => rfl
 | c :: cs, ph, n => by
   have e : fz1 P n ph (.f c) = some (c, ph) := by cases n <;> rfl
   show (match fz1 P n ph (.f c) with
    | some (y, ph1) => (match qDT (fz1 P n) (cs.map .f) ph1 with
      | some (ys, ph2) => some (y :: ys, ph2)
      | none => none)
    | none => none) = _
   rw [e];simp only [qFB cs ph n]
theorem q1G {gr : Bool} {g w : Nat} {t : Ty} {xs : List t.sem} (ho : OkH P h) (hk : slk k h.l = some (.list el gr g w t xs)) (hn : n = xs.length) (hom : o + m <= n) :
 fz1 P 4 (qD h.l) (.own k n o m) = some (.l el m (((xs.drop o).take m).flatMap t.cells), qD (h.del k).l) := by
 have hl := ho.list _ _ _ _ _ _ _ hk;simp only [fz1, y5 hk];rw [show (SO.list el gr g w t xs).enc.el = el from rfl, hl.2.1];simp only [qX, hn, rC, cond_true];rw [show (SO.list el gr g w t xs).enc.cs = (xs.flatMap t.cells).map .f from rfl, <- zMF, <- zMG, aH, nK, qFB];show some _ = some (_, qD (sdl k h.l));rw [mY]
def q7R (el : TypeId) (t : Ty) (k g : Nat) (f : List t.sem -> List t.sem) (h : SH) : Option (List t.sem × SH) := match slk k h.l with
 | some (.list el' _ g' _ u xs) => cond (Nat.beq el' el && Nat.beq g g') (match qEO u t xs with
   | some xs => some (f xs, h.del k)
   | none => none) none
 | _ => none
def q9D (P : Program) (ty el : TypeId) (t : Ty) (h : SH) : Option (List t.sem × SH) := match zV P ty with
 | some el' => cond (Nat.beq el' el) (some ([], h)) none
 | none => none
def q6Z (P : Program) (ty el el' : TypeId) (k' : IntKind) (xs : List Int) : (t : Ty) -> Option (List t.sem)
 | .int k => cond (Nat.beq el' el && decide (k' = k)) (match zV P ty with
   | some e => cond (Nat.beq e el) (some xs) none
   | none => none) none
 | _ => none
def qVA (t : Ty) (v : SV) (h : SH) : Option (t.sem × SH) := match t.zEH v with
 | some x => some (x, h)
 | none => none
def qYA (P : Program) (ty : TypeId) : (t : Ty) -> SV -> SH -> Option (t.sem × SH)
 | .list el t, .own k g _, h => q7R el t k g (fun xs => xs) h
 | .list el t, .sl k g _ o m, h => q7R el t k g (fun xs => (xs.drop o).take m) h
 | .list el t, .c (.slice none 0 0), h => q9D P ty el t h
 | .list el t, .d (.ol el' k') xs, h => (match q6Z P ty el el' k' xs t with
   | some x => some (x, h)
   | none => none)
 | t, v, h => cond t.nol (qVA t v h) none
omit [Yl] in
theorem qBB : ∀ {t : Ty} {x : t.sem}, (t.one && t.nol) = true -> rt0 P ty (.f (t.fv x)) = .f (t.fv x)
 | .int _, _, _ => rfl
 | .bool, _, _ => rfl
 | .str, _, _ => rfl
 | .raw, _, _ => rfl
 | .nif, _, _ => rfl
 | .ol _ _, _, e => by cases e
 | .list _ _, _, _ => rfl
 | .unit, _, e => by cases e
 | .pair _ _, _, e => by cases e
theorem qVW {ty : TypeId} {t : Ty} {g : Nat} {f : List t.sem -> List t.sem} {x : List t.sem} (ho : OkH P h) (hs : qYJ h k g n) (hom : o + m <= n) (hf : ∀ xs : List t.sem, xs.length = n -> f xs = (xs.drop o).take m) (e : q7R el t k g f h = some (x, h')) :
 fz1 P 4 (qD h.l) (.own k n o m) = some ((Ty.list el t).fv x, qD h'.l) ∧ Keep h h' ∧ OkH P h' := by
 unfold q7R at e;split at e
 ·rename_i el' gr g' w u xs hk
  cases hc : (Nat.beq el' el && Nat.beq g g') with
  | false => rw [hc] at e; cases e
  | true =>
    rw [hc] at e;rw [zJ1] at hc;have he : el' = el := zJ2 hc.1;have hg : g = g' := zJ2 hc.2;subst he hg;simp only [cond_true] at e;split at e
    ·rename_i ys hys;cases mW hys;cases e;have hn := hs.2 _ _ _ _ _ hk;have hd := dZ (k := k) ho;refine ⟨?_, hd.1, hd.2⟩;rw [q1G ho hk hn hom, hf _ hn.symm];show some (FV.l el' m _, _) = some (FV.l el' _ _, _);rw [zLN, zMI, zL2 (by omega)]
    ·cases e
 ·cases e
theorem qOZ {t : Ty} {x : t.sem} (ho : OkH P h) (hv : v.ok h) (e : qYA P ty t v h = some (x, h')) :
 ∃ y, fz1 P 4 (qD h.l) v.enc = some (y, qD h'.l) ∧ rt0 P ty (.f y) = .f (t.fv x) ∧ (t.one && t.nol) = true ∧ Keep h h' ∧ OkH P h' := by
 unfold qYA at e;split at e
 ·rename_i el t k g n;simp only [SV.ok] at hv;obtain ⟨h1, h2, h3⟩ := qVW (ty := ty) (n := n) (o := 0) (m := n) ho hv (by omega) (fun xs hl => by rw [zMJ, <- hl, List.take_length]) e;exact ⟨_, by simp only [SV.enc]; exact h1, qBB rfl, rfl, h2, h3⟩
 ·rename_i el t k g n o m;simp only [SV.ok] at hv;obtain ⟨h1, h2, h3⟩ := qVW (ty := ty) (n := n) (o := o) (m := m) ho hv.1 hv.2 (fun xs hl => rfl) e;exact ⟨_, by simp only [SV.enc]; exact h1, qBB rfl, rfl, h2, h3⟩
 ·rename_i el t;unfold q9D at e;split at e
  ·rename_i el' hel
   cases hc : Nat.beq el' el with
   | false => rw [hc] at e; cases e
   | true =>
     rw [hc] at e;cases e;have he : el' = el := zJ2 hc;subst he;refine ⟨.v (.slice none 0 0), by simp only [SV.enc, fvv, fz1], ?_, rfl, .refl _, ho⟩
     show (match zV P ty with
      | some el => PV.f (.l el 0 [])
      | none => fvv (.slice none 0 0)) = _
     rw [hel];rfl
  ·cases e
 ·rename_i el t el' k' xs;split at e
  ·rename_i y hy;cases e;unfold q6Z at hy;split at hy
   ·rename_i k _
    cases hc : (Nat.beq el' el && decide (k' = k)) with
    | false => rw [hc] at hy; cases hy
    | true =>
      rw [hc] at hy;rw [zJ1] at hc;have h1 : el' = el := zJ2 hc.1;have h2 : k' = k := by simpa using hc.2
      subst h1 h2;simp only [cond_true] at hy;split at hy
      ·rename_i e0 he0
       cases hc2 : Nat.beq e0 el' with
       | false => rw [hc2] at hy; cases hy
       | true =>
         rw [hc2] at hy;cases hy;have h3 : e0 = el' := zJ2 hc2;subst h3;refine ⟨fvo e0 k' xs, by simp only [SV.enc]; rfl, ?_, rfl, .refl _, ho⟩
         cases xs with
         | nil =>
           show (match zV P ty with
            | some el => PV.f (.l el 0 [])
            | none => fvv (.slice none 0 0)) = _
           rw [he0];rfl
         | cons x xs => rfl
      ·cases hy
   ·cases hy
  ·cases e
 ·obtain ⟨zHU, e⟩ : t.nol = true ∧ qVA t v h = some (x, h') := by
   cases hn : t.nol with
   | true => rw [hn] at e; exact ⟨rfl, e⟩
   | false => rw [hn] at e; cases e
  unfold qVA at e;split at e
  ·rename_i y hy;cases e;obtain ⟨h1, h2⟩ := sH hy;have h3 : (t.one && t.nol) = true := by rw [h2, zHU]; rfl
   exact ⟨_, by rw [h1]; rfl, qBB h3, h3, .refl _, ho⟩
  ·cases e
def q8U (P : Program) (ty : TypeId) (t : Ty) (v : SV) (h : SH) : Option (t.sem × SH) := cond (Gc.ol ty) (qVA t v h) (qYA P ty t v h)
theorem q2A {t : Ty} {x : t.sem} (ho : OkH P h) (hv : v.ok h) (e : q8U P ty t v h = some (x, h')) :
 ∃ y, fz1 P 4 (qD h.l) v.enc = some (y, qD h'.l) ∧ rtC P ty (.f y) = .f (t.fv x) ∧ rtC P ty (.f (t.fv x)) = .f (t.fv x) ∧ t.one = true ∧ Keep h h' ∧ OkH P h' := by
 unfold q8U at e;unfold rtC
 cases hc : Gc.ol ty with
 | true =>
   rw [hc] at e;simp only [cond_true] at e ⊢;unfold qVA at e;split at e
   ·rename_i y hy;cases e;obtain ⟨h1, h2⟩ := sH hy;exact ⟨_, by rw [h1]; rfl, rfl, trivial, h2, .refl _, ho⟩
   ·cases e
 | false =>
   rw [hc] at e;simp only [cond_false] at e ⊢;obtain ⟨y, a1, a2, a3, a4, a5⟩ := qOZ ho hv e;exact ⟨y, a1, a2, qBB a3, (by rw [zJ1] at a3; exact a3.1), a4, a5⟩
def qEE (P : Program) (t : Ty) (tys : List TypeId) (l : List SV) (h : SH) : Option (t.sem × List TypeId × List SV × SH) := match tys, l with
 | ty :: tys, v :: l => (match q8U P ty t v h with
   | some (x, h') => some (x, tys, l, h')
   | none => none)
 | _, _ => none
def Ty.zC4 (P : Program) : (t : Ty) -> List TypeId -> List SV -> SH -> Option (t.sem × List TypeId × List SV × SH)
 | .unit, tys, l, h => some ((), tys, l, h)
 | .pair a b, tys, l, h => match a.zC4 P tys l h with
   | some (x, zDS, l1, h1) => (match b.zC4 P zDS l1 h1 with
     | some (y, zGK, l2, h2) => some ((x, y), zGK, l2, h2)
     | none => none)
   | none => none
 | .int k, tys, l, h => qEE P (.int k) tys l h
 | .bool, tys, l, h => qEE P .bool tys l h
 | .str, tys, l, h => qEE P .str tys l h
 | .raw, tys, l, h => qEE P .raw tys l h
 | .ol el k, tys, l, h => qEE P (.ol el k) tys l h
 | .nif, tys, l, h => qEE P .nif tys l h
 | .list el t, tys, l, h => qEE P (.list el t) tys l h
def q9M (P : Program) (t : Ty) (tys : List TypeId) (l : List SV) (h : SH) (x : t.sem) (zAO : List TypeId) (l' : List SV) (h' : SH) : Prop :=
 okL h' l' ∧ Keep h h' ∧ OkH P h' ∧ ∃ ys : List FV, (∀ zs p, qDT (fz1 P 4) (qB l') (qD h'.l) = some (zs, p) -> qDT (fz1 P 4) (qB l) (qD h.l) = some (ys ++ zs, p)) ∧
  ∀ zs : List PV, rtL (rtC P) tys (ys.map .f ++ zs) = (t.cells x).map .f ++ rtL (rtC P) zAO zs ∧ rtL (rtC P) tys ((t.cells x).map .f ++ zs) = (t.cells x).map .f ++ rtL (rtC P) zAO zs
theorem gD {t : Ty} {tys zAO : List TypeId} {l l' : List SV} {x : t.sem} (ho : OkH P h) (hl : okL h l) (e : qEE P t tys l h = some (x, zAO, l', h')) : q9M P t tys l h x zAO l' h' := by
 unfold qEE at e;split at e
 ·rename_i ty tys v l;split at e
  ·rename_i y h1 hd;cases e;simp only [okL] at hl;obtain ⟨y, a1, a2, a2', a3, a4, a5⟩ := q2A ho hl.1 hd;refine ⟨qN a4 hl.2, a4, a5, [y], fun zs p hz => ?_, fun zs => ⟨?_, ?_⟩⟩
   ·simp only [qB, qDT, a1, hz]; rfl
   ·show rtC P ty (.f y) :: rtL (rtC P) _ zs = _;rw [a2, Ty.cells_one a3]; rfl
   ·rw [Ty.cells_one a3];show rtC P ty (.f (t.fv _)) :: rtL (rtC P) _ zs = _;rw [a2']; rfl
  ·cases e
 ·cases e
theorem qB8 : ∀ {t : Ty} {tys zAO : List TypeId} {l l' : List SV} {h : SH} {x : t.sem} {h' : SH}, OkH P h -> okL h l -> t.zC4 P tys l h = some (x, zAO, l', h') -> q9M P t tys l h x zAO l' h'
 | .unit, tys, zAO, l, l', h, x, h', ho, hl, e => by
   cases e;exact ⟨hl, .refl _, ho, [], fun zs p hz => hz, fun zs => ⟨rfl, rfl⟩⟩
 | .int k, tys, zAO, l, l', h, x, h', ho, hl, e => gD ho hl e
 | .bool, tys, zAO, l, l', h, x, h', ho, hl, e => gD ho hl e
 | .str, tys, zAO, l, l', h, x, h', ho, hl, e => gD ho hl e
 | .raw, tys, zAO, l, l', h, x, h', ho, hl, e => gD ho hl e
 | .ol _ _, tys, zAO, l, l', h, x, h', ho, hl, e => gD ho hl e
 | .nif, tys, zAO, l, l', h, x, h', ho, hl, e => gD ho hl e
 | .list el t, tys, zAO, l, l', h, x, h', ho, hl, e => gD ho hl e
 | .pair a b, tys, zAO, l, l', h, x, h', ho, hl, e => by
   unfold Ty.zC4 at e;split at e
   ·rename_i x1 zDS l1 h1 hd1;split at e
    ·rename_i y zGK l2 h2 hd2;cases e;obtain ⟨a1, a2, a3, ys, a4, a5⟩ := qB8 ho hl hd1;obtain ⟨b1, b2, b3, zs, b4, b5⟩ := qB8 a3 a1 hd2;refine ⟨b1, a2.trans b2, b3, ys ++ zs, fun us p hu => ?_, fun us => ⟨?_, ?_⟩⟩
     ·rw [zKY];exact a4 _ _ (b4 _ _ hu)
     ·rw [zK8, zKY, (a5 _).1, (b5 _).1];show _ = (a.cells x1 ++ b.cells y).map PV.f ++ _;rw [zK8, zKY]
     ·show rtL (rtC P) _ ((a.cells x1 ++ b.cells y).map PV.f ++ us) = (a.cells x1 ++ b.cells y).map PV.f ++ _;rw [zK8, zKY, (a5 _).2, (b5 _).2, zKY]
    ·cases e
   ·cases e
def q1T (P : Program) (ty : TypeId) (t : Ty) (v : SV) (h : SH) : Option (t.sem × SH) := cond t.one (match v with
 | .agg _ => none
 | v => qYA P ty t v h) (match v with
 | .agg l => (match t.zC4 P (vF P 8 ty) l h with
   | some (x, _, [], h') => some (x, h')
   | _ => none)
 | _ => none)
theorem qAV {t : Ty} {x : t.sem} (ho : OkH P h) (hv : v.ok h) (e : q1T P ty t v h = some (x, h')) :
 ∃ y, fzP P (qD h.l) v.enc = some (y, qD h'.l) ∧ rt1 P ty y = t.pv x ∧ Keep h h' ∧ OkH P h' ∧ rt1 P ty (t.pv x) = t.pv x := by
 unfold q1T at e
 cases ht : t.one with
 | true =>
   rw [ht] at e;simp only [cond_true] at e;split at e
   ·cases e
   ·rename_i hna;obtain ⟨y, h1, h2, h3, h4, h5⟩ := qOZ ho hv e
    have hpv : rt1 P ty (t.pv x) = t.pv x := by
     unfold Ty.pv;rw [ht];exact qBB h3
    refine ⟨.f y, ?_, ?_, h4, h5, hpv⟩
    ·cases v with
     | agg l => exact absurd rfl (hna l)
     | opt b k o w => cases b <;> (simp only [SV.enc, fvv, fzP, cond_true, cond_false] at h1 ⊢; rw [h1])
     | _ => simp only [SV.enc, fvv, fzP] at h1 ⊢; rw [h1]
    ·show rt0 P ty (.f y) = _;rw [h2];unfold Ty.pv;rw [ht]; rfl
 | false =>
   rw [ht] at e;simp only [cond_false] at e;split at e
   ·rename_i l;split at e
    ·rename_i x1 zDS h1 hd;cases e;simp only [SV.ok] at hv;obtain ⟨a1, a2, a3, ys, a4, a5⟩ := qB8 ho hv hd
     have hpv : rt1 P ty (t.pv x) = t.pv x := by
      unfold Ty.pv;rw [ht];show PV.agg (rtL (rtC P) (vF P 8 ty) ((t.cells x).map .f)) = _;have := (a5 []).2;rw [zLM] at this;rw [this];cases zDS <;> simp [rtL]
     refine ⟨.agg (ys.map .f), ?_, ?_, a2, a3, hpv⟩
     ·have := a4 [] (qD h'.l) (by simp [qB, qDT]);simp only [SV.enc, fzP, this, zLM]
     ·show PV.agg (rtL (rtC P) (vF P 8 ty) (ys.map .f)) = _;have := (a5 []).1;rw [zLM] at this;rw [this];unfold Ty.pv;rw [ht];cases zDS <;> simp [rtL]
    ·cases e
   ·cases e
def j4 (P : Program) : List TypeId -> (ts : List Ty) -> List SV -> SH -> Option (TyL ts × SH)
 | _, [], [], h => some ((), h)
 | ty :: _, [t], [v], h => q1T P ty t v h
 | ty :: tys, t :: u :: ts, v :: vs, h => match q1T P ty t v h with
   | some (x, h1) => (match j4 P tys (u :: ts) vs h1 with
     | some (y, h2) => some ((x, y), h2)
     | none => none)
   | none => none
 | _, _, _, _ => none
theorem aY : ∀ {tys : List TypeId} {ts : List Ty} {vs : List SV} {h : SH} {x : TyL ts} {h' : SH}, OkH P h -> okL h vs -> j4 P tys ts vs h = some (x, h') ->
 ∃ ys, fzA P (qB vs) (qD h.l) = some (ys, qD h'.l) ∧ rtL (rt1 P) tys ys = pvL ts x ∧ Keep h h' ∧ OkH P h'
 | tys, [], [], h, x, h', ho, hv, e => by
   unfold j4 at e;cases e;refine ⟨[], rfl, ?_, .refl _, ho⟩;cases tys <;> rfl
 | ty :: tys, [t], [v], h, x, h', ho, hv, e => by
   unfold j4 at e;simp only [okL] at hv;obtain ⟨y, h1, h2, h3, h4, _⟩ := qAV ho hv.1 e;refine ⟨[y], ?_, ?_, h3, h4⟩
   ·simp only [qB, fzA, h1]
   ·show rt1 P ty y :: rtL (rt1 P) tys [] = [t.pv x];rw [h2];cases tys <;> rfl
 | ty :: tys, t :: u :: ts, v :: vs, h, x, h', ho, hv, e => by
   unfold j4 at e;simp only [okL] at hv;split at e
   ·rename_i x1 h1 hd;split at e
    ·rename_i y1 h2 hd2;cases e;obtain ⟨y, a1, a2, a3, a4, _⟩ := qAV ho hv.1 hd;obtain ⟨ys, b1, b2, b3, b4⟩ := aY a4 (qN a3 hv.2) hd2;refine ⟨y :: ys, ?_, ?_, a3.trans b3, b4⟩
     ·simp only [qB, fzA, a1, b1]
     ·show rt1 P ty y :: rtL (rt1 P) tys ys = t.pv x1 :: pvL (u :: ts) y1;rw [a2, b2]
    ·cases e
   ·cases e
 | [], [_], [_], _, _, _, _, _, e => by unfold j4 at e; cases e
 | [], _ :: _ :: _, _ :: _, _, _, _, _, _, e => by unfold j4 at e; cases e
 | tys, [], _ :: _, _, _, _, _, _, e => by cases tys <;> (unfold j4 at e; cases e)
 | tys, _ :: ts, [], _, _, _, _, _, e => by cases tys <;> cases ts <;> (unfold j4 at e; cases e)
 | tys, [_], _ :: _ :: _, _, _, _, _, _, e => by cases tys <;> (unfold j4 at e; cases e)
def Ty.sv (t : Ty) (x : t.sem) : SV := cond t.one (.d t x) (.agg (t.svs x))
theorem nH (t : Ty) (x : t.sem) : (t.sv x).enc = t.pv x := by
 unfold Ty.sv Ty.pv;cases t.one <;> simp [SV.enc, u7]
omit [Yl] in
theorem qIS (t : Ty) (x : t.sem) : (t.sv x).ok h := by
 unfold Ty.sv;cases t.one
 ·simp only [cond_false, SV.ok]; exact qDB t x
 ·simp [SV.ok]
def svL : (ts : List Ty) -> TyL ts -> List SV
 | [], _ => []
 | [t], x => [t.sv x]
 | t :: u :: ts, x => t.sv x.1 :: svL (u :: ts) x.2
theorem tN : ∀ (ts : List Ty) (x : TyL ts), qB (svL ts x) = pvL ts x
 | [], _ => by simp [svL, pvL, qB]
 | [t], x => by simp [svL, pvL, qB, nH]
 | t :: u :: ts, x => by
   show qB (t.sv x.1 :: svL (u :: ts) x.2) = t.pv x.1 :: pvL (u :: ts) x.2;simp only [qB, nH, tN (u :: ts)]
omit [Yl] in
theorem qA6 : ∀ (ts : List Ty) (x : TyL ts), okL h (svL ts x)
 | [], _ => by simp [svL, okL]
 | [t], x => by simp [svL, okL, qIS]
 | t :: u :: ts, x => by
   show okL h (t.sv x.1 :: svL (u :: ts) x.2);simp only [okL];exact ⟨qIS t x.1, qA6 (u :: ts) x.2⟩
def qJU (ts : List Ty) (x : TyL ts) : SV := match svL ts x with
 | [v] => v
 | vs => .tup vs
theorem qII (ts : List Ty) (x : TyL ts) : (qJU ts x).enc = j5 ts x := by
 unfold qJU j5;rw [<- tN]
 match svL ts x with
 | [] => simp [qB, qCJ, SV.enc]
 | [v] => simp [qB, qCJ]
 | a :: b :: l => simp [qB, qCJ, SV.enc]
omit [Yl] in
theorem qOX (ts : List Ty) (x : TyL ts) : (qJU ts x).ok h := by
 unfold qJU;have := qA6 (h := h) ts x;split
 ·rename_i v hv;rw [hv] at this;simp only [okL] at this;exact this.1
 ·simp only [SV.ok]; exact this
def qQU (tab : uH) (T : jE) : Prop := ∀ g ent, slT g T = some ent -> ∀ x, tab g (pvL ent.as x) = (ent.F x).map (j5 ent.rs)
def okc : FV -> Bool
 | .v (.slice _ _ _) => false
 | .v _ => true
 | .l _ _ _ => false
def _root_.Go.Sv.Ty.pln : Ty -> Bool
 | .int _ | .bool | .str | .unit | .nif => true
 | .pair a b => Go.Sv.Ty.pln a && Go.Sv.Ty.pln b
 | _ => false
omit [Yl] in
theorem nN : ∀ (t : Ty) (x : t.sem), (t.cells x).all okc = t.pln
 | .int _, _ => rfl
 | .bool, _ => rfl
 | .str, _ => rfl
 | .unit, _ => rfl
 | .nif, _ => rfl
 | .raw, _ => rfl
 | .list _ _, _ => rfl
 | .ol _ _, xs => by cases xs <;> rfl
 | .pair a b, x => by
   show (a.cells x.1 ++ b.cells x.2).all okc = (a.pln && b.pln);rw [zNF, nN a, nN b]
omit [Yl] in
theorem qTA : ∀ (cs : List FV), ((qJ4 (cs.map .f)).isSome && (cs.map PV.f).all q3X) = cs.all okc
 | [] => rfl
 | c :: cs => by
   rw [zK6, <- qTA cs, zKI, zK6]
   cases c with
   | l el n xs => rfl
   | v x =>
     have e2 : q3X (.f (.v x)) = okc (.v x) := by cases x <;> rfl
     rw [e2, show qJ4 (.f (.v x) :: cs.map .f) = (match qJ4 (cs.map .f) with
      | some vs => some (x :: vs)
      | none => none) from rfl]
     cases qJ4 (cs.map PV.f) with
     | none => simp only [zOA, Bool.false_and, Bool.and_false]
     | some vs => simp only [zM4, zOC]
omit [Yl] in
theorem qER (t : Ty) (x : t.sem) : jS (t.pv x) = t.pln ∧ ((pl (t.pv x)).isSome && qVO (t.pv x)) = t.pln := by
 unfold Ty.pv
 cases ht : t.one with
 | true =>
   simp only [cond_true];have := nN t x;rw [Ty.cells_one ht] at this;rw [<- this, zK6, List.all_nil, zME]
   cases hv : t.fv x with
   | l el n xs => exact ⟨rfl, rfl⟩
   | v y => cases y <;> exact ⟨rfl, rfl⟩
 | false =>
   simp only [cond_false];have := qTA (t.cells x);rw [nN] at this;refine ⟨this, ?_⟩;rw [<- this]
   show ((match qJ4 ((t.cells x).map .f) with
    | some vs => some (Value.agg vs.toArray)
    | none => none).isSome && ((t.cells x).map PV.f).all q3X) = _
   cases qJ4 ((t.cells x).map .f) <;> rfl
def q6V (ts : List Ty) : Bool := ts.all Ty.pln
omit [Yl] in
theorem qJH : ∀ (ts : List Ty) (x : TyL ts), ((plL (pvL ts x)).isSome && (pvL ts x).all qVO) = q6V ts
 | [], _ => rfl
 | [t], x => by
   show ((match pl (t.pv x) with
    | some v => (match plL [] with
      | some vs => some (v :: vs)
      | none => none)
    | none => none).isSome && ((t.pv x) :: []).all qVO) = (t.pln && true)
   rw [<- (qER t x).2, zK6];cases pl (t.pv x) <;> simp [plL]
 | t :: u :: ts, x => by
   show ((match pl (t.pv x.1) with
    | some v => (match plL (pvL (u :: ts) x.2) with
      | some vs => some (v :: vs)
      | none => none)
    | none => none).isSome && ((t.pv x.1) :: pvL (u :: ts) x.2).all qVO) = (t.pln && q6V (u :: ts))
   rw [<- (qER t x.1).2, <- qJH (u :: ts) x.2, zK6]
   cases pl (t.pv x.1) with
   | none => simp
   | some v => cases plL (pvL (u :: ts) x.2) with
     | none => simp
     | some vs => simp
omit [Yl] in
theorem qIY (ts : List Ty) (x : TyL ts) : jS (j5 ts x) = q6V ts := by
 unfold j5
 match ts, x with
 | [], x => rfl
 | [t], x =>
   show jS (t.pv x) = (t.pln && true);rw [(qER t x).1, zME]
 | t :: u :: ts, x =>
   have := qJH (t :: u :: ts) x;cases ts <;> exact this
def qPG (P : Program) (T : jE) (d : Bool) (g : FuncId) (as : List SV) (h : SH) (K : SV -> SH -> q97 R) : q97 R := match slT g T, P.funcs[g]? with
 | some ent, some fn => (match j4 P fn.params.toList ent.as as h with
   | some (x, h1) => .bind (ent.F x) fun y => cond d (cond (q6V ent.rs || (qB as).all qIC) (K (qJU ent.rs y) h) .fail) (K (qJU ent.rs y) (cond (q6V ent.rs) h h1))
   | none => .fail)
 | _, _ => .fail
theorem qZK {T : jE} (ht : qQU tab T) {K : SV -> SH -> q97 R} (ho : OkH P h) (ha : okL h as) (e : (qPG P T false g as h K).run = some r) :
 ∃ v h', fA P tab g (qB as) (qD h.l) = .ok v.enc (qD h'.l) ∧ Post P h h' v ∧ (K v h').run = some r := by
 unfold qPG at e;split at e
 ·rename_i ent fn hent hfn;split at e
  ·rename_i x h1 hx;obtain ⟨y, hy, e1⟩ := run_bind e;obtain ⟨ys, a1, a2, a3, a4⟩ := aY ho ha hx;have e2 : (K (qJU ent.rs y) (cond (jS (j5 ent.rs y)) h h1)).run = some r := by rw [qIY]; exact e1
   refine ⟨_, _, ?_, ⟨?_, ?_, qOX _ _⟩, e2⟩
   ·unfold fA;rw [a1];simp only;rw [show rtA P g ys = pvL ent.as x by unfold rtA; rw [hfn]; exact a2, ht g ent hent x, hy];simp only [zKD, qII];cases jS (j5 ent.rs y) <;> rfl
   ·cases jS (j5 ent.rs y)
    ·exact a3
    ·exact .refl _
   ·cases jS (j5 ent.rs y)
    ·exact a4
    ·exact ho
  ·cases e
 ·cases e
theorem qVZ {T : jE} (ht : qQU tab T) {K : SV -> SH -> q97 R} (ho : OkH P h) (ha : okL h as) (e : (qPG P T true g as h K).run = some r) :
 ∃ v h', pG P tab g (qB as) (qD h.l) = .ok v.enc (qD h'.l) ∧ Post P h h' v ∧ (K v h').run = some r := by
 unfold qPG at e;split at e
 ·rename_i ent fn hent hfn;split at e
  ·rename_i x h1 hx;obtain ⟨y, hy, e1⟩ := run_bind e;obtain ⟨ys, a1, a2, a3, a4⟩ := aY ho ha hx;obtain ⟨c, e2⟩ := qG (show (cond (jS (j5 ent.rs y) || (qB as).all qIC) (K (qJU ent.rs y) h) .fail : q97 R).run = some r by rw [qIY]; exact e1);refine ⟨_, _, ?_, ⟨.refl _, ho, qOX _ _⟩, e2⟩;unfold pG;rw [a1];simp only;rw [show rtA P g ys = pvL ent.as x by unfold rtA; rw [hfn]; exact a2, ht g ent hent x, hy];simp only [zKD, qII, c, cond_true]
  ·cases e
 ·cases e
def qBT (fv : SV) (args : List SV) : Option (FuncId × List SV) := match fv with
 | .c (.func (.func g) a c) => cond (a.toList.isEmpty && c.toList.isEmpty) (some (g, args)) none
 | .fn g first cap => some (g, first ++ (args ++ cap))
 | _ => none
theorem oW {fv : SV} {args : List SV} (hf : fv.ok h) (ha : okL h args) (e : qBT fv args = some (g, as)) : target fv.enc (qB args) = some (g, qB as) ∧ okL h as := by
 unfold qBT at e;split at e
 ·rename_i g' a c
  cases hc : (a.toList.isEmpty && c.toList.isEmpty) with
  | false => rw [hc] at e; cases e
  | true =>
    rw [hc] at e;cases e;exact ⟨by simp only [target, SV.enc, fvv, hc, cond_true], ha⟩
 ·rename_i g' first cap
  cases e;simp only [SV.ok] at hf;exact ⟨by simp only [target, SV.enc, nP], aQ hf.1 (aQ ha hf.2)⟩
 ·cases e
def q0P (P : Program) (T : jE) (d : Bool) (f : SV) (args : List SV) (h : SH) (K : SV -> SH -> q97 R) : q97 R := match qBT f args with
 | some (g, as) => qPG P T d g as h K
 | none => .fail
def qZM (P : Program) (T : jE) (d : Bool) (k : Nat) (o : Oper) (env : List SV) (h : SH) (K : SV -> SH -> q97 R) : q97 R := match o.op with
 | .call ⟨.value f, args, _⟩ => q0P P T d (xK env f) (dL env args) h K
 | _ => sop P o env k h K
def qZ2 (P : Program) (G : Nat -> Bool) (CI : CIT) : Prop := ∀ {R : Type} (nm : Nm) (f : FuncId) (as : List SV) (h : SH) (K : SV -> SH -> q97 R) (r : R), OkH P h -> okL h as -> (CI R nm f as h K).run = some r ->
 qCK P G nm f (qB as) (qD h.l) fun v p => ∃ v' h', v = v'.enc ∧ p = qD h'.l ∧ Post P h h' v' ∧ (K v' h').run = some r
def qOW (p : Nat -> Bool) (env : List SV) : List (Nat × SO) -> Bool
 | [] => true
 | (k, _) :: l => (!p k || z8 k (qB env)) && qOW p env l
theorem qH0 {p : Nat -> Bool} {env : List SV} : ∀ {l : List (Nat × SO)}, qOW p env l = true -> clean p (qB env) (qD l) = true
 | [], _ => rfl
 | (k, o) :: l, h => by
   have h : ((!p k || z8 k (qB env)) && qOW p env l) = true := h;show ((!p k || z8 k (qB env)) && clean p (qB env) (qD l)) = true;rw [zJ1] at h ⊢;exact ⟨h.1, qH0 h.2⟩
section
variable {Γ : Type}
def q0E (P : Program) (T : jE) (CI : CIT) (Y : YI Γ) (nm : Nm) (f : SV) (args : List SV) (g : Γ) (env : List SV) (h : SH) (K : Γ -> SV -> SH -> q97 R) : q97 R := match f with
 | .yv => (match j4 P Y.yt Y.ys args h with
   | some (y, h1) => .bind (Y.stp g y) fun p => K p.1 (.d .bool p.2) h1
   | none => .fail)
 | f => (match qBT f args with
   | some (t, as) => cond (slT t T).isSome (qPG P T false t as h (K g)) (CI R (qTO nm t) t as h fun v h2 => cond (qOW (qTO nm t).p env h2.l) (K g v h2) .fail)
   | none => .fail)
def q0N (P : Program) (T : jE) (CI : CIT) (Y : YI Γ) (nm : Nm) (o : Oper) (g : Γ) (env : List SV) (h : SH) (K : Γ -> SV -> SH -> q97 R) : q97 R := match o.op with
 | .call ⟨.value f, args, _⟩ => q0E P T CI Y nm (xK env f) (dL env args) g env h K
 | _ => q8H P o env (qH nm o.dst) h (K g)
def YOk (P : Program) (G : Nat -> Bool) (w : Wld Γ) (Y : YI Γ) : Prop := ∀ g y g' b, Y.stp g y = some (g', b) -> qI7 P G w Yl.l g (pvL Y.ys y) g' b
end
theorem qIU {T : jE} (ht : qQU tab T) {o : Oper} {env : List SV} {K : SV -> SH -> q97 R} (ho : OkH P h) (he : okL h env) (e : (qZM P T true k o env h K).run = some r) :
 ∃ v h', zG P tab k o (qB env) (qD h.l) = .ok v.enc (qD h'.l) ∧ Post P h h' v ∧ (K v h').run = some r := by
 unfold qZM at e;unfold zG;split at e
 ·rename_i f args ts hop;unfold q0P at e;split at e
  ·rename_i g as hst;obtain ⟨h1, h2⟩ := oW (pI he f) (aZ he args) hst;obtain ⟨v, h', a1, a2, a3⟩ := qVZ ht ho h2 e;refine ⟨v, h', ?_, a2, a3⟩;simp only [hop, qO, aP, h1];exact a1
  ·cases e
 ·rename_i hne;obtain ⟨v, h', a1, a2, a3⟩ := q02 ho he e;refine ⟨v, h', ?_, a2, a3⟩;split
  ·rename_i f args ts hop; exact absurd hop (hne f args ts)
  ·rw [a1]; rfl
end
end Go.Sv
namespace Go.Sv
open Go.Idl
variable {d : Option Tmp} {el : TypeId} {env : List SV} {h : SH} {o : Oper} {t : Nat} {v : SV}
noncomputable section
variable [Gc]
variable [Frs]
variable [Yl]
variable {P : Program} {R : Type} {r : R} {tab : uH} {G : Nat -> Bool} {nm : Nm}
omit [Yl] in
theorem zAK {Q Q' : List PV -> PHp -> Prop} (hq : ∀ e p, Q e p -> Q' e p) : ∀ {t : PT}, t.holds P G Q -> t.holds P G Q'
 | .fail, h => h.elim
 | .ret e p, h => hq e p h
 | .chk c t, h => ⟨h.1, zAK hq h.2⟩
 | .call nm g args ph k, h => by
   obtain ⟨R, h1, h2⟩ := h;exact ⟨R, h1, fun v p hr => zAK hq (h2 v p hr)⟩
 | .rnd _ _ _ _, h => h.elim
omit [Yl] in
theorem q0W (k : Nat) : ∀ (cs : List FV), z8 k (cs.map .f) = true
 | [] => by simp [z8]
 | c :: cs => by simp [z8, noK, q0W k cs]
def qLE (k : Nat) : List (Nat × SO) -> Bool
 | [] => true
 | (_, .cells _ _ l) :: r => z8 k (qB l) && qLE k r
 | (_, .list _ _ _ _ _ _) :: r => qLE k r
 | (_, .spc _ (.mit _ j _ _ _)) :: r => !(k == j) && qLE k r
 | (_, .spc _ (.map _)) :: r => qLE k r
 | (_, .spc _ (.iter _ _)) :: r => qLE k r
theorem qU2 (k : Nat) : ∀ (l : List Nat), z8 k (l.map iv) = true
 | [] => by simp [z8]
 | c :: cs => by
   show (true && z8 k (cs.map iv)) = true;rw [qU2 k cs]; rfl
theorem qWY (k j si la : Nat) (seen : List Nat) : z8 k (qS2 (.mp j) si la seen) = !(k == j) := by
 show (!(k == j) && (true && (true && (z8 k (seen.map iv) && true)))) = _;rw [qU2]; simp
theorem wB {k : Nat} : ∀ {l : List (Nat × SO)}, qLE k l = true -> fI k (qD l) = true
 | [], _ => rfl
 | (j, .cells el w l) :: r, h => by
   simp only [qLE, zJ1] at h;show (z8 k (qB l) && fI k (qD r)) = true;rw [h.1, wB h.2]; rfl
 | (j, .list el gr g w t xs) :: r, h => by
   simp only [qLE] at h;show (z8 k ((xs.flatMap t.cells).map .f) && fI k (qD r)) = true;rw [q0W, wB h]; rfl
 | (j, .spc w (.mit t i si la seen)) :: r, h => by
   simp only [qLE, zJ1] at h;show (z8 k (qS2 (.mp i) si la seen) && fI k (qD r)) = true;rw [qWY, h.1, wB h.2]; rfl
 | (j, .spc w (.map es)) :: r, h => by
   simp only [qLE] at h;show (z8 k (kR _ _) && fI k (qD r)) = true;rw [aT, wB h]; rfl
 | (j, .spc w (.iter s pos)) :: r, h => by
   simp only [qLE] at h;show (z8 k (qRR s pos) && fI k (qD r)) = true;rw [show z8 k (qRR s pos) = true from rfl, wB h]; rfl
def dM (env : List SV) (d : Option Tmp) (v : SV) : List SV := match d with
 | some t => y9 env t v
 | none => env
theorem kC (env : List SV) (t : Nat) (v : SV) : qB (y9 env t v) = y9 (qB env) t v.enc := by
 rw [zC, zC, qZ, qZ, List.map_set]
theorem jW (env : List SV) (d : Option Tmp) (v : SV) : qB (dM env d v) = yH (qB env) d v.enc := by
 cases d with
 | none => rfl
 | some t => exact kC env t v
omit [Yl] in
theorem xS (he : okL h env) (hv : v.ok h) : okL h (y9 env t v) := by
 rw [zC]
 exact yF.2 fun x hx => by
  rcases List.mem_or_eq_of_mem_set hx with q | q
  ·exact yF.1 he x q
  ·rw [q]; exact hv
omit [Yl] in
theorem wI (he : okL h env) (hv : v.ok h) : okL h (dM env d v) := by
 cases d with
 | none => exact he
 | some t => exact xS he hv
omit [Yl] in
theorem jI (env : List SV) (t : Nat) (v : SV) : (y9 env t v).length = env.length := by rw [zC, zM3]
omit [Yl] in
theorem qXO (env : List SV) (d : Option Tmp) (v : SV) : (dM env d v).length = env.length := by
 cases d with
 | none => rfl
 | some t => exact jI env t v
theorem qOA {w : SV} (h1 : zF env t = some v) (h2 : w.enc = v.enc) : qB (y9 env t w) = qB env := by
 rw [kC, zC];rw [qF] at h1;apply zK9;intro i;rw [zKX];by_cases e : t = i
 ·subst e;rw [if_pos rfl, qZ, zKG, h1, zKK, if_pos (zJ6.1 h1).1, h2];rfl
 ·rw [if_neg e]
def qM (b w : Bool) : Bool := cond w b (!b)
omit [Yl] in
theorem qNU (b w : Bool) : qM b w = (b == w) := by cases b <;> cases w <;> rfl
def qBH (ds : List (Option Tmp)) (o : Oper) (env : List SV) (Y N : List SV -> q97 R) : q97 R := match o.guard with
 | none => Y env
 | some (j, w) => (match qQF ds j with
   | none => N env
   | some t => (match zF env t with
     | none => .fail
     | some v => (match asB v with
       | some b => .ite (qM b w) (Y (y9 env t (.c (.bool w)))) (N (y9 env t (.c (.bool (!w)))))
       | none => (match v with
         | .tup [] => N env
         | _ => .fail))))
theorem o9 {ds : List (Option Tmp)} {Y N : List SV -> q97 R} (he : okL h env) (e : (qBH ds o env Y N).run = some r) :
 ∃ env', qB env' = qB env ∧ okL h env' ∧ env'.length = env.length ∧ ((jT ds o (qB env) = some true ∧ (Y env').run = some r) ∨ (jT ds o (qB env) = some false ∧ (N env').run = some r)) := by
 unfold qBH at e;unfold jT;split at e
 ·rename_i hg;exact ⟨env, rfl, he, rfl, .inl ⟨by rw [hg], e⟩⟩
 ·rename_i j w hg;rw [hg];simp only;split at e
  ·rename_i hd;exact ⟨env, rfl, he, rfl, .inr ⟨by rw [hd]; rfl, e⟩⟩
  ·rename_i t hd;rw [hd];simp only [qKC, zJ];split at e
   ·cases e
   ·rename_i v hv;rw [hv];split at e
    ·rename_i b hb;have hbe := oI hb
     rcases run_ite e with ⟨z, e1⟩ | ⟨z, e1⟩
     ·rw [qNU] at z;have : b = w := by simpa using z
      subst this;refine ⟨_, qOA hv (by rw [hbe]; simp [SV.enc]), xS he (by simp [SV.ok]), jI _ _ _, .inl ⟨?_, e1⟩⟩;simp only [zKD, hbe, qBN, z]
     ·rw [qNU] at z
      have : b = !w := by cases b <;> cases w <;> first | rfl | cases z
      refine ⟨_, qOA hv (by rw [hbe, this]; simp [SV.enc]), xS he (by simp [SV.ok]), jI _ _ _, .inr ⟨?_, e1⟩⟩;simp only [zKD, hbe, qBN, z]
    ·split at e
     ·exact ⟨env, rfl, he, rfl, .inr ⟨by simp only [zKD, SV.enc, qB]; exact qP5, e⟩⟩
     ·cases e
def qC4 (nm : Nm) (k : Nat) (env : List SV) (h : SH) : Bool := inP nm k && (z8 k (qB env) && qLE k h.l)
section
variable {Γ : Type}
def qWF (P : Program) (T : jE) (CI : CIT) (Y : YI Γ) (nm : Nm) (ds : List (Option Tmp)) : List Oper -> Γ -> List SV -> SH -> (Γ -> List SV -> SH -> q97 R) -> q97 R
 | [], g, env, h, K => K g env h
 | o :: l, g, env, h, K => qBH ds o env
    (fun env => cond (cond (needs o.op) (qC4 nm (qH nm o.dst) env h) true) (q0N P T CI Y nm o g env h fun g v h' => qWF P T CI Y nm ds l g (dM env o.dst v) h' K) .fail)
    (fun env => qWF P T CI Y nm ds l g (dM env o.dst (.tup [])) h K)
end
def Ends (P : Program) (w : List (Option Tmp)) (env : List SV) (h : SH) (env' : List SV) (h' : SH) : Prop :=
 okL h' env' ∧ OkH P h' ∧ Keep h h' ∧ (∀ i, some i ∉ w -> zF (qB env') i = zF (qB env) i) ∧ env'.length = env.length
theorem q4O {i : Nat} (h : d ≠ some i) : zF (qB (dM env d v)) i = zF (qB env) i := by
 cases d with
 | none => rfl
 | some t =>
   show zF (qB (y9 env t v)) i = _;rw [kC, zC, qF, qF, zKX, if_neg (fun e => h (by rw [e]))]
theorem Ends.step {w : List (Option Tmp)} {zAC : List SV} {h1 : SH} {env' : List SV} {h' : SH} (he : qB env = qB zAC) (hl : env.length = zAC.length) (hk : Keep h h1) (x : Ends P w (dM env o.dst v) h1 env' h') : Ends P (o.dst :: w) zAC h env' h' :=
 ⟨x.1, x.2.1, hk.trans x.2.2.1, fun i hi => by
   rw [zKN, not_or] at hi
   rw [x.2.2.2.1 i hi.2, q4O (fun e => hi.1 e.symm), he], by rw [x.2.2.2.2, qXO, hl]⟩
omit [Yl] in
theorem xV {Γ : Type} {w : Wld Γ} {Q Q' : Γ -> List PV -> PHp -> Prop} (hq : ∀ g e p, Q g e p -> Q' g e p) : ∀ {t : PT} {g : Γ}, t.zA3 P G w Q g -> t.zA3 P G w Q' g
 | .fail, _, h => h.elim
 | .ret e p, g, h => hq g e p h
 | .chk c t, g, h => ⟨h.1, xV hq h.2⟩
 | .call nm f args ph k, g, h => by
   obtain ⟨R, h1, h2⟩ := h;exact ⟨R, h1, fun v p hr => xV hq (h2 v p hr)⟩
 | .rnd l args ph k, g, h => by
   obtain ⟨zBB, tys, ph1, g', b, h1, h2, h3⟩ := h;exact ⟨zBB, tys, ph1, g', b, h1, h2, xV hq h3⟩
def qXL (T : jE) (f : FuncId) : Bool := !(slT f T).isSome
theorem qF9 {Γ : Type} {w : Wld Γ} {T : jE} {CI : CIT} {Y : YI Γ} (ht : qQU tab T) (hci : qZ2 P G CI) (hy : YOk P G w Y) {ds : List (Option Tmp)} : ∀ {l : List Oper} {g : Γ} {env : List SV} {h : SH} {K : Γ -> List SV -> SH -> q97 R}, OkH P h -> okL h env -> (qWF P T CI Y nm ds l g env h K).run = some r ->
 (pops P tab (qXL T) nm ds l (qB env) (qD h.l)).zA3 P G w (fun g e p => ∃ env' h', e = qB env' ∧ p = qD h'.l ∧ Ends P (l.map (·.dst)) env h env' h' ∧ (K g env' h').run = some r) g
 | [], g, env, h, K, ho, he, e => ⟨env, h, rfl, rfl, ⟨he, ho, .refl _, fun _ _ => rfl, rfl⟩, e⟩
 | o :: l, g, env, h, K, ho, he, e => by
   unfold qWF at e;obtain ⟨zAF, q1, q2, q3, q4⟩ := o9 he e;rw [qQ7]
   rcases q4 with ⟨hw, e1⟩ | ⟨hw, e1⟩
   ·rw [hw, qWN];obtain ⟨c, e2⟩ := qG e1
    have next : ∀ {g' : Γ} {v : SV} {h' : SH}, Post P h h' v -> (qWF P T CI Y nm ds l g' (dM zAF o.dst v) h' K).run = some r -> (pops P tab (qXL T) nm ds l (yH (qB env) o.dst v.enc) (qD h'.l)).zA3 P G w (fun g e p => ∃ env' h', e = qB env' ∧ p = qD h'.l ∧ Ends P ((o :: l).map (·.dst)) env h env' h' ∧ (K g env' h').run = some r) g' := fun {g' v h'} a2 a3 => by
     have ih := qF9 ht hci hy a2.2.1 (wI (d := o.dst) (qN a2.1 q2) a2.2.2) a3;rw [jW, q1] at ih;exact xV (fun g e p ⟨env', h', b1, b2, b3, b4⟩ => ⟨env', h', b1, b2, Ends.step q1 q3 a2.1 b3, b4⟩) ih
    have chk : ∀ {g' : Γ} {v : SV} {h' : SH}, Post P h h' v -> (qWF P T CI Y nm ds l g' (dM zAF o.dst v) h' K).run = some r -> (q42 (needs o.op) (qH nm o.dst) nm (qB env) (qD h.l) (pops P tab (qXL T) nm ds l (yH (qB env) o.dst v.enc) (qD h'.l))).zA3 P G w (fun g e p => ∃ env' h', e = qB env' ∧ p = qD h'.l ∧ Ends P ((o :: l).map (·.dst)) env h env' h' ∧ (K g env' h').run = some r) g' := fun {g' v h'} a2 a3 => by
     unfold q42
     cases hn : needs o.op with
     | false => exact next a2 a3
     | true =>
       rw [hn] at c;simp only [cond_true] at c ⊢;refine ⟨?_, next a2 a3⟩;unfold qC4 at c;rw [q1] at c;simp only [zJ1] at c;unfold fresh;rw [c.1, c.2.1, wB c.2.2]; rfl
    unfold q0N at e2;split at e2
    ·rename_i f args ts hop
     have hpe : aM P tab (qXL T) (qH nm o.dst) o (qB env) (qD h.l) = nI P tab (qXL T) (xK zAF f).enc (qB (dL zAF args)) (qD h.l) := by
      unfold aM;rw [<- q1];simp only [hop, qO, aP]
     rw [hpe];have hfv := pI q2 f;have has := aZ q2 args
     revert e2 hfv
     generalize xK zAF f = fv;intro e2 hfv;unfold q0E at e2;split at e2
     ·split at e2
      ·rename_i y h1 hd;obtain ⟨p, hp, e3⟩ := run_bind e2;obtain ⟨g', b⟩ := p;obtain ⟨ys, a1, a2, a3, a4⟩ := aY ho has hd
       have : nI P tab (qXL T) (SV.enc .yv) (qB (dL zAF args)) (qD h.l) = .rnd Yl.l (qB (dL zAF args)) (qD h.l) := by
        simp only [SV.enc, nI]
       rw [this, qVP];refine ⟨ys, Y.yt, qD h1.l, g', b, a1, ?_, ?_⟩
       ·rw [a2]; exact hy _ _ _ _ hp
       ·have := next (v := .d .bool b) ⟨a3, a4, by simp [SV.ok]⟩ e3;simpa [SV.enc, Ty.fv, fvv] using this
      ·cases e2
     ·split at e2
      ·rename_i t as hst;obtain ⟨h1, h2⟩ := oW hfv has hst;rw [qI6 h1];unfold bZ qXL
       cases hsl : (slT t T).isSome with
       | true =>
         rw [hsl] at e2;simp only [cond_true] at e2;obtain ⟨v, h', a1, a2, a3⟩ := qZK ht ho h2 e2;simp only [zNP, cond_false];rw [a1, qOD];exact chk a2 a3
       | false =>
         rw [hsl] at e2;simp only [cond_false] at e2;simp only [Bool.not_false, cond_true];rw [qPL];refine ⟨_, hci _ _ _ _ _ _ ho h2 e2, ?_⟩;rintro v p ⟨v', h', rfl, rfl, a2, a3⟩;obtain ⟨c2, a4⟩ := qG a3;have := qH0 c2;rw [q1] at this;exact ⟨this, next a2 a4⟩
      ·cases e2
    ·rename_i hne;obtain ⟨v, h', a1, a2, a3⟩ := q3R ho q2 e2;rw [q1] at a1
     have hpe : aM P tab (qXL T) (qH nm o.dst) o (qB env) (qD h.l) = .ok v.enc (qD h'.l) := by
      unfold aM;split
      ·rename_i f args ts hop; exact absurd hop (hne f args ts)
      ·rw [a1]; rfl
     rw [hpe, qOD];exact chk a2 a3
   ·rw [hw, qS8];have ih := qF9 ht hci hy ho (wI (d := o.dst) (v := .tup []) q2 (by simp [SV.ok, okL])) e1;rw [jW, q1] at ih;simp only [SV.enc, qB] at ih;exact xV (fun g e p ⟨env', h', b1, b2, b3, b4⟩ => ⟨env', h', b1, b2, Ends.step q1 q3 (.refl _) b3, b4⟩) ih
def qVU (P : Program) (T : jE) (nm : Nm) (ds : List (Option Tmp)) (b : DB) (zAC : List SV) : Nat -> List Oper -> List SV -> SH -> List (Nat × List Nat) -> List (Nat × List Nat) -> List (Nat × Nat) -> List (Nat × PV) -> (List SV -> SH -> q97 R) -> q97 R
 | i, [], env, h, E, F, N, V, K => cond (dI b (qB zAC) E F N V) (K env h) .fail
 | i, o :: l, env, h, E, F, N, V, K => qBH ds o env
    (fun env => cond (cond (needs o.op) (inP nm (qH nm o.dst) && qLE (qH nm o.dst) h.l) true) (qZM P T true (qH nm o.dst) o env h fun v h' =>
      qVU P T nm ds b zAC (i + 1) l (dM env o.dst v) h' (cond (qW o) ((i, wlT nm o (qB env)) :: E) E) (cond (qW o) F ((i, dlT o (qB env)) :: F)) (cond (needs o.op) ((i, qH nm o.dst) :: N) N) ((i, v.enc) :: V) K) .fail)
    (fun env => qVU P T nm ds b zAC (i + 1) l (dM env o.dst (.tup [])) h E F N ((i, .tup []) :: V) K)
theorem qEI {T : jE} (ht : qQU tab T) {ds : List (Option Tmp)} {b : DB} {zAC : List SV} : ∀ {l : List Oper} {i : Nat} {env : List SV} {h : SH} {E F : List (Nat × List Nat)} {N : List (Nat × Nat)} {V : List (Nat × PV)} {K : List SV -> SH -> q97 R}, OkH P h -> okL h env -> (qVU P T nm ds b zAC i l env h E F N V K).run = some r ->
 (qHB P tab nm ds b (qB zAC) i l (qB env) (qD h.l) E F N V).holds P G fun e p => ∃ env' h', e = qB env' ∧ p = qD h'.l ∧ Ends P (l.map (·.dst)) env h env' h' ∧ (K env' h').run = some r
 | [], i, env, h, E, F, N, V, K, ho, he, e => by
   unfold qVU at e;obtain ⟨c, e1⟩ := qG e;rw [qYC];exact ⟨c, env, h, rfl, rfl, ⟨he, ho, .refl _, fun _ _ => rfl, rfl⟩, e1⟩
 | o :: l, i, env, h, E, F, N, V, K, ho, he, e => by
   unfold qVU at e;obtain ⟨zAF, q1, q2, q3, q4⟩ := o9 he e;rw [qR8]
   rcases q4 with ⟨hw, e1⟩ | ⟨hw, e1⟩
   ·rw [hw, qVG];obtain ⟨c, e2⟩ := qG e1;obtain ⟨v, h', a1, a2, a3⟩ := qIU ht ho q2 e2;rw [q1] at a1;rw [a1, qS3];have ih := qEI ht a2.2.1 (wI (d := o.dst) (qN a2.1 q2) a2.2.2) a3;rw [jW, q1] at ih;have ih2 := zAK (Q' := fun e p => ∃ env' h', e = qB env' ∧ p = qD h'.l ∧ Ends P ((o :: l).map (·.dst)) env h env' h' ∧ (K env' h').run = some r) (fun e p ⟨env', h', b1, b2, b3, b4⟩ => ⟨env', h', b1, b2, Ends.step q1 q3 a2.1 b3, b4⟩) ih;unfold qCE
    cases hn : needs o.op with
    | false => rw [hn] at ih2; exact ih2
    | true =>
      rw [hn] at c ih2;simp only [cond_true] at c ⊢;refine ⟨?_, ih2⟩;rw [zJ1] at c;rw [c.1, wB c.2]; rfl
   ·rw [hw, qP6];have ih := qEI ht ho (wI (d := o.dst) (v := .tup []) q2 (by simp [SV.ok, okL])) e1;rw [jW, q1] at ih;simp only [SV.enc, qB] at ih;exact zAK (fun e p ⟨env', h', b1, b2, b3, b4⟩ => ⟨env', h', b1, b2, Ends.step q1 q3 (.refl _) b3, b4⟩) ih
def qIZ (R : List Nat) (l : List (Nat × SO)) : List (Nat × SO) := R.filterMap fun k => (slk k l).map fun o => (k, o)
theorem qBF {l : List (Nat × SO)} : ∀ (R : List Nat), qD (qIZ R l) = aS R (qD l)
 | [] => rfl
 | k :: R => by
   have ih := qBF (l := l) R;unfold qIZ aS at ih ⊢;rw [zN6, zN6, uQ]
   cases hk : slk k l with
   | none => simp only [zN2]; exact ih
   | some o =>
     simp only [zKD];show (k, o.enc) :: qD _ = _;rw [ih]
def q8L (b : Array Nat) (h0 : List (Nat × SO)) (zAC : List PV) (E F : List (Nat × List Nat)) (N : List (Nat × Nat)) (V : List (Nat × PV)) (O : List (Nat × List (Nat × SO))) : Bool :=
 (E.all fun e => (E ++ F).all fun f => Nat.beq e.1 f.1 || (qOE b e.1 f.1 || f.2.all fun l => !e.2.contains l)) &&
   N.all fun n => z8 n.2 zAC && (qLE n.2 h0 && ((V.all fun v => Nat.beq v.1 n.1 || (jZ b n.1 v.1 || noK n.2 v.2)) && O.all fun c => Nat.beq c.1 n.1 || (jZ b n.1 c.1 || qLE n.2 c.2)))
def qZD (O : List (Nat × List (Nat × SO))) : List (Nat × PHp) := O.map fun c => (c.1, qD c.2)
theorem q3U {b : Array Nat} {h0 : List (Nat × SO)} {zAC : List PV} {E F : List (Nat × List Nat)} {N : List (Nat × Nat)} {V : List (Nat × PV)} {O : List (Nat × List (Nat × SO))} (h : q8L b h0 zAC E F N V O = true) : q47 b (qD h0) zAC E F N V (qZD O) = true := by
 unfold q8L at h;unfold q47;rw [zJ1] at h ⊢;refine ⟨h.1, zJ4.2 fun n hn => ?_⟩;have h2 := zJ4.1 h.2 n hn;rw [zJ1, zJ1, zJ1] at h2 ⊢;refine ⟨h2.1, wB h2.2.1, h2.2.2.1, zJ4.2 fun c hc => ?_⟩;obtain ⟨c0, hc0, rfl⟩ := zKT.1 hc;have h3 := zJ4.1 h2.2.2.2 c0 hc0;rw [zK7, zK7] at h3 ⊢;rcases h3 with h | h | h
 ·exact .inl h
 ·exact .inr (.inl h)
 ·exact .inr (.inr (wB h))
def q26 (l : List (Nat × SO)) : PV -> Bool
 | .own k _ _ _ => (match slk k l with
   | some (.list _ _ _ _ _ _) => true
   | _ => false)
 | x => qIC x
theorem qZP {l : List (Nat × SO)} {x : PV} (h : q26 l x = true) : qH6 (qD l) x = true := by
 cases x with
 | own k t o n =>
   unfold q26 at h;unfold qH6;simp only at h ⊢;rw [uQ];split at h
   ·rename_i el gr g w u xs hk;rw [hk];simp only [zKD];show (((List.flatMap u.cells xs).map PV.f).all qQ5) = true;rw [zJ4];intro z hz;obtain ⟨y, _, rfl⟩ := zKT.1 hz;rfl
   ·cases h
 | _ => exact h
def q4F (o : Oper) (env : List PV) : Bool := match o.op with
 | .call ⟨.value f, args, _⟩ => (match target (qK env f) (args.toList.map (qK env)) with
   | some (g, _) => (match Frs.fr g with
     | none => true
     | some _ => false)
   | none => true)
 | _ => true
theorem qWS {env : List PV} (h : q4F o env = true) : pfr o env = none := by
 cases hp : pfr o env with
 | none => rfl
 | some q =>
   obtain ⟨el, n, cs⟩ := q;obtain ⟨f, args, ts, g, hop, ht, hg⟩ := qKF hp;unfold q4F at h;rw [hop] at h;simp only [ht, hg] at h;cases h
def sfr (o : Oper) (env : List SV) : Option SV := match o.op with
 | .call ⟨.value f, args, _⟩ => (match qBT (xK env f) (dL env args) with
   | some (g, [.d (.list el t) xs]) => (match Frs.fr g with
     | some el' => cond (Nat.beq el el') (some (.d (.list el t) xs)) none
     | none => none)
   | _ => none)
 | _ => none
theorem q57 {x : SV} (he : okL h env) (e : sfr o env = some x) : ∃ el t, ∃ xs : List (Ty.sem t), x = .d (.list el t) xs ∧ pfr o (qB env) = some (el, xs.length, xs.flatMap t.cells) := by
 unfold sfr at e;split at e
 case h_2 => cases e
 rename_i f args ts hop;split at e
 case h_2 => cases e
 rename_i g el t xs hst;split at e
 case h_2 => cases e
 rename_i el' hg
 cases hc : Nat.beq el el' with
 | false => rw [hc] at e; cases e
 | true =>
   rw [hc] at e;cases e;obtain ⟨h1, _⟩ := oW (pI he f) (aZ he args) hst;refine ⟨el, t, xs, rfl, ?_⟩;unfold pfr;rw [hop];simp only [qO, aP, h1, qB, SV.enc, Ty.fv, hg, hc, cond_true]
def frT (P : Program) (el : TypeId) (w : Nat) (t : Ty) : Bool := match szT P el, t with
 | some (s + 1), .int k => Nat.beq w (s + 1) && (kH P el && decide (k = Frs.fk))
 | _, _ => false
theorem qTL {k : IntKind} : ∀ (xs : List Int), (List.flatMap (Ty.int k).cells xs).all (isK k) = true
 | [] => rfl
 | x :: xs => by
   rw [zKV, zNF, qTL xs];simp [Ty.cells, isK]
theorem qZ0 {t : Ty} {xs : List t.sem} (h : frT P el t.w t = true) (hn : Nat.ble xs.length 1048576 = true) : qWE P el xs.length (xs.flatMap t.cells) = true := by
 unfold frT at h;unfold qWE;split at h
 ·rename_i s k hs;rw [zJ1, zJ1] at h;have hw := zJ2 h.1;have hk : k = Frs.fk := of_decide_eq_true h.2.2;subst hk;rw [hs];have h1 : (List.flatMap (Ty.int Frs.fk).cells xs).length = xs.length * (s + 1) := by rw [yR, hw]
  have h2 : (List.flatMap (Ty.int Frs.fk).cells xs).all (isK Frs.fk) = true := qTL xs;show (Nat.beq (xs.length * (s + 1)) (List.flatMap (Ty.int Frs.fk).cells xs).length && (Nat.ble xs.length 1048576 && (kH P el && (List.flatMap (Ty.int Frs.fk).cells xs).all (isK Frs.fk)))) = true;rw [h1, h2, hn, h.2.1, Nat.beq_refl];rfl
 ·cases h
theorem q8N {w : Nat} {t : Ty} (h : frT P el w t = true) : szT P el = some w ∧ 0 < w := by
 unfold frT at h;split at h
 ·rename_i s k hs;rw [zJ1] at h;have hw := zJ2 h.1;rw [hw];exact ⟨hs, Nat.succ_pos _⟩
 ·cases h
def qFP (P : Program) (T : jE) (nm : Nm) (ds : List (Option Tmp)) (b : Array Nat) (zAC : List SV) (h0 : SH) : Nat -> List Oper -> List SV -> SH -> List (Nat × List Nat) -> List (Nat × List Nat) -> List (Nat × Nat) -> List (Nat × PV) -> List (Nat × List (Nat × SO)) -> (List SV -> SH -> q97 R) -> q97 R
 | i, [], env, h, E, F, N, V, O, K => cond (q8L b h0.l (qB zAC) E F N V O) (K env h) .fail
 | i, o :: l, env, h, E, F, N, V, O, K => qBH ds o env
    (fun env => match sfr o env with
      | some (.d (.list el t) xs) => cond (frT P el t.w t && inP nm (qH nm o.dst)) (.ite (Nat.beq xs.length 0)
         (qFP P T nm ds b zAC h0 (i + 1) l (dM env o.dst (.d (.list el t) [])) h E ((i, dlC o (qB env)) :: F) N ((i, .f (.l el 0 [])) :: V) O K)
         (.ite (Nat.ble xs.length 1048576)
           (qFP P T nm ds b zAC h0 (i + 1) l (dM env o.dst (.own (qH nm o.dst) h.next xs.length)) (h.new (qH nm o.dst) fun v => .list el true v v t xs) ((i, [qH nm o.dst]) :: E) F ((i, qH nm o.dst) :: N) ((i, .own (qH nm o.dst) xs.length 0 xs.length) :: V)
             ((i, qIZ [qH nm o.dst] (h.new (qH nm o.dst) fun v => .list el true v v t xs).l) :: O) K) .fail)) .fail
      | some _ => .fail
      | none => cond ((q4F o (qB env) && (okE o || (!qW o || dJ o))) && ((qB5 o (qB env)).all (q26 h.l) && cond (needs o.op) (inP nm (qH nm o.dst)) true)) (qZM P T true (qH nm o.dst) o env h fun v h' =>
      qFP P T nm ds b zAC h0 (i + 1) l (dM env o.dst v) h' (cond (okE o) ((i, RC o (qH nm o.dst) (qB env)) :: E) E) (cond (okE o) F ((i, dlC o (qB env)) :: F)) (cond (needs o.op) ((i, qH nm o.dst) :: N) N) ((i, v.enc) :: V) (cond (okE o) ((i, qIZ (RC o (qH nm o.dst) (qB env)) h'.l) :: O) O) K) .fail)
    (fun env => qFP P T nm ds b zAC h0 (i + 1) l (dM env o.dst (.tup [])) h E F N ((i, .tup []) :: V) O K)
theorem mX {T : jE} (ht : qQU tab T) {ds : List (Option Tmp)} {b : Array Nat} {zAC : List SV} {h0 : SH} : ∀ {l : List Oper} {i : Nat} {env : List SV} {h : SH} {E F : List (Nat × List Nat)} {N : List (Nat × Nat)} {V : List (Nat × PV)} {O : List (Nat × List (Nat × SO))} {K : List SV -> SH -> q97 R}, OkH P h -> okL h env -> (qFP P T nm ds b zAC h0 i l env h E F N V O K).run = some r ->
 (qJX P tab nm ds b (qB zAC) (qD h0.l) i l (qB env) (qD h.l) E F N V (qZD O)).holds P G fun e p => ∃ env' h', e = qB env' ∧ p = qD h'.l ∧ Ends P (l.map (·.dst)) env h env' h' ∧ (K env' h').run = some r
 | [], i, env, h, E, F, N, V, O, K, ho, he, e => by
   unfold qFP at e;obtain ⟨c, e1⟩ := qG e;exact ⟨q3U c, env, h, rfl, rfl, ⟨he, ho, .refl _, fun _ _ => rfl, rfl⟩, e1⟩
 | o :: l, i, env, h, E, F, N, V, O, K, ho, he, e => by
   unfold qFP at e;obtain ⟨zAF, q1, q2, q3, q4⟩ := o9 he e;unfold qJX jU
   rcases q4 with ⟨hw, e1⟩ | ⟨hw, e1⟩
   ·rw [hw];simp only;split at e1
    ·rename_i el t xs hsf;obtain ⟨el', t', xs', hx, hpf⟩ := q57 q2 hsf;cases hx;rw [q1] at hpf;obtain ⟨c, e2⟩ := qG e1;rw [zJ1] at c;obtain ⟨p1, p2⟩ := qJW hpf
     rcases run_ite e2 with ⟨z, e3⟩ | ⟨z, e3⟩
     ·have z0 : xs = [] := List.eq_nil_of_length_eq_zero (zJ2 z);subst z0;have hfr : qGT o (qB env) = false := by unfold qGT; rw [hpf]; rfl
      have zDT : okF o (qB env) = false := by unfold okF; rw [p1, hfr]; rfl
      have zDU : ndF o (qB env) = false := by unfold ndF; rw [p2, hfr]; rfl
      rw [mO hpf (qZ0 c.1 rfl)];simp only [zDT, zDU, cond_false];unfold qCE;simp only [cond_false];have ih := mX ht ho (wI (d := o.dst) (v := .d (.list el t) []) q2 (by simp [SV.ok])) e3;rw [jW, q1] at ih;exact zAK (Q' := fun e p => ∃ env' h', e = qB env' ∧ p = qD h'.l ∧ Ends P ((o :: l).map (·.dst)) env h env' h' ∧ (K env' h').run = some r) (fun e p ⟨env', h', b1, b2, b3, b4⟩ => ⟨env', h', b1, b2, Ends.step q1 q3 (.refl _) b3, b4⟩) ih
     ·rcases run_ite e3 with ⟨z2, e4⟩ | ⟨z2, e4⟩
      ·cases hn : xs.length with
       | zero => rw [hn] at z; cases z
       | succ n =>
       rw [hn] at hpf;have hfr : qGT o (qB env) = true := by unfold qGT; rw [hpf]
       have zDT : okF o (qB env) = true := by unfold okF; rw [hfr, Bool.or_true]
       have zDU : ndF o (qB env) = true := by unfold ndF; rw [hfr, Bool.or_true]
       have hRF : RF o (qH nm o.dst) (qB env) = [qH nm o.dst] := by unfold RF; rw [hfr]; rfl
       have hfo := qZ0 c.1 z2;rw [hn] at hfo;rw [mO hpf hfo];simp only [zDT, zDU, hRF, cond_true];unfold qCE;simp only [cond_true];have hnw := xU (k := qH nm o.dst) (f := fun v => .list el true v v t xs) ho ⟨rfl, rfl, q8N c.1⟩;have ih := mX ht hnw.2 (wI (d := o.dst) (v := .own (qH nm o.dst) h.next xs.length) (qN hnw.1 q2) (wC rfl)) e4;rw [jW, q1] at ih;have ih2 := zAK (Q' := fun e p => ∃ env' h', e = qB env' ∧ p = qD h'.l ∧ Ends P ((o :: l).map (·.dst)) env h env' h' ∧ (K env' h').run = some r) (fun e p ⟨env', h', b1, b2, b3, b4⟩ => ⟨env', h', b1, b2, Ends.step q1 q3 hnw.1 b3, b4⟩) ih
       have eO : qZD ((i, qIZ [qH nm o.dst] (h.new (qH nm o.dst) fun v => .list el true v v t xs).l) :: O) = (i, aS [qH nm o.dst] (qD (h.new (qH nm o.dst) fun v => .list el true v v t xs).l)) :: qZD O := by
        show (i, qD (qIZ _ _)) :: qZD O = _;rw [qBF]
       rw [eO] at ih2;simp only [SV.enc, hn] at ih2;exact ⟨c.2, ih2⟩
      ·cases e4
    ·cases e1
    rename_i hsf;obtain ⟨c, e2⟩ := qG e1;rw [zJ1, zJ1, zJ1] at c;have hpf : pfr o (qB env) = none := by rw [<- q1]; exact qWS c.1.1
    have hfr : qGT o (qB env) = false := by unfold qGT; rw [hpf]
    have zDT : okF o (qB env) = okE o := by unfold okF; rw [hfr, zNQ]
    have zDU : ndF o (qB env) = needs o.op := by unfold ndF; rw [hfr, zNQ]
    have hRF : RF o (qH nm o.dst) (qB env) = RC o (qH nm o.dst) (qB env) := by unfold RF; rw [hfr]; rfl
    obtain ⟨v, h', a1, a2, a3⟩ := qIU ht ho q2 e2;rw [q1] at a1;have c2 : wZ o (qB env) (qD h.l) = true := zJ4.2 fun x hx => qZP (zJ4.1 c.2.1 x (by rw [q1]; exact hx))
    rw [eU hpf a1 c.1.2 c2];simp only [zDT, zDU, hRF];have ih := mX ht a2.2.1 (wI (d := o.dst) (qN a2.1 q2) a2.2.2) a3;rw [jW, q1] at ih;have ih2 := zAK (Q' := fun e p => ∃ env' h', e = qB env' ∧ p = qD h'.l ∧ Ends P ((o :: l).map (·.dst)) env h env' h' ∧ (K env' h').run = some r) (fun e p ⟨env', h', b1, b2, b3, b4⟩ => ⟨env', h', b1, b2, Ends.step q1 q3 a2.1 b3, b4⟩) ih
    have eO : qZD (cond (okE o) ((i, qIZ (RC o (qH nm o.dst) (qB env)) h'.l) :: O) O) = cond (okE o) ((i, aS (RC o (qH nm o.dst) (qB env)) (qD h'.l)) :: qZD O) (qZD O) := by
     cases okE o with
     | false => rfl
     | true =>
       show (i, qD (qIZ _ _)) :: qZD O = _;rw [qBF]; rfl
    rw [eO] at ih2;unfold qCE
    cases hn : needs o.op with
    | false => rw [hn] at ih2; exact ih2
    | true =>
      have c3 := c.2.2;rw [hn] at c3 ih2;simp only [cond_true] at c3 ⊢;exact ⟨c3, ih2⟩
   ·rw [hw];simp only;have ih := mX ht ho (wI (d := o.dst) (v := .tup []) q2 (by simp [SV.ok, okL])) e1;rw [jW, q1] at ih;simp only [SV.enc, qB] at ih;exact zAK (fun e p ⟨env', h', b1, b2, b3, b4⟩ => ⟨env', h', b1, b2, Ends.step q1 q3 (.refl _) b3, b4⟩) ih
def qM0 (ops : Array Oper) : Bool := match ops[ops.size - 1]? with
 | some o => (match o.op with
   | .call ⟨.value _, _, _⟩ => (List.range (ops.size - 1)).all fun i => jZ (Region.before ops) i (ops.size - 1)
   | _ => false)
 | none => false
def q78 {Γ : Type} (P : Program) (G : Nat -> Bool) (T : jE) (CI : CIT) (Y : YI Γ) (nm : Nm) (ops : Array Oper) (d : Bool) (g : Γ) (env : List SV) (h : SH) (K : Γ -> List SV -> SH -> q97 R) : q97 R :=
 cond (uE G ops) (cond d (cond (gY ops && gZ ops) (cond (qM0 ops)
  (qVU P T nm (ops.toList.map (·.dst)) (dBo ops) env 0 (ops.toList.take (ops.size - 1)) env h [] [] [] [] fun env h => qWF P T CI Y nm (ops.toList.map (·.dst)) (ops.toList.drop (ops.size - 1)) g env h K)
  (qVU P T nm (ops.toList.map (·.dst)) (dBo ops) env 0 ops.toList env h [] [] [] [] (K g))) (cond (qAY ops) (qFP P T nm (ops.toList.map (·.dst)) (Region.before ops) env h 0 ops.toList env h [] [] [] [] [] (K g)) .fail)) (qWF P T CI Y nm (ops.toList.map (·.dst)) ops.toList g env h K)) .fail
variable {nat : y7} {good : FuncId -> Bool} {rd : Bool}
theorem q2D [zAX P G] {Γ : Type} {w : Wld Γ} {T : jE} {CI : CIT} {Y : YI Γ} (s : zA1 P good nat G tab) (ht : qQU tab T) (hci : qZ2 P G CI) (hy : YOk P G w Y) {id : Nat} {ops : Array Oper} {d : Bool} {g : Γ} {K : Γ -> List SV -> SH -> q97 R} (ho : OkH P h) (he : okL h env) (e : (q78 P G T CI Y nm ops d g env h K).run = some r) :
 qR P G rd nm w (.region id ops d) g (qB env) (qD h.l) fun x g' pe ph => x = .normal ∧ ∃ env' h', pe = qB env' ∧ ph = qD h'.l ∧ Ends P (ops.toList.map (·.dst)) env h env' h' ∧ (K g' env' h').run = some r := by
 unfold q78 at e;obtain ⟨c1, e1⟩ := qG e
 cases d with
 | true =>
   cases hc2 : (gY ops && gZ ops) with
   | false =>
     rw [hc2] at e1;obtain ⟨c3, e2⟩ := qG (show (cond (qAY ops) (qFP P T nm (ops.toList.map (·.dst)) (Region.before ops) env h 0 ops.toList env h [] [] [] [] [] (K g)) .fail : q97 R).run = some r from e1);refine (qR.of (s.zHR (Q := fun x pe ph => x = .normal ∧ ∃ env' h', pe = qB env' ∧ ph = qD h'.l ∧ Ends P (ops.toList.map (·.dst)) env h env' h' ∧ (K g env' h').run = some r) c1 c3 ?_)).mono ?_
     ·exact zAK (fun e p hq => ⟨rfl, hq⟩) (mX (G := G) (O := []) ht ho he e2)
     ·rintro x g' pe ph ⟨rfl, hq⟩;exact hq
   | true =>
   have c2 := hc2;rw [hc2] at e1
   have e2 : (cond (qM0 ops)
    (qVU P T nm (ops.toList.map (·.dst)) (dBo ops) env 0 (ops.toList.take (ops.size - 1)) env h [] [] [] [] fun env h => qWF P T CI Y nm (ops.toList.map (·.dst)) (ops.toList.drop (ops.size - 1)) g env h K)
    (qVU P T nm (ops.toList.map (·.dst)) (dBo ops) env 0 ops.toList env h [] [] [] [] (K g)) : q97 R).run = some r := e1
   rw [zJ1] at c2
   cases hlo : qM0 ops with
   | false =>
     rw [hlo] at e2;have e2 : (qVU P T nm (ops.toList.map (·.dst)) (dBo ops) env 0 ops.toList env h [] [] [] [] (K g)).run = some r := e2;refine (qR.of (s.zHL (Q := fun x pe ph => x = .normal ∧ ∃ env' h', pe = qB env' ∧ ph = qD h'.l ∧ Ends P (ops.toList.map (·.dst)) env h env' h' ∧ (K g env' h').run = some r) c1 c2.1 c2.2 rfl rfl ?_)).mono ?_
     ·exact zAK (fun e p hq => ⟨rfl, hq⟩) (qEI (G := G) ht ho he e2)
     ·rintro x g' pe ph ⟨rfl, hq⟩;exact hq
   | true =>
     rw [hlo] at e2;have e2 : (qVU P T nm (ops.toList.map (·.dst)) (dBo ops) env 0 (ops.toList.take (ops.size - 1)) env h [] [] [] [] fun env h => qWF P T CI Y nm (ops.toList.map (·.dst)) (ops.toList.drop (ops.size - 1)) g env h K).run = some r := e2;unfold qM0 at hlo;split at hlo
     ·rename_i o hop;split at hlo
      ·have hlt := (zKC.1 hop).1
       have hdrop : ops.toList.drop (ops.size - 1) = [o] := by
        have h1 : ops.toList[ops.size - 1]? = some o := by simpa using hop
        obtain ⟨h2, h3⟩ := zJ6.1 h1;rw [zMQ h2, h3, List.drop_eq_nil_of_le (by simp; omega)]
       have hmap : (ops.toList.take (ops.size - 1)).map (·.dst) ++ [o.dst] = ops.toList.map (·.dst) := by
        rw [show [o.dst] = [o].map (·.dst) from rfl, <- zK8, <- hdrop, zNV]
       refine s.zHO (inl := qXL T) (n0 := ops.size - 1) c1 c2.1 c2.2 hop (by omega) (fun i hi => zJ4.1 hlo i (zMU.2 hi)) ?_;refine zAK (fun e p hq => ?_) (qEI (G := G) ht ho he e2);obtain ⟨zAF, h1, rfl, rfl, a3, a4⟩ := hq;rw [hdrop] at a4;refine xV (fun g2 e p hq => ?_) (qF9 (G := G) ht hci hy a3.2.1 a3.1 a4);obtain ⟨zAY, h2, rfl, rfl, b3, b4⟩ := hq;refine ⟨rfl, zAY, h2, rfl, rfl, ⟨b3.1, b3.2.1, a3.2.2.1.trans b3.2.2.1, fun i hi => ?_, b3.2.2.2.2.trans a3.2.2.2.2⟩, b4⟩;rw [<- hmap, zLE, not_or] at hi;exact (b3.2.2.2.1 i hi.2).trans (a3.2.2.2.1 i hi.1)
      ·cases hlo
     ·cases hlo
 | false => exact s.zHN c1 (xV (fun g e p hq => ⟨rfl, hq⟩) (qF9 (G := G) ht hci hy ho he e1))
end
end Go.Sv
