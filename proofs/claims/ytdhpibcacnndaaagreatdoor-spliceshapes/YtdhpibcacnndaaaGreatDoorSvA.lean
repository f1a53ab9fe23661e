/- A symbolic run, part one. Conditions: none. -/
import Derived.Test.YtdhpibcacnndaaaGreatDoorPur23
set_option linter.all false
namespace Go.Sv
open Go.Idl
variable {el : TypeId} {j n off : Nat} {k : IntKind}
class Yl where
 l : Nat
variable [Gc]
variable {P : Program} {Z Z' : Nat -> Prop} {H : IH} {M : Nat -> Option (Nat × PO)}
inductive Ty where
 | int (k : IntKind)
 | bool
 | str
 | unit
 | list (el : TypeId) (t : Ty)
 | pair (a b : Ty)
 | raw
 | ol (el : TypeId) (k : IntKind)
 | nif deriving DecidableEq
@[reducible] def Ty.sem : Ty -> Type
  | .int _ => Int
  | .bool => Bool
  | .str => ByteArray
  | .unit => Unit
  | .list _ t => List t.sem
  | .pair a b => a.sem × b.sem
  | .raw => List (Value × Value)
  | .ol _ _ => List Int
  | .nif => Unit
def bR (l : List (Value × Value)) : List FV := List.flatMap (fun p => [.v p.1, .v p.2]) l
def fvo (el : TypeId) (k : IntKind) : List Int -> FV
 | [] => .v (.slice none 0 0)
 | x :: xs => .l el (xs.length + 1) (List.flatMap (fun i => [FV.v (.int k i)]) (x :: xs))
def Ty.cells : (t : Ty) -> t.sem -> List FV
 | .int k, x => [.v (.int k x)]
 | .bool, x => [.v (.bool x)]
 | .str, x => [.v (.string x)]
 | .unit, _ => []
 | .list el t, xs => [.l el (List.length xs) (List.flatMap t.cells xs)]
 | .pair a b, x => a.cells x.1 ++ b.cells x.2
 | .raw, xs => [.l 1000000001 (List.length xs) (bR xs)]
 | .ol el k, xs => [fvo el k xs]
 | .nif, _ => [.v .nilIface]
def Ty.w : Ty -> Nat
 | .int _ | .bool | .str | .list _ _ | .raw | .ol _ _ | .nif => 1
 | .unit => 0
 | .pair a b => a.w + b.w
def Ty.nol : Ty -> Bool
 | .ol _ _ => false
 | .pair a b => a.nol && b.nol
 | _ => true
def Ty.one : Ty -> Bool
 | .unit => false
 | .pair _ _ => false
 | _ => true
def Ty.fv : (t : Ty) -> t.sem -> FV
 | .int k, x => .v (.int k x)
 | .bool, x => .v (.bool x)
 | .str, x => .v (.string x)
 | .list el t, xs => .l el (List.length xs) (List.flatMap t.cells xs)
 | .raw, xs => .l 1000000001 (List.length xs) (bR xs)
 | .ol el k, xs => fvo el k xs
 | .nif, _ => .v .nilIface
 | _, _ => .v undef
theorem Ty.cells_one : ∀ {t : Ty} {x : t.sem}, t.one = true -> t.cells x = [t.fv x]
 | .int _, _, _ => rfl
 | .bool, _, _ => rfl
 | .str, _, _ => rfl
 | .list _ _, _, _ => rfl
 | .raw, _, _ => rfl
 | .ol _ _, _, _ => rfl
 | .nif, _, _ => rfl
 | .unit, _, h => by cases h
 | .pair _ _, _, h => by cases h
theorem Ty.q9N : ∀ (t : Ty) (x : t.sem), (t.cells x).length = t.w
 | .int _, _ => rfl
 | .bool, _ => rfl
 | .str, _ => rfl
 | .list _ _, _ => rfl
 | .raw, _ => rfl
 | .ol _ _, _ => rfl
 | .nif, _ => rfl
 | .unit, _ => rfl
 | .pair a b, x => by
   show (a.cells x.1 ++ b.cells x.2).length = a.w + b.w;rw [zJW, a.q9N, b.q9N]
theorem yM {t : Ty} : ∀ (xs : List t.sem), (xs.flatMap t.cells).length = xs.length * t.w
 | [] => by simp
 | x :: xs => by rw [zJZ, zJW, t.q9N, yM xs, zJN, zLL, zLX]
theorem aJ {t : Ty} : ∀ (xs : List t.sem) (j : Nat), (xs.flatMap t.cells).drop (j * t.w) = (xs.drop j).flatMap t.cells
 | xs, 0 => by simp
 | [], j + 1 => by simp
 | x :: xs, j + 1 => by
   rw [zJZ, List.drop_succ_cons, <- aJ xs j, zLL, zLX, <- zMM]
   congr 1
   rw [List.drop_append_of_le_length (by rw [t.q9N]; exact zI7 _), List.drop_of_length_le (by rw [t.q9N]; exact zI7 _), List.nil_append]
theorem mR {t : Ty} : ∀ (xs : List t.sem) (j : Nat), (xs.flatMap t.cells).take (j * t.w) = (xs.take j).flatMap t.cells
 | xs, 0 => by simp
 | [], j + 1 => by simp
 | x :: xs, j + 1 => by
   rw [zJZ, zKY, zJZ, <- mR xs j, zLL, zLX, List.take_append, t.q9N, zMN, zJ2 (by rw [t.q9N]; omega)]
theorem qVN {t : Ty} {xs : List t.sem} {x : t.sem} (h : xs[j]? = some x) : ((xs.flatMap t.cells).drop (j * t.w)).take t.w = t.cells x := by
 rw [aJ]
 have hj := (zJA.1 h)
 obtain ⟨hl, hx⟩ := hj;rw [zLR hl, hx, zJZ, List.take_append_of_le_length (by rw [t.q9N]; exact zI7 _), zJ2 (by rw [t.q9N]; exact zI7 _)]
theorem qHJ {t : Ty} {xs : List t.sem} {x : t.sem} (h : xs[j]? = some x) (hn : off + n <= t.w) : ((xs.flatMap t.cells).drop (j * t.w + off)).take n = ((t.cells x).drop off).take n := by
 rw [<- qVN h, List.drop_take, zMM, zNA, zK4 (by omega)]
theorem flat_get {t : Ty} {xs : List t.sem} {x : t.sem} (h : xs[j]? = some x) (hn : off < t.w) : (xs.flatMap t.cells)[j * t.w + off]? = (t.cells x)[off]? := by
 rw [<- qVN h, zKH, if_pos hn, zKM]
theorem qES {t : Ty} {xs : List t.sem} {x : t.sem} (h : xs[j]? = some x) (hn : off + n <= t.w) : j * t.w + off + n <= (xs.flatMap t.cells).length := by
 have hl := (zJA.1 h).1;rw [yM];have : (j + 1) * t.w <= xs.length * t.w := zKO _ hl;rw [zLL] at this;omega
theorem qIQ : ∀ (xs ys : List (Value × Value)), bR xs = bR ys -> xs = ys
 | [], [], _ => rfl
 | [], y :: ys, h => by cases h
 | x :: xs, [], h => by cases h
 | x :: xs, y :: ys, h => by
   have h : FV.v x.1 :: FV.v x.2 :: bR xs = FV.v y.1 :: FV.v y.2 :: bR ys := h;injection h with h1 h2;injection h2 with h2 h3;injection h1 with h1;injection h2 with h2;rw [qIQ xs ys h3, Prod.ext h1 h2]
theorem qBC : ∀ (xs : List (Value × Value)), (bR xs).length = 2 * xs.length
 | [] => rfl
 | x :: xs => by
   show (bR xs).length + 2 = _;rw [qBC xs, zJN]; omega
theorem qMO : ∀ (xs ys : List (Value × Value)) (vs : List Value), FRL Z H (bR xs) vs -> FRL Z' H (bR ys) vs -> xs = ys
 | [], [], _, _, _ => rfl
 | [], y :: ys, vs, a, b => by have := a.len; have := b.len; simp [bR] at *; omega
 | x :: xs, [], vs, a, b => by have := a.len; have := b.len; simp [bR] at *; omega
 | x :: xs, y :: ys, vs, a, b => by
   have a : FRL Z H (FV.v x.1 :: FV.v x.2 :: bR xs) vs := a;have b : FRL Z' H (FV.v y.1 :: FV.v y.2 :: bR ys) vs := b;obtain ⟨v, vs', rfl, a1, a2⟩ := a.q9G;obtain ⟨v', vs2, e, b1, b2⟩ := b.q9G;cases e;obtain ⟨w, vs3, rfl, a3, a4⟩ := a2.q9G;obtain ⟨w', vs4, e, b3, b4⟩ := b2.q9G;cases e;have e1 := (qJY a1).symm.trans (qJY b1);have e2 := (qJY a3).symm.trans (qJY b3);rw [qMO xs ys _ a4 b4, Prod.ext e1 e2]
theorem qNR {k : IntKind} : ∀ (xs ys : List Int), List.flatMap (fun i => [FV.v (.int k i)]) xs = List.flatMap (fun i => [FV.v (.int k i)]) ys -> xs = ys
 | [], [], _ => rfl
 | [], y :: ys, h => by simp at h
 | x :: xs, [], h => by simp at h
 | x :: xs, y :: ys, h => by
   have h : FV.v (.int k x) :: List.flatMap (fun i => [FV.v (.int k i)]) xs = FV.v (.int k y) :: List.flatMap (fun i => [FV.v (.int k i)]) ys := h;injection h with h1 h2;injection h1 with h1;injection h1 with _ h1;rw [h1, qNR xs ys h2]
theorem qNU (xs : List Int) : (List.flatMap (fun i => [FV.v (.int k i)]) xs).length = xs.length := by
 induction xs with
 | nil => rfl
 | cons x xs ih => rw [zJZ, zJW, ih]; simp; omega
theorem qIC {k : IntKind} : ∀ (xs ys : List Int) (vs : List Value), FRL Z H (List.flatMap (fun i => [FV.v (.int k i)]) xs) vs -> FRL Z' H (List.flatMap (fun i => [FV.v (.int k i)]) ys) vs -> xs = ys
 | [], [], _, _, _ => rfl
 | [], y :: ys, vs, a, b => by have := a.len; have := b.len; simp at *; omega
 | x :: xs, [], vs, a, b => by have := a.len; have := b.len; simp at *; omega
 | x :: xs, y :: ys, vs, a, b => by
   have a : FRL Z H (FV.v (.int k x) :: List.flatMap (fun i => [FV.v (.int k i)]) xs) vs := a;have b : FRL Z' H (FV.v (.int k y) :: List.flatMap (fun i => [FV.v (.int k i)]) ys) vs := b;obtain ⟨v, vs', rfl, a1, a2⟩ := a.q9G;obtain ⟨v', vs2, e, b1, b2⟩ := b.q9G;cases e;have e1 := (qJY a1).symm.trans (qJY b1);injection e1 with _ e1;rw [qIC xs ys _ a2 b2, e1]
theorem q2C : ∀ {xs ys : List Int}, fvo el k xs = fvo el k ys -> xs = ys
 | [], [], _ => rfl
 | [], _ :: _, h => by cases h
 | _ :: _, [], h => by cases h
 | x :: xs, y :: ys, h => by
   injection h with _ _ h;exact qNR _ _ h
theorem qV6 {v : Value} : ∀ {xs ys : List Int}, FR Z H (fvo el k xs) v -> FR Z' H (fvo el k ys) v -> xs = ys
 | [], [], _, _ => rfl
 | [], _ :: _, a, b => by have := qJY a; subst this; cases b
 | _ :: _, [], a, b => by have := qJY b; subst this; cases a
 | x :: xs, y :: ys, a, b => by
   obtain ⟨h1, ws, ws', h2, h3, h4⟩ := eP a b;have := h4 (by rw [qNU, qNU]; simpa using h1);subst this;exact qIC _ _ ws h2 h3
theorem Ty.inj : ∀ (t : Ty) (x y : t.sem), t.cells x = t.cells y -> x = y
 | .int _, x, y, h => by injection h with h; injection h with h; injection h
 | .bool, x, y, h => by injection h with h; injection h with h; injection h
 | .str, x, y, h => by injection h with h; injection h with h; injection h
 | .unit, _, _, _ => rfl
 | .nif, _, _, _ => rfl
 | .ol el k, xs, ys, h => by
   injection h with h;exact q2C h
 | .raw, xs, ys, h => by
   injection h with h;injection h with _ h1 h2;exact qIQ _ _ h2
 | .pair a b, x, y, h => by
   have := List.append_inj (show a.cells x.1 ++ b.cells x.2 = a.cells y.1 ++ b.cells y.2 from h) (by rw [a.q9N, a.q9N]);exact Prod.ext (a.inj _ _ this.1) (b.inj _ _ this.2)
 | .list el t, xs, ys, h => by
   injection h with h;injection h with _ h1 h2;exact go t xs ys h1 h2
where
 go (t : Ty) : ∀ (xs ys : List t.sem), xs.length = ys.length -> xs.flatMap t.cells = ys.flatMap t.cells -> xs = ys
 | [], [], _, _ => rfl
 | [], y :: ys, e, h => by cases e
 | x :: xs, [], e, h => by cases e
 | x :: xs, y :: ys, e, h => by
   rw [zJZ, zJZ] at h;have := List.append_inj h (by rw [t.q9N, t.q9N]);rw [t.inj x y this.1, go t xs ys (by simpa using e) this.2]
theorem Ty.uniq : ∀ (t : Ty) {x y : t.sem} {vs : List Value}, FRL Z H (t.cells x) vs -> FRL Z' H (t.cells y) vs -> x = y
 | .int k, x, y, vs, a, b => by
   obtain ⟨v, vs', rfl, a1, _⟩ := a.q9G;obtain ⟨v', vs2, e, b1, _⟩ := b.q9G;cases e;have := (qJY a1).symm.trans (qJY b1);injection this
 | .bool, x, y, vs, a, b => by
   obtain ⟨v, vs', rfl, a1, _⟩ := a.q9G;obtain ⟨v', vs2, e, b1, _⟩ := b.q9G;cases e;have := (qJY a1).symm.trans (qJY b1);injection this
 | .str, x, y, vs, a, b => by
   obtain ⟨v, vs', rfl, a1, _⟩ := a.q9G;obtain ⟨v', vs2, e, b1, _⟩ := b.q9G;cases e;have := (qJY a1).symm.trans (qJY b1);injection this
 | .unit, _, _, _, _, _ => rfl
 | .nif, _, _, _, _, _ => rfl
 | .ol el k, xs, ys, vs, a, b => by
   obtain ⟨v, vs', rfl, a1, _⟩ := a.q9G;obtain ⟨v', vs2, e, b1, _⟩ := b.q9G;cases e;exact qV6 a1 b1
 | .raw, xs, ys, vs, a, b => by
   obtain ⟨v, vs', rfl, a1, _⟩ := a.q9G;obtain ⟨v', vs2, e, b1, _⟩ := b.q9G;cases e;obtain ⟨h1, ws, ws', h2, h3, h4⟩ := eP a1 b1;have := h4 (by rw [qBC, qBC, h1]);subst this;exact qMO xs ys ws h2 h3
 | .pair s t, x, y, vs, a, b => by
   obtain ⟨a1, a2⟩ := FRL.split (xs := s.cells x.1) (ys := t.cells x.2) a;obtain ⟨b1, b2⟩ := FRL.split (xs := s.cells y.1) (ys := t.cells y.2) b;rw [s.q9N] at a1 a2 b1 b2;exact Prod.ext (s.uniq a1 b1) (t.uniq a2 b2)
 | .list el t, xs, ys, vs, a, b => by
   obtain ⟨v, vs', rfl, a1, _⟩ := a.q9G;obtain ⟨v', vs2, e, b1, _⟩ := b.q9G;cases e;obtain ⟨h1, ws, ws', h2, h3, h4⟩ := eP a1 b1;have := h4 (by rw [yM, yM, h1]);subst this;exact go t xs ys ws h1 h2 h3
where
 go (t : Ty) : ∀ (xs ys : List t.sem) (vs : List Value), xs.length = ys.length -> FRL Z H (xs.flatMap t.cells) vs -> FRL Z' H (ys.flatMap t.cells) vs -> xs = ys
 | [], [], _, _, _, _ => rfl
 | [], y :: ys, vs, e, a, b => by cases e
 | x :: xs, [], vs, e, a, b => by cases e
 | x :: xs, y :: ys, vs, e, a, b => by
   rw [zJZ] at a b;obtain ⟨a1, a2⟩ := a.split;obtain ⟨b1, b2⟩ := b.split;rw [t.q9N] at a1 a2 b1 b2;rw [t.uniq a1 b1, go t xs ys _ (by simpa using e) a2 b2]
def Ty.pv (t : Ty) (x : t.sem) : PV := cond t.one (.f (t.fv x)) (.agg ((t.cells x).map .f))
def Ty.en (t : Ty) : PEn t.sem := ⟨t.pv, fun x y h => by
 unfold Ty.pv at h
 cases ht : t.one with
 | true =>
   rw [ht] at h;injection h with h;exact t.inj x y (by rw [Ty.cells_one ht, Ty.cells_one ht, h])
 | false =>
   rw [ht] at h;injection h with h
   exact t.inj x y (q5U _ _ h), fun P Z Z' H x y v a b => by
 unfold Ty.pv at a b
 cases ht : t.one with
 | true =>
   rw [ht] at a b
   cases a with
   | f a => cases b with
     | f b => exact t.uniq (vs := [v]) (by rw [Ty.cells_one ht]; exact .cons a ⟨rfl, fun i x v h => by simp at h⟩) (by rw [Ty.cells_one ht]; exact .cons b ⟨rfl, fun i x v h => by simp at h⟩)
 | false =>
   rw [ht] at a b;obtain ⟨vs, rfl, h1⟩ := VR.zBU a;obtain ⟨vs', e, h2⟩ := VR.zBU b;cases e
   exact t.uniq (qEB h1) (qEB h2)⟩
@[reducible] def TyL : List Ty -> Type
  | [] => Unit
  | [t] => t.sem
  | t :: u :: ts => t.sem × TyL (u :: ts)
def pvL : (ts : List Ty) -> TyL ts -> List PV
 | [], _ => []
 | [t], x => [t.pv x]
 | t :: u :: ts, x => t.pv x.1 :: pvL (u :: ts) x.2
theorem qUU : ∀ (ts : List Ty) (x y : TyL ts), pvL ts x = pvL ts y -> x = y
 | [], _, _, _ => rfl
 | [t], x, y, h => by injection h with h; exact t.en.inj x y h
 | t :: u :: ts, x, y, h => by
   injection h with h1 h2;exact Prod.ext (t.en.inj _ _ h1) (qUU (u :: ts) _ _ h2)
theorem qNL : ∀ (ts : List Ty) (x y : TyL ts) (vs : List Value), VRL P Z H (fun _ => none) (pvL ts x) vs -> VRL P Z' H (fun _ => none) (pvL ts y) vs -> x = y
 | [], _, _, _, _, _ => rfl
 | [t], x, y, vs, a, b => by
   obtain ⟨v, vs', rfl, a1, _⟩ := a.q9G;obtain ⟨v', vs2, e, b1, _⟩ := b.q9G;cases e;exact t.en.uniq P Z Z' H x y v a1 b1
 | t :: u :: ts, x, y, vs, a, b => by
   obtain ⟨v, vs', rfl, a1, a2⟩ := a.q9G;obtain ⟨v', vs2, e, b1, b2⟩ := b.q9G;cases e;exact Prod.ext (t.en.uniq P Z Z' H _ _ v a1 b1) (qNL (u :: ts) _ _ _ a2 b2)
def enL (ts : List Ty) : AEn (TyL ts) := ⟨pvL ts, qUU ts, fun P Z Z' H x y vs a b => qNL ts x y vs a b⟩
def jZ : (ts : List Ty) -> TyL ts -> PV := fun ts x => qCB (pvL ts x)
end Go.Sv
namespace Go.Sv
open Go.Idl
variable [Gc]
variable {P : Program}
variable {b : Bool} {k : Nat}
def q9D (R : Type) : Type := Option R
section
variable {R α σ ρ : Type}
def q9D.run (t : q9D R) : Option R := t
def q9D.fail : q9D R := (none : Option R)
def q9D.ret (r : R) : q9D R := some r
def q9D.ite (b : Bool) (x y : q9D R) : q9D R := cond b x y
noncomputable def q9D.bind (o : Option α) (k : α -> q9D R) : q9D R := Option.rec q9D.fail k o
open Classical in
noncomputable def qIG (x y : Option R) : Option R := if x = y then x else none
noncomputable def q9D.both (x y : q9D R) : q9D R := q9D.bind (qIG x y) .ret
noncomputable def q9D.loop (f : σ -> q9D (σ ⊕ ρ)) (s : σ) (k : ρ -> q9D R) : q9D R := q9D.bind (yK (fun s => (f s).run) s) k
end
theorem run_ite {R : Type} {x y : q9D R} {r : R} (h : (q9D.ite b x y).run = some r) : (b = true ∧ x.run = some r) ∨ (b = false ∧ y.run = some r) := by
 cases b with
 | true => exact .inl ⟨rfl, h⟩
 | false => exact .inr ⟨rfl, h⟩
theorem run_bind {R α : Type} {o : Option α} {k : α -> q9D R} {r : R} (h : (q9D.bind o k).run = some r) : ∃ a, o = some a ∧ (k a).run = some r := by
 cases o with
 | none => cases h
 | some a => exact ⟨a, rfl, h⟩
theorem qWC {R σ ρ : Type} {f : σ -> q9D (σ ⊕ ρ)} {s : σ} {k : ρ -> q9D R} {r : R} (h : (q9D.loop f s k).run = some r) : ∃ a, yK (fun s => (f s).run) s = some a ∧ (k a).run = some r := run_bind h
theorem qTG {R : Type} {x y : Option R} {r : R} (h : qIG x y = some r) : x = some r ∧ y = some r := by
 unfold qIG at h;split at h
 ·rename_i e;exact ⟨h, e ▸ h⟩
 ·cases h
theorem qX4 {R : Type} {x y : q9D R} {r : R} (h : (q9D.both x y).run = some r) : x.run = some r ∧ y.run = some r := by
 obtain ⟨a, h1, h2⟩ := run_bind h;cases h2;exact qTG h1
theorem qQE {R : Type} (x : Option R) : qIG x x = x := by unfold qIG; rw [if_pos rfl]
theorem qE {R : Type} {x : q9D R} {r : R} (h : (cond b x .fail).run = some r) : b = true ∧ x.run = some r := by
 cases b with
 | true => exact ⟨rfl, h⟩
 | false => cases h
inductive SV where
 | d (t : Ty) (x : t.sem)
 | c (v : Value)
 | agg (l : List SV)
 | tup (l : List SV)
 | own (k g n : Nat)
 | sl (k g n o m : Nat)
 | ref (k off w : Nat)
 | elt (k g n w j off : Nat)
 | lp (t : Ty) (xs : List t.sem) (j off : Nat)
 | fn (f : FuncId) (first cap : List SV)
 | unk
 | yv
 | bq
 | mp (k : Nat)
 | opt (b : Bool) (k off w : Nat)
 | rfx (k off w : Nat)
 | etx (k g n w j off : Nat)
section
variable [Yl]
mutual
def SV.enc : SV -> PV
 | .d t x => .f (t.fv x)
 | .c v => fvv v
 | .agg l => .agg (qB l)
 | .tup l => .tup (qB l)
 | .own k _ n => .own k n 0 n
 | .sl k _ n o m => .own k n o m
 | .ref k off w => .ref k w off
 | .elt k _ n w j off => .ref k (n * w) (j * w + off)
 | .lp t xs j off => .lp (List.flatMap t.cells xs) (j * t.w + off)
 | .fn f a b => .fn f (qB a) (qB b)
 | .unk => .unk
 | .yv => .yl Yl.l
 | .bq => .bq
 | .mp k => .mp k
 | .opt b k off w => cond b (.ref k w off) (fvv (.pointer none))
 | .rfx k off w => .ref k w off
 | .etx k _ n w j off => .ref k (n * w) (j * w + off)
def qB : List SV -> List PV
 | [] => []
 | x :: l => x.enc :: qB l
end
theorem qW : ∀ (l : List SV), qB l = l.map SV.enc
 | [] => by simp [qB]
 | x :: l => by simp [qB, qW l]
end
inductive SpO where
 | map (es : List (Value × Value))
 | iter (s : ByteArray) (pos : Nat)
 | mit (t : TypeId) (k since last : Nat) (seen : List Nat)
def yR : Nat -> List (Value × Value) -> List MapEntry
 | _, [] => []
 | i, p :: l => ⟨p.1, p.2, i⟩ :: yR (i + 1) l
def SpO.enc : SpO -> PO
 | .map es => ⟨1000000001, false, kH (List.length es) (yR 0 es)⟩
 | .iter s pos => ⟨1000000000, false, qHW s pos⟩
 | .mit _ k since last seen => ⟨1000000002, false, qMD (.mp k) since last seen⟩
inductive SO where
 | spc (w : Nat) (x : SpO)
 | cells (el : TypeId) (w : Nat) (l : List SV)
 | list (el : TypeId) (gr : Bool) (g w : Nat) (t : Ty) (xs : List t.sem)
section
variable [Yl]
def SO.enc : SO -> PO
 | .cells el _ l => ⟨el, false, qB l⟩
 | .list el gr _ _ t xs => ⟨el, gr, (List.flatMap t.cells xs).map .f⟩
 | .spc _ x => x.enc
def SO.w : SO -> Nat
 | .cells _ w _ => w
 | .list _ _ _ w _ _ => w
 | .spc w _ => w
structure SH where
 next : Nat
 l : List (Nat × SO)
def slk (k : Nat) : List (Nat × SO) -> Option SO
 | [] => none
 | (j, o) :: l => cond (k == j) (some o) (slk k l)
def sst (k : Nat) (o : SO) : List (Nat × SO) -> List (Nat × SO)
 | [] => []
 | (j, p) :: l => cond (k == j) ((j, o) :: l) ((j, p) :: sst k o l)
def sdl (k : Nat) : List (Nat × SO) -> List (Nat × SO)
 | [] => []
 | (j, p) :: l => cond (k == j) (sdl k l) ((j, p) :: sdl k l)
def qD : List (Nat × SO) -> PHp
 | [] => []
 | (j, o) :: l => (j, o.enc) :: qD l
theorem uM (k : Nat) : ∀ (l : List (Nat × SO)), qA k (qD l) = (slk k l).map SO.enc
 | [] => rfl
 | (j, o) :: l => by
   show cond (k == j) (some o.enc) (qA k (qD l)) = (cond (k == j) (some o) (slk k l)).map SO.enc;cases k == j
   ·exact uM k l
   ·rfl
theorem vG (k : Nat) (o : SO) : ∀ (l : List (Nat × SO)), qD (sst k o l) = kD k o.enc (qD l)
 | [] => rfl
 | (j, p) :: l => by
   show qD (cond (k == j) ((j, o) :: l) ((j, p) :: sst k o l)) = cond (k == j) ((j, o.enc) :: qD l) ((j, p.enc) :: kD k o.enc (qD l));cases k == j
   ·show (j, p.enc) :: qD (sst k o l) = _;rw [vG k o l]; rfl
   ·rfl
theorem mY (k : Nat) : ∀ (l : List (Nat × SO)), qD (sdl k l) = rP k (qD l)
 | [] => rfl
 | (j, p) :: l => by
   show qD (cond (k == j) (sdl k l) ((j, p) :: sdl k l)) = cond (k == j) (rP k (qD l)) ((j, p.enc) :: rP k (qD l));cases k == j
   ·show (j, p.enc) :: qD (sdl k l) = _;rw [mY k l]; rfl
   ·exact mY k l
end
theorem qCI {k j : Nat} {o : SO} (hj : j ≠ k) : ∀ (l : List (Nat × SO)), slk j (sst k o l) = slk j l
 | [] => rfl
 | (i, p) :: l => by
   show slk j (cond (k == i) ((i, o) :: l) ((i, p) :: sst k o l)) = cond (j == i) (some p) (slk j l)
   cases h : k == i with
   | true =>
     have : k = i := by simpa using h
     subst this;show cond (j == k) (some o) (slk j l) = _;rw [show (j == k) = false by simpa using hj]; rfl
   | false =>
     show cond (j == i) (some p) (slk j (sst k o l)) = _;rw [qCI hj l]
theorem qUY {k : Nat} {o p : SO} : ∀ {l : List (Nat × SO)}, slk k l = some p -> slk k (sst k o l) = some o
 | (i, q) :: l, h => by
   have h : cond (k == i) (some q) (slk k l) = some p := h;show slk k (cond (k == i) ((i, o) :: l) ((i, q) :: sst k o l)) = some o
   cases hi : k == i with
   | true =>
     show cond (k == i) (some o) (slk k l) = some o;rw [hi]; rfl
   | false =>
     rw [hi] at h;show cond (k == i) (some q) (slk k (sst k o l)) = some o;rw [hi]; exact qUY (l := l) h
theorem jB {k j : Nat} (hj : j ≠ k) : ∀ (l : List (Nat × SO)), slk j (sdl k l) = slk j l
 | [] => rfl
 | (i, p) :: l => by
   show slk j (cond (k == i) (sdl k l) ((i, p) :: sdl k l)) = cond (j == i) (some p) (slk j l)
   cases h : k == i with
   | true =>
     have : k = i := by simpa using h
     subst this;rw [show (j == k) = false by simpa using hj];exact jB hj l
   | false =>
     show cond (j == i) (some p) (slk j (sdl k l)) = _;rw [jB hj l]
theorem qKJ (k : Nat) : ∀ (l : List (Nat × SO)), slk k (sdl k l) = none
 | [] => rfl
 | (i, p) :: l => by
   show slk k (cond (k == i) (sdl k l) ((i, p) :: sdl k l)) = none
   cases h : k == i with
   | true => exact qKJ k l
   | false =>
     show cond (k == i) (some p) (slk k (sdl k l)) = none;rw [h]; exact qKJ k l
theorem zX {j : Nat} {o : SO} {l : List (Nat × SO)} (hj : j ≠ k) : slk j ((k, o) :: l) = slk j l := by
 show cond (j == k) (some o) (slk j l) = _;rw [show (j == k) = false by simpa using hj]; rfl
theorem vF {o : SO} {l : List (Nat × SO)} : slk k ((k, o) :: l) = some o := by
 show cond (k == k) (some o) (slk k l) = _;simp
def qWX (h : SH) (k g n : Nat) : Prop := g < h.next ∧ ∀ el gr w t xs, slk k h.l = some (.list el gr g w t xs) -> n = xs.length
mutual
def SV.ok (h : SH) : SV -> Prop
 | .agg l => okL h l
 | .tup l => okL h l
 | .own k g n => qWX h k g n
 | .sl k g n o m => qWX h k g n ∧ o + m <= n
 | .elt k g n _ _ _ => qWX h k g n
 | .etx k g n _ _ _ => qWX h k g n
 | .fn _ a b => okL h a ∧ okL h b
 | _ => True
def okL (h : SH) : List SV -> Prop
 | [] => True
 | x :: l => x.ok h ∧ okL h l
end
theorem zW {h : SH} : ∀ {l : List SV}, okL h l ↔ ∀ x ∈ l, x.ok h
 | [] => by simp [okL]
 | x :: l => by simp [okL, zW (l := l)]
structure OkH (P : Program) (h : SH) : Prop where
 ver : ∀ k ob, slk k h.l = some ob -> ob.w < h.next
 cells : ∀ k el w l, slk k h.l = some (.cells el w l) -> okL h l
 list : ∀ k el gr g w t xs, slk k h.l = some (.list el gr g w t xs) -> g < h.next ∧ szT P el = some t.w ∧ 0 < t.w
structure Keep (h h' : SH) : Prop where
 next : h.next <= h'.next
 same : ∀ k ob, slk k h'.l = some ob -> ob.w < h.next -> slk k h.l = some ob
 len : ∀ k el gr g w t xs, slk k h'.l = some (.list el gr g w t xs) -> g < h.next -> ∃ w0, ∃ xs0 : List t.sem, slk k h.l = some (.list el gr g w0 t xs0) ∧ xs0.length = xs.length
theorem Keep.refl (h : SH) : Keep h h := ⟨zI7 _, fun _ _ h _ => h, fun k el gr g w t xs h _ => ⟨w, xs, h, rfl⟩⟩
theorem Keep.trans {a b c : SH} (x : Keep a b) (y : Keep b c) : Keep a c :=
 ⟨zJQ x.next y.next, fun k ob h hw => x.same k ob (y.same k ob h (zJB hw x.next)) hw, fun k el gr g w t xs h hg => by
   obtain ⟨w1, xs1, h1, e1⟩ := y.len k el gr g w t xs h (zJB hg x.next);obtain ⟨w2, xs2, h2, e2⟩ := x.len k el gr g w1 t xs1 h1 hg
   exact ⟨w2, xs2, h2, e2.trans e1⟩⟩
theorem qWX.keep {h h' : SH} {g n : Nat} (a : qWX h k g n) (b : Keep h h') : qWX h' k g n :=
 ⟨zJB a.1 b.next, fun el gr w t xs hk => by
   obtain ⟨w0, xs0, h0, e0⟩ := b.len k el gr g w t xs hk a.1
   rw [<- e0]; exact a.2 el gr w0 t xs0 h0⟩
mutual
theorem SV.ok.keep {h h' : SH} (b : Keep h h') : ∀ {x : SV}, x.ok h -> x.ok h'
 | .agg l, a => by simp only [SV.ok] at a ⊢; exact qK b a
 | .tup l, a => by simp only [SV.ok] at a ⊢; exact qK b a
 | .own k g n, a => by simp only [SV.ok] at a ⊢; exact a.keep b
 | .sl k g n o m, a => by simp only [SV.ok] at a ⊢; exact ⟨a.1.keep b, a.2⟩
 | .elt k g n w j off, a => by simp only [SV.ok] at a ⊢; exact a.keep b
 | .etx k g n w j off, a => by simp only [SV.ok] at a ⊢; exact a.keep b
 | .fn f x y, a => by simp only [SV.ok] at a ⊢; exact ⟨qK b a.1, qK b a.2⟩
 | .d _ _, _ => by simp [SV.ok]
 | .c _, _ => by simp [SV.ok]
 | .ref _ _ _, _ => by simp [SV.ok]
 | .lp _ _ _ _, _ => by simp [SV.ok]
 | .unk, _ => by simp [SV.ok]
 | .yv, _ => by simp [SV.ok]
 | .bq, _ => by simp [SV.ok]
 | .mp _, _ => by simp [SV.ok]
 | .opt _ _ _ _, _ => by simp [SV.ok]
 | .rfx _ _ _, _ => by simp [SV.ok]
theorem qK {h h' : SH} (b : Keep h h') : ∀ {l : List SV}, okL h l -> okL h' l
 | [], _ => by simp [okL]
 | x :: l, a => by simp only [okL] at a ⊢; exact ⟨SV.ok.keep b a.1, qK b a.2⟩
end
def SH.new (h : SH) (k : Nat) (f : Nat -> SO) : SH := ⟨h.next + 1, (k, f h.next) :: h.l⟩
def SH.put (h : SH) (k : Nat) (f : Nat -> SO) : SH := ⟨h.next + 1, sst k (f h.next) h.l⟩
def SH.del (h : SH) (k : Nat) : SH := ⟨h.next, sdl k h.l⟩
def q42 (P : Program) (h : SH) (n : Nat) : SO -> Prop
 | .cells _ w l => w = n ∧ okL h l
 | .list el _ g w t _ => w = n ∧ g = n ∧ szT P el = some t.w ∧ 0 < t.w
 | .spc w _ => w = n
theorem qX3 {h : SH} {f : Nat -> SO} (hw : (f h.next).w = h.next) (hg : ∀ el gr g w t xs, f h.next = .list el gr g w t xs -> g = h.next) : Keep h (h.new k f) :=
 ⟨zMS _, fun j ob hj hlt => by
   by_cases e : j = k
   ·subst e; rw [show slk j (h.new j f).l = some (f h.next) from vF] at hj;cases hj; omega
   ·rwa [show slk j (h.new k f).l = slk j h.l from zX e] at hj, fun j el gr g w t xs hj hlt => by
   by_cases e : j = k
   ·subst e; rw [show slk j (h.new j f).l = some (f h.next) from vF] at hj;have := hg _ _ _ _ _ _ (zJ5 hj);omega
   ·rw [show slk j (h.new k f).l = slk j h.l from zX e] at hj
    exact ⟨w, xs, hj, rfl⟩⟩
theorem xW {h : SH} {f : Nat -> SO} (a : OkH P h) (hf : q42 P h h.next (f h.next)) : Keep h (h.new k f) ∧ OkH P (h.new k f) := by
 have hw : (f h.next).w = h.next := by
  cases hq : f h.next with
  | cells el w l => rw [hq] at hf; exact hf.1
  | list el gr g w t xs => rw [hq] at hf; exact hf.1
  | spc w x => rw [hq] at hf; exact hf
 have hk : Keep h (h.new k f) := qX3 hw fun el gr g w t xs e => by rw [e] at hf; exact hf.2.1
 refine ⟨hk, ⟨fun j ob hj => ?_, fun j el w l hj => ?_, fun j el gr g w t xs hj => ?_⟩⟩
 ·by_cases e : j = k
  ·subst e; rw [show slk j (h.new j f).l = some (f h.next) from vF] at hj;cases hj; rw [hw]; exact zJ1 _
  ·rw [show slk j (h.new k f).l = slk j h.l from zX e] at hj;exact zKU (a.ver j ob hj)
 ·by_cases e : j = k
  ·subst e; rw [show slk j (h.new j f).l = some (f h.next) from vF] at hj;rw [zJ5 hj] at hf;exact qK hk hf.2
  ·rw [show slk j (h.new k f).l = slk j h.l from zX e] at hj;exact qK hk (a.cells j el w l hj)
 ·by_cases e : j = k
  ·subst e; rw [show slk j (h.new j f).l = some (f h.next) from vF] at hj;rw [zJ5 hj] at hf;exact ⟨by rw [hf.2.1]; exact zJ1 _, hf.2.2⟩
  ·rw [show slk j (h.new k f).l = slk j h.l from zX e] at hj;have := a.list j el gr g w t xs hj;exact ⟨zKU this.1, this.2⟩
def q73 (h : SH) (n : Nat) : SO -> SO -> Prop
 | .cells _ _ _, .cells _ w' l' => w' = n ∧ okL h l'
 | .list el gr g _ t xs, ob' => ∃ xs' : List t.sem, ob' = .list el gr g n t xs' ∧ xs.length = xs'.length
 | .spc _ _, .spc w' _ => w' = n
 | _, _ => False
theorem aB {h : SH} {f : Nat -> SO} {ob : SO} (a : OkH P h) (hk : slk k h.l = some ob) (hf : q73 h h.next ob (f h.next)) : Keep h (h.put k f) ∧ OkH P (h.put k f) := by
 have hs : slk k (h.put k f).l = some (f h.next) := qUY hk;have hn : ∀ j, j ≠ k -> slk j (h.put k f).l = slk j h.l := fun j hj => qCI hj _
 have hw : (f h.next).w = h.next := by
  cases ob with
  | cells el w l =>
    cases hq : f h.next with
    | cells el' w' l' => rw [hq] at hf; exact hf.1
    | list => rw [hq] at hf; exact hf.elim
    | spc => rw [hq] at hf; exact hf.elim
  | spc w0 x0 =>
    cases hq : f h.next with
    | spc w' x' => rw [hq] at hf; exact hf
    | list => rw [hq] at hf; exact hf.elim
    | cells => rw [hq] at hf; exact hf.elim
  | list el gr g w t xs =>
    obtain ⟨xs', e, _⟩ := hf;rw [e]; rfl
 have hkp : Keep h (h.put k f) := by
  refine ⟨zMS _, fun j o hj hlt => ?_, fun j el gr g w t xs hj hlt => ?_⟩
  ·by_cases e : j = k
   ·subst e; rw [hs] at hj; cases hj; omega
   ·rwa [hn j e] at hj
  ·by_cases e : j = k
   ·subst e;rw [hs] at hj;have hj := zJ5 hj
    cases ob with
    | cells el0 w0 l0 =>
      rw [hj] at hf;exact hf.elim
    | spc w0 x0 =>
      rw [hj] at hf;exact hf.elim
    | list el0 gr0 g0 w0 t0 xs0 =>
      obtain ⟨xs', e2, e3⟩ := hf;rw [e2] at hj;injection hj with a1 a2 a3 a4 a5 a6;subst a1 a2 a3 a5;cases a6;exact ⟨w0, xs0, hk, e3⟩
   ·rw [hn j e] at hj; exact ⟨w, xs, hj, rfl⟩
 refine ⟨hkp, ⟨fun j o hj => ?_, fun j el w l hj => ?_, fun j el gr g w t xs hj => ?_⟩⟩
 ·by_cases e : j = k
  ·subst e; rw [hs] at hj; cases hj; rw [hw]; exact zJ1 _
  ·rw [hn j e] at hj; exact zKU (a.ver j o hj)
 ·by_cases e : j = k
  ·subst e;rw [hs] at hj;have hj := zJ5 hj
   cases ob with
   | cells el0 w0 l0 => rw [hj] at hf; exact qK hkp hf.2
   | spc w0 x0 => rw [hj] at hf; exact hf.elim
   | list el0 gr0 g0 w0 t0 xs0 =>
     obtain ⟨xs', e2, e3⟩ := hf;rw [e2] at hj; cases hj
  ·rw [hn j e] at hj; exact qK hkp (a.cells j el w l hj)
 ·by_cases e : j = k
  ·subst e;rw [hs] at hj;have hj := zJ5 hj
   cases ob with
   | cells el0 w0 l0 => rw [hj] at hf; exact hf.elim
   | spc w0 x0 => rw [hj] at hf; exact hf.elim
   | list el0 gr0 g0 w0 t0 xs0 =>
     obtain ⟨xs', e2, e3⟩ := hf;rw [e2] at hj;injection hj with a1 a2 a3 a4 a5 a6;subst a1 a2 a3 a5;have := a.list j _ _ _ _ _ _ hk;exact ⟨zKU this.1, this.2⟩
  ·rw [hn j e] at hj;have := a.list j el gr g w t xs hj;exact ⟨zKU this.1, this.2⟩
theorem dR {h : SH} (a : OkH P h) : Keep h (h.del k) ∧ OkH P (h.del k) := by
 have hl : ∀ j ob, slk j (h.del k).l = some ob -> slk j h.l = some ob := fun j ob hj => by
  by_cases e : j = k
  ·subst e; rw [show slk j (h.del j).l = none from qKJ j _] at hj; cases hj
  ·rwa [show slk j (h.del k).l = slk j h.l from jB e _] at hj
 have hkp : Keep h (h.del k) := ⟨zI7 _, fun j ob hj _ => hl j ob hj, fun j el gr g w t xs hj _ => ⟨w, xs, hl _ _ hj, rfl⟩⟩
 exact ⟨hkp, ⟨fun j ob hj => a.ver j ob (hl j ob hj), fun j el w l hj => qK hkp (a.cells j el w l (hl _ _ hj)), fun j el gr g w t xs hj => a.list j el gr g w t xs (hl _ _ hj)⟩⟩
def GV (Γ : Option Type) : Type := match Γ with
 | none => Unit
 | some γ => γ
def GS (Γ : Option Type) (S : Type) : Type := match Γ with
 | none => S
 | some γ => γ × S
def gj : {Γ : Option Type} -> {S : Type} -> GV Γ -> S -> GS Γ S
 | none, _, _, s => s
 | some _, _, g, s => (g, s)
def g1 : {Γ : Option Type} -> {S : Type} -> GS Γ S -> GV Γ
 | none, _, _ => ()
 | some _, _, p => p.1
def g2 : {Γ : Option Type} -> {S : Type} -> GS Γ S -> S
 | none, _, s => s
 | some _, _, p => p.2
theorem q0M {Γ : Option Type} {S : Type} {g : GV Γ} {s : S} : g1 (gj g s) = g := by cases Γ <;> rfl
theorem qZU {Γ : Option Type} {S : Type} {g : GV Γ} {s : S} : g2 (gj g s) = s := by cases Γ <;> rfl
structure Ent where
 as : List Ty
 rs : List Ty
 F : TyL as -> Option (TyL rs)
abbrev jE := List (FuncId × Ent)
def slT (g : FuncId) : jE -> Option Ent
 | [] => none
 | (k, e) :: l => cond (Nat.beq g k) (some e) (slT g l)
structure Sh where
 d : List Nat
 o : List Nat
 s : List (Nat × Nat)
 v : List (Nat × TypeId)
 ex : List Nat
 b : List (Nat × List (Option Nat)) := []
 bv : List (Nat × Nat × TypeId × Nat) := []
structure Ab where
 A : List Ty -> Type
 f : ∀ ts, TyL ts -> A ts
def Ab.id : Ab := ⟨fun ts => TyL ts, fun _ s => s⟩
structure An where
 fz : List (Nat × List (Nat × TypeId))
 lp : List (Nat × Sh)
 rg : List (Nat × Sh) := []
 ab : List (Nat × Ab) := []
def lkA.{u} {α : Type u} (i : Nat) : List (Nat × α) -> Option α
 | [] => none
 | (j, x) :: l => cond (Nat.beq i j) (some x) (lkA i l)
structure q91 where
 as : List Ty
 ys : List Ty
 yt : List TypeId
 F : TyL as -> (γ : Type) -> (γ -> TyL ys -> Option (γ × Bool)) -> γ -> Option γ
def slI (g : FuncId) : List (FuncId × q91) -> Option q91
 | [] => none
 | (k, e) :: l => cond (Nat.beq g k) (some e) (slI g l)
structure YI (Γ : Type) where
 ys : List Ty
 yt : List TypeId
 stp : Γ -> TyL ys -> Option (Γ × Bool)
def yi0 : YI Unit := ⟨[], [], fun _ _ => none⟩
abbrev CIT : Type 1 := (R : Type) -> Nm -> FuncId -> List SV -> SH -> (SV -> SH -> q9D R) -> q9D R
end Go.Sv
namespace Go.Sv
open Go.Idl
variable {a b env l : List SV} {el t : TypeId} {ik k : IntKind} {j n off : Nat} {v x : SV} {ys : List Int}
noncomputable section
variable [Gc]
variable [Yl]
variable {P : Program} {h : SH} {R : Type} {r : R}
def q40 : Value -> SV
 | .agg cs => cond (kJ okC cs.toList) (.agg (xY .c cs.toList)) .unk
 | .tuple cs => cond (kJ okC cs.toList) (.tup (xY .c cs.toList)) .unk
 | v => cond (okC v) (.c v) .unk
def xH (env : List SV) : Operand -> SV
 | .tmp t => (zA env t).getD .unk
 | .const v => q40 v
 | .global _ => .unk
 | .func g => .c (.func (.func g) #[] #[])
theorem q61 : ∀ (l : List Value), qB (xY .c l) = xY fvv l
 | [] => by simp [xY, qB]
 | v :: l => by
   show qB (.c v :: xY .c l) = fvv v :: xY fvv l;simp [qB, q61 l, SV.enc]
omit [Yl] in
theorem q6V : ∀ (l : List Value), okL h (xY .c l)
 | [] => by simp [xY, okL]
 | v :: l => by
   show okL h (.c v :: xY .c l);simp [okL, q6V l, SV.ok]
theorem qV4 (v : Value) : ofC v = (q40 v).enc := by
 cases v with
 | agg cs =>
   show cond _ _ _ = (cond (kJ okC cs.toList) (SV.agg (xY .c cs.toList)) SV.unk).enc;cases kJ okC cs.toList
   ·simp [SV.enc]
   ·simp [SV.enc, q61]
 | tuple cs =>
   show cond _ _ _ = (cond (kJ okC cs.toList) (SV.tup (xY .c cs.toList)) SV.unk).enc;cases kJ okC cs.toList
   ·simp [SV.enc]
   ·simp [SV.enc, q61]
 | _ =>
   simp only [ofC, q0T, q40];cases okC _ <;> simp [SV.enc]
omit [Yl] in
theorem q0J (v : Value) : (q40 v).ok h := by
 cases v with
 | agg cs =>
   show (cond (kJ okC cs.toList) (.agg (xY .c cs.toList)) .unk : SV).ok h;cases kJ okC cs.toList
   ·simp [SV.ok]
   ·simp [SV.ok, q6V]
 | tuple cs =>
   show (cond (kJ okC cs.toList) (.tup (xY .c cs.toList)) .unk : SV).ok h;cases kJ okC cs.toList
   ·simp [SV.ok]
   ·simp [SV.ok, q6V]
 | _ =>
   simp only [q40];cases okC _ <;> simp [SV.ok]
theorem zD (env : List SV) (t : Nat) : zA (qB env) t = (zA env t).map SV.enc := by
 rw [qF, qF, qW, zJK]
omit [Yl] in
theorem dW {t : Nat} (ho : okL h env) (hx : zA env t = some x) : x.ok h := by
 rw [qF] at hx;exact zW.1 ho x (zJ8 hx)
theorem qL (env : List SV) (x : Operand) : qI (qB env) x = (xH env x).enc := by
 cases x with
 | tmp t =>
   show (zA (qB env) t).getD .unk = ((zA env t).getD .unk).enc;rw [zD];cases zA env t <;> simp [SV.enc]
 | const v => exact qV4 v
 | global g => simp [qI, xH, SV.enc]
 | func g => simp [qI, xH, SV.enc]
omit [Yl] in
theorem oU (ho : okL h env) (x : Operand) : (xH env x).ok h := by
 cases x with
 | tmp t =>
   show ((zA env t).getD .unk).ok h
   cases hx : zA env t with
   | none => simp [SV.ok]
   | some y => exact dW ho hx
 | const v => exact q0J v
 | global g => simp [xH, SV.ok]
 | func g => simp [xH, SV.ok]
def asI : SV -> Option (IntKind × Int)
 | .d (.int k) x => some (k, x)
 | .c (.int k x) => some (k, x)
 | _ => none
def asB : SV -> Option Bool
 | .d .bool x => some x
 | .c (.bool x) => some x
 | _ => none
def asS : SV -> Option ByteArray
 | .d .str x => some x
 | .c (.string x) => some x
 | _ => none
theorem z8 {x : Int} (e : asI v = some (k, x)) : v.enc = fvv (.int k x) := by
 unfold asI at e;split at e
 ·cases e; simp [SV.enc, Ty.fv, fvv]
 ·cases e; simp [SV.enc]
 ·cases e
theorem pK {x : Bool} (e : asB v = some x) : v.enc = fvv (.bool x) := by
 unfold asB at e;split at e
 ·cases e; simp [SV.enc, Ty.fv, fvv]
 ·cases e; simp [SV.enc]
 ·cases e
theorem u6 {x : ByteArray} (e : asS v = some x) : v.enc = fvv (.string x) := by
 unfold asS at e;split at e
 ·cases e; simp [SV.enc, Ty.fv, fvv]
 ·cases e; simp [SV.enc]
 ·cases e
def Ty.svs : (t : Ty) -> t.sem -> List SV
 | .int k, x => [.d (.int k) x]
 | .bool, x => [.d .bool x]
 | .str, x => [.d .str x]
 | .unit, _ => []
 | .list el t, x => [.d (.list el t) x]
 | .pair a b, x => a.svs x.1 ++ b.svs x.2
 | .raw, x => [.d .raw x]
 | .ol el k, x => [.d (.ol el k) x]
 | .nif, x => [.d .nif x]
theorem mI (a b : List SV) : qB (a ++ b) = qB a ++ qB b := by simp [qW]
theorem uY : ∀ (t : Ty) (x : t.sem), qB (t.svs x) = (t.cells x).map .f
 | .int k, x => by simp [Ty.svs, Ty.cells, qB, SV.enc, Ty.fv]
 | .bool, x => by simp [Ty.svs, Ty.cells, qB, SV.enc, Ty.fv]
 | .str, x => by simp [Ty.svs, Ty.cells, qB, SV.enc, Ty.fv]
 | .unit, x => by simp [Ty.svs, Ty.cells, qB]
 | .list el t, x => by simp [Ty.svs, Ty.cells, qB, SV.enc, Ty.fv]
 | .raw, x => by simp [Ty.svs, Ty.cells, qB, SV.enc, Ty.fv]
 | .ol el k, x => by simp [Ty.svs, Ty.cells, qB, SV.enc, Ty.fv]
 | .nif, x => by simp [Ty.svs, Ty.cells, qB, SV.enc, Ty.fv]
 | .pair a b, x => by
   show qB (a.svs x.1 ++ b.svs x.2) = (a.cells x.1 ++ b.cells x.2).map .f;rw [mI, uY a, uY b, zJ9]
omit [Yl] in
theorem fG (x : okL h a) (y : okL h b) : okL h (a ++ b) := zW.2 fun z hz => by
 rcases zKI.1 hz with q | q
 ·exact zW.1 x z q
 ·exact zW.1 y z q
omit [Yl] in
theorem qDA : ∀ (t : Ty) (x : t.sem), okL h (t.svs x)
 | .int k, x => by simp [Ty.svs, okL, SV.ok]
 | .bool, x => by simp [Ty.svs, okL, SV.ok]
 | .str, x => by simp [Ty.svs, okL, SV.ok]
 | .unit, x => by simp [Ty.svs, okL]
 | .list el t, x => by simp [Ty.svs, okL, SV.ok]
 | .raw, x => by simp [Ty.svs, okL, SV.ok]
 | .ol el k, x => by simp [Ty.svs, okL, SV.ok]
 | .nif, x => by simp [Ty.svs, okL, SV.ok]
 | .pair a b, x => fG (qDA a x.1) (qDA b x.2)
def q37 (k : IntKind) (v : SV) : Option Int := match asI v with
 | some (k', x) => cond (decide (k' = k)) (some x) none
 | none => none
def q7K (el : TypeId) (t : Ty) : SV -> Option (List t.sem)
 | .d (.list el' t') xs => if e : t' = t then cond (Nat.beq el' el) (some (e ▸ xs)) none else none
 | _ => none
def asR : SV -> Option (List (Value × Value))
 | .d .raw x => some x
 | _ => none
def q1W (el : TypeId) (k : IntKind) : SV -> Option (List Int)
 | .d (.ol el' k') xs => cond (Nat.beq el' el && decide (k' = k)) (some xs) none
 | .c (.slice none 0 0) => some []
 | _ => none
def q0L : SV -> Option Unit
 | .d .nif _ => some ()
 | .c .nilIface => some ()
 | _ => none
def Ty.zDL : (t : Ty) -> SV -> Option t.sem
 | .int k, v => q37 k v
 | .bool, v => asB v
 | .str, v => asS v
 | .list el t, v => q7K el t v
 | .unit, _ => none
 | .pair _ _, _ => none
 | .raw, v => asR v
 | .ol el k, v => q1W el k v
 | .nif, v => q0L v
theorem rY {x : Int} (e : q37 k v = some x) : v.enc = fvv (.int k x) := by
 unfold q37 at e;split at e
 ·rename_i k' x' hx
  cases hk : decide (k' = k) with
  | false => rw [hk] at e; cases e
  | true =>
    rw [hk] at e;cases e;have : k' = k := by simpa using hk
    subst this;exact z8 hx
 ·cases e
omit [Yl] in
theorem qXO {t : Ty} {x : List t.sem} (e : q7K el t v = some x) : v = .d (.list el t) x := by
 unfold q7K at e;split at e
 ·rename_i el' t' xs;split at e
  ·rename_i ht;subst ht
   cases hk : Nat.beq el' el with
   | false => rw [hk] at e; cases e
   | true =>
     rw [hk] at e;cases e;have : el' = el := zI6 hk;subst this;rfl
  ·cases e
 ·cases e
theorem qSY {x : List Int} (e : q1W el k v = some x) : v.enc = .f (fvo el k x) := by
 unfold q1W at e;split at e
 ·rename_i el' k' xs
  cases hk : (Nat.beq el' el && decide (k' = k)) with
  | false => rw [hk] at e; cases e
  | true =>
    rw [hk] at e;cases e;rw [zI5] at hk;have h1 : el' = el := zI6 hk.1;have h2 : k' = k := by simpa using hk.2
    subst h1 h2;simp [SV.enc, Ty.fv]
 ·cases e; simp [SV.enc, fvo, fvv]
 ·cases e
theorem rJ : ∀ {t : Ty} {v : SV} {x : t.sem}, t.zDL v = some x -> v.enc = .f (t.fv x) ∧ t.one = true
 | .int k, v, x, e => ⟨rY e, rfl⟩
 | .bool, v, x, e => ⟨pK e, rfl⟩
 | .str, v, x, e => ⟨u6 e, rfl⟩
 | .list el t, v, x, e => ⟨by rw [qXO e]; simp [SV.enc], rfl⟩
 | .ol el k, v, x, e => ⟨qSY e, rfl⟩
 | .nif, v, x, e => by
   have e : q0L v = some x := e;refine ⟨?_, rfl⟩;unfold q0L at e;split at e
   ·simp [SV.enc, Ty.fv]
   ·simp [SV.enc, Ty.fv, fvv]
   ·cases e
 | .raw, v, x, e => by
   have e : asR v = some x := e;refine ⟨?_, rfl⟩;unfold asR at e;split at e
   ·cases e; simp [SV.enc]
   ·cases e
 | .unit, v, x, e => by cases e
 | .pair a b, v, x, e => by cases e
def qWK (t : Ty) : List SV -> Option (t.sem × List SV)
 | v :: l => match t.zDL v with
   | some x => some (x, l)
   | none => none
 | [] => none
def Ty.zB7 : (t : Ty) -> List SV -> Option (t.sem × List SV)
 | .int k, l => qWK (.int k) l
 | .bool, l => qWK .bool l
 | .str, l => qWK .str l
 | .raw, l => qWK .raw l
 | .ol el k, l => qWK (.ol el k) l
 | .nif, l => qWK .nif l
 | .list el t, l => qWK (.list el t) l
 | .unit, l => some ((), l)
 | .pair a b, l => match a.zB7 l with
   | some (x, l1) => (match b.zB7 l1 with
     | some (y, l2) => some ((x, y), l2)
     | none => none)
   | none => none
theorem uW {t : Ty} {l' : List SV} {x : t.sem} (e : qWK t l = some (x, l')) : qB l = (t.cells x).map .f ++ qB l' := by
 cases l with
 | nil => cases e
 | cons v l =>
   unfold qWK at e;simp only at e;split at e
   ·rename_i y hy;cases e;obtain ⟨h1, h2⟩ := rJ hy;rw [Ty.cells_one h2];simp [qB, h1]
   ·cases e
theorem sK : ∀ {t : Ty} {l l' : List SV} {x : t.sem}, t.zB7 l = some (x, l') -> qB l = (t.cells x).map .f ++ qB l'
 | .int k, l, l', x, e => uW e
 | .bool, l, l', x, e => uW e
 | .str, l, l', x, e => uW e
 | .raw, l, l', x, e => uW e
 | .ol _ _, l, l', x, e => uW e
 | .nif, l, l', x, e => uW e
 | .list el t, l, l', x, e => uW e
 | .unit, l, l', x, e => by cases e; simp [Ty.cells]
 | .pair a b, l, l', x, e => by
   unfold Ty.zB7 at e;split at e
   ·rename_i x1 l1 h1;split at e
    ·rename_i y l2 h2;cases e;show qB l = (a.cells x1 ++ b.cells y).map .f ++ qB l';rw [sK h1, sK h2, zJ9, zJ0]
    ·cases e
   ·cases e
def Ty.zBV (t : Ty) (l : List SV) : Option t.sem := match t.zB7 l with
 | some (x, []) => some x
 | _ => none
theorem nN {t : Ty} {x : t.sem} (e : t.zBV l = some x) : qB l = (t.cells x).map .f := by
 unfold Ty.zBV at e;split at e
 ·rename_i y hy;cases e;rw [sK hy]; simp [qB]
 ·cases e
def qGI (P : Program) (t : TypeId) (l : List SV) (off : Nat) : Option SV := match qL2 P t with
 | some true => (match szT P t with
   | some n => cond (Nat.ble (off + n) l.length) (some (.agg ((l.drop off).take n))) none
   | none => none)
 | some false => zA l off
 | none => none
omit [Yl] in
theorem qK3 {b : List SV} (x : okL h a) (hs : ∀ z ∈ b, z ∈ a) : okL h b := zW.2 fun z hz => zW.1 x z (hs z hz)
theorem qFI (e : qGI P t l off = some v) : dV P t (qB l) off = some v.enc ∧ (okL h l -> v.ok h) := by
 unfold qGI at e;unfold dV;split at e
 ·rename_i ha;rw [ha];simp only;split at e
  ·rename_i n hn;rw [hn];simp only
   cases hc : Nat.ble (off + n) l.length with
   | false => rw [hc] at e; cases e
   | true =>
     rw [hc] at e;cases e;refine ⟨by rw [qW, zJO, hc]; simp [SV.enc, qW, zLG, zLH], fun ho => ?_⟩;simp only [SV.ok];exact qK3 ho fun z hz => zLS (zMC hz)
  ·cases e
 ·rename_i ha;rw [ha];simp only;rw [zD, e];exact ⟨rfl, fun ho => dW ho e⟩
 ·cases e
theorem tJ {t' : Ty} {xs : List t'.sem} {x : t'.sem} (hx : xs[j]? = some x) (e : qGI P t (t'.svs x) off = some v) :
 dV P t ((xs.flatMap t'.cells).map .f) (j * t'.w + off) = some v.enc ∧ qLL P t (xs.flatMap t'.cells) (j * t'.w + off) = some v.enc ∧ v.ok h := by
 have h0 := qFI (h := h) e;refine ⟨?_, ?_, h0.2 (qDA t' x)⟩
 all_goals
  have h1 := h0.1;rw [uY] at h1;unfold dV at h1
 ·unfold dV;split at h1
  ·rename_i ha;split at h1
   ·rename_i n hn
    cases hc : Nat.ble (off + n) ((t'.cells x).map PV.f).length with
    | false => rw [hc] at h1; cases h1
    | true =>
      rw [hc] at h1
      have hle : off + n <= t'.w := by
       have := zJE hc;rw [zJO, t'.q9N] at this;exact this
      rw [show Nat.ble (j * t'.w + off + n) ((xs.flatMap t'.cells).map PV.f).length = true from zJU (by rw [zJO]; exact qES hx hle)];simp only [cond_true] at h1 ⊢;rw [<- h1, <- zLG, <- zLH, qHJ hx hle, <- zLG, <- zLH]
   ·cases h1
  ·rename_i ha;rw [qF, zJK] at h1 ⊢
   have hlt : off < t'.w := by
    rw [<- t'.q9N x]
    cases hq : (t'.cells x)[off]? with
    | none => rw [hq] at h1; cases h1
    | some y => exact (zJA.1 hq).1
   rw [Go.Sv.flat_get hx hlt]; exact h1
  ·cases h1
 ·unfold qLL;split at h1
  ·rename_i ha;split at h1
   ·rename_i n hn
    cases hc : Nat.ble (off + n) ((t'.cells x).map PV.f).length with
    | false => rw [hc] at h1; cases h1
    | true =>
      rw [hc] at h1
      have hle : off + n <= t'.w := by
       have := zJE hc;rw [zJO, t'.q9N] at this;exact this
      rw [show Nat.ble (j * t'.w + off + n) (xs.flatMap t'.cells).length = true from zJU (qES hx hle)];simp only [cond_true] at h1 ⊢;rw [<- h1, qHJ hx hle, <- zLG, <- zLH]
   ·cases h1
  ·rename_i ha;rw [qF, zJK] at h1
   cases hq : (t'.cells x)[off]? with
   | none => rw [hq] at h1; cases h1
   | some y =>
     rw [hq] at h1
     have hlt : off < t'.w := by
      rw [<- t'.q9N x];exact (zJA.1 hq).1
     rw [Go.Sv.flat_get hx hlt, hq];exact h1
  ·cases h1
def q6P : List SV -> Option IntKind
 | v :: _ => (asI v).map Prod.fst
 | [] => none
def qKF (ik : IntKind) : List SV -> Option (List Int)
 | [] => some []
 | v :: l => match q37 ik v, qKF ik l with
   | some x, some xs => some (x :: xs)
   | _, _ => none
def q64 (off : Nat) (v : Int) (xs : List Int) : Option (List Int) := if off < xs.length then some (xs.set off v) else none
def spread (ik : IntKind) (n : Nat) (ys : List Int) : List SV := (List.range n).map fun i => SV.d (.int ik) (ys.getD i 0 : Int)
theorem aF {ik : IntKind} : ∀ {l : List SV} {xs : List Int}, qKF ik l = some xs -> qB l = xs.map fun x => fvv (.int ik x)
 | [], xs, e => by cases e; simp [qB]
 | v :: l, xs, e => by
   unfold qKF at e;split at e
   ·rename_i x ys hx hy;cases e;simp only [qB, zJM, rY hx, aF hy]
   ·cases e
theorem qC2 (h : ys.length = n) : qB (spread ik n ys) = ys.map fun x => fvv (.int ik x) := by
 rw [qW];unfold spread;rw [zMK];apply zKG;intro i;rw [zJK, zJK];by_cases hi : i < n
 ·rw [zM7 hi, zI9 (by omega : i < ys.length)];simp only [zJJ, Function.comp, zJC];rw [List.getD_eq_getElem?_getD, zI9 (by omega : i < ys.length)];simp [SV.enc, Ty.fv, fvv]
 ·rw [zKE (by simp; omega), zKE (by omega)];rfl
theorem qUD : okL h (spread ik n ys) := zW.2 fun x hx => by
 unfold spread at hx;obtain ⟨i, _, rfl⟩ := zJX.1 hx;simp [SV.ok]
def q2X (P : Program) (t : TypeId) (a : SV) (h : SH) (K : SV -> q9D R) : q9D R := match a with
 | .ref k off w => (match slk k h.l with
   | some (.cells el _ l) => (match qGI P t l off with
     | some v => cond (!(spec P el) && Nat.beq w l.length) (K v) .fail
     | none => .fail)
   | _ => .fail)
 | .elt k g n w j off => (match slk k h.l with
   | some (.list _ _ g' _ t' xs) => cond (Nat.beq g g' && Nat.beq w t'.w) (.bind (xs[j]?) fun x => match qGI P t (t'.svs x) off with
     | some v => K v
     | none => .fail) .fail
   | _ => .fail)
 | .lp t' xs j off => .bind (xs[j]?) fun x => match qGI P t (t'.svs x) off with
   | some v => K v
   | none => .fail
 | .rfx k off w => (match slk k h.l with
   | some (.cells el _ l) => (match q6P l with
     | some ik => (match qKF ik l, qL2 P t with
       | some xs, some false => cond (!(spec P el) && Nat.beq w l.length) (.bind (xs[off]?) fun x => K (.d (.int ik) (x : Int))) .fail
       | _, _ => .fail)
     | none => .fail)
   | _ => .fail)
 | .etx k g n w j off => (match slk k h.l with
   | some (.list _ _ g' _ t' xs) => cond (Nat.beq g g' && Nat.beq w t'.w) (.bind (xs[j]?) fun x => match q6P (t'.svs x) with
     | some ik => (match qKF ik (t'.svs x), qL2 P t with
       | some ys, some false => .bind (ys[off]?) fun z => K (.d (.int ik) (z : Int))
       | _, _ => .fail)
     | none => .fail) .fail
   | _ => .fail)
 | _ => .fail
theorem qV (l : List SV) : (qB l).length = l.length := by rw [qW, zJO]
theorem yT {k : Nat} {ob : SO} {l : List (Nat × SO)} (e : slk k l = some ob) : qA k (qD l) = some ob.enc := by rw [uM, e]; rfl
theorem qR {gr : Bool} {g w : Nat} {t : Ty} {xs : List t.sem} : (SO.list el gr g w t xs).enc.cs.length = xs.length * t.w := by
 show ((xs.flatMap t.cells).map PV.f).length = _;rw [zJO, yM]
theorem qXX {a : SV} {K : SV -> q9D R} (ho : OkH P h) (ha : a.ok h) (e : (q2X P t a h K).run = some r) : ∃ v, bQ P t a.enc (qD h.l) = some v.enc ∧ v.ok h ∧ (K v).run = some r := by
 unfold q2X at e;split at e
 ·rename_i k off w;split at e
  ·rename_i el w' l hk;split at e
   ·rename_i v hv;obtain ⟨h1, h2⟩ := qE e;rw [zI5, zKA] at h1;obtain ⟨hsp, h1⟩ := h1;obtain ⟨h3, h4⟩ := qFI (h := h) hv;refine ⟨v, ?_, h4 (ho.cells _ _ _ _ hk), h2⟩;simp only [SV.enc, bQ, yT hk];show cond (spec P el) none (cond (Nat.beq w (qB l).length) (dV P t (qB l) off) none) = _;rw [qV, h1, hsp];exact h3
   ·cases e
  ·cases e
 ·rename_i k g n w j off;split at e
  ·rename_i el gr g' w' t' xs hk;obtain ⟨h1, h2⟩ := qE e;rw [zI5] at h1;have hg : g = g' := zI6 h1.1;have hw : w = t'.w := zI6 h1.2;subst hg hw;obtain ⟨x, hx, h3⟩ := run_bind h2;split at h3
   ·rename_i v hv;have h5 := tJ (h := h) hx hv;refine ⟨v, ?_, h5.2.2, h3⟩;simp only [SV.ok] at ha;have hn : n = xs.length := ha.2 _ _ _ _ _ hk;simp only [SV.enc, bQ, yT hk];rw [qR, hn, show spec P (SO.list el gr g w' t' xs).enc.el = false from kX (ho.list _ _ _ _ _ _ _ hk).2.1];simp only [pU, cond_true, cond_false];exact h5.1
   ·cases h3
  ·cases e
 ·rename_i t' xs j off;obtain ⟨x, hx, h3⟩ := run_bind e;split at h3
  ·rename_i v hv;have h5 := tJ (h := h) hx hv;exact ⟨v, by simp only [SV.enc, bQ]; exact h5.2.1, h5.2.2, h3⟩
  ·cases h3
 ·rename_i k off w;split at e
  ·rename_i el w' l hk;split at e
   ·rename_i ik hik;split at e
    ·rename_i xs hxs hag;obtain ⟨h1, h2⟩ := qE e;rw [zI5, zKA] at h1;obtain ⟨hsp, h1⟩ := h1;obtain ⟨x, hx, h3⟩ := run_bind h2;refine ⟨_, ?_, by simp [SV.ok], h3⟩;simp only [SV.enc, bQ, yT hk];show cond (spec P el) none (cond (Nat.beq w (qB l).length) (dV P t (qB l) off) none) = _;rw [qV, h1, hsp];simp only [cond_true, cond_false];unfold dV;rw [hag];show zA (qB l) off = _;rw [qF, aF hxs, zJK, hx];simp [Ty.fv, fvv]
    ·cases e
   ·cases e
  ·cases e
 ·rename_i k g n w j off;split at e
  ·rename_i el gr g' w' t' xs hk;obtain ⟨h1, h2⟩ := qE e;rw [zI5] at h1;have hg : g = g' := zI6 h1.1;have hw : w = t'.w := zI6 h1.2;subst hg hw;obtain ⟨x, hx, h3⟩ := run_bind h2;split at h3
   ·rename_i ik hik;split at h3
    ·rename_i ys hys hag;obtain ⟨z, hz, h4⟩ := run_bind h3;refine ⟨_, ?_, by simp [SV.ok], h4⟩;have hn1 : zA (qB (t'.svs x)) off = some (fvv (.int ik z)) := by rw [qF, aF hys, zJK, hz]; rfl
     rw [zD] at hn1;obtain ⟨v0, hv0, hv1⟩ := zJF.1 hn1;have hsp : qGI P t (t'.svs x) off = some v0 := by unfold qGI; rw [hag]; exact hv0
     have h5 := tJ (h := h) hx hsp;simp only [SV.ok] at ha;have hn : n = xs.length := ha.2 _ _ _ _ _ hk;simp only [SV.enc, bQ, yT hk];rw [qR, hn, show spec P (SO.list el gr g w' t' xs).enc.el = false from kX (ho.list _ _ _ _ _ _ _ hk).2.1];simp only [pU, cond_true, cond_false];have h6 := h5.1;rw [hv1] at h6;rw [show (SO.list el gr g w' t' xs).enc.cs = (xs.flatMap t'.cells).map .f from rfl, h6];simp [Ty.fv, fvv]
    ·cases h3
   ·cases h3
  ·cases e
 ·cases e
def Post (P : Program) (h h' : SH) (v : SV) : Prop := Keep h h' ∧ OkH P h' ∧ v.ok h'
def yC : SV -> List SV
 | .agg l => l
 | v => [v]
theorem bI (v : SV) : zB v.enc = qB (yC v) := by
 cases v <;> simp [SV.enc, zB, yC, qB, fvv];rename_i b _ _ _;cases b <;> rfl
omit [Yl] in
theorem qAV (hv : v.ok h) : okL h (yC v) := by
 cases v <;> simp only [yC, okL, SV.ok, and_true] at hv ⊢ <;> exact hv
def qA9 (l : List SV) (i : Nat) (vs : List SV) : List SV := l.take i ++ vs ++ l.drop (i + vs.length)
theorem qBF (l vs : List SV) (i : Nat) : qB (qA9 l i vs) = kK (qB l) i (qB vs) := by
 simp [qA9, kK, qW, zLH, zLG]
omit [Yl] in
theorem qMT {vs : List SV} {i : Nat} (a : okL h l) (b : okL h vs) : okL h (qA9 l i vs) :=
 fG (fG (qK3 a fun z hz => zMC hz) b) (qK3 a fun z hz => zLS hz)
omit [Yl] in
theorem qYP {α : Type} (A B C : List α) (c : List α) (hle : off + c.length <= B.length) :
 (A ++ B ++ C).take (A.length + off) ++ c ++ (A ++ B ++ C).drop (A.length + off + c.length) = A ++ (B.take off ++ c ++ B.drop (off + c.length)) ++ C := by
 rw [zJ0 A B C, List.take_append, zJ2 (by omega), zMN, List.take_append_of_le_length (by omega)];rw [zKX, List.drop_append, List.drop_of_length_le (by omega), zMN, List.nil_append, List.drop_append_of_le_length (by omega)];simp [zJ0]
omit [Yl] in
theorem qDK {t : Ty} {xs : List t.sem} {x : t.sem} (hx : xs[j]? = some x) (y : t.sem) : (xs.set j y).flatMap t.cells = (xs.take j).flatMap t.cells ++ t.cells y ++ (xs.drop (j + 1)).flatMap t.cells := by
 have hl := (zJA.1 hx).1;rw [zLV, if_pos hl, zMH, zJZ, zJ0]
omit [Yl] in
theorem qC7 {t : Ty} {xs : List t.sem} {x y : t.sem} (hx : xs[j]? = some x) {c : List PV} (hle : off + c.length <= t.w) (hy : kK ((t.cells x).map .f) off c = (t.cells y).map .f) :
 kK ((xs.flatMap t.cells).map .f) (j * t.w + off) c = ((xs.set j y).flatMap t.cells).map .f := by
 have hl := (zJA.1 hx).1
 have e0 : xs.set j x = xs := by
  apply zKG;intro i;rw [zJ4];by_cases e : j = i
  ·subst e; rw [if_pos rfl, if_pos hl, hx]
  ·rw [if_neg e]
 have e1 := qDK hx x;rw [e0] at e1;rw [qDK hx y, e1];simp only [zJ9];unfold kK;have hA : (((xs.take j).flatMap t.cells).map PV.f).length = j * t.w := by rw [zJO, yM, zKJ, zK4 (by omega)]
 rw [<- hA, qYP _ _ _ _ (by rw [zJO, t.q9N]; exact hle)];unfold kK at hy;rw [hy]
def qTM (P : Program) (t : TypeId) (a x : SV) (h : SH) (K : SV -> SH -> q9D R) : q9D R := match szT P t with
 | some n => (match a with
   | .ref k off w => (match slk k h.l with
     | some (.cells el _ l) => cond (!(spec P el) && (Nat.beq w l.length && (Nat.beq n (yC x).length && (Nat.ble (off + n) l.length && (pnt x.enc && (qB (yC x)).all dM)))))
        (K (.tup []) (h.put k fun v => .cells el v (qA9 l off (yC x)))) .fail
     | _ => .fail)
   | .elt k g m w j off => (match slk k h.l with
     | some (.list el gr g' _ t' xs) => cond (Nat.beq g g' && (Nat.beq w t'.w && (Nat.beq n (yC x).length && (Nat.ble (off + n) w && (pnt x.enc && (qB (yC x)).all dM)))))
        (.bind (xs[j]?) fun y => match t'.zBV (qA9 (t'.svs y) off (yC x)) with
          | some z => K (.tup []) (h.put k fun v => .list el gr g v t' (List.set xs j z))
          | none => .fail) .fail
     | _ => .fail)
   | .rfx k off w => (match slk k h.l with
     | some (.cells el _ l) => (match q6P l with
       | some ik => (match qKF ik l, q37 ik x with
         | some xs, some v => cond (!(spec P el) && (Nat.beq w l.length && Nat.beq n 1)) (.bind (q64 off v xs) fun ys => K (.tup []) (h.put k fun u => .cells el u (spread ik (List.length xs) ys))) .fail
         | _, _ => .fail)
       | none => .fail)
     | _ => .fail)
   | .etx k g m w j off => (match slk k h.l with
     | some (.list el gr g' _ t' xs) => cond (Nat.beq g g' && (Nat.beq w t'.w && Nat.beq n 1)) (.bind (xs[j]?) fun y => match q6P (t'.svs y) with
       | some ik => (match qKF ik (t'.svs y), q37 ik x with
         | some ys, some v => .bind (q64 off v ys) fun zs => match t'.zBV (spread ik (List.length ys) zs) with
           | some z => K (.tup []) (h.put k fun v => .list el gr g v t' (List.set xs j z))
           | none => .fail
         | _, _ => .fail)
       | none => .fail) .fail
     | _ => .fail)
   | _ => .fail)
 | none => .fail
theorem qR5 {a : SV} {K : SV -> SH -> q9D R} (ho : OkH P h) (ha : a.ok h) (hx : x.ok h) (e : (qTM P t a x h K).run = some r) :
 ∃ h', vP P t a.enc x.enc (qD h.l) = some (qD h'.l) ∧ Keep h h' ∧ OkH P h' ∧ (K (.tup []) h').run = some r := by
 unfold qTM at e;split at e
 ·rename_i n hn;split at e
  ·rename_i k off w;split at e
   ·rename_i el w' l hk;obtain ⟨h1, h2⟩ := qE e;rw [zI5, zKA] at h1;obtain ⟨hsp, h1⟩ := h1;have hp := aB (f := fun v => .cells el v (qA9 l off (yC x))) ho hk ⟨rfl, qMT (ho.cells _ _ _ _ hk) (qAV hx)⟩;refine ⟨_, ?_, hp.1, hp.2, h2⟩;simp only [SV.enc, vP, yT hk, hn];show cond (spec P el) none (cond (Nat.beq w (qB l).length && (Nat.beq n (zB x.enc).length && (Nat.ble (off + n) (qB l).length && (pnt x.enc && (zB x.enc).all dM)))) _ _) = _;rw [bI, qV, qV, h1, hsp];simp only [cond_true];rw [show qD (h.put k fun v => .cells el v (qA9 l off (yC x))).l = kD k (SO.enc (.cells el h.next (qA9 l off (yC x)))) (qD h.l) from vG k _ _];show some (kD k ⟨el, false, kK (qB l) off (qB (yC x))⟩ (qD h.l)) = some (kD k ⟨el, false, qB (qA9 l off (yC x))⟩ (qD h.l));rw [qBF]
   ·cases e
  ·rename_i k g m w j off;split at e
   ·rename_i el gr g' w' t' xs hk;obtain ⟨h1, h2⟩ := qE e;simp only [zI5] at h1;obtain ⟨q1, q2, q3, q4, q5, q6⟩ := h1;have hg : g = g' := zI6 q1;have hw : w = t'.w := zI6 q2;subst hg hw;obtain ⟨y, hy, h3⟩ := run_bind h2;split at h3
    ·rename_i z hz;have hp := aB (f := fun v => .list el gr g v t' (List.set xs j z)) ho hk ⟨_, rfl, by simp⟩;refine ⟨_, ?_, hp.1, hp.2, h3⟩;simp only [SV.ok] at ha;have hm : m = xs.length := ha.2 _ _ _ _ _ hk;have hle : off + n <= t'.w := zJE q4;simp only [SV.enc, vP, yT hk, hn];rw [qR, hm, bI, qV, show spec P (SO.list el gr g w' t' xs).enc.el = false from kX (ho.list _ _ _ _ _ _ _ hk).2.1]
     have hjl : j * t'.w + off + n <= xs.length * t'.w := by
      have := qES hy hle
      rwa [yM] at this
     rw [q3, q5, q6, show Nat.ble (j * t'.w + off + n) (xs.length * t'.w) = true from zJU hjl];simp only [pU, zJ7, cond_true, cond_false];rw [show qD (h.put k fun v => .list el gr g v t' (List.set xs j z)).l = kD k (SO.enc (.list el gr g h.next t' (List.set xs j z))) (qD h.l) from vG k _ _];show some (kD k ⟨el, gr, kK ((xs.flatMap t'.cells).map .f) (j * t'.w + off) (qB (yC x))⟩ (qD h.l)) = some (kD k ⟨el, gr, ((List.set xs j z).flatMap t'.cells).map .f⟩ (qD h.l));have hnl : n = (qB (yC x)).length := by rw [qV]; exact zI6 q3
     rw [qC7 hy (y := z) (by rw [<- hnl]; exact hle) (by rw [<- uY, <- qBF]; exact nN hz)]
    ·cases h3
   ·cases e
  ·rename_i k off w;split at e
   ·rename_i el w' l hk;split at e
    ·rename_i ik hik;split at e
     ·rename_i xs v hxs hv;obtain ⟨h1, h2⟩ := qE e;simp only [zI5, zKA] at h1;obtain ⟨hsp, hw, hn1⟩ := h1;have hn2 := zI6 hn1;subst hn2;obtain ⟨ys, hys, h3⟩ := run_bind h2;unfold q64 at hys;split at hys
      case isFalse => cases hys
      rename_i hlt;cases hys;have hp := aB (f := fun u => .cells el u (spread ik (List.length xs) (xs.set off v))) ho hk ⟨rfl, qUD⟩;refine ⟨_, ?_, hp.1, hp.2, h3⟩;have hel := aF hxs;have hll : (qB l).length = xs.length := by rw [hel, zJO]
      simp only [SV.enc, vP, yT hk, hn];rw [rY hv];show cond (spec P el) none (cond (Nat.beq w (qB l).length && (Nat.beq 1 1 && (Nat.ble (off + 1) (qB l).length && (true && true)))) (some (kD k ⟨el, false, kK (qB l) off [fvv (.int ik v)]⟩ (qD h.l))) none) = _;rw [hsp, show Nat.beq w (qB l).length = true by rw [qV]; exact hw, hll, show Nat.ble (off + 1) xs.length = true from zJU hlt];rw [show qD (h.put k fun u => .cells el u (spread ik (List.length xs) (xs.set off v))).l = kD k (SO.enc (.cells el h.next (spread ik (List.length xs) (xs.set off v)))) (qD h.l) from vG k _ _];show some (kD k ⟨el, false, kK (qB l) off [fvv (.int ik v)]⟩ (qD h.l)) = some (kD k ⟨el, false, qB (spread ik (List.length xs) (xs.set off v))⟩ (qD h.l));rw [qC2 (by simp), hel]
      have : kK (xs.map fun x => fvv (.int ik x)) off [fvv (.int ik v)] = (xs.set off v).map fun x => fvv (.int ik x) := by
       rw [List.map_set, zLV, if_pos (by rw [zJO]; exact hlt)];unfold kK;simp
      rw [this]
     ·cases e
    ·cases e
   ·cases e
  ·rename_i k g m w j off;split at e
   ·rename_i el gr g' w' t' xs hk;obtain ⟨h1, h2⟩ := qE e;simp only [zI5] at h1;obtain ⟨q1, q2, q3⟩ := h1;have hg : g = g' := zI6 q1;have hw : w = t'.w := zI6 q2;have hn2 := zI6 q3;subst hg hw hn2;obtain ⟨y, hy, h3⟩ := run_bind h2;split at h3
    ·rename_i ik hik;split at h3
     ·rename_i ys v hys hv;obtain ⟨zs, hzs, h4⟩ := run_bind h3;split at h4
      ·rename_i z hz;unfold q64 at hzs;split at hzs
       case isFalse => cases hzs
       rename_i hlt;cases hzs;have hp := aB (f := fun v => .list el gr g v t' (List.set xs j z)) ho hk ⟨_, rfl, by simp⟩;refine ⟨_, ?_, hp.1, hp.2, h4⟩;simp only [SV.ok] at ha;have hm : m = xs.length := ha.2 _ _ _ _ _ hk;have hel := aF hys
       have hcw : ys.length = t'.w := by
        have := congrArg List.length hel;rw [uY, zJO, zJO, t'.q9N] at this;exact this.symm
       have hle : off + 1 <= t'.w := by omega
       simp only [SV.enc, vP, yT hk, hn];rw [qR, hm, rY hv, show spec P (SO.list el gr g w' t' xs).enc.el = false from kX (ho.list _ _ _ _ _ _ _ hk).2.1]
       have hjl : j * t'.w + off + 1 <= xs.length * t'.w := by
        have := qES hy hle
        rwa [yM] at this
       rw [show Nat.ble (j * t'.w + off + 1) (xs.length * t'.w) = true from zJU hjl];simp only [pU, cond_false];show some (kD k ⟨el, gr, kK ((xs.flatMap t'.cells).map .f) (j * t'.w + off) [fvv (.int ik v)]⟩ (qD h.l)) = _;rw [show qD (h.put k fun v => .list el gr g v t' (List.set xs j z)).l = kD k (SO.enc (.list el gr g h.next t' (List.set xs j z))) (qD h.l) from vG k _ _];show _ = some (kD k ⟨el, gr, ((List.set xs j z).flatMap t'.cells).map .f⟩ (qD h.l));rw [qC7 hy (y := z) hle ?_];rw [<- nN hz, qC2 (by simp), <- uY, hel, List.map_set, zLV, if_pos (by rw [zJO]; exact hlt)];unfold kK;simp
      ·cases h4
     ·cases h3
    ·cases h3
   ·cases e
  ·cases e
 ·cases e
end
end Go.Sv
namespace Go.Sv
open Go.Idl
noncomputable section
variable [Gc]
variable [Yl]
variable {P : Program} {h : SH} {R : Type} {r : R}
def tyL : List (Option Ty) -> Option Ty
 | [] => some .unit
 | [t] => t.map fun t => .pair t .unit
 | [a, b] => match a, b with
   | some a, some b => some (.pair a b)
   | _, _ => none
 | a :: l => match a, tyL l with
   | some a, some b => some (.pair a b)
   | _, _ => none
def q88 (P : Program) (t : TypeId) : Option Ty := match P.underlying t with
 | some (.slice el) => (match P.underlying el with
   | some (.int k) => some (.ol el k)
   | _ => none)
 | _ => none
def qDL (P : Program) : Nat -> TypeId -> Option Ty
 | 0, _ => none
 | n + 1, t => match P.underlying t with
   | some (.int k) => some (.int k)
   | some .bool => some .bool
   | some .string => some .str
   | some (.slice el) => (match qDL P n el with
     | some u => some (.list el u)
     | none => none)
   | some (.struct fields) => tyL (fields.toList.map fun f => cond (Gc.ol f.type) (q88 P f.type) (qDL P n f.type))
   | some (.array k el) => tyL (List.replicate k (qDL P n el))
   | some (.interface ..) => some .nif
   | _ => none
def zcS (P : Program) (t : TypeId) : Option (List SV) := match qBO P t with
 | some z => cond (kJ okC z.cells.toList) (some (xY .c z.cells.toList)) none
 | none => none
theorem sV {t : TypeId} {l : List SV} (e : zcS P t = some l) : zc P t = some (qB l) ∧ okL h l := by
 unfold zcS at e;unfold zc;split at e
 ·rename_i z hz
  cases hc : kJ okC z.cells.toList with
  | false => rw [hc] at e; cases e
  | true =>
    rw [hc] at e;cases e;rw [hz];simp only [hc, cond_true];exact ⟨by rw [q61], q6V _⟩
 ·cases e
def qRD (P : Program) (el : TypeId) (k : Nat) (h : SH) (K : SV -> SH -> q9D R) : q9D R := match zcS P el with
 | some l => cond (spec P el) .fail (K (.ref k 0 l.length) (h.new k fun v => .cells el v l))
 | none => .fail
theorem qS1 {el : TypeId} {k : Nat} {K : SV -> SH -> q9D R} (ho : OkH P h) (e : (qRD P el k h K).run = some r) : ∃ v h', eT P el k (qD h.l) = some (v.enc, qD h'.l) ∧ Post P h h' v ∧ (K v h').run = some r := by
 unfold qRD at e;split at e
 ·rename_i l hl;obtain ⟨h1, h2⟩ := sV (h := h) hl;have hp := xW (k := k) (f := fun v => .cells el v l) ho ⟨rfl, h2⟩
  cases hsp : spec P el with
  | true => rw [hsp] at e; cases e
  | false =>
  rw [hsp] at e;refine ⟨_, _, ?_, ⟨hp.1, hp.2, by simp [SV.ok]⟩, e⟩;simp only [eT, h1, qGN, SV.enc, qV, hsp, cond_false];rfl
 ·cases e
def q8V (P : Program) (el : TypeId) (v : SV) (k : Nat) (h : SH) (K : SV -> SH -> q9D R) : q9D R :=
 cond (!(spec P el) && (pnt v.enc && (qB (yC v)).all dM)) (K (.ref k 0 (yC v).length) (h.new k fun n => .cells el n (yC v))) .fail
theorem q1S {el : TypeId} {v : SV} {k : Nat} {K : SV -> SH -> q9D R} (ho : OkH P h) (hv : v.ok h) (e : (q8V P el v k h K).run = some r) : ∃ x h', qYO P el v.enc k (qD h.l) = some (x.enc, qD h'.l) ∧ Post P h h' x ∧ (K x h').run = some r := by
 obtain ⟨h1, h2⟩ := qE e;have hp := xW (k := k) (f := fun n => .cells el n (yC v)) ho ⟨rfl, qAV hv⟩;refine ⟨_, _, ?_, ⟨hp.1, hp.2, by simp [SV.ok]⟩, h2⟩;unfold qYO;rw [bI, h1];simp only [cond_true, qGN, SV.enc, qV];rfl
def qO1 (place : Nat -> Option (Nat × Nat)) : List SV -> List (Nat × SV) -> Option (List SV)
 | cells, [] => some cells
 | cells, (i, v) :: rest => match place i with
   | some (off, size) => cond (Nat.beq (yC v).length size && (Nat.ble (off + size) cells.length && (pnt v.enc && (qB (yC v)).all dM))) (qO1 place (qA9 cells off (yC v)) rest) none
   | none => none
def q31 (l : List (Nat × SV)) : List (Nat × PV) := l.map fun p => (p.1, p.2.enc)
theorem rT {place : Nat -> Option (Nat × Nat)} : ∀ {l cs : List SV} {parts : List (Nat × SV)}, qO1 place l parts = some cs -> qIE place (qB l) (q31 parts) = some (qB cs) ∧ (okL h l -> (∀ p ∈ parts, p.2.ok h) -> okL h cs)
 | l, cs, [], e => by cases e; exact ⟨rfl, fun a _ => a⟩
 | l, cs, (i, v) :: rest, e => by
   unfold qO1 at e;split at e
   ·rename_i off size hpl
    cases hc : (Nat.beq (yC v).length size && (Nat.ble (off + size) l.length && (pnt v.enc && (qB (yC v)).all dM))) with
    | false => rw [hc] at e; cases e
    | true =>
      rw [hc] at e;obtain ⟨h1, h2⟩ := rT (l := qA9 l off (yC v)) e;refine ⟨?_, fun a b => h2 (qMT a (qAV (b _ zJI))) fun p hp => b p (zJD _ hp)⟩
      show (match place i with
       | some (off, size) => cond (Nat.beq (zB v.enc).length size && (Nat.ble (off + size) (qB l).length && (pnt v.enc && (zB v.enc).all dM))) (qIE place (kK (qB l) off (zB v.enc)) (q31 rest)) none
       | none => none) = some (qB cs)
      rw [hpl];simp only;rw [bI, qV, qV, hc, <- qBF];exact h1
   ·cases e
def qSD (P : Program) (t : TypeId) (parts : List (Nat × SV)) : Option SV := match zcS P t with
 | some z => cond (qBG P t) (match qO1 (qTI P t) z parts with
   | some cs => some (.agg cs)
   | none => none) none
 | none => none
theorem qSG {t : TypeId} {parts : List (Nat × SV)} {v : SV} (hp : ∀ p ∈ parts, p.2.ok h) (e : qSD P t parts = some v) : qH2 P t (q31 parts) = some v.enc ∧ v.ok h := by
 unfold qSD at e;split at e
 ·rename_i z hz;obtain ⟨h1, h2⟩ := sV (h := h) hz
  cases hb : qBG P t with
  | false => rw [hb] at e; cases e
  | true =>
    rw [hb] at e;simp only [cond_true] at e;split at e
    ·rename_i cs hcs;cases e;obtain ⟨h3, h4⟩ := rT (h := h) hcs;simp only [qH2, h1, hb, cond_true, h3, SV.enc, SV.ok, true_and];exact h4 h2 hp
    ·cases e
 ·cases e
def Ty.zDM (t : Ty) : Nat -> List SV -> Option (List t.sem)
 | 0, [] => some []
 | 0, _ :: _ => none
 | n + 1, l => match t.zB7 l with
   | some (x, l') => (match t.zDM n l' with
     | some xs => some (x :: xs)
     | none => none)
   | none => none
theorem qN8 {t : Ty} : ∀ {n : Nat} {l : List SV} {xs : List t.sem}, t.zDM n l = some xs -> qB l = (xs.flatMap t.cells).map .f ∧ xs.length = n
 | 0, [], xs, e => by cases e; simp [qB]
 | 0, _ :: _, xs, e => by cases e
 | n + 1, l, xs, e => by
   unfold Ty.zDM at e;split at e
   ·rename_i x l' hx;split at e
    ·rename_i ys hy;cases e;obtain ⟨h1, h2⟩ := qN8 hy;rw [sK hx, h1, zJZ, zJ9];exact ⟨rfl, by rw [zJN, h2]⟩
    ·cases e
   ·cases e
def q56 (n : Nat) (z : List SV) : List SV := (List.replicate n z).flatten
theorem qNC (n : Nat) (z : List SV) : qB (q56 n z) = qIX n (qB z) := by simp [q56, qIX, qW, List.map_flatten]
def dQ (P : Program) (t : TypeId) (len : Nat) (parts : List (Nat × SV)) (k : Nat) (h : SH) (K : SV -> SH -> q9D R) : q9D R := match zP P t with
 | some el => (match szT P el, zcS P el, qDL P 8 el with
   | some (s + 1), some z, some ty => cond (Nat.beq ty.w (s + 1)) (cond (Nat.beq z.length (s + 1) && Nat.ble (len * (s + 1)) 65536) (match qO1 (fun i => some (i * (s + 1), s + 1)) (q56 len z) parts with
     | some cs => (match ty.zDM len cs with
       | some xs => K (.own k h.next len) (h.new k fun v => .list el false v v ty xs)
       | none => .fail)
     | none => .fail) .fail) .fail
   | some (s + 1), some z, none => cond (Nat.beq z.length (s + 1) && Nat.ble (len * (s + 1)) 65536) (match qO1 (fun i => some (i * (s + 1), s + 1)) (q56 len z) parts with
     | some cs => K (.own k h.next len) (h.new k fun v => .cells el v cs)
     | none => .fail) .fail
   | _, _, _ => .fail)
 | none => .fail
omit [Yl] in
theorem vS {el : TypeId} {gr : Bool} {k n : Nat} {ty : Ty} {xs : List ty.sem} (hn : n = xs.length) : (SV.own k h.next n).ok (h.new k fun v => .list el gr v v ty xs) := by
 simp only [SV.ok];refine ⟨zJ1 _, fun el' gr' w' t' xs' hk => ?_⟩;rw [show slk k (h.new k fun v => .list el gr v v ty xs).l = some (.list el gr h.next h.next ty xs) from vF] at hk;cases hk;exact hn
theorem qB5 {t : TypeId} {len k : Nat} {parts : List (Nat × SV)} {K : SV -> SH -> q9D R} (ho : OkH P h) (hp : ∀ p ∈ parts, p.2.ok h) (e : (dQ P t len parts k h K).run = some r) :
 ∃ v h', zV P t len (q31 parts) k (qD h.l) = some (v.enc, qD h'.l) ∧ Post P h h' v ∧ (K v h').run = some r := by
 unfold dQ at e;split at e
 ·rename_i el hel;split at e
  ·rename_i s z ty hs hz hty;obtain ⟨e1, e⟩ := qE e;obtain ⟨e2, e⟩ := qE e;split at e
   ·rename_i cs hcs;split at e
    ·rename_i xs hxs;obtain ⟨z1, z2⟩ := sV (h := h) hz;obtain ⟨f1, f2⟩ := rT (h := h) hcs;obtain ⟨d1, d2⟩ := qN8 hxs;have hw : ty.w = s + 1 := zI6 e1;have hn := xW (k := k) (f := fun v => .list el false v v ty xs) ho ⟨rfl, rfl, by rw [hs, hw], by omega⟩;refine ⟨_, _, ?_, ⟨hn.1, hn.2, vS d2.symm⟩, e⟩;rw [qNC] at f1;simp only [zV, hel, hs, z1, qV, e2, cond_true, f1, qGN, SV.enc, d1];rfl
    ·cases e
   ·cases e
  ·rename_i s z hs hz hty;obtain ⟨e2, e⟩ := qE e;split at e
   ·rename_i cs hcs;obtain ⟨z1, z2⟩ := sV (h := h) hz;obtain ⟨f1, f2⟩ := rT (h := h) hcs
    have zGT : okL h cs := f2 (zW.2 fun x hx => by
     unfold q56 at hx;obtain ⟨l, hl, hx⟩ := zMU.1 hx;rw [List.eq_of_mem_replicate hl] at hx
     exact zW.1 z2 x hx) hp
    have hn := xW (k := k) (f := fun v => .cells el v cs) ho ⟨rfl, zGT⟩;refine ⟨_, _, ?_, ⟨hn.1, hn.2, ?_⟩, e⟩
    ·rw [qNC] at f1;simp only [zV, hel, hs, z1, qV, e2, cond_true, f1, qGN, SV.enc];rfl
    ·simp only [SV.ok];refine ⟨zJ1 _, fun el' gr' w' t' xs' hk => ?_⟩;rw [show slk k (h.new k fun v => .cells el v cs).l = some (.cells el h.next cs) from vF] at hk;cases hk
   ·cases e
  ·cases e
 ·cases e
def q0Z (P : Program) (t : TypeId) (l : SV) (k : Nat) (h : SH) (K : SV -> SH -> q9D R) : q9D R := match zP P t, asI l with
 | some el, some (_, n) => (match szT P el, zcS P el, qDL P 8 el with
   | some (s + 1), some z, some ty => cond (kF P el && (Nat.beq z.length (s + 1) && Nat.beq ty.w (s + 1))) (match ty.zBV z with
     | some z0 => .bind (mkN n) fun N => K (.own k h.next N) (h.new k fun v => .list el false v v ty (List.replicate N z0))
     | none => .fail) .fail
   | _, _, _ => .fail)
 | _, _ => .fail
omit [Yl] in
theorem qMW {t : Ty} {z : t.sem} : ∀ (n : Nat), ((List.replicate n z).flatMap t.cells).map PV.f = qIX n ((t.cells z).map .f)
 | 0 => rfl
 | n + 1 => by
   rw [zKT, zJZ, zJ9, qMW n];simp [qIX, zKT]
theorem qWW {t : TypeId} {l : SV} {k : Nat} {K : SV -> SH -> q9D R} (ho : OkH P h) (e : (q0Z P t l k h K).run = some r) :
 ∃ v h', xG P t l.enc l.enc k (qD h.l) = some (v.enc, qD h'.l) ∧ Post P h h' v ∧ (K v h').run = some r := by
 unfold q0Z at e;split at e
 ·rename_i el ki n hel hl;split at e
  ·rename_i s z ty hs hz hty;obtain ⟨e1, e⟩ := qE e;simp only [zI5] at e1;obtain ⟨q1, q2, q3⟩ := e1;split at e
   ·rename_i z0 hz0;obtain ⟨N, hN, e⟩ := run_bind e;obtain ⟨z1, z2⟩ := sV (h := h) hz;have hw : ty.w = s + 1 := zI6 q3;have hn := xW (k := k) (f := fun v => .list el false v v ty (List.replicate N z0)) ho ⟨rfl, rfl, by rw [hs, hw], by omega⟩;refine ⟨_, _, ?_, ⟨hn.1, hn.2, vS (xs := List.replicate N z0) (by simp)⟩, e⟩;rw [z8 hl];simp only [xG, fvv, hel, decide_true, cond_true, hN, hs, z1, qV, q1, q2, zJ7, qGN, SV.enc];show some (PV.own k N 0 N, (k, (⟨el, false, qIX N (qB z)⟩ : PO)) :: qD h.l) = some (PV.own k N 0 N, (k, ⟨el, false, ((List.replicate N z0).flatMap ty.cells).map PV.f⟩) :: qD h.l);rw [qMW, nN hz0]
   ·cases e
  ·cases e
 ·cases e
def q3C (h : SH) : SV -> Bool
 | .ref k _ w => match slk k h.l with
   | some (.cells _ _ l) => Nat.beq w l.length
   | _ => false
 | .elt k g _ w _ _ => match slk k h.l with
   | some (.list _ _ g' _ t _) => Nat.beq g g' && Nat.beq w t.w
   | _ => false
 | .lp _ _ _ _ => true
 | _ => false
theorem qOI {k off w : Nat} (e : q3C h (.ref k off w) = true) : live? k w (qD h.l) = true := by
 simp only [q3C] at e;split at e
 ·rename_i el w' l hk;unfold live?;rw [yT hk];show Nat.beq w (qB l).length = true;rw [qV]; exact e
 ·cases e
theorem qNV {k g n w j off : Nat} (ho : (SV.elt k g n w j off).ok h) (e : q3C h (.elt k g n w j off) = true) : live? k (n * w) (qD h.l) = true := by
 simp only [q3C] at e;split at e
 ·rename_i el gr g' w' t xs hk;rw [zI5] at e;have hg : g = g' := zI6 e.1;have hw : w = t.w := zI6 e.2;subst hg hw;simp only [SV.ok] at ho;unfold live?;rw [yT hk];show Nat.beq (n * t.w) (SO.list el gr g w' t xs).enc.cs.length = true;rw [qR, ho.2 _ _ _ _ _ hk]; exact pU _
 ·cases e
def qL4 (n : Nat) : SV -> SV
 | .ref k off w => .ref k (off + n) w
 | .elt k g m w j off => .elt k g m w j (off + n)
 | .lp t xs j off => .lp t xs j (off + n)
 | v => v
def q79 : SV -> Bool
 | .ref _ _ _ => true
 | .elt _ _ _ _ _ _ => true
 | .lp _ _ _ _ => true
 | _ => false
omit [Yl] in
theorem qUV {n : Nat} {v : SV} (hv : v.ok h) : (qL4 n v).ok h := by
 cases v <;> simp only [qL4, SV.ok] at hv ⊢ <;> exact hv
def oV (P : Program) (t : TypeId) (x : SV) (i : Nat) (h : SH) : Option SV := match q4F P t i with
 | some (off, ft) => (match szT P ft with
   | some (_ + 1) => cond (q3C h x) (some (qL4 off x)) none
   | _ => none)
 | none => none
theorem qFU {t : TypeId} {x v : SV} {i : Nat} (hx : x.ok h) (e : oV P t x i h = some v) : zL P t x.enc i (qD h.l) = some v.enc ∧ v.ok h := by
 unfold oV at e;unfold zL;split at e
 ·rename_i off ft hf;split at e
  ·rename_i s hs
   cases hl : q3C h x with
   | false => rw [hl] at e; cases e
   | true =>
     rw [hl] at e;cases e;refine ⟨?_, qUV hx⟩;simp only [hf, hs]
     cases x with
     | ref k o w => simp only [SV.enc, qL4, qOI hl, cond_true]
     | elt k g n w j o => simp only [SV.enc, qL4, qNV hx hl, cond_true, zKX]
     | lp t xs j o => simp only [SV.enc, qL4, zKX]
     | _ => cases hl
  ·cases e
 ·cases e
def q67 (n : Nat) (ix : SV) (K : Nat -> q9D R) : q9D R := match ix with
 | .c (.int _ i) => (match idx n i with
   | some j => K j
   | none => .fail)
 | v => (match asI v with
   | some (_, i) => .bind (idx n i) K
   | none => .fail)
theorem q1L {n : Nat} {ix : SV} {K : Nat -> q9D R} (e : (q67 n ix K).run = some r) : ∃ k i j, ix.enc = fvv (.int k i) ∧ idx n i = some j ∧ (K j).run = some r := by
 unfold q67 at e;split at e
 ·rename_i k i;split at e
  ·rename_i j hj;exact ⟨k, i, j, by simp [SV.enc], hj, e⟩
  ·cases e
 ·split at e
  ·rename_i k i hi;obtain ⟨j, hj, e⟩ := run_bind e;exact ⟨k, i, j, z8 hi, hj, e⟩
  ·cases e
def q2L (n : Nat) (ix : SV) (K K2 : Nat -> q9D R) : q9D R := match ix with
 | .c (.int _ i) => (match idx n i with
   | some j => K j
   | none => .fail)
 | v => (match asI v with
   | some (_, i) => .bind (idx n i) K2
   | none => .fail)
theorem qY6 {n : Nat} {ix : SV} {K K2 : Nat -> q9D R} (e : (q2L n ix K K2).run = some r) : ∃ k i j, ix.enc = fvv (.int k i) ∧ idx n i = some j ∧ ((K j).run = some r ∨ (K2 j).run = some r) := by
 unfold q2L at e;split at e
 ·rename_i k i;split at e
  ·rename_i j hj;exact ⟨k, i, j, by simp [SV.enc], hj, .inl e⟩
  ·cases e
 ·split at e
  ·rename_i k i hi;obtain ⟨j, hj, e⟩ := run_bind e;exact ⟨k, i, j, z8 hi, hj, .inr e⟩
  ·cases e
def q6J (n : Nat) : SV -> SV
 | .ref k off w => .rfx k (off + n) w
 | .elt k g m w j off => .etx k g m w j (off + n)
 | v => qL4 n v
omit [Yl] in
theorem q0Q {n : Nat} {v : SV} (hv : v.ok h) : (q6J n v).ok h := by
 cases v <;> simp only [q6J, qL4, SV.ok] at hv ⊢ <;> exact hv
theorem qX0 {n : Nat} {v : SV} (hv : q79 v = true) : (q6J n v).enc = (qL4 n v).enc := by
 cases v <;> first | rfl | (simp only [q6J, qL4, SV.enc])
def oZ (P : Program) (t : TypeId) (x ix : SV) (h : SH) (K : SV -> q9D R) : q9D R := match x with
 | .d (.list el u) xs => (match asI ix, zP P t with
   | some (_, i), some el' => (match szT P el' with
     | some s => cond (Nat.beq s u.w) (.bind (idx (List.length xs) i) fun j => K (.lp u xs j 0)) .fail
     | none => .fail)
   | _, _ => .fail)
 | .own k g n => (match asI ix, zP P t, slk k h.l with
   | some (_, i), some el', some (.list el _ g' _ u _) => cond (Nat.beq el' el && Nat.beq g g') (.bind (idx n i) fun j => K (.elt k g n u.w j 0)) .fail
   | some (_, i), some el', some (.cells el _ cs) => (match szT P el with
     | some s => cond (Nat.beq el' el && Nat.beq (n * s) cs.length) (.bind (idx n i) fun j => K (.ref k (j * s) cs.length)) .fail
     | none => .fail)
   | _, _, _ => .fail)
 | .sl k g n o m => (match asI ix, zP P t, slk k h.l with
   | some (_, i), some el', some (.list el _ g' _ u _) => cond (Nat.beq el' el && Nat.beq g g') (.bind (idx m i) fun j => K (.elt k g n u.w (o + j) 0)) .fail
   | _, _, _ => .fail)
 | x => (match qU9 P t with
   | some (n, el) => (match szT P el with
     | some s => cond (q79 x && q3C h x) (q2L n ix (fun j => K (qL4 (j * s) x)) fun j => K (q6J (j * s) x)) .fail
     | none => .fail)
   | none => .fail)
theorem qD1 {t : TypeId} {x ix : SV} {K : SV -> q9D R} (ho : OkH P h) (hx : x.ok h) (e : (oZ P t x ix h K).run = some r) : ∃ v, qP P t x.enc ix.enc (qD h.l) = some v.enc ∧ v.ok h ∧ (K v).run = some r := by
 unfold oZ at e;split at e
 ·rename_i el u xs;split at e
  ·rename_i k i el' hi hel;split at e
   ·rename_i s hs;obtain ⟨h1, e1⟩ := qE e;obtain ⟨j, hj, e2⟩ := run_bind e1;have hw : s = u.w := zI6 h1;subst hw;refine ⟨_, ?_, by simp [SV.ok], e2⟩;rw [z8 hi];simp only [SV.enc, Ty.fv, fvv, qP, hel, hs, hj, zLD]
   ·cases e
  ·cases e
 ·rename_i k g n;split at e
  ·rename_i ki i el' el gr g' w u xs hi hel hk;obtain ⟨h1, e1⟩ := qE e;obtain ⟨j, hj, e2⟩ := run_bind e1;rw [zI5] at h1;have hg : g = g' := zI6 h1.2;subst hg;simp only [SV.ok] at hx;have hn := hx.2 _ _ _ _ _ hk;have hl := ho.list _ _ _ _ _ _ _ hk;refine ⟨_, ?_, by simp only [SV.ok]; exact hx, e2⟩;rw [z8 hi];simp only [SV.enc, fvv, qP, hel, yT hk]
   show (match szT P el with
    | some s => (match idx n i with
      | some j => cond (Nat.beq el' el && Nat.beq (n * s) (SO.list el gr g w u xs).enc.cs.length) (some (PV.ref k (SO.list el gr g w u xs).enc.cs.length ((0 + j) * s))) none
      | none => none)
    | none => none) = _
   rw [hl.2.1, hj];simp only [qR, hn, pU, h1.1, zJ7, cond_true, zJS, zLD]
  ·rename_i ki i el' el w cs hi hel hk;split at e
   ·rename_i s hs;obtain ⟨h1, e1⟩ := qE e;obtain ⟨j, hj, e2⟩ := run_bind e1;refine ⟨_, ?_, by simp [SV.ok], e2⟩;rw [z8 hi];simp only [SV.enc, fvv, qP, hel, yT hk]
    show (match szT P el with
     | some s => (match idx n i with
       | some j => cond (Nat.beq el' el && Nat.beq (n * s) (qB cs).length) (some (PV.ref k (qB cs).length ((0 + j) * s))) none
       | none => none)
     | none => none) = _
    rw [hs, hj];simp only [qV, h1, cond_true, zJS]
   ·cases e
  ·cases e
 ·rename_i k g n o m;split at e
  ·rename_i ki i el' el gr g' w u xs hi hel hk;obtain ⟨h1, e1⟩ := qE e;obtain ⟨j, hj, e2⟩ := run_bind e1;rw [zI5] at h1;have hg : g = g' := zI6 h1.2;subst hg;simp only [SV.ok] at hx;have hn := hx.1.2 _ _ _ _ _ hk;have hl := ho.list _ _ _ _ _ _ _ hk;refine ⟨_, ?_, by simp only [SV.ok]; exact hx.1, e2⟩;rw [z8 hi];simp only [SV.enc, fvv, qP, hel, yT hk]
   show (match szT P el with
    | some s => (match idx m i with
      | some j => cond (Nat.beq el' el && Nat.beq (n * s) (SO.list el gr g w u xs).enc.cs.length) (some (PV.ref k (SO.list el gr g w u xs).enc.cs.length ((o + j) * s))) none
      | none => none)
    | none => none) = _
   rw [hl.2.1];simp only [hj, qR, hn, pU, h1.1, zJ7, cond_true, zLD]
  ·cases e
 ·split at e
  ·rename_i n el ha;split at e
   ·rename_i s hs;obtain ⟨h1, e⟩ := qE e;rw [zI5] at h1;obtain ⟨ki, i, j, hi, hj, e⟩ := qY6 e
    obtain ⟨v, hv1, hv2, e⟩ : ∃ v : SV, v.enc = (qL4 (j * s) x).enc ∧ v.ok h ∧ (K v).run = some r := by
     rcases e with e | e
     ·exact ⟨_, rfl, qUV hx, e⟩
     ·exact ⟨_, qX0 h1.1, q0Q hx, e⟩
    refine ⟨_, ?_, hv2, e⟩;rw [hi, hv1]
    cases x with
    | ref k o w => simp only [SV.enc, qL4, fvv, qP, ha, hs, hj, qOI h1.2, cond_true]
    | elt k g n w j o => simp only [SV.enc, qL4, fvv, qP, ha, hs, hj, qNV hx h1.2, cond_true, zKX]
    | lp t xs j o => simp only [SV.enc, qL4, fvv, qP, ha, hs, hj, zKX]
    | _ => cases h1.1
   ·cases e
  ·cases e
def qTO (P : Program) (t : TypeId) (x ix : SV) (K : SV -> q9D R) : q9D R := match qU9 P t, x with
 | some (n, el), .agg l => (match szT P el with
   | some s => q67 n ix fun j => match qGI P el l (j * s) with
     | some v => K v
     | none => .fail
   | none => .fail)
 | _, _ => .fail
theorem qQY {t : TypeId} {x ix : SV} {K : SV -> q9D R} (hx : x.ok h) (e : (qTO P t x ix K).run = some r) : ∃ v, qDP P t x.enc ix.enc = some v.enc ∧ v.ok h ∧ (K v).run = some r ∧ ∃ l, x = .agg l := by
 unfold qTO at e;split at e
 ·rename_i n el l ha;split at e
  ·rename_i s hs;obtain ⟨ki, i, j, hi, hj, e⟩ := q1L e;split at e
   ·rename_i v hv;obtain ⟨h1, h2⟩ := qFI (h := h) hv;simp only [SV.ok] at hx;refine ⟨v, ?_, h2 hx, e, l, rfl⟩;rw [hi];simp only [qDP, ha, SV.enc, fvv, hs, hj];exact h1
   ·cases e
  ·cases e
 ·cases e
def qGD (v : SV) (i : Nat) : Option SV := match v with
 | .tup l => (match zA l i with
   | some x => cond (pnt x.enc) (some x) none
   | none => none)
 | _ => none
theorem qLQ {x v : SV} {i : Nat} (hx : x.ok h) (e : qGD x i = some v) : aT x.enc i = some v.enc ∧ v.ok h := by
 unfold qGD at e;split at e
 ·rename_i l;split at e
  ·rename_i y hy
   cases hp : pnt y.enc with
   | false => rw [hp] at e; cases e
   | true =>
     rw [hp] at e;cases e;simp only [SV.ok] at hx;refine ⟨?_, dW hx hy⟩;simp only [aT, SV.enc, zD, hy, zJJ, hp, cond_true]
  ·cases e
 ·cases e
def qAC (fn : Fn) (first cap : List SV) : Option SV := match fn with
 | .func g => some (match first, cap with
   | [], [] => .c (.func (.func g) #[] #[])
   | _, _ => .fn g first cap)
 | _ => none
theorem qG3 {fn : Fn} {first cap : List SV} {v : SV} (h1 : okL h first) (h2 : okL h cap) (e : qAC fn first cap = some v) : jT fn (qB first) (qB cap) = some v.enc ∧ v.ok h := by
 unfold qAC at e;split at e
 ·rename_i g;cases e
  cases first with
  | nil => cases cap with
    | nil => exact ⟨by simp [jT, qB, SV.enc], by simp [SV.ok]⟩
    | cons x l => exact ⟨by simp [jT, qB, SV.enc], by simp only [SV.ok]; exact ⟨h1, h2⟩⟩
  | cons y l => exact ⟨by simp [jT, qB, SV.enc], by simp only [SV.ok]; exact ⟨h1, h2⟩⟩
 ·cases e
end
end Go.Sv
namespace Go.Sv
open Go.Idl
variable {el : TypeId} {k : Nat} {t : Ty} {x : SV}
noncomputable section
variable [Gc]
variable [Yl]
variable {P : Program} {h : SH} {R : Type} {r : R}
def q7Y (P : Program) (ts : Array TypeId) (x : SV) (h : SH) : Option SV := match ts[0]? with
 | some t => (match zP P t with
   | some _ => (match x with
     | .d (.list _ _) xs => some (.d (.int .i64) ((List.length xs : Nat) : Int))
     | .c (.slice _ n _) => some (.c (.int .i64 (n : Int)))
     | .own k g n => (match slk k h.l with
       | some (.list _ _ g' _ _ _) => cond (Nat.beq g g') (some (.d (.int .i64) (n : Int))) none
       | some (.cells el _ cs) => (match szT P el with
         | some s => cond (Nat.beq (n * s) cs.length) (some (.c (.int .i64 (n : Int)))) none
         | none => none)
       | _ => none)
     | .sl k g _ _ m => (match slk k h.l with
       | some (.list _ _ g' _ _ _) => cond (Nat.beq g g') (some (.d (.int .i64) (m : Int))) none
       | _ => none)
     | _ => none)
   | none => (match qU9 P t with
     | some (n, _) => some (.c (.int .i64 (n : Int)))
     | none => none))
 | none => none
theorem q29 {ts : Array TypeId} {v : SV} (ho : OkH P h) (hx : x.ok h) (e : q7Y P ts x h = some v) : qYB P ts x.enc (qD h.l) = some v.enc ∧ v.ok h := by
 unfold q7Y at e;unfold qYB;split at e
 ·rename_i t ht;split at e
  ·rename_i el hel;split at e
   ·rename_i el' u xs;cases e;simp [ht, hel, SV.enc, Ty.fv, fvv, SV.ok]
   ·rename_i a n c;cases e;simp [ht, hel, SV.enc, fvv, SV.ok]
   ·rename_i k g n;split at e
    ·rename_i el' gr g' w u xs hk
     obtain ⟨h1, e1⟩ : Nat.beq g g' = true ∧ some (SV.d (.int .i64) (n : Int)) = some v := by
      cases hb : Nat.beq g g' with
      | false => rw [hb] at e; cases e
      | true => rw [hb] at e; exact ⟨rfl, e⟩
     cases e1;have hg : g = g' := zI6 h1;subst hg;simp only [SV.ok] at hx;have hn := hx.2 _ _ _ _ _ hk;have hl := ho.list _ _ _ _ _ _ _ hk;refine ⟨?_, by simp [SV.ok]⟩;simp only [ht, hel, SV.enc, yT hk]
     show (match szT P el' with
      | some s => cond (Nat.beq (n * s) (SO.list el' gr g w u xs).enc.cs.length) (some (fvv (.int .i64 (n : Int)))) none
      | none => none) = _
     rw [hl.2.1];simp only [qR, hn, pU, cond_true, Ty.fv, fvv]
    ·rename_i el' w cs hk;split at e
     ·rename_i s hs
      cases hb : Nat.beq (n * s) cs.length with
      | false => rw [hb] at e; cases e
      | true =>
        rw [hb] at e;cases e;refine ⟨?_, by simp [SV.ok]⟩;simp only [ht, hel, SV.enc, yT hk]
        show (match szT P el' with
         | some s => cond (Nat.beq (n * s) (qB cs).length) (some (fvv (.int .i64 (n : Int)))) none
         | none => none) = _
        rw [hs];simp only [qV, hb, cond_true]
     ·cases e
    ·cases e
   ·rename_i k g n o m;split at e
    ·rename_i el' gr g' w u xs hk
     obtain ⟨h1, e1⟩ : Nat.beq g g' = true ∧ some (SV.d (.int .i64) (m : Int)) = some v := by
      cases hb : Nat.beq g g' with
      | false => rw [hb] at e; cases e
      | true => rw [hb] at e; exact ⟨rfl, e⟩
     cases e1;have hg : g = g' := zI6 h1;subst hg;simp only [SV.ok] at hx;have hn := hx.1.2 _ _ _ _ _ hk;have hl := ho.list _ _ _ _ _ _ _ hk;refine ⟨?_, by simp [SV.ok]⟩;simp only [ht, hel, SV.enc, yT hk]
     show (match szT P el' with
      | some s => cond (Nat.beq (n * s) (SO.list el' gr g w u xs).enc.cs.length) (some (fvv (.int .i64 (m : Int)))) none
      | none => none) = _
     rw [hl.2.1];simp only [qR, hn, pU, cond_true, Ty.fv, fvv]
    ·cases e
   ·cases e
  ·rename_i hel;split at e
   ·rename_i n el ha;cases e;simp [ht, hel, ha, SV.enc, SV.ok]
   ·cases e
 ·cases e
def qED (u t : Ty) (xs : List u.sem) : Option (List t.sem) := if e : u = t then some (e ▸ xs) else none
omit [Yl] in
theorem mZ {u : Ty} {xs : List u.sem} {ys : List t.sem} (e : qED u t xs = some ys) : (⟨u, xs⟩ : (t : Ty) × List t.sem) = ⟨t, ys⟩ := by
 unfold qED at e;split at e
 ·rename_i h;subst h;cases e;rfl
 ·cases e
def qYQ (t : Ty) (x : SV) (h : SH) : Option (List t.sem) := match x with
 | .d (.list _ u) xs => qED u t xs
 | .c (.slice none 0 _) => some []
 | .own k g _ => (match slk k h.l with
   | some (.list _ _ g' _ u xs) => cond (Nat.beq g g') (qED u t xs) none
   | _ => none)
 | .sl k g _ o m => (match slk k h.l with
   | some (.list _ _ g' _ u xs) => cond (Nat.beq g g') (match qED u t xs with
     | some xs => some ((xs.drop o).take m)
     | none => none) none
   | _ => none)
 | _ => none
theorem qWJ {ys : List t.sem} (ho : OkH P h) (hx : x.ok h) (e : qYQ t x h = some ys) : rC P t.w x.enc (qD h.l) = some (ys.length, (ys.flatMap t.cells).map .f) := by
 unfold qYQ at e;unfold rC;split at e
 ·rename_i el u xs;cases mZ e;simp only [SV.enc, Ty.fv, yM, pU, cond_true]
 ·cases e;simp [SV.enc, fvv]
 ·rename_i k g n;split at e
  ·rename_i el gr g' w u xs hk
   cases hb : Nat.beq g g' with
   | false => rw [hb] at e; cases e
   | true =>
     rw [hb] at e;have hg : g = g' := zI6 hb;subst hg;cases mZ e;simp only [SV.ok] at hx;have hn := hx.2 _ _ _ _ _ hk;have hl := ho.list _ _ _ _ _ _ _ hk;simp only [SV.enc, yT hk]
     show (match szT P el with
      | some s' => cond (Nat.beq (n * s') (SO.list el gr g w t ys).enc.cs.length && Nat.beq t.w s') (some (n, (((ys.flatMap t.cells).map PV.f).drop (0 * t.w)).take (n * t.w))) none
      | none => none) = _
     rw [hl.2.1];simp only [qR, hn, pU, zJ7, cond_true, Nat.zero_mul, zLK];rw [zJ2 (by rw [zJO, yM]; exact zI7 _)]
  ·cases e
 ·rename_i k g n o m;split at e
  ·rename_i el gr g' w u xs hk
   cases hb : Nat.beq g g' with
   | false => rw [hb] at e; cases e
   | true =>
     rw [hb] at e;have hg : g = g' := zI6 hb;subst hg;simp only [cond_true] at e;split at e
     case h_2 => cases e
     rename_i xs2 zGU;cases e;cases mZ zGU;simp only [SV.ok] at hx;have hn := hx.1.2 _ _ _ _ _ hk;have hl := ho.list _ _ _ _ _ _ _ hk;simp only [SV.enc, yT hk]
     show (match szT P el with
      | some s' => cond (Nat.beq (n * s') (SO.list el gr g w t xs2).enc.cs.length && Nat.beq t.w s') (some (m, (((xs2.flatMap t.cells).map PV.f).drop (o * t.w)).take (m * t.w))) none
      | none => none) = _
     rw [hl.2.1];simp only [qR, hn, pU, zJ7, cond_true];rw [<- zLG, <- zLH, aJ, mR]
     congr 1
     have := hx.2;rw [zKJ, zLJ, zK4 (by omega)]
  ·cases e
 ·cases e
omit [Yl] in
theorem qTX (ys : List t.sem) : ((ys.flatMap t.cells).map PV.f).all dM = true := by
 rw [zI8];intro x hx;obtain ⟨y, _, rfl⟩ := zJX.1 hx;rfl
omit [Yl] in
theorem qFJ {h0 : SH} {gr : Bool} {n m : Nat} {ty : Ty} {xs ys : List ty.sem} (hn : n = xs.length) (hm : m = ys.length) : (SV.own k h0.next (n + m)).ok (h0.new k fun v => .list el gr v v ty (xs ++ ys)) :=
 vS (by rw [zJW, hn, hm])
def qK8 (P : Program) (ts : List TypeId) (base x : SV) (k : Nat) (h : SH) (K : SV -> SH -> q9D R) : q9D R := match ts with
 | [st, xt] => (match zP P st, zP P xt with
   | some el, some _ => (match szT P el, qDL P 8 el with
     | some (s + 1), some t => cond (Nat.beq t.w (s + 1) && kF P el) (match qYQ t x h with
       | some ys => (match base with
         | .c (.slice none 0 0) => .ite (Nat.beq ys.length 0) (K base h)
            (.ite (Nat.ble (0 + ys.length) 1048576) (K (.own k h.next (0 + ys.length)) (h.new k fun v => .list el true v v t ([] ++ ys))) .fail)
         | .own j g n => (match slk j h.l with
           | some (.list el' gr g' _ u xs) => cond (Nat.beq el' el && Nat.beq g g') (match qED u t xs with
             | some xs => .ite (Nat.beq ys.length 0) (K base h)
                (.ite (Nat.ble (n + ys.length) 1048576) (cond gr (K (.own j h.next (n + ys.length)) ((h.del j).new j fun v => .list el true v v t (xs ++ ys))) (K (.own k h.next (n + ys.length)) (h.new k fun v => .list el true v v t (xs ++ ys)))) .fail)
             | none => .fail) .fail
           | _ => .fail)
         | _ => .fail)
       | none => .fail) .fail
     | _, _ => .fail)
   | _, _ => .fail)
 | _ => .fail
omit [Yl] in
theorem qGF {xs ys : List t.sem} {ph : PHp} (h1 : Nat.ble (xs.length + ys.length) 1048576 = true) (h2 : kF P el = true) :
 mD P el t.w ((xs.flatMap t.cells).map .f) xs.length ((ys.flatMap t.cells).map .f) ys.length k ph = some (.own k (xs.length + ys.length) 0 (xs.length + ys.length), (k, ⟨el, true, ((xs ++ ys).flatMap t.cells).map .f⟩) :: ph) := by
 unfold mD;rw [h1, h2, zJO, yM, zJO, yM, qTX];simp only [pU, zJ7, cond_true, qGN];rw [zMH, zJ9]
theorem qPI {ts : List TypeId} {base : SV} {K : SV -> SH -> q9D R} (ho : OkH P h) (hb : base.ok h) (hx : x.ok h) (e : (qK8 P ts base x k h K).run = some r) :
 ∃ v h', zT P ts base.enc x.enc k (qD h.l) = some (v.enc, qD h'.l) ∧ Post P h h' v ∧ (K v h').run = some r := by
 unfold qK8 at e;split at e
 ·rename_i st xt;split at e
  ·rename_i el el2 hel zEJ;split at e
   ·rename_i s t hs hty;have e_ := qE e;clear e;obtain ⟨c1, e⟩ := e_;rw [zI5] at c1;have hw : s + 1 = t.w := (zI6 c1.1).symm;split at e
    ·rename_i ys hys;have hnw := qWJ ho hx hys;split at e
     ·have e_ := run_ite e;clear e
      rcases e_ with ⟨z, e⟩ | ⟨z, e⟩
      ·refine ⟨_, _, ?_, ⟨.refl _, ho, hb⟩, e⟩;simp only [zT, hel, zEJ, hs, SV.enc, fvv];rw [hw, hnw];simp only [z, cond_true]
      ·have e_ := run_ite e;clear e
       rcases e_ with ⟨z2, e⟩ | ⟨z2, e⟩
       ·have hn := xW (k := k) (f := fun v => .list el true v v t ([] ++ ys)) ho ⟨rfl, rfl, by rw [hs]; exact congrArg some hw, by omega⟩;refine ⟨_, _, ?_, ⟨hn.1, hn.2, qFJ (xs := []) rfl rfl⟩, e⟩;simp only [zT, hel, zEJ, hs, SV.enc, fvv];rw [hw, hnw];simp only [z, cond_false];exact qGF (xs := []) z2 c1.2
       ·cases e
     ·rename_i j g n;split at e
      ·rename_i el' gr g' w u xs0 hk;have e_ := qE e;clear e;obtain ⟨c2, e⟩ := e_;rw [zI5] at c2;have he : el' = el := zI6 c2.1;have hg : g = g' := zI6 c2.2;split at e
       ·rename_i xs hxs;have hcast := mZ hxs
        have hk2 : slk j h.l = some (.list el gr g w t xs) := by
         rw [hk, he, <- hg];cases hcast;rfl
        have hnl : n = xs.length := by
         simp only [SV.ok] at hb;exact hb.2 _ _ _ _ _ hk2
        have pre : ∀ z : PV × PHp, (cond (Nat.beq ys.length 0) (some (PV.own j n 0 n, qD h.l))
         (cond (Nat.ble (n + ys.length) n) (cond (Nat.beq ((ys.flatMap t.cells).map PV.f).length (ys.length * (s + 1)) && ((ys.flatMap t.cells).map PV.f).all dM) (some (PV.own j n 0 (n + ys.length), kD j { (SO.list el gr g w t xs).enc with cs := kK (SO.list el gr g w t xs).enc.cs (n * (s + 1)) ((ys.flatMap t.cells).map PV.f) } (qD h.l))) none)
           (cond gr (mD P el (s + 1) (SO.list el gr g w t xs).enc.cs n ((ys.flatMap t.cells).map PV.f) ys.length j (rP j (qD h.l))) (mD P el (s + 1) (SO.list el gr g w t xs).enc.cs n ((ys.flatMap t.cells).map PV.f) ys.length k (qD h.l))))) = some z ->
         zT P [st, xt] (SV.own j g n).enc x.enc k (qD h.l) = some z := fun z hz => by
         simp only [zT, hel, zEJ, hs, SV.enc];rw [show rC P (s + 1) x.enc (qD h.l) = _ from (hw ▸ hnw)];simp only [yT hk2];rw [show (SO.list el gr g w t xs).enc.el = el from rfl, show Nat.beq (n * (s + 1)) (SO.list el gr g w t xs).enc.cs.length = true by rw [qR, hw, hnl]; exact pU _];simp only [pU, zJ7, cond_true];exact hz
        have e_ := run_ite e;clear e
        rcases e_ with ⟨z, e⟩ | ⟨z, e⟩
        ·refine ⟨_, _, pre _ ?_, ⟨.refl _, ho, hb⟩, e⟩;rw [z]; simp [SV.enc]
        ·have e_ := run_ite e;clear e
         rcases e_ with ⟨z2, e⟩ | ⟨z2, e⟩
         ·have hpos : Nat.ble (n + ys.length) n = false := by
           cases hq : Nat.ble (n + ys.length) n with
           | false => rfl
           | true =>
             have h0 := zJE hq;have : ys.length = 0 := by omega
             rw [this] at z;cases z
          cases hgr : gr with
          | true =>
            rw [hgr] at e;have hd := dR (k := j) ho;have hn := xW (h := h.del j) (k := j) (f := fun v => .list el true v v t (xs ++ ys)) hd.2 ⟨rfl, rfl, by rw [hs]; exact congrArg some hw, by omega⟩;refine ⟨_, _, pre _ ?_, ⟨hd.1.trans hn.1, hn.2, qFJ (h0 := h.del j) hnl rfl⟩, e⟩;rw [z, hpos, hgr];simp only [cond_true, cond_false];rw [hw, hnl];rw [hnl] at z2;rw [show (SO.list el true g w t xs).enc.cs = (xs.flatMap t.cells).map .f from rfl, qGF z2 c1.2, <- mY];rfl
          | false =>
            rw [hgr] at e;have hn := xW (h := h) (k := k) (f := fun v => .list el true v v t (xs ++ ys)) ho ⟨rfl, rfl, by rw [hs]; exact congrArg some hw, by omega⟩;refine ⟨_, _, pre _ ?_, ⟨hn.1, hn.2, qFJ (h0 := h) hnl rfl⟩, e⟩;rw [z, hpos, hgr];simp only [cond_false];rw [hw, hnl];rw [hnl] at z2;rw [show (SO.list el false g w t xs).enc.cs = (xs.flatMap t.cells).map .f from rfl, qGF z2 c1.2];rfl
         ·cases e
       ·cases e
      ·cases e
     ·cases e
    ·cases e
   ·cases e
  ·cases e
 ·cases e
end
end Go.Sv
namespace Go.Sv
open Go.Idl
noncomputable section
variable [Gc]
variable [Yl]
variable {P : Program} {h : SH} {R : Type} {r : R}
def q8N {α : Type} (xs ys : List α) (o c : Nat) : List α := xs.take o ++ (ys.take c ++ xs.drop (o + c))
def q83 (P : Program) (ts : List TypeId) (base x : SV) (h : SH) (K : SV -> SH -> q9D R) : q9D R := match ts with
 | [st, xt] => (match zP P st, zP P xt with
   | some el, some _ => (match szT P el, qDL P 8 el with
     | some (s + 1), some t => cond (Nat.beq t.w (s + 1)) (match qYQ t x h with
       | some ys => (match base with
         | .own j g n => (match slk j h.l with
           | some (.list el' gr g' _ u xs) => cond (Nat.beq el' el && Nat.beq g g') (match qED u t xs with
             | some xs => K (.d (.int .i64) ((Nat.min ys.length n : Nat) : Int)) (h.put j fun v => .list el gr g v t (q8N xs ys 0 (Nat.min ys.length n)))
             | none => .fail) .fail
           | _ => .fail)
         | .sl j g n o m => (match slk j h.l with
           | some (.list el' gr g' _ u xs) => cond (Nat.beq el' el && Nat.beq g g') (match qED u t xs with
             | some xs => K (.d (.int .i64) ((Nat.min ys.length m : Nat) : Int)) (h.put j fun v => .list el gr g v t (q8N xs ys o (Nat.min ys.length m)))
             | none => .fail) .fail
           | _ => .fail)
         | .d (.list _ _) xs => .ite (Nat.beq (List.length xs) 0) (K (.d (.int .i64) 0) h) .fail
         | .c (.slice none 0 _) => K (.d (.int .i64) 0) h
         | _ => .fail)
       | none => .fail) .fail
     | _, _ => .fail)
   | _, _ => .fail)
 | _ => .fail
def qZX (most : Nat) (i : Int) : Option Nat := if 0 <= i ∧ i <= (most : Int) then some i.toNat else none
def qQU (d most : Nat) (x : Option SV) (K : Nat -> q9D R) : q9D R := match x with
 | none => K d
 | some v => (match asI v with
   | some (_, i) => .bind (qZX most i) K
   | none => .fail)
theorem wV {d most : Nat} {x : Option SV} {K : Nat -> q9D R} (e : (qQU d most x K).run = some r) : ∃ n, bnd d most (x.map SV.enc) = some n ∧ (n = d ∨ n <= most) ∧ (K n).run = some r := by
 unfold qQU at e;split at e
 ·exact ⟨d, rfl, .inl rfl, e⟩
 ·rename_i v;split at e
  ·rename_i k i hi;have e_ := run_bind e;clear e;obtain ⟨n, hn, e⟩ := e_;refine ⟨n, ?_, .inr ?_, e⟩
   ·simp only [zJJ, z8 hi, fvv, bnd]; exact hn
   ·unfold qZX at hn;split at hn
    ·cases hn; omega
    ·cases hn
  ·cases e
def qT5 (P : Program) (t : TypeId) (x : SV) (lo hi : Option SV) (h : SH) (K : SV -> q9D R) : q9D R := match x with
 | .d (.list el u) xs => (match zP P t, szT P el with
   | some el', some s => cond (Nat.beq el' el && Nat.beq s u.w) (qQU (List.length xs) (List.length xs) hi fun b => qQU 0 b lo fun a => K (.d (.list el u) ((List.drop a xs).take (b - a)))) .fail
   | _, _ => .fail)
 | .c (.slice none 0 0) => (match zP P t with
   | some el => cond (szT P el).isSome (qQU 0 0 hi fun _ => qQU 0 0 lo fun _ => K x) .fail
   | none => .fail)
 | .own k g n => (match zP P t, slk k h.l with
   | some el', some (.list el _ g' _ u _) => cond (Nat.beq el' el && Nat.beq g g') (qQU n n hi fun b => qQU 0 b lo fun a =>
      .ite (Nat.beq a 0) (K (.sl k g n 0 b)) (.ite (Nat.beq a b) (K (.d (.list el u) [])) (K (.sl k g n a (b - a))))) .fail
   | _, _ => .fail)
 | .sl k g n o m => (match zP P t, slk k h.l with
   | some el', some (.list el _ g' _ u _) => cond (Nat.beq el' el && Nat.beq g g') (qQU m m hi fun b => qQU 0 b lo fun a =>
      .ite (Nat.beq a 0) (K (.sl k g n o b)) (.ite (Nat.beq a b) (K (.d (.list el u) [])) (K (.sl k g n (o + a) (b - a))))) .fail
   | _, _ => .fail)
 | _ => .fail
theorem qSP {t : TypeId} {x : SV} {lo hi : Option SV} {K : SV -> q9D R} (ho : OkH P h) (hx : x.ok h) (e : (qT5 P t x lo hi h K).run = some r) :
 ∃ v, wL P t x.enc (lo.map SV.enc) (hi.map SV.enc) (qD h.l) = some v.enc ∧ v.ok h ∧ (K v).run = some r := by
 unfold qT5 at e
 have key : ∀ {k g n o m w : Nat} {gr : Bool} {el el' : TypeId} {u : Ty} {xs : List u.sem}, slk k h.l = some (.list el gr g w u xs) -> n = xs.length -> o + m <= n -> g < h.next -> zP P t = some el' -> Nat.beq el' el = true ->
  ∀ a b, bnd m m (hi.map SV.enc) = some b -> b <= m -> bnd 0 b (lo.map SV.enc) = some a -> a <= b ->
  (q9D.ite (Nat.beq a 0) (K (.sl k g n o b)) (.ite (Nat.beq a b) (K (.d (.list el u) [])) (K (.sl k g n (o + a) (b - a))))).run = some r ->
  ∃ v, wL P t (.own k n o m) (lo.map SV.enc) (hi.map SV.enc) (qD h.l) = some v.enc ∧ v.ok h ∧ (K v).run = some r := by
  intro k g n o m w gr el el' u xs hk hn hom hg hel hbe a b hb hbm ha hab e;have hl := ho.list _ _ _ _ _ _ _ hk
  have pre : wL P t (.own k n o m) (lo.map SV.enc) (hi.map SV.enc) (qD h.l) = some (cond (Nat.beq a 0) (.own k n o b) (cond (Nat.beq a b) (.f (.l el 0 [])) (.own k n (o + a) (b - a)))) := by
   simp only [wL, yT hk, hel];rw [show (SO.list el gr g w u xs).enc.el = el from rfl, hl.2.1, hb];simp only [ha, qR, hn, pU, hbe, zJ7, cond_true]
  have hsl : qWX h k g n := ⟨hg, fun el2 gr2 w2 t2 xs2 hk2 => by
   rw [hk] at hk2;cases hk2
   exact hn⟩
  rw [pre]
  rcases run_ite e with ⟨z, e⟩ | ⟨z, e⟩
  ·exact ⟨_, by rw [z]; simp [SV.enc], by simp only [SV.ok]; exact ⟨hsl, by omega⟩, e⟩
  ·rcases run_ite e with ⟨z2, e⟩ | ⟨z2, e⟩
   ·exact ⟨_, by rw [z, z2]; simp [SV.enc, Ty.fv], by simp [SV.ok], e⟩
   ·exact ⟨_, by rw [z, z2]; simp [SV.enc], by simp only [SV.ok]; exact ⟨hsl, by omega⟩, e⟩
 split at e
 ·rename_i el u xs;split at e
  ·rename_i el' s hel hs;have e_ := qE e;clear e;obtain ⟨c1, e⟩ := e_;rw [zI5] at c1;have hw : s = u.w := zI6 c1.2;have he : el' = el := zI6 c1.1;subst hw he;obtain ⟨b, hb, hb2, e1⟩ := wV e;obtain ⟨a, ha, ha2, e2⟩ := wV e1;have hbl : b <= xs.length := by rcases hb2 with q | q <;> omega
   have hab : a <= b := by rcases ha2 with q | q <;> omega
   refine ⟨_, ?_, by simp [SV.ok], e2⟩;simp only [SV.enc, Ty.fv, wL, hel, hs, hb, ha, pU, yM, zJ7, cond_true];rw [aJ, mR]
   cases hq : Nat.beq a b with
   | true =>
     have : a = b := zI6 hq;subst this;simp
   | false =>
     simp only [cond_false, zKJ, zLJ];rw [zK4 (by omega)]
  ·cases e
 ·split at e
  ·rename_i el hel;have e_ := qE e;clear e;obtain ⟨c1, e⟩ := e_;obtain ⟨b, hb, hb2, e1⟩ := wV e;obtain ⟨a, ha, ha2, e2⟩ := wV e1;refine ⟨_, ?_, by simp [SV.ok], e2⟩;have hb' : bnd 0 0 (hi.map SV.enc) = some b := hb;simp only [SV.enc, fvv, wL, hel, hb', ha, c1, cond_true]
  ·cases e
 ·rename_i k g n;split at e
  ·rename_i el' el gr g' w u xs hel hk;have e_ := qE e;clear e;obtain ⟨c1, e⟩ := e_;rw [zI5] at c1;have hg : g = g' := zI6 c1.2;subst hg;obtain ⟨b, hb, hb2, e1⟩ := wV e;obtain ⟨a, ha, ha2, e2⟩ := wV e1;simp only [SV.ok] at hx;refine key hk (hx.2 _ _ _ _ _ hk) (by omega) hx.1 hel c1.1 a b hb (by rcases hb2 with q | q <;> omega) ha (by rcases ha2 with q | q <;> omega) ?_;rw [zJS]; exact e2
  ·cases e
 ·rename_i k g n o m;split at e
  ·rename_i el' el gr g' w u xs hel hk;have e_ := qE e;clear e;obtain ⟨c1, e⟩ := e_;rw [zI5] at c1;have hg : g = g' := zI6 c1.2;subst hg;obtain ⟨b, hb, hb2, e1⟩ := wV e;obtain ⟨a, ha, ha2, e2⟩ := wV e1;simp only [SV.ok] at hx;exact key hk (hx.1.2 _ _ _ _ _ hk) hx.2 hx.1.1 hel c1.1 a b hb (by rcases hb2 with q | q <;> omega) ha (by rcases ha2 with q | q <;> omega) e2
  ·cases e
 ·cases e
end
end Go.Sv
namespace Go.Sv
open Go.Idl
variable [Gc]
variable {P : Program} {t t2 : TypeId} {a b : ByteArray} {ph : PHp}
theorem aR {v : Value} (h3 : qIN v = true) (h4 : ofC v = fvv v) : qQS (qAX H00 v) = some (fvv v) := by
 unfold qAX;rw [h3];show some (ofC v) = _;rw [h4]
theorem qKL {op : BinOp} {v : Value} (h1 : q9T P (cop (.binOp op t (.const (.string a)) (.const (.string b)) t2)) op t (.string a) (.string b) [] H00 = kC P (cop (.binOp op t (.const (.string a)) (.const (.string b)) t2)) [] H00)
 (h2 : zY P (execOp (Env.val []) (cop (.binOp op t (.const (.string a)) (.const (.string b)) t2))) = some (.value v)) (h3 : qIN v = true) (h4 : ofC v = fvv v) : jW P op t t2 (fvv (.string a)) (fvv (.string b)) ph = some (fvv v) := by
 unfold jW;simp only [fvv, pl, q5Q, cond_false];show qQS (q9T P _ op t (.string a) (.string b) [] H00) = _;rw [h1];unfold kC;have : zI (xY (Env.val []) (cop (.binOp op t (.const (.string a)) (.const (.string b)) t2)).op.operands.toList) = true := rfl;rw [if_pos this, h2];exact aR h3 h4
theorem q0S (hl : a.size + b.size <= 9223372036854775807) : jW P .add t t2 (fvv (.string a)) (fvv (.string b)) ph = some (fvv (.string (a ++ b))) := by
 refine qKL rfl ?_ rfl rfl;have hm : IntKind.i64.max = 9223372036854775807 := rfl;have : ¬ (((a.size + b.size : Nat) : Int) > IntKind.i64.max) := by rw [hm]; omega
 show zY P (do eqGuard .add t (.const (.string a)) (.const (.string b)) (.string a) (.string b); let v <- Op.stringOp .add a b; pure (Next.value v)) = _;unfold Op.stringOp;simp only [this, if_false];rfl
theorem q3K : jW P .eql t t2 (fvv (.string a)) (fvv (.string b)) ph = some (fvv (.bool (a.toList == b.toList))) := qKL rfl rfl rfl rfl
theorem q2A : jW P .neq t t2 (fvv (.string a)) (fvv (.string b)) ph = some (fvv (.bool (!(a.toList == b.toList)))) := qKL rfl rfl rfl rfl
theorem dB {α β : Type} (s : Sem α) (g : α -> Sem β) : zY P (s >>= g) = (zY P s).bind fun a => zY P (g a) := kL g s
theorem dP {α : Type} (a : α) : zY P (pure a : Sem α) = some a := rfl
theorem qW2 {ts : Array TypeId} (hs : qVV P ts = true) : ∃ t, ts[0]? = some t ∧ P.underlying t = some .string := by
 unfold qVV at hs
 cases h0 : ts[0]? with
 | none => rw [h0] at hs; cases hs
 | some t =>
   rw [h0] at hs;simp only [zJP] at hs;split at hs
   ·rename_i hq; exact ⟨t, rfl, hq⟩
   ·cases hs
theorem q4Q {t : TypeId} {ts : Array TypeId} {ty : TypeId} (h0 : ts[0]? = some t) (hu : P.underlying t = some .string) : zY P (Go.Builtin.len_ ts ty #[.string a]) = some (goInt a.size) := by
 unfold Go.Builtin.len_;simp only [h0, dB, zN, hu, zJP, zK0, zJT];rfl
theorem qOT {x : Operand} {ts : Array TypeId} {ty : TypeId} {env : Env} (hs : qVV P ts = true) (hx : env.val x = .string a) :
 qQS (kC P (cop (.call ⟨.builtin .len, #[x], ts⟩) ty) env H00) = some (fvv (.int .i64 (a.size : Int))) := by
 have h2 : xY env.val (cop (.call ⟨.builtin .len, #[x], ts⟩) ty).op.operands.toList = [env.val x] := rfl;unfold kC;rw [h2];obtain ⟨t, h0, hu⟩ := qW2 hs;have hp : zI [env.val x] = true := by rw [hx]; rfl
 rw [if_pos hp]
 have he : zY P (execOp env.val (cop (.call ⟨.builtin .len, #[x], ts⟩) ty)) = some (.value (goInt a.size)) := by
  simp only [cop, execOp, resolve, List.map_toArray, zJM, zLE, hx];show zY P (do let v <- Go.Builtin.len_ ts ty #[.string a]; pure (Next.value v)) = _;rw [dB, q4Q h0 hu]; rfl
 rw [he];exact aR rfl rfl
def qYX (s : ByteArray) (i : Int) : Option Int := if 0 <= i then (s[i.toNat]?).map fun b => (b.toNat : Int) else none
theorem qYY {t : TypeId} {s : ByteArray} {k : IntKind} {i c : Int} {ty : TypeId} (hu : P.underlying t = some .string) (h : qYX s i = some c) : qKI P (.index t (.const (.string s)) (.const (.int k i))) ty = some (fvv (.int .u8 c)) := by
 unfold qKI kC;have hp : zI (xY (Env.val []) (cop (.index t (.const (.string s)) (.const (.int k i))) ty).op.operands.toList) = true := rfl;rw [if_pos hp]
 have he : zY P (execOp (Env.val []) (cop (.index t (.const (.string s)) (.const (.int k i))) ty)) = some (.value (.int .u8 c)) := by
  show zY P (do let v <- Instr.index t (.string s) (.int k i); pure (Next.value v)) = _;unfold qYX at h;split at h
  ·rename_i hc;obtain ⟨b, hb, rfl⟩ := zJF.1 h;unfold Instr.index;simp only [dB, zN, hu, zJP];have h0 : zY P (asIntOf (.int k i)) = some (k, i) := rfl;rw [h0];simp only [zJP, if_pos hc, hb, dP]
  ·cases h
 rw [he];exact aR rfl rfl
theorem rQ {k : IntKind} {i : Int} {y n : Nat} {code : BoundsCode} (h : (if 0 <= i ∧ i <= (y : Int) then some i.toNat else none) = some n) : zY P (Instr.sliceBound (.int k i) y code) = some n := by
 unfold Instr.sliceBound;rw [dB];have h0 : zY P (asIntOf (.int k i)) = some (k, i) := rfl;rw [h0];simp only [zJP];split at h
 ·rename_i hc;rw [if_pos hc];cases h; rfl
 ·cases h
theorem qRY {d most n : Nat} {x : Option PV} (h : bnd d most x = some n) : (x = none ∧ n = d) ∨ ∃ k i, x = some (fvv (.int k i)) ∧ (if 0 <= i ∧ i <= (most : Int) then some i.toNat else none) = some n := by
 unfold bnd at h;split at h
 ·cases h; exact .inl ⟨rfl, rfl⟩
 ·rename_i k i; exact .inr ⟨k, i, rfl, h⟩
 ·cases h
theorem qYE {t : TypeId} {s : ByteArray} {lo hi : Option Operand} {l u : Nat} {env : List PV} {ty : TypeId} (hu : P.underlying t = some .string) (h1 : bnd s.size s.size (hi.map (qI env)) = some u) (h2 : bnd 0 u (lo.map (qI env)) = some l) :
 qKI P (.slice t (.const (.string s)) (lo.map fun a => .const ((pl (qI env a)).getD undef)) (hi.map fun a => .const ((pl (qI env a)).getD undef)) none) ty = some (fvv (.string (s.extract l u))) := by
 have opt : ∀ {o : Option Operand} {d most n : Nat}, bnd d most (o.map (qI env)) = some n -> (o = none ∧ n = d) ∨ ∃ k i, (o.map fun a => Operand.const ((pl (qI env a)).getD undef)) = some (.const (.int k i)) ∧ (if 0 <= i ∧ i <= (most : Int) then some i.toNat else none) = some n := fun {o d most n} h => by
  rcases qRY h with ⟨q, e⟩ | ⟨k, i, q, e⟩
  ·cases o with
   | none => exact .inl ⟨rfl, e⟩
   | some a => cases q
  ·cases o with
   | none => cases q
   | some a =>
     have q : qI env a = fvv (.int k i) := by simpa using q
     exact .inr ⟨k, i, by simp [q, fvv, pl], e⟩
 unfold qKI kC
 have hk : ∀ (lo' hi' : Option Operand) (vl vh : Option Value), lo'.map (Env.val []) = vl -> hi'.map (Env.val []) = vh -> zI (xY (Env.val []) (cop (.slice t (.const (.string s)) lo' hi' none) ty).op.operands.toList) = true ->
  zY P (Instr.sliceBounds false s.size s.size vl vh none) = some (l, u, s.size) -> qQS (if zI (xY (Env.val []) (cop (.slice t (.const (.string s)) lo' hi' none) ty).op.operands.toList) = true then qD2 H00 (zY P (execOp (Env.val []) (cop (.slice t (.const (.string s)) lo' hi' none) ty))) else none) = some (fvv (.string (s.extract l u))) := by
  intro lo' hi' vl vh e1 e2 hp hb;rw [if_pos hp]
  have he : zY P (execOp (Env.val []) (cop (.slice t (.const (.string s)) lo' hi' none) ty)) = some (.value (.string (s.extract l u))) := by
   show zY P (do let v <- Instr.sliceAt t (.string s) (lo'.map (Env.val [])) (hi'.map (Env.val [])) none; pure (Next.value v)) = _;rw [e1, e2];unfold Instr.sliceAt;simp only [dB, zN, hu, zJP];unfold Instr.slice;simp only [dB, zN, hu, zJP];simp only [zNC, zKV, if_false, dB, hb, zJP, dP]
  rw [he];exact aR rfl rfl
 have hB : ∀ (vl vh : Option Value), (vh = none ∧ u = s.size ∨ ∃ k i, vh = some (.int k i) ∧ (if 0 <= i ∧ i <= (s.size : Int) then some i.toNat else none) = some u) -> (vl = none ∧ l = 0 ∨ ∃ k i, vl = some (.int k i) ∧ (if 0 <= i ∧ i <= (u : Int) then some i.toNat else none) = some l) ->
  zY P (Instr.sliceBounds false s.size s.size vl vh none) = some (l, u, s.size) := by
  intro vl vh a b;unfold Instr.sliceBounds;rcases a with ⟨rfl, rfl⟩ | ⟨k, i, rfl, ha⟩ <;> rcases b with ⟨rfl, rfl⟩ | ⟨k', i', rfl, hb⟩ <;> simp only [dB, dP, zJP, zNC, zKV, if_false]
  ·rw [rQ hb]; rfl
  ·rw [rQ ha]; rfl
  ·rw [rQ ha]; simp only [zJP]; rw [rQ hb]; rfl
 rcases opt h1 with ⟨rfl, e1⟩ | ⟨k, i, e1, f1⟩ <;> rcases opt h2 with ⟨rfl, e2⟩ | ⟨k', i', e2, f2⟩
 ·exact hk none none none none rfl rfl rfl (hB _ _ (.inl ⟨rfl, e1⟩) (.inl ⟨rfl, e2⟩))
 ·rw [e2]; exact hk _ none _ none rfl rfl rfl (hB _ _ (.inl ⟨rfl, e1⟩) (.inr ⟨k', i', rfl, f2⟩))
 ·rw [e1]; exact hk none _ none _ rfl rfl rfl (hB _ _ (.inr ⟨k, i, rfl, f1⟩) (.inl ⟨rfl, e2⟩))
 ·rw [e1, e2]; exact hk _ _ _ _ rfl rfl rfl (hB _ _ (.inr ⟨k, i, rfl, f1⟩) (.inr ⟨k', i', rfl, f2⟩))
theorem q3S {s d : TypeId} {k k' : IntKind} {x : Int} {u : TypeDesc} (hs : P.underlying s = some u) (hd : P.underlying d = some (.int k')) : fZ P (fun a => .convert s d a) (fvv (.int k x)) = some (fvv (.int k' (k'.wrap x))) := by
 have hl : pl (fvv (.int k x)) = some (.int k x) := rfl;unfold fZ;rw [hl];unfold qKI kC;have hp : zI (xY (Env.val []) (cop (.convert s d (.const (.int k x)))).op.operands.toList) = true := rfl;simp only [hp, if_true]
 have he : zY P (execOp (Env.val []) (cop (.convert s d (.const (.int k x))))) = some (.value (.int k' (k'.wrap x))) := by
  show zY P (do let v <- convert s d (.int k x); pure (Next.value v)) = _;unfold convert;simp only [dB, zN, hs, hd, zJP];rfl
 rw [he];exact aR rfl rfl
theorem qXK {s d : TypeId} {x : ByteArray} {u : TypeDesc} (hs : P.underlying s = some u) (hd : P.underlying d = some .string) : fZ P (fun a => .convert s d a) (fvv (.string x)) = some (fvv (.string x)) := by
 have hl : pl (fvv (.string x)) = some (.string x) := rfl;unfold fZ;rw [hl];unfold qKI kC;have hp : zI (xY (Env.val []) (cop (.convert s d (.const (.string x)))).op.operands.toList) = true := rfl;simp only [hp, if_true]
 have he : zY P (execOp (Env.val []) (cop (.convert s d (.const (.string x))))) = some (.value (.string x)) := by
  show zY P (do let v <- convert s d (.string x); pure (Next.value v)) = _;unfold convert;simp only [dB, zN, hs, hd, zJP];cases u <;> rfl
 rw [he];exact aR rfl rfl
end Go.Sv
namespace Go.Sv
open Go.Idl
noncomputable section
variable [Gc]
variable [Yl]
variable {P : Program} {h : SH} {R : Type} {r : R}
def qCP : SV -> Option Value
 | .d (.int k) x => some (.int k x)
 | .d .bool x => some (.bool x)
 | .d .str x => some (.string x)
 | .c v => some v
 | _ => none
theorem oF {v : SV} {a : Value} (e : qCP v = some a) : v.enc = fvv a := by
 unfold qCP at e;split at e <;> cases e <;> simp [SV.enc, Ty.fv, fvv]
def qEQ : List SV -> Option (List Value)
 | [] => some []
 | v :: l => match qCP v, qEQ l with
   | some a, some b => some (a :: b)
   | _, _ => none
def fK : SV -> Option Value
 | .agg l => (match qEQ l with
   | some vs => some (.agg vs.toArray)
   | none => none)
 | v => qCP v
theorem qC6 : ∀ {l : List SV} {vs : List Value}, qEQ l = some vs -> qJG (qB l) = some vs
 | [], vs, e => by cases e; simp [qB, qJG]
 | v :: l, vs, e => by
   unfold qEQ at e;split at e
   ·rename_i a b ha hb;cases e;simp only [qB, oF ha, fvv, qJG, pl1, qC6 hb]
   ·cases e
theorem vH {v : SV} {a : Value} (e : fK v = some a) : pl v.enc = some a := by
 unfold fK at e;split at e
 ·rename_i l;split at e
  ·rename_i vs hvs;cases e;simp only [SV.enc, pl, qC6 hvs]
  ·cases e
 ·rw [oF e];rfl
def q8B (op : BinOp) (a b : ByteArray) (K : SV -> q9D R) (F : q9D R) : q9D R := match op with
 | .add => .ite (Nat.ble (a.size + b.size) 9223372036854775807) (K (.d .str (a ++ b))) .fail
 | .eql => K (.d .bool (a.toList == b.toList))
 | .neq => K (.d .bool (!(a.toList == b.toList)))
 | _ => F
def qOK (P : Program) (t : TypeId) : Bool := match P.underlying t with
 | some .string => true
 | _ => false
omit [Yl] in
theorem qDO {t : TypeId} (e : qOK P t = true) : P.underlying t = some .string := by
 unfold qOK at e;split at e
 ·assumption
 ·cases e
def qKH (P : Program) (t : TypeId) (s : ByteArray) (ix : SV) (K : SV -> q9D R) : q9D R := match asI ix with
 | some (_, i) => cond (qOK P t) (.bind (qYX s i) fun c => K (.d (.int .u8) c)) .fail
 | none => .fail
def qR9 (P : Program) (t : TypeId) (s : ByteArray) (lo hi : Option SV) (K : SV -> q9D R) : q9D R :=
 cond (qOK P t) (qQU s.size s.size hi fun b => qQU 0 b lo fun a => K (.d .str (s.extract a b))) .fail
def qXB (P : Program) (s d : TypeId) (x : SV) (K : SV -> q9D R) (F : q9D R) : q9D R := match P.underlying s, P.underlying d with
 | some _, some (.int k') => (match asI x with
   | some (_, a) => K (.d (.int k') (k'.wrap a))
   | none => F)
 | some _, some .string => (match asS x with
   | some a => K (.d .str a)
   | none => F)
 | _, _ => F
def Ty.vals : (t : Ty) -> List Value -> Option (t.sem × List Value)
 | .int k, .int k' x :: l => cond (decide (k' = k)) (some (x, l)) none
 | .bool, .bool x :: l => some (x, l)
 | .str, .string x :: l => some (x, l)
 | .unit, l => some ((), l)
 | .pair a b, l => match a.vals l with
   | some (x, l1) => (match b.vals l1 with
     | some (y, l2) => some ((x, y), l2)
     | none => none)
   | none => none
 | _, _ => none
def Ty.ofV (t : Ty) (v : Value) : Option t.sem := cond t.one (match t.vals [v] with
 | some (x, []) => some x
 | _ => none) (match v with
 | .agg a => (match t.vals a.toList with
   | some (x, []) => some x
   | _ => none)
 | _ => none)
def qYR (t : Ty) (x : t.sem) : SV := cond t.one (.d t x) (.agg (t.svs x))
omit [Yl] in
theorem sZ (t : Ty) (x : t.sem) : (qYR t x).ok h := by
 unfold qYR
 cases t.one with
 | true => simp [SV.ok]
 | false => simp only [cond_false, SV.ok]; exact qDA t x
omit [Yl] in
theorem qIB : ∀ {a b : List Value}, kJ okC a = true -> kJ okC b = true -> kJ okC (a ++ b) = true
 | [], _, _, h => h
 | x :: a, b, h1, h2 => by
   rw [yZ, zI5] at h1;rw [zK3, yZ, h1.1, qIB h1.2 h2]; rfl
omit [Yl] in
theorem bG : ∀ {t : Ty} {l l' : List Value} {x : t.sem}, t.vals l = some (x, l') -> ∃ us, l = us ++ l' ∧ kJ okC us = true ∧ xY fvv us = (t.cells x).map PV.f
 | .int k, l, l', x, e => by
   cases l with
   | nil => cases e
   | cons v l =>
     cases v <;> try (cases e; done)
     rename_i k' y;have e : cond (decide (k' = k)) (some ((y : Int), l)) none = some (x, l') := e
     cases hk : decide (k' = k) with
     | false => rw [hk] at e; cases e
     | true =>
       rw [hk] at e;cases e;have : k' = k := by simpa using hk
       subst this;exact ⟨[.int k' x], rfl, rfl, rfl⟩
 | .bool, l, l', x, e => by
   cases l with
   | nil => cases e
   | cons v l =>
     cases v <;> try (cases e; done)
     cases e;exact ⟨[.bool x], rfl, rfl, rfl⟩
 | .str, l, l', x, e => by
   cases l with
   | nil => cases e
   | cons v l =>
     cases v <;> try (cases e; done)
     cases e;exact ⟨[.string x], rfl, rfl, rfl⟩
 | .unit, l, l', x, e => by
   have e : some ((), l) = some ((), l') := by cases l <;> exact e
   cases e;exact ⟨[], rfl, rfl, rfl⟩
 | .list _ _, l, l', x, e => by cases l <;> cases e
 | .raw, l, l', x, e => by cases l <;> cases e
 | .ol _ _, l, l', x, e => by cases l <;> cases e
 | .nif, l, l', x, e => by cases l <;> cases e
 | .pair a b, l, l', x, e => by
   have e : (match a.vals l with
    | some (x, l1) => (match b.vals l1 with
      | some (y, l2) => some ((x, y), l2)
      | none => none)
    | none => none) = some (x, l') := by cases l <;> exact e
   split at e
   ·rename_i x1 l1 h1;split at e
    ·rename_i y l2 h2;cases e;obtain ⟨us, rfl, u1, u2⟩ := bG h1;obtain ⟨ws, rfl, w1, w2⟩ := bG h2;refine ⟨us ++ ws, by rw [zJ0], ?_, ?_⟩
     ·exact qIB u1 w1
     ·show _ = (a.cells x1 ++ b.cells y).map PV.f;rw [yQ] at u2 w2 ⊢;rw [zJ9, zJ9, u2, w2]
    ·cases e
   ·cases e
theorem pI {t : Ty} {v : Value} {x : t.sem} (e : t.ofV v = some x) : ofC v = (qYR t x).enc := by
 unfold Ty.ofV at e;unfold qYR
 cases ht : t.one with
 | true =>
   rw [ht] at e;simp only [cond_true] at e ⊢;split at e
   ·rename_i y hy;cases e;obtain ⟨us, h1, h2, h3⟩ := bG hy;rw [zKR] at h1;subst h1;rw [Ty.cells_one ht] at h3
    have h3 : fvv v = .f (t.fv x) := by
     have : xY fvv [v] = [fvv v] := rfl;rw [this] at h3;simpa using h3
    have h2 : okC v = true := by
     rw [yZ, zI5] at h2; exact h2.1
    have : ofC v = fvv v := by
     unfold okC at h2;rw [zI5] at h2
     cases v <;> first | (exact absurd h2.2 (by decide)) | skip
     all_goals first | (show q0T _ = _; unfold q0T okC; simp [h2.1, h2.2]) | (simp [oneCell] at h2)
    rw [this, h3]; simp [SV.enc]
   ·cases e
 | false =>
   rw [ht] at e;simp only [cond_false] at e ⊢;split at e
   ·rename_i a;split at e
    ·rename_i y hy;cases e;obtain ⟨us, h1, h2, h3⟩ := bG hy;rw [zKR] at h1;show cond (kJ okC a.toList) (PV.agg (xY fvv a.toList)) .unk = _;rw [h1, h2, h3];simp only [cond_true, SV.enc, uY]
    ·cases e
   ·cases e
def smp (x : SV) (h : SH) : Option (Nat × List (Value × Value)) := match x with
 | .mp k => (match slk k h.l with
   | some (.spc _ (.map es)) => some (k, es)
   | _ => none)
 | _ => none
omit [Yl] in
theorem uQ : ∀ (n : Nat) (es : List (Value × Value)) (i : Nat), (yR n es)[i]? = (es[i]?).map fun p => (⟨p.1, p.2, n + i⟩ : MapEntry)
 | n, [], i => by simp [yR]
 | n, p :: es, 0 => by simp [yR]
 | n, p :: es, i + 1 => by
   show (yR (n + 1) es)[i]? = _;rw [uQ (n + 1) es i];have : n + 1 + i = n + (i + 1) := by omega
   rw [this]; simp
omit [Yl] in
theorem qAN : ∀ (n : Nat) (es : List (Value × Value)), (yR n es).length = es.length
 | n, [] => rfl
 | n, p :: es => by
   show (yR (n + 1) es).length + 1 = _;rw [qAN, zJN]
omit [Yl] in
theorem mX : ∀ (n : Nat) (es : List (Value × Value)) (k v : Value), yR n (es ++ [(k, v)]) = yR n es ++ [⟨k, v, n + es.length⟩]
 | n, [], k, v => rfl
 | n, p :: es, k, v => by
   show _ :: yR (n + 1) (es ++ [(k, v)]) = _;rw [mX (n + 1) es k v];show _ = _ :: (yR (n + 1) es ++ _);rw [zJN];have : n + 1 + es.length = n + (es.length + 1) := by omega
   rw [this]
omit [Yl] in
theorem qBI (es : List (Value × Value)) (i : Nat) (k v : Value) (f : MapEntry -> MapEntry) (hf : ∀ p, es[i]? = some p -> f ⟨p.1, p.2, i⟩ = ⟨k, v, i⟩) : yR 0 (es.set i (k, v)) = (yR 0 es).modify i f := by
 apply zKG;intro j;rw [uQ, zM1, uQ, zJ4, zJS];by_cases hij : i = j
 ·subst hij;rw [if_pos rfl];simp only [if_true]
  cases he : es[i]? with
  | none =>
    have : ¬ i < es.length := fun hl => by rw [zI9 hl] at he; cases he
    rw [if_neg this]; rfl
  | some p =>
    have := (zJA.1 he).1;rw [if_pos this];simp [hf p he]
 ·rw [if_neg hij];simp only [if_neg hij];cases es[j]? <;> rfl
theorem qXN {x : SV} {k : Nat} {es : List (Value × Value)} (hs : spec P 1000000001 = true) (e : smp x h = some (k, es)) : uN P x.enc (qD h.l) = some (k, (SpO.map es).enc, es.length, yR 0 es) ∧ ∃ w, slk k h.l = some (.spc w (.map es)) := by
 unfold smp at e;split at e
 ·rename_i k';split at e
  ·rename_i w es' hk;cases e;refine ⟨?_, w, hk⟩;simp only [SV.enc, uN, yT hk]
   show cond (spec P 1000000001 && Nat.beq 1000000001 1000000001) (match mapOf (kH es.length (yR 0 es)) with
    | some (c, es') => some (k, (SO.spc w (SpO.map es)).enc, c, es')
    | none => none) none = _
   rw [hs, qE0];rfl
  ·cases e
 ·cases e
def q8G (P : Program) (kt : TypeId) (k : Value) (es : List (Value × Value)) : Option Bool := (vZ P kt k (yR 0 es)).map Option.isSome
def q69 (P : Program) (kt : TypeId) (t : Ty) (k : Value) (es : List (Value × Value)) : Option t.sem := match vZ P kt k (yR 0 es) with
 | some (some i) => (match es[i]? with
   | some p => t.ofV p.2
   | none => none)
 | _ => none
def q2K (ok : Bool) (t : Ty) (x : t.sem) (b : Bool) : SV := cond ok (.tup [qYR t x, .c (.bool b)]) (qYR t x)
theorem qM9 {ok b : Bool} {t : Ty} {x : t.sem} {v : Value} (e : t.ofV v = some x) : qY3 ok v b = (q2K ok t x b).enc := by
 unfold qY3 q2K
 cases ok with
 | true => simp [pI e, SV.enc, qB]
 | false => exact pI e
omit [Yl] in
theorem qQ5 {ok b : Bool} {t : Ty} {x : t.sem} : (q2K ok t x b).ok h := by
 unfold q2K
 cases ok with
 | true => simp only [cond_true, SV.ok, okL, and_true]; exact sZ t x
 | false => exact sZ t x
def qLF (P : Program) (t : TypeId) (m kx : SV) (ok : Bool) (h : SH) (K : SV -> q9D R) : q9D R := match P.underlying t, smp m h, fK kx with
 | some (.map kt et), some (_, es), some kv => (match qDL P 8 et, vM P et with
   | some vt, some z => (match vt.ofV z with
     | some z0 => cond (spec P 1000000001 && zK z) (.bind (q8G P kt kv es) fun b => .ite b (.bind (q69 P kt vt kv es) fun x => K (q2K ok vt x true)) (K (q2K ok vt z0 false))) .fail
     | none => .fail)
   | _, _ => .fail)
 | _, _, _ => .fail
theorem qPK {t : TypeId} {m kx : SV} {ok : Bool} {K : SV -> q9D R} (e : (qLF P t m kx ok h K).run = some r) : ∃ v, xX P t m.enc kx.enc ok (qD h.l) = some v.enc ∧ v.ok h ∧ (K v).run = some r := by
 unfold qLF at e;split at e
 case h_2 => cases e
 rename_i kt et k es kv hu hm hk;split at e
 case h_2 => cases e
 rename_i vt z hvt hz;split at e
 case h_2 => cases e
 rename_i z0 hz0;obtain ⟨c, e1⟩ := qE e;rw [zI5] at c;obtain ⟨b, hb, e2⟩ := run_bind e1;obtain ⟨h1, w, h2⟩ := qXN c.1 hm
 have pre : xX P t m.enc kx.enc ok (qD h.l) = (match vZ P kt kv (yR 0 es) with
  | some (some i) => (match (yR 0 es)[i]? with
    | some e => some (qY3 ok e.val true)
    | none => none)
  | some none => some (qY3 ok z false)
  | none => none) := by
  unfold xX;rw [hu, h1, vH hk];simp only [hz, c.2, cond_true];rfl
 rw [pre];unfold q8G at hb
 cases hf : vZ P kt kv (yR 0 es) with
 | none => rw [hf] at hb; cases hb
 | some o =>
   rw [hf] at hb
   cases o with
   | none =>
     cases hb;refine ⟨_, by simp only [qM9 hz0], qQ5, e2⟩
   | some i =>
     cases hb;obtain ⟨x, hx, e3⟩ := run_bind (show (q9D.bind (q69 P kt vt kv es) fun x => K (q2K ok vt x true)).run = some r from e2);unfold q69 at hx;rw [hf] at hx;simp only at hx;split at hx
     ·rename_i p hp;refine ⟨_, ?_, qQ5, e3⟩;simp only [uQ, hp, zJJ, qM9 hx]
     ·cases hx
def q80 (P : Program) (kt : TypeId) (k v : Value) (es : List (Value × Value)) : Option (List (Value × Value)) := match vZ P kt k (yR 0 es) with
 | some (some i) => (match es[i]? with
   | some p => cond (Instr.sameBits 10000 p.1 k) (some (es.set i (k, v))) none
   | none => none)
 | some none => some (es ++ [(k, v)])
 | none => none
def pM (P : Program) (t : TypeId) (m kx x : SV) (h : SH) (K : SV -> SH -> q9D R) : q9D R := match P.underlying t, smp m h, fK kx, fK x with
 | some (.map kt _), some (k, es), some kv, some xv => cond (spec P 1000000001 && qU xv) (.bind (q80 P kt kv xv es) fun es' => K (.tup []) (h.put k fun v => .spc v (.map es'))) .fail
 | _, _, _, _ => .fail
theorem aM {k : Nat} {es es' : List (Value × Value)} {w : Nat} (ho : OkH P h) (hk : slk k h.l = some (.spc w (.map es))) : Keep h (h.put k fun v => .spc v (.map es')) ∧ OkH P (h.put k fun v => .spc v (.map es')) ∧
 qD (h.put k fun v => .spc v (.map es')).l = kD k { (SpO.map es).enc with cs := kH es'.length (yR 0 es') } (qD h.l) := by
 have := aB (f := fun v => .spc v (.map es')) ho hk rfl;exact ⟨this.1, this.2, vG k _ _⟩
theorem qE9 {t : TypeId} {m kx x : SV} {K : SV -> SH -> q9D R} (ho : OkH P h) (e : (pM P t m kx x h K).run = some r) :
 ∃ h', kN P t m.enc kx.enc x.enc (qD h.l) = some (qD h'.l) ∧ Keep h h' ∧ OkH P h' ∧ (K (.tup []) h').run = some r := by
 unfold pM at e;split at e
 case h_2 => cases e
 rename_i kt et k es kv xv hu hm hkv hxv;obtain ⟨c, e1⟩ := qE e;rw [zI5] at c;obtain ⟨es', hs, e2⟩ := run_bind e1;obtain ⟨h1, w, h2⟩ := qXN c.1 hm;obtain ⟨p1, p2, p3⟩ := aM (es' := es') ho h2;refine ⟨_, ?_, p1, p2, e2⟩;unfold kN;rw [hu, h1, vH hkv, vH hxv, p3];simp only [c.2, cond_true];unfold q80 at hs
 cases hf : vZ P kt kv (yR 0 es) with
 | none => rw [hf] at hs; cases hs
 | some o =>
   rw [hf] at hs
   cases o with
   | none =>
     cases hs;simp only [mX, zJW, zJN, zKZ, zJS]
   | some i =>
     simp only at hs ⊢;split at hs
     ·rename_i p hp
      cases hb : Instr.sameBits 10000 p.1 kv with
      | false => rw [hb] at hs; cases hs
      | true =>
        rw [hb] at hs;cases hs;simp only [uQ, hp, zJJ, hb, cond_true];rw [qBI es i kv xv (fun e => { e with key := kv, val := xv }) (fun _ _ => rfl), zL5]
     ·cases hs
def q8K (P : Program) (kt : TypeId) (t : Ty) (k z : Value) (es : List (Value × Value)) : Option (List (Value × Value) × Nat × t.sem) := match vZ P kt k (yR 0 es) with
 | some (some i) => (match es[i]? with
   | some p => cond (Instr.sameBits 10000 p.1 k && q33 i (vZ P kt k (yR 0 (es.set i (k, p.2))))) (match t.ofV p.2 with
     | some x => some (es.set i (k, p.2), i, x)
     | none => none) none
   | none => none)
 | some none => cond (q33 es.length (vZ P kt k (yR 0 (es ++ [(k, z)])))) (match t.ofV z with
   | some x => some (es ++ [(k, z)], es.length, x)
   | none => none) none
 | none => none
def qA1 (P : Program) (t : TypeId) (m kx : SV) (h : SH) (K : SV -> SH -> q9D R) : q9D R := match P.underlying t, smp m h, fK kx with
 | some (.map kt et), some (k, es), some kv => (match qDL P 8 et, vM P et with
   | some vt, some z => cond (spec P 1000000001 && zK z) (.bind (q8K P kt vt kv z es) fun q => K (.tup [qYR vt q.2.2, .d (.int .i64) (q.2.1 : Int)]) (h.put k fun v => .spc v (.map q.1))) .fail
   | _, _ => .fail)
 | _, _, _ => .fail
theorem qIJ {t : TypeId} {m kx : SV} {K : SV -> SH -> q9D R} (ho : OkH P h) (e : (qA1 P t m kx h K).run = some r) :
 ∃ v h', xI P t m.enc kx.enc (qD h.l) = some (v.enc, qD h'.l) ∧ Post P h h' v ∧ (K v h').run = some r := by
 unfold qA1 at e;split at e
 case h_2 => cases e
 rename_i kt et k es kv hu hm hkv;split at e
 case h_2 => cases e
 rename_i vt z hvt hz;obtain ⟨c, e1⟩ := qE e;rw [zI5] at c;obtain ⟨q, hs, e2⟩ := run_bind e1;obtain ⟨h1, w, h2⟩ := qXN c.1 hm;obtain ⟨p1, p2, p3⟩ := aM (es' := q.1) ho h2;refine ⟨_, _, ?_, ⟨p1, p2, ?_⟩, e2⟩
 ·unfold xI;rw [hu, h1, vH hkv, p3];unfold q8K at hs
  cases hf : vZ P kt kv (yR 0 es) with
  | none => rw [hf] at hs; cases hs
  | some o =>
    rw [hf] at hs
    cases o with
    | none =>
      simp only at hs ⊢;obtain ⟨hat, hs⟩ := xK hs;split at hs
      ·rename_i x hx;cases hs
       have hat' : q33 (yR 0 es).length (vZ P kt kv (yR 0 es ++ [⟨kv, z, es.length⟩])) = true := by
        rw [mX, zJS] at hat;rw [qAN];exact hat
       simp only [hf, hz, c.2, hat', zJ7, cond_true, mX, zJW, zJN, zKZ, zJS, SV.enc, qB, pI hx, Ty.fv, fvv]
      ·cases hs
    | some i =>
      simp only at hs ⊢;split at hs
      ·rename_i p hp;obtain ⟨hb', hs⟩ := xK hs;rw [zI5] at hb';obtain ⟨hb, hat⟩ := hb'
       ·split at hs
        ·rename_i x hx;cases hs;rw [qBI es i kv p.2 (fun e => { e with key := kv }) (fun p' hp' => by rw [hp] at hp'; cases hp'; rfl)] at hat;simp only [hf, uQ, hp, zJJ, hb, hat, zJ7, cond_true, SV.enc, qB, pI hx, Ty.fv, fvv, zJS];rw [qBI es i kv p.2 (fun e => { e with key := kv }) (fun p' hp' => by rw [hp] at hp'; cases hp'; rfl), zL5]
        ·cases hs
      ·cases hs
 ·simp only [SV.ok, okL, and_true]; exact sZ _ _
def qOJ (P : Program) (k : Nat) (h : SH) (K : SV -> SH -> q9D R) : q9D R := cond (spec P 1000000001) (K (.mp k) (h.new k fun v => .spc v (.map []))) .fail
theorem qJ2 {k : Nat} {K : SV -> SH -> q9D R} (ho : OkH P h) (e : (qOJ P k h K).run = some r) : ∃ v h', bA P k (qD h.l) = some (v.enc, qD h'.l) ∧ Post P h h' v ∧ (K v h').run = some r := by
 obtain ⟨c, e1⟩ := qE e;have hp := xW (k := k) (f := fun v => .spc v (.map [])) ho rfl;refine ⟨_, _, ?_, ⟨hp.1, hp.2, by simp [SV.ok]⟩, e1⟩;unfold bA;rw [c];simp only [cond_true, qGN, SV.enc];rfl
def q0W (P : Program) (ts : Array TypeId) (x : SV) (h : SH) : Option SV := match smp x h with
 | some (_, es) => cond (spec P 1000000001 && q6F P ts) (some (.d (.int .i64) ((List.length es : Nat) : Int))) none
 | none => none
theorem qYJ {ts : Array TypeId} {x v : SV} (e : q0W P ts x h = some v) : qCA P ts x.enc (qD h.l) = some v.enc ∧ v.ok h := by
 unfold q0W at e;split at e
 case h_2 => cases e
 rename_i k es hm
 cases hc : (spec P 1000000001 && q6F P ts) with
 | false => rw [hc] at e; cases e
 | true =>
   rw [hc] at e;cases e;rw [zI5] at hc;refine ⟨?_, by simp [SV.ok]⟩;unfold smp at hm;split at hm
   case h_2 => cases hm
   rename_i k';split at hm
   case h_2 => cases hm
   rename_i w es' hk;cases hm
   have h1 : pQ P (SV.enc (.mp k)) (qD h.l) = some (kH es.length (yR 0 es)) := by
    simp only [SV.enc, pQ, yT hk];show cond (!false && (spec P 1000000001 && Nat.beq 1000000001 1000000001)) (some (kH es.length (yR 0 es))) none = _;rw [hc.1]; rfl
   unfold qCA;rw [h1];simp only [hc.2, cond_true, xL, qAN];have : (3 * es.length + 1) / 3 = es.length := by omega
   rw [this];simp [SV.enc, Ty.fv, fvv]
omit [Yl] in
theorem qGU {p : Value -> Bool} : ∀ {a b : List Value}, kJ p a = true -> kJ p b = true -> kJ p (a ++ b) = true
 | [], _, _, h => h
 | x :: a, b, h, h2 => by
   rw [zK3, yZ, zI5];rw [yZ, zI5] at h;exact ⟨h.1, qGU h.2 h2⟩
omit [Yl] in
theorem bC (n : Nat) : ∀ {t : Ty} {l l' : List Value} {x : t.sem}, t.vals l = some (x, l') -> ∃ us, l = us ++ l' ∧ kJ (y5 (n + 1)) us = true
 | .int k, l, l', x, e => by
   cases l with
   | nil => cases e
   | cons v l =>
     cases v <;> try (cases e; done)
     rename_i k' y;have e : cond (decide (k' = k)) (some ((y : Int), l)) none = some (x, l') := e
     cases hk : decide (k' = k) with
     | false => rw [hk] at e; cases e
     | true =>
       rw [hk] at e;cases e;exact ⟨[.int k' x], rfl, rfl⟩
 | .bool, l, l', x, e => by
   cases l with
   | nil => cases e
   | cons v l =>
     cases v <;> try (cases e; done)
     cases e;exact ⟨[.bool x], rfl, rfl⟩
 | .str, l, l', x, e => by
   cases l with
   | nil => cases e
   | cons v l =>
     cases v <;> try (cases e; done)
     cases e;exact ⟨[.string x], rfl, rfl⟩
 | .unit, l, l', x, e => by
   have e : some ((), l) = some ((), l') := by cases l <;> exact e
   cases e;exact ⟨[], rfl, rfl⟩
 | .list _ _, l, l', x, e => by cases l <;> cases e
 | .raw, l, l', x, e => by cases l <;> cases e
 | .ol _ _, l, l', x, e => by cases l <;> cases e
 | .nif, l, l', x, e => by cases l <;> cases e
 | .pair a b, l, l', x, e => by
   have e : (match a.vals l with
    | some (x, l1) => (match b.vals l1 with
      | some (y, l2) => some ((x, y), l2)
      | none => none)
    | none => none) = some (x, l') := by cases l <;> exact e
   split at e
   ·rename_i x1 l1 h1;split at e
    ·rename_i y l2 h2;cases e;obtain ⟨us, rfl, u1⟩ := bC n h1;obtain ⟨ws, rfl, w1⟩ := bC n h2;exact ⟨us ++ ws, by rw [zJ0], qGU u1 w1⟩
    ·cases e
   ·cases e
omit [Yl] in
theorem qTA {t : Ty} {v : Value} {x : t.sem} (e : t.ofV v = some x) : zK v = true := by
 unfold Ty.ofV at e
 cases ht : t.one with
 | true =>
   rw [ht] at e;simp only [cond_true] at e;split at e
   ·rename_i y hy;obtain ⟨us, h1, h2⟩ := bC 2 hy;rw [zKR] at h1;subst h1;rw [yZ, zI5] at h2;exact h2.1
   ·cases e
 | false =>
   rw [ht] at e;simp only [cond_false] at e;split at e
   ·rename_i a;split at e
    ·rename_i y hy;obtain ⟨us, h1, h2⟩ := bC 1 hy;rw [zKR] at h1;show kJ (y5 2) a.toList = true;rw [h1]; exact h2
    ·cases e
   ·cases e
omit [Yl] in
theorem qCW : ∀ (n : Nat) (es : List (Value × Value)) (i : Nat), (yR n es).find? (·.born == n + i) = (es[i]?).map fun p => (⟨p.1, p.2, n + i⟩ : MapEntry)
 | n, [], i => by simp [yR]
 | n, p :: es, 0 => by simp [yR]
 | n, p :: es, i + 1 => by
   have h : ((⟨p.1, p.2, n⟩ : MapEntry).born == n + (i + 1)) = false := by simp
   have ih := qCW (n + 1) es i;have e : n + 1 + i = n + (i + 1) := by omega
   rw [e] at ih;show List.find? (fun x => x.born == n + (i + 1)) ((⟨p.1, p.2, n⟩ : MapEntry) :: yR (n + 1) es) = _;rw [List.find?_cons, h, ih];simp
def qY9 (kt vt : Ty) (i : Nat) (es : List (Value × Value)) : Option (kt.sem × vt.sem) := match es[i]? with
 | some p => (match kt.ofV p.1, vt.ofV p.2 with
   | some x, some y => some (x, y)
   | _, _ => none)
 | none => none
def qS2 (P : Program) (x : SV) (h : SH) (K : SV -> SH -> q9D R) : q9D R := match x with
 | .ref k off w => (match slk k h.l with
   | some (.spc _ (.mit t j since (last + 1) _)) => (match P.underlying t, smp (.mp j) h with
     | some (.map kt vt), some (_, es) => (match qDL P 8 kt, qDL P 8 vt with
       | some kT, some vT => cond (spec P 1000000001 && (spec P 1000000002 && (Nat.beq w 4 && (Nat.beq off 0 && Nat.beq (List.length es) since)))) (.bind (qY9 kT vT last es) fun p => K (.tup [qYR kT p.1, qYR vT p.2]) h) .fail
       | _, _ => .fail)
     | _, _ => .fail)
   | _ => .fail)
 | _ => .fail
theorem qRN {x : SV} {K : SV -> SH -> q9D R} (ho : OkH P h) (e : (qS2 P x h K).run = some r) : ∃ v, qGQ P x.enc (qD h.l) = some v.enc ∧ v.ok h ∧ (K v h).run = some r := by
 unfold qS2 at e;split at e
 case h_2 => cases e
 rename_i k off w;split at e
 case h_2 => cases e
 rename_i w0 t j since last seen hk;split at e
 case h_2 => cases e
 rename_i kt vt j2 es hu hs;split at e
 case h_2 => cases e
 rename_i kT vT hkT hvT;obtain ⟨c, e1⟩ := qE e;simp only [zI5] at c;obtain ⟨c1, c2, c3, c4, c5⟩ := c;obtain ⟨q, hq, e2⟩ := run_bind e1;obtain ⟨h1, _⟩ := qXN c1 hs;unfold qY9 at hq;split at hq
 case h_2 => cases hq
 rename_i p hp;split at hq
 case h_2 => cases hq
 rename_i x1 y1 hx1 hy1;cases hq;refine ⟨_, ?_, ?_, e2⟩
 ·have e3 := zI6 c3;have e4 := zI6 c4;subst e3 e4;simp only [SV.enc, qGQ, yT hk]
  show cond (spec P 1000000002 && (Nat.beq 1000000002 1000000002 && (Nat.beq 4 4 && Nat.beq 0 0))) (match uN P (.mp j) (qD h.l) with
   | some (_, _, c, es) => cond (Nat.beq c (since : Int).toNat && Nat.ble 1 ((last + 1 : Nat) : Int).toNat) (match es.find? (·.born == ((last + 1 : Nat) : Int).toNat - 1) with
     | some e => cond (zK e.key) (some (PV.tup [ofC e.key, ofC e.val])) none
     | none => none) none
   | none => none) none = _
  have h1 : uN P (.mp j) (qD h.l) = some (j2, (SpO.map es).enc, es.length, yR 0 es) := h1;rw [h1, c2];have hl : ((last + 1 : Nat) : Int).toNat = last + 1 := rfl;have hsi : ((since : Nat) : Int).toNat = since := rfl;have hf := qCW 0 es last;simp only [zJS] at hf;rw [hl, hsi];simp only [Nat.add_sub_cancel, hf, hp, c5, zJJ];rw [show Nat.ble 1 (last + 1) = true from zJU (by omega), show (Nat.beq 1000000002 1000000002) = true from rfl, show (Nat.beq 4 4) = true from rfl, show (Nat.beq 0 0) = true from rfl];simp only [zJ7, cond_true, qTA hx1, pI hx1, pI hy1, qB]
 ·simp only [SV.ok, okL];exact ⟨sZ _ _, sZ _ _, trivial⟩
end
end Go.Sv
namespace Go.Sv
open Go.Idl
variable {a : Int} {b : Bool} {env : List SV} {k : IntKind} {o : Oper} {op : BinOp} {ph : PHp} {s : ByteArray} {t t2 ty : TypeId} {ts : Array TypeId} {x y : SV}
noncomputable section
variable [Gc]
variable [Yl]
variable {P : Program} {h : SH} {R : Type} {r : R}
def q02 (k : IntKind) : PV -> Option Int
 | .f (.v (.int k' x)) => cond (decide (k' = k)) (some x) none
 | _ => none
def q2Y : PV -> Option Bool
 | .f (.v (.bool x)) => some x
 | _ => none
def q3F : PV -> Option ByteArray
 | .f (.v (.string x)) => some x
 | _ => none
def Ty.zFH : (t : Ty) -> PV -> Option t.sem
 | .int k, p => q02 k p
 | .bool, p => q2Y p
 | .str, p => q3F p
 | .raw, _ => none
 | .ol _ _, _ => none
 | .nif, _ => none
 | .unit, _ => none
 | .list _ _, _ => none
 | .pair _ _, _ => none
omit [Yl] in
theorem q1X : ∀ {t : Ty} {p : PV} {x : t.sem}, t.zFH p = some x -> p = .f (t.fv x)
 | .int k, p, x, e => by
   have e1 : q02 k p = some x := e;clear e;unfold q02 at e1;split at e1
   ·rename_i k' y;have e := e1;clear e1
    cases hk : decide (k' = k) with
    | false => rw [hk] at e; cases e
    | true =>
      rw [hk] at e;cases e;have : k' = k := by simpa using hk
      subst this;rfl
   ·cases e1
 | .bool, p, x, e => by
   have e1 : q2Y p = some x := e;clear e;unfold q2Y at e1;split at e1
   ·cases e1; rfl
   ·cases e1
 | .str, p, x, e => by
   have e1 : q3F p = some x := e;clear e;unfold q3F at e1;split at e1
   ·cases e1; rfl
   ·cases e1
 | .unit, _, _, e => by cases e
 | .list _ _, _, _, e => by cases e
 | .pair _ _, _, _, e => by cases e
 | .raw, _, _, e => by cases e
 | .ol _ _, _, _, e => by cases e
 | .nif, _, _, e => by cases e
def Ty.zBD (t : Ty) (o : Option PV) : Option t.sem := o.bind t.zFH
theorem qND {t : Ty} {o : Option PV} {x : t.sem} (e : t.zBD o = some x) : o = some (SV.d t x).enc := by
 obtain ⟨p, h1, h2⟩ := zKW.1 e;rw [h1, q1X h2]; simp [SV.enc]
def sint (op : BinOp) (k : IntKind) (a b : Int) (K : SV -> q9D R) (F : q9D R) : q9D R := match op with
 | .lss => K (.d .bool (decide (a < b)))
 | .leq => K (.d .bool (decide (a <= b)))
 | .gtr => K (.d .bool (decide (b < a)))
 | .geq => K (.d .bool (decide (b <= a)))
 | .eql => K (.d .bool (a == b))
 | .neq => K (.d .bool (a != b))
 | .add => K (.d (.int k) (k.wrap (a + b)))
 | .sub => K (.d (.int k) (k.wrap (a - b)))
 | .mul => K (.d (.int k) (k.wrap (a * b)))
 | .quo => .bind (qX8 k a b) fun c => K (.d (.int k) c)
 | .rem => .bind (q27 a b) fun c => K (.d (.int k) c)
 | _ => F
omit [Yl] in
theorem q1Q {x y : PV} {a b : Value} (hx : pl x = some a) (hy : pl y = some b) : jW P op t t2 x y ph = jW P op t t2 (fvv a) (fvv b) [] := by
 unfold jW;rw [hx, hy];rfl
def qO5 (P : Program) (op : BinOp) (t t2 ty : TypeId) (x y : SV) (K : SV -> q9D R) : q9D R := match fK x, fK y, qDL P 8 ty with
 | some a, some b, some u => .bind (u.zBD (jW P op t t2 (fvv a) (fvv b) [])) fun z => K (.d u z)
 | _, _, _ => .fail
def q7C (P : Program) (t : TypeId) (x y : SV) (h : SH) : Option Bool := match y with
 | .c (.slice none _ _) => cond (zP P t).isSome (match x with
   | .own k g n => (match slk k h.l with
     | some (.list _ gr g' _ _ _) => cond (Nat.beq g g') (some (gr && Nat.beq n 0)) none
     | _ => none)
   | _ => none) none
 | .c .nilFunc => cond (qRL P t) (match x with
   | .fn _ _ _ => some false
   | _ => none) none
 | _ => none
theorem qTV (ho : OkH P h) (hx : x.ok h) (e : q7C P t x y h = some b) : qEM P t x.enc y.enc (qD h.l) = some b ∧ pl x.enc = none := by
 unfold q7C at e;split at e
 ·rename_i n c
  cases h1 : (zP P t).isSome with
  | false => rw [h1] at e; cases e
  | true =>
    rw [h1] at e;simp only [cond_true] at e;split at e
    ·rename_i k g n;split at e
     ·rename_i el gr g' w u xs hk
      cases h2 : Nat.beq g g' with
      | false => rw [h2] at e; cases e
      | true =>
        rw [h2] at e;cases e;have hg : g = g' := zI6 h2;subst hg;simp only [SV.ok] at hx;have hn := hx.2 _ _ _ _ _ hk;have hl := ho.list _ _ _ _ _ _ _ hk;refine ⟨?_, by simp [SV.enc, pl]⟩;simp only [SV.enc, fvv, qEM, h1, cond_true, isNil, yT hk];rw [show (SO.list el gr g w u xs).enc.el = el from rfl, hl.2.1];simp only [qR, hn, pU, cond_true];rfl
     ·cases e
    ·cases e
 ·cases h1 : qRL P t with
  | false => rw [h1] at e; cases e
  | true =>
    rw [h1] at e;simp only [cond_true] at e;split at e
    ·cases e;exact ⟨by simp [SV.enc, fvv, qEM, h1, qNP], by simp [SV.enc, pl]⟩
    ·cases e
 ·cases e
def q2F (P : Program) (t : TypeId) (x y : SV) : Option Bool := match x, y with
 | .d (.ol _ _) xs, .c (.slice none 0 0) => cond (zP P t).isSome (some (List.isEmpty xs)) none
 | _, _ => none
theorem qOP (e : q2F P t x y = some b) : jW P .eql t t2 x.enc y.enc ph = some (fvv (.bool b)) ∧ jW P .neq t t2 x.enc y.enc ph = some (fvv (.bool !b)) := by
 unfold q2F at e;split at e
 ·rename_i el k xs
  cases h1 : (zP P t).isSome with
  | false => rw [h1] at e; cases e
  | true =>
    rw [h1] at e;cases e
    cases xs with
    | nil =>
      have hn : qEM P t (fvv (.slice none 0 0)) (fvv (.slice none 0 0)) ph = some true := by simp only [qEM, fvv, h1, cond_true, isNil]
      have hv : ∀ H, VR P (fun _ => True) H (own (fun _ => 0) ph) (fvv (.slice none 0 0)) (.slice none 0 0) := fun H => .f (.v rfl rfl)
      constructor
      ·have := (qD9 (op := .eql) (o := cop (.binOp .eql t (.const (.slice none 0 0)) (.const (.slice none 0 0)) t2)) (env := []) (hv H00) (hv H00) hn).1;simp only [SV.enc, Ty.fv, fvo];show jW P .eql t t2 (fvv (.slice none 0 0)) (fvv (.slice none 0 0)) ph = _;unfold jW;rw [show pl (fvv (.slice none 0 0)) = some (.slice none 0 0) from rfl];simp only [this];rfl
      ·have := (qD9 (op := .neq) (o := cop (.binOp .neq t (.const (.slice none 0 0)) (.const (.slice none 0 0)) t2)) (env := []) (hv H00) (hv H00) hn).2;simp only [SV.enc, Ty.fv, fvo];show jW P .neq t t2 (fvv (.slice none 0 0)) (fvv (.slice none 0 0)) ph = _;unfold jW;rw [show pl (fvv (.slice none 0 0)) = some (.slice none 0 0) from rfl];simp only [this];rfl
    | cons x xs =>
      have hn : qEM P t (.f (fvo el k (x :: xs))) (fvv (.slice none 0 0)) ph = some false := by
       simp only [qEM, fvv, h1, cond_true, fvo, zJZ, zK3, isNil]
      constructor
      ·simp only [SV.enc, Ty.fv];show wW P t (.f (fvo el k (x :: xs))) (fvv (.slice none 0 0)) ph _ = _;unfold wW;rw [hn]; rfl
      ·simp only [SV.enc, Ty.fv];show wW P t (.f (fvo el k (x :: xs))) (fvv (.slice none 0 0)) ph _ = _;unfold wW;rw [hn]; rfl
 ·cases e
def q3I (P : Program) (t : TypeId) (x y : SV) : Option Bool := match x, y with
 | .d (.list _ u) xs, .c (.slice none 0 0) => cond ((zP P t).isSome && Nat.blt 0 u.w) (some (List.isEmpty xs)) none
 | _, _ => none
theorem rF (e : q3I P t x y = some b) :
 (b = true -> jW P .eql t t2 x.enc y.enc ph = some .bq ∧ jW P .neq t t2 x.enc y.enc ph = some .bq) ∧ (b = false -> jW P .eql t t2 x.enc y.enc ph = some (fvv (.bool false)) ∧ jW P .neq t t2 x.enc y.enc ph = some (fvv (.bool true))) := by
 unfold q3I at e;split at e
 case h_2 => cases e
 rename_i el u xs
 cases h1 : ((zP P t).isSome && Nat.blt 0 u.w) with
 | false => rw [h1] at e; cases e
 | true =>
   rw [h1] at e;cases e;rw [zI5] at h1;obtain ⟨h1, h2⟩ := h1;have h2 : 0 < u.w := zJE h2
   cases xs with
   | nil =>
     have hq : qPN P t (.f (.l el 0 [])) (fvv (.slice none 0 0)) = some .bq := by simp only [qPN, fvv, h1, cond_true]
     have hn : qEM P t (.f (.l el 0 [])) (fvv (.slice none 0 0)) ph = none := by simp only [qEM, fvv, h1, cond_true, isNil]
     refine ⟨fun _ => ?_, fun h => (by cases h)⟩;simp only [SV.enc, Ty.fv, List.flatMap_nil, zKZ];constructor
     ·show wW P t (.f (.l el 0 [])) (fvv (.slice none 0 0)) ph _ = _;unfold wW; rw [hn]; exact hq
     ·show wW P t (.f (.l el 0 [])) (fvv (.slice none 0 0)) ph _ = _;unfold wW; rw [hn]; exact hq
   | cons x xs =>
     refine ⟨fun h => (by cases h), fun _ => ?_⟩
     obtain ⟨c, cs, hcs⟩ : ∃ c cs, List.flatMap u.cells (x :: xs) = c :: cs := by
      cases hf : List.flatMap u.cells (x :: xs) with
      | nil =>
        have := congrArg List.length hf;rw [yM, zJN, zLL] at this;simp at this;omega
      | cons c cs => exact ⟨c, cs, rfl⟩
     have hn : qEM P t (.f (.l el (xs.length + 1) (c :: cs))) (fvv (.slice none 0 0)) ph = some false := by simp only [qEM, fvv, h1, cond_true, isNil]
     simp only [SV.enc, Ty.fv, hcs, zJN];constructor
     ·show wW P t (.f (.l el (xs.length + 1) (c :: cs))) (fvv (.slice none 0 0)) ph _ = _;unfold wW; rw [hn]
     ·show wW P t (.f (.l el (xs.length + 1) (c :: cs))) (fvv (.slice none 0 0)) ph _ = _;unfold wW; rw [hn]; rfl
def q0N (P : Program) (op : BinOp) (t t2 ty : TypeId) (x y : SV) (h : SH) (K : SV -> q9D R) : q9D R := match q7C P t x y h, op with
 | some b, .eql => K (.d .bool b)
 | some b, .neq => K (.d .bool (!b))
 | _, _ => qO5 P op t t2 ty x y K
def q0X (P : Program) (op : BinOp) (t t2 ty : TypeId) (x y : SV) (h : SH) (K : SV -> q9D R) : q9D R := match q3I P t x y, op with
 | some b, .eql => .ite b (K .bq) (K (.d .bool false))
 | some b, .neq => .ite b (K .bq) (K (.d .bool true))
 | _, _ => q0N P op t t2 ty x y h K
def q7V (P : Program) (op : BinOp) (t t2 ty : TypeId) (x y : SV) (h : SH) (K : SV -> q9D R) : q9D R := match asI x, asI y with
 | some (k, a), some (k', b) => cond (decide (k = k')) (sint op k a b K (qO5 P op t t2 ty x y K)) (qO5 P op t t2 ty x y K)
 | _, _ => (match asS x, asS y with
   | some a, some b => q8B op a b K (qO5 P op t t2 ty x y K)
   | _, _ => (match q2F P t x y, op with
     | some b, .eql => K (.d .bool b)
     | some b, .neq => K (.d .bool (!b))
     | _, _ => q0X P op t t2 ty x y h K))
theorem sF {K : SV -> q9D R} (e : (qO5 P op t t2 ty x y K).run = some r) : ∃ v, jW P op t t2 x.enc y.enc (qD h.l) = some v.enc ∧ v.ok h ∧ (K v).run = some r := by
 unfold qO5 at e;split at e
 ·rename_i a b u ha hb hu;obtain ⟨z, hz, e1⟩ := run_bind e;refine ⟨_, ?_, by simp [SV.ok], e1⟩;rw [q1Q (vH ha) (vH hb)];exact qND hz
 ·cases e
theorem qWQ {K : SV -> q9D R} (ho : OkH P h) (hx : x.ok h) (e : (q0N P op t t2 ty x y h K).run = some r) : ∃ v, jW P op t t2 x.enc y.enc (qD h.l) = some v.enc ∧ v.ok h ∧ (K v).run = some r := by
 unfold q0N at e;split at e
 ·rename_i b hs;obtain ⟨h1, h2⟩ := qTV ho hx hs;refine ⟨_, ?_, by simp [SV.ok], e⟩;unfold jW;rw [h2];simp [wW, h1, SV.enc, Ty.fv, fvv]
 ·rename_i b hs;obtain ⟨h1, h2⟩ := qTV ho hx hs;refine ⟨_, ?_, by simp [SV.ok], e⟩;unfold jW;rw [h2];simp [wW, h1, SV.enc, Ty.fv, fvv]
 ·exact sF e
theorem qXC {K : SV -> q9D R} (ho : OkH P h) (hx : x.ok h) (e : (q0X P op t t2 ty x y h K).run = some r) : ∃ v, jW P op t t2 x.enc y.enc (qD h.l) = some v.enc ∧ v.ok h ∧ (K v).run = some r := by
 unfold q0X at e;split at e
 ·rename_i b hs
  rcases run_ite e with ⟨z, e1⟩ | ⟨z, e1⟩
  ·exact ⟨.bq, by rw [((rF hs).1 z).1]; simp [SV.enc], by simp [SV.ok], e1⟩
  ·exact ⟨.d .bool false, by rw [((rF hs).2 z).1]; simp [SV.enc, Ty.fv, fvv], by simp [SV.ok], e1⟩
 ·rename_i b hs
  rcases run_ite e with ⟨z, e1⟩ | ⟨z, e1⟩
  ·exact ⟨.bq, by rw [((rF hs).1 z).2]; simp [SV.enc], by simp [SV.ok], e1⟩
  ·exact ⟨.d .bool true, by rw [((rF hs).2 z).2]; simp [SV.enc, Ty.fv, fvv], by simp [SV.ok], e1⟩
 ·exact qWQ ho hx e
theorem q3W {K : SV -> q9D R} (ho : OkH P h) (hx : x.ok h) (e : (q7V P op t t2 ty x y h K).run = some r) : ∃ v, jW P op t t2 x.enc y.enc (qD h.l) = some v.enc ∧ v.ok h ∧ (K v).run = some r := by
 unfold q7V at e;split at e
 ·rename_i k a k' b ha hb
  cases hk : decide (k = k') with
  | false => rw [hk] at e; exact sF e
  | true =>
    rw [hk] at e;have hkk : k = k' := by simpa using hk
    subst hkk;simp only [cond_true] at e;have ha' := z8 ha;have hb' := z8 hb
    have fin : ∀ {v : SV}, jW P op t t2 (fvv (.int k a)) (fvv (.int k b)) (qD h.l) = some v.enc -> v.ok h -> (K v).run = some r -> ∃ v, jW P op t t2 x.enc y.enc (qD h.l) = some v.enc ∧ v.ok h ∧ (K v).run = some r := fun h1 h2 h3 => ⟨_, by rw [ha', hb']; exact h1, h2, h3⟩
    unfold sint at e;split at e
    ·exact fin (v := .d .bool (decide (a < b))) q47 (by simp [SV.ok]) e
    ·exact fin (v := .d .bool (decide (a <= b))) q4T (by simp [SV.ok]) e
    ·exact fin (v := .d .bool (decide (b < a))) q5V (by simp [SV.ok]) e
    ·exact fin (v := .d .bool (decide (b <= a))) q5X (by simp [SV.ok]) e
    ·exact fin (v := .d .bool (a == b)) q5O (by simp [SV.ok]) e
    ·exact fin (v := .d .bool (a != b)) q6L (by simp [SV.ok]) e
    ·exact fin (v := .d (.int k) (k.wrap (a + b))) q5R (by simp [SV.ok]) e
    ·exact fin (v := .d (.int k) (k.wrap (a - b))) q46 (by simp [SV.ok]) e
    ·exact fin (v := .d (.int k) (k.wrap (a * b))) q57 (by simp [SV.ok]) e
    ·obtain ⟨c, hc, e1⟩ := run_bind e;exact fin (v := .d (.int k) c) (q4V hc) (by simp [SV.ok]) e1
    ·obtain ⟨c, hc, e1⟩ := run_bind e;exact fin (v := .d (.int k) c) (q6D hc) (by simp [SV.ok]) e1
    ·exact sF e
 ·split at e
  ·rename_i a b ha hb;have ha' := u6 ha;have hb' := u6 hb;unfold q8B at e;split at e
   ·rcases run_ite e with ⟨z, e1⟩ | ⟨z, e1⟩
    ·exact ⟨.d .str (a ++ b), by rw [ha', hb', q0S (zJE z)]; simp [SV.enc, Ty.fv, fvv], by simp [SV.ok], e1⟩
    ·cases e1
   ·exact ⟨.d .bool (a.toList == b.toList), by rw [ha', hb', q3K]; simp [SV.enc, Ty.fv, fvv], by simp [SV.ok], e⟩
   ·exact ⟨.d .bool (!(a.toList == b.toList)), by rw [ha', hb', q2A]; simp [SV.enc, Ty.fv, fvv], by simp [SV.ok], e⟩
   ·exact sF e
  split at e
  ·rename_i b hs;exact ⟨_, by rw [(qOP hs).1]; simp [SV.enc, Ty.fv, fvv], by simp [SV.ok], e⟩
  ·rename_i b hs;exact ⟨_, by rw [(qOP hs).2]; simp [SV.enc, Ty.fv, fvv], by simp [SV.ok], e⟩
  exact qXC ho hx e
def qT1 (P : Program) (mk : Operand -> Op) (ty : TypeId) (x : SV) (K : SV -> q9D R) : q9D R := match qCP x, qDL P 8 ty with
 | some a, some u => .bind (u.zBD (fZ P mk (fvv a))) fun z => K (.d u z)
 | _, _ => .fail
theorem qNY {mk : Operand -> Op} {K : SV -> q9D R} (e : (qT1 P mk ty x K).run = some r) : ∃ v, fZ P mk x.enc = some v.enc ∧ v.ok h ∧ (K v).run = some r ∧ ∃ a, qCP x = some a := by
 unfold qT1 at e;split at e
 ·rename_i a u ha hu;obtain ⟨z, hz, e1⟩ := run_bind e;exact ⟨_, by rw [oF ha]; exact qND hz, by simp [SV.ok], e1, a, ha⟩
 ·cases e
def sun (P : Program) (op : UnOp) (t ty : TypeId) (x : SV) (K : SV -> q9D R) : q9D R := match op, asI x, asB x with
 | .neg, some (k, a), _ => K (.d (.int k) (k.wrap (0 - a)))
 | .not, _, some b => K (.d .bool (!b))
 | _, _, _ => qT1 P (fun a => .unOp op t a) ty x K
omit [Yl] in
theorem q20 {x : Int} : fZ P (fun a => .unOp .neg t a) (fvv (.int k x)) = some (fvv (.int k (k.wrap (0 - x)))) := rfl
theorem q4G {op : UnOp} {K : SV -> q9D R} (e : (sun P op t ty x K).run = some r) : ∃ v, fZ P (fun a => .unOp op t a) x.enc = some v.enc ∧ v.ok h ∧ (K v).run = some r := by
 unfold sun at e;split at e
 ·rename_i k a ha;exact ⟨_, by rw [z8 ha, q20]; simp [SV.enc, Ty.fv, fvv], by simp [SV.ok], e⟩
 ·rename_i b hb;exact ⟨_, by rw [pK hb, q5A]; simp [SV.enc, Ty.fv, fvv], by simp [SV.ok], e⟩
 ·obtain ⟨v, h1, h2, h3, _⟩ := qNY (h := h) e;exact ⟨v, h1, h2, h3⟩
def dS (env : List SV) (l : Array Operand) : List SV := l.toList.map (xH env)
theorem aK (env : List SV) (l : Array Operand) : l.toList.map (qI (qB env)) = qB (dS env l) := by
 unfold dS;rw [qW (l.toList.map (xH env)), zMK];exact zKF fun x _ => qL env x
omit [Yl] in
theorem bL (ho : okL h env) (l : Array Operand) : okL h (dS env l) := zW.2 fun x hx => by
 obtain ⟨q, _, rfl⟩ := zJX.1 hx;exact oU ho _
def smm (lo : Bool) (x y : SV) (K : SV -> q9D R) : q9D R := match asI x, asI y with
 | some (k, a), some (k', b) => cond (decide (k = k')) (K (.d (.int k) (cond lo (cond (decide (b < a)) b a) (cond (decide (a < b)) b a)))) .fail
 | _, _ => .fail
omit [Yl] in
theorem dmin {x y : Operand} {b : Int} {env : Env} (hx : env.val x = .int k a) (hy : env.val y = .int k b) :
 qQS (kC P (cop (.call ⟨.builtin .min, #[x, y], ts⟩) ty) env H00) = some (fvv (.int k (if b < a then b else a))) := by
 have h2 : xY env.val (cop (.call ⟨.builtin .min, #[x, y], ts⟩) ty).op.operands.toList = [env.val x, env.val y] := rfl;unfold kC;rw [h2];simp only [cop, execOp, resolve, List.map_toArray, zJM, zLE, hx, hy];rfl
omit [Yl] in
theorem dmax {x y : Operand} {b : Int} {env : Env} (hx : env.val x = .int k a) (hy : env.val y = .int k b) :
 qQS (kC P (cop (.call ⟨.builtin .max, #[x, y], ts⟩) ty) env H00) = some (fvv (.int k (if a < b then b else a))) := by
 have h2 : xY env.val (cop (.call ⟨.builtin .max, #[x, y], ts⟩) ty).op.operands.toList = [env.val x, env.val y] := rfl;unfold kC;rw [h2];simp only [cop, execOp, resolve, List.map_toArray, zJM, zLE, hx, hy];rfl
omit [Yl] in
theorem qSE {p : Prop} [Decidable p] {α : Type} {x y : α} : cond (decide p) x y = if p then x else y := by
 by_cases h : p <;> simp [h]
theorem qY7 {lo : Bool} {c : Call} {K : SV -> q9D R} (hl : dS env c.args = [x, y]) (hc : c.callee = .builtin (cond lo .min .max)) (e : (smm lo x y K).run = some r) :
 ∃ v, vB P (cond lo .min .max) c [x.enc, y.enc] (qB env) ty (qD h.l) = some (v.enc, qD h.l) ∧ v.ok h ∧ (K v).run = some r := by
 unfold smm at e;split at e
 ·rename_i k a k' b ha hb
  cases hk : decide (k = k') with
  | false => rw [hk] at e; cases e
  | true =>
    rw [hk] at e;have : k = k' := by simpa using hk
    subst this;have e1 := z8 ha;have e2 := z8 hb;refine ⟨_, ?_, by simp [SV.ok], e⟩;obtain ⟨cal, args, ts⟩ := c;simp only at hc hl;subst hc;unfold dS at hl
    have hal : ∃ p q, args = #[p, q] ∧ xH env p = x ∧ xH env q = y := by
     obtain ⟨l⟩ := args
     match l, hl with
     | [p, q], hl => simp at hl; exact ⟨p, q, rfl, hl.1, hl.2⟩
    obtain ⟨p, q, rfl, hp, hq⟩ := hal;have vp : (qQN (qB env)).val p = .int k a := aZ P (by rw [qL, hp, e1]; rfl);have vq : (qQN (qB env)).val q = .int k b := aZ P (by rw [qL, hq, e2]; rfl);unfold vB;rw [e1, e2];have hpl : plL [fvv (.int k a), fvv (.int k b)] = some [.int k a, .int k b] := rfl;rw [hpl]
    cases lo with
    | true =>
      simp only [cond_true];rw [dmin vp vq, qSE];simp [pp1, SV.enc, Ty.fv, fvv]
    | false =>
      simp only [cond_false];rw [dmax vp vq, qSE];simp [pp1, SV.enc, Ty.fv, fvv]
 ·cases e
def q0V (P : Program) (ts : Array TypeId) (x : SV) (h : SH) : Option SV := match pQ P x.enc (qD h.l) with
 | some _ => none
 | none => q7Y P ts x h
theorem qWT {v : SV} (ho : OkH P h) (hx : x.ok h) (e : q0V P ts x h = some v) : qCA P ts x.enc (qD h.l) = some v.enc ∧ v.ok h := by
 unfold q0V at e;split at e
 ·cases e
 ·rename_i hn;unfold qCA;rw [hn];exact q29 ho hx e
theorem qPP {lo hi : Option Operand} {K : SV -> q9D R} (e : (qR9 P t s (lo.map (xH env)) (hi.map (xH env)) K).run = some r) :
 ∃ v, qKI P (.slice t (.const (.string s)) (lo.map fun a => .const ((pl (qI (qB env) a)).getD undef)) (hi.map fun a => .const ((pl (qI (qB env) a)).getD undef)) none) = some v.enc ∧ v.ok h ∧ (K v).run = some r ∧ (plL ((lo.toList ++ hi.toList).map (qI (qB env)))).isSome = true := by
 obtain ⟨c, e1⟩ := qE e;obtain ⟨b, hb, _, e2⟩ := wV e1;obtain ⟨a, ha, _, e3⟩ := wV e2;have m : ∀ o : Option Operand, (o.map (xH env)).map SV.enc = o.map (qI (qB env)) := fun o => by cases o <;> simp [qL]
 rw [m] at hb ha;refine ⟨.d .str (s.extract a b), by rw [qYE (qDO c) hb ha]; simp [SV.enc, Ty.fv, fvv], by simp [SV.ok], e3, ?_⟩
 have one : ∀ {o : Option Operand} {d most n : Nat}, bnd d most (o.map (qI (qB env))) = some n -> o = none ∨ ∃ a k i, o = some a ∧ qI (qB env) a = fvv (.int k i) := fun {o d most n} h => by
  rcases qRY h with ⟨q, _⟩ | ⟨k, i, q, _⟩
  ·cases o with
   | none => exact .inl rfl
   | some a => cases q
  ·cases o with
   | none => cases q
   | some a => exact .inr ⟨a, k, i, rfl, by simpa using q⟩
 rcases one hb with rfl | ⟨x, k, i, rfl, hx⟩ <;> rcases one ha with rfl | ⟨y, k', i', rfl, hy⟩ <;> simp_all [plL, fvv, pl]
theorem qP0 {ix : SV} {K : SV -> q9D R} (e : (qKH P t s ix K).run = some r) :
 ∃ v k i, ix.enc = fvv (.int k i) ∧ qKI P (.index t (.const (.string s)) (.const (.int k i))) = some v.enc ∧ v.ok h ∧ (K v).run = some r := by
 unfold qKH at e;split at e
 ·rename_i k i hi;obtain ⟨c, e1⟩ := qE e;obtain ⟨b, hb, e2⟩ := run_bind e1;exact ⟨.d (.int .u8) b, k, i, z8 hi, by rw [qYY (qDO c) hb]; simp [SV.enc, Ty.fv, fvv], by simp [SV.ok], e2⟩
 ·cases e
theorem qXG {s d : TypeId} {K : SV -> q9D R} {F : q9D R} (e : (qXB P s d x K F).run = some r) : (∃ v, fZ P (fun a => .convert s d a) x.enc = some v.enc ∧ v.ok h ∧ (K v).run = some r) ∨ F.run = some r := by
 unfold qXB at e;split at e
 ·rename_i u k' hs hd;split at e
  ·rename_i k a ha;exact .inl ⟨_, by rw [z8 ha, q3S hs hd]; simp [SV.enc, Ty.fv, fvv], by simp [SV.ok], e⟩
  ·exact .inr e
 ·rename_i u hs hd;split at e
  ·rename_i a ha;exact .inl ⟨_, by rw [u6 ha, qXK hs hd]; simp [SV.enc, Ty.fv, fvv], by simp [SV.ok], e⟩
  ·exact .inr e
 ·exact .inr e
def qH4 (env : List SV) (parts : Array (Nat × Operand)) : List (Nat × SV) := parts.toList.map fun p => (p.1, xH env p.2)
theorem qDH (env : List SV) (parts : Array (Nat × Operand)) : (parts.toList.map fun p => (p.1, qI (qB env) p.2)) = q31 (qH4 env parts) := by
 simp [qH4, q31, qL]
omit [Yl] in
theorem qG7 {env : List SV} (ho : okL h env) (parts : Array (Nat × Operand)) : ∀ p ∈ qH4 env parts, p.2.ok h := fun p hp => by
 obtain ⟨q, _, rfl⟩ := zJX.1 hp;exact oU ho _
def qUW : Operand -> Operand -> Bool
 | .tmp i, .tmp j => Nat.beq i j
 | .const (.int k a), .const (.int k' b) => decide (k = k') && decide (a = b)
 | _, _ => false
omit [Yl] in
theorem qR0 {a b : Operand} (e : qUW a b = true) : a = b := by
 unfold qUW at e;split at e
 ·rw [zI6 e]
 ·rw [zI5] at e;have h1 := of_decide_eq_true e.1;have h2 := of_decide_eq_true e.2;rw [h1, h2]
 ·cases e
def gv (o : Option SV) (h : SH) (K : SV -> SH -> q9D R) : q9D R := match o with
 | some v => K v h
 | none => .fail
def sop (P : Program) (o : Oper) (env : List SV) (k : Nat) (h : SH) (K : SV -> SH -> q9D R) : q9D R := match o.op with
 | .move x => K (xH env x) h
 | .assign x => K (xH env x) h
 | .pick c a b => (match asB (xH env c) with
   | some t => .ite t (K (xH env a) h) (K (xH env b) h)
   | none => .fail)
 | .alloc el => qRD P el k h K
 | .box el x => q8V P el (xH env x) k h K
 | .build t parts => gv (qSD P t (qH4 env parts)) h K
 | .buildSlice t len parts => dQ P t len (qH4 env parts) k h K
 | .load t a => q2X P t (xH env a) h fun v => K v h
 | .store t a x => qTM P t (xH env a) (xH env x) h K
 | .binOp op t x y t2 => q7V P op t t2 o.type (xH env x) (xH env y) h fun v => K v h
 | .unOp op t x => sun P op t o.type (xH env x) fun v => K v h
 | .convert s d x => cond (qPF (xH env x).enc) .fail (qXB P s d (xH env x) (fun v => K v h) (qT1 P (fun a => .convert s d a) o.type (xH env x) fun v => K v h))
 | .makeFunc fn first cap => gv (qAC fn (dS env first) (dS env cap)) h K
 | .makeSlice t l c => cond (qUW l c) (q0Z P t (xH env l) k h K) .fail
 | .slice t x lo hi none => (match asS (xH env x) with
   | some s => qR9 P t s (lo.map (xH env)) (hi.map (xH env)) fun v => K v h
   | none => qT5 P t (xH env x) (lo.map (xH env)) (hi.map (xH env)) h fun v => K v h)
 | .fieldAddr t x i => gv (oV P t (xH env x) i h) h K
 | .indexAddr t x ix => oZ P t (xH env x) (xH env ix) h fun v => K v h
 | .index t x ix => (match asS (xH env x) with
   | some s => qKH P t s (xH env ix) fun v => K v h
   | none => qTO P t (xH env x) (xH env ix) fun v => K v h)
 | .extract t i => gv (qGD (xH env t) i) h K
 | .makeMap _ none => qOJ P k h K
 | .lookup t m kx ok => qLF P t (xH env m) (xH env kx) ok h fun v => K v h
 | .mapUpdate t m kx x => pM P t (xH env m) (xH env kx) (xH env x) h K
 | .mapEntry t m kx => qA1 P t (xH env m) (xH env kx) h K
 | .call c => (match c.callee, dS env c.args with
   | .builtin .append, [x, y] => qK8 P c.argTypes.toList x y k h K
   | .builtin .len, [x] => cond (qVV P c.argTypes) (match asS x with
     | some s => K (.d (.int .i64) (s.size : Int)) h
     | none => .fail) (match q0W P c.argTypes x h with
     | some v => K v h
     | none => gv (q0V P c.argTypes x h) h K)
   | .builtin .min, [x, y] => smm true x y fun v => K v h
   | .builtin .max, [x, y] => smm false x y fun v => K v h
   | _, _ => .fail)
 | _ => .fail
omit [Yl] in
theorem qRX {o : Option SV} {K : SV -> SH -> q9D R} (e : (gv o h K).run = some r) : ∃ v, o = some v ∧ (K v h).run = some r := by
 unfold gv at e;split at e
 ·exact ⟨_, rfl, e⟩
 ·cases e
theorem qZQ {k : Nat} {K : SV -> SH -> q9D R} (ho : OkH P h) (he : okL h env) (e : (sop P o env k h K).run = some r) :
 ∃ v h', oQ P o (qB env) k (qD h.l) = some (v.enc, qD h'.l) ∧ Post P h h' v ∧ (K v h').run = some r := by
 have same : ∀ {v : SV}, v.ok h -> Post P h h v := fun hv => ⟨.refl _, ho, hv⟩
 have sv := fun x => oU (h := h) he x
 unfold sop at e;unfold oQ;split at e
 ·rename_i x ho';exact ⟨_, _, by simp only [ho', qL], same (sv x), e⟩
 ·rename_i x ho';exact ⟨_, _, by simp only [ho', qL], same (sv x), e⟩
 ·rename_i c a b ho';split at e
  ·rename_i t ht;have h1 := pK ht
   rcases run_ite e with ⟨z, e1⟩ | ⟨z, e1⟩
   ·exact ⟨_, _, by simp only [ho', qL, h1, fvv, z, cond_true], same (sv a), e1⟩
   ·exact ⟨_, _, by simp only [ho', qL, h1, fvv, z, cond_false], same (sv b), e1⟩
  ·cases e
 ·rename_i el ho';rw [ho'];exact qS1 ho e
 ·rename_i el x ho';rw [ho'];simp only [qL];exact q1S ho (sv x) e
 ·rename_i t parts ho';rw [ho'];obtain ⟨v, h1, h2⟩ := qRX e;have h3 := qSG (qG7 he parts) h1;exact ⟨v, h, by simp only [qDH, h3.1, pp1], same h3.2, h2⟩
 ·rename_i t len parts ho';rw [ho'];simp only [qDH];exact qB5 ho (qG7 he parts) e
 ·rename_i t a ho';rw [ho'];obtain ⟨v, h1, h2, h3⟩ := qXX ho (sv a) e;exact ⟨v, h, by simp only [qL, h1, pp1], same h2, h3⟩
 ·rename_i t a x ho';rw [ho'];obtain ⟨h', h1, h2, h3, h4⟩ := qR5 ho (sv a) (sv x) e;exact ⟨_, h', by simp only [qL, h1, ppS]; simp [SV.enc, qB], ⟨h2, h3, by simp [SV.ok, okL]⟩, h4⟩
 ·rename_i op t x y t2 ho';rw [ho'];obtain ⟨v, h1, h2, h3⟩ := q3W ho (sv x) e;exact ⟨v, h, by simp only [qL, h1, pp1], same h2, h3⟩
 ·rename_i op t x ho';rw [ho'];obtain ⟨v, h1, h2, h3⟩ := q4G (h := h) e;exact ⟨v, h, by simp only [qL, h1, pp1], same h2, h3⟩
 ·rename_i s d x ho';rw [ho']
  cases hp : qPF (xH env x).enc with
  | true => rw [hp] at e; cases e
  | false =>
    rw [hp] at e;have e1 : (qXB P s d (xH env x) (fun v => K v h) (qT1 P (fun a => .convert s d a) o.type (xH env x) fun v => K v h)).run = some r := e;rcases qXG (h := h) e1 with ⟨v, h1, h2, h3⟩ | e1
    ·exact ⟨v, h, by simp only [qL, hp, cond_false, h1, pp1], same h2, h3⟩
    ·obtain ⟨v, h1, h2, h3, _⟩ := qNY (h := h) e1;exact ⟨v, h, by simp only [qL, hp, cond_false, h1, pp1], same h2, h3⟩
 ·rename_i fn first cap ho'
  rw [ho'];obtain ⟨v, h1, h2⟩ := qRX e;have h3 := qG3 (bL he first) (bL he cap) h1;exact ⟨v, h, by simp only [aK, h3.1, pp1], same h3.2, h2⟩
 ·rename_i t l c ho';rw [ho'];obtain ⟨h1, h2⟩ := qE e;have := qR0 h1;subst this;simp only [qL];exact qWW ho h2
 ·rename_i t x lo hi ho';rw [ho'];split at e
  ·rename_i s hs;obtain ⟨v, h1, h2, h3, h4⟩ := qPP (h := h) e;obtain ⟨vs, hvs⟩ := zJ3.1 h4;refine ⟨v, h, ?_, same h2, h3⟩;have hx : qI (qB env) x = .f (.v (.string s)) := by rw [qL]; exact u6 hs
   simp only [hx, hvs, h1, pp1]
  obtain ⟨v, h1, h2, h3⟩ := qSP ho (sv x) e;refine ⟨v, h, ?_, same h2, h3⟩;have m : ∀ o : Option Operand, o.map (qI (qB env)) = (o.map (xH env)).map SV.enc := fun o => by cases o <;> simp [qL]
  simp only [qL, m]
  have ns : ∀ s, (xH env x).enc ≠ .f (.v (.string s)) := fun s hs => by
   rw [hs] at h1;simp only [wL] at h1;cases h1
  split
  ·rename_i s hs; exact absurd hs (ns s)
  ·rw [h1]; rfl
 ·rename_i t x i ho';rw [ho'];obtain ⟨v, h1, h2⟩ := qRX e;have h3 := qFU (sv x) h1;exact ⟨v, h, by simp only [qL, h3.1, pp1], same h3.2, h2⟩
 ·rename_i t x ix ho';rw [ho'];obtain ⟨v, h1, h2, h3⟩ := qD1 ho (sv x) e;exact ⟨v, h, by simp only [qL, h1, pp1], same h2, h3⟩
 ·rename_i t x ix ho';rw [ho'];split at e
  ·rename_i s hs;obtain ⟨v, k', i, h0, h1, h2, h3⟩ := qP0 (h := h) e;refine ⟨v, h, ?_, same h2, h3⟩;have hx := u6 hs;have hpl : pl (fvv (.int k' i)) = some (.int k' i) := rfl;simp only [qL, hx, h0, hpl];simp only [fvv, h1, pp1]
  obtain ⟨v, h1, h2, h3, l, hl⟩ := qQY (sv x) e;refine ⟨v, h, ?_, same h2, h3⟩;simp only [qL];rw [hl] at h1 ⊢;simp only [SV.enc] at h1 ⊢;rw [h1];rfl
 ·rename_i t i ho';rw [ho'];obtain ⟨v, h1, h2⟩ := qRX e;have h3 := qLQ (sv t) h1;exact ⟨v, h, by simp only [qL, h3.1, pp1], same h3.2, h2⟩
 ·rename_i ho';rw [ho'];exact qJ2 ho e
 ·rename_i t m kx ok ho';rw [ho'];obtain ⟨v, h1, h2, h3⟩ := qPK e;exact ⟨v, h, by simp only [qL, h1, pp1], same h2, h3⟩
 ·rename_i t m kx x ho';rw [ho'];obtain ⟨h', h1, h2, h3, h4⟩ := qE9 ho e;exact ⟨_, h', by simp only [qL, h1, ppS]; simp [SV.enc, qB], ⟨h2, h3, by simp [SV.ok, okL]⟩, h4⟩
 ·rename_i t m kx ho';rw [ho'];simp only [qL];exact qIJ ho e
 ·rename_i c ho';rw [ho'];have ha := aK env c.args;have hao := bL he c.args;split at e
  ·rename_i x y hc hl;rw [hl] at ha hao;simp only [okL] at hao;simp only [hc, ha, qB, uL];exact qPI ho hao.1 hao.2.1 e
  ·rename_i x hc hl;rw [hl] at ha hao;simp only [okL] at hao
   cases hst : qVV P c.argTypes with
   | true =>
     rw [hst] at e;simp only [cond_true] at e;split at e
     ·rename_i s hs;refine ⟨_, h, ?_, same (by simp [SV.ok]), e⟩;obtain ⟨cal, args, ts⟩ := c;simp only at hc hl hst;subst hc
      obtain ⟨p, rfl, hp⟩ : ∃ p, args = #[p] ∧ xH env p = x := by
       unfold dS at hl;obtain ⟨l⟩ := args
       match l, hl with
       | [p], hl => simp at hl; exact ⟨p, rfl, hl⟩
      have vp : (qQN (qB env)).val p = .string s := aZ P (by rw [qL, hp, u6 hs]; rfl);simp only [uL, ha, qB, hst, cond_true];unfold vB;have hpl : plL [x.enc] = some [.string s] := by rw [u6 hs]; rfl
      rw [hpl];simp only;rw [qOT hst vp];simp [pp1, SV.enc, Ty.fv, fvv]
     ·cases e
   | false =>
     rw [hst] at e;simp only [cond_false] at e;split at e
     ·rename_i v hv;have h3 := qYJ hv;refine ⟨v, h, ?_, same h3.2, e⟩;simp only [hc, ha, qB, uL, hst, cond_false, h3.1, pp1]
     obtain ⟨v, h1, h2⟩ := qRX e;have h3 := qWT ho hao.1 h1;refine ⟨v, h, ?_, same h3.2, h2⟩;simp only [hc, ha, qB, uL, hst, cond_false, h3.1, pp1]
  ·rename_i x y hc hl;rw [hl] at ha;obtain ⟨v, h1, h2, h3⟩ := qY7 (h := h) (lo := true) (ty := o.type) hl hc e;exact ⟨v, h, by simp only [hc, ha, qB, uL]; exact h1, same h2, h3⟩
  ·rename_i x y hc hl;rw [hl] at ha;obtain ⟨v, h1, h2, h3⟩ := qY7 (h := h) (lo := false) (ty := o.type) hl hc e;exact ⟨v, h, by simp only [hc, ha, qB, uL]; exact h1, same h2, h3⟩
  ·cases e
 ·cases e
def q71 (P : Program) (o : Oper) (env : List SV) (k : Nat) (h : SH) (K : SV -> SH -> q9D R) : q9D R := match o.op with
 | .entry it => qS2 P (xH env it) h K
 | _ => sop P o env k h K
theorem q12 {k : Nat} {K : SV -> SH -> q9D R} (ho : OkH P h) (he : okL h env) (e : (q71 P o env k h K).run = some r) :
 ∃ v h', qZB P o (qB env) k (qD h.l) = some (v.enc, qD h'.l) ∧ Post P h h' v ∧ (K v h').run = some r := by
 unfold q71 at e;split at e
 ·rename_i it ho';obtain ⟨v, h1, h2, h3⟩ := qRN ho e;refine ⟨v, h, ?_, ⟨.refl _, ho, h2⟩, h3⟩;unfold qZB;rw [ho'];simp only [qL, h1, pp1]
 ·obtain ⟨v, h', h1, h2, h3⟩ := qZQ ho he e;exact ⟨v, h', qRG h1, h2, h3⟩
end
end Go.Sv
namespace Go.Sv
open Go.Idl
variable {as : List SV} {el ty : TypeId} {g : FuncId} {h' : SH} {k m n o : Nat} {v : SV}
noncomputable section
variable [Gc]
variable [Yl]
variable {P : Program} {h : SH} {R : Type} {r : R} {tab : uF}
omit [Yl] in
theorem qD7 : ∀ (cs : List FV) (ph : PHp) (n : Nat), qDM (fz1 P n) (cs.map .f) ph = some (cs, ph)
 | [], ph, n => rfl
 | c :: cs, ph, n => by
   have e : fz1 P n ph (.f c) = some (c, ph) := by cases n <;> rfl
   show (match fz1 P n ph (.f c) with
    | some (y, ph1) => (match qDM (fz1 P n) (cs.map .f) ph1 with
      | some (ys, ph2) => some (y :: ys, ph2)
      | none => none)
    | none => none) = _
   rw [e];simp only [qD7 cs ph n]
theorem q07 {gr : Bool} {g w : Nat} {t : Ty} {xs : List t.sem} (ho : OkH P h) (hk : slk k h.l = some (.list el gr g w t xs)) (hn : n = xs.length) (hom : o + m <= n) :
 fz1 P 4 (qD h.l) (.own k n o m) = some (.l el m (((xs.drop o).take m).flatMap t.cells), qD (h.del k).l) := by
 have hl := ho.list _ _ _ _ _ _ _ hk;simp only [fz1, yT hk];rw [show (SO.list el gr g w t xs).enc.el = el from rfl, hl.2.1];simp only [qR, hn, pU, cond_true];rw [show (SO.list el gr g w t xs).enc.cs = (xs.flatMap t.cells).map .f from rfl, <- zLG, <- zLH, aJ, mR, qD7];show some _ = some (_, qD (sdl k h.l));rw [mY]
def q6O (el : TypeId) (t : Ty) (k g : Nat) (f : List t.sem -> List t.sem) (h : SH) : Option (List t.sem × SH) := match slk k h.l with
 | some (.list el' _ g' _ u xs) => cond (Nat.beq el' el && Nat.beq g g') (match qED u t xs with
   | some xs => some (f xs, h.del k)
   | none => none) none
 | _ => none
def q8Z (P : Program) (ty el : TypeId) (t : Ty) (h : SH) : Option (List t.sem × SH) := match zP P ty with
 | some el' => cond (Nat.beq el' el) (some ([], h)) none
 | none => none
def q49 (P : Program) (ty el el' : TypeId) (k' : IntKind) (xs : List Int) : (t : Ty) -> Option (List t.sem)
 | .int k => cond (Nat.beq el' el && decide (k' = k)) (match zP P ty with
   | some e => cond (Nat.beq e el) (some xs) none
   | none => none) none
 | _ => none
def qTC (t : Ty) (v : SV) (h : SH) : Option (t.sem × SH) := match t.zDL v with
 | some x => some (x, h)
 | none => none
def qV2 (P : Program) (ty : TypeId) : (t : Ty) -> SV -> SH -> Option (t.sem × SH)
 | .list el t, .own k g _, h => q6O el t k g (fun xs => xs) h
 | .list el t, .sl k g _ o m, h => q6O el t k g (fun xs => (xs.drop o).take m) h
 | .list el t, .c (.slice none 0 0), h => q8Z P ty el t h
 | .list el t, .d (.ol el' k') xs, h => (match q49 P ty el el' k' xs t with
   | some x => some (x, h)
   | none => none)
 | t, v, h => cond t.nol (qTC t v h) none
omit [Yl] in
theorem sN : ∀ {t : Ty} {x : t.sem}, (t.one && t.nol) = true -> rt0 P ty (.f (t.fv x)) = .f (t.fv x)
 | .int _, _, _ => rfl
 | .bool, _, _ => rfl
 | .str, _, _ => rfl
 | .raw, _, _ => rfl
 | .nif, _, _ => rfl
 | .ol _ _, _, e => by cases e
 | .list _ _, _, _ => rfl
 | .unit, _, e => by cases e
 | .pair _ _, _, e => by cases e
theorem qT9 {ty : TypeId} {t : Ty} {g : Nat} {f : List t.sem -> List t.sem} {x : List t.sem} (ho : OkH P h) (hs : qWX h k g n) (hom : o + m <= n) (hf : ∀ xs : List t.sem, xs.length = n -> f xs = (xs.drop o).take m) (e : q6O el t k g f h = some (x, h')) :
 fz1 P 4 (qD h.l) (.own k n o m) = some ((Ty.list el t).fv x, qD h'.l) ∧ Keep h h' ∧ OkH P h' := by
 unfold q6O at e;split at e
 ·rename_i el' gr g' w u xs hk
  cases hc : (Nat.beq el' el && Nat.beq g g') with
  | false => rw [hc] at e; cases e
  | true =>
    rw [hc] at e;rw [zI5] at hc;have he : el' = el := zI6 hc.1;have hg : g = g' := zI6 hc.2;subst he hg;simp only [cond_true] at e;split at e
    ·rename_i ys hys;cases mZ hys;cases e;have hn := hs.2 _ _ _ _ _ hk;have hd := dR (k := k) ho;refine ⟨?_, hd.1, hd.2⟩;rw [q07 ho hk hn hom, hf _ hn.symm];show some (FV.l el' m _, _) = some (FV.l el' _ _, _);rw [zKJ, zLJ, zK4 (by omega)]
    ·cases e
 ·cases e
theorem qOS {t : Ty} {x : t.sem} (ho : OkH P h) (hv : v.ok h) (e : qV2 P ty t v h = some (x, h')) :
 ∃ y, fz1 P 4 (qD h.l) v.enc = some (y, qD h'.l) ∧ rt0 P ty (.f y) = .f (t.fv x) ∧ (t.one && t.nol) = true ∧ Keep h h' ∧ OkH P h' := by
 unfold qV2 at e;split at e
 ·rename_i el t k g n;simp only [SV.ok] at hv;obtain ⟨h1, h2, h3⟩ := qT9 (ty := ty) (n := n) (o := 0) (m := n) ho hv (by omega) (fun xs hl => by rw [zLK, <- hl, List.take_length]) e;exact ⟨_, by simp only [SV.enc]; exact h1, sN rfl, rfl, h2, h3⟩
 ·rename_i el t k g n o m;simp only [SV.ok] at hv;obtain ⟨h1, h2, h3⟩ := qT9 (ty := ty) (n := n) (o := o) (m := m) ho hv.1 hv.2 (fun xs hl => rfl) e;exact ⟨_, by simp only [SV.enc]; exact h1, sN rfl, rfl, h2, h3⟩
 ·rename_i el t;unfold q8Z at e;split at e
  ·rename_i el' hel
   cases hc : Nat.beq el' el with
   | false => rw [hc] at e; cases e
   | true =>
     rw [hc] at e;cases e;have he : el' = el := zI6 hc;subst he;refine ⟨.v (.slice none 0 0), by simp only [SV.enc, fvv, fz1], ?_, rfl, .refl _, ho⟩
     show (match zP P ty with
      | some el => PV.f (.l el 0 [])
      | none => fvv (.slice none 0 0)) = _
     rw [hel];rfl
  ·cases e
 ·rename_i el t el' k' xs;split at e
  ·rename_i y hy;cases e;unfold q49 at hy;split at hy
   ·rename_i k _
    cases hc : (Nat.beq el' el && decide (k' = k)) with
    | false => rw [hc] at hy; cases hy
    | true =>
      rw [hc] at hy;rw [zI5] at hc;have h1 : el' = el := zI6 hc.1;have h2 : k' = k := by simpa using hc.2
      subst h1 h2;simp only [cond_true] at hy;split at hy
      ·rename_i e0 he0
       cases hc2 : Nat.beq e0 el' with
       | false => rw [hc2] at hy; cases hy
       | true =>
         rw [hc2] at hy;cases hy;have h3 : e0 = el' := zI6 hc2;subst h3;refine ⟨fvo e0 k' xs, by simp only [SV.enc]; rfl, ?_, rfl, .refl _, ho⟩
         cases xs with
         | nil =>
           show (match zP P ty with
            | some el => PV.f (.l el 0 [])
            | none => fvv (.slice none 0 0)) = _
           rw [he0];rfl
         | cons x xs => rfl
      ·cases hy
   ·cases hy
  ·cases e
 ·obtain ⟨zGV, e⟩ : t.nol = true ∧ qTC t v h = some (x, h') := by
   cases hn : t.nol with
   | true => rw [hn] at e; exact ⟨rfl, e⟩
   | false => rw [hn] at e; cases e
  unfold qTC at e;split at e
  ·rename_i y hy;cases e;obtain ⟨h1, h2⟩ := rJ hy;have h3 : (t.one && t.nol) = true := by rw [h2, zGV]; rfl
   exact ⟨_, by rw [h1]; rfl, sN h3, h3, .refl _, ho⟩
  ·cases e
def q7Q (P : Program) (ty : TypeId) (t : Ty) (v : SV) (h : SH) : Option (t.sem × SH) := cond (Gc.ol ty) (qTC t v h) (qV2 P ty t v h)
theorem q19 {t : Ty} {x : t.sem} (ho : OkH P h) (hv : v.ok h) (e : q7Q P ty t v h = some (x, h')) :
 ∃ y, fz1 P 4 (qD h.l) v.enc = some (y, qD h'.l) ∧ rtC P ty (.f y) = .f (t.fv x) ∧ rtC P ty (.f (t.fv x)) = .f (t.fv x) ∧ t.one = true ∧ Keep h h' ∧ OkH P h' := by
 unfold q7Q at e;unfold rtC
 cases hc : Gc.ol ty with
 | true =>
   rw [hc] at e;simp only [cond_true] at e ⊢;unfold qTC at e;split at e
   ·rename_i y hy;cases e;obtain ⟨h1, h2⟩ := rJ hy;exact ⟨_, by rw [h1]; rfl, rfl, trivial, h2, .refl _, ho⟩
   ·cases e
 | false =>
   rw [hc] at e;simp only [cond_false] at e ⊢;obtain ⟨y, a1, a2, a3, a4, a5⟩ := qOS ho hv e;exact ⟨y, a1, a2, sN a3, (by rw [zI5] at a3; exact a3.1), a4, a5⟩
def qEA (P : Program) (t : Ty) (tys : List TypeId) (l : List SV) (h : SH) : Option (t.sem × List TypeId × List SV × SH) := match tys, l with
 | ty :: tys, v :: l => (match q7Q P ty t v h with
   | some (x, h') => some (x, tys, l, h')
   | none => none)
 | _, _ => none
def Ty.zB8 (P : Program) : (t : Ty) -> List TypeId -> List SV -> SH -> Option (t.sem × List TypeId × List SV × SH)
 | .unit, tys, l, h => some ((), tys, l, h)
 | .pair a b, tys, l, h => match a.zB8 P tys l h with
   | some (x, zCW, l1, h1) => (match b.zB8 P zCW l1 h1 with
     | some (y, zFI, l2, h2) => some ((x, y), zFI, l2, h2)
     | none => none)
   | none => none
 | .int k, tys, l, h => qEA P (.int k) tys l h
 | .bool, tys, l, h => qEA P .bool tys l h
 | .str, tys, l, h => qEA P .str tys l h
 | .raw, tys, l, h => qEA P .raw tys l h
 | .ol el k, tys, l, h => qEA P (.ol el k) tys l h
 | .nif, tys, l, h => qEA P .nif tys l h
 | .list el t, tys, l, h => qEA P (.list el t) tys l h
def q8E (P : Program) (t : Ty) (tys : List TypeId) (l : List SV) (h : SH) (x : t.sem) (q9U : List TypeId) (l' : List SV) (h' : SH) : Prop :=
 okL h' l' ∧ Keep h h' ∧ OkH P h' ∧ ∃ ys : List FV, (∀ zs p, qDM (fz1 P 4) (qB l') (qD h'.l) = some (zs, p) -> qDM (fz1 P 4) (qB l) (qD h.l) = some (ys ++ zs, p)) ∧
  ∀ zs : List PV, rtL (rtC P) tys (ys.map .f ++ zs) = (t.cells x).map .f ++ rtL (rtC P) q9U zs ∧ rtL (rtC P) tys ((t.cells x).map .f ++ zs) = (t.cells x).map .f ++ rtL (rtC P) q9U zs
theorem gP {t : Ty} {tys q9U : List TypeId} {l l' : List SV} {x : t.sem} (ho : OkH P h) (hl : okL h l) (e : qEA P t tys l h = some (x, q9U, l', h')) : q8E P t tys l h x q9U l' h' := by
 unfold qEA at e;split at e
 ·rename_i ty tys v l;split at e
  ·rename_i y h1 hd;cases e;simp only [okL] at hl;obtain ⟨y, a1, a2, a2', a3, a4, a5⟩ := q19 ho hl.1 hd;refine ⟨qK a4 hl.2, a4, a5, [y], fun zs p hz => ?_, fun zs => ⟨?_, ?_⟩⟩
   ·simp only [qB, qDM, a1, hz]; rfl
   ·show rtC P ty (.f y) :: rtL (rtC P) _ zs = _;rw [a2, Ty.cells_one a3]; rfl
   ·rw [Ty.cells_one a3];show rtC P ty (.f (t.fv _)) :: rtL (rtC P) _ zs = _;rw [a2']; rfl
  ·cases e
 ·cases e
theorem qA0 : ∀ {t : Ty} {tys q9U : List TypeId} {l l' : List SV} {h : SH} {x : t.sem} {h' : SH}, OkH P h -> okL h l -> t.zB8 P tys l h = some (x, q9U, l', h') -> q8E P t tys l h x q9U l' h'
 | .unit, tys, q9U, l, l', h, x, h', ho, hl, e => by
   cases e;exact ⟨hl, .refl _, ho, [], fun zs p hz => hz, fun zs => ⟨rfl, rfl⟩⟩
 | .int k, tys, q9U, l, l', h, x, h', ho, hl, e => gP ho hl e
 | .bool, tys, q9U, l, l', h, x, h', ho, hl, e => gP ho hl e
 | .str, tys, q9U, l, l', h, x, h', ho, hl, e => gP ho hl e
 | .raw, tys, q9U, l, l', h, x, h', ho, hl, e => gP ho hl e
 | .ol _ _, tys, q9U, l, l', h, x, h', ho, hl, e => gP ho hl e
 | .nif, tys, q9U, l, l', h, x, h', ho, hl, e => gP ho hl e
 | .list el t, tys, q9U, l, l', h, x, h', ho, hl, e => gP ho hl e
 | .pair a b, tys, q9U, l, l', h, x, h', ho, hl, e => by
   unfold Ty.zB8 at e;split at e
   ·rename_i x1 zCW l1 h1 hd1;split at e
    ·rename_i y zFI l2 h2 hd2;cases e;obtain ⟨a1, a2, a3, ys, a4, a5⟩ := qA0 ho hl hd1;obtain ⟨b1, b2, b3, zs, b4, b5⟩ := qA0 a3 a1 hd2;refine ⟨b1, a2.trans b2, b3, ys ++ zs, fun us p hu => ?_, fun us => ⟨?_, ?_⟩⟩
     ·rw [zJ0];exact a4 _ _ (b4 _ _ hu)
     ·rw [zJ9, zJ0, (a5 _).1, (b5 _).1];show _ = (a.cells x1 ++ b.cells y).map PV.f ++ _;rw [zJ9, zJ0]
     ·show rtL (rtC P) _ ((a.cells x1 ++ b.cells y).map PV.f ++ us) = (a.cells x1 ++ b.cells y).map PV.f ++ _;rw [zJ9, zJ0, (a5 _).2, (b5 _).2, zJ0]
    ·cases e
   ·cases e
def q3A (P : Program) (ty : TypeId) (t : Ty) (v : SV) (h : SH) : Option (t.sem × SH) := cond t.one (match v with
 | .agg _ => none
 | v => qV2 P ty t v h) (match v with
 | .agg l => (match t.zB8 P (vC P 8 ty) l h with
   | some (x, _, [], h') => some (x, h')
   | _ => none)
 | _ => none)
theorem tZ {t : Ty} {x : t.sem} (ho : OkH P h) (hv : v.ok h) (e : q3A P ty t v h = some (x, h')) :
 ∃ y, fzP P (qD h.l) v.enc = some (y, qD h'.l) ∧ rt1 P ty y = t.pv x ∧ Keep h h' ∧ OkH P h' ∧ rt1 P ty (t.pv x) = t.pv x := by
 unfold q3A at e
 cases ht : t.one with
 | true =>
   rw [ht] at e;simp only [cond_true] at e;split at e
   ·cases e
   ·rename_i hna;obtain ⟨y, h1, h2, h3, h4, h5⟩ := qOS ho hv e
    have hpv : rt1 P ty (t.pv x) = t.pv x := by
     unfold Ty.pv;rw [ht];exact sN h3
    refine ⟨.f y, ?_, ?_, h4, h5, hpv⟩
    ·cases v with
     | agg l => exact absurd rfl (hna l)
     | opt b k o w => cases b <;> (simp only [SV.enc, fvv, fzP, cond_true, cond_false] at h1 ⊢; rw [h1])
     | _ => simp only [SV.enc, fvv, fzP] at h1 ⊢; rw [h1]
    ·show rt0 P ty (.f y) = _;rw [h2];unfold Ty.pv;rw [ht]; rfl
 | false =>
   rw [ht] at e;simp only [cond_false] at e;split at e
   ·rename_i l;split at e
    ·rename_i x1 zCW h1 hd;cases e;simp only [SV.ok] at hv;obtain ⟨a1, a2, a3, ys, a4, a5⟩ := qA0 ho hv hd
     have hpv : rt1 P ty (t.pv x) = t.pv x := by
      unfold Ty.pv;rw [ht];show PV.agg (rtL (rtC P) (vC P 8 ty) ((t.cells x).map .f)) = _;have := (a5 []).2;rw [zKR] at this;rw [this];cases zCW <;> simp [rtL]
     refine ⟨.agg (ys.map .f), ?_, ?_, a2, a3, hpv⟩
     ·have := a4 [] (qD h'.l) (by simp [qB, qDM]);simp only [SV.enc, fzP, this, zKR]
     ·show PV.agg (rtL (rtC P) (vC P 8 ty) (ys.map .f)) = _;have := (a5 []).1;rw [zKR] at this;rw [this];unfold Ty.pv;rw [ht];cases zCW <;> simp [rtL]
    ·cases e
   ·cases e
def jY (P : Program) : List TypeId -> (ts : List Ty) -> List SV -> SH -> Option (TyL ts × SH)
 | _, [], [], h => some ((), h)
 | ty :: _, [t], [v], h => q3A P ty t v h
 | ty :: tys, t :: u :: ts, v :: vs, h => match q3A P ty t v h with
   | some (x, h1) => (match jY P tys (u :: ts) vs h1 with
     | some (y, h2) => some ((x, y), h2)
     | none => none)
   | none => none
 | _, _, _, _ => none
theorem bM : ∀ {tys : List TypeId} {ts : List Ty} {vs : List SV} {h : SH} {x : TyL ts} {h' : SH}, OkH P h -> okL h vs -> jY P tys ts vs h = some (x, h') ->
 ∃ ys, fzA P (qB vs) (qD h.l) = some (ys, qD h'.l) ∧ rtL (rt1 P) tys ys = pvL ts x ∧ Keep h h' ∧ OkH P h'
 | tys, [], [], h, x, h', ho, hv, e => by
   unfold jY at e;cases e;refine ⟨[], rfl, ?_, .refl _, ho⟩;cases tys <;> rfl
 | ty :: tys, [t], [v], h, x, h', ho, hv, e => by
   unfold jY at e;simp only [okL] at hv;obtain ⟨y, h1, h2, h3, h4, _⟩ := tZ ho hv.1 e;refine ⟨[y], ?_, ?_, h3, h4⟩
   ·simp only [qB, fzA, h1]
   ·show rt1 P ty y :: rtL (rt1 P) tys [] = [t.pv x];rw [h2];cases tys <;> rfl
 | ty :: tys, t :: u :: ts, v :: vs, h, x, h', ho, hv, e => by
   unfold jY at e;simp only [okL] at hv;split at e
   ·rename_i x1 h1 hd;split at e
    ·rename_i y1 h2 hd2;cases e;obtain ⟨y, a1, a2, a3, a4, _⟩ := tZ ho hv.1 hd;obtain ⟨ys, b1, b2, b3, b4⟩ := bM a4 (qK a3 hv.2) hd2;refine ⟨y :: ys, ?_, ?_, a3.trans b3, b4⟩
     ·simp only [qB, fzA, a1, b1]
     ·show rt1 P ty y :: rtL (rt1 P) tys ys = t.pv x1 :: pvL (u :: ts) y1;rw [a2, b2]
    ·cases e
   ·cases e
 | [], [_], [_], _, _, _, _, _, e => by unfold jY at e; cases e
 | [], _ :: _ :: _, _ :: _, _, _, _, _, _, e => by unfold jY at e; cases e
 | tys, [], _ :: _, _, _, _, _, _, e => by cases tys <;> (unfold jY at e; cases e)
 | tys, _ :: ts, [], _, _, _, _, _, e => by cases tys <;> cases ts <;> (unfold jY at e; cases e)
 | tys, [_], _ :: _ :: _, _, _, _, _, _, e => by cases tys <;> (unfold jY at e; cases e)
def Ty.sv (t : Ty) (x : t.sem) : SV := cond t.one (.d t x) (.agg (t.svs x))
theorem eX (t : Ty) (x : t.sem) : (t.sv x).enc = t.pv x := by
 unfold Ty.sv Ty.pv;cases t.one <;> simp [SV.enc, uY]
omit [Yl] in
theorem qHL (t : Ty) (x : t.sem) : (t.sv x).ok h := by
 unfold Ty.sv;cases t.one
 ·simp only [cond_false, SV.ok]; exact qDA t x
 ·simp [SV.ok]
def svL : (ts : List Ty) -> TyL ts -> List SV
 | [], _ => []
 | [t], x => [t.sv x]
 | t :: u :: ts, x => t.sv x.1 :: svL (u :: ts) x.2
theorem qBQ : ∀ (ts : List Ty) (x : TyL ts), qB (svL ts x) = pvL ts x
 | [], _ => by simp [svL, pvL, qB]
 | [t], x => by simp [svL, pvL, qB, eX]
 | t :: u :: ts, x => by
   show qB (t.sv x.1 :: svL (u :: ts) x.2) = t.pv x.1 :: pvL (u :: ts) x.2;simp only [qB, eX, qBQ (u :: ts)]
omit [Yl] in
theorem qAT : ∀ (ts : List Ty) (x : TyL ts), okL h (svL ts x)
 | [], _ => by simp [svL, okL]
 | [t], x => by simp [svL, okL, qHL]
 | t :: u :: ts, x => by
   show okL h (t.sv x.1 :: svL (u :: ts) x.2);simp only [okL];exact ⟨qHL t x.1, qAT (u :: ts) x.2⟩
def qIK (ts : List Ty) (x : TyL ts) : SV := match svL ts x with
 | [v] => v
 | vs => .tup vs
theorem qJS (ts : List Ty) (x : TyL ts) : (qIK ts x).enc = jZ ts x := by
 unfold qIK jZ;rw [<- qBQ]
 match svL ts x with
 | [] => simp [qB, qCB, SV.enc]
 | [v] => simp [qB, qCB]
 | a :: b :: l => simp [qB, qCB, SV.enc]
omit [Yl] in
theorem qOC (ts : List Ty) (x : TyL ts) : (qIK ts x).ok h := by
 unfold qIK;have := qAT (h := h) ts x;split
 ·rename_i v hv;rw [hv] at this;simp only [okL] at this;exact this.1
 ·simp only [SV.ok]; exact this
def qPV (tab : uF) (T : jE) : Prop := ∀ g ent, slT g T = some ent -> ∀ x, tab g (pvL ent.as x) = (ent.F x).map (jZ ent.rs)
def okc : FV -> Bool
 | .v (.slice _ _ _) => false
 | .v _ => true
 | .l _ _ _ => false
def _root_.Go.Sv.Ty.pln : Ty -> Bool
 | .int _ | .bool | .str | .unit | .nif => true
 | .pair a b => Go.Sv.Ty.pln a && Go.Sv.Ty.pln b
 | _ => false
omit [Yl] in
theorem eH : ∀ (t : Ty) (x : t.sem), (t.cells x).all okc = t.pln
 | .int _, _ => rfl
 | .bool, _ => rfl
 | .str, _ => rfl
 | .unit, _ => rfl
 | .nif, _ => rfl
 | .raw, _ => rfl
 | .list _ _, _ => rfl
 | .ol _ _, xs => by cases xs <;> rfl
 | .pair a b, x => by
   show (a.cells x.1 ++ b.cells x.2).all okc = (a.pln && b.pln);rw [zMJ, eH a, eH b]
omit [Yl] in
theorem qT8 : ∀ (cs : List FV), ((qJG (cs.map .f)).isSome && (cs.map PV.f).all q3T) = cs.all okc
 | [] => rfl
 | c :: cs => by
   rw [zKB, <- qT8 cs, zJM, zKB]
   cases c with
   | l el n xs => rfl
   | v x =>
     have e2 : q3T (.f (.v x)) = okc (.v x) := by cases x <;> rfl
     rw [e2, show qJG (.f (.v x) :: cs.map .f) = (match qJG (cs.map .f) with
      | some vs => some (x :: vs)
      | none => none) from rfl]
     cases qJG (cs.map PV.f) with
     | none => simp only [zNC, Bool.false_and, Bool.and_false]
     | some vs => simp only [zL6, zND]
omit [Yl] in
theorem qFH (t : Ty) (x : t.sem) : jS (t.pv x) = t.pln ∧ ((pl (t.pv x)).isSome && qQW (t.pv x)) = t.pln := by
 unfold Ty.pv
 cases ht : t.one with
 | true =>
   simp only [cond_true];have := eH t x;rw [Ty.cells_one ht] at this;rw [<- this, zKB, List.all_nil, zLF]
   cases hv : t.fv x with
   | l el n xs => exact ⟨rfl, rfl⟩
   | v y => cases y <;> exact ⟨rfl, rfl⟩
 | false =>
   simp only [cond_false];have := qT8 (t.cells x);rw [eH] at this;refine ⟨this, ?_⟩;rw [<- this]
   show ((match qJG ((t.cells x).map .f) with
    | some vs => some (Value.agg vs.toArray)
    | none => none).isSome && ((t.cells x).map PV.f).all q3T) = _
   cases qJG ((t.cells x).map .f) <;> rfl
def q52 (ts : List Ty) : Bool := ts.all Ty.pln
omit [Yl] in
theorem qI6 : ∀ (ts : List Ty) (x : TyL ts), ((plL (pvL ts x)).isSome && (pvL ts x).all qQW) = q52 ts
 | [], _ => rfl
 | [t], x => by
   show ((match pl (t.pv x) with
    | some v => (match plL [] with
      | some vs => some (v :: vs)
      | none => none)
    | none => none).isSome && ((t.pv x) :: []).all qQW) = (t.pln && true)
   rw [<- (qFH t x).2, zKB];cases pl (t.pv x) <;> simp [plL]
 | t :: u :: ts, x => by
   show ((match pl (t.pv x.1) with
    | some v => (match plL (pvL (u :: ts) x.2) with
      | some vs => some (v :: vs)
      | none => none)
    | none => none).isSome && ((t.pv x.1) :: pvL (u :: ts) x.2).all qQW) = (t.pln && q52 (u :: ts))
   rw [<- (qFH t x.1).2, <- qI6 (u :: ts) x.2, zKB]
   cases pl (t.pv x.1) with
   | none => simp
   | some v => cases plL (pvL (u :: ts) x.2) with
     | none => simp
     | some vs => simp
omit [Yl] in
theorem qI7 (ts : List Ty) (x : TyL ts) : jS (jZ ts x) = q52 ts := by
 unfold jZ
 match ts, x with
 | [], x => rfl
 | [t], x =>
   show jS (t.pv x) = (t.pln && true);rw [(qFH t x).1, zLF]
 | t :: u :: ts, x =>
   have := qI6 (t :: u :: ts) x;cases ts <;> exact this
def qP5 (P : Program) (T : jE) (d : Bool) (g : FuncId) (as : List SV) (h : SH) (K : SV -> SH -> q9D R) : q9D R := match slT g T, P.funcs[g]? with
 | some ent, some fn => (match jY P fn.params.toList ent.as as h with
   | some (x, h1) => .bind (ent.F x) fun y => cond d (cond (q52 ent.rs || (qB as).all qIM) (K (qIK ent.rs y) h) .fail) (K (qIK ent.rs y) (cond (q52 ent.rs) h h1))
   | none => .fail)
 | _, _ => .fail
theorem qV8 {T : jE} (ht : qPV tab T) {K : SV -> SH -> q9D R} (ho : OkH P h) (ha : okL h as) (e : (qP5 P T false g as h K).run = some r) :
 ∃ v h', fD P tab g (qB as) (qD h.l) = .ok v.enc (qD h'.l) ∧ Post P h h' v ∧ (K v h').run = some r := by
 unfold qP5 at e;split at e
 ·rename_i ent fn hent hfn;split at e
  ·rename_i x h1 hx;obtain ⟨y, hy, e1⟩ := run_bind e;obtain ⟨ys, a1, a2, a3, a4⟩ := bM ho ha hx;have e2 : (K (qIK ent.rs y) (cond (jS (jZ ent.rs y)) h h1)).run = some r := by rw [qI7]; exact e1
   refine ⟨_, _, ?_, ⟨?_, ?_, qOC _ _⟩, e2⟩
   ·unfold fD;rw [a1];simp only;rw [show rtA P g ys = pvL ent.as x by unfold rtA; rw [hfn]; exact a2, ht g ent hent x, hy];simp only [zJJ, qJS];cases jS (jZ ent.rs y) <;> rfl
   ·cases jS (jZ ent.rs y)
    ·exact a3
    ·exact .refl _
   ·cases jS (jZ ent.rs y)
    ·exact a4
    ·exact ho
  ·cases e
 ·cases e
theorem qUX {T : jE} (ht : qPV tab T) {K : SV -> SH -> q9D R} (ho : OkH P h) (ha : okL h as) (e : (qP5 P T true g as h K).run = some r) :
 ∃ v h', oG P tab g (qB as) (qD h.l) = .ok v.enc (qD h'.l) ∧ Post P h h' v ∧ (K v h').run = some r := by
 unfold qP5 at e;split at e
 ·rename_i ent fn hent hfn;split at e
  ·rename_i x h1 hx;obtain ⟨y, hy, e1⟩ := run_bind e;obtain ⟨ys, a1, a2, a3, a4⟩ := bM ho ha hx;obtain ⟨c, e2⟩ := qE (show (cond (jS (jZ ent.rs y) || (qB as).all qIM) (K (qIK ent.rs y) h) .fail : q9D R).run = some r by rw [qI7]; exact e1);refine ⟨_, _, ?_, ⟨.refl _, ho, qOC _ _⟩, e2⟩;unfold oG;rw [a1];simp only;rw [show rtA P g ys = pvL ent.as x by unfold rtA; rw [hfn]; exact a2, ht g ent hent x, hy];simp only [zJJ, qJS, c, cond_true]
  ·cases e
 ·cases e
def qBT (fv : SV) (args : List SV) : Option (FuncId × List SV) := match fv with
 | .c (.func (.func g) a c) => cond (a.toList.isEmpty && c.toList.isEmpty) (some (g, args)) none
 | .fn g first cap => some (g, first ++ (args ++ cap))
 | _ => none
theorem oD {fv : SV} {args : List SV} (hf : fv.ok h) (ha : okL h args) (e : qBT fv args = some (g, as)) : target fv.enc (qB args) = some (g, qB as) ∧ okL h as := by
 unfold qBT at e;split at e
 ·rename_i g' a c
  cases hc : (a.toList.isEmpty && c.toList.isEmpty) with
  | false => rw [hc] at e; cases e
  | true =>
    rw [hc] at e;cases e;exact ⟨by simp only [target, SV.enc, fvv, hc, cond_true], ha⟩
 ·rename_i g' first cap
  cases e;simp only [SV.ok] at hf;exact ⟨by simp only [target, SV.enc, mI], fG hf.1 (fG ha hf.2)⟩
 ·cases e
def q0F (P : Program) (T : jE) (d : Bool) (f : SV) (args : List SV) (h : SH) (K : SV -> SH -> q9D R) : q9D R := match qBT f args with
 | some (g, as) => qP5 P T d g as h K
 | none => .fail
def qYN (P : Program) (T : jE) (d : Bool) (k : Nat) (o : Oper) (env : List SV) (h : SH) (K : SV -> SH -> q9D R) : q9D R := match o.op with
 | .call ⟨.value f, args, _⟩ => q0F P T d (xH env f) (dS env args) h K
 | _ => sop P o env k h K
def qZV (P : Program) (G : Nat -> Bool) (CI : CIT) : Prop := ∀ {R : Type} (nm : Nm) (f : FuncId) (as : List SV) (h : SH) (K : SV -> SH -> q9D R) (r : R), OkH P h -> okL h as -> (CI R nm f as h K).run = some r ->
 qB4 P G nm f (qB as) (qD h.l) fun v p => ∃ v' h', v = v'.enc ∧ p = qD h'.l ∧ Post P h h' v' ∧ (K v' h').run = some r
def qOR (p : Nat -> Bool) (env : List SV) : List (Nat × SO) -> Bool
 | [] => true
 | (k, _) :: l => (!p k || zR k (qB env)) && qOR p env l
theorem qHH {p : Nat -> Bool} {env : List SV} : ∀ {l : List (Nat × SO)}, qOR p env l = true -> clean p (qB env) (qD l) = true
 | [], _ => rfl
 | (k, o) :: l, h => by
   have h : ((!p k || zR k (qB env)) && qOR p env l) = true := h;show ((!p k || zR k (qB env)) && clean p (qB env) (qD l)) = true;rw [zI5] at h ⊢;exact ⟨h.1, qHH h.2⟩
section
variable {Γ : Type}
def qZ6 (P : Program) (T : jE) (CI : CIT) (Y : YI Γ) (nm : Nm) (f : SV) (args : List SV) (g : Γ) (env : List SV) (h : SH) (K : Γ -> SV -> SH -> q9D R) : q9D R := match f with
 | .yv => (match jY P Y.yt Y.ys args h with
   | some (y, h1) => .bind (Y.stp g y) fun p => K p.1 (.d .bool p.2) h1
   | none => .fail)
 | f => (match qBT f args with
   | some (t, as) => cond (slT t T).isSome (qP5 P T false t as h (K g)) (CI R (qRI nm t) t as h fun v h2 => cond (qOR (qRI nm t).p env h2.l) (K g v h2) .fail)
   | none => .fail)
def qZ1 (P : Program) (T : jE) (CI : CIT) (Y : YI Γ) (nm : Nm) (o : Oper) (g : Γ) (env : List SV) (h : SH) (K : Γ -> SV -> SH -> q9D R) : q9D R := match o.op with
 | .call ⟨.value f, args, _⟩ => qZ6 P T CI Y nm (xH env f) (dS env args) g env h K
 | _ => q71 P o env (qG nm o.dst) h (K g)
def YOk (P : Program) (G : Nat -> Bool) (w : Wld Γ) (Y : YI Γ) : Prop := ∀ g y g' b, Y.stp g y = some (g', b) -> qHI P G w Yl.l g (pvL Y.ys y) g' b
end
theorem qH3 {T : jE} (ht : qPV tab T) {o : Oper} {env : List SV} {K : SV -> SH -> q9D R} (ho : OkH P h) (he : okL h env) (e : (qYN P T true k o env h K).run = some r) :
 ∃ v h', zC P tab k o (qB env) (qD h.l) = .ok v.enc (qD h'.l) ∧ Post P h h' v ∧ (K v h').run = some r := by
 unfold qYN at e;unfold zC;split at e
 ·rename_i f args ts hop;unfold q0F at e;split at e
  ·rename_i g as hst;obtain ⟨h1, h2⟩ := oD (oU he f) (bL he args) hst;obtain ⟨v, h', a1, a2, a3⟩ := qUX ht ho h2 e;refine ⟨v, h', ?_, a2, a3⟩;simp only [hop, qL, aK, h1];exact a1
  ·cases e
 ·rename_i hne;obtain ⟨v, h', a1, a2, a3⟩ := qZQ ho he e;refine ⟨v, h', ?_, a2, a3⟩;split
  ·rename_i f args ts hop; exact absurd hop (hne f args ts)
  ·rw [a1]; rfl
end
end Go.Sv
namespace Go.Sv
open Go.Idl
variable {d : Option Tmp} {el : TypeId} {env : List SV} {h : SH} {o : Oper} {t : Nat} {v : SV}
noncomputable section
variable [Gc]
variable [Frs]
variable [Yl]
variable {P : Program} {R : Type} {r : R} {tab : uF} {G : Nat -> Bool} {nm : Nm}
omit [Yl] in
theorem q9Q {Q Q' : List PV -> PHp -> Prop} (hq : ∀ e p, Q e p -> Q' e p) : ∀ {t : PT}, t.holds P G Q -> t.holds P G Q'
 | .fail, h => h.elim
 | .ret e p, h => hq e p h
 | .chk c t, h => ⟨h.1, q9Q hq h.2⟩
 | .call nm g args ph k, h => by
   obtain ⟨R, h1, h2⟩ := h;exact ⟨R, h1, fun v p hr => q9Q hq (h2 v p hr)⟩
 | .rnd _ _ _ _, h => h.elim
omit [Yl] in
theorem q0B (k : Nat) : ∀ (cs : List FV), zR k (cs.map .f) = true
 | [] => by simp [zR]
 | c :: cs => by simp [zR, noK, q0B k cs]
def qK0 (k : Nat) : List (Nat × SO) -> Bool
 | [] => true
 | (_, .cells _ _ l) :: r => zR k (qB l) && qK0 k r
 | (_, .list _ _ _ _ _ _) :: r => qK0 k r
 | (_, .spc _ (.mit _ j _ _ _)) :: r => !(k == j) && qK0 k r
 | (_, .spc _ (.map _)) :: r => qK0 k r
 | (_, .spc _ (.iter _ _)) :: r => qK0 k r
theorem qVO (k : Nat) : ∀ (l : List Nat), zR k (l.map iv) = true
 | [] => by simp [zR]
 | c :: cs => by
   show (true && zR k (cs.map iv)) = true;rw [qVO k cs]; rfl
theorem qYU (k j si la : Nat) (seen : List Nat) : zR k (qMD (.mp j) si la seen) = !(k == j) := by
 show (!(k == j) && (true && (true && (zR k (seen.map iv) && true)))) = _;rw [qVO]; simp
theorem vY {k : Nat} : ∀ {l : List (Nat × SO)}, qK0 k l = true -> fE k (qD l) = true
 | [], _ => rfl
 | (j, .cells el w l) :: r, h => by
   simp only [qK0, zI5] at h;show (zR k (qB l) && fE k (qD r)) = true;rw [h.1, vY h.2]; rfl
 | (j, .list el gr g w t xs) :: r, h => by
   simp only [qK0] at h;show (zR k ((xs.flatMap t.cells).map .f) && fE k (qD r)) = true;rw [q0B, vY h]; rfl
 | (j, .spc w (.mit t i si la seen)) :: r, h => by
   simp only [qK0, zI5] at h;show (zR k (qMD (.mp i) si la seen) && fE k (qD r)) = true;rw [qYU, h.1, vY h.2]; rfl
 | (j, .spc w (.map es)) :: r, h => by
   simp only [qK0] at h;show (zR k (kH _ _) && fE k (qD r)) = true;rw [aA, vY h]; rfl
 | (j, .spc w (.iter s pos)) :: r, h => by
   simp only [qK0] at h;show (zR k (qHW s pos) && fE k (qD r)) = true;rw [show zR k (qHW s pos) = true from rfl, vY h]; rfl
def dH (env : List SV) (d : Option Tmp) (v : SV) : List SV := match d with
 | some t => yY env t v
 | none => env
theorem xS (env : List SV) (t : Nat) (v : SV) : qB (yY env t v) = yY (qB env) t v.enc := by
 rw [qY, qY, qW, qW, List.map_set]
theorem jL (env : List SV) (d : Option Tmp) (v : SV) : qB (dH env d v) = yB (qB env) d v.enc := by
 cases d with
 | none => rfl
 | some t => exact xS env t v
omit [Yl] in
theorem xP (he : okL h env) (hv : v.ok h) : okL h (yY env t v) := by
 rw [qY]
 exact zW.2 fun x hx => by
  rcases List.mem_or_eq_of_mem_set hx with q | q
  ·exact zW.1 he x q
  ·rw [q]; exact hv
omit [Yl] in
theorem wR (he : okL h env) (hv : v.ok h) : okL h (dH env d v) := by
 cases d with
 | none => exact he
 | some t => exact xP he hv
omit [Yl] in
theorem kY (env : List SV) (t : Nat) (v : SV) : (yY env t v).length = env.length := by rw [qY, zL5]
omit [Yl] in
theorem qYV (env : List SV) (d : Option Tmp) (v : SV) : (dH env d v).length = env.length := by
 cases d with
 | none => rfl
 | some t => exact kY env t v
theorem qNB {w : SV} (h1 : zA env t = some v) (h2 : w.enc = v.enc) : qB (yY env t w) = qB env := by
 rw [xS, qY];rw [qF] at h1;apply zKG;intro i;rw [zJ4];by_cases e : t = i
 ·subst e;rw [if_pos rfl, qW, zJK, h1, zJO, if_pos (zJA.1 h1).1, h2];rfl
 ·rw [if_neg e]
def y7 (b w : Bool) : Bool := cond w b (!b)
omit [Yl] in
theorem qNS (b w : Bool) : y7 b w = (b == w) := by cases b <;> cases w <;> rfl
def sO (ds : List (Option Tmp)) (o : Oper) (env : List SV) (Y N : List SV -> q9D R) : q9D R := match o.guard with
 | none => Y env
 | some (j, w) => (match qQH ds j with
   | none => N env
   | some t => (match zA env t with
     | none => .fail
     | some v => (match asB v with
       | some b => .ite (y7 b w) (Y (yY env t (.c (.bool w)))) (N (yY env t (.c (.bool (!w)))))
       | none => (match v with
         | .tup [] => N env
         | _ => .fail))))
theorem oP {ds : List (Option Tmp)} {Y N : List SV -> q9D R} (he : okL h env) (e : (sO ds o env Y N).run = some r) :
 ∃ env', qB env' = qB env ∧ okL h env' ∧ env'.length = env.length ∧ ((jV ds o (qB env) = some true ∧ (Y env').run = some r) ∨ (jV ds o (qB env) = some false ∧ (N env').run = some r)) := by
 unfold sO at e;unfold jV;split at e
 ·rename_i hg;exact ⟨env, rfl, he, rfl, .inl ⟨by rw [hg], e⟩⟩
 ·rename_i j w hg;rw [hg];simp only;split at e
  ·rename_i hd;exact ⟨env, rfl, he, rfl, .inr ⟨by rw [hd]; rfl, e⟩⟩
  ·rename_i t hd;rw [hd];simp only [qMB, zD];split at e
   ·cases e
   ·rename_i v hv;rw [hv];split at e
    ·rename_i b hb;have hbe := pK hb
     rcases run_ite e with ⟨z, e1⟩ | ⟨z, e1⟩
     ·rw [qNS] at z;have : b = w := by simpa using z
      subst this;refine ⟨_, qNB hv (by rw [hbe]; simp [SV.enc]), xP he (by simp [SV.ok]), kY _ _ _, .inl ⟨?_, e1⟩⟩;simp only [zJJ, hbe, qAJ, z]
     ·rw [qNS] at z
      have : b = !w := by cases b <;> cases w <;> first | rfl | cases z
      refine ⟨_, qNB hv (by rw [hbe, this]; simp [SV.enc]), xP he (by simp [SV.ok]), kY _ _ _, .inr ⟨?_, e1⟩⟩;simp only [zJJ, hbe, qAJ, z]
    ·split at e
     ·exact ⟨env, rfl, he, rfl, .inr ⟨by simp only [zJJ, SV.enc, qB]; exact qP7, e⟩⟩
     ·cases e
def qDU (nm : Nm) (k : Nat) (env : List SV) (h : SH) : Bool := inP nm k && (zR k (qB env) && qK0 k h.l)
section
variable {Γ : Type}
def qVR (P : Program) (T : jE) (CI : CIT) (Y : YI Γ) (nm : Nm) (ds : List (Option Tmp)) : List Oper -> Γ -> List SV -> SH -> (Γ -> List SV -> SH -> q9D R) -> q9D R
 | [], g, env, h, K => K g env h
 | o :: l, g, env, h, K => sO ds o env
    (fun env => cond (cond (needs o.op) (qDU nm (qG nm o.dst) env h) true) (qZ1 P T CI Y nm o g env h fun g v h' => qVR P T CI Y nm ds l g (dH env o.dst v) h' K) .fail)
    (fun env => qVR P T CI Y nm ds l g (dH env o.dst (.tup [])) h K)
end
def Ends (P : Program) (w : List (Option Tmp)) (env : List SV) (h : SH) (env' : List SV) (h' : SH) : Prop :=
 okL h' env' ∧ OkH P h' ∧ Keep h h' ∧ (∀ i, some i ∉ w -> zA (qB env') i = zA (qB env) i) ∧ env'.length = env.length
theorem q1O {i : Nat} (h : d ≠ some i) : zA (qB (dH env d v)) i = zA (qB env) i := by
 cases d with
 | none => rfl
 | some t =>
   show zA (qB (yY env t v)) i = _;rw [xS, qY, qF, qF, zJ4, if_neg (fun e => h (by rw [e]))]
theorem Ends.step {w : List (Option Tmp)} {q9I : List SV} {h1 : SH} {env' : List SV} {h' : SH} (he : qB env = qB q9I) (hl : env.length = q9I.length) (hk : Keep h h1) (x : Ends P w (dH env o.dst v) h1 env' h') : Ends P (o.dst :: w) q9I h env' h' :=
 ⟨x.1, x.2.1, hk.trans x.2.2.1, fun i hi => by
   rw [zJR, not_or] at hi
   rw [x.2.2.2.1 i hi.2, q1O (fun e => hi.1 e.symm), he], by rw [x.2.2.2.2, qYV, hl]⟩
omit [Yl] in
theorem xU {Γ : Type} {w : Wld Γ} {Q Q' : Γ -> List PV -> PHp -> Prop} (hq : ∀ g e p, Q g e p -> Q' g e p) : ∀ {t : PT} {g : Γ}, t.q99 P G w Q g -> t.q99 P G w Q' g
 | .fail, _, h => h.elim
 | .ret e p, g, h => hq g e p h
 | .chk c t, g, h => ⟨h.1, xU hq h.2⟩
 | .call nm f args ph k, g, h => by
   obtain ⟨R, h1, h2⟩ := h;exact ⟨R, h1, fun v p hr => xU hq (h2 v p hr)⟩
 | .rnd l args ph k, g, h => by
   obtain ⟨zAH, tys, ph1, g', b, h1, h2, h3⟩ := h;exact ⟨zAH, tys, ph1, g', b, h1, h2, xU hq h3⟩
def qXR (T : jE) (f : FuncId) : Bool := !(slT f T).isSome
theorem qDX {Γ : Type} {w : Wld Γ} {T : jE} {CI : CIT} {Y : YI Γ} (ht : qPV tab T) (hci : qZV P G CI) (hy : YOk P G w Y) {ds : List (Option Tmp)} : ∀ {l : List Oper} {g : Γ} {env : List SV} {h : SH} {K : Γ -> List SV -> SH -> q9D R}, OkH P h -> okL h env -> (qVR P T CI Y nm ds l g env h K).run = some r ->
 (pops P tab (qXR T) nm ds l (qB env) (qD h.l)).q99 P G w (fun g e p => ∃ env' h', e = qB env' ∧ p = qD h'.l ∧ Ends P (l.map (·.dst)) env h env' h' ∧ (K g env' h').run = some r) g
 | [], g, env, h, K, ho, he, e => ⟨env, h, rfl, rfl, ⟨he, ho, .refl _, fun _ _ => rfl, rfl⟩, e⟩
 | o :: l, g, env, h, K, ho, he, e => by
   unfold qVR at e;obtain ⟨q9L, q1, q2, q3, q4⟩ := oP he e;rw [qVM]
   rcases q4 with ⟨hw, e1⟩ | ⟨hw, e1⟩
   ·rw [hw, qWE];obtain ⟨c, e2⟩ := qE e1
    have next : ∀ {g' : Γ} {v : SV} {h' : SH}, Post P h h' v -> (qVR P T CI Y nm ds l g' (dH q9L o.dst v) h' K).run = some r -> (pops P tab (qXR T) nm ds l (yB (qB env) o.dst v.enc) (qD h'.l)).q99 P G w (fun g e p => ∃ env' h', e = qB env' ∧ p = qD h'.l ∧ Ends P ((o :: l).map (·.dst)) env h env' h' ∧ (K g env' h').run = some r) g' := fun {g' v h'} a2 a3 => by
     have ih := qDX ht hci hy a2.2.1 (wR (d := o.dst) (qK a2.1 q2) a2.2.2) a3;rw [jL, q1] at ih;exact xU (fun g e p ⟨env', h', b1, b2, b3, b4⟩ => ⟨env', h', b1, b2, Ends.step q1 q3 a2.1 b3, b4⟩) ih
    have chk : ∀ {g' : Γ} {v : SV} {h' : SH}, Post P h h' v -> (qVR P T CI Y nm ds l g' (dH q9L o.dst v) h' K).run = some r -> (q3Y (needs o.op) (qG nm o.dst) nm (qB env) (qD h.l) (pops P tab (qXR T) nm ds l (yB (qB env) o.dst v.enc) (qD h'.l))).q99 P G w (fun g e p => ∃ env' h', e = qB env' ∧ p = qD h'.l ∧ Ends P ((o :: l).map (·.dst)) env h env' h' ∧ (K g env' h').run = some r) g' := fun {g' v h'} a2 a3 => by
     unfold q3Y
     cases hn : needs o.op with
     | false => exact next a2 a3
     | true =>
       rw [hn] at c;simp only [cond_true] at c ⊢;refine ⟨?_, next a2 a3⟩;unfold qDU at c;rw [q1] at c;simp only [zI5] at c;unfold fresh;rw [c.1, c.2.1, vY c.2.2]; rfl
    unfold qZ1 at e2;split at e2
    ·rename_i f args ts hop
     have hpe : fV P tab (qXR T) (qG nm o.dst) o (qB env) (qD h.l) = mV P tab (qXR T) (xH q9L f).enc (qB (dS q9L args)) (qD h.l) := by
      unfold fV;rw [<- q1];simp only [hop, qL, aK]
     rw [hpe];have hfv := oU q2 f;have has := bL q2 args
     revert e2 hfv
     generalize xH q9L f = fv;intro e2 hfv;unfold qZ6 at e2;split at e2
     ·split at e2
      ·rename_i y h1 hd;obtain ⟨p, hp, e3⟩ := run_bind e2;obtain ⟨g', b⟩ := p;obtain ⟨ys, a1, a2, a3, a4⟩ := bM ho has hd
       have : mV P tab (qXR T) (SV.enc .yv) (qB (dS q9L args)) (qD h.l) = .rnd Yl.l (qB (dS q9L args)) (qD h.l) := by
        simp only [SV.enc, mV]
       rw [this, qUB];refine ⟨ys, Y.yt, qD h1.l, g', b, a1, ?_, ?_⟩
       ·rw [a2]; exact hy _ _ _ _ hp
       ·have := next (v := .d .bool b) ⟨a3, a4, by simp [SV.ok]⟩ e3;simpa [SV.enc, Ty.fv, fvv] using this
      ·cases e2
     ·split at e2
      ·rename_i t as hst;obtain ⟨h1, h2⟩ := oD hfv has hst;rw [qHP h1];unfold bZ qXR
       cases hsl : (slT t T).isSome with
       | true =>
         rw [hsl] at e2;simp only [cond_true] at e2;obtain ⟨v, h', a1, a2, a3⟩ := qV8 ht ho h2 e2;simp only [zME, cond_false];rw [a1, qM0];exact chk a2 a3
       | false =>
         rw [hsl] at e2;simp only [cond_false] at e2;simp only [Bool.not_false, cond_true];rw [qQO];refine ⟨_, hci _ _ _ _ _ _ ho h2 e2, ?_⟩;rintro v p ⟨v', h', rfl, rfl, a2, a3⟩;obtain ⟨c2, a4⟩ := qE a3;have := qHH c2;rw [q1] at this;exact ⟨this, next a2 a4⟩
      ·cases e2
    ·rename_i hne;obtain ⟨v, h', a1, a2, a3⟩ := q12 ho q2 e2;rw [q1] at a1
     have hpe : fV P tab (qXR T) (qG nm o.dst) o (qB env) (qD h.l) = .ok v.enc (qD h'.l) := by
      unfold fV;split
      ·rename_i f args ts hop; exact absurd hop (hne f args ts)
      ·rw [a1]; rfl
     rw [hpe, qM0];exact chk a2 a3
   ·rw [hw, qUR];have ih := qDX ht hci hy ho (wR (d := o.dst) (v := .tup []) q2 (by simp [SV.ok, okL])) e1;rw [jL, q1] at ih;simp only [SV.enc, qB] at ih;exact xU (fun g e p ⟨env', h', b1, b2, b3, b4⟩ => ⟨env', h', b1, b2, Ends.step q1 q3 (.refl _) b3, b4⟩) ih
def qT6 (P : Program) (T : jE) (nm : Nm) (ds : List (Option Tmp)) (b : DB) (q9I : List SV) : Nat -> List Oper -> List SV -> SH -> List (Nat × List Nat) -> List (Nat × List Nat) -> List (Nat × Nat) -> List (Nat × PV) -> (List SV -> SH -> q9D R) -> q9D R
 | i, [], env, h, E, F, N, V, K => cond (dN b (qB q9I) E F N V) (K env h) .fail
 | i, o :: l, env, h, E, F, N, V, K => sO ds o env
    (fun env => cond (cond (needs o.op) (inP nm (qG nm o.dst) && qK0 (qG nm o.dst) h.l) true) (qYN P T true (qG nm o.dst) o env h fun v h' =>
      qT6 P T nm ds b q9I (i + 1) l (dH env o.dst v) h' (cond (qQ o) ((i, wlT nm o (qB env)) :: E) E) (cond (qQ o) F ((i, dlT o (qB env)) :: F)) (cond (needs o.op) ((i, qG nm o.dst) :: N) N) ((i, v.enc) :: V) K) .fail)
    (fun env => qT6 P T nm ds b q9I (i + 1) l (dH env o.dst (.tup [])) h E F N ((i, .tup []) :: V) K)
theorem qD3 {T : jE} (ht : qPV tab T) {ds : List (Option Tmp)} {b : DB} {q9I : List SV} : ∀ {l : List Oper} {i : Nat} {env : List SV} {h : SH} {E F : List (Nat × List Nat)} {N : List (Nat × Nat)} {V : List (Nat × PV)} {K : List SV -> SH -> q9D R}, OkH P h -> okL h env -> (qT6 P T nm ds b q9I i l env h E F N V K).run = some r ->
 (qII P tab nm ds b (qB q9I) i l (qB env) (qD h.l) E F N V).holds P G fun e p => ∃ env' h', e = qB env' ∧ p = qD h'.l ∧ Ends P (l.map (·.dst)) env h env' h' ∧ (K env' h').run = some r
 | [], i, env, h, E, F, N, V, K, ho, he, e => by
   unfold qT6 at e;obtain ⟨c, e1⟩ := qE e;rw [qXL];exact ⟨c, env, h, rfl, rfl, ⟨he, ho, .refl _, fun _ _ => rfl, rfl⟩, e1⟩
 | o :: l, i, env, h, E, F, N, V, K, ho, he, e => by
   unfold qT6 at e;obtain ⟨q9L, q1, q2, q3, q4⟩ := oP he e;rw [qUQ]
   rcases q4 with ⟨hw, e1⟩ | ⟨hw, e1⟩
   ·rw [hw, qSC];obtain ⟨c, e2⟩ := qE e1;obtain ⟨v, h', a1, a2, a3⟩ := qH3 ht ho q2 e2;rw [q1] at a1;rw [a1, qST];have ih := qD3 ht a2.2.1 (wR (d := o.dst) (qK a2.1 q2) a2.2.2) a3;rw [jL, q1] at ih;have ih2 := q9Q (Q' := fun e p => ∃ env' h', e = qB env' ∧ p = qD h'.l ∧ Ends P ((o :: l).map (·.dst)) env h env' h' ∧ (K env' h').run = some r) (fun e p ⟨env', h', b1, b2, b3, b4⟩ => ⟨env', h', b1, b2, Ends.step q1 q3 a2.1 b3, b4⟩) ih;unfold qB2
    cases hn : needs o.op with
    | false => rw [hn] at ih2; exact ih2
    | true =>
      rw [hn] at c ih2;simp only [cond_true] at c ⊢;refine ⟨?_, ih2⟩;rw [zI5] at c;rw [c.1, vY c.2]; rfl
   ·rw [hw, qQB];have ih := qD3 ht ho (wR (d := o.dst) (v := .tup []) q2 (by simp [SV.ok, okL])) e1;rw [jL, q1] at ih;simp only [SV.enc, qB] at ih;exact q9Q (fun e p ⟨env', h', b1, b2, b3, b4⟩ => ⟨env', h', b1, b2, Ends.step q1 q3 (.refl _) b3, b4⟩) ih
def qIA (R : List Nat) (l : List (Nat × SO)) : List (Nat × SO) := R.filterMap fun k => (slk k l).map fun o => (k, o)
theorem qAD {l : List (Nat × SO)} : ∀ (R : List Nat), qD (qIA R l) = aG R (qD l)
 | [] => rfl
 | k :: R => by
   have ih := qAD (l := l) R;unfold qIA aG at ih ⊢;rw [zM8, zM8, uM]
   cases hk : slk k l with
   | none => simp only [zM3]; exact ih
   | some o =>
     simp only [zJJ];show (k, o.enc) :: qD _ = _;rw [ih]
def q7X (b : Array Nat) (h0 : List (Nat × SO)) (q9I : List PV) (E F : List (Nat × List Nat)) (N : List (Nat × Nat)) (V : List (Nat × PV)) (O : List (Nat × List (Nat × SO))) : Bool :=
 (E.all fun e => (E ++ F).all fun f => Nat.beq e.1 f.1 || (qOV b e.1 f.1 || f.2.all fun l => !e.2.contains l)) &&
   N.all fun n => zR n.2 q9I && (qK0 n.2 h0 && ((V.all fun v => Nat.beq v.1 n.1 || (jX b n.1 v.1 || noK n.2 v.2)) && O.all fun c => Nat.beq c.1 n.1 || (jX b n.1 c.1 || qK0 n.2 c.2)))
def qWI (O : List (Nat × List (Nat × SO))) : List (Nat × PHp) := O.map fun c => (c.1, qD c.2)
theorem q2O {b : Array Nat} {h0 : List (Nat × SO)} {q9I : List PV} {E F : List (Nat × List Nat)} {N : List (Nat × Nat)} {V : List (Nat × PV)} {O : List (Nat × List (Nat × SO))} (h : q7X b h0 q9I E F N V O = true) : q38 b (qD h0) q9I E F N V (qWI O) = true := by
 unfold q7X at h;unfold q38;rw [zI5] at h ⊢;refine ⟨h.1, zI8.2 fun n hn => ?_⟩;have h2 := zI8.1 h.2 n hn;rw [zI5, zI5, zI5] at h2 ⊢;refine ⟨h2.1, vY h2.2.1, h2.2.2.1, zI8.2 fun c hc => ?_⟩;obtain ⟨c0, hc0, rfl⟩ := zJX.1 hc;have h3 := zI8.1 h2.2.2.2 c0 hc0;rw [zKC, zKC] at h3 ⊢;rcases h3 with h | h | h
 ·exact .inl h
 ·exact .inr (.inl h)
 ·exact .inr (.inr (vY h))
def q1U (l : List (Nat × SO)) : PV -> Bool
 | .own k _ _ _ => (match slk k l with
   | some (.list _ _ _ _ _ _) => true
   | _ => false)
 | x => qIM x
theorem qXA {l : List (Nat × SO)} {x : PV} (h : q1U l x = true) : qHZ (qD l) x = true := by
 cases x with
 | own k t o n =>
   unfold q1U at h;unfold qHZ;simp only at h ⊢;rw [uM];split at h
   ·rename_i el gr g w u xs hk;rw [hk];simp only [zJJ];show (((List.flatMap u.cells xs).map PV.f).all qQP) = true;rw [zI8];intro z hz;obtain ⟨y, _, rfl⟩ := zJX.1 hz;rfl
   ·cases h
 | _ => exact h
def q1C (o : Oper) (env : List PV) : Bool := match o.op with
 | .call ⟨.value f, args, _⟩ => (match target (qI env f) (args.toList.map (qI env)) with
   | some (g, _) => (match Frs.fr g with
     | none => true
     | some _ => false)
   | none => true)
 | _ => true
theorem qYC {env : List PV} (h : q1C o env = true) : pfr o env = none := by
 cases hp : pfr o env with
 | none => rfl
 | some q =>
   obtain ⟨el, n, cs⟩ := q;obtain ⟨f, args, ts, g, hop, ht, hg⟩ := qLD hp;unfold q1C at h;rw [hop] at h;simp only [ht, hg] at h;cases h
def sfr (o : Oper) (env : List SV) : Option SV := match o.op with
 | .call ⟨.value f, args, _⟩ => (match qBT (xH env f) (dS env args) with
   | some (g, [.d (.list el t) xs]) => (match Frs.fr g with
     | some el' => cond (Nat.beq el el') (some (.d (.list el t) xs)) none
     | none => none)
   | _ => none)
 | _ => none
theorem q5J {x : SV} (he : okL h env) (e : sfr o env = some x) : ∃ el t, ∃ xs : List (Ty.sem t), x = .d (.list el t) xs ∧ pfr o (qB env) = some (el, xs.length, xs.flatMap t.cells) := by
 unfold sfr at e;split at e
 case h_2 => cases e
 rename_i f args ts hop;split at e
 case h_2 => cases e
 rename_i g el t xs hst;split at e
 case h_2 => cases e
 rename_i el' hg
 cases hc : Nat.beq el el' with
 | false => rw [hc] at e; cases e
 | true =>
   rw [hc] at e;cases e;obtain ⟨h1, _⟩ := oD (oU he f) (bL he args) hst;refine ⟨el, t, xs, rfl, ?_⟩;unfold pfr;rw [hop];simp only [qL, aK, h1, qB, SV.enc, Ty.fv, hg, hc, cond_true]
def frT (P : Program) (el : TypeId) (w : Nat) (t : Ty) : Bool := match szT P el, t with
 | some (s + 1), .int k => Nat.beq w (s + 1) && (kF P el && decide (k = Frs.fk))
 | _, _ => false
theorem qS6 {k : IntKind} : ∀ (xs : List Int), (List.flatMap (Ty.int k).cells xs).all (isK k) = true
 | [] => rfl
 | x :: xs => by
   rw [zJZ, zMJ, qS6 xs];simp [Ty.cells, isK]
theorem qZJ {t : Ty} {xs : List t.sem} (h : frT P el t.w t = true) (hn : Nat.ble xs.length 1048576 = true) : qVS P el xs.length (xs.flatMap t.cells) = true := by
 unfold frT at h;unfold qVS;split at h
 ·rename_i s k hs;rw [zI5, zI5] at h;have hw := zI6 h.1;have hk : k = Frs.fk := of_decide_eq_true h.2.2;subst hk;rw [hs];have h1 : (List.flatMap (Ty.int Frs.fk).cells xs).length = xs.length * (s + 1) := by rw [yM, hw]
  have h2 : (List.flatMap (Ty.int Frs.fk).cells xs).all (isK Frs.fk) = true := qS6 xs;show (Nat.beq (xs.length * (s + 1)) (List.flatMap (Ty.int Frs.fk).cells xs).length && (Nat.ble xs.length 1048576 && (kF P el && (List.flatMap (Ty.int Frs.fk).cells xs).all (isK Frs.fk)))) = true;rw [h1, h2, hn, h.2.1, Nat.beq_refl];rfl
 ·cases h
theorem q65 {w : Nat} {t : Ty} (h : frT P el w t = true) : szT P el = some w ∧ 0 < w := by
 unfold frT at h;split at h
 ·rename_i s k hs;rw [zI5] at h;have hw := zI6 h.1;rw [hw];exact ⟨hs, Nat.succ_pos _⟩
 ·cases h
def qFD (P : Program) (T : jE) (nm : Nm) (ds : List (Option Tmp)) (b : Array Nat) (q9I : List SV) (h0 : SH) : Nat -> List Oper -> List SV -> SH -> List (Nat × List Nat) -> List (Nat × List Nat) -> List (Nat × Nat) -> List (Nat × PV) -> List (Nat × List (Nat × SO)) -> (List SV -> SH -> q9D R) -> q9D R
 | i, [], env, h, E, F, N, V, O, K => cond (q7X b h0.l (qB q9I) E F N V O) (K env h) .fail
 | i, o :: l, env, h, E, F, N, V, O, K => sO ds o env
    (fun env => match sfr o env with
      | some (.d (.list el t) xs) => cond (frT P el t.w t && inP nm (qG nm o.dst)) (.ite (Nat.beq xs.length 0)
         (qFD P T nm ds b q9I h0 (i + 1) l (dH env o.dst (.d (.list el t) [])) h E ((i, dlC o (qB env)) :: F) N ((i, .f (.l el 0 [])) :: V) O K)
         (.ite (Nat.ble xs.length 1048576)
           (qFD P T nm ds b q9I h0 (i + 1) l (dH env o.dst (.own (qG nm o.dst) h.next xs.length)) (h.new (qG nm o.dst) fun v => .list el true v v t xs) ((i, [qG nm o.dst]) :: E) F ((i, qG nm o.dst) :: N) ((i, .own (qG nm o.dst) xs.length 0 xs.length) :: V)
             ((i, qIA [qG nm o.dst] (h.new (qG nm o.dst) fun v => .list el true v v t xs).l) :: O) K) .fail)) .fail
      | some _ => .fail
      | none => cond ((q1C o (qB env) && (okE o || (!qQ o || dO o))) && ((qAU o (qB env)).all (q1U h.l) && cond (needs o.op) (inP nm (qG nm o.dst)) true)) (qYN P T true (qG nm o.dst) o env h fun v h' =>
      qFD P T nm ds b q9I h0 (i + 1) l (dH env o.dst v) h' (cond (okE o) ((i, RC o (qG nm o.dst) (qB env)) :: E) E) (cond (okE o) F ((i, dlC o (qB env)) :: F)) (cond (needs o.op) ((i, qG nm o.dst) :: N) N) ((i, v.enc) :: V) (cond (okE o) ((i, qIA (RC o (qG nm o.dst) (qB env)) h'.l) :: O) O) K) .fail)
    (fun env => qFD P T nm ds b q9I h0 (i + 1) l (dH env o.dst (.tup [])) h E F N ((i, .tup []) :: V) O K)
theorem nS {T : jE} (ht : qPV tab T) {ds : List (Option Tmp)} {b : Array Nat} {q9I : List SV} {h0 : SH} : ∀ {l : List Oper} {i : Nat} {env : List SV} {h : SH} {E F : List (Nat × List Nat)} {N : List (Nat × Nat)} {V : List (Nat × PV)} {O : List (Nat × List (Nat × SO))} {K : List SV -> SH -> q9D R}, OkH P h -> okL h env -> (qFD P T nm ds b q9I h0 i l env h E F N V O K).run = some r ->
 (qHA P tab nm ds b (qB q9I) (qD h0.l) i l (qB env) (qD h.l) E F N V (qWI O)).holds P G fun e p => ∃ env' h', e = qB env' ∧ p = qD h'.l ∧ Ends P (l.map (·.dst)) env h env' h' ∧ (K env' h').run = some r
 | [], i, env, h, E, F, N, V, O, K, ho, he, e => by
   unfold qFD at e;obtain ⟨c, e1⟩ := qE e;exact ⟨q2O c, env, h, rfl, rfl, ⟨he, ho, .refl _, fun _ _ => rfl, rfl⟩, e1⟩
 | o :: l, i, env, h, E, F, N, V, O, K, ho, he, e => by
   unfold qFD at e;obtain ⟨q9L, q1, q2, q3, q4⟩ := oP he e;unfold qHA jP
   rcases q4 with ⟨hw, e1⟩ | ⟨hw, e1⟩
   ·rw [hw];simp only;split at e1
    ·rename_i el t xs hsf;obtain ⟨el', t', xs', hx, hpf⟩ := q5J q2 hsf;cases hx;rw [q1] at hpf;obtain ⟨c, e2⟩ := qE e1;rw [zI5] at c;obtain ⟨p1, p2⟩ := qIY hpf
     rcases run_ite e2 with ⟨z, e3⟩ | ⟨z, e3⟩
     ·have z0 : xs = [] := List.eq_nil_of_length_eq_zero (zI6 z);subst z0;have hfr : qGK o (qB env) = false := by unfold qGK; rw [hpf]; rfl
      have zCX : okF o (qB env) = false := by unfold okF; rw [p1, hfr]; rfl
      have zCY : ndF o (qB env) = false := by unfold ndF; rw [p2, hfr]; rfl
      rw [mK hpf (qZJ c.1 rfl)];simp only [zCX, zCY, cond_false];unfold qB2;simp only [cond_false];have ih := nS ht ho (wR (d := o.dst) (v := .d (.list el t) []) q2 (by simp [SV.ok])) e3;rw [jL, q1] at ih;exact q9Q (Q' := fun e p => ∃ env' h', e = qB env' ∧ p = qD h'.l ∧ Ends P ((o :: l).map (·.dst)) env h env' h' ∧ (K env' h').run = some r) (fun e p ⟨env', h', b1, b2, b3, b4⟩ => ⟨env', h', b1, b2, Ends.step q1 q3 (.refl _) b3, b4⟩) ih
     ·rcases run_ite e3 with ⟨z2, e4⟩ | ⟨z2, e4⟩
      ·cases hn : xs.length with
       | zero => rw [hn] at z; cases z
       | succ n =>
       rw [hn] at hpf;have hfr : qGK o (qB env) = true := by unfold qGK; rw [hpf]
       have zCX : okF o (qB env) = true := by unfold okF; rw [hfr, Bool.or_true]
       have zCY : ndF o (qB env) = true := by unfold ndF; rw [hfr, Bool.or_true]
       have hRF : RF o (qG nm o.dst) (qB env) = [qG nm o.dst] := by unfold RF; rw [hfr]; rfl
       have hfo := qZJ c.1 z2;rw [hn] at hfo;rw [mK hpf hfo];simp only [zCX, zCY, hRF, cond_true];unfold qB2;simp only [cond_true];have hnw := xW (k := qG nm o.dst) (f := fun v => .list el true v v t xs) ho ⟨rfl, rfl, q65 c.1⟩;have ih := nS ht hnw.2 (wR (d := o.dst) (v := .own (qG nm o.dst) h.next xs.length) (qK hnw.1 q2) (vS rfl)) e4;rw [jL, q1] at ih;have ih2 := q9Q (Q' := fun e p => ∃ env' h', e = qB env' ∧ p = qD h'.l ∧ Ends P ((o :: l).map (·.dst)) env h env' h' ∧ (K env' h').run = some r) (fun e p ⟨env', h', b1, b2, b3, b4⟩ => ⟨env', h', b1, b2, Ends.step q1 q3 hnw.1 b3, b4⟩) ih
       have eO : qWI ((i, qIA [qG nm o.dst] (h.new (qG nm o.dst) fun v => .list el true v v t xs).l) :: O) = (i, aG [qG nm o.dst] (qD (h.new (qG nm o.dst) fun v => .list el true v v t xs).l)) :: qWI O := by
        show (i, qD (qIA _ _)) :: qWI O = _;rw [qAD]
       rw [eO] at ih2;simp only [SV.enc, hn] at ih2;exact ⟨c.2, ih2⟩
      ·cases e4
    ·cases e1
    rename_i hsf;obtain ⟨c, e2⟩ := qE e1;rw [zI5, zI5, zI5] at c;have hpf : pfr o (qB env) = none := by rw [<- q1]; exact qYC c.1.1
    have hfr : qGK o (qB env) = false := by unfold qGK; rw [hpf]
    have zCX : okF o (qB env) = okE o := by unfold okF; rw [hfr, zMT]
    have zCY : ndF o (qB env) = needs o.op := by unfold ndF; rw [hfr, zMT]
    have hRF : RF o (qG nm o.dst) (qB env) = RC o (qG nm o.dst) (qB env) := by unfold RF; rw [hfr]; rfl
    obtain ⟨v, h', a1, a2, a3⟩ := qH3 ht ho q2 e2;rw [q1] at a1;have c2 : wT o (qB env) (qD h.l) = true := zI8.2 fun x hx => qXA (zI8.1 c.2.1 x (by rw [q1]; exact hx))
    rw [nJ hpf a1 c.1.2 c2];simp only [zCX, zCY, hRF];have ih := nS ht a2.2.1 (wR (d := o.dst) (qK a2.1 q2) a2.2.2) a3;rw [jL, q1] at ih;have ih2 := q9Q (Q' := fun e p => ∃ env' h', e = qB env' ∧ p = qD h'.l ∧ Ends P ((o :: l).map (·.dst)) env h env' h' ∧ (K env' h').run = some r) (fun e p ⟨env', h', b1, b2, b3, b4⟩ => ⟨env', h', b1, b2, Ends.step q1 q3 a2.1 b3, b4⟩) ih
    have eO : qWI (cond (okE o) ((i, qIA (RC o (qG nm o.dst) (qB env)) h'.l) :: O) O) = cond (okE o) ((i, aG (RC o (qG nm o.dst) (qB env)) (qD h'.l)) :: qWI O) (qWI O) := by
     cases okE o with
     | false => rfl
     | true =>
       show (i, qD (qIA _ _)) :: qWI O = _;rw [qAD]; rfl
    rw [eO] at ih2;unfold qB2
    cases hn : needs o.op with
    | false => rw [hn] at ih2; exact ih2
    | true =>
      have c3 := c.2.2;rw [hn] at c3 ih2;simp only [cond_true] at c3 ⊢;exact ⟨c3, ih2⟩
   ·rw [hw];simp only;have ih := nS ht ho (wR (d := o.dst) (v := .tup []) q2 (by simp [SV.ok, okL])) e1;rw [jL, q1] at ih;simp only [SV.enc, qB] at ih;exact q9Q (fun e p ⟨env', h', b1, b2, b3, b4⟩ => ⟨env', h', b1, b2, Ends.step q1 q3 (.refl _) b3, b4⟩) ih
def qOL (ops : Array Oper) : Bool := match ops[ops.size - 1]? with
 | some o => (match o.op with
   | .call ⟨.value _, _, _⟩ => (List.range (ops.size - 1)).all fun i => jX (Region.before ops) i (ops.size - 1)
   | _ => false)
 | none => false
def q7D {Γ : Type} (P : Program) (G : Nat -> Bool) (T : jE) (CI : CIT) (Y : YI Γ) (nm : Nm) (ops : Array Oper) (d : Bool) (g : Γ) (env : List SV) (h : SH) (K : Γ -> List SV -> SH -> q9D R) : q9D R :=
 cond (wS G ops) (cond d (cond (gW ops && gX ops) (cond (qOL ops)
  (qT6 P T nm (ops.toList.map (·.dst)) (dBo ops) env 0 (ops.toList.take (ops.size - 1)) env h [] [] [] [] fun env h => qVR P T CI Y nm (ops.toList.map (·.dst)) (ops.toList.drop (ops.size - 1)) g env h K)
  (qT6 P T nm (ops.toList.map (·.dst)) (dBo ops) env 0 ops.toList env h [] [] [] [] (K g))) (cond (tC ops) (qFD P T nm (ops.toList.map (·.dst)) (Region.before ops) env h 0 ops.toList env h [] [] [] [] [] (K g)) .fail)) (qVR P T CI Y nm (ops.toList.map (·.dst)) ops.toList g env h K)) .fail
variable {nat : yV} {good : FuncId -> Bool} {rd : Bool}
theorem q3Q [q93 P G] {Γ : Type} {w : Wld Γ} {T : jE} {CI : CIT} {Y : YI Γ} (s : q97 P good nat G tab) (ht : qPV tab T) (hci : qZV P G CI) (hy : YOk P G w Y) {id : Nat} {ops : Array Oper} {d : Bool} {g : Γ} {K : Γ -> List SV -> SH -> q9D R} (ho : OkH P h) (he : okL h env) (e : (q7D P G T CI Y nm ops d g env h K).run = some r) :
 qO P G rd nm w (.region id ops d) g (qB env) (qD h.l) fun x g' pe ph => x = .normal ∧ ∃ env' h', pe = qB env' ∧ ph = qD h'.l ∧ Ends P (ops.toList.map (·.dst)) env h env' h' ∧ (K g' env' h').run = some r := by
 unfold q7D at e;obtain ⟨c1, e1⟩ := qE e
 cases d with
 | true =>
   cases hc2 : (gW ops && gX ops) with
   | false =>
     rw [hc2] at e1;obtain ⟨c3, e2⟩ := qE (show (cond (tC ops) (qFD P T nm (ops.toList.map (·.dst)) (Region.before ops) env h 0 ops.toList env h [] [] [] [] [] (K g)) .fail : q9D R).run = some r from e1);refine (qO.of (s.zGS (Q := fun x pe ph => x = .normal ∧ ∃ env' h', pe = qB env' ∧ ph = qD h'.l ∧ Ends P (ops.toList.map (·.dst)) env h env' h' ∧ (K g env' h').run = some r) c1 c3 ?_)).mono ?_
     ·exact q9Q (fun e p hq => ⟨rfl, hq⟩) (nS (G := G) (O := []) ht ho he e2)
     ·rintro x g' pe ph ⟨rfl, hq⟩;exact hq
   | true =>
   have c2 := hc2;rw [hc2] at e1
   have e2 : (cond (qOL ops)
    (qT6 P T nm (ops.toList.map (·.dst)) (dBo ops) env 0 (ops.toList.take (ops.size - 1)) env h [] [] [] [] fun env h => qVR P T CI Y nm (ops.toList.map (·.dst)) (ops.toList.drop (ops.size - 1)) g env h K)
    (qT6 P T nm (ops.toList.map (·.dst)) (dBo ops) env 0 ops.toList env h [] [] [] [] (K g)) : q9D R).run = some r := e1
   rw [zI5] at c2
   cases hlo : qOL ops with
   | false =>
     rw [hlo] at e2;have e2 : (qT6 P T nm (ops.toList.map (·.dst)) (dBo ops) env 0 ops.toList env h [] [] [] [] (K g)).run = some r := e2;refine (qO.of (s.zGM (Q := fun x pe ph => x = .normal ∧ ∃ env' h', pe = qB env' ∧ ph = qD h'.l ∧ Ends P (ops.toList.map (·.dst)) env h env' h' ∧ (K g env' h').run = some r) c1 c2.1 c2.2 rfl rfl ?_)).mono ?_
     ·exact q9Q (fun e p hq => ⟨rfl, hq⟩) (qD3 (G := G) ht ho he e2)
     ·rintro x g' pe ph ⟨rfl, hq⟩;exact hq
   | true =>
     rw [hlo] at e2;have e2 : (qT6 P T nm (ops.toList.map (·.dst)) (dBo ops) env 0 (ops.toList.take (ops.size - 1)) env h [] [] [] [] fun env h => qVR P T CI Y nm (ops.toList.map (·.dst)) (ops.toList.drop (ops.size - 1)) g env h K).run = some r := e2;unfold qOL at hlo;split at hlo
     ·rename_i o hop;split at hlo
      ·have hlt := (zJG.1 hop).1
       have hdrop : ops.toList.drop (ops.size - 1) = [o] := by
        have h1 : ops.toList[ops.size - 1]? = some o := by simpa using hop
        obtain ⟨h2, h3⟩ := zJA.1 h1;rw [zLR h2, h3, List.drop_eq_nil_of_le (by simp; omega)]
       have hmap : (ops.toList.take (ops.size - 1)).map (·.dst) ++ [o.dst] = ops.toList.map (·.dst) := by
        rw [show [o.dst] = [o].map (·.dst) from rfl, <- zJ9, <- hdrop, zMY]
       refine s.zGP (inl := qXR T) (n0 := ops.size - 1) c1 c2.1 c2.2 hop (by omega) (fun i hi => zI8.1 hlo i (zLW.2 hi)) ?_;refine q9Q (fun e p hq => ?_) (qD3 (G := G) ht ho he e2);obtain ⟨q9L, h1, rfl, rfl, a3, a4⟩ := hq;rw [hdrop] at a4;refine xU (fun g2 e p hq => ?_) (qDX (G := G) ht hci hy a3.2.1 a3.1 a4);obtain ⟨q94, h2, rfl, rfl, b3, b4⟩ := hq;refine ⟨rfl, q94, h2, rfl, rfl, ⟨b3.1, b3.2.1, a3.2.2.1.trans b3.2.2.1, fun i hi => ?_, b3.2.2.2.2.trans a3.2.2.2.2⟩, b4⟩;rw [<- hmap, zKI, not_or] at hi;exact (b3.2.2.2.1 i hi.2).trans (a3.2.2.2.1 i hi.1)
      ·cases hlo
     ·cases hlo
 | false => exact s.zGO c1 (xU (fun g e p hq => ⟨rfl, hq⟩) (qDX (G := G) ht hci hy ho he e1))
end
end Go.Sv
