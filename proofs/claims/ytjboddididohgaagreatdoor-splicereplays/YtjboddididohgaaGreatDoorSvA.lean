/- A symbolic run, part one. Conditions: none. -/
import Derived.Test.YtjboddididohgaaGreatDoorPur23
set_option linter.all false
namespace Go.Sv
open Go.Idl
variable {el : TypeId} {j n off : Nat} {k : IntKind}
class Yl where
 l : Nat
variable [Gc]
variable {P : Program} {Z Z' : Nat -> Prop} {H : IH} {M : Nat -> Option (Nat × PO)}
inductive Ty where
 | int (k : IntKind)
 | bool
 | str
 | unit
 | list (el : TypeId) (t : Ty)
 | pair (a b : Ty)
 | raw
 | ol (el : TypeId) (k : IntKind)
 | nif deriving DecidableEq
@[reducible] def Ty.sem : Ty -> Type
  | .int _ => Int
  | .bool => Bool
  | .str => ByteArray
  | .unit => Unit
  | .list _ t => List t.sem
  | .pair a b => a.sem × b.sem
  | .raw => List (Value × Value)
  | .ol _ _ => List Int
  | .nif => Unit
def bT (l : List (Value × Value)) : List FV := List.flatMap (fun p => [.v p.1, .v p.2]) l
def fvo (el : TypeId) (k : IntKind) : List Int -> FV
 | [] => .v (.slice none 0 0)
 | x :: xs => .l el (xs.length + 1) (List.flatMap (fun i => [FV.v (.int k i)]) (x :: xs))
def Ty.cells : (t : Ty) -> t.sem -> List FV
 | .int k, x => [.v (.int k x)]
 | .bool, x => [.v (.bool x)]
 | .str, x => [.v (.string x)]
 | .unit, _ => []
 | .list el t, xs => [.l el (List.length xs) (List.flatMap t.cells xs)]
 | .pair a b, x => a.cells x.1 ++ b.cells x.2
 | .raw, xs => [.l 1000000001 (List.length xs) (bT xs)]
 | .ol el k, xs => [fvo el k xs]
 | .nif, _ => [.v .nilIface]
def Ty.w : Ty -> Nat
 | .int _ | .bool | .str | .list _ _ | .raw | .ol _ _ | .nif => 1
 | .unit => 0
 | .pair a b => a.w + b.w
def Ty.nol : Ty -> Bool
 | .ol _ _ => false
 | .pair a b => a.nol && b.nol
 | _ => true
def Ty.one : Ty -> Bool
 | .unit => false
 | .pair _ _ => false
 | _ => true
def Ty.fv : (t : Ty) -> t.sem -> FV
 | .int k, x => .v (.int k x)
 | .bool, x => .v (.bool x)
 | .str, x => .v (.string x)
 | .list el t, xs => .l el (List.length xs) (List.flatMap t.cells xs)
 | .raw, xs => .l 1000000001 (List.length xs) (bT xs)
 | .ol el k, xs => fvo el k xs
 | .nif, _ => .v .nilIface
 | _, _ => .v undef
theorem Ty.cells_one : ∀ {t : Ty} {x : t.sem}, t.one = true -> t.cells x = [t.fv x]
 | .int _, _, _ => rfl
 | .bool, _, _ => rfl
 | .str, _, _ => rfl
 | .list _ _, _, _ => rfl
 | .raw, _, _ => rfl
 | .ol _ _, _, _ => rfl
 | .nif, _, _ => rfl
 | .unit, _, h => by cases h
 | .pair _ _, _, h => by cases h
theorem Ty.zAI : ∀ (t : Ty) (x : t.sem), (t.cells x).length = t.w
 | .int _, _ => rfl
 | .bool, _ => rfl
 | .str, _ => rfl
 | .list _ _, _ => rfl
 | .raw, _ => rfl
 | .ol _ _, _ => rfl
 | .nif, _ => rfl
 | .unit, _ => rfl
 | .pair a b, x => by
   show (a.cells x.1 ++ b.cells x.2).length = a.w + b.w;rw [zKW, a.zAI, b.zAI]
theorem yR {t : Ty} : ∀ (xs : List t.sem), (xs.flatMap t.cells).length = xs.length * t.w
 | [] => by simp
 | x :: xs => by rw [zKZ, zKW, t.zAI, yR xs, zKO, zMN, zMZ]
theorem fP {t : Ty} : ∀ (xs : List t.sem) (j : Nat), (xs.flatMap t.cells).drop (j * t.w) = (xs.drop j).flatMap t.cells
 | xs, 0 => by simp
 | [], j + 1 => by simp
 | x :: xs, j + 1 => by
   rw [zKZ, List.drop_succ_cons, <- fP xs j, zMN, zMZ, <- zNM]
   congr 1
   rw [List.drop_append_of_le_length (by rw [t.zAI]; exact zJ7 _), List.drop_of_length_le (by rw [t.zAI]; exact zJ7 _), List.nil_append]
theorem nH {t : Ty} : ∀ (xs : List t.sem) (j : Nat), (xs.flatMap t.cells).take (j * t.w) = (xs.take j).flatMap t.cells
 | xs, 0 => by simp
 | [], j + 1 => by simp
 | x :: xs, j + 1 => by
   rw [zKZ, zLZ, zKZ, <- nH xs j, zMN, zMZ, List.take_append, t.zAI, zNN, zK7 (by rw [t.zAI]; omega)]
theorem qSQ {t : Ty} {xs : List t.sem} {x : t.sem} (h : xs[j]? = some x) : ((xs.flatMap t.cells).drop (j * t.w)).take t.w = t.cells x := by
 rw [fP]
 have hj := (zKA.1 h)
 obtain ⟨hl, hx⟩ := hj;rw [zMU hl, hx, zKZ, List.take_append_of_le_length (by rw [t.zAI]; exact zJ7 _), zK7 (by rw [t.zAI]; exact zJ7 _)]
theorem qI8 {t : Ty} {xs : List t.sem} {x : t.sem} (h : xs[j]? = some x) (hn : off + n <= t.w) : ((xs.flatMap t.cells).drop (j * t.w + off)).take n = ((t.cells x).drop off).take n := by
 rw [<- qSQ h, List.drop_take, zNM, zOB, zL4 (by omega)]
theorem flat_get {t : Ty} {xs : List t.sem} {x : t.sem} (h : xs[j]? = some x) (hn : off < t.w) : (xs.flatMap t.cells)[j * t.w + off]? = (t.cells x)[off]? := by
 rw [<- qSQ h, zLI, if_pos hn, zLN]
theorem qFC {t : Ty} {xs : List t.sem} {x : t.sem} (h : xs[j]? = some x) (hn : off + n <= t.w) : j * t.w + off + n <= (xs.flatMap t.cells).length := by
 have hl := (zKA.1 h).1;rw [yR];have : (j + 1) * t.w <= xs.length * t.w := zLP _ hl;rw [zMN] at this;omega
theorem qHV : ∀ (xs ys : List (Value × Value)), bT xs = bT ys -> xs = ys
 | [], [], _ => rfl
 | [], y :: ys, h => by cases h
 | x :: xs, [], h => by cases h
 | x :: xs, y :: ys, h => by
   have h : FV.v x.1 :: FV.v x.2 :: bT xs = FV.v y.1 :: FV.v y.2 :: bT ys := h;injection h with h1 h2;injection h2 with h2 h3;injection h1 with h1;injection h2 with h2;rw [qHV xs ys h3, Prod.ext h1 h2]
theorem qBG : ∀ (xs : List (Value × Value)), (bT xs).length = 2 * xs.length
 | [] => rfl
 | x :: xs => by
   show (bT xs).length + 2 = _;rw [qBG xs, zKO]; omega
theorem qO1 : ∀ (xs ys : List (Value × Value)) (vs : List Value), FRL Z H (bT xs) vs -> FRL Z' H (bT ys) vs -> xs = ys
 | [], [], _, _, _ => rfl
 | [], y :: ys, vs, a, b => by have := a.len; have := b.len; simp [bT] at *; omega
 | x :: xs, [], vs, a, b => by have := a.len; have := b.len; simp [bT] at *; omega
 | x :: xs, y :: ys, vs, a, b => by
   have a : FRL Z H (FV.v x.1 :: FV.v x.2 :: bT xs) vs := a;have b : FRL Z' H (FV.v y.1 :: FV.v y.2 :: bT ys) vs := b;obtain ⟨v, vs', rfl, a1, a2⟩ := a.zAB;obtain ⟨v', vs2, e, b1, b2⟩ := b.zAB;cases e;obtain ⟨w, vs3, rfl, a3, a4⟩ := a2.zAB;obtain ⟨w', vs4, e, b3, b4⟩ := b2.zAB;cases e;have e1 := (qJ7 a1).symm.trans (qJ7 b1);have e2 := (qJ7 a3).symm.trans (qJ7 b3);rw [qO1 xs ys _ a4 b4, Prod.ext e1 e2]
theorem qNX {k : IntKind} : ∀ (xs ys : List Int), List.flatMap (fun i => [FV.v (.int k i)]) xs = List.flatMap (fun i => [FV.v (.int k i)]) ys -> xs = ys
 | [], [], _ => rfl
 | [], y :: ys, h => by simp at h
 | x :: xs, [], h => by simp at h
 | x :: xs, y :: ys, h => by
   have h : FV.v (.int k x) :: List.flatMap (fun i => [FV.v (.int k i)]) xs = FV.v (.int k y) :: List.flatMap (fun i => [FV.v (.int k i)]) ys := h;injection h with h1 h2;injection h1 with h1;injection h1 with _ h1;rw [h1, qNX xs ys h2]
theorem qOV (xs : List Int) : (List.flatMap (fun i => [FV.v (.int k i)]) xs).length = xs.length := by
 induction xs with
 | nil => rfl
 | cons x xs ih => rw [zKZ, zKW, ih]; simp; omega
theorem qG1 {k : IntKind} : ∀ (xs ys : List Int) (vs : List Value), FRL Z H (List.flatMap (fun i => [FV.v (.int k i)]) xs) vs -> FRL Z' H (List.flatMap (fun i => [FV.v (.int k i)]) ys) vs -> xs = ys
 | [], [], _, _, _ => rfl
 | [], y :: ys, vs, a, b => by have := a.len; have := b.len; simp at *; omega
 | x :: xs, [], vs, a, b => by have := a.len; have := b.len; simp at *; omega
 | x :: xs, y :: ys, vs, a, b => by
   have a : FRL Z H (FV.v (.int k x) :: List.flatMap (fun i => [FV.v (.int k i)]) xs) vs := a;have b : FRL Z' H (FV.v (.int k y) :: List.flatMap (fun i => [FV.v (.int k i)]) ys) vs := b;obtain ⟨v, vs', rfl, a1, a2⟩ := a.zAB;obtain ⟨v', vs2, e, b1, b2⟩ := b.zAB;cases e;have e1 := (qJ7 a1).symm.trans (qJ7 b1);injection e1 with _ e1;rw [qG1 xs ys _ a2 b2, e1]
theorem q29 : ∀ {xs ys : List Int}, fvo el k xs = fvo el k ys -> xs = ys
 | [], [], _ => rfl
 | [], _ :: _, h => by cases h
 | _ :: _, [], h => by cases h
 | x :: xs, y :: ys, h => by
   injection h with _ _ h;exact qNX _ _ h
theorem qX8 {v : Value} : ∀ {xs ys : List Int}, FR Z H (fvo el k xs) v -> FR Z' H (fvo el k ys) v -> xs = ys
 | [], [], _, _ => rfl
 | [], _ :: _, a, b => by have := qJ7 a; subst this; cases b
 | _ :: _, [], a, b => by have := qJ7 b; subst this; cases a
 | x :: xs, y :: ys, a, b => by
   obtain ⟨h1, ws, ws', h2, h3, h4⟩ := nN a b;have := h4 (by rw [qOV, qOV]; simpa using h1);subst this;exact qG1 _ _ ws h2 h3
theorem Ty.inj : ∀ (t : Ty) (x y : t.sem), t.cells x = t.cells y -> x = y
 | .int _, x, y, h => by injection h with h; injection h with h; injection h
 | .bool, x, y, h => by injection h with h; injection h with h; injection h
 | .str, x, y, h => by injection h with h; injection h with h; injection h
 | .unit, _, _, _ => rfl
 | .nif, _, _, _ => rfl
 | .ol el k, xs, ys, h => by
   injection h with h;exact q29 h
 | .raw, xs, ys, h => by
   injection h with h;injection h with _ h1 h2;exact qHV _ _ h2
 | .pair a b, x, y, h => by
   have := List.append_inj (show a.cells x.1 ++ b.cells x.2 = a.cells y.1 ++ b.cells y.2 from h) (by rw [a.zAI, a.zAI]);exact Prod.ext (a.inj _ _ this.1) (b.inj _ _ this.2)
 | .list el t, xs, ys, h => by
   injection h with h;injection h with _ h1 h2;exact go t xs ys h1 h2
where
 go (t : Ty) : ∀ (xs ys : List t.sem), xs.length = ys.length -> xs.flatMap t.cells = ys.flatMap t.cells -> xs = ys
 | [], [], _, _ => rfl
 | [], y :: ys, e, h => by cases e
 | x :: xs, [], e, h => by cases e
 | x :: xs, y :: ys, e, h => by
   rw [zKZ, zKZ] at h;have := List.append_inj h (by rw [t.zAI, t.zAI]);rw [t.inj x y this.1, go t xs ys (by simpa using e) this.2]
theorem Ty.uniq : ∀ (t : Ty) {x y : t.sem} {vs : List Value}, FRL Z H (t.cells x) vs -> FRL Z' H (t.cells y) vs -> x = y
 | .int k, x, y, vs, a, b => by
   obtain ⟨v, vs', rfl, a1, _⟩ := a.zAB;obtain ⟨v', vs2, e, b1, _⟩ := b.zAB;cases e;have := (qJ7 a1).symm.trans (qJ7 b1);injection this
 | .bool, x, y, vs, a, b => by
   obtain ⟨v, vs', rfl, a1, _⟩ := a.zAB;obtain ⟨v', vs2, e, b1, _⟩ := b.zAB;cases e;have := (qJ7 a1).symm.trans (qJ7 b1);injection this
 | .str, x, y, vs, a, b => by
   obtain ⟨v, vs', rfl, a1, _⟩ := a.zAB;obtain ⟨v', vs2, e, b1, _⟩ := b.zAB;cases e;have := (qJ7 a1).symm.trans (qJ7 b1);injection this
 | .unit, _, _, _, _, _ => rfl
 | .nif, _, _, _, _, _ => rfl
 | .ol el k, xs, ys, vs, a, b => by
   obtain ⟨v, vs', rfl, a1, _⟩ := a.zAB;obtain ⟨v', vs2, e, b1, _⟩ := b.zAB;cases e;exact qX8 a1 b1
 | .raw, xs, ys, vs, a, b => by
   obtain ⟨v, vs', rfl, a1, _⟩ := a.zAB;obtain ⟨v', vs2, e, b1, _⟩ := b.zAB;cases e;obtain ⟨h1, ws, ws', h2, h3, h4⟩ := nN a1 b1;have := h4 (by rw [qBG, qBG, h1]);subst this;exact qO1 xs ys ws h2 h3
 | .pair s t, x, y, vs, a, b => by
   obtain ⟨a1, a2⟩ := FRL.split (xs := s.cells x.1) (ys := t.cells x.2) a;obtain ⟨b1, b2⟩ := FRL.split (xs := s.cells y.1) (ys := t.cells y.2) b;rw [s.zAI] at a1 a2 b1 b2;exact Prod.ext (s.uniq a1 b1) (t.uniq a2 b2)
 | .list el t, xs, ys, vs, a, b => by
   obtain ⟨v, vs', rfl, a1, _⟩ := a.zAB;obtain ⟨v', vs2, e, b1, _⟩ := b.zAB;cases e;obtain ⟨h1, ws, ws', h2, h3, h4⟩ := nN a1 b1;have := h4 (by rw [yR, yR, h1]);subst this;exact go t xs ys ws h1 h2 h3
where
 go (t : Ty) : ∀ (xs ys : List t.sem) (vs : List Value), xs.length = ys.length -> FRL Z H (xs.flatMap t.cells) vs -> FRL Z' H (ys.flatMap t.cells) vs -> xs = ys
 | [], [], _, _, _, _ => rfl
 | [], y :: ys, vs, e, a, b => by cases e
 | x :: xs, [], vs, e, a, b => by cases e
 | x :: xs, y :: ys, vs, e, a, b => by
   rw [zKZ] at a b;obtain ⟨a1, a2⟩ := a.split;obtain ⟨b1, b2⟩ := b.split;rw [t.zAI] at a1 a2 b1 b2;rw [t.uniq a1 b1, go t xs ys _ (by simpa using e) a2 b2]
def Ty.pv (t : Ty) (x : t.sem) : PV := cond t.one (.f (t.fv x)) (.agg ((t.cells x).map .f))
def Ty.en (t : Ty) : PEn t.sem := ⟨t.pv, fun x y h => by
 unfold Ty.pv at h
 cases ht : t.one with
 | true =>
   rw [ht] at h;injection h with h;exact t.inj x y (by rw [Ty.cells_one ht, Ty.cells_one ht, h])
 | false =>
   rw [ht] at h;injection h with h
   exact t.inj x y (q6N _ _ h), fun P Z Z' H x y v a b => by
 unfold Ty.pv at a b
 cases ht : t.one with
 | true =>
   rw [ht] at a b
   cases a with
   | f a => cases b with
     | f b => exact t.uniq (vs := [v]) (by rw [Ty.cells_one ht]; exact .cons a ⟨rfl, fun i x v h => by simp at h⟩) (by rw [Ty.cells_one ht]; exact .cons b ⟨rfl, fun i x v h => by simp at h⟩)
 | false =>
   rw [ht] at a b;obtain ⟨vs, rfl, h1⟩ := VR.zCQ a;obtain ⟨vs', e, h2⟩ := VR.zCQ b;cases e
   exact t.uniq (qFV h1) (qFV h2)⟩
@[reducible] def TyL : List Ty -> Type
  | [] => Unit
  | [t] => t.sem
  | t :: u :: ts => t.sem × TyL (u :: ts)
def pvL : (ts : List Ty) -> TyL ts -> List PV
 | [], _ => []
 | [t], x => [t.pv x]
 | t :: u :: ts, x => t.pv x.1 :: pvL (u :: ts) x.2
theorem qRS : ∀ (ts : List Ty) (x y : TyL ts), pvL ts x = pvL ts y -> x = y
 | [], _, _, _ => rfl
 | [t], x, y, h => by injection h with h; exact t.en.inj x y h
 | t :: u :: ts, x, y, h => by
   injection h with h1 h2;exact Prod.ext (t.en.inj _ _ h1) (qRS (u :: ts) _ _ h2)
theorem qNH : ∀ (ts : List Ty) (x y : TyL ts) (vs : List Value), VRL P Z H (fun _ => none) (pvL ts x) vs -> VRL P Z' H (fun _ => none) (pvL ts y) vs -> x = y
 | [], _, _, _, _, _ => rfl
 | [t], x, y, vs, a, b => by
   obtain ⟨v, vs', rfl, a1, _⟩ := a.zAB;obtain ⟨v', vs2, e, b1, _⟩ := b.zAB;cases e;exact t.en.uniq P Z Z' H x y v a1 b1
 | t :: u :: ts, x, y, vs, a, b => by
   obtain ⟨v, vs', rfl, a1, a2⟩ := a.zAB;obtain ⟨v', vs2, e, b1, b2⟩ := b.zAB;cases e;exact Prod.ext (t.en.uniq P Z Z' H _ _ v a1 b1) (qNH (u :: ts) _ _ _ a2 b2)
def enL (ts : List Ty) : AEn (TyL ts) := ⟨pvL ts, qRS ts, fun P Z Z' H x y vs a b => qNH ts x y vs a b⟩
def j3 : (ts : List Ty) -> TyL ts -> PV := fun ts x => qCJ (pvL ts x)
end Go.Sv
namespace Go.Sv
open Go.Idl
variable [Gc]
variable {P : Program}
variable {b : Bool} {k : Nat}
def q98 (R : Type) : Type := Option R
section
variable {R α σ ρ : Type}
def q98.run (t : q98 R) : Option R := t
def q98.fail : q98 R := (none : Option R)
def q98.ret (r : R) : q98 R := some r
def q98.ite (b : Bool) (x y : q98 R) : q98 R := cond b x y
noncomputable def q98.bind (o : Option α) (k : α -> q98 R) : q98 R := Option.rec q98.fail k o
open Classical in
noncomputable def qII (x y : Option R) : Option R := if x = y then x else none
noncomputable def q98.both (x y : q98 R) : q98 R := q98.bind (qII x y) .ret
noncomputable def q98.loop (f : σ -> q98 (σ ⊕ ρ)) (s : σ) (k : ρ -> q98 R) : q98 R := q98.bind (zU (fun s => (f s).run) s) k
end
theorem run_ite {R : Type} {x y : q98 R} {r : R} (h : (q98.ite b x y).run = some r) : (b = true ∧ x.run = some r) ∨ (b = false ∧ y.run = some r) := by
 cases b with
 | true => exact .inl ⟨rfl, h⟩
 | false => exact .inr ⟨rfl, h⟩
theorem run_bind {R α : Type} {o : Option α} {k : α -> q98 R} {r : R} (h : (q98.bind o k).run = some r) : ∃ a, o = some a ∧ (k a).run = some r := by
 cases o with
 | none => cases h
 | some a => exact ⟨a, rfl, h⟩
theorem qW6 {R σ ρ : Type} {f : σ -> q98 (σ ⊕ ρ)} {s : σ} {k : ρ -> q98 R} {r : R} (h : (q98.loop f s k).run = some r) : ∃ a, zU (fun s => (f s).run) s = some a ∧ (k a).run = some r := run_bind h
theorem qVJ {R : Type} {x y : Option R} {r : R} (h : qII x y = some r) : x = some r ∧ y = some r := by
 unfold qII at h;split at h
 ·rename_i e;exact ⟨h, e ▸ h⟩
 ·cases h
theorem qYJ {R : Type} {x y : q98 R} {r : R} (h : (q98.both x y).run = some r) : x.run = some r ∧ y.run = some r := by
 obtain ⟨a, h1, h2⟩ := run_bind h;cases h2;exact qVJ h1
theorem qPJ {R : Type} (x : Option R) : qII x x = x := by unfold qII; rw [if_pos rfl]
theorem qG {R : Type} {x : q98 R} {r : R} (h : (cond b x .fail).run = some r) : b = true ∧ x.run = some r := by
 cases b with
 | true => exact ⟨rfl, h⟩
 | false => cases h
inductive SV where
 | d (t : Ty) (x : t.sem)
 | c (v : Value)
 | agg (l : List SV)
 | tup (l : List SV)
 | own (k g n : Nat)
 | sl (k g n o m : Nat)
 | ref (k off w : Nat)
 | elt (k g n w j off : Nat)
 | lp (t : Ty) (xs : List t.sem) (j off : Nat)
 | fn (f : FuncId) (first cap : List SV)
 | unk
 | yv
 | bq
 | mp (k : Nat)
 | opt (b : Bool) (k off w : Nat)
 | rfx (k off w : Nat)
 | etx (k g n w j off : Nat)
section
variable [Yl]
mutual
def SV.enc : SV -> PV
 | .d t x => .f (t.fv x)
 | .c v => fvv v
 | .agg l => .agg (qB l)
 | .tup l => .tup (qB l)
 | .own k _ n => .own k n 0 n
 | .sl k _ n o m => .own k n o m
 | .ref k off w => .ref k w off
 | .elt k _ n w j off => .ref k (n * w) (j * w + off)
 | .lp t xs j off => .lp (List.flatMap t.cells xs) (j * t.w + off)
 | .fn f a b => .fn f (qB a) (qB b)
 | .unk => .unk
 | .yv => .yl Yl.l
 | .bq => .bq
 | .mp k => .mp k
 | .opt b k off w => cond b (.ref k w off) (fvv (.pointer none))
 | .rfx k off w => .ref k w off
 | .etx k _ n w j off => .ref k (n * w) (j * w + off)
def qB : List SV -> List PV
 | [] => []
 | x :: l => x.enc :: qB l
end
theorem qX : ∀ (l : List SV), qB l = l.map SV.enc
 | [] => by simp [qB]
 | x :: l => by simp [qB, qX l]
end
inductive SpO where
 | map (es : List (Value × Value))
 | iter (s : ByteArray) (pos : Nat)
 | mit (t : TypeId) (k since last : Nat) (seen : List Nat)
def yX : Nat -> List (Value × Value) -> List MapEntry
 | _, [] => []
 | i, p :: l => ⟨p.1, p.2, i⟩ :: yX (i + 1) l
def SpO.enc : SpO -> PO
 | .map es => ⟨1000000001, false, kR (List.length es) (yX 0 es)⟩
 | .iter s pos => ⟨1000000000, false, qS8 s pos⟩
 | .mit _ k since last seen => ⟨1000000002, false, qVS (.mp k) since last seen⟩
inductive SO where
 | spc (w : Nat) (x : SpO)
 | cells (el : TypeId) (w : Nat) (l : List SV)
 | list (el : TypeId) (gr : Bool) (g w : Nat) (t : Ty) (xs : List t.sem)
section
variable [Yl]
def SO.enc : SO -> PO
 | .cells el _ l => ⟨el, false, qB l⟩
 | .list el gr _ _ t xs => ⟨el, gr, (List.flatMap t.cells xs).map .f⟩
 | .spc _ x => x.enc
def SO.w : SO -> Nat
 | .cells _ w _ => w
 | .list _ _ _ w _ _ => w
 | .spc w _ => w
structure SH where
 next : Nat
 l : List (Nat × SO)
def slk (k : Nat) : List (Nat × SO) -> Option SO
 | [] => none
 | (j, o) :: l => cond (k == j) (some o) (slk k l)
def sst (k : Nat) (o : SO) : List (Nat × SO) -> List (Nat × SO)
 | [] => []
 | (j, p) :: l => cond (k == j) ((j, o) :: l) ((j, p) :: sst k o l)
def sdl (k : Nat) : List (Nat × SO) -> List (Nat × SO)
 | [] => []
 | (j, p) :: l => cond (k == j) (sdl k l) ((j, p) :: sdl k l)
def qD : List (Nat × SO) -> PHp
 | [] => []
 | (j, o) :: l => (j, o.enc) :: qD l
theorem uV (k : Nat) : ∀ (l : List (Nat × SO)), qA k (qD l) = (slk k l).map SO.enc
 | [] => rfl
 | (j, o) :: l => by
   show cond (k == j) (some o.enc) (qA k (qD l)) = (cond (k == j) (some o) (slk k l)).map SO.enc;cases k == j
   ·exact uV k l
   ·rfl
theorem vH (k : Nat) (o : SO) : ∀ (l : List (Nat × SO)), qD (sst k o l) = kQ k o.enc (qD l)
 | [] => rfl
 | (j, p) :: l => by
   show qD (cond (k == j) ((j, o) :: l) ((j, p) :: sst k o l)) = cond (k == j) ((j, o.enc) :: qD l) ((j, p.enc) :: kQ k o.enc (qD l));cases k == j
   ·show (j, p.enc) :: qD (sst k o l) = _;rw [vH k o l]; rfl
   ·rfl
theorem oF (k : Nat) : ∀ (l : List (Nat × SO)), qD (sdl k l) = rV k (qD l)
 | [] => rfl
 | (j, p) :: l => by
   show qD (cond (k == j) (sdl k l) ((j, p) :: sdl k l)) = cond (k == j) (rV k (qD l)) ((j, p.enc) :: rV k (qD l));cases k == j
   ·show (j, p.enc) :: qD (sdl k l) = _;rw [oF k l]; rfl
   ·exact oF k l
end
theorem qCY {k j : Nat} {o : SO} (hj : j ≠ k) : ∀ (l : List (Nat × SO)), slk j (sst k o l) = slk j l
 | [] => rfl
 | (i, p) :: l => by
   show slk j (cond (k == i) ((i, o) :: l) ((i, p) :: sst k o l)) = cond (j == i) (some p) (slk j l)
   cases h : k == i with
   | true =>
     have : k = i := by simpa using h
     subst this;show cond (j == k) (some o) (slk j l) = _;rw [show (j == k) = false by simpa using hj]; rfl
   | false =>
     show cond (j == i) (some p) (slk j (sst k o l)) = _;rw [qCY hj l]
theorem qSB {k : Nat} {o p : SO} : ∀ {l : List (Nat × SO)}, slk k l = some p -> slk k (sst k o l) = some o
 | (i, q) :: l, h => by
   have h : cond (k == i) (some q) (slk k l) = some p := h;show slk k (cond (k == i) ((i, o) :: l) ((i, q) :: sst k o l)) = some o
   cases hi : k == i with
   | true =>
     show cond (k == i) (some o) (slk k l) = some o;rw [hi]; rfl
   | false =>
     rw [hi] at h;show cond (k == i) (some q) (slk k (sst k o l)) = some o;rw [hi]; exact qSB (l := l) h
theorem kZ {k j : Nat} (hj : j ≠ k) : ∀ (l : List (Nat × SO)), slk j (sdl k l) = slk j l
 | [] => rfl
 | (i, p) :: l => by
   show slk j (cond (k == i) (sdl k l) ((i, p) :: sdl k l)) = cond (j == i) (some p) (slk j l)
   cases h : k == i with
   | true =>
     have : k = i := by simpa using h
     subst this;rw [show (j == k) = false by simpa using hj];exact kZ hj l
   | false =>
     show cond (j == i) (some p) (slk j (sdl k l)) = _;rw [kZ hj l]
theorem qLF (k : Nat) : ∀ (l : List (Nat × SO)), slk k (sdl k l) = none
 | [] => rfl
 | (i, p) :: l => by
   show slk k (cond (k == i) (sdl k l) ((i, p) :: sdl k l)) = none
   cases h : k == i with
   | true => exact qLF k l
   | false =>
     show cond (k == i) (some p) (slk k (sdl k l)) = none;rw [h]; exact qLF k l
theorem yC {j : Nat} {o : SO} {l : List (Nat × SO)} (hj : j ≠ k) : slk j ((k, o) :: l) = slk j l := by
 show cond (j == k) (some o) (slk j l) = _;rw [show (j == k) = false by simpa using hj]; rfl
theorem vI {o : SO} {l : List (Nat × SO)} : slk k ((k, o) :: l) = some o := by
 show cond (k == k) (some o) (slk k l) = _;simp
def qYO (h : SH) (k g n : Nat) : Prop := g < h.next ∧ ∀ el gr w t xs, slk k h.l = some (.list el gr g w t xs) -> n = xs.length
mutual
def SV.ok (h : SH) : SV -> Prop
 | .agg l => okL h l
 | .tup l => okL h l
 | .own k g n => qYO h k g n
 | .sl k g n o m => qYO h k g n ∧ o + m <= n
 | .elt k g n _ _ _ => qYO h k g n
 | .etx k g n _ _ _ => qYO h k g n
 | .fn _ a b => okL h a ∧ okL h b
 | _ => True
def okL (h : SH) : List SV -> Prop
 | [] => True
 | x :: l => x.ok h ∧ okL h l
end
theorem yA {h : SH} : ∀ {l : List SV}, okL h l ↔ ∀ x ∈ l, x.ok h
 | [] => by simp [okL]
 | x :: l => by simp [okL, yA (l := l)]
structure OkH (P : Program) (h : SH) : Prop where
 ver : ∀ k ob, slk k h.l = some ob -> ob.w < h.next
 cells : ∀ k el w l, slk k h.l = some (.cells el w l) -> okL h l
 list : ∀ k el gr g w t xs, slk k h.l = some (.list el gr g w t xs) -> g < h.next ∧ szT P el = some t.w ∧ 0 < t.w
structure Keep (h h' : SH) : Prop where
 next : h.next <= h'.next
 same : ∀ k ob, slk k h'.l = some ob -> ob.w < h.next -> slk k h.l = some ob
 len : ∀ k el gr g w t xs, slk k h'.l = some (.list el gr g w t xs) -> g < h.next -> ∃ w0, ∃ xs0 : List t.sem, slk k h.l = some (.list el gr g w0 t xs0) ∧ xs0.length = xs.length
theorem Keep.refl (h : SH) : Keep h h := ⟨zJ7 _, fun _ _ h _ => h, fun k el gr g w t xs h _ => ⟨w, xs, h, rfl⟩⟩
theorem Keep.trans {a b c : SH} (x : Keep a b) (y : Keep b c) : Keep a c :=
 ⟨zKR x.next y.next, fun k ob h hw => x.same k ob (y.same k ob h (zKB hw x.next)) hw, fun k el gr g w t xs h hg => by
   obtain ⟨w1, xs1, h1, e1⟩ := y.len k el gr g w t xs h (zKB hg x.next);obtain ⟨w2, xs2, h2, e2⟩ := x.len k el gr g w1 t xs1 h1 hg
   exact ⟨w2, xs2, h2, e2.trans e1⟩⟩
theorem qYO.keep {h h' : SH} {g n : Nat} (a : qYO h k g n) (b : Keep h h') : qYO h' k g n :=
 ⟨zKB a.1 b.next, fun el gr w t xs hk => by
   obtain ⟨w0, xs0, h0, e0⟩ := b.len k el gr g w t xs hk a.1
   rw [<- e0]; exact a.2 el gr w0 t xs0 h0⟩
mutual
theorem SV.ok.keep {h h' : SH} (b : Keep h h') : ∀ {x : SV}, x.ok h -> x.ok h'
 | .agg l, a => by simp only [SV.ok] at a ⊢; exact qL b a
 | .tup l, a => by simp only [SV.ok] at a ⊢; exact qL b a
 | .own k g n, a => by simp only [SV.ok] at a ⊢; exact a.keep b
 | .sl k g n o m, a => by simp only [SV.ok] at a ⊢; exact ⟨a.1.keep b, a.2⟩
 | .elt k g n w j off, a => by simp only [SV.ok] at a ⊢; exact a.keep b
 | .etx k g n w j off, a => by simp only [SV.ok] at a ⊢; exact a.keep b
 | .fn f x y, a => by simp only [SV.ok] at a ⊢; exact ⟨qL b a.1, qL b a.2⟩
 | .d _ _, _ => by simp [SV.ok]
 | .c _, _ => by simp [SV.ok]
 | .ref _ _ _, _ => by simp [SV.ok]
 | .lp _ _ _ _, _ => by simp [SV.ok]
 | .unk, _ => by simp [SV.ok]
 | .yv, _ => by simp [SV.ok]
 | .bq, _ => by simp [SV.ok]
 | .mp _, _ => by simp [SV.ok]
 | .opt _ _ _ _, _ => by simp [SV.ok]
 | .rfx _ _ _, _ => by simp [SV.ok]
theorem qL {h h' : SH} (b : Keep h h') : ∀ {l : List SV}, okL h l -> okL h' l
 | [], _ => by simp [okL]
 | x :: l, a => by simp only [okL] at a ⊢; exact ⟨SV.ok.keep b a.1, qL b a.2⟩
end
def SH.new (h : SH) (k : Nat) (f : Nat -> SO) : SH := ⟨h.next + 1, (k, f h.next) :: h.l⟩
def SH.put (h : SH) (k : Nat) (f : Nat -> SO) : SH := ⟨h.next + 1, sst k (f h.next) h.l⟩
def SH.del (h : SH) (k : Nat) : SH := ⟨h.next, sdl k h.l⟩
def q46 (P : Program) (h : SH) (n : Nat) : SO -> Prop
 | .cells _ w l => w = n ∧ okL h l
 | .list el _ g w t _ => w = n ∧ g = n ∧ szT P el = some t.w ∧ 0 < t.w
 | .spc w _ => w = n
theorem qYY {h : SH} {f : Nat -> SO} (hw : (f h.next).w = h.next) (hg : ∀ el gr g w t xs, f h.next = .list el gr g w t xs -> g = h.next) : Keep h (h.new k f) :=
 ⟨zNS _, fun j ob hj hlt => by
   by_cases e : j = k
   ·subst e; rw [show slk j (h.new j f).l = some (f h.next) from vI] at hj;cases hj; omega
   ·rwa [show slk j (h.new k f).l = slk j h.l from yC e] at hj, fun j el gr g w t xs hj hlt => by
   by_cases e : j = k
   ·subst e; rw [show slk j (h.new j f).l = some (f h.next) from vI] at hj;have := hg _ _ _ _ _ _ (zK5 hj);omega
   ·rw [show slk j (h.new k f).l = slk j h.l from yC e] at hj
    exact ⟨w, xs, hj, rfl⟩⟩
theorem xZ {h : SH} {f : Nat -> SO} (a : OkH P h) (hf : q46 P h h.next (f h.next)) : Keep h (h.new k f) ∧ OkH P (h.new k f) := by
 have hw : (f h.next).w = h.next := by
  cases hq : f h.next with
  | cells el w l => rw [hq] at hf; exact hf.1
  | list el gr g w t xs => rw [hq] at hf; exact hf.1
  | spc w x => rw [hq] at hf; exact hf
 have hk : Keep h (h.new k f) := qYY hw fun el gr g w t xs e => by rw [e] at hf; exact hf.2.1
 refine ⟨hk, ⟨fun j ob hj => ?_, fun j el w l hj => ?_, fun j el gr g w t xs hj => ?_⟩⟩
 ·by_cases e : j = k
  ·subst e; rw [show slk j (h.new j f).l = some (f h.next) from vI] at hj;cases hj; rw [hw]; exact zK1 _
  ·rw [show slk j (h.new k f).l = slk j h.l from yC e] at hj;exact zLV (a.ver j ob hj)
 ·by_cases e : j = k
  ·subst e; rw [show slk j (h.new j f).l = some (f h.next) from vI] at hj;rw [zK5 hj] at hf;exact qL hk hf.2
  ·rw [show slk j (h.new k f).l = slk j h.l from yC e] at hj;exact qL hk (a.cells j el w l hj)
 ·by_cases e : j = k
  ·subst e; rw [show slk j (h.new j f).l = some (f h.next) from vI] at hj;rw [zK5 hj] at hf;exact ⟨by rw [hf.2.1]; exact zK1 _, hf.2.2⟩
  ·rw [show slk j (h.new k f).l = slk j h.l from yC e] at hj;have := a.list j el gr g w t xs hj;exact ⟨zLV this.1, this.2⟩
def q8E (h : SH) (n : Nat) : SO -> SO -> Prop
 | .cells _ _ _, .cells _ w' l' => w' = n ∧ okL h l'
 | .list el gr g _ t xs, ob' => ∃ xs' : List t.sem, ob' = .list el gr g n t xs' ∧ xs.length = xs'.length
 | .spc _ _, .spc w' _ => w' = n
 | _, _ => False
theorem fZ {h : SH} {f : Nat -> SO} {ob : SO} (a : OkH P h) (hk : slk k h.l = some ob) (hf : q8E h h.next ob (f h.next)) : Keep h (h.put k f) ∧ OkH P (h.put k f) := by
 have hs : slk k (h.put k f).l = some (f h.next) := qSB hk;have hn : ∀ j, j ≠ k -> slk j (h.put k f).l = slk j h.l := fun j hj => qCY hj _
 have hw : (f h.next).w = h.next := by
  cases ob with
  | cells el w l =>
    cases hq : f h.next with
    | cells el' w' l' => rw [hq] at hf; exact hf.1
    | list => rw [hq] at hf; exact hf.elim
    | spc => rw [hq] at hf; exact hf.elim
  | spc w0 x0 =>
    cases hq : f h.next with
    | spc w' x' => rw [hq] at hf; exact hf
    | list => rw [hq] at hf; exact hf.elim
    | cells => rw [hq] at hf; exact hf.elim
  | list el gr g w t xs =>
    obtain ⟨xs', e, _⟩ := hf;rw [e]; rfl
 have hkp : Keep h (h.put k f) := by
  refine ⟨zNS _, fun j o hj hlt => ?_, fun j el gr g w t xs hj hlt => ?_⟩
  ·by_cases e : j = k
   ·subst e; rw [hs] at hj; cases hj; omega
   ·rwa [hn j e] at hj
  ·by_cases e : j = k
   ·subst e;rw [hs] at hj;have hj := zK5 hj
    cases ob with
    | cells el0 w0 l0 =>
      rw [hj] at hf;exact hf.elim
    | spc w0 x0 =>
      rw [hj] at hf;exact hf.elim
    | list el0 gr0 g0 w0 t0 xs0 =>
      obtain ⟨xs', e2, e3⟩ := hf;rw [e2] at hj;injection hj with a1 a2 a3 a4 a5 a6;subst a1 a2 a3 a5;cases a6;exact ⟨w0, xs0, hk, e3⟩
   ·rw [hn j e] at hj; exact ⟨w, xs, hj, rfl⟩
 refine ⟨hkp, ⟨fun j o hj => ?_, fun j el w l hj => ?_, fun j el gr g w t xs hj => ?_⟩⟩
 ·by_cases e : j = k
  ·subst e; rw [hs] at hj; cases hj; rw [hw]; exact zK1 _
  ·rw [hn j e] at hj; exact zLV (a.ver j o hj)
 ·by_cases e : j = k
  ·subst e;rw [hs] at hj;have hj := zK5 hj
   cases ob with
   | cells el0 w0 l0 => rw [hj] at hf; exact qL hkp hf.2
   | spc w0 x0 => rw [hj] at hf; exact hf.elim
   | list el0 gr0 g0 w0 t0 xs0 =>
     obtain ⟨xs', e2, e3⟩ := hf;rw [e2] at hj; cases hj
  ·rw [hn j e] at hj; exact qL hkp (a.cells j el w l hj)
 ·by_cases e : j = k
  ·subst e;rw [hs] at hj;have hj := zK5 hj
   cases ob with
   | cells el0 w0 l0 => rw [hj] at hf; exact hf.elim
   | spc w0 x0 => rw [hj] at hf; exact hf.elim
   | list el0 gr0 g0 w0 t0 xs0 =>
     obtain ⟨xs', e2, e3⟩ := hf;rw [e2] at hj;injection hj with a1 a2 a3 a4 a5 a6;subst a1 a2 a3 a5;have := a.list j _ _ _ _ _ _ hk;exact ⟨zLV this.1, this.2⟩
  ·rw [hn j e] at hj;have := a.list j el gr g w t xs hj;exact ⟨zLV this.1, this.2⟩
theorem dV {h : SH} (a : OkH P h) : Keep h (h.del k) ∧ OkH P (h.del k) := by
 have hl : ∀ j ob, slk j (h.del k).l = some ob -> slk j h.l = some ob := fun j ob hj => by
  by_cases e : j = k
  ·subst e; rw [show slk j (h.del j).l = none from qLF j _] at hj; cases hj
  ·rwa [show slk j (h.del k).l = slk j h.l from kZ e _] at hj
 have hkp : Keep h (h.del k) := ⟨zJ7 _, fun j ob hj _ => hl j ob hj, fun j el gr g w t xs hj _ => ⟨w, xs, hl _ _ hj, rfl⟩⟩
 exact ⟨hkp, ⟨fun j ob hj => a.ver j ob (hl j ob hj), fun j el w l hj => qL hkp (a.cells j el w l (hl _ _ hj)), fun j el gr g w t xs hj => a.list j el gr g w t xs (hl _ _ hj)⟩⟩
def GV (Γ : Option Type) : Type := match Γ with
 | none => Unit
 | some γ => γ
def GS (Γ : Option Type) (S : Type) : Type := match Γ with
 | none => S
 | some γ => γ × S
def gj : {Γ : Option Type} -> {S : Type} -> GV Γ -> S -> GS Γ S
 | none, _, _, s => s
 | some _, _, g, s => (g, s)
def g1 : {Γ : Option Type} -> {S : Type} -> GS Γ S -> GV Γ
 | none, _, _ => ()
 | some _, _, p => p.1
def g2 : {Γ : Option Type} -> {S : Type} -> GS Γ S -> S
 | none, _, s => s
 | some _, _, p => p.2
theorem q1D {Γ : Option Type} {S : Type} {g : GV Γ} {s : S} : g1 (gj g s) = g := by cases Γ <;> rfl
theorem q0N {Γ : Option Type} {S : Type} {g : GV Γ} {s : S} : g2 (gj g s) = s := by cases Γ <;> rfl
structure Ent where
 as : List Ty
 rs : List Ty
 F : TyL as -> Option (TyL rs)
abbrev kS := List (FuncId × Ent)
def slT (g : FuncId) : kS -> Option Ent
 | [] => none
 | (k, e) :: l => cond (Nat.beq g k) (some e) (slT g l)
structure Sh where
 d : List Nat
 o : List Nat
 s : List (Nat × Nat)
 v : List (Nat × TypeId)
 ex : List Nat
 b : List (Nat × List (Option Nat)) := []
 bv : List (Nat × Nat × TypeId × Nat) := []
structure Ab where
 A : List Ty -> Type
 f : ∀ ts, TyL ts -> A ts
def Ab.id : Ab := ⟨fun ts => TyL ts, fun _ s => s⟩
structure An where
 fz : List (Nat × List (Nat × TypeId))
 lp : List (Nat × Sh)
 rg : List (Nat × Sh) := []
 ab : List (Nat × Ab) := []
def lkA.{u} {α : Type u} (i : Nat) : List (Nat × α) -> Option α
 | [] => none
 | (j, x) :: l => cond (Nat.beq i j) (some x) (lkA i l)
structure zAV where
 as : List Ty
 ys : List Ty
 yt : List TypeId
 F : TyL as -> (γ : Type) -> (γ -> TyL ys -> Option (γ × Bool)) -> γ -> Option γ
def slI (g : FuncId) : List (FuncId × zAV) -> Option zAV
 | [] => none
 | (k, e) :: l => cond (Nat.beq g k) (some e) (slI g l)
structure YI (Γ : Type) where
 ys : List Ty
 yt : List TypeId
 stp : Γ -> TyL ys -> Option (Γ × Bool)
def yi0 : YI Unit := ⟨[], [], fun _ _ => none⟩
abbrev CIT : Type 1 := (R : Type) -> Nm -> FuncId -> List SV -> SH -> (SV -> SH -> q98 R) -> q98 R
end Go.Sv
namespace Go.Sv
open Go.Idl
variable {a b env l : List SV} {el t : TypeId} {ik k : IntKind} {j n off : Nat} {v x : SV} {ys : List Int}
noncomputable section
variable [Gc]
variable [Yl]
variable {P : Program} {h : SH} {R : Type} {r : R}
def q5C : Value -> SV
 | .agg cs => cond (kM okC cs.toList) (.agg (kF .c cs.toList)) .unk
 | .tuple cs => cond (kM okC cs.toList) (.tup (kF .c cs.toList)) .unk
 | v => cond (okC v) (.c v) .unk
def xL (env : List SV) : Operand -> SV
 | .tmp t => (zC env t).getD .unk
 | .const v => q5C v
 | .global _ => .unk
 | .func g => .c (.func (.func g) #[] #[])
theorem q7Q : ∀ (l : List Value), qB (kF .c l) = kF fvv l
 | [] => by simp [kF, qB]
 | v :: l => by
   show qB (.c v :: kF .c l) = fvv v :: kF fvv l;simp [qB, q7Q l, SV.enc]
omit [Yl] in
theorem q7H : ∀ (l : List Value), okL h (kF .c l)
 | [] => by simp [kF, okL]
 | v :: l => by
   show okL h (.c v :: kF .c l);simp [okL, q7H l, SV.ok]
theorem qYB (v : Value) : ofC v = (q5C v).enc := by
 cases v with
 | agg cs =>
   show cond _ _ _ = (cond (kM okC cs.toList) (SV.agg (kF .c cs.toList)) SV.unk).enc;cases kM okC cs.toList
   ·simp [SV.enc]
   ·simp [SV.enc, q7Q]
 | tuple cs =>
   show cond _ _ _ = (cond (kM okC cs.toList) (SV.tup (kF .c cs.toList)) SV.unk).enc;cases kM okC cs.toList
   ·simp [SV.enc]
   ·simp [SV.enc, q7Q]
 | _ =>
   simp only [ofC, q3P, q5C];cases okC _ <;> simp [SV.enc]
omit [Yl] in
theorem q3B (v : Value) : (q5C v).ok h := by
 cases v with
 | agg cs =>
   show (cond (kM okC cs.toList) (.agg (kF .c cs.toList)) .unk : SV).ok h;cases kM okC cs.toList
   ·simp [SV.ok]
   ·simp [SV.ok, q7H]
 | tuple cs =>
   show (cond (kM okC cs.toList) (.tup (kF .c cs.toList)) .unk : SV).ok h;cases kM okC cs.toList
   ·simp [SV.ok]
   ·simp [SV.ok, q7H]
 | _ =>
   simp only [q5C];cases okC _ <;> simp [SV.ok]
theorem zH (env : List SV) (t : Nat) : zC (qB env) t = (zC env t).map SV.enc := by
 rw [qF, qF, qX, zKL]
omit [Yl] in
theorem dI {t : Nat} (ho : okL h env) (hx : zC env t = some x) : x.ok h := by
 rw [qF] at hx;exact yA.1 ho x (zK8 hx)
theorem qM (env : List SV) (x : Operand) : qJ (qB env) x = (xL env x).enc := by
 cases x with
 | tmp t =>
   show (zC (qB env) t).getD .unk = ((zC env t).getD .unk).enc;rw [zH];cases zC env t <;> simp [SV.enc]
 | const v => exact qYB v
 | global g => simp [qJ, xL, SV.enc]
 | func g => simp [qJ, xL, SV.enc]
omit [Yl] in
theorem pM (ho : okL h env) (x : Operand) : (xL env x).ok h := by
 cases x with
 | tmp t =>
   show ((zC env t).getD .unk).ok h
   cases hx : zC env t with
   | none => simp [SV.ok]
   | some y => exact dI ho hx
 | const v => exact q3B v
 | global g => simp [xL, SV.ok]
 | func g => simp [xL, SV.ok]
def asI : SV -> Option (IntKind × Int)
 | .d (.int k) x => some (k, x)
 | .c (.int k x) => some (k, x)
 | _ => none
def asB : SV -> Option Bool
 | .d .bool x => some x
 | .c (.bool x) => some x
 | _ => none
def asS : SV -> Option ByteArray
 | .d .str x => some x
 | .c (.string x) => some x
 | _ => none
theorem yG {x : Int} (e : asI v = some (k, x)) : v.enc = fvv (.int k x) := by
 unfold asI at e;split at e
 ·cases e; simp [SV.enc, Ty.fv, fvv]
 ·cases e; simp [SV.enc]
 ·cases e
theorem o8 {x : Bool} (e : asB v = some x) : v.enc = fvv (.bool x) := by
 unfold asB at e;split at e
 ·cases e; simp [SV.enc, Ty.fv, fvv]
 ·cases e; simp [SV.enc]
 ·cases e
theorem u7 {x : ByteArray} (e : asS v = some x) : v.enc = fvv (.string x) := by
 unfold asS at e;split at e
 ·cases e; simp [SV.enc, Ty.fv, fvv]
 ·cases e; simp [SV.enc]
 ·cases e
def Ty.svs : (t : Ty) -> t.sem -> List SV
 | .int k, x => [.d (.int k) x]
 | .bool, x => [.d .bool x]
 | .str, x => [.d .str x]
 | .unit, _ => []
 | .list el t, x => [.d (.list el t) x]
 | .pair a b, x => a.svs x.1 ++ b.svs x.2
 | .raw, x => [.d .raw x]
 | .ol el k, x => [.d (.ol el k) x]
 | .nif, x => [.d .nif x]
theorem mV (a b : List SV) : qB (a ++ b) = qB a ++ qB b := by simp [qX]
theorem gI : ∀ (t : Ty) (x : t.sem), qB (t.svs x) = (t.cells x).map .f
 | .int k, x => by simp [Ty.svs, Ty.cells, qB, SV.enc, Ty.fv]
 | .bool, x => by simp [Ty.svs, Ty.cells, qB, SV.enc, Ty.fv]
 | .str, x => by simp [Ty.svs, Ty.cells, qB, SV.enc, Ty.fv]
 | .unit, x => by simp [Ty.svs, Ty.cells, qB]
 | .list el t, x => by simp [Ty.svs, Ty.cells, qB, SV.enc, Ty.fv]
 | .raw, x => by simp [Ty.svs, Ty.cells, qB, SV.enc, Ty.fv]
 | .ol el k, x => by simp [Ty.svs, Ty.cells, qB, SV.enc, Ty.fv]
 | .nif, x => by simp [Ty.svs, Ty.cells, qB, SV.enc, Ty.fv]
 | .pair a b, x => by
   show qB (a.svs x.1 ++ b.svs x.2) = (a.cells x.1 ++ b.cells x.2).map .f;rw [mV, gI a, gI b, zLC]
omit [Yl] in
theorem aJ (x : okL h a) (y : okL h b) : okL h (a ++ b) := yA.2 fun z hz => by
 rcases zLJ.1 hz with q | q
 ·exact yA.1 x z q
 ·exact yA.1 y z q
omit [Yl] in
theorem qD6 : ∀ (t : Ty) (x : t.sem), okL h (t.svs x)
 | .int k, x => by simp [Ty.svs, okL, SV.ok]
 | .bool, x => by simp [Ty.svs, okL, SV.ok]
 | .str, x => by simp [Ty.svs, okL, SV.ok]
 | .unit, x => by simp [Ty.svs, okL]
 | .list el t, x => by simp [Ty.svs, okL, SV.ok]
 | .raw, x => by simp [Ty.svs, okL, SV.ok]
 | .ol el k, x => by simp [Ty.svs, okL, SV.ok]
 | .nif, x => by simp [Ty.svs, okL, SV.ok]
 | .pair a b, x => aJ (qD6 a x.1) (qD6 b x.2)
def q4X (k : IntKind) (v : SV) : Option Int := match asI v with
 | some (k', x) => cond (decide (k' = k)) (some x) none
 | none => none
def q73 (el : TypeId) (t : Ty) : SV -> Option (List t.sem)
 | .d (.list el' t') xs => if e : t' = t then cond (Nat.beq el' el) (some (e ▸ xs)) none else none
 | _ => none
def asR : SV -> Option (List (Value × Value))
 | .d .raw x => some x
 | _ => none
def q3H (el : TypeId) (k : IntKind) : SV -> Option (List Int)
 | .d (.ol el' k') xs => cond (Nat.beq el' el && decide (k' = k)) (some xs) none
 | .c (.slice none 0 0) => some []
 | _ => none
def q3W : SV -> Option Unit
 | .d .nif _ => some ()
 | .c .nilIface => some ()
 | _ => none
def Ty.zEJ : (t : Ty) -> SV -> Option t.sem
 | .int k, v => q4X k v
 | .bool, v => asB v
 | .str, v => asS v
 | .list el t, v => q73 el t v
 | .unit, _ => none
 | .pair _ _, _ => none
 | .raw, v => asR v
 | .ol el k, v => q3H el k v
 | .nif, v => q3W v
theorem sI {x : Int} (e : q4X k v = some x) : v.enc = fvv (.int k x) := by
 unfold q4X at e;split at e
 ·rename_i k' x' hx
  cases hk : decide (k' = k) with
  | false => rw [hk] at e; cases e
  | true =>
    rw [hk] at e;cases e;have : k' = k := by simpa using hk
    subst this;exact yG hx
 ·cases e
omit [Yl] in
theorem qYI {t : Ty} {x : List t.sem} (e : q73 el t v = some x) : v = .d (.list el t) x := by
 unfold q73 at e;split at e
 ·rename_i el' t' xs;split at e
  ·rename_i ht;subst ht
   cases hk : Nat.beq el' el with
   | false => rw [hk] at e; cases e
   | true =>
     rw [hk] at e;cases e;have : el' = el := zJ6 hk;subst this;rfl
  ·cases e
 ·cases e
theorem qVG {x : List Int} (e : q3H el k v = some x) : v.enc = .f (fvo el k x) := by
 unfold q3H at e;split at e
 ·rename_i el' k' xs
  cases hk : (Nat.beq el' el && decide (k' = k)) with
  | false => rw [hk] at e; cases e
  | true =>
    rw [hk] at e;cases e;rw [zJ5] at hk;have h1 : el' = el := zJ6 hk.1;have h2 : k' = k := by simpa using hk.2
    subst h1 h2;simp [SV.enc, Ty.fv]
 ·cases e; simp [SV.enc, fvo, fvv]
 ·cases e
theorem sD : ∀ {t : Ty} {v : SV} {x : t.sem}, t.zEJ v = some x -> v.enc = .f (t.fv x) ∧ t.one = true
 | .int k, v, x, e => ⟨sI e, rfl⟩
 | .bool, v, x, e => ⟨o8 e, rfl⟩
 | .str, v, x, e => ⟨u7 e, rfl⟩
 | .list el t, v, x, e => ⟨by rw [qYI e]; simp [SV.enc], rfl⟩
 | .ol el k, v, x, e => ⟨qVG e, rfl⟩
 | .nif, v, x, e => by
   have e : q3W v = some x := e;refine ⟨?_, rfl⟩;unfold q3W at e;split at e
   ·simp [SV.enc, Ty.fv]
   ·simp [SV.enc, Ty.fv, fvv]
   ·cases e
 | .raw, v, x, e => by
   have e : asR v = some x := e;refine ⟨?_, rfl⟩;unfold asR at e;split at e
   ·cases e; simp [SV.enc]
   ·cases e
 | .unit, v, x, e => by cases e
 | .pair a b, v, x, e => by cases e
def qW9 (t : Ty) : List SV -> Option (t.sem × List SV)
 | v :: l => match t.zEJ v with
   | some x => some (x, l)
   | none => none
 | [] => none
def Ty.zC4 : (t : Ty) -> List SV -> Option (t.sem × List SV)
 | .int k, l => qW9 (.int k) l
 | .bool, l => qW9 .bool l
 | .str, l => qW9 .str l
 | .raw, l => qW9 .raw l
 | .ol el k, l => qW9 (.ol el k) l
 | .nif, l => qW9 .nif l
 | .list el t, l => qW9 (.list el t) l
 | .unit, l => some ((), l)
 | .pair a b, l => match a.zC4 l with
   | some (x, l1) => (match b.zC4 l1 with
     | some (y, l2) => some ((x, y), l2)
     | none => none)
   | none => none
theorem gW {t : Ty} {l' : List SV} {x : t.sem} (e : qW9 t l = some (x, l')) : qB l = (t.cells x).map .f ++ qB l' := by
 cases l with
 | nil => cases e
 | cons v l =>
   unfold qW9 at e;simp only at e;split at e
   ·rename_i y hy;cases e;obtain ⟨h1, h2⟩ := sD hy;rw [Ty.cells_one h2];simp [qB, h1]
   ·cases e
theorem sV : ∀ {t : Ty} {l l' : List SV} {x : t.sem}, t.zC4 l = some (x, l') -> qB l = (t.cells x).map .f ++ qB l'
 | .int k, l, l', x, e => gW e
 | .bool, l, l', x, e => gW e
 | .str, l, l', x, e => gW e
 | .raw, l, l', x, e => gW e
 | .ol _ _, l, l', x, e => gW e
 | .nif, l, l', x, e => gW e
 | .list el t, l, l', x, e => gW e
 | .unit, l, l', x, e => by cases e; simp [Ty.cells]
 | .pair a b, l, l', x, e => by
   unfold Ty.zC4 at e;split at e
   ·rename_i x1 l1 h1;split at e
    ·rename_i y l2 h2;cases e;show qB l = (a.cells x1 ++ b.cells y).map .f ++ qB l';rw [sV h1, sV h2, zLC, zK0]
    ·cases e
   ·cases e
def Ty.zCR (t : Ty) (l : List SV) : Option t.sem := match t.zC4 l with
 | some (x, []) => some x
 | _ => none
theorem mJ {t : Ty} {x : t.sem} (e : t.zCR l = some x) : qB l = (t.cells x).map .f := by
 unfold Ty.zCR at e;split at e
 ·rename_i y hy;cases e;rw [sV hy]; simp [qB]
 ·cases e
def qEM (P : Program) (t : TypeId) (l : List SV) (off : Nat) : Option SV := match qKT P t with
 | some true => (match szT P t with
   | some n => cond (Nat.ble (off + n) l.length) (some (.agg ((l.drop off).take n))) none
   | none => none)
 | some false => zC l off
 | none => none
omit [Yl] in
theorem qKB {b : List SV} (x : okL h a) (hs : ∀ z ∈ b, z ∈ a) : okL h b := yA.2 fun z hz => yA.1 x z (hs z hz)
theorem qES (e : qEM P t l off = some v) : nO P t (qB l) off = some v.enc ∧ (okL h l -> v.ok h) := by
 unfold qEM at e;unfold nO;split at e
 ·rename_i ha;rw [ha];simp only;split at e
  ·rename_i n hn;rw [hn];simp only
   cases hc : Nat.ble (off + n) l.length with
   | false => rw [hc] at e; cases e
   | true =>
     rw [hc] at e;cases e;refine ⟨by rw [qX, zKQ, hc]; simp [SV.enc, qX, zMH, zMI], fun ho => ?_⟩;simp only [SV.ok];exact qKB ho fun z hz => zMV (zND hz)
  ·cases e
 ·rename_i ha;rw [ha];simp only;rw [zH, e];exact ⟨rfl, fun ho => dI ho e⟩
 ·cases e
theorem qAJ {t' : Ty} {xs : List t'.sem} {x : t'.sem} (hx : xs[j]? = some x) (e : qEM P t (t'.svs x) off = some v) :
 nO P t ((xs.flatMap t'.cells).map .f) (j * t'.w + off) = some v.enc ∧ qKL P t (xs.flatMap t'.cells) (j * t'.w + off) = some v.enc ∧ v.ok h := by
 have h0 := qES (h := h) e;refine ⟨?_, ?_, h0.2 (qD6 t' x)⟩
 all_goals
  have h1 := h0.1;rw [gI] at h1;unfold nO at h1
 ·unfold nO;split at h1
  ·rename_i ha;split at h1
   ·rename_i n hn
    cases hc : Nat.ble (off + n) ((t'.cells x).map PV.f).length with
    | false => rw [hc] at h1; cases h1
    | true =>
      rw [hc] at h1
      have hle : off + n <= t'.w := by
       have := zKE hc;rw [zKQ, t'.zAI] at this;exact this
      rw [show Nat.ble (j * t'.w + off + n) ((xs.flatMap t'.cells).map PV.f).length = true from zKN (by rw [zKQ]; exact qFC hx hle)];simp only [cond_true] at h1 ⊢;rw [<- h1, <- zMH, <- zMI, qI8 hx hle, <- zMH, <- zMI]
   ·cases h1
  ·rename_i ha;rw [qF, zKL] at h1 ⊢
   have hlt : off < t'.w := by
    rw [<- t'.zAI x]
    cases hq : (t'.cells x)[off]? with
    | none => rw [hq] at h1; cases h1
    | some y => exact (zKA.1 hq).1
   rw [Go.Sv.flat_get hx hlt]; exact h1
  ·cases h1
 ·unfold qKL;split at h1
  ·rename_i ha;split at h1
   ·rename_i n hn
    cases hc : Nat.ble (off + n) ((t'.cells x).map PV.f).length with
    | false => rw [hc] at h1; cases h1
    | true =>
      rw [hc] at h1
      have hle : off + n <= t'.w := by
       have := zKE hc;rw [zKQ, t'.zAI] at this;exact this
      rw [show Nat.ble (j * t'.w + off + n) (xs.flatMap t'.cells).length = true from zKN (qFC hx hle)];simp only [cond_true] at h1 ⊢;rw [<- h1, qI8 hx hle, <- zMH, <- zMI]
   ·cases h1
  ·rename_i ha;rw [qF, zKL] at h1
   cases hq : (t'.cells x)[off]? with
   | none => rw [hq] at h1; cases h1
   | some y =>
     rw [hq] at h1
     have hlt : off < t'.w := by
      rw [<- t'.zAI x];exact (zKA.1 hq).1
     rw [Go.Sv.flat_get hx hlt, hq];exact h1
  ·cases h1
def q7S : List SV -> Option IntKind
 | v :: _ => (asI v).map Prod.fst
 | [] => none
def qL9 (ik : IntKind) : List SV -> Option (List Int)
 | [] => some []
 | v :: l => match q4X ik v, qL9 ik l with
   | some x, some xs => some (x :: xs)
   | _, _ => none
def q7P (off : Nat) (v : Int) (xs : List Int) : Option (List Int) := if off < xs.length then some (xs.set off v) else none
def spread (ik : IntKind) (n : Nat) (ys : List Int) : List SV := (List.range n).map fun i => SV.d (.int ik) (ys.getD i 0 : Int)
theorem fI {ik : IntKind} : ∀ {l : List SV} {xs : List Int}, qL9 ik l = some xs -> qB l = xs.map fun x => fvv (.int ik x)
 | [], xs, e => by cases e; simp [qB]
 | v :: l, xs, e => by
   unfold qL9 at e;split at e
   ·rename_i x ys hx hy;cases e;simp only [qB, zKM, sI hx, fI hy]
   ·cases e
theorem qCT (h : ys.length = n) : qB (spread ik n ys) = ys.map fun x => fvv (.int ik x) := by
 rw [qX];unfold spread;rw [zNK];apply zLH;intro i;rw [zKL, zKL];by_cases hi : i < n
 ·rw [zN8 hi, zJ9 (by omega : i < ys.length)];simp only [zKJ, Function.comp, zKC];rw [zLM, zJ9 (by omega : i < ys.length)];simp [SV.enc, Ty.fv, fvv]
 ·rw [zLE (by simp; omega), zLE (by omega)];rfl
theorem qUN : okL h (spread ik n ys) := yA.2 fun x hx => by
 unfold spread at hx;obtain ⟨i, _, rfl⟩ := zKX.1 hx;simp [SV.ok]
def q18 (P : Program) (t : TypeId) (a : SV) (h : SH) (K : SV -> q98 R) : q98 R := match a with
 | .ref k off w => (match slk k h.l with
   | some (.cells el _ l) => (match qEM P t l off with
     | some v => cond (!(spec P el) && Nat.beq w l.length) (K v) .fail
     | none => .fail)
   | _ => .fail)
 | .elt k g n w j off => (match slk k h.l with
   | some (.list _ _ g' _ t' xs) => cond (Nat.beq g g' && Nat.beq w t'.w) (.bind (xs[j]?) fun x => match qEM P t (t'.svs x) off with
     | some v => K v
     | none => .fail) .fail
   | _ => .fail)
 | .lp t' xs j off => .bind (xs[j]?) fun x => match qEM P t (t'.svs x) off with
   | some v => K v
   | none => .fail
 | .rfx k off w => (match slk k h.l with
   | some (.cells el _ l) => (match q7S l with
     | some ik => (match qL9 ik l, qKT P t with
       | some xs, some false => cond (!(spec P el) && Nat.beq w l.length) (.bind (xs[off]?) fun x => K (.d (.int ik) (x : Int))) .fail
       | _, _ => .fail)
     | none => .fail)
   | _ => .fail)
 | .etx k g n w j off => (match slk k h.l with
   | some (.list _ _ g' _ t' xs) => cond (Nat.beq g g' && Nat.beq w t'.w) (.bind (xs[j]?) fun x => match q7S (t'.svs x) with
     | some ik => (match qL9 ik (t'.svs x), qKT P t with
       | some ys, some false => .bind (ys[off]?) fun z => K (.d (.int ik) (z : Int))
       | _, _ => .fail)
     | none => .fail) .fail
   | _ => .fail)
 | _ => .fail
theorem qW (l : List SV) : (qB l).length = l.length := by rw [qX, zKQ]
theorem y5 {k : Nat} {ob : SO} {l : List (Nat × SO)} (e : slk k l = some ob) : qA k (qD l) = some ob.enc := by rw [uV, e]; rfl
theorem qV {gr : Bool} {g w : Nat} {t : Ty} {xs : List t.sem} : (SO.list el gr g w t xs).enc.cs.length = xs.length * t.w := by
 show ((xs.flatMap t.cells).map PV.f).length = _;rw [zKQ, yR]
theorem qXU {a : SV} {K : SV -> q98 R} (ho : OkH P h) (ha : a.ok h) (e : (q18 P t a h K).run = some r) : ∃ v, bU P t a.enc (qD h.l) = some v.enc ∧ v.ok h ∧ (K v).run = some r := by
 unfold q18 at e;split at e
 ·rename_i k off w;split at e
  ·rename_i el w' l hk;split at e
   ·rename_i v hv;obtain ⟨h1, h2⟩ := qG e;rw [zJ5, zK4] at h1;obtain ⟨hsp, h1⟩ := h1;obtain ⟨h3, h4⟩ := qES (h := h) hv;refine ⟨v, ?_, h4 (ho.cells _ _ _ _ hk), h2⟩;simp only [SV.enc, bU, y5 hk];show cond (spec P el) none (cond (Nat.beq w (qB l).length) (nO P t (qB l) off) none) = _;rw [qW, h1, hsp];exact h3
   ·cases e
  ·cases e
 ·rename_i k g n w j off;split at e
  ·rename_i el gr g' w' t' xs hk;obtain ⟨h1, h2⟩ := qG e;rw [zJ5] at h1;have hg : g = g' := zJ6 h1.1;have hw : w = t'.w := zJ6 h1.2;subst hg hw;obtain ⟨x, hx, h3⟩ := run_bind h2;split at h3
   ·rename_i v hv;have h5 := qAJ (h := h) hx hv;refine ⟨v, ?_, h5.2.2, h3⟩;simp only [SV.ok] at ha;have hn : n = xs.length := ha.2 _ _ _ _ _ hk;simp only [SV.enc, bU, y5 hk];rw [qV, hn, show spec P (SO.list el gr g w' t' xs).enc.el = false from jG (ho.list _ _ _ _ _ _ _ hk).2.1];simp only [rF, cond_true, cond_false];exact h5.1
   ·cases h3
  ·cases e
 ·rename_i t' xs j off;obtain ⟨x, hx, h3⟩ := run_bind e;split at h3
  ·rename_i v hv;have h5 := qAJ (h := h) hx hv;exact ⟨v, by simp only [SV.enc, bU]; exact h5.2.1, h5.2.2, h3⟩
  ·cases h3
 ·rename_i k off w;split at e
  ·rename_i el w' l hk;split at e
   ·rename_i ik hik;split at e
    ·rename_i xs hxs hag;obtain ⟨h1, h2⟩ := qG e;rw [zJ5, zK4] at h1;obtain ⟨hsp, h1⟩ := h1;obtain ⟨x, hx, h3⟩ := run_bind h2;refine ⟨_, ?_, by simp [SV.ok], h3⟩;simp only [SV.enc, bU, y5 hk];show cond (spec P el) none (cond (Nat.beq w (qB l).length) (nO P t (qB l) off) none) = _;rw [qW, h1, hsp];simp only [cond_true, cond_false];unfold nO;rw [hag];show zC (qB l) off = _;rw [qF, fI hxs, zKL, hx];simp [Ty.fv, fvv]
    ·cases e
   ·cases e
  ·cases e
 ·rename_i k g n w j off;split at e
  ·rename_i el gr g' w' t' xs hk;obtain ⟨h1, h2⟩ := qG e;rw [zJ5] at h1;have hg : g = g' := zJ6 h1.1;have hw : w = t'.w := zJ6 h1.2;subst hg hw;obtain ⟨x, hx, h3⟩ := run_bind h2;split at h3
   ·rename_i ik hik;split at h3
    ·rename_i ys hys hag;obtain ⟨z, hz, h4⟩ := run_bind h3;refine ⟨_, ?_, by simp [SV.ok], h4⟩;have hn1 : zC (qB (t'.svs x)) off = some (fvv (.int ik z)) := by rw [qF, fI hys, zKL, hz]; rfl
     rw [zH] at hn1;obtain ⟨v0, hv0, hv1⟩ := zKF.1 hn1;have hsp : qEM P t (t'.svs x) off = some v0 := by unfold qEM; rw [hag]; exact hv0
     have h5 := qAJ (h := h) hx hsp;simp only [SV.ok] at ha;have hn : n = xs.length := ha.2 _ _ _ _ _ hk;simp only [SV.enc, bU, y5 hk];rw [qV, hn, show spec P (SO.list el gr g w' t' xs).enc.el = false from jG (ho.list _ _ _ _ _ _ _ hk).2.1];simp only [rF, cond_true, cond_false];have h6 := h5.1;rw [hv1] at h6;rw [show (SO.list el gr g w' t' xs).enc.cs = (xs.flatMap t'.cells).map .f from rfl, h6];simp [Ty.fv, fvv]
    ·cases h3
   ·cases h3
  ·cases e
 ·cases e
def Post (P : Program) (h h' : SH) (v : SV) : Prop := Keep h h' ∧ OkH P h' ∧ v.ok h'
def yJ : SV -> List SV
 | .agg l => l
 | v => [v]
theorem aT (v : SV) : zF v.enc = qB (yJ v) := by
 cases v <;> simp [SV.enc, zF, yJ, qB, fvv];rename_i b _ _ _;cases b <;> rfl
omit [Yl] in
theorem qAZ (hv : v.ok h) : okL h (yJ v) := by
 cases v <;> simp only [yJ, okL, SV.ok, and_true] at hv ⊢ <;> exact hv
def qBI (l : List SV) (i : Nat) (vs : List SV) : List SV := l.take i ++ vs ++ l.drop (i + vs.length)
theorem qBV (l vs : List SV) (i : Nat) : qB (qBI l i vs) = kK (qB l) i (qB vs) := by
 simp [qBI, kK, qX, zMI, zMH]
omit [Yl] in
theorem qOH {vs : List SV} {i : Nat} (a : okL h l) (b : okL h vs) : okL h (qBI l i vs) :=
 aJ (aJ (qKB a fun z hz => zND hz) b) (qKB a fun z hz => zMV hz)
omit [Yl] in
theorem qZD {α : Type} (A B C : List α) (c : List α) (hle : off + c.length <= B.length) :
 (A ++ B ++ C).take (A.length + off) ++ c ++ (A ++ B ++ C).drop (A.length + off + c.length) = A ++ (B.take off ++ c ++ B.drop (off + c.length)) ++ C := by
 rw [zK0 A B C, List.take_append, zK7 (by omega), zNN, List.take_append_of_le_length (by omega)];rw [zLY, List.drop_append, List.drop_of_length_le (by omega), zNN, List.nil_append, List.drop_append_of_le_length (by omega)];simp [zK0]
omit [Yl] in
theorem qCV {t : Ty} {xs : List t.sem} {x : t.sem} (hx : xs[j]? = some x) (y : t.sem) : (xs.set j y).flatMap t.cells = (xs.take j).flatMap t.cells ++ t.cells y ++ (xs.drop (j + 1)).flatMap t.cells := by
 have hl := (zKA.1 hx).1;rw [zMX, if_pos hl, zNH, zKZ, zK0]
omit [Yl] in
theorem qCX {t : Ty} {xs : List t.sem} {x y : t.sem} (hx : xs[j]? = some x) {c : List PV} (hle : off + c.length <= t.w) (hy : kK ((t.cells x).map .f) off c = (t.cells y).map .f) :
 kK ((xs.flatMap t.cells).map .f) (j * t.w + off) c = ((xs.set j y).flatMap t.cells).map .f := by
 have hl := (zKA.1 hx).1
 have e0 : xs.set j x = xs := by
  apply zLH;intro i;rw [zK2];by_cases e : j = i
  ·subst e; rw [if_pos rfl, if_pos hl, hx]
  ·rw [if_neg e]
 have e1 := qCV hx x;rw [e0] at e1;rw [qCV hx y, e1];simp only [zLC];unfold kK;have hA : (((xs.take j).flatMap t.cells).map PV.f).length = j * t.w := by rw [zKQ, yR, zLG, zL4 (by omega)]
 rw [<- hA, qZD _ _ _ _ (by rw [zKQ, t.zAI]; exact hle)];unfold kK at hy;rw [hy]
def qVC (P : Program) (t : TypeId) (a x : SV) (h : SH) (K : SV -> SH -> q98 R) : q98 R := match szT P t with
 | some n => (match a with
   | .ref k off w => (match slk k h.l with
     | some (.cells el _ l) => cond (!(spec P el) && (Nat.beq w l.length && (Nat.beq n (yJ x).length && (Nat.ble (off + n) l.length && (pnt x.enc && (qB (yJ x)).all dL)))))
        (K (.tup []) (h.put k fun v => .cells el v (qBI l off (yJ x)))) .fail
     | _ => .fail)
   | .elt k g m w j off => (match slk k h.l with
     | some (.list el gr g' _ t' xs) => cond (Nat.beq g g' && (Nat.beq w t'.w && (Nat.beq n (yJ x).length && (Nat.ble (off + n) w && (pnt x.enc && (qB (yJ x)).all dL)))))
        (.bind (xs[j]?) fun y => match t'.zCR (qBI (t'.svs y) off (yJ x)) with
          | some z => K (.tup []) (h.put k fun v => .list el gr g v t' (List.set xs j z))
          | none => .fail) .fail
     | _ => .fail)
   | .rfx k off w => (match slk k h.l with
     | some (.cells el _ l) => (match q7S l with
       | some ik => (match qL9 ik l, q4X ik x with
         | some xs, some v => cond (!(spec P el) && (Nat.beq w l.length && Nat.beq n 1)) (.bind (q7P off v xs) fun ys => K (.tup []) (h.put k fun u => .cells el u (spread ik (List.length xs) ys))) .fail
         | _, _ => .fail)
       | none => .fail)
     | _ => .fail)
   | .etx k g m w j off => (match slk k h.l with
     | some (.list el gr g' _ t' xs) => cond (Nat.beq g g' && (Nat.beq w t'.w && Nat.beq n 1)) (.bind (xs[j]?) fun y => match q7S (t'.svs y) with
       | some ik => (match qL9 ik (t'.svs y), q4X ik x with
         | some ys, some v => .bind (q7P off v ys) fun zs => match t'.zCR (spread ik (List.length ys) zs) with
           | some z => K (.tup []) (h.put k fun v => .list el gr g v t' (List.set xs j z))
           | none => .fail
         | _, _ => .fail)
       | none => .fail) .fail
     | _ => .fail)
   | _ => .fail)
 | none => .fail
theorem qUP {a : SV} {K : SV -> SH -> q98 R} (ho : OkH P h) (ha : a.ok h) (hx : x.ok h) (e : (qVC P t a x h K).run = some r) :
 ∃ h', vY P t a.enc x.enc (qD h.l) = some (qD h'.l) ∧ Keep h h' ∧ OkH P h' ∧ (K (.tup []) h').run = some r := by
 unfold qVC at e;split at e
 ·rename_i n hn;split at e
  ·rename_i k off w;split at e
   ·rename_i el w' l hk;obtain ⟨h1, h2⟩ := qG e;rw [zJ5, zK4] at h1;obtain ⟨hsp, h1⟩ := h1;have hp := fZ (f := fun v => .cells el v (qBI l off (yJ x))) ho hk ⟨rfl, qOH (ho.cells _ _ _ _ hk) (qAZ hx)⟩;refine ⟨_, ?_, hp.1, hp.2, h2⟩;simp only [SV.enc, vY, y5 hk, hn];show cond (spec P el) none (cond (Nat.beq w (qB l).length && (Nat.beq n (zF x.enc).length && (Nat.ble (off + n) (qB l).length && (pnt x.enc && (zF x.enc).all dL)))) _ _) = _;rw [aT, qW, qW, h1, hsp];simp only [cond_true];rw [show qD (h.put k fun v => .cells el v (qBI l off (yJ x))).l = kQ k (SO.enc (.cells el h.next (qBI l off (yJ x)))) (qD h.l) from vH k _ _];show some (kQ k ⟨el, false, kK (qB l) off (qB (yJ x))⟩ (qD h.l)) = some (kQ k ⟨el, false, qB (qBI l off (yJ x))⟩ (qD h.l));rw [qBV]
   ·cases e
  ·rename_i k g m w j off;split at e
   ·rename_i el gr g' w' t' xs hk;obtain ⟨h1, h2⟩ := qG e;simp only [zJ5] at h1;obtain ⟨q1, q2, q3, q4, q5, q6⟩ := h1;have hg : g = g' := zJ6 q1;have hw : w = t'.w := zJ6 q2;subst hg hw;obtain ⟨y, hy, h3⟩ := run_bind h2;split at h3
    ·rename_i z hz;have hp := fZ (f := fun v => .list el gr g v t' (List.set xs j z)) ho hk ⟨_, rfl, by simp⟩;refine ⟨_, ?_, hp.1, hp.2, h3⟩;simp only [SV.ok] at ha;have hm : m = xs.length := ha.2 _ _ _ _ _ hk;have hle : off + n <= t'.w := zKE q4;simp only [SV.enc, vY, y5 hk, hn];rw [qV, hm, aT, qW, show spec P (SO.list el gr g w' t' xs).enc.el = false from jG (ho.list _ _ _ _ _ _ _ hk).2.1]
     have hjl : j * t'.w + off + n <= xs.length * t'.w := by
      have := qFC hy hle
      rwa [yR] at this
     rw [q3, q5, q6, show Nat.ble (j * t'.w + off + n) (xs.length * t'.w) = true from zKN hjl];simp only [rF, zLA, cond_true, cond_false];rw [show qD (h.put k fun v => .list el gr g v t' (List.set xs j z)).l = kQ k (SO.enc (.list el gr g h.next t' (List.set xs j z))) (qD h.l) from vH k _ _];show some (kQ k ⟨el, gr, kK ((xs.flatMap t'.cells).map .f) (j * t'.w + off) (qB (yJ x))⟩ (qD h.l)) = some (kQ k ⟨el, gr, ((List.set xs j z).flatMap t'.cells).map .f⟩ (qD h.l));have hnl : n = (qB (yJ x)).length := by rw [qW]; exact zJ6 q3
     rw [qCX hy (y := z) (by rw [<- hnl]; exact hle) (by rw [<- gI, <- qBV]; exact mJ hz)]
    ·cases h3
   ·cases e
  ·rename_i k off w;split at e
   ·rename_i el w' l hk;split at e
    ·rename_i ik hik;split at e
     ·rename_i xs v hxs hv;obtain ⟨h1, h2⟩ := qG e;simp only [zJ5, zK4] at h1;obtain ⟨hsp, hw, hn1⟩ := h1;have hn2 := zJ6 hn1;subst hn2;obtain ⟨ys, hys, h3⟩ := run_bind h2;unfold q7P at hys;split at hys
      case isFalse => cases hys
      rename_i hlt;cases hys;have hp := fZ (f := fun u => .cells el u (spread ik (List.length xs) (xs.set off v))) ho hk ⟨rfl, qUN⟩;refine ⟨_, ?_, hp.1, hp.2, h3⟩;have hel := fI hxs;have hll : (qB l).length = xs.length := by rw [hel, zKQ]
      simp only [SV.enc, vY, y5 hk, hn];rw [sI hv];show cond (spec P el) none (cond (Nat.beq w (qB l).length && (Nat.beq 1 1 && (Nat.ble (off + 1) (qB l).length && (true && true)))) (some (kQ k ⟨el, false, kK (qB l) off [fvv (.int ik v)]⟩ (qD h.l))) none) = _;rw [hsp, show Nat.beq w (qB l).length = true by rw [qW]; exact hw, hll, show Nat.ble (off + 1) xs.length = true from zKN hlt];rw [show qD (h.put k fun u => .cells el u (spread ik (List.length xs) (xs.set off v))).l = kQ k (SO.enc (.cells el h.next (spread ik (List.length xs) (xs.set off v)))) (qD h.l) from vH k _ _];show some (kQ k ⟨el, false, kK (qB l) off [fvv (.int ik v)]⟩ (qD h.l)) = some (kQ k ⟨el, false, qB (spread ik (List.length xs) (xs.set off v))⟩ (qD h.l));rw [qCT (by simp), hel]
      have : kK (xs.map fun x => fvv (.int ik x)) off [fvv (.int ik v)] = (xs.set off v).map fun x => fvv (.int ik x) := by
       rw [List.map_set, zMX, if_pos (by rw [zKQ]; exact hlt)];unfold kK;simp
      rw [this]
     ·cases e
    ·cases e
   ·cases e
  ·rename_i k g m w j off;split at e
   ·rename_i el gr g' w' t' xs hk;obtain ⟨h1, h2⟩ := qG e;simp only [zJ5] at h1;obtain ⟨q1, q2, q3⟩ := h1;have hg : g = g' := zJ6 q1;have hw : w = t'.w := zJ6 q2;have hn2 := zJ6 q3;subst hg hw hn2;obtain ⟨y, hy, h3⟩ := run_bind h2;split at h3
    ·rename_i ik hik;split at h3
     ·rename_i ys v hys hv;obtain ⟨zs, hzs, h4⟩ := run_bind h3;split at h4
      ·rename_i z hz;unfold q7P at hzs;split at hzs
       case isFalse => cases hzs
       rename_i hlt;cases hzs;have hp := fZ (f := fun v => .list el gr g v t' (List.set xs j z)) ho hk ⟨_, rfl, by simp⟩;refine ⟨_, ?_, hp.1, hp.2, h4⟩;simp only [SV.ok] at ha;have hm : m = xs.length := ha.2 _ _ _ _ _ hk;have hel := fI hys
       have hcw : ys.length = t'.w := by
        have := congrArg List.length hel;rw [gI, zKQ, zKQ, t'.zAI] at this;exact this.symm
       have hle : off + 1 <= t'.w := by omega
       simp only [SV.enc, vY, y5 hk, hn];rw [qV, hm, sI hv, show spec P (SO.list el gr g w' t' xs).enc.el = false from jG (ho.list _ _ _ _ _ _ _ hk).2.1]
       have hjl : j * t'.w + off + 1 <= xs.length * t'.w := by
        have := qFC hy hle
        rwa [yR] at this
       rw [show Nat.ble (j * t'.w + off + 1) (xs.length * t'.w) = true from zKN hjl];simp only [rF, cond_false];show some (kQ k ⟨el, gr, kK ((xs.flatMap t'.cells).map .f) (j * t'.w + off) [fvv (.int ik v)]⟩ (qD h.l)) = _;rw [show qD (h.put k fun v => .list el gr g v t' (List.set xs j z)).l = kQ k (SO.enc (.list el gr g h.next t' (List.set xs j z))) (qD h.l) from vH k _ _];show _ = some (kQ k ⟨el, gr, ((List.set xs j z).flatMap t'.cells).map .f⟩ (qD h.l));rw [qCX hy (y := z) hle ?_];rw [<- mJ hz, qCT (by simp), <- gI, hel, List.map_set, zMX, if_pos (by rw [zKQ]; exact hlt)];unfold kK;simp
      ·cases h4
     ·cases h3
    ·cases h3
   ·cases e
  ·cases e
 ·cases e
end
end Go.Sv
namespace Go.Sv
open Go.Idl
noncomputable section
variable [Gc]
variable [Yl]
variable {P : Program} {h : SH} {R : Type} {r : R}
def tyL : List (Option Ty) -> Option Ty
 | [] => some .unit
 | [t] => t.map fun t => .pair t .unit
 | [a, b] => match a, b with
   | some a, some b => some (.pair a b)
   | _, _ => none
 | a :: l => match a, tyL l with
   | some a, some b => some (.pair a b)
   | _, _ => none
def q9Q (P : Program) (t : TypeId) : Option Ty := match P.underlying t with
 | some (.slice el) => (match P.underlying el with
   | some (.int k) => some (.ol el k)
   | _ => none)
 | _ => none
def qD4 (P : Program) : Nat -> TypeId -> Option Ty
 | 0, _ => none
 | n + 1, t => match P.underlying t with
   | some (.int k) => some (.int k)
   | some .bool => some .bool
   | some .string => some .str
   | some (.slice el) => (match qD4 P n el with
     | some u => some (.list el u)
     | none => none)
   | some (.struct fields) => tyL (fields.toList.map fun f => cond (Gc.ol f.type) (q9Q P f.type) (qD4 P n f.type))
   | some (.array k el) => tyL (List.replicate k (qD4 P n el))
   | some (.interface ..) => some .nif
   | _ => none
def zcS (P : Program) (t : TypeId) : Option (List SV) := match qB7 P t with
 | some z => cond (kM okC z.cells.toList) (some (kF .c z.cells.toList)) none
 | none => none
theorem qBZ {t : TypeId} {l : List SV} (e : zcS P t = some l) : zc P t = some (qB l) ∧ okL h l := by
 unfold zcS at e;unfold zc;split at e
 ·rename_i z hz
  cases hc : kM okC z.cells.toList with
  | false => rw [hc] at e; cases e
  | true =>
    rw [hc] at e;cases e;rw [hz];simp only [hc, cond_true];exact ⟨by rw [q7Q], q7H _⟩
 ·cases e
def qSM (P : Program) (el : TypeId) (k : Nat) (h : SH) (K : SV -> SH -> q98 R) : q98 R := match zcS P el with
 | some l => cond (spec P el) .fail (K (.ref k 0 l.length) (h.new k fun v => .cells el v l))
 | none => .fail
theorem qT8 {el : TypeId} {k : Nat} {K : SV -> SH -> q98 R} (ho : OkH P h) (e : (qSM P el k h K).run = some r) : ∃ v h', mP P el k (qD h.l) = some (v.enc, qD h'.l) ∧ Post P h h' v ∧ (K v h').run = some r := by
 unfold qSM at e;split at e
 ·rename_i l hl;obtain ⟨h1, h2⟩ := qBZ (h := h) hl;have hp := xZ (k := k) (f := fun v => .cells el v l) ho ⟨rfl, h2⟩
  cases hsp : spec P el with
  | true => rw [hsp] at e; cases e
  | false =>
  rw [hsp] at e;refine ⟨_, _, ?_, ⟨hp.1, hp.2, by simp [SV.ok]⟩, e⟩;simp only [mP, h1, qJ6, SV.enc, qW, hsp, cond_false];rfl
 ·cases e
def q9K (P : Program) (el : TypeId) (v : SV) (k : Nat) (h : SH) (K : SV -> SH -> q98 R) : q98 R :=
 cond (!(spec P el) && (pnt v.enc && (qB (yJ v)).all dL)) (K (.ref k 0 (yJ v).length) (h.new k fun n => .cells el n (yJ v))) .fail
theorem q3I {el : TypeId} {v : SV} {k : Nat} {K : SV -> SH -> q98 R} (ho : OkH P h) (hv : v.ok h) (e : (q9K P el v k h K).run = some r) : ∃ x h', qYQ P el v.enc k (qD h.l) = some (x.enc, qD h'.l) ∧ Post P h h' x ∧ (K x h').run = some r := by
 obtain ⟨h1, h2⟩ := qG e;have hp := xZ (k := k) (f := fun n => .cells el n (yJ v)) ho ⟨rfl, qAZ hv⟩;refine ⟨_, _, ?_, ⟨hp.1, hp.2, by simp [SV.ok]⟩, h2⟩;unfold qYQ;rw [aT, h1];simp only [cond_true, qJ6, SV.enc, qW];rfl
def qPK (place : Nat -> Option (Nat × Nat)) : List SV -> List (Nat × SV) -> Option (List SV)
 | cells, [] => some cells
 | cells, (i, v) :: rest => match place i with
   | some (off, size) => cond (Nat.beq (yJ v).length size && (Nat.ble (off + size) cells.length && (pnt v.enc && (qB (yJ v)).all dL))) (qPK place (qBI cells off (yJ v)) rest) none
   | none => none
def q4Q (l : List (Nat × SV)) : List (Nat × PV) := l.map fun p => (p.1, p.2.enc)
theorem sQ {place : Nat -> Option (Nat × Nat)} : ∀ {l cs : List SV} {parts : List (Nat × SV)}, qPK place l parts = some cs -> qJC place (qB l) (q4Q parts) = some (qB cs) ∧ (okL h l -> (∀ p ∈ parts, p.2.ok h) -> okL h cs)
 | l, cs, [], e => by cases e; exact ⟨rfl, fun a _ => a⟩
 | l, cs, (i, v) :: rest, e => by
   unfold qPK at e;split at e
   ·rename_i off size hpl
    cases hc : (Nat.beq (yJ v).length size && (Nat.ble (off + size) l.length && (pnt v.enc && (qB (yJ v)).all dL))) with
    | false => rw [hc] at e; cases e
    | true =>
      rw [hc] at e;obtain ⟨h1, h2⟩ := sQ (l := qBI l off (yJ v)) e;refine ⟨?_, fun a b => h2 (qOH a (qAZ (b _ zKI))) fun p hp => b p (zKD _ hp)⟩
      show (match place i with
       | some (off, size) => cond (Nat.beq (zF v.enc).length size && (Nat.ble (off + size) (qB l).length && (pnt v.enc && (zF v.enc).all dL))) (qJC place (kK (qB l) off (zF v.enc)) (q4Q rest)) none
       | none => none) = some (qB cs)
      rw [hpl];simp only;rw [aT, qW, qW, hc, <- qBV];exact h1
   ·cases e
def qS0 (P : Program) (t : TypeId) (parts : List (Nat × SV)) : Option SV := match zcS P t with
 | some z => cond (qCB P t) (match qPK (qUE P t) z parts with
   | some cs => some (.agg cs)
   | none => none) none
 | none => none
theorem qVF {t : TypeId} {parts : List (Nat × SV)} {v : SV} (hp : ∀ p ∈ parts, p.2.ok h) (e : qS0 P t parts = some v) : qIW P t (q4Q parts) = some v.enc ∧ v.ok h := by
 unfold qS0 at e;split at e
 ·rename_i z hz;obtain ⟨h1, h2⟩ := qBZ (h := h) hz
  cases hb : qCB P t with
  | false => rw [hb] at e; cases e
  | true =>
    rw [hb] at e;simp only [cond_true] at e;split at e
    ·rename_i cs hcs;cases e;obtain ⟨h3, h4⟩ := sQ (h := h) hcs;simp only [qIW, h1, hb, cond_true, h3, SV.enc, SV.ok, true_and];exact h4 h2 hp
    ·cases e
 ·cases e
def Ty.zEK (t : Ty) : Nat -> List SV -> Option (List t.sem)
 | 0, [] => some []
 | 0, _ :: _ => none
 | n + 1, l => match t.zC4 l with
   | some (x, l') => (match t.zEK n l' with
     | some xs => some (x :: xs)
     | none => none)
   | none => none
theorem qPB {t : Ty} : ∀ {n : Nat} {l : List SV} {xs : List t.sem}, t.zEK n l = some xs -> qB l = (xs.flatMap t.cells).map .f ∧ xs.length = n
 | 0, [], xs, e => by cases e; simp [qB]
 | 0, _ :: _, xs, e => by cases e
 | n + 1, l, xs, e => by
   unfold Ty.zEK at e;split at e
   ·rename_i x l' hx;split at e
    ·rename_i ys hy;cases e;obtain ⟨h1, h2⟩ := qPB hy;rw [sV hx, h1, zKZ, zLC];exact ⟨rfl, by rw [zKO, h2]⟩
    ·cases e
   ·cases e
def q60 (n : Nat) (z : List SV) : List SV := (List.replicate n z).flatten
theorem qOM (n : Nat) (z : List SV) : qB (q60 n z) = qJR n (qB z) := by simp [q60, qJR, qX, List.map_flatten]
def dQ (P : Program) (t : TypeId) (len : Nat) (parts : List (Nat × SV)) (k : Nat) (h : SH) (K : SV -> SH -> q98 R) : q98 R := match zT P t with
 | some el => (match szT P el, zcS P el, qD4 P 8 el with
   | some (s + 1), some z, some ty => cond (Nat.beq ty.w (s + 1)) (cond (Nat.beq z.length (s + 1) && Nat.ble (len * (s + 1)) 65536) (match qPK (fun i => some (i * (s + 1), s + 1)) (q60 len z) parts with
     | some cs => (match ty.zEK len cs with
       | some xs => K (.own k h.next len) (h.new k fun v => .list el false v v ty xs)
       | none => .fail)
     | none => .fail) .fail) .fail
   | some (s + 1), some z, none => cond (Nat.beq z.length (s + 1) && Nat.ble (len * (s + 1)) 65536) (match qPK (fun i => some (i * (s + 1), s + 1)) (q60 len z) parts with
     | some cs => K (.own k h.next len) (h.new k fun v => .cells el v cs)
     | none => .fail) .fail
   | _, _, _ => .fail)
 | none => .fail
omit [Yl] in
theorem vR {el : TypeId} {gr : Bool} {k n : Nat} {ty : Ty} {xs : List ty.sem} (hn : n = xs.length) : (SV.own k h.next n).ok (h.new k fun v => .list el gr v v ty xs) := by
 simp only [SV.ok];refine ⟨zK1 _, fun el' gr' w' t' xs' hk => ?_⟩;rw [show slk k (h.new k fun v => .list el gr v v ty xs).l = some (.list el gr h.next h.next ty xs) from vI] at hk;cases hk;exact hn
theorem qCQ {t : TypeId} {len k : Nat} {parts : List (Nat × SV)} {K : SV -> SH -> q98 R} (ho : OkH P h) (hp : ∀ p ∈ parts, p.2.ok h) (e : (dQ P t len parts k h K).run = some r) :
 ∃ v h', z8 P t len (q4Q parts) k (qD h.l) = some (v.enc, qD h'.l) ∧ Post P h h' v ∧ (K v h').run = some r := by
 unfold dQ at e;split at e
 ·rename_i el hel;split at e
  ·rename_i s z ty hs hz hty;obtain ⟨e1, e⟩ := qG e;obtain ⟨e2, e⟩ := qG e;split at e
   ·rename_i cs hcs;split at e
    ·rename_i xs hxs;obtain ⟨z1, z2⟩ := qBZ (h := h) hz;obtain ⟨f1, f2⟩ := sQ (h := h) hcs;obtain ⟨d1, d2⟩ := qPB hxs;have hw : ty.w = s + 1 := zJ6 e1;have hn := xZ (k := k) (f := fun v => .list el false v v ty xs) ho ⟨rfl, rfl, by rw [hs, hw], by omega⟩;refine ⟨_, _, ?_, ⟨hn.1, hn.2, vR d2.symm⟩, e⟩;rw [qOM] at f1;simp only [z8, hel, hs, z1, qW, e2, cond_true, f1, qJ6, SV.enc, d1];rfl
    ·cases e
   ·cases e
  ·rename_i s z hs hz hty;obtain ⟨e2, e⟩ := qG e;split at e
   ·rename_i cs hcs;obtain ⟨z1, z2⟩ := qBZ (h := h) hz;obtain ⟨f1, f2⟩ := sQ (h := h) hcs
    have zHV : okL h cs := f2 (yA.2 fun x hx => by
     unfold q60 at hx;obtain ⟨l, hl, hx⟩ := zNV.1 hx;rw [List.eq_of_mem_replicate hl] at hx
     exact yA.1 z2 x hx) hp
    have hn := xZ (k := k) (f := fun v => .cells el v cs) ho ⟨rfl, zHV⟩;refine ⟨_, _, ?_, ⟨hn.1, hn.2, ?_⟩, e⟩
    ·rw [qOM] at f1;simp only [z8, hel, hs, z1, qW, e2, cond_true, f1, qJ6, SV.enc];rfl
    ·simp only [SV.ok];refine ⟨zK1 _, fun el' gr' w' t' xs' hk => ?_⟩;rw [show slk k (h.new k fun v => .cells el v cs).l = some (.cells el h.next cs) from vI] at hk;cases hk
   ·cases e
  ·cases e
 ·cases e
def q1P (P : Program) (t : TypeId) (l : SV) (k : Nat) (h : SH) (K : SV -> SH -> q98 R) : q98 R := match zT P t, asI l with
 | some el, some (_, n) => (match szT P el, zcS P el, qD4 P 8 el with
   | some (s + 1), some z, some ty => cond (kL P el && (Nat.beq z.length (s + 1) && Nat.beq ty.w (s + 1))) (match ty.zCR z with
     | some z0 => .bind (mkN n) fun N => K (.own k h.next N) (h.new k fun v => .list el false v v ty (List.replicate N z0))
     | none => .fail) .fail
   | _, _, _ => .fail)
 | _, _ => .fail
omit [Yl] in
theorem qOA {t : Ty} {z : t.sem} : ∀ (n : Nat), ((List.replicate n z).flatMap t.cells).map PV.f = qJR n ((t.cells z).map .f)
 | 0 => rfl
 | n + 1 => by
   rw [zLU, zKZ, zLC, qOA n];simp [qJR, zLU]
theorem qX6 {t : TypeId} {l : SV} {k : Nat} {K : SV -> SH -> q98 R} (ho : OkH P h) (e : (q1P P t l k h K).run = some r) :
 ∃ v h', xH P t l.enc l.enc k (qD h.l) = some (v.enc, qD h'.l) ∧ Post P h h' v ∧ (K v h').run = some r := by
 unfold q1P at e;split at e
 ·rename_i el ki n hel hl;split at e
  ·rename_i s z ty hs hz hty;obtain ⟨e1, e⟩ := qG e;simp only [zJ5] at e1;obtain ⟨q1, q2, q3⟩ := e1;split at e
   ·rename_i z0 hz0;obtain ⟨N, hN, e⟩ := run_bind e;obtain ⟨z1, z2⟩ := qBZ (h := h) hz;have hw : ty.w = s + 1 := zJ6 q3;have hn := xZ (k := k) (f := fun v => .list el false v v ty (List.replicate N z0)) ho ⟨rfl, rfl, by rw [hs, hw], by omega⟩;refine ⟨_, _, ?_, ⟨hn.1, hn.2, vR (xs := List.replicate N z0) (by simp)⟩, e⟩;rw [yG hl];simp only [xH, fvv, hel, decide_true, cond_true, hN, hs, z1, qW, q1, q2, zLA, qJ6, SV.enc];show some (PV.own k N 0 N, (k, (⟨el, false, qJR N (qB z)⟩ : PO)) :: qD h.l) = some (PV.own k N 0 N, (k, ⟨el, false, ((List.replicate N z0).flatMap ty.cells).map PV.f⟩) :: qD h.l);rw [qOA, mJ hz0]
   ·cases e
  ·cases e
 ·cases e
def q2X (h : SH) : SV -> Bool
 | .ref k _ w => match slk k h.l with
   | some (.cells _ _ l) => Nat.beq w l.length
   | _ => false
 | .elt k g _ w _ _ => match slk k h.l with
   | some (.list _ _ g' _ t _) => Nat.beq g g' && Nat.beq w t.w
   | _ => false
 | .lp _ _ _ _ => true
 | _ => false
theorem qOT {k off w : Nat} (e : q2X h (.ref k off w) = true) : live? k w (qD h.l) = true := by
 simp only [q2X] at e;split at e
 ·rename_i el w' l hk;unfold live?;rw [y5 hk];show Nat.beq w (qB l).length = true;rw [qW]; exact e
 ·cases e
theorem qNN {k g n w j off : Nat} (ho : (SV.elt k g n w j off).ok h) (e : q2X h (.elt k g n w j off) = true) : live? k (n * w) (qD h.l) = true := by
 simp only [q2X] at e;split at e
 ·rename_i el gr g' w' t xs hk;rw [zJ5] at e;have hg : g = g' := zJ6 e.1;have hw : w = t.w := zJ6 e.2;subst hg hw;simp only [SV.ok] at ho;unfold live?;rw [y5 hk];show Nat.beq (n * t.w) (SO.list el gr g w' t xs).enc.cs.length = true;rw [qV, ho.2 _ _ _ _ _ hk]; exact rF _
 ·cases e
def qLO (n : Nat) : SV -> SV
 | .ref k off w => .ref k (off + n) w
 | .elt k g m w j off => .elt k g m w j (off + n)
 | .lp t xs j off => .lp t xs j (off + n)
 | v => v
def q9N : SV -> Bool
 | .ref _ _ _ => true
 | .elt _ _ _ _ _ _ => true
 | .lp _ _ _ _ => true
 | _ => false
omit [Yl] in
theorem qVI {n : Nat} {v : SV} (hv : v.ok h) : (qLO n v).ok h := by
 cases v <;> simp only [qLO, SV.ok] at hv ⊢ <;> exact hv
def oZ (P : Program) (t : TypeId) (x : SV) (i : Nat) (h : SH) : Option SV := match q7J P t i with
 | some (off, ft) => (match szT P ft with
   | some (_ + 1) => cond (q2X h x) (some (qLO off x)) none
   | _ => none)
 | none => none
theorem qGJ {t : TypeId} {x v : SV} {i : Nat} (hx : x.ok h) (e : oZ P t x i h = some v) : zP P t x.enc i (qD h.l) = some v.enc ∧ v.ok h := by
 unfold oZ at e;unfold zP;split at e
 ·rename_i off ft hf;split at e
  ·rename_i s hs
   cases hl : q2X h x with
   | false => rw [hl] at e; cases e
   | true =>
     rw [hl] at e;cases e;refine ⟨?_, qVI hx⟩;simp only [hf, hs]
     cases x with
     | ref k o w => simp only [SV.enc, qLO, qOT hl, cond_true]
     | elt k g n w j o => simp only [SV.enc, qLO, qNN hx hl, cond_true, zLY]
     | lp t xs j o => simp only [SV.enc, qLO, zLY]
     | _ => cases hl
  ·cases e
 ·cases e
def q76 (n : Nat) (ix : SV) (K : Nat -> q98 R) : q98 R := match ix with
 | .c (.int _ i) => (match idx n i with
   | some j => K j
   | none => .fail)
 | v => (match asI v with
   | some (_, i) => .bind (idx n i) K
   | none => .fail)
theorem q12 {n : Nat} {ix : SV} {K : Nat -> q98 R} (e : (q76 n ix K).run = some r) : ∃ k i j, ix.enc = fvv (.int k i) ∧ idx n i = some j ∧ (K j).run = some r := by
 unfold q76 at e;split at e
 ·rename_i k i;split at e
  ·rename_i j hj;exact ⟨k, i, j, by simp [SV.enc], hj, e⟩
  ·cases e
 ·split at e
  ·rename_i k i hi;obtain ⟨j, hj, e⟩ := run_bind e;exact ⟨k, i, j, yG hi, hj, e⟩
  ·cases e
def q2O (n : Nat) (ix : SV) (K K2 : Nat -> q98 R) : q98 R := match ix with
 | .c (.int _ i) => (match idx n i with
   | some j => K j
   | none => .fail)
 | v => (match asI v with
   | some (_, i) => .bind (idx n i) K2
   | none => .fail)
theorem qY4 {n : Nat} {ix : SV} {K K2 : Nat -> q98 R} (e : (q2O n ix K K2).run = some r) : ∃ k i j, ix.enc = fvv (.int k i) ∧ idx n i = some j ∧ ((K j).run = some r ∨ (K2 j).run = some r) := by
 unfold q2O at e;split at e
 ·rename_i k i;split at e
  ·rename_i j hj;exact ⟨k, i, j, by simp [SV.enc], hj, .inl e⟩
  ·cases e
 ·split at e
  ·rename_i k i hi;obtain ⟨j, hj, e⟩ := run_bind e;exact ⟨k, i, j, yG hi, hj, .inr e⟩
  ·cases e
def q59 (n : Nat) : SV -> SV
 | .ref k off w => .rfx k (off + n) w
 | .elt k g m w j off => .etx k g m w j (off + n)
 | v => qLO n v
omit [Yl] in
theorem q33 {n : Nat} {v : SV} (hv : v.ok h) : (q59 n v).ok h := by
 cases v <;> simp only [q59, qLO, SV.ok] at hv ⊢ <;> exact hv
theorem qY2 {n : Nat} {v : SV} (hv : q9N v = true) : (q59 n v).enc = (qLO n v).enc := by
 cases v <;> first | rfl | (simp only [q59, qLO, SV.enc])
def oO (P : Program) (t : TypeId) (x ix : SV) (h : SH) (K : SV -> q98 R) : q98 R := match x with
 | .d (.list el u) xs => (match asI ix, zT P t with
   | some (_, i), some el' => (match szT P el' with
     | some s => cond (Nat.beq s u.w) (.bind (idx (List.length xs) i) fun j => K (.lp u xs j 0)) .fail
     | none => .fail)
   | _, _ => .fail)
 | .own k g n => (match asI ix, zT P t, slk k h.l with
   | some (_, i), some el', some (.list el _ g' _ u _) => cond (Nat.beq el' el && Nat.beq g g') (.bind (idx n i) fun j => K (.elt k g n u.w j 0)) .fail
   | some (_, i), some el', some (.cells el _ cs) => (match szT P el with
     | some s => cond (Nat.beq el' el && Nat.beq (n * s) cs.length) (.bind (idx n i) fun j => K (.ref k (j * s) cs.length)) .fail
     | none => .fail)
   | _, _, _ => .fail)
 | .sl k g n o m => (match asI ix, zT P t, slk k h.l with
   | some (_, i), some el', some (.list el _ g' _ u _) => cond (Nat.beq el' el && Nat.beq g g') (.bind (idx m i) fun j => K (.elt k g n u.w (o + j) 0)) .fail
   | _, _, _ => .fail)
 | x => (match qTD P t with
   | some (n, el) => (match szT P el with
     | some s => cond (q9N x && q2X h x) (q2O n ix (fun j => K (qLO (j * s) x)) fun j => K (q59 (j * s) x)) .fail
     | none => .fail)
   | none => .fail)
theorem qEA {t : TypeId} {x ix : SV} {K : SV -> q98 R} (ho : OkH P h) (hx : x.ok h) (e : (oO P t x ix h K).run = some r) : ∃ v, qQ P t x.enc ix.enc (qD h.l) = some v.enc ∧ v.ok h ∧ (K v).run = some r := by
 unfold oO at e;split at e
 ·rename_i el u xs;split at e
  ·rename_i k i el' hi hel;split at e
   ·rename_i s hs;obtain ⟨h1, e1⟩ := qG e;obtain ⟨j, hj, e2⟩ := run_bind e1;have hw : s = u.w := zJ6 h1;subst hw;refine ⟨_, ?_, by simp [SV.ok], e2⟩;rw [yG hi];simp only [SV.enc, Ty.fv, fvv, qQ, hel, hs, hj, zME]
   ·cases e
  ·cases e
 ·rename_i k g n;split at e
  ·rename_i ki i el' el gr g' w u xs hi hel hk;obtain ⟨h1, e1⟩ := qG e;obtain ⟨j, hj, e2⟩ := run_bind e1;rw [zJ5] at h1;have hg : g = g' := zJ6 h1.2;subst hg;simp only [SV.ok] at hx;have hn := hx.2 _ _ _ _ _ hk;have hl := ho.list _ _ _ _ _ _ _ hk;refine ⟨_, ?_, by simp only [SV.ok]; exact hx, e2⟩;rw [yG hi];simp only [SV.enc, fvv, qQ, hel, y5 hk]
   show (match szT P el with
    | some s => (match idx n i with
      | some j => cond (Nat.beq el' el && Nat.beq (n * s) (SO.list el gr g w u xs).enc.cs.length) (some (PV.ref k (SO.list el gr g w u xs).enc.cs.length ((0 + j) * s))) none
      | none => none)
    | none => none) = _
   rw [hl.2.1, hj];simp only [qV, hn, rF, h1.1, zLA, cond_true, zKT, zME]
  ·rename_i ki i el' el w cs hi hel hk;split at e
   ·rename_i s hs;obtain ⟨h1, e1⟩ := qG e;obtain ⟨j, hj, e2⟩ := run_bind e1;refine ⟨_, ?_, by simp [SV.ok], e2⟩;rw [yG hi];simp only [SV.enc, fvv, qQ, hel, y5 hk]
    show (match szT P el with
     | some s => (match idx n i with
       | some j => cond (Nat.beq el' el && Nat.beq (n * s) (qB cs).length) (some (PV.ref k (qB cs).length ((0 + j) * s))) none
       | none => none)
     | none => none) = _
    rw [hs, hj];simp only [qW, h1, cond_true, zKT]
   ·cases e
  ·cases e
 ·rename_i k g n o m;split at e
  ·rename_i ki i el' el gr g' w u xs hi hel hk;obtain ⟨h1, e1⟩ := qG e;obtain ⟨j, hj, e2⟩ := run_bind e1;rw [zJ5] at h1;have hg : g = g' := zJ6 h1.2;subst hg;simp only [SV.ok] at hx;have hn := hx.1.2 _ _ _ _ _ hk;have hl := ho.list _ _ _ _ _ _ _ hk;refine ⟨_, ?_, by simp only [SV.ok]; exact hx.1, e2⟩;rw [yG hi];simp only [SV.enc, fvv, qQ, hel, y5 hk]
   show (match szT P el with
    | some s => (match idx m i with
      | some j => cond (Nat.beq el' el && Nat.beq (n * s) (SO.list el gr g w u xs).enc.cs.length) (some (PV.ref k (SO.list el gr g w u xs).enc.cs.length ((o + j) * s))) none
      | none => none)
    | none => none) = _
   rw [hl.2.1];simp only [hj, qV, hn, rF, h1.1, zLA, cond_true, zME]
  ·cases e
 ·split at e
  ·rename_i n el ha;split at e
   ·rename_i s hs;obtain ⟨h1, e⟩ := qG e;rw [zJ5] at h1;obtain ⟨ki, i, j, hi, hj, e⟩ := qY4 e
    obtain ⟨v, hv1, hv2, e⟩ : ∃ v : SV, v.enc = (qLO (j * s) x).enc ∧ v.ok h ∧ (K v).run = some r := by
     rcases e with e | e
     ·exact ⟨_, rfl, qVI hx, e⟩
     ·exact ⟨_, qY2 h1.1, q33 hx, e⟩
    refine ⟨_, ?_, hv2, e⟩;rw [hi, hv1]
    cases x with
    | ref k o w => simp only [SV.enc, qLO, fvv, qQ, ha, hs, hj, qOT h1.2, cond_true]
    | elt k g n w j o => simp only [SV.enc, qLO, fvv, qQ, ha, hs, hj, qNN hx h1.2, cond_true, zLY]
    | lp t xs j o => simp only [SV.enc, qLO, fvv, qQ, ha, hs, hj, zLY]
    | _ => cases h1.1
   ·cases e
  ·cases e
def qTI (P : Program) (t : TypeId) (x ix : SV) (K : SV -> q98 R) : q98 R := match qTD P t, x with
 | some (n, el), .agg l => (match szT P el with
   | some s => q76 n ix fun j => match qEM P el l (j * s) with
     | some v => K v
     | none => .fail
   | none => .fail)
 | _, _ => .fail
theorem qT1 {t : TypeId} {x ix : SV} {K : SV -> q98 R} (hx : x.ok h) (e : (qTI P t x ix K).run = some r) : ∃ v, qC0 P t x.enc ix.enc = some v.enc ∧ v.ok h ∧ (K v).run = some r ∧ ∃ l, x = .agg l := by
 unfold qTI at e;split at e
 ·rename_i n el l ha;split at e
  ·rename_i s hs;obtain ⟨ki, i, j, hi, hj, e⟩ := q12 e;split at e
   ·rename_i v hv;obtain ⟨h1, h2⟩ := qES (h := h) hv;simp only [SV.ok] at hx;refine ⟨v, ?_, h2 hx, e, l, rfl⟩;rw [hi];simp only [qC0, ha, SV.enc, fvv, hs, hj];exact h1
   ·cases e
  ·cases e
 ·cases e
def qFF (v : SV) (i : Nat) : Option SV := match v with
 | .tup l => (match zC l i with
   | some x => cond (pnt x.enc) (some x) none
   | none => none)
 | _ => none
theorem qMG {x v : SV} {i : Nat} (hx : x.ok h) (e : qFF x i = some v) : bO x.enc i = some v.enc ∧ v.ok h := by
 unfold qFF at e;split at e
 ·rename_i l;split at e
  ·rename_i y hy
   cases hp : pnt y.enc with
   | false => rw [hp] at e; cases e
   | true =>
     rw [hp] at e;cases e;simp only [SV.ok] at hx;refine ⟨?_, dI hx hy⟩;simp only [bO, SV.enc, zH, hy, zKJ, hp, cond_true]
  ·cases e
 ·cases e
def tV (fn : Fn) (first cap : List SV) : Option SV := match fn with
 | .func g => some (match first, cap with
   | [], [] => .c (.func (.func g) #[] #[])
   | _, _ => .fn g first cap)
 | _ => none
theorem qHE {fn : Fn} {first cap : List SV} {v : SV} (h1 : okL h first) (h2 : okL h cap) (e : tV fn first cap = some v) : jQ fn (qB first) (qB cap) = some v.enc ∧ v.ok h := by
 unfold tV at e;split at e
 ·rename_i g;cases e
  cases first with
  | nil => cases cap with
    | nil => exact ⟨by simp [jQ, qB, SV.enc], by simp [SV.ok]⟩
    | cons x l => exact ⟨by simp [jQ, qB, SV.enc], by simp only [SV.ok]; exact ⟨h1, h2⟩⟩
  | cons y l => exact ⟨by simp [jQ, qB, SV.enc], by simp only [SV.ok]; exact ⟨h1, h2⟩⟩
 ·cases e
end
end Go.Sv
namespace Go.Sv
open Go.Idl
variable {el : TypeId} {k : Nat} {t : Ty} {x : SV}
noncomputable section
variable [Gc]
variable [Yl]
variable {P : Program} {h : SH} {R : Type} {r : R}
def q7X (P : Program) (ts : Array TypeId) (x : SV) (h : SH) : Option SV := match ts[0]? with
 | some t => (match zT P t with
   | some _ => (match x with
     | .d (.list _ _) xs => some (.d (.int .i64) ((List.length xs : Nat) : Int))
     | .c (.slice _ n _) => some (.c (.int .i64 (n : Int)))
     | .own k g n => (match slk k h.l with
       | some (.list _ _ g' _ _ _) => cond (Nat.beq g g') (some (.d (.int .i64) (n : Int))) none
       | some (.cells el _ cs) => (match szT P el with
         | some s => cond (Nat.beq (n * s) cs.length) (some (.c (.int .i64 (n : Int)))) none
         | none => none)
       | _ => none)
     | .sl k g _ _ m => (match slk k h.l with
       | some (.list _ _ g' _ _ _) => cond (Nat.beq g g') (some (.d (.int .i64) (m : Int))) none
       | _ => none)
     | _ => none)
   | none => (match qTD P t with
     | some (n, _) => some (.c (.int .i64 (n : Int)))
     | none => none))
 | none => none
theorem q2T {ts : Array TypeId} {v : SV} (ho : OkH P h) (hx : x.ok h) (e : q7X P ts x h = some v) : qYG P ts x.enc (qD h.l) = some v.enc ∧ v.ok h := by
 unfold q7X at e;unfold qYG;split at e
 ·rename_i t ht;split at e
  ·rename_i el hel;split at e
   ·rename_i el' u xs;cases e;simp [ht, hel, SV.enc, Ty.fv, fvv, SV.ok]
   ·rename_i a n c;cases e;simp [ht, hel, SV.enc, fvv, SV.ok]
   ·rename_i k g n;split at e
    ·rename_i el' gr g' w u xs hk
     obtain ⟨h1, e1⟩ : Nat.beq g g' = true ∧ some (SV.d (.int .i64) (n : Int)) = some v := by
      cases hb : Nat.beq g g' with
      | false => rw [hb] at e; cases e
      | true => rw [hb] at e; exact ⟨rfl, e⟩
     cases e1;have hg : g = g' := zJ6 h1;subst hg;simp only [SV.ok] at hx;have hn := hx.2 _ _ _ _ _ hk;have hl := ho.list _ _ _ _ _ _ _ hk;refine ⟨?_, by simp [SV.ok]⟩;simp only [ht, hel, SV.enc, y5 hk]
     show (match szT P el' with
      | some s => cond (Nat.beq (n * s) (SO.list el' gr g w u xs).enc.cs.length) (some (fvv (.int .i64 (n : Int)))) none
      | none => none) = _
     rw [hl.2.1];simp only [qV, hn, rF, cond_true, Ty.fv, fvv]
    ·rename_i el' w cs hk;split at e
     ·rename_i s hs
      cases hb : Nat.beq (n * s) cs.length with
      | false => rw [hb] at e; cases e
      | true =>
        rw [hb] at e;cases e;refine ⟨?_, by simp [SV.ok]⟩;simp only [ht, hel, SV.enc, y5 hk]
        show (match szT P el' with
         | some s => cond (Nat.beq (n * s) (qB cs).length) (some (fvv (.int .i64 (n : Int)))) none
         | none => none) = _
        rw [hs];simp only [qW, hb, cond_true]
     ·cases e
    ·cases e
   ·rename_i k g n o m;split at e
    ·rename_i el' gr g' w u xs hk
     obtain ⟨h1, e1⟩ : Nat.beq g g' = true ∧ some (SV.d (.int .i64) (m : Int)) = some v := by
      cases hb : Nat.beq g g' with
      | false => rw [hb] at e; cases e
      | true => rw [hb] at e; exact ⟨rfl, e⟩
     cases e1;have hg : g = g' := zJ6 h1;subst hg;simp only [SV.ok] at hx;have hn := hx.1.2 _ _ _ _ _ hk;have hl := ho.list _ _ _ _ _ _ _ hk;refine ⟨?_, by simp [SV.ok]⟩;simp only [ht, hel, SV.enc, y5 hk]
     show (match szT P el' with
      | some s => cond (Nat.beq (n * s) (SO.list el' gr g w u xs).enc.cs.length) (some (fvv (.int .i64 (m : Int)))) none
      | none => none) = _
     rw [hl.2.1];simp only [qV, hn, rF, cond_true, Ty.fv, fvv]
    ·cases e
   ·cases e
  ·rename_i hel;split at e
   ·rename_i n el ha;cases e;simp [ht, hel, ha, SV.enc, SV.ok]
   ·cases e
 ·cases e
def qFZ (u t : Ty) (xs : List u.sem) : Option (List t.sem) := if e : u = t then some (e ▸ xs) else none
omit [Yl] in
theorem nK {u : Ty} {xs : List u.sem} {ys : List t.sem} (e : qFZ u t xs = some ys) : (⟨u, xs⟩ : (t : Ty) × List t.sem) = ⟨t, ys⟩ := by
 unfold qFZ at e;split at e
 ·rename_i h;subst h;cases e;rfl
 ·cases e
def qXA (t : Ty) (x : SV) (h : SH) : Option (List t.sem) := match x with
 | .d (.list _ u) xs => qFZ u t xs
 | .c (.slice none 0 _) => some []
 | .own k g _ => (match slk k h.l with
   | some (.list _ _ g' _ u xs) => cond (Nat.beq g g') (qFZ u t xs) none
   | _ => none)
 | .sl k g _ o m => (match slk k h.l with
   | some (.list _ _ g' _ u xs) => cond (Nat.beq g g') (match qFZ u t xs with
     | some xs => some ((xs.drop o).take m)
     | none => none) none
   | _ => none)
 | _ => none
theorem qXH {ys : List t.sem} (ho : OkH P h) (hx : x.ok h) (e : qXA t x h = some ys) : rP P t.w x.enc (qD h.l) = some (ys.length, (ys.flatMap t.cells).map .f) := by
 unfold qXA at e;unfold rP;split at e
 ·rename_i el u xs;cases nK e;simp only [SV.enc, Ty.fv, yR, rF, cond_true]
 ·cases e;simp [SV.enc, fvv]
 ·rename_i k g n;split at e
  ·rename_i el gr g' w u xs hk
   cases hb : Nat.beq g g' with
   | false => rw [hb] at e; cases e
   | true =>
     rw [hb] at e;have hg : g = g' := zJ6 hb;subst hg;cases nK e;simp only [SV.ok] at hx;have hn := hx.2 _ _ _ _ _ hk;have hl := ho.list _ _ _ _ _ _ _ hk;simp only [SV.enc, y5 hk]
     show (match szT P el with
      | some s' => cond (Nat.beq (n * s') (SO.list el gr g w t ys).enc.cs.length && Nat.beq t.w s') (some (n, (((ys.flatMap t.cells).map PV.f).drop (0 * t.w)).take (n * t.w))) none
      | none => none) = _
     rw [hl.2.1];simp only [qV, hn, rF, zLA, cond_true, Nat.zero_mul, zMM];rw [zK7 (by rw [zKQ, yR]; exact zJ7 _)]
  ·cases e
 ·rename_i k g n o m;split at e
  ·rename_i el gr g' w u xs hk
   cases hb : Nat.beq g g' with
   | false => rw [hb] at e; cases e
   | true =>
     rw [hb] at e;have hg : g = g' := zJ6 hb;subst hg;simp only [cond_true] at e;split at e
     case h_2 => cases e
     rename_i xs2 zHW;cases e;cases nK zHW;simp only [SV.ok] at hx;have hn := hx.1.2 _ _ _ _ _ hk;have hl := ho.list _ _ _ _ _ _ _ hk;simp only [SV.enc, y5 hk]
     show (match szT P el with
      | some s' => cond (Nat.beq (n * s') (SO.list el gr g w t xs2).enc.cs.length && Nat.beq t.w s') (some (m, (((xs2.flatMap t.cells).map PV.f).drop (o * t.w)).take (m * t.w))) none
      | none => none) = _
     rw [hl.2.1];simp only [qV, hn, rF, zLA, cond_true];rw [<- zMH, <- zMI, fP, nH]
     congr 1
     have := hx.2;rw [zLG, zML, zL4 (by omega)]
  ·cases e
 ·cases e
omit [Yl] in
theorem qR0 (ys : List t.sem) : ((ys.flatMap t.cells).map PV.f).all dL = true := by
 rw [zJ8];intro x hx;obtain ⟨y, _, rfl⟩ := zKX.1 hx;rfl
omit [Yl] in
theorem qEL {h0 : SH} {gr : Bool} {n m : Nat} {ty : Ty} {xs ys : List ty.sem} (hn : n = xs.length) (hm : m = ys.length) : (SV.own k h0.next (n + m)).ok (h0.new k fun v => .list el gr v v ty (xs ++ ys)) :=
 vR (by rw [zKW, hn, hm])
def qLQ (P : Program) (ts : List TypeId) (base x : SV) (k : Nat) (h : SH) (K : SV -> SH -> q98 R) : q98 R := match ts with
 | [st, xt] => (match zT P st, zT P xt with
   | some el, some _ => (match szT P el, qD4 P 8 el with
     | some (s + 1), some t => cond (Nat.beq t.w (s + 1) && kL P el) (match qXA t x h with
       | some ys => (match base with
         | .c (.slice none 0 0) => .ite (Nat.beq ys.length 0) (K base h)
            (.ite (Nat.ble (0 + ys.length) 1048576) (K (.own k h.next (0 + ys.length)) (h.new k fun v => .list el true v v t ([] ++ ys))) .fail)
         | .own j g n => (match slk j h.l with
           | some (.list el' gr g' _ u xs) => cond (Nat.beq el' el && Nat.beq g g') (match qFZ u t xs with
             | some xs => .ite (Nat.beq ys.length 0) (K base h)
                (.ite (Nat.ble (n + ys.length) 1048576) (cond gr (K (.own j h.next (n + ys.length)) ((h.del j).new j fun v => .list el true v v t (xs ++ ys))) (K (.own k h.next (n + ys.length)) (h.new k fun v => .list el true v v t (xs ++ ys)))) .fail)
             | none => .fail) .fail
           | _ => .fail)
         | _ => .fail)
       | none => .fail) .fail
     | _, _ => .fail)
   | _, _ => .fail)
 | _ => .fail
omit [Yl] in
theorem qEX {xs ys : List t.sem} {ph : PHp} (h1 : Nat.ble (xs.length + ys.length) 1048576 = true) (h2 : kL P el = true) :
 mG P el t.w ((xs.flatMap t.cells).map .f) xs.length ((ys.flatMap t.cells).map .f) ys.length k ph = some (.own k (xs.length + ys.length) 0 (xs.length + ys.length), (k, ⟨el, true, ((xs ++ ys).flatMap t.cells).map .f⟩) :: ph) := by
 unfold mG;rw [h1, h2, zKQ, yR, zKQ, yR, qR0];simp only [rF, zLA, cond_true, qJ6];rw [zNH, zLC]
theorem qQ6 {ts : List TypeId} {base : SV} {K : SV -> SH -> q98 R} (ho : OkH P h) (hb : base.ok h) (hx : x.ok h) (e : (qLQ P ts base x k h K).run = some r) :
 ∃ v h', yB P ts base.enc x.enc k (qD h.l) = some (v.enc, qD h'.l) ∧ Post P h h' v ∧ (K v h').run = some r := by
 unfold qLQ at e;split at e
 ·rename_i st xt;split at e
  ·rename_i el el2 hel zFJ;split at e
   ·rename_i s t hs hty;have e_ := qG e;clear e;obtain ⟨c1, e⟩ := e_;rw [zJ5] at c1;have hw : s + 1 = t.w := (zJ6 c1.1).symm;split at e
    ·rename_i ys hys;have hnw := qXH ho hx hys;split at e
     ·have e_ := run_ite e;clear e
      rcases e_ with ⟨z, e⟩ | ⟨z, e⟩
      ·refine ⟨_, _, ?_, ⟨.refl _, ho, hb⟩, e⟩;simp only [yB, hel, zFJ, hs, SV.enc, fvv];rw [hw, hnw];simp only [z, cond_true]
      ·have e_ := run_ite e;clear e
       rcases e_ with ⟨z2, e⟩ | ⟨z2, e⟩
       ·have hn := xZ (k := k) (f := fun v => .list el true v v t ([] ++ ys)) ho ⟨rfl, rfl, by rw [hs]; exact congrArg some hw, by omega⟩;refine ⟨_, _, ?_, ⟨hn.1, hn.2, qEL (xs := []) rfl rfl⟩, e⟩;simp only [yB, hel, zFJ, hs, SV.enc, fvv];rw [hw, hnw];simp only [z, cond_false];exact qEX (xs := []) z2 c1.2
       ·cases e
     ·rename_i j g n;split at e
      ·rename_i el' gr g' w u xs0 hk;have e_ := qG e;clear e;obtain ⟨c2, e⟩ := e_;rw [zJ5] at c2;have he : el' = el := zJ6 c2.1;have hg : g = g' := zJ6 c2.2;split at e
       ·rename_i xs hxs;have hcast := nK hxs
        have hk2 : slk j h.l = some (.list el gr g w t xs) := by
         rw [hk, he, <- hg];cases hcast;rfl
        have hnl : n = xs.length := by
         simp only [SV.ok] at hb;exact hb.2 _ _ _ _ _ hk2
        have pre : ∀ z : PV × PHp, (cond (Nat.beq ys.length 0) (some (PV.own j n 0 n, qD h.l))
         (cond (Nat.ble (n + ys.length) n) (cond (Nat.beq ((ys.flatMap t.cells).map PV.f).length (ys.length * (s + 1)) && ((ys.flatMap t.cells).map PV.f).all dL) (some (PV.own j n 0 (n + ys.length), kQ j { (SO.list el gr g w t xs).enc with cs := kK (SO.list el gr g w t xs).enc.cs (n * (s + 1)) ((ys.flatMap t.cells).map PV.f) } (qD h.l))) none)
           (cond gr (mG P el (s + 1) (SO.list el gr g w t xs).enc.cs n ((ys.flatMap t.cells).map PV.f) ys.length j (rV j (qD h.l))) (mG P el (s + 1) (SO.list el gr g w t xs).enc.cs n ((ys.flatMap t.cells).map PV.f) ys.length k (qD h.l))))) = some z ->
         yB P [st, xt] (SV.own j g n).enc x.enc k (qD h.l) = some z := fun z hz => by
         simp only [yB, hel, zFJ, hs, SV.enc];rw [show rP P (s + 1) x.enc (qD h.l) = _ from (hw ▸ hnw)];simp only [y5 hk2];rw [show (SO.list el gr g w t xs).enc.el = el from rfl, show Nat.beq (n * (s + 1)) (SO.list el gr g w t xs).enc.cs.length = true by rw [qV, hw, hnl]; exact rF _];simp only [rF, zLA, cond_true];exact hz
        have e_ := run_ite e;clear e
        rcases e_ with ⟨z, e⟩ | ⟨z, e⟩
        ·refine ⟨_, _, pre _ ?_, ⟨.refl _, ho, hb⟩, e⟩;rw [z]; simp [SV.enc]
        ·have e_ := run_ite e;clear e
         rcases e_ with ⟨z2, e⟩ | ⟨z2, e⟩
         ·have hpos : Nat.ble (n + ys.length) n = false := by
           cases hq : Nat.ble (n + ys.length) n with
           | false => rfl
           | true =>
             have h0 := zKE hq;have : ys.length = 0 := by omega
             rw [this] at z;cases z
          cases hgr : gr with
          | true =>
            rw [hgr] at e;have hd := dV (k := j) ho;have hn := xZ (h := h.del j) (k := j) (f := fun v => .list el true v v t (xs ++ ys)) hd.2 ⟨rfl, rfl, by rw [hs]; exact congrArg some hw, by omega⟩;refine ⟨_, _, pre _ ?_, ⟨hd.1.trans hn.1, hn.2, qEL (h0 := h.del j) hnl rfl⟩, e⟩;rw [z, hpos, hgr];simp only [cond_true, cond_false];rw [hw, hnl];rw [hnl] at z2;rw [show (SO.list el true g w t xs).enc.cs = (xs.flatMap t.cells).map .f from rfl, qEX z2 c1.2, <- oF];rfl
          | false =>
            rw [hgr] at e;have hn := xZ (h := h) (k := k) (f := fun v => .list el true v v t (xs ++ ys)) ho ⟨rfl, rfl, by rw [hs]; exact congrArg some hw, by omega⟩;refine ⟨_, _, pre _ ?_, ⟨hn.1, hn.2, qEL (h0 := h) hnl rfl⟩, e⟩;rw [z, hpos, hgr];simp only [cond_false];rw [hw, hnl];rw [hnl] at z2;rw [show (SO.list el false g w t xs).enc.cs = (xs.flatMap t.cells).map .f from rfl, qEX z2 c1.2];rfl
         ·cases e
       ·cases e
      ·cases e
     ·cases e
    ·cases e
   ·cases e
  ·cases e
 ·cases e
end
end Go.Sv
namespace Go.Sv
open Go.Idl
noncomputable section
variable [Gc]
variable [Yl]
variable {P : Program} {h : SH} {R : Type} {r : R}
def q82 {α : Type} (xs ys : List α) (o c : Nat) : List α := xs.take o ++ (ys.take c ++ xs.drop (o + c))
def q90 (P : Program) (ts : List TypeId) (base x : SV) (h : SH) (K : SV -> SH -> q98 R) : q98 R := match ts with
 | [st, xt] => (match zT P st, zT P xt with
   | some el, some _ => (match szT P el, qD4 P 8 el with
     | some (s + 1), some t => cond (Nat.beq t.w (s + 1)) (match qXA t x h with
       | some ys => (match base with
         | .own j g n => (match slk j h.l with
           | some (.list el' gr g' _ u xs) => cond (Nat.beq el' el && Nat.beq g g') (match qFZ u t xs with
             | some xs => K (.d (.int .i64) ((Nat.min ys.length n : Nat) : Int)) (h.put j fun v => .list el gr g v t (q82 xs ys 0 (Nat.min ys.length n)))
             | none => .fail) .fail
           | _ => .fail)
         | .sl j g n o m => (match slk j h.l with
           | some (.list el' gr g' _ u xs) => cond (Nat.beq el' el && Nat.beq g g') (match qFZ u t xs with
             | some xs => K (.d (.int .i64) ((Nat.min ys.length m : Nat) : Int)) (h.put j fun v => .list el gr g v t (q82 xs ys o (Nat.min ys.length m)))
             | none => .fail) .fail
           | _ => .fail)
         | .d (.list _ _) xs => .ite (Nat.beq (List.length xs) 0) (K (.d (.int .i64) 0) h) .fail
         | .c (.slice none 0 _) => K (.d (.int .i64) 0) h
         | _ => .fail)
       | none => .fail) .fail
     | _, _ => .fail)
   | _, _ => .fail)
 | _ => .fail
def qZ6 (most : Nat) (i : Int) : Option Nat := if 0 <= i ∧ i <= (most : Int) then some i.toNat else none
def qQ7 (d most : Nat) (x : Option SV) (K : Nat -> q98 R) : q98 R := match x with
 | none => K d
 | some v => (match asI v with
   | some (_, i) => .bind (qZ6 most i) K
   | none => .fail)
theorem wW {d most : Nat} {x : Option SV} {K : Nat -> q98 R} (e : (qQ7 d most x K).run = some r) : ∃ n, bnd d most (x.map SV.enc) = some n ∧ (n = d ∨ n <= most) ∧ (K n).run = some r := by
 unfold qQ7 at e;split at e
 ·exact ⟨d, rfl, .inl rfl, e⟩
 ·rename_i v;split at e
  ·rename_i k i hi;have e_ := run_bind e;clear e;obtain ⟨n, hn, e⟩ := e_;refine ⟨n, ?_, .inr ?_, e⟩
   ·simp only [zKJ, yG hi, fvv, bnd]; exact hn
   ·unfold qZ6 at hn;split at hn
    ·cases hn; omega
    ·cases hn
  ·cases e
def qUA (P : Program) (t : TypeId) (x : SV) (lo hi : Option SV) (h : SH) (K : SV -> q98 R) : q98 R := match x with
 | .d (.list el u) xs => (match zT P t, szT P el with
   | some el', some s => cond (Nat.beq el' el && Nat.beq s u.w) (qQ7 (List.length xs) (List.length xs) hi fun b => qQ7 0 b lo fun a => K (.d (.list el u) ((List.drop a xs).take (b - a)))) .fail
   | _, _ => .fail)
 | .c (.slice none 0 0) => (match zT P t with
   | some el => cond (szT P el).isSome (qQ7 0 0 hi fun _ => qQ7 0 0 lo fun _ => K x) .fail
   | none => .fail)
 | .own k g n => (match zT P t, slk k h.l with
   | some el', some (.list el _ g' _ u _) => cond (Nat.beq el' el && Nat.beq g g') (qQ7 n n hi fun b => qQ7 0 b lo fun a =>
      .ite (Nat.beq a 0) (K (.sl k g n 0 b)) (.ite (Nat.beq a b) (K (.d (.list el u) [])) (K (.sl k g n a (b - a))))) .fail
   | _, _ => .fail)
 | .sl k g n o m => (match zT P t, slk k h.l with
   | some el', some (.list el _ g' _ u _) => cond (Nat.beq el' el && Nat.beq g g') (qQ7 m m hi fun b => qQ7 0 b lo fun a =>
      .ite (Nat.beq a 0) (K (.sl k g n o b)) (.ite (Nat.beq a b) (K (.d (.list el u) [])) (K (.sl k g n (o + a) (b - a))))) .fail
   | _, _ => .fail)
 | _ => .fail
theorem qS7 {t : TypeId} {x : SV} {lo hi : Option SV} {K : SV -> q98 R} (ho : OkH P h) (hx : x.ok h) (e : (qUA P t x lo hi h K).run = some r) :
 ∃ v, wI P t x.enc (lo.map SV.enc) (hi.map SV.enc) (qD h.l) = some v.enc ∧ v.ok h ∧ (K v).run = some r := by
 unfold qUA at e
 have key : ∀ {k g n o m w : Nat} {gr : Bool} {el el' : TypeId} {u : Ty} {xs : List u.sem}, slk k h.l = some (.list el gr g w u xs) -> n = xs.length -> o + m <= n -> g < h.next -> zT P t = some el' -> Nat.beq el' el = true ->
  ∀ a b, bnd m m (hi.map SV.enc) = some b -> b <= m -> bnd 0 b (lo.map SV.enc) = some a -> a <= b ->
  (q98.ite (Nat.beq a 0) (K (.sl k g n o b)) (.ite (Nat.beq a b) (K (.d (.list el u) [])) (K (.sl k g n (o + a) (b - a))))).run = some r ->
  ∃ v, wI P t (.own k n o m) (lo.map SV.enc) (hi.map SV.enc) (qD h.l) = some v.enc ∧ v.ok h ∧ (K v).run = some r := by
  intro k g n o m w gr el el' u xs hk hn hom hg hel hbe a b hb hbm ha hab e;have hl := ho.list _ _ _ _ _ _ _ hk
  have pre : wI P t (.own k n o m) (lo.map SV.enc) (hi.map SV.enc) (qD h.l) = some (cond (Nat.beq a 0) (.own k n o b) (cond (Nat.beq a b) (.f (.l el 0 [])) (.own k n (o + a) (b - a)))) := by
   simp only [wI, y5 hk, hel];rw [show (SO.list el gr g w u xs).enc.el = el from rfl, hl.2.1, hb];simp only [ha, qV, hn, rF, hbe, zLA, cond_true]
  have hsl : qYO h k g n := ⟨hg, fun el2 gr2 w2 t2 xs2 hk2 => by
   rw [hk] at hk2;cases hk2
   exact hn⟩
  rw [pre]
  rcases run_ite e with ⟨z, e⟩ | ⟨z, e⟩
  ·exact ⟨_, by rw [z]; simp [SV.enc], by simp only [SV.ok]; exact ⟨hsl, by omega⟩, e⟩
  ·rcases run_ite e with ⟨z2, e⟩ | ⟨z2, e⟩
   ·exact ⟨_, by rw [z, z2]; simp [SV.enc, Ty.fv], by simp [SV.ok], e⟩
   ·exact ⟨_, by rw [z, z2]; simp [SV.enc], by simp only [SV.ok]; exact ⟨hsl, by omega⟩, e⟩
 split at e
 ·rename_i el u xs;split at e
  ·rename_i el' s hel hs;have e_ := qG e;clear e;obtain ⟨c1, e⟩ := e_;rw [zJ5] at c1;have hw : s = u.w := zJ6 c1.2;have he : el' = el := zJ6 c1.1;subst hw he;obtain ⟨b, hb, hb2, e1⟩ := wW e;obtain ⟨a, ha, ha2, e2⟩ := wW e1;have hbl : b <= xs.length := by rcases hb2 with q | q <;> omega
   have hab : a <= b := by rcases ha2 with q | q <;> omega
   refine ⟨_, ?_, by simp [SV.ok], e2⟩;simp only [SV.enc, Ty.fv, wI, hel, hs, hb, ha, rF, yR, zLA, cond_true];rw [fP, nH]
   cases hq : Nat.beq a b with
   | true =>
     have : a = b := zJ6 hq;subst this;simp
   | false =>
     simp only [cond_false, zLG, zML];rw [zL4 (by omega)]
  ·cases e
 ·split at e
  ·rename_i el hel;have e_ := qG e;clear e;obtain ⟨c1, e⟩ := e_;obtain ⟨b, hb, hb2, e1⟩ := wW e;obtain ⟨a, ha, ha2, e2⟩ := wW e1;refine ⟨_, ?_, by simp [SV.ok], e2⟩;have hb' : bnd 0 0 (hi.map SV.enc) = some b := hb;simp only [SV.enc, fvv, wI, hel, hb', ha, c1, cond_true]
  ·cases e
 ·rename_i k g n;split at e
  ·rename_i el' el gr g' w u xs hel hk;have e_ := qG e;clear e;obtain ⟨c1, e⟩ := e_;rw [zJ5] at c1;have hg : g = g' := zJ6 c1.2;subst hg;obtain ⟨b, hb, hb2, e1⟩ := wW e;obtain ⟨a, ha, ha2, e2⟩ := wW e1;simp only [SV.ok] at hx;refine key hk (hx.2 _ _ _ _ _ hk) (by omega) hx.1 hel c1.1 a b hb (by rcases hb2 with q | q <;> omega) ha (by rcases ha2 with q | q <;> omega) ?_;rw [zKT]; exact e2
  ·cases e
 ·rename_i k g n o m;split at e
  ·rename_i el' el gr g' w u xs hel hk;have e_ := qG e;clear e;obtain ⟨c1, e⟩ := e_;rw [zJ5] at c1;have hg : g = g' := zJ6 c1.2;subst hg;obtain ⟨b, hb, hb2, e1⟩ := wW e;obtain ⟨a, ha, ha2, e2⟩ := wW e1;simp only [SV.ok] at hx;exact key hk (hx.1.2 _ _ _ _ _ hk) hx.2 hx.1.1 hel c1.1 a b hb (by rcases hb2 with q | q <;> omega) ha (by rcases ha2 with q | q <;> omega) e2
  ·cases e
 ·cases e
end
end Go.Sv
namespace Go.Sv
open Go.Idl
variable [Gc]
variable {P : Program} {t t2 : TypeId} {a b : ByteArray} {ph : PHp}
theorem aV {v : Value} (h3 : qJE v = true) (h4 : ofC v = fvv v) : qQ8 (qBL H00 v) = some (fvv v) := by
 unfold qBL;rw [h3];show some (ofC v) = _;rw [h4]
theorem qLP {op : BinOp} {v : Value} (h1 : zAO P (cop (.binOp op t (.const (.string a)) (.const (.string b)) t2)) op t (.string a) (.string b) [] H00 = kG P (cop (.binOp op t (.const (.string a)) (.const (.string b)) t2)) [] H00)
 (h2 : yE P (execOp (Env.val []) (cop (.binOp op t (.const (.string a)) (.const (.string b)) t2))) = some (.value v)) (h3 : qJE v = true) (h4 : ofC v = fvv v) : vB P op t t2 (fvv (.string a)) (fvv (.string b)) ph = some (fvv v) := by
 unfold vB;simp only [fvv, pl, q6U, cond_false];show qQ8 (zAO P _ op t (.string a) (.string b) [] H00) = _;rw [h1];unfold kG;have : zL (kF (Env.val []) (cop (.binOp op t (.const (.string a)) (.const (.string b)) t2)).op.operands.toList) = true := rfl;rw [if_pos this, h2];exact aV h3 h4
theorem q1G (hl : a.size + b.size <= 9223372036854775807) : vB P .add t t2 (fvv (.string a)) (fvv (.string b)) ph = some (fvv (.string (a ++ b))) := by
 refine qLP rfl ?_ rfl rfl;have hm : IntKind.i64.max = 9223372036854775807 := rfl;have : ¬ (((a.size + b.size : Nat) : Int) > IntKind.i64.max) := by rw [hm]; omega
 show yE P (do eqGuard .add t (.const (.string a)) (.const (.string b)) (.string a) (.string b); let v <- Op.stringOp .add a b; pure (Next.value v)) = _;unfold Op.stringOp;simp only [this, if_false];rfl
theorem q1I : vB P .eql t t2 (fvv (.string a)) (fvv (.string b)) ph = some (fvv (.bool (a.toList == b.toList))) := qLP rfl rfl rfl rfl
theorem q3Q : vB P .neq t t2 (fvv (.string a)) (fvv (.string b)) ph = some (fvv (.bool (!(a.toList == b.toList)))) := qLP rfl rfl rfl rfl
theorem dB {α β : Type} (s : Sem α) (g : α -> Sem β) : yE P (s >>= g) = (yE P s).bind fun a => yE P (g a) := kI g s
theorem dP {α : Type} (a : α) : yE P (pure a : Sem α) = some a := rfl
theorem qXC {ts : Array TypeId} (hs : qWI P ts = true) : ∃ t, ts[0]? = some t ∧ P.underlying t = some .string := by
 unfold qWI at hs
 cases h0 : ts[0]? with
 | none => rw [h0] at hs; cases hs
 | some t =>
   rw [h0] at hs;simp only [zKP] at hs;split at hs
   ·rename_i hq; exact ⟨t, rfl, hq⟩
   ·cases hs
theorem q6Z {t : TypeId} {ts : Array TypeId} {ty : TypeId} (h0 : ts[0]? = some t) (hu : P.underlying t = some .string) : yE P (Go.Builtin.len_ ts ty #[.string a]) = some (goInt a.size) := by
 unfold Go.Builtin.len_;simp only [h0, dB, zQ, hu, zKP, zL8, zKU];rfl
theorem qOD {x : Operand} {ts : Array TypeId} {ty : TypeId} {env : Env} (hs : qWI P ts = true) (hx : env.val x = .string a) :
 qQ8 (kG P (cop (.call ⟨.builtin .len, #[x], ts⟩) ty) env H00) = some (fvv (.int .i64 (a.size : Int))) := by
 have h2 : kF env.val (cop (.call ⟨.builtin .len, #[x], ts⟩) ty).op.operands.toList = [env.val x] := rfl;unfold kG;rw [h2];obtain ⟨t, h0, hu⟩ := qXC hs;have hp : zL [env.val x] = true := by rw [hx]; rfl
 rw [if_pos hp]
 have he : yE P (execOp env.val (cop (.call ⟨.builtin .len, #[x], ts⟩) ty)) = some (.value (goInt a.size)) := by
  simp only [cop, execOp, resolve, List.map_toArray, zKM, zMF, hx];show yE P (do let v <- Go.Builtin.len_ ts ty #[.string a]; pure (Next.value v)) = _;rw [dB, q6Z h0 hu]; rfl
 rw [he];exact aV rfl rfl
def qX4 (s : ByteArray) (i : Int) : Option Int := if 0 <= i then (s[i.toNat]?).map fun b => (b.toNat : Int) else none
theorem qZH {t : TypeId} {s : ByteArray} {k : IntKind} {i c : Int} {ty : TypeId} (hu : P.underlying t = some .string) (h : qX4 s i = some c) : qMB P (.index t (.const (.string s)) (.const (.int k i))) ty = some (fvv (.int .u8 c)) := by
 unfold qMB kG;have hp : zL (kF (Env.val []) (cop (.index t (.const (.string s)) (.const (.int k i))) ty).op.operands.toList) = true := rfl;rw [if_pos hp]
 have he : yE P (execOp (Env.val []) (cop (.index t (.const (.string s)) (.const (.int k i))) ty)) = some (.value (.int .u8 c)) := by
  show yE P (do let v <- Instr.index t (.string s) (.int k i); pure (Next.value v)) = _;unfold qX4 at h;split at h
  ·rename_i hc;obtain ⟨b, hb, rfl⟩ := zKF.1 h;unfold Instr.index;simp only [dB, zQ, hu, zKP];have h0 : yE P (asIntOf (.int k i)) = some (k, i) := rfl;rw [h0];simp only [zKP, if_pos hc, hb, dP]
  ·cases h
 rw [he];exact aV rfl rfl
theorem r9 {k : IntKind} {i : Int} {y n : Nat} {code : BoundsCode} (h : (if 0 <= i ∧ i <= (y : Int) then some i.toNat else none) = some n) : yE P (Instr.sliceBound (.int k i) y code) = some n := by
 unfold Instr.sliceBound;rw [dB];have h0 : yE P (asIntOf (.int k i)) = some (k, i) := rfl;rw [h0];simp only [zKP];split at h
 ·rename_i hc;rw [if_pos hc];cases h; rfl
 ·cases h
theorem qVQ {d most n : Nat} {x : Option PV} (h : bnd d most x = some n) : (x = none ∧ n = d) ∨ ∃ k i, x = some (fvv (.int k i)) ∧ (if 0 <= i ∧ i <= (most : Int) then some i.toNat else none) = some n := by
 unfold bnd at h;split at h
 ·cases h; exact .inl ⟨rfl, rfl⟩
 ·rename_i k i; exact .inr ⟨k, i, rfl, h⟩
 ·cases h
theorem qW3 {t : TypeId} {s : ByteArray} {lo hi : Option Operand} {l u : Nat} {env : List PV} {ty : TypeId} (hu : P.underlying t = some .string) (h1 : bnd s.size s.size (hi.map (qJ env)) = some u) (h2 : bnd 0 u (lo.map (qJ env)) = some l) :
 qMB P (.slice t (.const (.string s)) (lo.map fun a => .const ((pl (qJ env a)).getD undef)) (hi.map fun a => .const ((pl (qJ env a)).getD undef)) none) ty = some (fvv (.string (s.extract l u))) := by
 have opt : ∀ {o : Option Operand} {d most n : Nat}, bnd d most (o.map (qJ env)) = some n -> (o = none ∧ n = d) ∨ ∃ k i, (o.map fun a => Operand.const ((pl (qJ env a)).getD undef)) = some (.const (.int k i)) ∧ (if 0 <= i ∧ i <= (most : Int) then some i.toNat else none) = some n := fun {o d most n} h => by
  rcases qVQ h with ⟨q, e⟩ | ⟨k, i, q, e⟩
  ·cases o with
   | none => exact .inl ⟨rfl, e⟩
   | some a => cases q
  ·cases o with
   | none => cases q
   | some a =>
     have q : qJ env a = fvv (.int k i) := by simpa using q
     exact .inr ⟨k, i, by simp [q, fvv, pl], e⟩
 unfold qMB kG
 have hk : ∀ (lo' hi' : Option Operand) (vl vh : Option Value), lo'.map (Env.val []) = vl -> hi'.map (Env.val []) = vh -> zL (kF (Env.val []) (cop (.slice t (.const (.string s)) lo' hi' none) ty).op.operands.toList) = true ->
  yE P (Instr.sliceBounds false s.size s.size vl vh none) = some (l, u, s.size) -> qQ8 (if zL (kF (Env.val []) (cop (.slice t (.const (.string s)) lo' hi' none) ty).op.operands.toList) = true then qEU H00 (yE P (execOp (Env.val []) (cop (.slice t (.const (.string s)) lo' hi' none) ty))) else none) = some (fvv (.string (s.extract l u))) := by
  intro lo' hi' vl vh e1 e2 hp hb;rw [if_pos hp]
  have he : yE P (execOp (Env.val []) (cop (.slice t (.const (.string s)) lo' hi' none) ty)) = some (.value (.string (s.extract l u))) := by
   show yE P (do let v <- Instr.sliceAt t (.string s) (lo'.map (Env.val [])) (hi'.map (Env.val [])) none; pure (Next.value v)) = _;rw [e1, e2];unfold Instr.sliceAt;simp only [dB, zQ, hu, zKP];unfold Instr.slice;simp only [dB, zQ, hu, zKP];simp only [zOD, zLW, if_false, dB, hb, zKP, dP]
  rw [he];exact aV rfl rfl
 have hB : ∀ (vl vh : Option Value), (vh = none ∧ u = s.size ∨ ∃ k i, vh = some (.int k i) ∧ (if 0 <= i ∧ i <= (s.size : Int) then some i.toNat else none) = some u) -> (vl = none ∧ l = 0 ∨ ∃ k i, vl = some (.int k i) ∧ (if 0 <= i ∧ i <= (u : Int) then some i.toNat else none) = some l) ->
  yE P (Instr.sliceBounds false s.size s.size vl vh none) = some (l, u, s.size) := by
  intro vl vh a b;unfold Instr.sliceBounds;rcases a with ⟨rfl, rfl⟩ | ⟨k, i, rfl, ha⟩ <;> rcases b with ⟨rfl, rfl⟩ | ⟨k', i', rfl, hb⟩ <;> simp only [dB, dP, zKP, zOD, zLW, if_false]
  ·rw [r9 hb]; rfl
  ·rw [r9 ha]; rfl
  ·rw [r9 ha]; simp only [zKP]; rw [r9 hb]; rfl
 rcases opt h1 with ⟨rfl, e1⟩ | ⟨k, i, e1, f1⟩ <;> rcases opt h2 with ⟨rfl, e2⟩ | ⟨k', i', e2, f2⟩
 ·exact hk none none none none rfl rfl rfl (hB _ _ (.inl ⟨rfl, e1⟩) (.inl ⟨rfl, e2⟩))
 ·rw [e2]; exact hk _ none _ none rfl rfl rfl (hB _ _ (.inl ⟨rfl, e1⟩) (.inr ⟨k', i', rfl, f2⟩))
 ·rw [e1]; exact hk none _ none _ rfl rfl rfl (hB _ _ (.inr ⟨k, i, rfl, f1⟩) (.inl ⟨rfl, e2⟩))
 ·rw [e1, e2]; exact hk _ _ _ _ rfl rfl rfl (hB _ _ (.inr ⟨k, i, rfl, f1⟩) (.inr ⟨k', i', rfl, f2⟩))
theorem q3T {s d : TypeId} {k k' : IntKind} {x : Int} {u : TypeDesc} (hs : P.underlying s = some u) (hd : P.underlying d = some (.int k')) : aN P (fun a => .convert s d a) (fvv (.int k x)) = some (fvv (.int k' (k'.wrap x))) := by
 have hl : pl (fvv (.int k x)) = some (.int k x) := rfl;unfold aN;rw [hl];unfold qMB kG;have hp : zL (kF (Env.val []) (cop (.convert s d (.const (.int k x)))).op.operands.toList) = true := rfl;simp only [hp, if_true]
 have he : yE P (execOp (Env.val []) (cop (.convert s d (.const (.int k x))))) = some (.value (.int k' (k'.wrap x))) := by
  show yE P (do let v <- convert s d (.int k x); pure (Next.value v)) = _;unfold convert;simp only [dB, zQ, hs, hd, zKP];rfl
 rw [he];exact aV rfl rfl
theorem qXM {s d : TypeId} {x : ByteArray} {u : TypeDesc} (hs : P.underlying s = some u) (hd : P.underlying d = some .string) : aN P (fun a => .convert s d a) (fvv (.string x)) = some (fvv (.string x)) := by
 have hl : pl (fvv (.string x)) = some (.string x) := rfl;unfold aN;rw [hl];unfold qMB kG;have hp : zL (kF (Env.val []) (cop (.convert s d (.const (.string x)))).op.operands.toList) = true := rfl;simp only [hp, if_true]
 have he : yE P (execOp (Env.val []) (cop (.convert s d (.const (.string x))))) = some (.value (.string x)) := by
  show yE P (do let v <- convert s d (.string x); pure (Next.value v)) = _;unfold convert;simp only [dB, zQ, hs, hd, zKP];cases u <;> rfl
 rw [he];exact aV rfl rfl
end Go.Sv
namespace Go.Sv
open Go.Idl
noncomputable section
variable [Gc]
variable [Yl]
variable {P : Program} {h : SH} {R : Type} {r : R}
def qDK : SV -> Option Value
 | .d (.int k) x => some (.int k x)
 | .d .bool x => some (.bool x)
 | .d .str x => some (.string x)
 | .c v => some v
 | _ => none
theorem pX {v : SV} {a : Value} (e : qDK v = some a) : v.enc = fvv a := by
 unfold qDK at e;split at e <;> cases e <;> simp [SV.enc, Ty.fv, fvv]
def qGM : List SV -> Option (List Value)
 | [] => some []
 | v :: l => match qDK v, qGM l with
   | some a, some b => some (a :: b)
   | _, _ => none
def aM : SV -> Option Value
 | .agg l => (match qGM l with
   | some vs => some (.agg vs.toArray)
   | none => none)
 | v => qDK v
theorem qDC : ∀ {l : List SV} {vs : List Value}, qGM l = some vs -> qJ5 (qB l) = some vs
 | [], vs, e => by cases e; simp [qB, qJ5]
 | v :: l, vs, e => by
   unfold qGM at e;split at e
   ·rename_i a b ha hb;cases e;simp only [qB, pX ha, fvv, qJ5, pl1, qDC hb]
   ·cases e
theorem vL {v : SV} {a : Value} (e : aM v = some a) : pl v.enc = some a := by
 unfold aM at e;split at e
 ·rename_i l;split at e
  ·rename_i vs hvs;cases e;simp only [SV.enc, pl, qDC hvs]
  ·cases e
 ·rw [pX e];rfl
def q9C (op : BinOp) (a b : ByteArray) (K : SV -> q98 R) (F : q98 R) : q98 R := match op with
 | .add => .ite (Nat.ble (a.size + b.size) 9223372036854775807) (K (.d .str (a ++ b))) .fail
 | .eql => K (.d .bool (a.toList == b.toList))
 | .neq => K (.d .bool (!(a.toList == b.toList)))
 | _ => F
def qNU (P : Program) (t : TypeId) : Bool := match P.underlying t with
 | some .string => true
 | _ => false
omit [Yl] in
theorem qDN {t : TypeId} (e : qNU P t = true) : P.underlying t = some .string := by
 unfold qNU at e;split at e
 ·assumption
 ·cases e
def qKM (P : Program) (t : TypeId) (s : ByteArray) (ix : SV) (K : SV -> q98 R) : q98 R := match asI ix with
 | some (_, i) => cond (qNU P t) (.bind (qX4 s i) fun c => K (.d (.int .u8) c)) .fail
 | none => .fail
def qSF (P : Program) (t : TypeId) (s : ByteArray) (lo hi : Option SV) (K : SV -> q98 R) : q98 R :=
 cond (qNU P t) (qQ7 s.size s.size hi fun b => qQ7 0 b lo fun a => K (.d .str (s.extract a b))) .fail
def qXN (P : Program) (s d : TypeId) (x : SV) (K : SV -> q98 R) (F : q98 R) : q98 R := match P.underlying s, P.underlying d with
 | some _, some (.int k') => (match asI x with
   | some (_, a) => K (.d (.int k') (k'.wrap a))
   | none => F)
 | some _, some .string => (match asS x with
   | some a => K (.d .str a)
   | none => F)
 | _, _ => F
def Ty.vals : (t : Ty) -> List Value -> Option (t.sem × List Value)
 | .int k, .int k' x :: l => cond (decide (k' = k)) (some (x, l)) none
 | .bool, .bool x :: l => some (x, l)
 | .str, .string x :: l => some (x, l)
 | .unit, l => some ((), l)
 | .pair a b, l => match a.vals l with
   | some (x, l1) => (match b.vals l1 with
     | some (y, l2) => some ((x, y), l2)
     | none => none)
   | none => none
 | _, _ => none
def Ty.ofV (t : Ty) (v : Value) : Option t.sem := cond t.one (match t.vals [v] with
 | some (x, []) => some x
 | _ => none) (match v with
 | .agg a => (match t.vals a.toList with
   | some (x, []) => some x
   | _ => none)
 | _ => none)
def qXT (t : Ty) (x : t.sem) : SV := cond t.one (.d t x) (.agg (t.svs x))
omit [Yl] in
theorem qAL (t : Ty) (x : t.sem) : (qXT t x).ok h := by
 unfold qXT
 cases t.one with
 | true => simp [SV.ok]
 | false => simp only [cond_false, SV.ok]; exact qD6 t x
omit [Yl] in
theorem qI4 : ∀ {a b : List Value}, kM okC a = true -> kM okC b = true -> kM okC (a ++ b) = true
 | [], _, _, h => h
 | x :: a, b, h1, h2 => by
   rw [xB, zJ5] at h1;rw [zL2, xB, h1.1, qI4 h1.2 h2]; rfl
omit [Yl] in
theorem bI : ∀ {t : Ty} {l l' : List Value} {x : t.sem}, t.vals l = some (x, l') -> ∃ us, l = us ++ l' ∧ kM okC us = true ∧ kF fvv us = (t.cells x).map PV.f
 | .int k, l, l', x, e => by
   cases l with
   | nil => cases e
   | cons v l =>
     cases v <;> try (cases e; done)
     rename_i k' y;have e : cond (decide (k' = k)) (some ((y : Int), l)) none = some (x, l') := e
     cases hk : decide (k' = k) with
     | false => rw [hk] at e; cases e
     | true =>
       rw [hk] at e;cases e;have : k' = k := by simpa using hk
       subst this;exact ⟨[.int k' x], rfl, rfl, rfl⟩
 | .bool, l, l', x, e => by
   cases l with
   | nil => cases e
   | cons v l =>
     cases v <;> try (cases e; done)
     cases e;exact ⟨[.bool x], rfl, rfl, rfl⟩
 | .str, l, l', x, e => by
   cases l with
   | nil => cases e
   | cons v l =>
     cases v <;> try (cases e; done)
     cases e;exact ⟨[.string x], rfl, rfl, rfl⟩
 | .unit, l, l', x, e => by
   have e : some ((), l) = some ((), l') := by cases l <;> exact e
   cases e;exact ⟨[], rfl, rfl, rfl⟩
 | .list _ _, l, l', x, e => by cases l <;> cases e
 | .raw, l, l', x, e => by cases l <;> cases e
 | .ol _ _, l, l', x, e => by cases l <;> cases e
 | .nif, l, l', x, e => by cases l <;> cases e
 | .pair a b, l, l', x, e => by
   have e : (match a.vals l with
    | some (x, l1) => (match b.vals l1 with
      | some (y, l2) => some ((x, y), l2)
      | none => none)
    | none => none) = some (x, l') := by cases l <;> exact e
   split at e
   ·rename_i x1 l1 h1;split at e
    ·rename_i y l2 h2;cases e;obtain ⟨us, rfl, u1, u2⟩ := bI h1;obtain ⟨ws, rfl, w1, w2⟩ := bI h2;refine ⟨us ++ ws, by rw [zK0], ?_, ?_⟩
     ·exact qI4 u1 w1
     ·show _ = (a.cells x1 ++ b.cells y).map PV.f;rw [yZ] at u2 w2 ⊢;rw [zLC, zLC, u2, w2]
    ·cases e
   ·cases e
theorem oU {t : Ty} {v : Value} {x : t.sem} (e : t.ofV v = some x) : ofC v = (qXT t x).enc := by
 unfold Ty.ofV at e;unfold qXT
 cases ht : t.one with
 | true =>
   rw [ht] at e;simp only [cond_true] at e ⊢;split at e
   ·rename_i y hy;cases e;obtain ⟨us, h1, h2, h3⟩ := bI hy;rw [zLS] at h1;subst h1;rw [Ty.cells_one ht] at h3
    have h3 : fvv v = .f (t.fv x) := by
     have : kF fvv [v] = [fvv v] := rfl;rw [this] at h3;simpa using h3
    have h2 : okC v = true := by
     rw [xB, zJ5] at h2; exact h2.1
    have : ofC v = fvv v := by
     unfold okC at h2;rw [zJ5] at h2
     cases v <;> first | (exact absurd h2.2 (by decide)) | skip
     all_goals first | (show q3P _ = _; unfold q3P okC; simp [h2.1, h2.2]) | (simp [oneCell] at h2)
    rw [this, h3]; simp [SV.enc]
   ·cases e
 | false =>
   rw [ht] at e;simp only [cond_false] at e ⊢;split at e
   ·rename_i a;split at e
    ·rename_i y hy;cases e;obtain ⟨us, h1, h2, h3⟩ := bI hy;rw [zLS] at h1;show cond (kM okC a.toList) (PV.agg (kF fvv a.toList)) .unk = _;rw [h1, h2, h3];simp only [cond_true, SV.enc, gI]
    ·cases e
   ·cases e
def smp (x : SV) (h : SH) : Option (Nat × List (Value × Value)) := match x with
 | .mp k => (match slk k h.l with
   | some (.spc _ (.map es)) => some (k, es)
   | _ => none)
 | _ => none
omit [Yl] in
theorem uS : ∀ (n : Nat) (es : List (Value × Value)) (i : Nat), (yX n es)[i]? = (es[i]?).map fun p => (⟨p.1, p.2, n + i⟩ : MapEntry)
 | n, [], i => by simp [yX]
 | n, p :: es, 0 => by simp [yX]
 | n, p :: es, i + 1 => by
   show (yX (n + 1) es)[i]? = _;rw [uS (n + 1) es i];have : n + 1 + i = n + (i + 1) := by omega
   rw [this]; simp
omit [Yl] in
theorem qAI : ∀ (n : Nat) (es : List (Value × Value)), (yX n es).length = es.length
 | n, [] => rfl
 | n, p :: es => by
   show (yX (n + 1) es).length + 1 = _;rw [qAI, zKO]
omit [Yl] in
theorem eP : ∀ (n : Nat) (es : List (Value × Value)) (k v : Value), yX n (es ++ [(k, v)]) = yX n es ++ [⟨k, v, n + es.length⟩]
 | n, [], k, v => rfl
 | n, p :: es, k, v => by
   show _ :: yX (n + 1) (es ++ [(k, v)]) = _;rw [eP (n + 1) es k v];show _ = _ :: (yX (n + 1) es ++ _);rw [zKO];have : n + 1 + es.length = n + (es.length + 1) := by omega
   rw [this]
omit [Yl] in
theorem qAM (es : List (Value × Value)) (i : Nat) (k v : Value) (f : MapEntry -> MapEntry) (hf : ∀ p, es[i]? = some p -> f ⟨p.1, p.2, i⟩ = ⟨k, v, i⟩) : yX 0 (es.set i (k, v)) = (yX 0 es).modify i f := by
 apply zLH;intro j;rw [uS, zN3, uS, zK2, zKT];by_cases hij : i = j
 ·subst hij;rw [if_pos rfl];simp only [if_true]
  cases he : es[i]? with
  | none =>
    have : ¬ i < es.length := fun hl => by rw [zJ9 hl] at he; cases he
    rw [if_neg this]; rfl
  | some p =>
    have := (zKA.1 he).1;rw [if_pos this];simp [hf p he]
 ·rw [if_neg hij];simp only [if_neg hij];cases es[j]? <;> rfl
theorem qYZ {x : SV} {k : Nat} {es : List (Value × Value)} (hs : spec P 1000000001 = true) (e : smp x h = some (k, es)) : fF P x.enc (qD h.l) = some (k, (SpO.map es).enc, es.length, yX 0 es) ∧ ∃ w, slk k h.l = some (.spc w (.map es)) := by
 unfold smp at e;split at e
 ·rename_i k';split at e
  ·rename_i w es' hk;cases e;refine ⟨?_, w, hk⟩;simp only [SV.enc, fF, y5 hk]
   show cond (spec P 1000000001 && Nat.beq 1000000001 1000000001) (match mapOf (kR es.length (yX 0 es)) with
    | some (c, es') => some (k, (SO.spc w (SpO.map es)).enc, c, es')
    | none => none) none = _
   rw [hs, qFG];rfl
  ·cases e
 ·cases e
def q9D (P : Program) (kt : TypeId) (k : Value) (es : List (Value × Value)) : Option Bool := (wE P kt k (yX 0 es)).map Option.isSome
def q8K (P : Program) (kt : TypeId) (t : Ty) (k : Value) (es : List (Value × Value)) : Option t.sem := match wE P kt k (yX 0 es) with
 | some (some i) => (match es[i]? with
   | some p => t.ofV p.2
   | none => none)
 | _ => none
def q2Z (ok : Bool) (t : Ty) (x : t.sem) (b : Bool) : SV := cond ok (.tup [qXT t x, .c (.bool b)]) (qXT t x)
theorem qOK {ok b : Bool} {t : Ty} {x : t.sem} {v : Value} (e : t.ofV v = some x) : qXX ok v b = (q2Z ok t x b).enc := by
 unfold qXX q2Z
 cases ok with
 | true => simp [oU e, SV.enc, qB]
 | false => exact oU e
omit [Yl] in
theorem qS2 {ok b : Bool} {t : Ty} {x : t.sem} : (q2Z ok t x b).ok h := by
 unfold q2Z
 cases ok with
 | true => simp only [cond_true, SV.ok, okL, and_true]; exact qAL t x
 | false => exact qAL t x
def qLV (P : Program) (t : TypeId) (m kx : SV) (ok : Bool) (h : SH) (K : SV -> q98 R) : q98 R := match P.underlying t, smp m h, aM kx with
 | some (.map kt et), some (_, es), some kv => (match qD4 P 8 et, vV P et with
   | some vt, some z => (match vt.ofV z with
     | some z0 => cond (spec P 1000000001 && zO z) (.bind (q9D P kt kv es) fun b => .ite b (.bind (q8K P kt vt kv es) fun x => K (q2Z ok vt x true)) (K (q2Z ok vt z0 false))) .fail
     | none => .fail)
   | _, _ => .fail)
 | _, _, _ => .fail
theorem qPS {t : TypeId} {m kx : SV} {ok : Bool} {K : SV -> q98 R} (e : (qLV P t m kx ok h K).run = some r) : ∃ v, xY P t m.enc kx.enc ok (qD h.l) = some v.enc ∧ v.ok h ∧ (K v).run = some r := by
 unfold qLV at e;split at e
 case h_2 => cases e
 rename_i kt et k es kv hu hm hk;split at e
 case h_2 => cases e
 rename_i vt z hvt hz;split at e
 case h_2 => cases e
 rename_i z0 hz0;obtain ⟨c, e1⟩ := qG e;rw [zJ5] at c;obtain ⟨b, hb, e2⟩ := run_bind e1;obtain ⟨h1, w, h2⟩ := qYZ c.1 hm
 have pre : xY P t m.enc kx.enc ok (qD h.l) = (match wE P kt kv (yX 0 es) with
  | some (some i) => (match (yX 0 es)[i]? with
    | some e => some (qXX ok e.val true)
    | none => none)
  | some none => some (qXX ok z false)
  | none => none) := by
  unfold xY;rw [hu, h1, vL hk];simp only [hz, c.2, cond_true];rfl
 rw [pre];unfold q9D at hb
 cases hf : wE P kt kv (yX 0 es) with
 | none => rw [hf] at hb; cases hb
 | some o =>
   rw [hf] at hb
   cases o with
   | none =>
     cases hb;refine ⟨_, by simp only [qOK hz0], qS2, e2⟩
   | some i =>
     cases hb;obtain ⟨x, hx, e3⟩ := run_bind (show (q98.bind (q8K P kt vt kv es) fun x => K (q2Z ok vt x true)).run = some r from e2);unfold q8K at hx;rw [hf] at hx;simp only at hx;split at hx
     ·rename_i p hp;refine ⟨_, ?_, qS2, e3⟩;simp only [uS, hp, zKJ, qOK hx]
     ·cases hx
def q9E (P : Program) (kt : TypeId) (k v : Value) (es : List (Value × Value)) : Option (List (Value × Value)) := match wE P kt k (yX 0 es) with
 | some (some i) => (match es[i]? with
   | some p => cond (Instr.sameBits 10000 p.1 k) (some (es.set i (k, v))) none
   | none => none)
 | some none => some (es ++ [(k, v)])
 | none => none
def o5 (P : Program) (t : TypeId) (m kx x : SV) (h : SH) (K : SV -> SH -> q98 R) : q98 R := match P.underlying t, smp m h, aM kx, aM x with
 | some (.map kt _), some (k, es), some kv, some xv => cond (spec P 1000000001 && qY xv) (.bind (q9E P kt kv xv es) fun es' => K (.tup []) (h.put k fun v => .spc v (.map es'))) .fail
 | _, _, _, _ => .fail
theorem aO {k : Nat} {es es' : List (Value × Value)} {w : Nat} (ho : OkH P h) (hk : slk k h.l = some (.spc w (.map es))) : Keep h (h.put k fun v => .spc v (.map es')) ∧ OkH P (h.put k fun v => .spc v (.map es')) ∧
 qD (h.put k fun v => .spc v (.map es')).l = kQ k { (SpO.map es).enc with cs := kR es'.length (yX 0 es') } (qD h.l) := by
 have := fZ (f := fun v => .spc v (.map es')) ho hk rfl;exact ⟨this.1, this.2, vH k _ _⟩
theorem qEJ {t : TypeId} {m kx x : SV} {K : SV -> SH -> q98 R} (ho : OkH P h) (e : (o5 P t m kx x h K).run = some r) :
 ∃ h', kW P t m.enc kx.enc x.enc (qD h.l) = some (qD h'.l) ∧ Keep h h' ∧ OkH P h' ∧ (K (.tup []) h').run = some r := by
 unfold o5 at e;split at e
 case h_2 => cases e
 rename_i kt et k es kv xv hu hm hkv hxv;obtain ⟨c, e1⟩ := qG e;rw [zJ5] at c;obtain ⟨es', hs, e2⟩ := run_bind e1;obtain ⟨h1, w, h2⟩ := qYZ c.1 hm;obtain ⟨p1, p2, p3⟩ := aO (es' := es') ho h2;refine ⟨_, ?_, p1, p2, e2⟩;unfold kW;rw [hu, h1, vL hkv, vL hxv, p3];simp only [c.2, cond_true];unfold q9E at hs
 cases hf : wE P kt kv (yX 0 es) with
 | none => rw [hf] at hs; cases hs
 | some o =>
   rw [hf] at hs
   cases o with
   | none =>
     cases hs;simp only [eP, zKW, zKO, zM9, zKT]
   | some i =>
     simp only at hs ⊢;split at hs
     ·rename_i p hp
      cases hb : Instr.sameBits 10000 p.1 kv with
      | false => rw [hb] at hs; cases hs
      | true =>
        rw [hb] at hs;cases hs;simp only [uS, hp, zKJ, hb, cond_true];rw [qAM es i kv xv (fun e => { e with key := kv, val := xv }) (fun _ _ => rfl), zM7]
     ·cases hs
def q9I (P : Program) (kt : TypeId) (t : Ty) (k z : Value) (es : List (Value × Value)) : Option (List (Value × Value) × Nat × t.sem) := match wE P kt k (yX 0 es) with
 | some (some i) => (match es[i]? with
   | some p => cond (Instr.sameBits 10000 p.1 k && q42 i (wE P kt k (yX 0 (es.set i (k, p.2))))) (match t.ofV p.2 with
     | some x => some (es.set i (k, p.2), i, x)
     | none => none) none
   | none => none)
 | some none => cond (q42 es.length (wE P kt k (yX 0 (es ++ [(k, z)])))) (match t.ofV z with
   | some x => some (es ++ [(k, z)], es.length, x)
   | none => none) none
 | none => none
def qBR (P : Program) (t : TypeId) (m kx : SV) (h : SH) (K : SV -> SH -> q98 R) : q98 R := match P.underlying t, smp m h, aM kx with
 | some (.map kt et), some (k, es), some kv => (match qD4 P 8 et, vV P et with
   | some vt, some z => cond (spec P 1000000001 && zO z) (.bind (q9I P kt vt kv z es) fun q => K (.tup [qXT vt q.2.2, .d (.int .i64) (q.2.1 : Int)]) (h.put k fun v => .spc v (.map q.1))) .fail
   | _, _ => .fail)
 | _, _, _ => .fail
theorem qHW {t : TypeId} {m kx : SV} {K : SV -> SH -> q98 R} (ho : OkH P h) (e : (qBR P t m kx h K).run = some r) :
 ∃ v h', xQ P t m.enc kx.enc (qD h.l) = some (v.enc, qD h'.l) ∧ Post P h h' v ∧ (K v h').run = some r := by
 unfold qBR at e;split at e
 case h_2 => cases e
 rename_i kt et k es kv hu hm hkv;split at e
 case h_2 => cases e
 rename_i vt z hvt hz;obtain ⟨c, e1⟩ := qG e;rw [zJ5] at c;obtain ⟨q, hs, e2⟩ := run_bind e1;obtain ⟨h1, w, h2⟩ := qYZ c.1 hm;obtain ⟨p1, p2, p3⟩ := aO (es' := q.1) ho h2;refine ⟨_, _, ?_, ⟨p1, p2, ?_⟩, e2⟩
 ·unfold xQ;rw [hu, h1, vL hkv, p3];unfold q9I at hs
  cases hf : wE P kt kv (yX 0 es) with
  | none => rw [hf] at hs; cases hs
  | some o =>
    rw [hf] at hs
    cases o with
    | none =>
      simp only at hs ⊢;obtain ⟨hat, hs⟩ := xO hs;split at hs
      ·rename_i x hx;cases hs
       have hat' : q42 (yX 0 es).length (wE P kt kv (yX 0 es ++ [⟨kv, z, es.length⟩])) = true := by
        rw [eP, zKT] at hat;rw [qAI];exact hat
       simp only [hf, hz, c.2, hat', zLA, cond_true, eP, zKW, zKO, zM9, zKT, SV.enc, qB, oU hx, Ty.fv, fvv]
      ·cases hs
    | some i =>
      simp only at hs ⊢;split at hs
      ·rename_i p hp;obtain ⟨hb', hs⟩ := xO hs;rw [zJ5] at hb';obtain ⟨hb, hat⟩ := hb'
       ·split at hs
        ·rename_i x hx;cases hs;rw [qAM es i kv p.2 (fun e => { e with key := kv }) (fun p' hp' => by rw [hp] at hp'; cases hp'; rfl)] at hat;simp only [hf, uS, hp, zKJ, hb, hat, zLA, cond_true, SV.enc, qB, oU hx, Ty.fv, fvv, zKT];rw [qAM es i kv p.2 (fun e => { e with key := kv }) (fun p' hp' => by rw [hp] at hp'; cases hp'; rfl), zM7]
        ·cases hs
      ·cases hs
 ·simp only [SV.ok, okL, and_true]; exact qAL _ _
def qOJ (P : Program) (k : Nat) (h : SH) (K : SV -> SH -> q98 R) : q98 R := cond (spec P 1000000001) (K (.mp k) (h.new k fun v => .spc v (.map []))) .fail
theorem qKK {k : Nat} {K : SV -> SH -> q98 R} (ho : OkH P h) (e : (qOJ P k h K).run = some r) : ∃ v h', bQ P k (qD h.l) = some (v.enc, qD h'.l) ∧ Post P h h' v ∧ (K v h').run = some r := by
 obtain ⟨c, e1⟩ := qG e;have hp := xZ (k := k) (f := fun v => .spc v (.map [])) ho rfl;refine ⟨_, _, ?_, ⟨hp.1, hp.2, by simp [SV.ok]⟩, e1⟩;unfold bQ;rw [c];simp only [cond_true, qJ6, SV.enc];rfl
def q4F (P : Program) (ts : Array TypeId) (x : SV) (h : SH) : Option SV := match smp x h with
 | some (_, es) => cond (spec P 1000000001 && q7B P ts) (some (.d (.int .i64) ((List.length es : Nat) : Int))) none
 | none => none
theorem qW0 {ts : Array TypeId} {x v : SV} (e : q4F P ts x h = some v) : qCP P ts x.enc (qD h.l) = some v.enc ∧ v.ok h := by
 unfold q4F at e;split at e
 case h_2 => cases e
 rename_i k es hm
 cases hc : (spec P 1000000001 && q7B P ts) with
 | false => rw [hc] at e; cases e
 | true =>
   rw [hc] at e;cases e;rw [zJ5] at hc;refine ⟨?_, by simp [SV.ok]⟩;unfold smp at hm;split at hm
   case h_2 => cases hm
   rename_i k';split at hm
   case h_2 => cases hm
   rename_i w es' hk;cases hm
   have h1 : rH P (SV.enc (.mp k)) (qD h.l) = some (kR es.length (yX 0 es)) := by
    simp only [SV.enc, rH, y5 hk];show cond (!false && (spec P 1000000001 && Nat.beq 1000000001 1000000001)) (some (kR es.length (yX 0 es))) none = _;rw [hc.1]; rfl
   unfold qCP;rw [h1];simp only [hc.2, cond_true, xN, qAI];have : (3 * es.length + 1) / 3 = es.length := by omega
   rw [this];simp [SV.enc, Ty.fv, fvv]
omit [Yl] in
theorem qJK {p : Value -> Bool} : ∀ {a b : List Value}, kM p a = true -> kM p b = true -> kM p (a ++ b) = true
 | [], _, _, h => h
 | x :: a, b, h, h2 => by
   rw [zL2, xB, zJ5];rw [xB, zJ5] at h;exact ⟨h.1, qJK h.2 h2⟩
omit [Yl] in
theorem bA (n : Nat) : ∀ {t : Ty} {l l' : List Value} {x : t.sem}, t.vals l = some (x, l') -> ∃ us, l = us ++ l' ∧ kM (xD (n + 1)) us = true
 | .int k, l, l', x, e => by
   cases l with
   | nil => cases e
   | cons v l =>
     cases v <;> try (cases e; done)
     rename_i k' y;have e : cond (decide (k' = k)) (some ((y : Int), l)) none = some (x, l') := e
     cases hk : decide (k' = k) with
     | false => rw [hk] at e; cases e
     | true =>
       rw [hk] at e;cases e;exact ⟨[.int k' x], rfl, rfl⟩
 | .bool, l, l', x, e => by
   cases l with
   | nil => cases e
   | cons v l =>
     cases v <;> try (cases e; done)
     cases e;exact ⟨[.bool x], rfl, rfl⟩
 | .str, l, l', x, e => by
   cases l with
   | nil => cases e
   | cons v l =>
     cases v <;> try (cases e; done)
     cases e;exact ⟨[.string x], rfl, rfl⟩
 | .unit, l, l', x, e => by
   have e : some ((), l) = some ((), l') := by cases l <;> exact e
   cases e;exact ⟨[], rfl, rfl⟩
 | .list _ _, l, l', x, e => by cases l <;> cases e
 | .raw, l, l', x, e => by cases l <;> cases e
 | .ol _ _, l, l', x, e => by cases l <;> cases e
 | .nif, l, l', x, e => by cases l <;> cases e
 | .pair a b, l, l', x, e => by
   have e : (match a.vals l with
    | some (x, l1) => (match b.vals l1 with
      | some (y, l2) => some ((x, y), l2)
      | none => none)
    | none => none) = some (x, l') := by cases l <;> exact e
   split at e
   ·rename_i x1 l1 h1;split at e
    ·rename_i y l2 h2;cases e;obtain ⟨us, rfl, u1⟩ := bA n h1;obtain ⟨ws, rfl, w1⟩ := bA n h2;exact ⟨us ++ ws, by rw [zK0], qJK u1 w1⟩
    ·cases e
   ·cases e
omit [Yl] in
theorem qT0 {t : Ty} {v : Value} {x : t.sem} (e : t.ofV v = some x) : zO v = true := by
 unfold Ty.ofV at e
 cases ht : t.one with
 | true =>
   rw [ht] at e;simp only [cond_true] at e;split at e
   ·rename_i y hy;obtain ⟨us, h1, h2⟩ := bA 2 hy;rw [zLS] at h1;subst h1;rw [xB, zJ5] at h2;exact h2.1
   ·cases e
 | false =>
   rw [ht] at e;simp only [cond_false] at e;split at e
   ·rename_i a;split at e
    ·rename_i y hy;obtain ⟨us, h1, h2⟩ := bA 1 hy;rw [zLS] at h1;show kM (xD 2) a.toList = true;rw [h1]; exact h2
    ·cases e
   ·cases e
omit [Yl] in
theorem qDL : ∀ (n : Nat) (es : List (Value × Value)) (i : Nat), (yX n es).find? (·.born == n + i) = (es[i]?).map fun p => (⟨p.1, p.2, n + i⟩ : MapEntry)
 | n, [], i => by simp [yX]
 | n, p :: es, 0 => by simp [yX]
 | n, p :: es, i + 1 => by
   have h : ((⟨p.1, p.2, n⟩ : MapEntry).born == n + (i + 1)) = false := by simp
   have ih := qDL (n + 1) es i;have e : n + 1 + i = n + (i + 1) := by omega
   rw [e] at ih;show List.find? (fun x => x.born == n + (i + 1)) ((⟨p.1, p.2, n⟩ : MapEntry) :: yX (n + 1) es) = _;rw [List.find?_cons, h, ih];simp
def q0Y (kt vt : Ty) (i : Nat) (es : List (Value × Value)) : Option (kt.sem × vt.sem) := match es[i]? with
 | some p => (match kt.ofV p.1, vt.ofV p.2 with
   | some x, some y => some (x, y)
   | _, _ => none)
 | none => none
def qTN (P : Program) (x : SV) (h : SH) (K : SV -> SH -> q98 R) : q98 R := match x with
 | .ref k off w => (match slk k h.l with
   | some (.spc _ (.mit t j since (last + 1) _)) => (match P.underlying t, smp (.mp j) h with
     | some (.map kt vt), some (_, es) => (match qD4 P 8 kt, qD4 P 8 vt with
       | some kT, some vT => cond (spec P 1000000001 && (spec P 1000000002 && (Nat.beq w 4 && (Nat.beq off 0 && Nat.beq (List.length es) since)))) (.bind (q0Y kT vT last es) fun p => K (.tup [qXT kT p.1, qXT vT p.2]) h) .fail
       | _, _ => .fail)
     | _, _ => .fail)
   | _ => .fail)
 | _ => .fail
theorem qU9 {x : SV} {K : SV -> SH -> q98 R} (ho : OkH P h) (e : (qTN P x h K).run = some r) : ∃ v, qIB P x.enc (qD h.l) = some v.enc ∧ v.ok h ∧ (K v h).run = some r := by
 unfold qTN at e;split at e
 case h_2 => cases e
 rename_i k off w;split at e
 case h_2 => cases e
 rename_i w0 t j since last seen hk;split at e
 case h_2 => cases e
 rename_i kt vt j2 es hu hs;split at e
 case h_2 => cases e
 rename_i kT vT hkT hvT;obtain ⟨c, e1⟩ := qG e;simp only [zJ5] at c;obtain ⟨c1, c2, c3, c4, c5⟩ := c;obtain ⟨q, hq, e2⟩ := run_bind e1;obtain ⟨h1, _⟩ := qYZ c1 hs;unfold q0Y at hq;split at hq
 case h_2 => cases hq
 rename_i p hp;split at hq
 case h_2 => cases hq
 rename_i x1 y1 hx1 hy1;cases hq;refine ⟨_, ?_, ?_, e2⟩
 ·have e3 := zJ6 c3;have e4 := zJ6 c4;subst e3 e4;simp only [SV.enc, qIB, y5 hk]
  show cond (spec P 1000000002 && (Nat.beq 1000000002 1000000002 && (Nat.beq 4 4 && Nat.beq 0 0))) (match fF P (.mp j) (qD h.l) with
   | some (_, _, c, es) => cond (Nat.beq c (since : Int).toNat && Nat.ble 1 ((last + 1 : Nat) : Int).toNat) (match es.find? (·.born == ((last + 1 : Nat) : Int).toNat - 1) with
     | some e => cond (zO e.key) (some (PV.tup [ofC e.key, ofC e.val])) none
     | none => none) none
   | none => none) none = _
  have h1 : fF P (.mp j) (qD h.l) = some (j2, (SpO.map es).enc, es.length, yX 0 es) := h1;rw [h1, c2];have hl : ((last + 1 : Nat) : Int).toNat = last + 1 := rfl;have hsi : ((since : Nat) : Int).toNat = since := rfl;have hf := qDL 0 es last;simp only [zKT] at hf;rw [hl, hsi];simp only [Nat.add_sub_cancel, hf, hp, c5, zKJ];rw [show Nat.ble 1 (last + 1) = true from zKN (by omega), show (Nat.beq 1000000002 1000000002) = true from rfl, show (Nat.beq 4 4) = true from rfl, show (Nat.beq 0 0) = true from rfl];simp only [zLA, cond_true, qT0 hx1, oU hx1, oU hy1, qB]
 ·simp only [SV.ok, okL];exact ⟨qAL _ _, qAL _ _, trivial⟩
end
end Go.Sv
namespace Go.Sv
open Go.Idl
variable {a : Int} {b : Bool} {env : List SV} {k : IntKind} {o : Oper} {op : BinOp} {ph : PHp} {s : ByteArray} {t t2 ty : TypeId} {ts : Array TypeId} {x y : SV}
noncomputable section
variable [Gc]
variable [Yl]
variable {P : Program} {h : SH} {R : Type} {r : R}
def q31 (k : IntKind) : PV -> Option Int
 | .f (.v (.int k' x)) => cond (decide (k' = k)) (some x) none
 | _ => none
def q1J : PV -> Option Bool
 | .f (.v (.bool x)) => some x
 | _ => none
def q3V : PV -> Option ByteArray
 | .f (.v (.string x)) => some x
 | _ => none
def Ty.zGM : (t : Ty) -> PV -> Option t.sem
 | .int k, p => q31 k p
 | .bool, p => q1J p
 | .str, p => q3V p
 | .raw, _ => none
 | .ol _ _, _ => none
 | .nif, _ => none
 | .unit, _ => none
 | .list _ _, _ => none
 | .pair _ _, _ => none
omit [Yl] in
theorem q3N : ∀ {t : Ty} {p : PV} {x : t.sem}, t.zGM p = some x -> p = .f (t.fv x)
 | .int k, p, x, e => by
   have e1 : q31 k p = some x := e;clear e;unfold q31 at e1;split at e1
   ·rename_i k' y;have e := e1;clear e1
    cases hk : decide (k' = k) with
    | false => rw [hk] at e; cases e
    | true =>
      rw [hk] at e;cases e;have : k' = k := by simpa using hk
      subst this;rfl
   ·cases e1
 | .bool, p, x, e => by
   have e1 : q1J p = some x := e;clear e;unfold q1J at e1;split at e1
   ·cases e1; rfl
   ·cases e1
 | .str, p, x, e => by
   have e1 : q3V p = some x := e;clear e;unfold q3V at e1;split at e1
   ·cases e1; rfl
   ·cases e1
 | .unit, _, _, e => by cases e
 | .list _ _, _, _, e => by cases e
 | .pair _ _, _, _, e => by cases e
 | .raw, _, _, e => by cases e
 | .ol _ _, _, _, e => by cases e
 | .nif, _, _, e => by cases e
def Ty.zCN (t : Ty) (o : Option PV) : Option t.sem := o.bind t.zGM
theorem qOZ {t : Ty} {o : Option PV} {x : t.sem} (e : t.zCN o = some x) : o = some (SV.d t x).enc := by
 obtain ⟨p, h1, h2⟩ := zLX.1 e;rw [h1, q3N h2]; simp [SV.enc]
def sint (op : BinOp) (k : IntKind) (a b : Int) (K : SV -> q98 R) (F : q98 R) : q98 R := match op with
 | .lss => K (.d .bool (decide (a < b)))
 | .leq => K (.d .bool (decide (a <= b)))
 | .gtr => K (.d .bool (decide (b < a)))
 | .geq => K (.d .bool (decide (b <= a)))
 | .eql => K (.d .bool (a == b))
 | .neq => K (.d .bool (a != b))
 | .add => K (.d (.int k) (k.wrap (a + b)))
 | .sub => K (.d (.int k) (k.wrap (a - b)))
 | .mul => K (.d (.int k) (k.wrap (a * b)))
 | .quo => .bind (q7E k a b) fun c => K (.d (.int k) c)
 | .rem => .bind (q0Q a b) fun c => K (.d (.int k) c)
 | _ => F
omit [Yl] in
theorem q25 {x y : PV} {a b : Value} (hx : pl x = some a) (hy : pl y = some b) : vB P op t t2 x y ph = vB P op t t2 (fvv a) (fvv b) [] := by
 unfold vB;rw [hx, hy];rfl
def qQ1 (P : Program) (op : BinOp) (t t2 ty : TypeId) (x y : SV) (K : SV -> q98 R) : q98 R := match aM x, aM y, qD4 P 8 ty with
 | some a, some b, some u => .bind (u.zCN (vB P op t t2 (fvv a) (fvv b) [])) fun z => K (.d u z)
 | _, _, _ => .fail
def q8C (P : Program) (t : TypeId) (x y : SV) (h : SH) : Option Bool := match y with
 | .c (.slice none _ _) => cond (zT P t).isSome (match x with
   | .own k g n => (match slk k h.l with
     | some (.list _ gr g' _ _ _) => cond (Nat.beq g g') (some (gr && Nat.beq n 0)) none
     | _ => none)
   | _ => none) none
 | .c .nilFunc => cond (qRW P t) (match x with
   | .fn _ _ _ => some false
   | _ => none) none
 | _ => none
theorem qUX (ho : OkH P h) (hx : x.ok h) (e : q8C P t x y h = some b) : qFE P t x.enc y.enc (qD h.l) = some b ∧ pl x.enc = none := by
 unfold q8C at e;split at e
 ·rename_i n c
  cases h1 : (zT P t).isSome with
  | false => rw [h1] at e; cases e
  | true =>
    rw [h1] at e;simp only [cond_true] at e;split at e
    ·rename_i k g n;split at e
     ·rename_i el gr g' w u xs hk
      cases h2 : Nat.beq g g' with
      | false => rw [h2] at e; cases e
      | true =>
        rw [h2] at e;cases e;have hg : g = g' := zJ6 h2;subst hg;simp only [SV.ok] at hx;have hn := hx.2 _ _ _ _ _ hk;have hl := ho.list _ _ _ _ _ _ _ hk;refine ⟨?_, by simp [SV.enc, pl]⟩;simp only [SV.enc, fvv, qFE, h1, cond_true, isNil, y5 hk];rw [show (SO.list el gr g w u xs).enc.el = el from rfl, hl.2.1];simp only [qV, hn, rF, cond_true];rfl
     ·cases e
    ·cases e
 ·cases h1 : qRW P t with
  | false => rw [h1] at e; cases e
  | true =>
    rw [h1] at e;simp only [cond_true] at e;split at e
    ·cases e;exact ⟨by simp [SV.enc, fvv, qFE, h1, qO9], by simp [SV.enc, pl]⟩
    ·cases e
 ·cases e
def q2Y (P : Program) (t : TypeId) (x y : SV) : Option Bool := match x, y with
 | .d (.ol _ _) xs, .c (.slice none 0 0) => cond (zT P t).isSome (some (List.isEmpty xs)) none
 | _, _ => none
theorem qN7 (e : q2Y P t x y = some b) : vB P .eql t t2 x.enc y.enc ph = some (fvv (.bool b)) ∧ vB P .neq t t2 x.enc y.enc ph = some (fvv (.bool !b)) := by
 unfold q2Y at e;split at e
 ·rename_i el k xs
  cases h1 : (zT P t).isSome with
  | false => rw [h1] at e; cases e
  | true =>
    rw [h1] at e;cases e
    cases xs with
    | nil =>
      have hn : qFE P t (fvv (.slice none 0 0)) (fvv (.slice none 0 0)) ph = some true := by simp only [qFE, fvv, h1, cond_true, isNil]
      have hv : ∀ H, VR P (fun _ => True) H (own (fun _ => 0) ph) (fvv (.slice none 0 0)) (.slice none 0 0) := fun H => .f (.v rfl rfl)
      constructor
      ·have := (qGB (op := .eql) (o := cop (.binOp .eql t (.const (.slice none 0 0)) (.const (.slice none 0 0)) t2)) (env := []) (hv H00) (hv H00) hn).1;simp only [SV.enc, Ty.fv, fvo];show vB P .eql t t2 (fvv (.slice none 0 0)) (fvv (.slice none 0 0)) ph = _;unfold vB;rw [show pl (fvv (.slice none 0 0)) = some (.slice none 0 0) from rfl];simp only [this];rfl
      ·have := (qGB (op := .neq) (o := cop (.binOp .neq t (.const (.slice none 0 0)) (.const (.slice none 0 0)) t2)) (env := []) (hv H00) (hv H00) hn).2;simp only [SV.enc, Ty.fv, fvo];show vB P .neq t t2 (fvv (.slice none 0 0)) (fvv (.slice none 0 0)) ph = _;unfold vB;rw [show pl (fvv (.slice none 0 0)) = some (.slice none 0 0) from rfl];simp only [this];rfl
    | cons x xs =>
      have hn : qFE P t (.f (fvo el k (x :: xs))) (fvv (.slice none 0 0)) ph = some false := by
       simp only [qFE, fvv, h1, cond_true, fvo, zKZ, zL2, isNil]
      constructor
      ·simp only [SV.enc, Ty.fv];show wY P t (.f (fvo el k (x :: xs))) (fvv (.slice none 0 0)) ph _ = _;unfold wY;rw [hn]; rfl
      ·simp only [SV.enc, Ty.fv];show wY P t (.f (fvo el k (x :: xs))) (fvv (.slice none 0 0)) ph _ = _;unfold wY;rw [hn]; rfl
 ·cases e
def q1O (P : Program) (t : TypeId) (x y : SV) : Option Bool := match x, y with
 | .d (.list _ u) xs, .c (.slice none 0 0) => cond ((zT P t).isSome && Nat.blt 0 u.w) (some (List.isEmpty xs)) none
 | _, _ => none
theorem sU (e : q1O P t x y = some b) :
 (b = true -> vB P .eql t t2 x.enc y.enc ph = some .bq ∧ vB P .neq t t2 x.enc y.enc ph = some .bq) ∧ (b = false -> vB P .eql t t2 x.enc y.enc ph = some (fvv (.bool false)) ∧ vB P .neq t t2 x.enc y.enc ph = some (fvv (.bool true))) := by
 unfold q1O at e;split at e
 case h_2 => cases e
 rename_i el u xs
 cases h1 : ((zT P t).isSome && Nat.blt 0 u.w) with
 | false => rw [h1] at e; cases e
 | true =>
   rw [h1] at e;cases e;rw [zJ5] at h1;obtain ⟨h1, h2⟩ := h1;have h2 : 0 < u.w := zKE h2
   cases xs with
   | nil =>
     have hq : qPX P t (.f (.l el 0 [])) (fvv (.slice none 0 0)) = some .bq := by simp only [qPX, fvv, h1, cond_true]
     have hn : qFE P t (.f (.l el 0 [])) (fvv (.slice none 0 0)) ph = none := by simp only [qFE, fvv, h1, cond_true, isNil]
     refine ⟨fun _ => ?_, fun h => (by cases h)⟩;simp only [SV.enc, Ty.fv, List.flatMap_nil, zM9];constructor
     ·show wY P t (.f (.l el 0 [])) (fvv (.slice none 0 0)) ph _ = _;unfold wY; rw [hn]; exact hq
     ·show wY P t (.f (.l el 0 [])) (fvv (.slice none 0 0)) ph _ = _;unfold wY; rw [hn]; exact hq
   | cons x xs =>
     refine ⟨fun h => (by cases h), fun _ => ?_⟩
     obtain ⟨c, cs, hcs⟩ : ∃ c cs, List.flatMap u.cells (x :: xs) = c :: cs := by
      cases hf : List.flatMap u.cells (x :: xs) with
      | nil =>
        have := congrArg List.length hf;rw [yR, zKO, zMN] at this;simp at this;omega
      | cons c cs => exact ⟨c, cs, rfl⟩
     have hn : qFE P t (.f (.l el (xs.length + 1) (c :: cs))) (fvv (.slice none 0 0)) ph = some false := by simp only [qFE, fvv, h1, cond_true, isNil]
     simp only [SV.enc, Ty.fv, hcs, zKO];constructor
     ·show wY P t (.f (.l el (xs.length + 1) (c :: cs))) (fvv (.slice none 0 0)) ph _ = _;unfold wY; rw [hn]
     ·show wY P t (.f (.l el (xs.length + 1) (c :: cs))) (fvv (.slice none 0 0)) ph _ = _;unfold wY; rw [hn]; rfl
def q13 (P : Program) (op : BinOp) (t t2 ty : TypeId) (x y : SV) (h : SH) (K : SV -> q98 R) : q98 R := match q8C P t x y h, op with
 | some b, .eql => K (.d .bool b)
 | some b, .neq => K (.d .bool (!b))
 | _, _ => qQ1 P op t t2 ty x y K
def q4H (P : Program) (op : BinOp) (t t2 ty : TypeId) (x y : SV) (h : SH) (K : SV -> q98 R) : q98 R := match q1O P t x y, op with
 | some b, .eql => .ite b (K .bq) (K (.d .bool false))
 | some b, .neq => .ite b (K .bq) (K (.d .bool true))
 | _, _ => q13 P op t t2 ty x y h K
def q8V (P : Program) (op : BinOp) (t t2 ty : TypeId) (x y : SV) (h : SH) (K : SV -> q98 R) : q98 R := match asI x, asI y with
 | some (k, a), some (k', b) => cond (decide (k = k')) (sint op k a b K (qQ1 P op t t2 ty x y K)) (qQ1 P op t t2 ty x y K)
 | _, _ => (match asS x, asS y with
   | some a, some b => q9C op a b K (qQ1 P op t t2 ty x y K)
   | _, _ => (match q2Y P t x y, op with
     | some b, .eql => K (.d .bool b)
     | some b, .neq => K (.d .bool (!b))
     | _, _ => q4H P op t t2 ty x y h K))
theorem sG {K : SV -> q98 R} (e : (qQ1 P op t t2 ty x y K).run = some r) : ∃ v, vB P op t t2 x.enc y.enc (qD h.l) = some v.enc ∧ v.ok h ∧ (K v).run = some r := by
 unfold qQ1 at e;split at e
 ·rename_i a b u ha hb hu;obtain ⟨z, hz, e1⟩ := run_bind e;refine ⟨_, ?_, by simp [SV.ok], e1⟩;rw [q25 (vL ha) (vL hb)];exact qOZ hz
 ·cases e
theorem qXR {K : SV -> q98 R} (ho : OkH P h) (hx : x.ok h) (e : (q13 P op t t2 ty x y h K).run = some r) : ∃ v, vB P op t t2 x.enc y.enc (qD h.l) = some v.enc ∧ v.ok h ∧ (K v).run = some r := by
 unfold q13 at e;split at e
 ·rename_i b hs;obtain ⟨h1, h2⟩ := qUX ho hx hs;refine ⟨_, ?_, by simp [SV.ok], e⟩;unfold vB;rw [h2];simp [wY, h1, SV.enc, Ty.fv, fvv]
 ·rename_i b hs;obtain ⟨h1, h2⟩ := qUX ho hx hs;refine ⟨_, ?_, by simp [SV.ok], e⟩;unfold vB;rw [h2];simp [wY, h1, SV.enc, Ty.fv, fvv]
 ·exact sG e
theorem qZB {K : SV -> q98 R} (ho : OkH P h) (hx : x.ok h) (e : (q4H P op t t2 ty x y h K).run = some r) : ∃ v, vB P op t t2 x.enc y.enc (qD h.l) = some v.enc ∧ v.ok h ∧ (K v).run = some r := by
 unfold q4H at e;split at e
 ·rename_i b hs
  rcases run_ite e with ⟨z, e1⟩ | ⟨z, e1⟩
  ·exact ⟨.bq, by rw [((sU hs).1 z).1]; simp [SV.enc], by simp [SV.ok], e1⟩
  ·exact ⟨.d .bool false, by rw [((sU hs).2 z).1]; simp [SV.enc, Ty.fv, fvv], by simp [SV.ok], e1⟩
 ·rename_i b hs
  rcases run_ite e with ⟨z, e1⟩ | ⟨z, e1⟩
  ·exact ⟨.bq, by rw [((sU hs).1 z).2]; simp [SV.enc], by simp [SV.ok], e1⟩
  ·exact ⟨.d .bool true, by rw [((sU hs).2 z).2]; simp [SV.enc, Ty.fv, fvv], by simp [SV.ok], e1⟩
 ·exact qXR ho hx e
theorem q2A {K : SV -> q98 R} (ho : OkH P h) (hx : x.ok h) (e : (q8V P op t t2 ty x y h K).run = some r) : ∃ v, vB P op t t2 x.enc y.enc (qD h.l) = some v.enc ∧ v.ok h ∧ (K v).run = some r := by
 unfold q8V at e;split at e
 ·rename_i k a k' b ha hb
  cases hk : decide (k = k') with
  | false => rw [hk] at e; exact sG e
  | true =>
    rw [hk] at e;have hkk : k = k' := by simpa using hk
    subst hkk;simp only [cond_true] at e;have ha' := yG ha;have hb' := yG hb
    have fin : ∀ {v : SV}, vB P op t t2 (fvv (.int k a)) (fvv (.int k b)) (qD h.l) = some v.enc -> v.ok h -> (K v).run = some r -> ∃ v, vB P op t t2 x.enc y.enc (qD h.l) = some v.enc ∧ v.ok h ∧ (K v).run = some r := fun h1 h2 h3 => ⟨_, by rw [ha', hb']; exact h1, h2, h3⟩
    unfold sint at e;split at e
    ·exact fin (v := .d .bool (decide (a < b))) q58 (by simp [SV.ok]) e
    ·exact fin (v := .d .bool (decide (a <= b))) q49 (by simp [SV.ok]) e
    ·exact fin (v := .d .bool (decide (b < a))) q51 (by simp [SV.ok]) e
    ·exact fin (v := .d .bool (decide (b <= a))) q5V (by simp [SV.ok]) e
    ·exact fin (v := .d .bool (a == b)) q6K (by simp [SV.ok]) e
    ·exact fin (v := .d .bool (a != b)) q5K (by simp [SV.ok]) e
    ·exact fin (v := .d (.int k) (k.wrap (a + b))) q5L (by simp [SV.ok]) e
    ·exact fin (v := .d (.int k) (k.wrap (a - b))) q5O (by simp [SV.ok]) e
    ·exact fin (v := .d (.int k) (k.wrap (a * b))) q6B (by simp [SV.ok]) e
    ·obtain ⟨c, hc, e1⟩ := run_bind e;exact fin (v := .d (.int k) c) (q6P hc) (by simp [SV.ok]) e1
    ·obtain ⟨c, hc, e1⟩ := run_bind e;exact fin (v := .d (.int k) c) (q5G hc) (by simp [SV.ok]) e1
    ·exact sG e
 ·split at e
  ·rename_i a b ha hb;have ha' := u7 ha;have hb' := u7 hb;unfold q9C at e;split at e
   ·rcases run_ite e with ⟨z, e1⟩ | ⟨z, e1⟩
    ·exact ⟨.d .str (a ++ b), by rw [ha', hb', q1G (zKE z)]; simp [SV.enc, Ty.fv, fvv], by simp [SV.ok], e1⟩
    ·cases e1
   ·exact ⟨.d .bool (a.toList == b.toList), by rw [ha', hb', q1I]; simp [SV.enc, Ty.fv, fvv], by simp [SV.ok], e⟩
   ·exact ⟨.d .bool (!(a.toList == b.toList)), by rw [ha', hb', q3Q]; simp [SV.enc, Ty.fv, fvv], by simp [SV.ok], e⟩
   ·exact sG e
  split at e
  ·rename_i b hs;exact ⟨_, by rw [(qN7 hs).1]; simp [SV.enc, Ty.fv, fvv], by simp [SV.ok], e⟩
  ·rename_i b hs;exact ⟨_, by rw [(qN7 hs).2]; simp [SV.enc, Ty.fv, fvv], by simp [SV.ok], e⟩
  exact qZB ho hx e
def qT2 (P : Program) (mk : Operand -> Op) (ty : TypeId) (x : SV) (K : SV -> q98 R) : q98 R := match qDK x, qD4 P 8 ty with
 | some a, some u => .bind (u.zCN (aN P mk (fvv a))) fun z => K (.d u z)
 | _, _ => .fail
theorem qMY {mk : Operand -> Op} {K : SV -> q98 R} (e : (qT2 P mk ty x K).run = some r) : ∃ v, aN P mk x.enc = some v.enc ∧ v.ok h ∧ (K v).run = some r ∧ ∃ a, qDK x = some a := by
 unfold qT2 at e;split at e
 ·rename_i a u ha hu;obtain ⟨z, hz, e1⟩ := run_bind e;exact ⟨_, by rw [pX ha]; exact qOZ hz, by simp [SV.ok], e1, a, ha⟩
 ·cases e
def sun (P : Program) (op : UnOp) (t ty : TypeId) (x : SV) (K : SV -> q98 R) : q98 R := match op, asI x, asB x with
 | .neg, some (k, a), _ => K (.d (.int k) (k.wrap (0 - a)))
 | .not, _, some b => K (.d .bool (!b))
 | _, _, _ => qT2 P (fun a => .unOp op t a) ty x K
omit [Yl] in
theorem q1Y {x : Int} : aN P (fun a => .unOp .neg t a) (fvv (.int k x)) = some (fvv (.int k (k.wrap (0 - x)))) := rfl
theorem q54 {op : UnOp} {K : SV -> q98 R} (e : (sun P op t ty x K).run = some r) : ∃ v, aN P (fun a => .unOp op t a) x.enc = some v.enc ∧ v.ok h ∧ (K v).run = some r := by
 unfold sun at e;split at e
 ·rename_i k a ha;exact ⟨_, by rw [yG ha, q1Y]; simp [SV.enc, Ty.fv, fvv], by simp [SV.ok], e⟩
 ·rename_i b hb;exact ⟨_, by rw [o8 hb, q5F]; simp [SV.enc, Ty.fv, fvv], by simp [SV.ok], e⟩
 ·obtain ⟨v, h1, h2, h3, _⟩ := qMY (h := h) e;exact ⟨v, h1, h2, h3⟩
def eG (env : List SV) (l : Array Operand) : List SV := l.toList.map (xL env)
theorem aG (env : List SV) (l : Array Operand) : l.toList.map (qJ (qB env)) = qB (eG env l) := by
 unfold eG;rw [qX (l.toList.map (xL env)), zNK];exact zLF fun x _ => qM env x
omit [Yl] in
theorem bN (ho : okL h env) (l : Array Operand) : okL h (eG env l) := yA.2 fun x hx => by
 obtain ⟨q, _, rfl⟩ := zKX.1 hx;exact pM ho _
def smm (lo : Bool) (x y : SV) (K : SV -> q98 R) : q98 R := match asI x, asI y with
 | some (k, a), some (k', b) => cond (decide (k = k')) (K (.d (.int k) (cond lo (cond (decide (b < a)) b a) (cond (decide (a < b)) b a)))) .fail
 | _, _ => .fail
omit [Yl] in
theorem dmin {x y : Operand} {b : Int} {env : Env} (hx : env.val x = .int k a) (hy : env.val y = .int k b) :
 qQ8 (kG P (cop (.call ⟨.builtin .min, #[x, y], ts⟩) ty) env H00) = some (fvv (.int k (if b < a then b else a))) := by
 have h2 : kF env.val (cop (.call ⟨.builtin .min, #[x, y], ts⟩) ty).op.operands.toList = [env.val x, env.val y] := rfl;unfold kG;rw [h2];simp only [cop, execOp, resolve, List.map_toArray, zKM, zMF, hx, hy];rfl
omit [Yl] in
theorem dmax {x y : Operand} {b : Int} {env : Env} (hx : env.val x = .int k a) (hy : env.val y = .int k b) :
 qQ8 (kG P (cop (.call ⟨.builtin .max, #[x, y], ts⟩) ty) env H00) = some (fvv (.int k (if a < b then b else a))) := by
 have h2 : kF env.val (cop (.call ⟨.builtin .max, #[x, y], ts⟩) ty).op.operands.toList = [env.val x, env.val y] := rfl;unfold kG;rw [h2];simp only [cop, execOp, resolve, List.map_toArray, zKM, zMF, hx, hy];rfl
omit [Yl] in
theorem qTL {p : Prop} [Decidable p] {α : Type} {x y : α} : cond (decide p) x y = if p then x else y := by
 by_cases h : p <;> simp [h]
theorem q0O {lo : Bool} {c : Call} {K : SV -> q98 R} (hl : eG env c.args = [x, y]) (hc : c.callee = .builtin (cond lo .min .max)) (e : (smm lo x y K).run = some r) :
 ∃ v, vD P (cond lo .min .max) c [x.enc, y.enc] (qB env) ty (qD h.l) = some (v.enc, qD h.l) ∧ v.ok h ∧ (K v).run = some r := by
 unfold smm at e;split at e
 ·rename_i k a k' b ha hb
  cases hk : decide (k = k') with
  | false => rw [hk] at e; cases e
  | true =>
    rw [hk] at e;have : k = k' := by simpa using hk
    subst this;have e1 := yG ha;have e2 := yG hb;refine ⟨_, ?_, by simp [SV.ok], e⟩;obtain ⟨cal, args, ts⟩ := c;simp only at hc hl;subst hc;unfold eG at hl
    have hal : ∃ p q, args = #[p, q] ∧ xL env p = x ∧ xL env q = y := by
     obtain ⟨l⟩ := args
     match l, hl with
     | [p, q], hl => simp at hl; exact ⟨p, q, rfl, hl.1, hl.2⟩
    obtain ⟨p, q, rfl, hp, hq⟩ := hal;have vp : (qQC (qB env)).val p = .int k a := bH P (by rw [qM, hp, e1]; rfl);have vq : (qQC (qB env)).val q = .int k b := bH P (by rw [qM, hq, e2]; rfl);unfold vD;rw [e1, e2];have hpl : plL [fvv (.int k a), fvv (.int k b)] = some [.int k a, .int k b] := rfl;rw [hpl]
    cases lo with
    | true =>
      simp only [cond_true];rw [dmin vp vq, qTL];simp [pp1, SV.enc, Ty.fv, fvv]
    | false =>
      simp only [cond_false];rw [dmax vp vq, qTL];simp [pp1, SV.enc, Ty.fv, fvv]
 ·cases e
def q1W (P : Program) (ts : Array TypeId) (x : SV) (h : SH) : Option SV := match rH P x.enc (qD h.l) with
 | some _ => none
 | none => q7X P ts x h
theorem qW7 {v : SV} (ho : OkH P h) (hx : x.ok h) (e : q1W P ts x h = some v) : qCP P ts x.enc (qD h.l) = some v.enc ∧ v.ok h := by
 unfold q1W at e;split at e
 ·cases e
 ·rename_i hn;unfold qCP;rw [hn];exact q2T ho hx e
theorem qP0 {lo hi : Option Operand} {K : SV -> q98 R} (e : (qSF P t s (lo.map (xL env)) (hi.map (xL env)) K).run = some r) :
 ∃ v, qMB P (.slice t (.const (.string s)) (lo.map fun a => .const ((pl (qJ (qB env) a)).getD undef)) (hi.map fun a => .const ((pl (qJ (qB env) a)).getD undef)) none) = some v.enc ∧ v.ok h ∧ (K v).run = some r ∧ (plL ((lo.toList ++ hi.toList).map (qJ (qB env)))).isSome = true := by
 obtain ⟨c, e1⟩ := qG e;obtain ⟨b, hb, _, e2⟩ := wW e1;obtain ⟨a, ha, _, e3⟩ := wW e2;have m : ∀ o : Option Operand, (o.map (xL env)).map SV.enc = o.map (qJ (qB env)) := fun o => by cases o <;> simp [qM]
 rw [m] at hb ha;refine ⟨.d .str (s.extract a b), by rw [qW3 (qDN c) hb ha]; simp [SV.enc, Ty.fv, fvv], by simp [SV.ok], e3, ?_⟩
 have one : ∀ {o : Option Operand} {d most n : Nat}, bnd d most (o.map (qJ (qB env))) = some n -> o = none ∨ ∃ a k i, o = some a ∧ qJ (qB env) a = fvv (.int k i) := fun {o d most n} h => by
  rcases qVQ h with ⟨q, _⟩ | ⟨k, i, q, _⟩
  ·cases o with
   | none => exact .inl rfl
   | some a => cases q
  ·cases o with
   | none => cases q
   | some a => exact .inr ⟨a, k, i, rfl, by simpa using q⟩
 rcases one hb with rfl | ⟨x, k, i, rfl, hx⟩ <;> rcases one ha with rfl | ⟨y, k', i', rfl, hy⟩ <;> simp_all [plL, fvv, pl]
theorem qP6 {ix : SV} {K : SV -> q98 R} (e : (qKM P t s ix K).run = some r) :
 ∃ v k i, ix.enc = fvv (.int k i) ∧ qMB P (.index t (.const (.string s)) (.const (.int k i))) = some v.enc ∧ v.ok h ∧ (K v).run = some r := by
 unfold qKM at e;split at e
 ·rename_i k i hi;obtain ⟨c, e1⟩ := qG e;obtain ⟨b, hb, e2⟩ := run_bind e1;exact ⟨.d (.int .u8) b, k, i, yG hi, by rw [qZH (qDN c) hb]; simp [SV.enc, Ty.fv, fvv], by simp [SV.ok], e2⟩
 ·cases e
theorem qYE {s d : TypeId} {K : SV -> q98 R} {F : q98 R} (e : (qXN P s d x K F).run = some r) : (∃ v, aN P (fun a => .convert s d a) x.enc = some v.enc ∧ v.ok h ∧ (K v).run = some r) ∨ F.run = some r := by
 unfold qXN at e;split at e
 ·rename_i u k' hs hd;split at e
  ·rename_i k a ha;exact .inl ⟨_, by rw [yG ha, q3T hs hd]; simp [SV.enc, Ty.fv, fvv], by simp [SV.ok], e⟩
  ·exact .inr e
 ·rename_i u hs hd;split at e
  ·rename_i a ha;exact .inl ⟨_, by rw [u7 ha, qXM hs hd]; simp [SV.enc, Ty.fv, fvv], by simp [SV.ok], e⟩
  ·exact .inr e
 ·exact .inr e
def qIH (env : List SV) (parts : Array (Nat × Operand)) : List (Nat × SV) := parts.toList.map fun p => (p.1, xL env p.2)
theorem qDP (env : List SV) (parts : Array (Nat × Operand)) : (parts.toList.map fun p => (p.1, qJ (qB env) p.2)) = q4Q (qIH env parts) := by
 simp [qIH, q4Q, qM]
omit [Yl] in
theorem qH1 {env : List SV} (ho : okL h env) (parts : Array (Nat × Operand)) : ∀ p ∈ qIH env parts, p.2.ok h := fun p hp => by
 obtain ⟨q, _, rfl⟩ := zKX.1 hp;exact pM ho _
def qTU : Operand -> Operand -> Bool
 | .tmp i, .tmp j => Nat.beq i j
 | .const (.int k a), .const (.int k' b) => decide (k = k') && decide (a = b)
 | _, _ => false
omit [Yl] in
theorem qSK {a b : Operand} (e : qTU a b = true) : a = b := by
 unfold qTU at e;split at e
 ·rw [zJ6 e]
 ·rw [zJ5] at e;have h1 := of_decide_eq_true e.1;have h2 := of_decide_eq_true e.2;rw [h1, h2]
 ·cases e
def gv (o : Option SV) (h : SH) (K : SV -> SH -> q98 R) : q98 R := match o with
 | some v => K v h
 | none => .fail
def sop (P : Program) (o : Oper) (env : List SV) (k : Nat) (h : SH) (K : SV -> SH -> q98 R) : q98 R := match o.op with
 | .move x => K (xL env x) h
 | .assign x => K (xL env x) h
 | .pick c a b => (match asB (xL env c) with
   | some t => .ite t (K (xL env a) h) (K (xL env b) h)
   | none => .fail)
 | .alloc el => qSM P el k h K
 | .box el x => q9K P el (xL env x) k h K
 | .build t parts => gv (qS0 P t (qIH env parts)) h K
 | .buildSlice t len parts => dQ P t len (qIH env parts) k h K
 | .load t a => q18 P t (xL env a) h fun v => K v h
 | .store t a x => qVC P t (xL env a) (xL env x) h K
 | .binOp op t x y t2 => q8V P op t t2 o.type (xL env x) (xL env y) h fun v => K v h
 | .unOp op t x => sun P op t o.type (xL env x) fun v => K v h
 | .convert s d x => cond (qQF (xL env x).enc) .fail (qXN P s d (xL env x) (fun v => K v h) (qT2 P (fun a => .convert s d a) o.type (xL env x) fun v => K v h))
 | .makeFunc fn first cap => gv (tV fn (eG env first) (eG env cap)) h K
 | .makeSlice t l c => cond (qTU l c) (q1P P t (xL env l) k h K) .fail
 | .slice t x lo hi none => (match asS (xL env x) with
   | some s => qSF P t s (lo.map (xL env)) (hi.map (xL env)) fun v => K v h
   | none => qUA P t (xL env x) (lo.map (xL env)) (hi.map (xL env)) h fun v => K v h)
 | .fieldAddr t x i => gv (oZ P t (xL env x) i h) h K
 | .indexAddr t x ix => oO P t (xL env x) (xL env ix) h fun v => K v h
 | .index t x ix => (match asS (xL env x) with
   | some s => qKM P t s (xL env ix) fun v => K v h
   | none => qTI P t (xL env x) (xL env ix) fun v => K v h)
 | .extract t i => gv (qFF (xL env t) i) h K
 | .makeMap _ none => qOJ P k h K
 | .lookup t m kx ok => qLV P t (xL env m) (xL env kx) ok h fun v => K v h
 | .mapUpdate t m kx x => o5 P t (xL env m) (xL env kx) (xL env x) h K
 | .mapEntry t m kx => qBR P t (xL env m) (xL env kx) h K
 | .call c => (match c.callee, eG env c.args with
   | .builtin .append, [x, y] => qLQ P c.argTypes.toList x y k h K
   | .builtin .len, [x] => cond (qWI P c.argTypes) (match asS x with
     | some s => K (.d (.int .i64) (s.size : Int)) h
     | none => .fail) (match q4F P c.argTypes x h with
     | some v => K v h
     | none => gv (q1W P c.argTypes x h) h K)
   | .builtin .min, [x, y] => smm true x y fun v => K v h
   | .builtin .max, [x, y] => smm false x y fun v => K v h
   | _, _ => .fail)
 | _ => .fail
omit [Yl] in
theorem qV4 {o : Option SV} {K : SV -> SH -> q98 R} (e : (gv o h K).run = some r) : ∃ v, o = some v ∧ (K v h).run = some r := by
 unfold gv at e;split at e
 ·exact ⟨_, rfl, e⟩
 ·cases e
theorem qZX {k : Nat} {K : SV -> SH -> q98 R} (ho : OkH P h) (he : okL h env) (e : (sop P o env k h K).run = some r) :
 ∃ v h', oQ P o (qB env) k (qD h.l) = some (v.enc, qD h'.l) ∧ Post P h h' v ∧ (K v h').run = some r := by
 have same : ∀ {v : SV}, v.ok h -> Post P h h v := fun hv => ⟨.refl _, ho, hv⟩
 have sv := fun x => pM (h := h) he x
 unfold sop at e;unfold oQ;split at e
 ·rename_i x ho';exact ⟨_, _, by simp only [ho', qM], same (sv x), e⟩
 ·rename_i x ho';exact ⟨_, _, by simp only [ho', qM], same (sv x), e⟩
 ·rename_i c a b ho';split at e
  ·rename_i t ht;have h1 := o8 ht
   rcases run_ite e with ⟨z, e1⟩ | ⟨z, e1⟩
   ·exact ⟨_, _, by simp only [ho', qM, h1, fvv, z, cond_true], same (sv a), e1⟩
   ·exact ⟨_, _, by simp only [ho', qM, h1, fvv, z, cond_false], same (sv b), e1⟩
  ·cases e
 ·rename_i el ho';rw [ho'];exact qT8 ho e
 ·rename_i el x ho';rw [ho'];simp only [qM];exact q3I ho (sv x) e
 ·rename_i t parts ho';rw [ho'];obtain ⟨v, h1, h2⟩ := qV4 e;have h3 := qVF (qH1 he parts) h1;exact ⟨v, h, by simp only [qDP, h3.1, pp1], same h3.2, h2⟩
 ·rename_i t len parts ho';rw [ho'];simp only [qDP];exact qCQ ho (qH1 he parts) e
 ·rename_i t a ho';rw [ho'];obtain ⟨v, h1, h2, h3⟩ := qXU ho (sv a) e;exact ⟨v, h, by simp only [qM, h1, pp1], same h2, h3⟩
 ·rename_i t a x ho';rw [ho'];obtain ⟨h', h1, h2, h3, h4⟩ := qUP ho (sv a) (sv x) e;exact ⟨_, h', by simp only [qM, h1, ppS]; simp [SV.enc, qB], ⟨h2, h3, by simp [SV.ok, okL]⟩, h4⟩
 ·rename_i op t x y t2 ho';rw [ho'];obtain ⟨v, h1, h2, h3⟩ := q2A ho (sv x) e;exact ⟨v, h, by simp only [qM, h1, pp1], same h2, h3⟩
 ·rename_i op t x ho';rw [ho'];obtain ⟨v, h1, h2, h3⟩ := q54 (h := h) e;exact ⟨v, h, by simp only [qM, h1, pp1], same h2, h3⟩
 ·rename_i s d x ho';rw [ho']
  cases hp : qQF (xL env x).enc with
  | true => rw [hp] at e; cases e
  | false =>
    rw [hp] at e;have e1 : (qXN P s d (xL env x) (fun v => K v h) (qT2 P (fun a => .convert s d a) o.type (xL env x) fun v => K v h)).run = some r := e;rcases qYE (h := h) e1 with ⟨v, h1, h2, h3⟩ | e1
    ·exact ⟨v, h, by simp only [qM, hp, cond_false, h1, pp1], same h2, h3⟩
    ·obtain ⟨v, h1, h2, h3, _⟩ := qMY (h := h) e1;exact ⟨v, h, by simp only [qM, hp, cond_false, h1, pp1], same h2, h3⟩
 ·rename_i fn first cap ho'
  rw [ho'];obtain ⟨v, h1, h2⟩ := qV4 e;have h3 := qHE (bN he first) (bN he cap) h1;exact ⟨v, h, by simp only [aG, h3.1, pp1], same h3.2, h2⟩
 ·rename_i t l c ho';rw [ho'];obtain ⟨h1, h2⟩ := qG e;have := qSK h1;subst this;simp only [qM];exact qX6 ho h2
 ·rename_i t x lo hi ho';rw [ho'];split at e
  ·rename_i s hs;obtain ⟨v, h1, h2, h3, h4⟩ := qP0 (h := h) e;obtain ⟨vs, hvs⟩ := zK3.1 h4;refine ⟨v, h, ?_, same h2, h3⟩;have hx : qJ (qB env) x = .f (.v (.string s)) := by rw [qM]; exact u7 hs
   simp only [hx, hvs, h1, pp1]
  obtain ⟨v, h1, h2, h3⟩ := qS7 ho (sv x) e;refine ⟨v, h, ?_, same h2, h3⟩;have m : ∀ o : Option Operand, o.map (qJ (qB env)) = (o.map (xL env)).map SV.enc := fun o => by cases o <;> simp [qM]
  simp only [qM, m]
  have ns : ∀ s, (xL env x).enc ≠ .f (.v (.string s)) := fun s hs => by
   rw [hs] at h1;simp only [wI] at h1;cases h1
  split
  ·rename_i s hs; exact absurd hs (ns s)
  ·rw [h1]; rfl
 ·rename_i t x i ho';rw [ho'];obtain ⟨v, h1, h2⟩ := qV4 e;have h3 := qGJ (sv x) h1;exact ⟨v, h, by simp only [qM, h3.1, pp1], same h3.2, h2⟩
 ·rename_i t x ix ho';rw [ho'];obtain ⟨v, h1, h2, h3⟩ := qEA ho (sv x) e;exact ⟨v, h, by simp only [qM, h1, pp1], same h2, h3⟩
 ·rename_i t x ix ho';rw [ho'];split at e
  ·rename_i s hs;obtain ⟨v, k', i, h0, h1, h2, h3⟩ := qP6 (h := h) e;refine ⟨v, h, ?_, same h2, h3⟩;have hx := u7 hs;have hpl : pl (fvv (.int k' i)) = some (.int k' i) := rfl;simp only [qM, hx, h0, hpl];simp only [fvv, h1, pp1]
  obtain ⟨v, h1, h2, h3, l, hl⟩ := qT1 (sv x) e;refine ⟨v, h, ?_, same h2, h3⟩;simp only [qM];rw [hl] at h1 ⊢;simp only [SV.enc] at h1 ⊢;rw [h1];rfl
 ·rename_i t i ho';rw [ho'];obtain ⟨v, h1, h2⟩ := qV4 e;have h3 := qMG (sv t) h1;exact ⟨v, h, by simp only [qM, h3.1, pp1], same h3.2, h2⟩
 ·rename_i ho';rw [ho'];exact qKK ho e
 ·rename_i t m kx ok ho';rw [ho'];obtain ⟨v, h1, h2, h3⟩ := qPS e;exact ⟨v, h, by simp only [qM, h1, pp1], same h2, h3⟩
 ·rename_i t m kx x ho';rw [ho'];obtain ⟨h', h1, h2, h3, h4⟩ := qEJ ho e;exact ⟨_, h', by simp only [qM, h1, ppS]; simp [SV.enc, qB], ⟨h2, h3, by simp [SV.ok, okL]⟩, h4⟩
 ·rename_i t m kx ho';rw [ho'];simp only [qM];exact qHW ho e
 ·rename_i c ho';rw [ho'];have ha := aG env c.args;have hao := bN he c.args;split at e
  ·rename_i x y hc hl;rw [hl] at ha hao;simp only [okL] at hao;simp only [hc, ha, qB, uQ];exact qQ6 ho hao.1 hao.2.1 e
  ·rename_i x hc hl;rw [hl] at ha hao;simp only [okL] at hao
   cases hst : qWI P c.argTypes with
   | true =>
     rw [hst] at e;simp only [cond_true] at e;split at e
     ·rename_i s hs;refine ⟨_, h, ?_, same (by simp [SV.ok]), e⟩;obtain ⟨cal, args, ts⟩ := c;simp only at hc hl hst;subst hc
      obtain ⟨p, rfl, hp⟩ : ∃ p, args = #[p] ∧ xL env p = x := by
       unfold eG at hl;obtain ⟨l⟩ := args
       match l, hl with
       | [p], hl => simp at hl; exact ⟨p, rfl, hl⟩
      have vp : (qQC (qB env)).val p = .string s := bH P (by rw [qM, hp, u7 hs]; rfl);simp only [uQ, ha, qB, hst, cond_true];unfold vD;have hpl : plL [x.enc] = some [.string s] := by rw [u7 hs]; rfl
      rw [hpl];simp only;rw [qOD hst vp];simp [pp1, SV.enc, Ty.fv, fvv]
     ·cases e
   | false =>
     rw [hst] at e;simp only [cond_false] at e;split at e
     ·rename_i v hv;have h3 := qW0 hv;refine ⟨v, h, ?_, same h3.2, e⟩;simp only [hc, ha, qB, uQ, hst, cond_false, h3.1, pp1]
     obtain ⟨v, h1, h2⟩ := qV4 e;have h3 := qW7 ho hao.1 h1;refine ⟨v, h, ?_, same h3.2, h2⟩;simp only [hc, ha, qB, uQ, hst, cond_false, h3.1, pp1]
  ·rename_i x y hc hl;rw [hl] at ha;obtain ⟨v, h1, h2, h3⟩ := q0O (h := h) (lo := true) (ty := o.type) hl hc e;exact ⟨v, h, by simp only [hc, ha, qB, uQ]; exact h1, same h2, h3⟩
  ·rename_i x y hc hl;rw [hl] at ha;obtain ⟨v, h1, h2, h3⟩ := q0O (h := h) (lo := false) (ty := o.type) hl hc e;exact ⟨v, h, by simp only [hc, ha, qB, uQ]; exact h1, same h2, h3⟩
  ·cases e
 ·cases e
def q8I (P : Program) (o : Oper) (env : List SV) (k : Nat) (h : SH) (K : SV -> SH -> q98 R) : q98 R := match o.op with
 | .entry it => qTN P (xL env it) h K
 | _ => sop P o env k h K
theorem q14 {k : Nat} {K : SV -> SH -> q98 R} (ho : OkH P h) (he : okL h env) (e : (q8I P o env k h K).run = some r) :
 ∃ v h', q0Z P o (qB env) k (qD h.l) = some (v.enc, qD h'.l) ∧ Post P h h' v ∧ (K v h').run = some r := by
 unfold q8I at e;split at e
 ·rename_i it ho';obtain ⟨v, h1, h2, h3⟩ := qU9 ho e;refine ⟨v, h, ?_, ⟨.refl _, ho, h2⟩, h3⟩;unfold q0Z;rw [ho'];simp only [qM, h1, pp1]
 ·obtain ⟨v, h', h1, h2, h3⟩ := qZX ho he e;exact ⟨v, h', qT7 h1, h2, h3⟩
end
end Go.Sv
namespace Go.Sv
open Go.Idl
variable {as : List SV} {el ty : TypeId} {g : FuncId} {h' : SH} {k m n o : Nat} {v : SV}
noncomputable section
variable [Gc]
variable [Yl]
variable {P : Program} {h : SH} {R : Type} {r : R} {tab : uH}
omit [Yl] in
theorem qEB : ∀ (cs : List FV) (ph : PHp) (n : Nat), qDR (fz1 P n) (cs.map .f) ph = some (cs, ph)
 | [], ph, n => rfl
 | c :: cs, ph, n => by
   have e : fz1 P n ph (.f c) = some (c, ph) := by cases n <;> rfl
   show (match fz1 P n ph (.f c) with
    | some (y, ph1) => (match qDR (fz1 P n) (cs.map .f) ph1 with
      | some (ys, ph2) => some (y :: ys, ph2)
      | none => none)
    | none => none) = _
   rw [e];simp only [qEB cs ph n]
theorem q2L {gr : Bool} {g w : Nat} {t : Ty} {xs : List t.sem} (ho : OkH P h) (hk : slk k h.l = some (.list el gr g w t xs)) (hn : n = xs.length) (hom : o + m <= n) :
 fz1 P 4 (qD h.l) (.own k n o m) = some (.l el m (((xs.drop o).take m).flatMap t.cells), qD (h.del k).l) := by
 have hl := ho.list _ _ _ _ _ _ _ hk;simp only [fz1, y5 hk];rw [show (SO.list el gr g w t xs).enc.el = el from rfl, hl.2.1];simp only [qV, hn, rF, cond_true];rw [show (SO.list el gr g w t xs).enc.cs = (xs.flatMap t.cells).map .f from rfl, <- zMH, <- zMI, fP, nH, qEB];show some _ = some (_, qD (sdl k h.l));rw [oF]
def q7O (el : TypeId) (t : Ty) (k g : Nat) (f : List t.sem -> List t.sem) (h : SH) : Option (List t.sem × SH) := match slk k h.l with
 | some (.list el' _ g' _ u xs) => cond (Nat.beq el' el && Nat.beq g g') (match qFZ u t xs with
   | some xs => some (f xs, h.del k)
   | none => none) none
 | _ => none
def q83 (P : Program) (ty el : TypeId) (t : Ty) (h : SH) : Option (List t.sem × SH) := match zT P ty with
 | some el' => cond (Nat.beq el' el) (some ([], h)) none
 | none => none
def q5U (P : Program) (ty el el' : TypeId) (k' : IntKind) (xs : List Int) : (t : Ty) -> Option (List t.sem)
 | .int k => cond (Nat.beq el' el && decide (k' = k)) (match zT P ty with
   | some e => cond (Nat.beq e el) (some xs) none
   | none => none) none
 | _ => none
def qVM (t : Ty) (v : SV) (h : SH) : Option (t.sem × SH) := match t.zEJ v with
 | some x => some (x, h)
 | none => none
def qYD (P : Program) (ty : TypeId) : (t : Ty) -> SV -> SH -> Option (t.sem × SH)
 | .list el t, .own k g _, h => q7O el t k g (fun xs => xs) h
 | .list el t, .sl k g _ o m, h => q7O el t k g (fun xs => (xs.drop o).take m) h
 | .list el t, .c (.slice none 0 0), h => q83 P ty el t h
 | .list el t, .d (.ol el' k') xs, h => (match q5U P ty el el' k' xs t with
   | some x => some (x, h)
   | none => none)
 | t, v, h => cond t.nol (qVM t v h) none
omit [Yl] in
theorem qBF : ∀ {t : Ty} {x : t.sem}, (t.one && t.nol) = true -> rt0 P ty (.f (t.fv x)) = .f (t.fv x)
 | .int _, _, _ => rfl
 | .bool, _, _ => rfl
 | .str, _, _ => rfl
 | .raw, _, _ => rfl
 | .nif, _, _ => rfl
 | .ol _ _, _, e => by cases e
 | .list _ _, _, _ => rfl
 | .unit, _, e => by cases e
 | .pair _ _, _, e => by cases e
theorem qRF {ty : TypeId} {t : Ty} {g : Nat} {f : List t.sem -> List t.sem} {x : List t.sem} (ho : OkH P h) (hs : qYO h k g n) (hom : o + m <= n) (hf : ∀ xs : List t.sem, xs.length = n -> f xs = (xs.drop o).take m) (e : q7O el t k g f h = some (x, h')) :
 fz1 P 4 (qD h.l) (.own k n o m) = some ((Ty.list el t).fv x, qD h'.l) ∧ Keep h h' ∧ OkH P h' := by
 unfold q7O at e;split at e
 ·rename_i el' gr g' w u xs hk
  cases hc : (Nat.beq el' el && Nat.beq g g') with
  | false => rw [hc] at e; cases e
  | true =>
    rw [hc] at e;rw [zJ5] at hc;have he : el' = el := zJ6 hc.1;have hg : g = g' := zJ6 hc.2;subst he hg;simp only [cond_true] at e;split at e
    ·rename_i ys hys;cases nK hys;cases e;have hn := hs.2 _ _ _ _ _ hk;have hd := dV (k := k) ho;refine ⟨?_, hd.1, hd.2⟩;rw [q2L ho hk hn hom, hf _ hn.symm];show some (FV.l el' m _, _) = some (FV.l el' _ _, _);rw [zLG, zML, zL4 (by omega)]
    ·cases e
 ·cases e
theorem qMW {t : Ty} {x : t.sem} (ho : OkH P h) (hv : v.ok h) (e : qYD P ty t v h = some (x, h')) :
 ∃ y, fz1 P 4 (qD h.l) v.enc = some (y, qD h'.l) ∧ rt0 P ty (.f y) = .f (t.fv x) ∧ (t.one && t.nol) = true ∧ Keep h h' ∧ OkH P h' := by
 unfold qYD at e;split at e
 ·rename_i el t k g n;simp only [SV.ok] at hv;obtain ⟨h1, h2, h3⟩ := qRF (ty := ty) (n := n) (o := 0) (m := n) ho hv (by omega) (fun xs hl => by rw [zMM, <- hl, List.take_length]) e;exact ⟨_, by simp only [SV.enc]; exact h1, qBF rfl, rfl, h2, h3⟩
 ·rename_i el t k g n o m;simp only [SV.ok] at hv;obtain ⟨h1, h2, h3⟩ := qRF (ty := ty) (n := n) (o := o) (m := m) ho hv.1 hv.2 (fun xs hl => rfl) e;exact ⟨_, by simp only [SV.enc]; exact h1, qBF rfl, rfl, h2, h3⟩
 ·rename_i el t;unfold q83 at e;split at e
  ·rename_i el' hel
   cases hc : Nat.beq el' el with
   | false => rw [hc] at e; cases e
   | true =>
     rw [hc] at e;cases e;have he : el' = el := zJ6 hc;subst he;refine ⟨.v (.slice none 0 0), by simp only [SV.enc, fvv, fz1], ?_, rfl, .refl _, ho⟩
     show (match zT P ty with
      | some el => PV.f (.l el 0 [])
      | none => fvv (.slice none 0 0)) = _
     rw [hel];rfl
  ·cases e
 ·rename_i el t el' k' xs;split at e
  ·rename_i y hy;cases e;unfold q5U at hy;split at hy
   ·rename_i k _
    cases hc : (Nat.beq el' el && decide (k' = k)) with
    | false => rw [hc] at hy; cases hy
    | true =>
      rw [hc] at hy;rw [zJ5] at hc;have h1 : el' = el := zJ6 hc.1;have h2 : k' = k := by simpa using hc.2
      subst h1 h2;simp only [cond_true] at hy;split at hy
      ·rename_i e0 he0
       cases hc2 : Nat.beq e0 el' with
       | false => rw [hc2] at hy; cases hy
       | true =>
         rw [hc2] at hy;cases hy;have h3 : e0 = el' := zJ6 hc2;subst h3;refine ⟨fvo e0 k' xs, by simp only [SV.enc]; rfl, ?_, rfl, .refl _, ho⟩
         cases xs with
         | nil =>
           show (match zT P ty with
            | some el => PV.f (.l el 0 [])
            | none => fvv (.slice none 0 0)) = _
           rw [he0];rfl
         | cons x xs => rfl
      ·cases hy
   ·cases hy
  ·cases e
 ·obtain ⟨zHX, e⟩ : t.nol = true ∧ qVM t v h = some (x, h') := by
   cases hn : t.nol with
   | true => rw [hn] at e; exact ⟨rfl, e⟩
   | false => rw [hn] at e; cases e
  unfold qVM at e;split at e
  ·rename_i y hy;cases e;obtain ⟨h1, h2⟩ := sD hy;have h3 : (t.one && t.nol) = true := by rw [h2, zHX]; rfl
   exact ⟨_, by rw [h1]; rfl, qBF h3, h3, .refl _, ho⟩
  ·cases e
def q70 (P : Program) (ty : TypeId) (t : Ty) (v : SV) (h : SH) : Option (t.sem × SH) := cond (Gc.ol ty) (qVM t v h) (qYD P ty t v h)
theorem q2Q {t : Ty} {x : t.sem} (ho : OkH P h) (hv : v.ok h) (e : q70 P ty t v h = some (x, h')) :
 ∃ y, fz1 P 4 (qD h.l) v.enc = some (y, qD h'.l) ∧ rtC P ty (.f y) = .f (t.fv x) ∧ rtC P ty (.f (t.fv x)) = .f (t.fv x) ∧ t.one = true ∧ Keep h h' ∧ OkH P h' := by
 unfold q70 at e;unfold rtC
 cases hc : Gc.ol ty with
 | true =>
   rw [hc] at e;simp only [cond_true] at e ⊢;unfold qVM at e;split at e
   ·rename_i y hy;cases e;obtain ⟨h1, h2⟩ := sD hy;exact ⟨_, by rw [h1]; rfl, rfl, trivial, h2, .refl _, ho⟩
   ·cases e
 | false =>
   rw [hc] at e;simp only [cond_false] at e ⊢;obtain ⟨y, a1, a2, a3, a4, a5⟩ := qMW ho hv e;exact ⟨y, a1, a2, qBF a3, (by rw [zJ5] at a3; exact a3.1), a4, a5⟩
def qD8 (P : Program) (t : Ty) (tys : List TypeId) (l : List SV) (h : SH) : Option (t.sem × List TypeId × List SV × SH) := match tys, l with
 | ty :: tys, v :: l => (match q70 P ty t v h with
   | some (x, h') => some (x, tys, l, h')
   | none => none)
 | _, _ => none
def Ty.zC5 (P : Program) : (t : Ty) -> List TypeId -> List SV -> SH -> Option (t.sem × List TypeId × List SV × SH)
 | .unit, tys, l, h => some ((), tys, l, h)
 | .pair a b, tys, l, h => match a.zC5 P tys l h with
   | some (x, zDS, l1, h1) => (match b.zC5 P zDS l1 h1 with
     | some (y, zGN, l2, h2) => some ((x, y), zGN, l2, h2)
     | none => none)
   | none => none
 | .int k, tys, l, h => qD8 P (.int k) tys l h
 | .bool, tys, l, h => qD8 P .bool tys l h
 | .str, tys, l, h => qD8 P .str tys l h
 | .raw, tys, l, h => qD8 P .raw tys l h
 | .ol el k, tys, l, h => qD8 P (.ol el k) tys l h
 | .nif, tys, l, h => qD8 P .nif tys l h
 | .list el t, tys, l, h => qD8 P (.list el t) tys l h
def q86 (P : Program) (t : Ty) (tys : List TypeId) (l : List SV) (h : SH) (x : t.sem) (zAP : List TypeId) (l' : List SV) (h' : SH) : Prop :=
 okL h' l' ∧ Keep h h' ∧ OkH P h' ∧ ∃ ys : List FV, (∀ zs p, qDR (fz1 P 4) (qB l') (qD h'.l) = some (zs, p) -> qDR (fz1 P 4) (qB l) (qD h.l) = some (ys ++ zs, p)) ∧
  ∀ zs : List PV, rtL (rtC P) tys (ys.map .f ++ zs) = (t.cells x).map .f ++ rtL (rtC P) zAP zs ∧ rtL (rtC P) tys ((t.cells x).map .f ++ zs) = (t.cells x).map .f ++ rtL (rtC P) zAP zs
theorem gH {t : Ty} {tys zAP : List TypeId} {l l' : List SV} {x : t.sem} (ho : OkH P h) (hl : okL h l) (e : qD8 P t tys l h = some (x, zAP, l', h')) : q86 P t tys l h x zAP l' h' := by
 unfold qD8 at e;split at e
 ·rename_i ty tys v l;split at e
  ·rename_i y h1 hd;cases e;simp only [okL] at hl;obtain ⟨y, a1, a2, a2', a3, a4, a5⟩ := q2Q ho hl.1 hd;refine ⟨qL a4 hl.2, a4, a5, [y], fun zs p hz => ?_, fun zs => ⟨?_, ?_⟩⟩
   ·simp only [qB, qDR, a1, hz]; rfl
   ·show rtC P ty (.f y) :: rtL (rtC P) _ zs = _;rw [a2, Ty.cells_one a3]; rfl
   ·rw [Ty.cells_one a3];show rtC P ty (.f (t.fv _)) :: rtL (rtC P) _ zs = _;rw [a2']; rfl
  ·cases e
 ·cases e
theorem qB8 : ∀ {t : Ty} {tys zAP : List TypeId} {l l' : List SV} {h : SH} {x : t.sem} {h' : SH}, OkH P h -> okL h l -> t.zC5 P tys l h = some (x, zAP, l', h') -> q86 P t tys l h x zAP l' h'
 | .unit, tys, zAP, l, l', h, x, h', ho, hl, e => by
   cases e;exact ⟨hl, .refl _, ho, [], fun zs p hz => hz, fun zs => ⟨rfl, rfl⟩⟩
 | .int k, tys, zAP, l, l', h, x, h', ho, hl, e => gH ho hl e
 | .bool, tys, zAP, l, l', h, x, h', ho, hl, e => gH ho hl e
 | .str, tys, zAP, l, l', h, x, h', ho, hl, e => gH ho hl e
 | .raw, tys, zAP, l, l', h, x, h', ho, hl, e => gH ho hl e
 | .ol _ _, tys, zAP, l, l', h, x, h', ho, hl, e => gH ho hl e
 | .nif, tys, zAP, l, l', h, x, h', ho, hl, e => gH ho hl e
 | .list el t, tys, zAP, l, l', h, x, h', ho, hl, e => gH ho hl e
 | .pair a b, tys, zAP, l, l', h, x, h', ho, hl, e => by
   unfold Ty.zC5 at e;split at e
   ·rename_i x1 zDS l1 h1 hd1;split at e
    ·rename_i y zGN l2 h2 hd2;cases e;obtain ⟨a1, a2, a3, ys, a4, a5⟩ := qB8 ho hl hd1;obtain ⟨b1, b2, b3, zs, b4, b5⟩ := qB8 a3 a1 hd2;refine ⟨b1, a2.trans b2, b3, ys ++ zs, fun us p hu => ?_, fun us => ⟨?_, ?_⟩⟩
     ·rw [zK0];exact a4 _ _ (b4 _ _ hu)
     ·rw [zLC, zK0, (a5 _).1, (b5 _).1];show _ = (a.cells x1 ++ b.cells y).map PV.f ++ _;rw [zLC, zK0]
     ·show rtL (rtC P) _ ((a.cells x1 ++ b.cells y).map PV.f ++ us) = (a.cells x1 ++ b.cells y).map PV.f ++ _;rw [zLC, zK0, (a5 _).2, (b5 _).2, zK0]
    ·cases e
   ·cases e
def q37 (P : Program) (ty : TypeId) (t : Ty) (v : SV) (h : SH) : Option (t.sem × SH) := cond t.one (match v with
 | .agg _ => none
 | v => qYD P ty t v h) (match v with
 | .agg l => (match t.zC5 P (vE P 8 ty) l h with
   | some (x, _, [], h') => some (x, h')
   | _ => none)
 | _ => none)
theorem qBE {t : Ty} {x : t.sem} (ho : OkH P h) (hv : v.ok h) (e : q37 P ty t v h = some (x, h')) :
 ∃ y, fzP P (qD h.l) v.enc = some (y, qD h'.l) ∧ rt1 P ty y = t.pv x ∧ Keep h h' ∧ OkH P h' ∧ rt1 P ty (t.pv x) = t.pv x := by
 unfold q37 at e
 cases ht : t.one with
 | true =>
   rw [ht] at e;simp only [cond_true] at e;split at e
   ·cases e
   ·rename_i hna;obtain ⟨y, h1, h2, h3, h4, h5⟩ := qMW ho hv e
    have hpv : rt1 P ty (t.pv x) = t.pv x := by
     unfold Ty.pv;rw [ht];exact qBF h3
    refine ⟨.f y, ?_, ?_, h4, h5, hpv⟩
    ·cases v with
     | agg l => exact absurd rfl (hna l)
     | opt b k o w => cases b <;> (simp only [SV.enc, fvv, fzP, cond_true, cond_false] at h1 ⊢; rw [h1])
     | _ => simp only [SV.enc, fvv, fzP] at h1 ⊢; rw [h1]
    ·show rt0 P ty (.f y) = _;rw [h2];unfold Ty.pv;rw [ht]; rfl
 | false =>
   rw [ht] at e;simp only [cond_false] at e;split at e
   ·rename_i l;split at e
    ·rename_i x1 zDS h1 hd;cases e;simp only [SV.ok] at hv;obtain ⟨a1, a2, a3, ys, a4, a5⟩ := qB8 ho hv hd
     have hpv : rt1 P ty (t.pv x) = t.pv x := by
      unfold Ty.pv;rw [ht];show PV.agg (rtL (rtC P) (vE P 8 ty) ((t.cells x).map .f)) = _;have := (a5 []).2;rw [zLS] at this;rw [this];cases zDS <;> simp [rtL]
     refine ⟨.agg (ys.map .f), ?_, ?_, a2, a3, hpv⟩
     ·have := a4 [] (qD h'.l) (by simp [qB, qDR]);simp only [SV.enc, fzP, this, zLS]
     ·show PV.agg (rtL (rtC P) (vE P 8 ty) (ys.map .f)) = _;have := (a5 []).1;rw [zLS] at this;rw [this];unfold Ty.pv;rw [ht];cases zDS <;> simp [rtL]
    ·cases e
   ·cases e
def vC (P : Program) : List TypeId -> (ts : List Ty) -> List SV -> SH -> Option (TyL ts × SH)
 | _, [], [], h => some ((), h)
 | ty :: _, [t], [v], h => q37 P ty t v h
 | ty :: tys, t :: u :: ts, v :: vs, h => match q37 P ty t v h with
   | some (x, h1) => (match vC P tys (u :: ts) vs h1 with
     | some (y, h2) => some ((x, y), h2)
     | none => none)
   | none => none
 | _, _, _, _ => none
theorem bP : ∀ {tys : List TypeId} {ts : List Ty} {vs : List SV} {h : SH} {x : TyL ts} {h' : SH}, OkH P h -> okL h vs -> vC P tys ts vs h = some (x, h') ->
 ∃ ys, fzA P (qB vs) (qD h.l) = some (ys, qD h'.l) ∧ rtL (rt1 P) tys ys = pvL ts x ∧ Keep h h' ∧ OkH P h'
 | tys, [], [], h, x, h', ho, hv, e => by
   unfold vC at e;cases e;refine ⟨[], rfl, ?_, .refl _, ho⟩;cases tys <;> rfl
 | ty :: tys, [t], [v], h, x, h', ho, hv, e => by
   unfold vC at e;simp only [okL] at hv;obtain ⟨y, h1, h2, h3, h4, _⟩ := qBE ho hv.1 e;refine ⟨[y], ?_, ?_, h3, h4⟩
   ·simp only [qB, fzA, h1]
   ·show rt1 P ty y :: rtL (rt1 P) tys [] = [t.pv x];rw [h2];cases tys <;> rfl
 | ty :: tys, t :: u :: ts, v :: vs, h, x, h', ho, hv, e => by
   unfold vC at e;simp only [okL] at hv;split at e
   ·rename_i x1 h1 hd;split at e
    ·rename_i y1 h2 hd2;cases e;obtain ⟨y, a1, a2, a3, a4, _⟩ := qBE ho hv.1 hd;obtain ⟨ys, b1, b2, b3, b4⟩ := bP a4 (qL a3 hv.2) hd2;refine ⟨y :: ys, ?_, ?_, a3.trans b3, b4⟩
     ·simp only [qB, fzA, a1, b1]
     ·show rt1 P ty y :: rtL (rt1 P) tys ys = t.pv x1 :: pvL (u :: ts) y1;rw [a2, b2]
    ·cases e
   ·cases e
 | [], [_], [_], _, _, _, _, _, e => by unfold vC at e; cases e
 | [], _ :: _ :: _, _ :: _, _, _, _, _, _, e => by unfold vC at e; cases e
 | tys, [], _ :: _, _, _, _, _, _, e => by cases tys <;> (unfold vC at e; cases e)
 | tys, _ :: ts, [], _, _, _, _, _, e => by cases tys <;> cases ts <;> (unfold vC at e; cases e)
 | tys, [_], _ :: _ :: _, _, _, _, _, _, e => by cases tys <;> (unfold vC at e; cases e)
def Ty.sv (t : Ty) (x : t.sem) : SV := cond t.one (.d t x) (.agg (t.svs x))
theorem mO (t : Ty) (x : t.sem) : (t.sv x).enc = t.pv x := by
 unfold Ty.sv Ty.pv;cases t.one <;> simp [SV.enc, gI]
omit [Yl] in
theorem qJD (t : Ty) (x : t.sem) : (t.sv x).ok h := by
 unfold Ty.sv;cases t.one
 ·simp only [cond_false, SV.ok]; exact qD6 t x
 ·simp [SV.ok]
def svL : (ts : List Ty) -> TyL ts -> List SV
 | [], _ => []
 | [t], x => [t.sv x]
 | t :: u :: ts, x => t.sv x.1 :: svL (u :: ts) x.2
theorem qBQ : ∀ (ts : List Ty) (x : TyL ts), qB (svL ts x) = pvL ts x
 | [], _ => by simp [svL, pvL, qB]
 | [t], x => by simp [svL, pvL, qB, mO]
 | t :: u :: ts, x => by
   show qB (t.sv x.1 :: svL (u :: ts) x.2) = t.pv x.1 :: pvL (u :: ts) x.2;simp only [qB, mO, qBQ (u :: ts)]
omit [Yl] in
theorem qA5 : ∀ (ts : List Ty) (x : TyL ts), okL h (svL ts x)
 | [], _ => by simp [svL, okL]
 | [t], x => by simp [svL, okL, qJD]
 | t :: u :: ts, x => by
   show okL h (t.sv x.1 :: svL (u :: ts) x.2);simp only [okL];exact ⟨qJD t x.1, qA5 (u :: ts) x.2⟩
def qHF (ts : List Ty) (x : TyL ts) : SV := match svL ts x with
 | [v] => v
 | vs => .tup vs
theorem qIE (ts : List Ty) (x : TyL ts) : (qHF ts x).enc = j3 ts x := by
 unfold qHF j3;rw [<- qBQ]
 match svL ts x with
 | [] => simp [qB, qCJ, SV.enc]
 | [v] => simp [qB, qCJ]
 | a :: b :: l => simp [qB, qCJ, SV.enc]
omit [Yl] in
theorem qNP (ts : List Ty) (x : TyL ts) : (qHF ts x).ok h := by
 unfold qHF;have := qA5 (h := h) ts x;split
 ·rename_i v hv;rw [hv] at this;simp only [okL] at this;exact this.1
 ·simp only [SV.ok]; exact this
def qPM (tab : uH) (T : kS) : Prop := ∀ g ent, slT g T = some ent -> ∀ x, tab g (pvL ent.as x) = (ent.F x).map (j3 ent.rs)
def okc : FV -> Bool
 | .v (.slice _ _ _) => false
 | .v _ => true
 | .l _ _ _ => false
def _root_.Go.Sv.Ty.pln : Ty -> Bool
 | .int _ | .bool | .str | .unit | .nif => true
 | .pair a b => Go.Sv.Ty.pln a && Go.Sv.Ty.pln b
 | _ => false
omit [Yl] in
theorem mR : ∀ (t : Ty) (x : t.sem), (t.cells x).all okc = t.pln
 | .int _, _ => rfl
 | .bool, _ => rfl
 | .str, _ => rfl
 | .unit, _ => rfl
 | .nif, _ => rfl
 | .raw, _ => rfl
 | .list _ _, _ => rfl
 | .ol _ _, xs => by cases xs <;> rfl
 | .pair a b, x => by
   show (a.cells x.1 ++ b.cells x.2).all okc = (a.pln && b.pln);rw [zNJ, mR a, mR b]
omit [Yl] in
theorem qU3 : ∀ (cs : List FV), ((qJ5 (cs.map .f)).isSome && (cs.map PV.f).all q2P) = cs.all okc
 | [] => rfl
 | c :: cs => by
   rw [zK9, <- qU3 cs, zKM, zK9]
   cases c with
   | l el n xs => rfl
   | v x =>
     have e2 : q2P (.f (.v x)) = okc (.v x) := by cases x <;> rfl
     rw [e2, show qJ5 (.f (.v x) :: cs.map .f) = (match qJ5 (cs.map .f) with
      | some vs => some (x :: vs)
      | none => none) from rfl]
     cases qJ5 (cs.map PV.f) with
     | none => simp only [zOD, Bool.false_and, Bool.and_false]
     | some vs => simp only [zM8, zOE]
omit [Yl] in
theorem qE0 (t : Ty) (x : t.sem) : jP (t.pv x) = t.pln ∧ ((pl (t.pv x)).isSome && qVD (t.pv x)) = t.pln := by
 unfold Ty.pv
 cases ht : t.one with
 | true =>
   simp only [cond_true];have := mR t x;rw [Ty.cells_one ht] at this;rw [<- this, zK9, List.all_nil, zMG]
   cases hv : t.fv x with
   | l el n xs => exact ⟨rfl, rfl⟩
   | v y => cases y <;> exact ⟨rfl, rfl⟩
 | false =>
   simp only [cond_false];have := qU3 (t.cells x);rw [mR] at this;refine ⟨this, ?_⟩;rw [<- this]
   show ((match qJ5 ((t.cells x).map .f) with
    | some vs => some (Value.agg vs.toArray)
    | none => none).isSome && ((t.cells x).map PV.f).all q2P) = _
   cases qJ5 ((t.cells x).map .f) <;> rfl
def q50 (ts : List Ty) : Bool := ts.all Ty.pln
omit [Yl] in
theorem qHX : ∀ (ts : List Ty) (x : TyL ts), ((plL (pvL ts x)).isSome && (pvL ts x).all qVD) = q50 ts
 | [], _ => rfl
 | [t], x => by
   show ((match pl (t.pv x) with
    | some v => (match plL [] with
      | some vs => some (v :: vs)
      | none => none)
    | none => none).isSome && ((t.pv x) :: []).all qVD) = (t.pln && true)
   rw [<- (qE0 t x).2, zK9];cases pl (t.pv x) <;> simp [plL]
 | t :: u :: ts, x => by
   show ((match pl (t.pv x.1) with
    | some v => (match plL (pvL (u :: ts) x.2) with
      | some vs => some (v :: vs)
      | none => none)
    | none => none).isSome && ((t.pv x.1) :: pvL (u :: ts) x.2).all qVD) = (t.pln && q50 (u :: ts))
   rw [<- (qE0 t x.1).2, <- qHX (u :: ts) x.2, zK9]
   cases pl (t.pv x.1) with
   | none => simp
   | some v => cases plL (pvL (u :: ts) x.2) with
     | none => simp
     | some vs => simp
omit [Yl] in
theorem qHP (ts : List Ty) (x : TyL ts) : jP (j3 ts x) = q50 ts := by
 unfold j3
 match ts, x with
 | [], x => rfl
 | [t], x =>
   show jP (t.pv x) = (t.pln && true);rw [(qE0 t x).1, zMG]
 | t :: u :: ts, x =>
   have := qHX (t :: u :: ts) x;cases ts <;> exact this
def qQT (P : Program) (T : kS) (d : Bool) (g : FuncId) (as : List SV) (h : SH) (K : SV -> SH -> q98 R) : q98 R := match slT g T, P.funcs[g]? with
 | some ent, some fn => (match vC P fn.params.toList ent.as as h with
   | some (x, h1) => .bind (ent.F x) fun y => cond d (cond (q50 ent.rs || (qB as).all qHK) (K (qHF ent.rs y) h) .fail) (K (qHF ent.rs y) (cond (q50 ent.rs) h h1))
   | none => .fail)
 | _, _ => .fail
theorem qYH {T : kS} (ht : qPM tab T) {K : SV -> SH -> q98 R} (ho : OkH P h) (ha : okL h as) (e : (qQT P T false g as h K).run = some r) :
 ∃ v h', gY P tab g (qB as) (qD h.l) = .ok v.enc (qD h'.l) ∧ Post P h h' v ∧ (K v h').run = some r := by
 unfold qQT at e;split at e
 ·rename_i ent fn hent hfn;split at e
  ·rename_i x h1 hx;obtain ⟨y, hy, e1⟩ := run_bind e;obtain ⟨ys, a1, a2, a3, a4⟩ := bP ho ha hx;have e2 : (K (qHF ent.rs y) (cond (jP (j3 ent.rs y)) h h1)).run = some r := by rw [qHP]; exact e1
   refine ⟨_, _, ?_, ⟨?_, ?_, qNP _ _⟩, e2⟩
   ·unfold gY;rw [a1];simp only;rw [show rtA P g ys = pvL ent.as x by unfold rtA; rw [hfn]; exact a2, ht g ent hent x, hy];simp only [zKJ, qIE];cases jP (j3 ent.rs y) <;> rfl
   ·cases jP (j3 ent.rs y)
    ·exact a3
    ·exact .refl _
   ·cases jP (j3 ent.rs y)
    ·exact a4
    ·exact ho
  ·cases e
 ·cases e
theorem qVP {T : kS} (ht : qPM tab T) {K : SV -> SH -> q98 R} (ho : OkH P h) (ha : okL h as) (e : (qQT P T true g as h K).run = some r) :
 ∃ v h', pW P tab g (qB as) (qD h.l) = .ok v.enc (qD h'.l) ∧ Post P h h' v ∧ (K v h').run = some r := by
 unfold qQT at e;split at e
 ·rename_i ent fn hent hfn;split at e
  ·rename_i x h1 hx;obtain ⟨y, hy, e1⟩ := run_bind e;obtain ⟨ys, a1, a2, a3, a4⟩ := bP ho ha hx;obtain ⟨c, e2⟩ := qG (show (cond (jP (j3 ent.rs y) || (qB as).all qHK) (K (qHF ent.rs y) h) .fail : q98 R).run = some r by rw [qHP]; exact e1);refine ⟨_, _, ?_, ⟨.refl _, ho, qNP _ _⟩, e2⟩;unfold pW;rw [a1];simp only;rw [show rtA P g ys = pvL ent.as x by unfold rtA; rw [hfn]; exact a2, ht g ent hent x, hy];simp only [zKJ, qIE, c, cond_true]
  ·cases e
 ·cases e
def qA2 (fv : SV) (args : List SV) : Option (FuncId × List SV) := match fv with
 | .c (.func (.func g) a c) => cond (a.toList.isEmpty && c.toList.isEmpty) (some (g, args)) none
 | .fn g first cap => some (g, first ++ (args ++ cap))
 | _ => none
theorem pY {fv : SV} {args : List SV} (hf : fv.ok h) (ha : okL h args) (e : qA2 fv args = some (g, as)) : target fv.enc (qB args) = some (g, qB as) ∧ okL h as := by
 unfold qA2 at e;split at e
 ·rename_i g' a c
  cases hc : (a.toList.isEmpty && c.toList.isEmpty) with
  | false => rw [hc] at e; cases e
  | true =>
    rw [hc] at e;cases e;exact ⟨by simp only [target, SV.enc, fvv, hc, cond_true], ha⟩
 ·rename_i g' first cap
  cases e;simp only [SV.ok] at hf;exact ⟨by simp only [target, SV.enc, mV], aJ hf.1 (aJ ha hf.2)⟩
 ·cases e
def qZV (P : Program) (T : kS) (d : Bool) (f : SV) (args : List SV) (h : SH) (K : SV -> SH -> q98 R) : q98 R := match qA2 f args with
 | some (g, as) => qQT P T d g as h K
 | none => .fail
def qY0 (P : Program) (T : kS) (d : Bool) (k : Nat) (o : Oper) (env : List SV) (h : SH) (K : SV -> SH -> q98 R) : q98 R := match o.op with
 | .call ⟨.value f, args, _⟩ => qZV P T d (xL env f) (eG env args) h K
 | _ => sop P o env k h K
def qZ7 (P : Program) (G : Nat -> Bool) (CI : CIT) : Prop := ∀ {R : Type} (nm : Nm) (f : FuncId) (as : List SV) (h : SH) (K : SV -> SH -> q98 R) (r : R), OkH P h -> okL h as -> (CI R nm f as h K).run = some r ->
 qCG P G nm f (qB as) (qD h.l) fun v p => ∃ v' h', v = v'.enc ∧ p = qD h'.l ∧ Post P h h' v' ∧ (K v' h').run = some r
def qN2 (p : Nat -> Bool) (env : List SV) : List (Nat × SO) -> Bool
 | [] => true
 | (k, _) :: l => (!p k || zY k (qB env)) && qN2 p env l
theorem qIK {p : Nat -> Bool} {env : List SV} : ∀ {l : List (Nat × SO)}, qN2 p env l = true -> clean p (qB env) (qD l) = true
 | [], _ => rfl
 | (k, o) :: l, h => by
   have h : ((!p k || zY k (qB env)) && qN2 p env l) = true := h;show ((!p k || zY k (qB env)) && clean p (qB env) (qD l)) = true;rw [zJ5] at h ⊢;exact ⟨h.1, qIK h.2⟩
section
variable {Γ : Type}
def q0E (P : Program) (T : kS) (CI : CIT) (Y : YI Γ) (nm : Nm) (f : SV) (args : List SV) (g : Γ) (env : List SV) (h : SH) (K : Γ -> SV -> SH -> q98 R) : q98 R := match f with
 | .yv => (match vC P Y.yt Y.ys args h with
   | some (y, h1) => .bind (Y.stp g y) fun p => K p.1 (.d .bool p.2) h1
   | none => .fail)
 | f => (match qA2 f args with
   | some (t, as) => cond (slT t T).isSome (qQT P T false t as h (K g)) (CI R (qVH nm t) t as h fun v h2 => cond (qN2 (qVH nm t).p env h2.l) (K g v h2) .fail)
   | none => .fail)
def q03 (P : Program) (T : kS) (CI : CIT) (Y : YI Γ) (nm : Nm) (o : Oper) (g : Γ) (env : List SV) (h : SH) (K : Γ -> SV -> SH -> q98 R) : q98 R := match o.op with
 | .call ⟨.value f, args, _⟩ => q0E P T CI Y nm (xL env f) (eG env args) g env h K
 | _ => q8I P o env (qH nm o.dst) h (K g)
def YOk (P : Program) (G : Nat -> Bool) (w : Wld Γ) (Y : YI Γ) : Prop := ∀ g y g' b, Y.stp g y = some (g', b) -> qHC P G w Yl.l g (pvL Y.ys y) g' b
end
theorem qH3 {T : kS} (ht : qPM tab T) {o : Oper} {env : List SV} {K : SV -> SH -> q98 R} (ho : OkH P h) (he : okL h env) (e : (qY0 P T true k o env h K).run = some r) :
 ∃ v h', zG P tab k o (qB env) (qD h.l) = .ok v.enc (qD h'.l) ∧ Post P h h' v ∧ (K v h').run = some r := by
 unfold qY0 at e;unfold zG;split at e
 ·rename_i f args ts hop;unfold qZV at e;split at e
  ·rename_i g as hst;obtain ⟨h1, h2⟩ := pY (pM he f) (bN he args) hst;obtain ⟨v, h', a1, a2, a3⟩ := qVP ht ho h2 e;refine ⟨v, h', ?_, a2, a3⟩;simp only [hop, qM, aG, h1];exact a1
  ·cases e
 ·rename_i hne;obtain ⟨v, h', a1, a2, a3⟩ := qZX ho he e;refine ⟨v, h', ?_, a2, a3⟩;split
  ·rename_i f args ts hop; exact absurd hop (hne f args ts)
  ·rw [a1]; rfl
end
end Go.Sv
namespace Go.Sv
open Go.Idl
variable {d : Option Tmp} {el : TypeId} {env : List SV} {h : SH} {o : Oper} {t : Nat} {v : SV}
noncomputable section
variable [Gc]
variable [Frs]
variable [Yl]
variable {P : Program} {R : Type} {r : R} {tab : uH} {G : Nat -> Bool} {nm : Nm}
omit [Yl] in
theorem zAL {Q Q' : List PV -> PHp -> Prop} (hq : ∀ e p, Q e p -> Q' e p) : ∀ {t : PT}, t.holds P G Q -> t.holds P G Q'
 | .fail, h => h.elim
 | .ret e p, h => hq e p h
 | .chk c t, h => ⟨h.1, zAL hq h.2⟩
 | .call nm g args ph k, h => by
   obtain ⟨R, h1, h2⟩ := h;exact ⟨R, h1, fun v p hr => zAL hq (h2 v p hr)⟩
 | .rnd _ _ _ _, h => h.elim
omit [Yl] in
theorem q0T (k : Nat) : ∀ (cs : List FV), zY k (cs.map .f) = true
 | [] => by simp [zY]
 | c :: cs => by simp [zY, noK, q0T k cs]
def qL2 (k : Nat) : List (Nat × SO) -> Bool
 | [] => true
 | (_, .cells _ _ l) :: r => zY k (qB l) && qL2 k r
 | (_, .list _ _ _ _ _ _) :: r => qL2 k r
 | (_, .spc _ (.mit _ j _ _ _)) :: r => !(k == j) && qL2 k r
 | (_, .spc _ (.map _)) :: r => qL2 k r
 | (_, .spc _ (.iter _ _)) :: r => qL2 k r
theorem qU4 (k : Nat) : ∀ (l : List Nat), zY k (l.map iv) = true
 | [] => by simp [zY]
 | c :: cs => by
   show (true && zY k (cs.map iv)) = true;rw [qU4 k cs]; rfl
theorem qXP (k j si la : Nat) (seen : List Nat) : zY k (qVS (.mp j) si la seen) = !(k == j) := by
 show (!(k == j) && (true && (true && (zY k (seen.map iv) && true)))) = _;rw [qU4]; simp
theorem wC {k : Nat} : ∀ {l : List (Nat × SO)}, qL2 k l = true -> fG k (qD l) = true
 | [], _ => rfl
 | (j, .cells el w l) :: r, h => by
   simp only [qL2, zJ5] at h;show (zY k (qB l) && fG k (qD r)) = true;rw [h.1, wC h.2]; rfl
 | (j, .list el gr g w t xs) :: r, h => by
   simp only [qL2] at h;show (zY k ((xs.flatMap t.cells).map .f) && fG k (qD r)) = true;rw [q0T, wC h]; rfl
 | (j, .spc w (.mit t i si la seen)) :: r, h => by
   simp only [qL2, zJ5] at h;show (zY k (qVS (.mp i) si la seen) && fG k (qD r)) = true;rw [qXP, h.1, wC h.2]; rfl
 | (j, .spc w (.map es)) :: r, h => by
   simp only [qL2] at h;show (zY k (kR _ _) && fG k (qD r)) = true;rw [aR, wC h]; rfl
 | (j, .spc w (.iter s pos)) :: r, h => by
   simp only [qL2] at h;show (zY k (qS8 s pos) && fG k (qD r)) = true;rw [show zY k (qS8 s pos) = true from rfl, wC h]; rfl
def dW (env : List SV) (d : Option Tmp) (v : SV) : List SV := match d with
 | some t => xA env t v
 | none => env
theorem xV (env : List SV) (t : Nat) (v : SV) : qB (xA env t v) = xA (qB env) t v.enc := by
 rw [zA, zA, qX, qX, List.map_set]
theorem jS (env : List SV) (d : Option Tmp) (v : SV) : qB (dW env d v) = yI (qB env) d v.enc := by
 cases d with
 | none => rfl
 | some t => exact xV env t v
omit [Yl] in
theorem xW (he : okL h env) (hv : v.ok h) : okL h (xA env t v) := by
 rw [zA]
 exact yA.2 fun x hx => by
  rcases List.mem_or_eq_of_mem_set hx with q | q
  ·exact yA.1 he x q
  ·rw [q]; exact hv
omit [Yl] in
theorem wL (he : okL h env) (hv : v.ok h) : okL h (dW env d v) := by
 cases d with
 | none => exact he
 | some t => exact xW he hv
omit [Yl] in
theorem jE (env : List SV) (t : Nat) (v : SV) : (xA env t v).length = env.length := by rw [zA, zM7]
omit [Yl] in
theorem qXQ (env : List SV) (d : Option Tmp) (v : SV) : (dW env d v).length = env.length := by
 cases d with
 | none => rfl
 | some t => exact jE env t v
theorem qOW {w : SV} (h1 : zC env t = some v) (h2 : w.enc = v.enc) : qB (xA env t w) = qB env := by
 rw [xV, zA];rw [qF] at h1;apply zLH;intro i;rw [zK2];by_cases e : t = i
 ·subst e;rw [if_pos rfl, qX, zKL, h1, zKQ, if_pos (zKA.1 h1).1, h2];rfl
 ·rw [if_neg e]
def qU (b w : Bool) : Bool := cond w b (!b)
omit [Yl] in
theorem qNW (b w : Bool) : qU b w = (b == w) := by cases b <;> cases w <;> rfl
def qAD (ds : List (Option Tmp)) (o : Oper) (env : List SV) (Y N : List SV -> q98 R) : q98 R := match o.guard with
 | none => Y env
 | some (j, w) => (match qQJ ds j with
   | none => N env
   | some t => (match zC env t with
     | none => .fail
     | some v => (match asB v with
       | some b => .ite (qU b w) (Y (xA env t (.c (.bool w)))) (N (xA env t (.c (.bool (!w)))))
       | none => (match v with
         | .tup [] => N env
         | _ => .fail))))
theorem pI {ds : List (Option Tmp)} {Y N : List SV -> q98 R} (he : okL h env) (e : (qAD ds o env Y N).run = some r) :
 ∃ env', qB env' = qB env ∧ okL h env' ∧ env'.length = env.length ∧ ((jX ds o (qB env) = some true ∧ (Y env').run = some r) ∨ (jX ds o (qB env) = some false ∧ (N env').run = some r)) := by
 unfold qAD at e;unfold jX;split at e
 ·rename_i hg;exact ⟨env, rfl, he, rfl, .inl ⟨by rw [hg], e⟩⟩
 ·rename_i j w hg;rw [hg];simp only;split at e
  ·rename_i hd;exact ⟨env, rfl, he, rfl, .inr ⟨by rw [hd]; rfl, e⟩⟩
  ·rename_i t hd;rw [hd];simp only [qKX, zH];split at e
   ·cases e
   ·rename_i v hv;rw [hv];split at e
    ·rename_i b hb;have hbe := o8 hb
     rcases run_ite e with ⟨z, e1⟩ | ⟨z, e1⟩
     ·rw [qNW] at z;have : b = w := by simpa using z
      subst this;refine ⟨_, qOW hv (by rw [hbe]; simp [SV.enc]), xW he (by simp [SV.ok]), jE _ _ _, .inl ⟨?_, e1⟩⟩;simp only [zKJ, hbe, qA8, z]
     ·rw [qNW] at z
      have : b = !w := by cases b <;> cases w <;> first | rfl | cases z
      refine ⟨_, qOW hv (by rw [hbe, this]; simp [SV.enc]), xW he (by simp [SV.ok]), jE _ _ _, .inr ⟨?_, e1⟩⟩;simp only [zKJ, hbe, qA8, z]
    ·split at e
     ·exact ⟨env, rfl, he, rfl, .inr ⟨by simp only [zKJ, SV.enc, qB]; exact qQW, e⟩⟩
     ·cases e
def qC8 (nm : Nm) (k : Nat) (env : List SV) (h : SH) : Bool := inP nm k && (zY k (qB env) && qL2 k h.l)
section
variable {Γ : Type}
def qWL (P : Program) (T : kS) (CI : CIT) (Y : YI Γ) (nm : Nm) (ds : List (Option Tmp)) : List Oper -> Γ -> List SV -> SH -> (Γ -> List SV -> SH -> q98 R) -> q98 R
 | [], g, env, h, K => K g env h
 | o :: l, g, env, h, K => qAD ds o env
    (fun env => cond (cond (needs o.op) (qC8 nm (qH nm o.dst) env h) true) (q03 P T CI Y nm o g env h fun g v h' => qWL P T CI Y nm ds l g (dW env o.dst v) h' K) .fail)
    (fun env => qWL P T CI Y nm ds l g (dW env o.dst (.tup [])) h K)
end
def Ends (P : Program) (w : List (Option Tmp)) (env : List SV) (h : SH) (env' : List SV) (h' : SH) : Prop :=
 okL h' env' ∧ OkH P h' ∧ Keep h h' ∧ (∀ i, some i ∉ w -> zC (qB env') i = zC (qB env) i) ∧ env'.length = env.length
theorem q35 {i : Nat} (h : d ≠ some i) : zC (qB (dW env d v)) i = zC (qB env) i := by
 cases d with
 | none => rfl
 | some t =>
   show zC (qB (xA env t v)) i = _;rw [xV, zA, qF, qF, zK2, if_neg (fun e => h (by rw [e]))]
theorem Ends.step {w : List (Option Tmp)} {zAD : List SV} {h1 : SH} {env' : List SV} {h' : SH} (he : qB env = qB zAD) (hl : env.length = zAD.length) (hk : Keep h h1) (x : Ends P w (dW env o.dst v) h1 env' h') : Ends P (o.dst :: w) zAD h env' h' :=
 ⟨x.1, x.2.1, hk.trans x.2.2.1, fun i hi => by
   rw [zKS, not_or] at hi
   rw [x.2.2.2.1 i hi.2, q35 (fun e => hi.1 e.symm), he], by rw [x.2.2.2.2, qXQ, hl]⟩
omit [Yl] in
theorem xX {Γ : Type} {w : Wld Γ} {Q Q' : Γ -> List PV -> PHp -> Prop} (hq : ∀ g e p, Q g e p -> Q' g e p) : ∀ {t : PT} {g : Γ}, t.zA4 P G w Q g -> t.zA4 P G w Q' g
 | .fail, _, h => h.elim
 | .ret e p, g, h => hq g e p h
 | .chk c t, g, h => ⟨h.1, xX hq h.2⟩
 | .call nm f args ph k, g, h => by
   obtain ⟨R, h1, h2⟩ := h;exact ⟨R, h1, fun v p hr => xX hq (h2 v p hr)⟩
 | .rnd l args ph k, g, h => by
   obtain ⟨zBC, tys, ph1, g', b, h1, h2, h3⟩ := h;exact ⟨zBC, tys, ph1, g', b, h1, h2, xX hq h3⟩
def qWO (T : kS) (f : FuncId) : Bool := !(slT f T).isSome
theorem qGG {Γ : Type} {w : Wld Γ} {T : kS} {CI : CIT} {Y : YI Γ} (ht : qPM tab T) (hci : qZ7 P G CI) (hy : YOk P G w Y) {ds : List (Option Tmp)} : ∀ {l : List Oper} {g : Γ} {env : List SV} {h : SH} {K : Γ -> List SV -> SH -> q98 R}, OkH P h -> okL h env -> (qWL P T CI Y nm ds l g env h K).run = some r ->
 (pops P tab (qWO T) nm ds l (qB env) (qD h.l)).zA4 P G w (fun g e p => ∃ env' h', e = qB env' ∧ p = qD h'.l ∧ Ends P (l.map (·.dst)) env h env' h' ∧ (K g env' h').run = some r) g
 | [], g, env, h, K, ho, he, e => ⟨env, h, rfl, rfl, ⟨he, ho, .refl _, fun _ _ => rfl, rfl⟩, e⟩
 | o :: l, g, env, h, K, ho, he, e => by
   unfold qWL at e;obtain ⟨zAG, q1, q2, q3, q4⟩ := pI he e;rw [qRK]
   rcases q4 with ⟨hw, e1⟩ | ⟨hw, e1⟩
   ·rw [hw, qZA];obtain ⟨c, e2⟩ := qG e1
    have next : ∀ {g' : Γ} {v : SV} {h' : SH}, Post P h h' v -> (qWL P T CI Y nm ds l g' (dW zAG o.dst v) h' K).run = some r -> (pops P tab (qWO T) nm ds l (yI (qB env) o.dst v.enc) (qD h'.l)).zA4 P G w (fun g e p => ∃ env' h', e = qB env' ∧ p = qD h'.l ∧ Ends P ((o :: l).map (·.dst)) env h env' h' ∧ (K g env' h').run = some r) g' := fun {g' v h'} a2 a3 => by
     have ih := qGG ht hci hy a2.2.1 (wL (d := o.dst) (qL a2.1 q2) a2.2.2) a3;rw [jS, q1] at ih;exact xX (fun g e p ⟨env', h', b1, b2, b3, b4⟩ => ⟨env', h', b1, b2, Ends.step q1 q3 a2.1 b3, b4⟩) ih
    have chk : ∀ {g' : Γ} {v : SV} {h' : SH}, Post P h h' v -> (qWL P T CI Y nm ds l g' (dW zAG o.dst v) h' K).run = some r -> (q4O (needs o.op) (qH nm o.dst) nm (qB env) (qD h.l) (pops P tab (qWO T) nm ds l (yI (qB env) o.dst v.enc) (qD h'.l))).zA4 P G w (fun g e p => ∃ env' h', e = qB env' ∧ p = qD h'.l ∧ Ends P ((o :: l).map (·.dst)) env h env' h' ∧ (K g env' h').run = some r) g' := fun {g' v h'} a2 a3 => by
     unfold q4O
     cases hn : needs o.op with
     | false => exact next a2 a3
     | true =>
       rw [hn] at c;simp only [cond_true] at c ⊢;refine ⟨?_, next a2 a3⟩;unfold qC8 at c;rw [q1] at c;simp only [zJ5] at c;unfold fresh;rw [c.1, c.2.1, wC c.2.2]; rfl
    unfold q03 at e2;split at e2
    ·rename_i f args ts hop
     have hpe : fO P tab (qWO T) (qH nm o.dst) o (qB env) (qD h.l) = oD P tab (qWO T) (xL zAG f).enc (qB (eG zAG args)) (qD h.l) := by
      unfold fO;rw [<- q1];simp only [hop, qM, aG]
     rw [hpe];have hfv := pM q2 f;have has := bN q2 args
     revert e2 hfv
     generalize xL zAG f = fv;intro e2 hfv;unfold q0E at e2;split at e2
     ·split at e2
      ·rename_i y h1 hd;obtain ⟨p, hp, e3⟩ := run_bind e2;obtain ⟨g', b⟩ := p;obtain ⟨ys, a1, a2, a3, a4⟩ := bP ho has hd
       have : oD P tab (qWO T) (SV.enc .yv) (qB (eG zAG args)) (qD h.l) = .rnd Yl.l (qB (eG zAG args)) (qD h.l) := by
        simp only [SV.enc, oD]
       rw [this, qUB];refine ⟨ys, Y.yt, qD h1.l, g', b, a1, ?_, ?_⟩
       ·rw [a2]; exact hy _ _ _ _ hp
       ·have := next (v := .d .bool b) ⟨a3, a4, by simp [SV.ok]⟩ e3;simpa [SV.enc, Ty.fv, fvv] using this
      ·cases e2
     ·split at e2
      ·rename_i t as hst;obtain ⟨h1, h2⟩ := pY hfv has hst;rw [qHA h1];unfold dA qWO
       cases hsl : (slT t T).isSome with
       | true =>
         rw [hsl] at e2;simp only [cond_true] at e2;obtain ⟨v, h', a1, a2, a3⟩ := qYH ht ho h2 e2;simp only [zNT, cond_false];rw [a1, qNO];exact chk a2 a3
       | false =>
         rw [hsl] at e2;simp only [cond_false] at e2;simp only [Bool.not_false, cond_true];rw [qPL];refine ⟨_, hci _ _ _ _ _ _ ho h2 e2, ?_⟩;rintro v p ⟨v', h', rfl, rfl, a2, a3⟩;obtain ⟨c2, a4⟩ := qG a3;have := qIK c2;rw [q1] at this;exact ⟨this, next a2 a4⟩
      ·cases e2
    ·rename_i hne;obtain ⟨v, h', a1, a2, a3⟩ := q14 ho q2 e2;rw [q1] at a1
     have hpe : fO P tab (qWO T) (qH nm o.dst) o (qB env) (qD h.l) = .ok v.enc (qD h'.l) := by
      unfold fO;split
      ·rename_i f args ts hop; exact absurd hop (hne f args ts)
      ·rw [a1]; rfl
     rw [hpe, qNO];exact chk a2 a3
   ·rw [hw, qU7];have ih := qGG ht hci hy ho (wL (d := o.dst) (v := .tup []) q2 (by simp [SV.ok, okL])) e1;rw [jS, q1] at ih;simp only [SV.enc, qB] at ih;exact xX (fun g e p ⟨env', h', b1, b2, b3, b4⟩ => ⟨env', h', b1, b2, Ends.step q1 q3 (.refl _) b3, b4⟩) ih
def qVU (P : Program) (T : kS) (nm : Nm) (ds : List (Option Tmp)) (b : DB) (zAD : List SV) : Nat -> List Oper -> List SV -> SH -> List (Nat × List Nat) -> List (Nat × List Nat) -> List (Nat × Nat) -> List (Nat × PV) -> (List SV -> SH -> q98 R) -> q98 R
 | i, [], env, h, E, F, N, V, K => cond (dS b (qB zAD) E F N V) (K env h) .fail
 | i, o :: l, env, h, E, F, N, V, K => qAD ds o env
    (fun env => cond (cond (needs o.op) (inP nm (qH nm o.dst) && qL2 (qH nm o.dst) h.l) true) (qY0 P T true (qH nm o.dst) o env h fun v h' =>
      qVU P T nm ds b zAD (i + 1) l (dW env o.dst v) h' (cond (qR o) ((i, wlT nm o (qB env)) :: E) E) (cond (qR o) F ((i, dlT o (qB env)) :: F)) (cond (needs o.op) ((i, qH nm o.dst) :: N) N) ((i, v.enc) :: V) K) .fail)
    (fun env => qVU P T nm ds b zAD (i + 1) l (dW env o.dst (.tup [])) h E F N ((i, .tup []) :: V) K)
theorem qE5 {T : kS} (ht : qPM tab T) {ds : List (Option Tmp)} {b : DB} {zAD : List SV} : ∀ {l : List Oper} {i : Nat} {env : List SV} {h : SH} {E F : List (Nat × List Nat)} {N : List (Nat × Nat)} {V : List (Nat × PV)} {K : List SV -> SH -> q98 R}, OkH P h -> okL h env -> (qVU P T nm ds b zAD i l env h E F N V K).run = some r ->
 (qI3 P tab nm ds b (qB zAD) i l (qB env) (qD h.l) E F N V).holds P G fun e p => ∃ env' h', e = qB env' ∧ p = qD h'.l ∧ Ends P (l.map (·.dst)) env h env' h' ∧ (K env' h').run = some r
 | [], i, env, h, E, F, N, V, K, ho, he, e => by
   unfold qVU at e;obtain ⟨c, e1⟩ := qG e;rw [qWT];exact ⟨c, env, h, rfl, rfl, ⟨he, ho, .refl _, fun _ _ => rfl, rfl⟩, e1⟩
 | o :: l, i, env, h, E, F, N, V, K, ho, he, e => by
   unfold qVU at e;obtain ⟨zAG, q1, q2, q3, q4⟩ := pI he e;rw [qTA]
   rcases q4 with ⟨hw, e1⟩ | ⟨hw, e1⟩
   ·rw [hw, qTJ];obtain ⟨c, e2⟩ := qG e1;obtain ⟨v, h', a1, a2, a3⟩ := qH3 ht ho q2 e2;rw [q1] at a1;rw [a1, qV2];have ih := qE5 ht a2.2.1 (wL (d := o.dst) (qL a2.1 q2) a2.2.2) a3;rw [jS, q1] at ih;have ih2 := zAL (Q' := fun e p => ∃ env' h', e = qB env' ∧ p = qD h'.l ∧ Ends P ((o :: l).map (·.dst)) env h env' h' ∧ (K env' h').run = some r) (fun e p ⟨env', h', b1, b2, b3, b4⟩ => ⟨env', h', b1, b2, Ends.step q1 q3 a2.1 b3, b4⟩) ih;unfold qCO
    cases hn : needs o.op with
    | false => rw [hn] at ih2; exact ih2
    | true =>
      rw [hn] at c ih2;simp only [cond_true] at c ⊢;refine ⟨?_, ih2⟩;rw [zJ5] at c;rw [c.1, wC c.2]; rfl
   ·rw [hw, qP1];have ih := qE5 ht ho (wL (d := o.dst) (v := .tup []) q2 (by simp [SV.ok, okL])) e1;rw [jS, q1] at ih;simp only [SV.enc, qB] at ih;exact zAL (fun e p ⟨env', h', b1, b2, b3, b4⟩ => ⟨env', h', b1, b2, Ends.step q1 q3 (.refl _) b3, b4⟩) ih
def qJJ (R : List Nat) (l : List (Nat × SO)) : List (Nat × SO) := R.filterMap fun k => (slk k l).map fun o => (k, o)
theorem qAC {l : List (Nat × SO)} : ∀ (R : List Nat), qD (qJJ R l) = aD R (qD l)
 | [] => rfl
 | k :: R => by
   have ih := qAC (l := l) R;unfold qJJ aD at ih ⊢;rw [zN9, zN9, uV]
   cases hk : slk k l with
   | none => simp only [zN5]; exact ih
   | some o =>
     simp only [zKJ];show (k, o.enc) :: qD _ = _;rw [ih]
def q8B (b : Array Nat) (h0 : List (Nat × SO)) (zAD : List PV) (E F : List (Nat × List Nat)) (N : List (Nat × Nat)) (V : List (Nat × PV)) (O : List (Nat × List (Nat × SO))) : Bool :=
 (E.all fun e => (E ++ F).all fun f => Nat.beq e.1 f.1 || (qO6 b e.1 f.1 || f.2.all fun l => !e.2.contains l)) &&
   N.all fun n => zY n.2 zAD && (qL2 n.2 h0 && ((V.all fun v => Nat.beq v.1 n.1 || (jZ b n.1 v.1 || noK n.2 v.2)) && O.all fun c => Nat.beq c.1 n.1 || (jZ b n.1 c.1 || qL2 n.2 c.2)))
def qXW (O : List (Nat × List (Nat × SO))) : List (Nat × PHp) := O.map fun c => (c.1, qD c.2)
theorem q2U {b : Array Nat} {h0 : List (Nat × SO)} {zAD : List PV} {E F : List (Nat × List Nat)} {N : List (Nat × Nat)} {V : List (Nat × PV)} {O : List (Nat × List (Nat × SO))} (h : q8B b h0 zAD E F N V O = true) : q4U b (qD h0) zAD E F N V (qXW O) = true := by
 unfold q8B at h;unfold q4U;rw [zJ5] at h ⊢;refine ⟨h.1, zJ8.2 fun n hn => ?_⟩;have h2 := zJ8.1 h.2 n hn;rw [zJ5, zJ5, zJ5] at h2 ⊢;refine ⟨h2.1, wC h2.2.1, h2.2.2.1, zJ8.2 fun c hc => ?_⟩;obtain ⟨c0, hc0, rfl⟩ := zKX.1 hc;have h3 := zJ8.1 h2.2.2.2 c0 hc0;rw [zLB, zLB] at h3 ⊢;rcases h3 with h | h | h
 ·exact .inl h
 ·exact .inr (.inl h)
 ·exact .inr (.inr (wC h))
def q2K (l : List (Nat × SO)) : PV -> Bool
 | .own k _ _ _ => (match slk k l with
   | some (.list _ _ _ _ _ _) => true
   | _ => false)
 | x => qHK x
theorem qX9 {l : List (Nat × SO)} {x : PV} (h : q2K l x = true) : qIS (qD l) x = true := by
 cases x with
 | own k t o n =>
   unfold q2K at h;unfold qIS;simp only at h ⊢;rw [uV];split at h
   ·rename_i el gr g w u xs hk;rw [hk];simp only [zKJ];show (((List.flatMap u.cells xs).map PV.f).all qRA) = true;rw [zJ8];intro z hz;obtain ⟨y, _, rfl⟩ := zKX.1 hz;rfl
   ·cases h
 | _ => exact h
def q1C (o : Oper) (env : List PV) : Bool := match o.op with
 | .call ⟨.value f, args, _⟩ => (match target (qJ env f) (args.toList.map (qJ env)) with
   | some (g, _) => (match Frs.fr g with
     | none => true
     | some _ => false)
   | none => true)
 | _ => true
theorem qYT {env : List PV} (h : q1C o env = true) : pfr o env = none := by
 cases hp : pfr o env with
 | none => rfl
 | some q =>
   obtain ⟨el, n, cs⟩ := q;obtain ⟨f, args, ts, g, hop, ht, hg⟩ := qKO hp;unfold q1C at h;rw [hop] at h;simp only [ht, hg] at h;cases h
def sfr (o : Oper) (env : List SV) : Option SV := match o.op with
 | .call ⟨.value f, args, _⟩ => (match qA2 (xL env f) (eG env args) with
   | some (g, [.d (.list el t) xs]) => (match Frs.fr g with
     | some el' => cond (Nat.beq el el') (some (.d (.list el t) xs)) none
     | none => none)
   | _ => none)
 | _ => none
theorem q65 {x : SV} (he : okL h env) (e : sfr o env = some x) : ∃ el t, ∃ xs : List (Ty.sem t), x = .d (.list el t) xs ∧ pfr o (qB env) = some (el, xs.length, xs.flatMap t.cells) := by
 unfold sfr at e;split at e
 case h_2 => cases e
 rename_i f args ts hop;split at e
 case h_2 => cases e
 rename_i g el t xs hst;split at e
 case h_2 => cases e
 rename_i el' hg
 cases hc : Nat.beq el el' with
 | false => rw [hc] at e; cases e
 | true =>
   rw [hc] at e;cases e;obtain ⟨h1, _⟩ := pY (pM he f) (bN he args) hst;refine ⟨el, t, xs, rfl, ?_⟩;unfold pfr;rw [hop];simp only [qM, aG, h1, qB, SV.enc, Ty.fv, hg, hc, cond_true]
def frT (P : Program) (el : TypeId) (w : Nat) (t : Ty) : Bool := match szT P el, t with
 | some (s + 1), .int k => Nat.beq w (s + 1) && (kL P el && decide (k = Frs.fk))
 | _, _ => false
theorem qTF {k : IntKind} : ∀ (xs : List Int), (List.flatMap (Ty.int k).cells xs).all (isK k) = true
 | [] => rfl
 | x :: xs => by
   rw [zKZ, zNJ, qTF xs];simp [Ty.cells, isK]
theorem qZ8 {t : Ty} {xs : List t.sem} (h : frT P el t.w t = true) (hn : Nat.ble xs.length 1048576 = true) : qWJ P el xs.length (xs.flatMap t.cells) = true := by
 unfold frT at h;unfold qWJ;split at h
 ·rename_i s k hs;rw [zJ5, zJ5] at h;have hw := zJ6 h.1;have hk : k = Frs.fk := of_decide_eq_true h.2.2;subst hk;rw [hs];have h1 : (List.flatMap (Ty.int Frs.fk).cells xs).length = xs.length * (s + 1) := by rw [yR, hw]
  have h2 : (List.flatMap (Ty.int Frs.fk).cells xs).all (isK Frs.fk) = true := qTF xs;show (Nat.beq (xs.length * (s + 1)) (List.flatMap (Ty.int Frs.fk).cells xs).length && (Nat.ble xs.length 1048576 && (kL P el && (List.flatMap (Ty.int Frs.fk).cells xs).all (isK Frs.fk)))) = true;rw [h1, h2, hn, h.2.1, Nat.beq_refl];rfl
 ·cases h
theorem q8G {w : Nat} {t : Ty} (h : frT P el w t = true) : szT P el = some w ∧ 0 < w := by
 unfold frT at h;split at h
 ·rename_i s k hs;rw [zJ5] at h;have hw := zJ6 h.1;rw [hw];exact ⟨hs, Nat.succ_pos _⟩
 ·cases h
def qGK (P : Program) (T : kS) (nm : Nm) (ds : List (Option Tmp)) (b : Array Nat) (zAD : List SV) (h0 : SH) : Nat -> List Oper -> List SV -> SH -> List (Nat × List Nat) -> List (Nat × List Nat) -> List (Nat × Nat) -> List (Nat × PV) -> List (Nat × List (Nat × SO)) -> (List SV -> SH -> q98 R) -> q98 R
 | i, [], env, h, E, F, N, V, O, K => cond (q8B b h0.l (qB zAD) E F N V O) (K env h) .fail
 | i, o :: l, env, h, E, F, N, V, O, K => qAD ds o env
    (fun env => match sfr o env with
      | some (.d (.list el t) xs) => cond (frT P el t.w t && inP nm (qH nm o.dst)) (.ite (Nat.beq xs.length 0)
         (qGK P T nm ds b zAD h0 (i + 1) l (dW env o.dst (.d (.list el t) [])) h E ((i, dlC o (qB env)) :: F) N ((i, .f (.l el 0 [])) :: V) O K)
         (.ite (Nat.ble xs.length 1048576)
           (qGK P T nm ds b zAD h0 (i + 1) l (dW env o.dst (.own (qH nm o.dst) h.next xs.length)) (h.new (qH nm o.dst) fun v => .list el true v v t xs) ((i, [qH nm o.dst]) :: E) F ((i, qH nm o.dst) :: N) ((i, .own (qH nm o.dst) xs.length 0 xs.length) :: V)
             ((i, qJJ [qH nm o.dst] (h.new (qH nm o.dst) fun v => .list el true v v t xs).l) :: O) K) .fail)) .fail
      | some _ => .fail
      | none => cond ((q1C o (qB env) && (okE o || (!qR o || eD o))) && ((qAF o (qB env)).all (q2K h.l) && cond (needs o.op) (inP nm (qH nm o.dst)) true)) (qY0 P T true (qH nm o.dst) o env h fun v h' =>
      qGK P T nm ds b zAD h0 (i + 1) l (dW env o.dst v) h' (cond (okE o) ((i, RC o (qH nm o.dst) (qB env)) :: E) E) (cond (okE o) F ((i, dlC o (qB env)) :: F)) (cond (needs o.op) ((i, qH nm o.dst) :: N) N) ((i, v.enc) :: V) (cond (okE o) ((i, qJJ (RC o (qH nm o.dst) (qB env)) h'.l) :: O) O) K) .fail)
    (fun env => qGK P T nm ds b zAD h0 (i + 1) l (dW env o.dst (.tup [])) h E F N ((i, .tup []) :: V) O K)
theorem nD {T : kS} (ht : qPM tab T) {ds : List (Option Tmp)} {b : Array Nat} {zAD : List SV} {h0 : SH} : ∀ {l : List Oper} {i : Nat} {env : List SV} {h : SH} {E F : List (Nat × List Nat)} {N : List (Nat × Nat)} {V : List (Nat × PV)} {O : List (Nat × List (Nat × SO))} {K : List SV -> SH -> q98 R}, OkH P h -> okL h env -> (qGK P T nm ds b zAD h0 i l env h E F N V O K).run = some r ->
 (qH4 P tab nm ds b (qB zAD) (qD h0.l) i l (qB env) (qD h.l) E F N V (qXW O)).holds P G fun e p => ∃ env' h', e = qB env' ∧ p = qD h'.l ∧ Ends P (l.map (·.dst)) env h env' h' ∧ (K env' h').run = some r
 | [], i, env, h, E, F, N, V, O, K, ho, he, e => by
   unfold qGK at e;obtain ⟨c, e1⟩ := qG e;exact ⟨q2U c, env, h, rfl, rfl, ⟨he, ho, .refl _, fun _ _ => rfl, rfl⟩, e1⟩
 | o :: l, i, env, h, E, F, N, V, O, K, ho, he, e => by
   unfold qGK at e;obtain ⟨zAG, q1, q2, q3, q4⟩ := pI he e;unfold qH4 jW
   rcases q4 with ⟨hw, e1⟩ | ⟨hw, e1⟩
   ·rw [hw];simp only;split at e1
    ·rename_i el t xs hsf;obtain ⟨el', t', xs', hx, hpf⟩ := q65 q2 hsf;cases hx;rw [q1] at hpf;obtain ⟨c, e2⟩ := qG e1;rw [zJ5] at c;obtain ⟨p1, p2⟩ := qH0 hpf
     rcases run_ite e2 with ⟨z, e3⟩ | ⟨z, e3⟩
     ·have z0 : xs = [] := List.eq_nil_of_length_eq_zero (zJ6 z);subst z0;have hfr : qGY o (qB env) = false := by unfold qGY; rw [hpf]; rfl
      have zDT : okF o (qB env) = false := by unfold okF; rw [p1, hfr]; rfl
      have zDU : ndF o (qB env) = false := by unfold ndF; rw [p2, hfr]; rfl
      rw [nY hpf (qZ8 c.1 rfl)];simp only [zDT, zDU, cond_false];unfold qCO;simp only [cond_false];have ih := nD ht ho (wL (d := o.dst) (v := .d (.list el t) []) q2 (by simp [SV.ok])) e3;rw [jS, q1] at ih;exact zAL (Q' := fun e p => ∃ env' h', e = qB env' ∧ p = qD h'.l ∧ Ends P ((o :: l).map (·.dst)) env h env' h' ∧ (K env' h').run = some r) (fun e p ⟨env', h', b1, b2, b3, b4⟩ => ⟨env', h', b1, b2, Ends.step q1 q3 (.refl _) b3, b4⟩) ih
     ·rcases run_ite e3 with ⟨z2, e4⟩ | ⟨z2, e4⟩
      ·cases hn : xs.length with
       | zero => rw [hn] at z; cases z
       | succ n =>
       rw [hn] at hpf;have hfr : qGY o (qB env) = true := by unfold qGY; rw [hpf]
       have zDT : okF o (qB env) = true := by unfold okF; rw [hfr, Bool.or_true]
       have zDU : ndF o (qB env) = true := by unfold ndF; rw [hfr, Bool.or_true]
       have hRF : RF o (qH nm o.dst) (qB env) = [qH nm o.dst] := by unfold RF; rw [hfr]; rfl
       have hfo := qZ8 c.1 z2;rw [hn] at hfo;rw [nY hpf hfo];simp only [zDT, zDU, hRF, cond_true];unfold qCO;simp only [cond_true];have hnw := xZ (k := qH nm o.dst) (f := fun v => .list el true v v t xs) ho ⟨rfl, rfl, q8G c.1⟩;have ih := nD ht hnw.2 (wL (d := o.dst) (v := .own (qH nm o.dst) h.next xs.length) (qL hnw.1 q2) (vR rfl)) e4;rw [jS, q1] at ih;have ih2 := zAL (Q' := fun e p => ∃ env' h', e = qB env' ∧ p = qD h'.l ∧ Ends P ((o :: l).map (·.dst)) env h env' h' ∧ (K env' h').run = some r) (fun e p ⟨env', h', b1, b2, b3, b4⟩ => ⟨env', h', b1, b2, Ends.step q1 q3 hnw.1 b3, b4⟩) ih
       have eO : qXW ((i, qJJ [qH nm o.dst] (h.new (qH nm o.dst) fun v => .list el true v v t xs).l) :: O) = (i, aD [qH nm o.dst] (qD (h.new (qH nm o.dst) fun v => .list el true v v t xs).l)) :: qXW O := by
        show (i, qD (qJJ _ _)) :: qXW O = _;rw [qAC]
       rw [eO] at ih2;simp only [SV.enc, hn] at ih2;exact ⟨c.2, ih2⟩
      ·cases e4
    ·cases e1
    rename_i hsf;obtain ⟨c, e2⟩ := qG e1;rw [zJ5, zJ5, zJ5] at c;have hpf : pfr o (qB env) = none := by rw [<- q1]; exact qYT c.1.1
    have hfr : qGY o (qB env) = false := by unfold qGY; rw [hpf]
    have zDT : okF o (qB env) = okE o := by unfold okF; rw [hfr, zNU]
    have zDU : ndF o (qB env) = needs o.op := by unfold ndF; rw [hfr, zNU]
    have hRF : RF o (qH nm o.dst) (qB env) = RC o (qH nm o.dst) (qB env) := by unfold RF; rw [hfr]; rfl
    obtain ⟨v, h', a1, a2, a3⟩ := qH3 ht ho q2 e2;rw [q1] at a1;have c2 : wX o (qB env) (qD h.l) = true := zJ8.2 fun x hx => qX9 (zJ8.1 c.2.1 x (by rw [q1]; exact hx))
    rw [mZ hpf a1 c.1.2 c2];simp only [zDT, zDU, hRF];have ih := nD ht a2.2.1 (wL (d := o.dst) (qL a2.1 q2) a2.2.2) a3;rw [jS, q1] at ih;have ih2 := zAL (Q' := fun e p => ∃ env' h', e = qB env' ∧ p = qD h'.l ∧ Ends P ((o :: l).map (·.dst)) env h env' h' ∧ (K env' h').run = some r) (fun e p ⟨env', h', b1, b2, b3, b4⟩ => ⟨env', h', b1, b2, Ends.step q1 q3 a2.1 b3, b4⟩) ih
    have eO : qXW (cond (okE o) ((i, qJJ (RC o (qH nm o.dst) (qB env)) h'.l) :: O) O) = cond (okE o) ((i, aD (RC o (qH nm o.dst) (qB env)) (qD h'.l)) :: qXW O) (qXW O) := by
     cases okE o with
     | false => rfl
     | true =>
       show (i, qD (qJJ _ _)) :: qXW O = _;rw [qAC]; rfl
    rw [eO] at ih2;unfold qCO
    cases hn : needs o.op with
    | false => rw [hn] at ih2; exact ih2
    | true =>
      have c3 := c.2.2;rw [hn] at c3 ih2;simp only [cond_true] at c3 ⊢;exact ⟨c3, ih2⟩
   ·rw [hw];simp only;have ih := nD ht ho (wL (d := o.dst) (v := .tup []) q2 (by simp [SV.ok, okL])) e1;rw [jS, q1] at ih;simp only [SV.enc, qB] at ih;exact zAL (fun e p ⟨env', h', b1, b2, b3, b4⟩ => ⟨env', h', b1, b2, Ends.step q1 q3 (.refl _) b3, b4⟩) ih
def qNF (ops : Array Oper) : Bool := match ops[ops.size - 1]? with
 | some o => (match o.op with
   | .call ⟨.value _, _, _⟩ => (List.range (ops.size - 1)).all fun i => jZ (Region.before ops) i (ops.size - 1)
   | _ => false)
 | none => false
def q8P {Γ : Type} (P : Program) (G : Nat -> Bool) (T : kS) (CI : CIT) (Y : YI Γ) (nm : Nm) (ops : Array Oper) (d : Bool) (g : Γ) (env : List SV) (h : SH) (K : Γ -> List SV -> SH -> q98 R) : q98 R :=
 cond (w9 G ops) (cond d (cond (fA ops && fD ops) (cond (qNF ops)
  (qVU P T nm (ops.toList.map (·.dst)) (dBo ops) env 0 (ops.toList.take (ops.size - 1)) env h [] [] [] [] fun env h => qWL P T CI Y nm (ops.toList.map (·.dst)) (ops.toList.drop (ops.size - 1)) g env h K)
  (qVU P T nm (ops.toList.map (·.dst)) (dBo ops) env 0 ops.toList env h [] [] [] [] (K g))) (cond (qBS ops) (qGK P T nm (ops.toList.map (·.dst)) (Region.before ops) env h 0 ops.toList env h [] [] [] [] [] (K g)) .fail)) (qWL P T CI Y nm (ops.toList.map (·.dst)) ops.toList g env h K)) .fail
variable {nat : y7} {good : FuncId -> Bool} {rd : Bool}
theorem q2G [zAZ P G] {Γ : Type} {w : Wld Γ} {T : kS} {CI : CIT} {Y : YI Γ} (s : zA3 P good nat G tab) (ht : qPM tab T) (hci : qZ7 P G CI) (hy : YOk P G w Y) {id : Nat} {ops : Array Oper} {d : Bool} {g : Γ} {K : Γ -> List SV -> SH -> q98 R} (ho : OkH P h) (he : okL h env) (e : (q8P P G T CI Y nm ops d g env h K).run = some r) :
 qP P G rd nm w (.region id ops d) g (qB env) (qD h.l) fun x g' pe ph => x = .normal ∧ ∃ env' h', pe = qB env' ∧ ph = qD h'.l ∧ Ends P (ops.toList.map (·.dst)) env h env' h' ∧ (K g' env' h').run = some r := by
 unfold q8P at e;obtain ⟨c1, e1⟩ := qG e
 cases d with
 | true =>
   cases hc2 : (fA ops && fD ops) with
   | false =>
     rw [hc2] at e1;obtain ⟨c3, e2⟩ := qG (show (cond (qBS ops) (qGK P T nm (ops.toList.map (·.dst)) (Region.before ops) env h 0 ops.toList env h [] [] [] [] [] (K g)) .fail : q98 R).run = some r from e1);refine (qP.of (s.zHU (Q := fun x pe ph => x = .normal ∧ ∃ env' h', pe = qB env' ∧ ph = qD h'.l ∧ Ends P (ops.toList.map (·.dst)) env h env' h' ∧ (K g env' h').run = some r) c1 c3 ?_)).mono ?_
     ·exact zAL (fun e p hq => ⟨rfl, hq⟩) (nD (G := G) (O := []) ht ho he e2)
     ·rintro x g' pe ph ⟨rfl, hq⟩;exact hq
   | true =>
   have c2 := hc2;rw [hc2] at e1
   have e2 : (cond (qNF ops)
    (qVU P T nm (ops.toList.map (·.dst)) (dBo ops) env 0 (ops.toList.take (ops.size - 1)) env h [] [] [] [] fun env h => qWL P T CI Y nm (ops.toList.map (·.dst)) (ops.toList.drop (ops.size - 1)) g env h K)
    (qVU P T nm (ops.toList.map (·.dst)) (dBo ops) env 0 ops.toList env h [] [] [] [] (K g)) : q98 R).run = some r := e1
   rw [zJ5] at c2
   cases hlo : qNF ops with
   | false =>
     rw [hlo] at e2;have e2 : (qVU P T nm (ops.toList.map (·.dst)) (dBo ops) env 0 ops.toList env h [] [] [] [] (K g)).run = some r := e2;refine (qP.of (s.zHO (Q := fun x pe ph => x = .normal ∧ ∃ env' h', pe = qB env' ∧ ph = qD h'.l ∧ Ends P (ops.toList.map (·.dst)) env h env' h' ∧ (K g env' h').run = some r) c1 c2.1 c2.2 rfl rfl ?_)).mono ?_
     ·exact zAL (fun e p hq => ⟨rfl, hq⟩) (qE5 (G := G) ht ho he e2)
     ·rintro x g' pe ph ⟨rfl, hq⟩;exact hq
   | true =>
     rw [hlo] at e2;have e2 : (qVU P T nm (ops.toList.map (·.dst)) (dBo ops) env 0 (ops.toList.take (ops.size - 1)) env h [] [] [] [] fun env h => qWL P T CI Y nm (ops.toList.map (·.dst)) (ops.toList.drop (ops.size - 1)) g env h K).run = some r := e2;unfold qNF at hlo;split at hlo
     ·rename_i o hop;split at hlo
      ·have hlt := (zKG.1 hop).1
       have hdrop : ops.toList.drop (ops.size - 1) = [o] := by
        have h1 : ops.toList[ops.size - 1]? = some o := by simpa using hop
        obtain ⟨h2, h3⟩ := zKA.1 h1;rw [zMU h2, h3, List.drop_eq_nil_of_le (by simp; omega)]
       have hmap : (ops.toList.take (ops.size - 1)).map (·.dst) ++ [o.dst] = ops.toList.map (·.dst) := by
        rw [show [o.dst] = [o].map (·.dst) from rfl, <- zLC, <- hdrop, zN0]
       refine s.zHR (inl := qWO T) (n0 := ops.size - 1) c1 c2.1 c2.2 hop (by omega) (fun i hi => zJ8.1 hlo i (zMY.2 hi)) ?_;refine zAL (fun e p hq => ?_) (qE5 (G := G) ht ho he e2);obtain ⟨zAG, h1, rfl, rfl, a3, a4⟩ := hq;rw [hdrop] at a4;refine xX (fun g2 e p hq => ?_) (qGG (G := G) ht hci hy a3.2.1 a3.1 a4);obtain ⟨zA0, h2, rfl, rfl, b3, b4⟩ := hq;refine ⟨rfl, zA0, h2, rfl, rfl, ⟨b3.1, b3.2.1, a3.2.2.1.trans b3.2.2.1, fun i hi => ?_, b3.2.2.2.2.trans a3.2.2.2.2⟩, b4⟩;rw [<- hmap, zLJ, not_or] at hi;exact (b3.2.2.2.1 i hi.2).trans (a3.2.2.2.1 i hi.1)
      ·cases hlo
     ·cases hlo
 | false => exact s.zHQ c1 (xX (fun g e p hq => ⟨rfl, hq⟩) (qGG (G := G) ht hci hy ho he e1))
end
end Go.Sv
