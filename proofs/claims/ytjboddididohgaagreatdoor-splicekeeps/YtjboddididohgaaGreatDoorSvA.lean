/- A symbolic run, part one. Conditions: none. -/
import Derived.Test.YtjboddididohgaaGreatDoorPur23
set_option linter.all false
namespace Go.Sv
open Go.Idl
variable {el : TypeId} {j n off : Nat} {k : IntKind}
class Yl where
 l : Nat
variable [Gc]
variable {P : Program} {Z Z' : Nat -> Prop} {H : IH} {M : Nat -> Option (Nat × PO)}
inductive Ty where
 | int (k : IntKind)
 | bool
 | str
 | unit
 | list (el : TypeId) (t : Ty)
 | pair (a b : Ty)
 | raw
 | ol (el : TypeId) (k : IntKind)
 | nif deriving DecidableEq
@[reducible] def Ty.sem : Ty -> Type
  | .int _ => Int
  | .bool => Bool
  | .str => ByteArray
  | .unit => Unit
  | .list _ t => List t.sem
  | .pair a b => a.sem × b.sem
  | .raw => List (Value × Value)
  | .ol _ _ => List Int
  | .nif => Unit
def dD (l : List (Value × Value)) : List FV := List.flatMap (fun p => [.v p.1, .v p.2]) l
def fvo (el : TypeId) (k : IntKind) : List Int -> FV
 | [] => .v (.slice none 0 0)
 | x :: xs => .l el (xs.length + 1) (List.flatMap (fun i => [FV.v (.int k i)]) (x :: xs))
def Ty.cells : (t : Ty) -> t.sem -> List FV
 | .int k, x => [.v (.int k x)]
 | .bool, x => [.v (.bool x)]
 | .str, x => [.v (.string x)]
 | .unit, _ => []
 | .list el t, xs => [.l el (List.length xs) (List.flatMap t.cells xs)]
 | .pair a b, x => a.cells x.1 ++ b.cells x.2
 | .raw, xs => [.l 1000000001 (List.length xs) (dD xs)]
 | .ol el k, xs => [fvo el k xs]
 | .nif, _ => [.v .nilIface]
def Ty.w : Ty -> Nat
 | .int _ | .bool | .str | .list _ _ | .raw | .ol _ _ | .nif => 1
 | .unit => 0
 | .pair a b => a.w + b.w
def Ty.nol : Ty -> Bool
 | .ol _ _ => false
 | .pair a b => a.nol && b.nol
 | _ => true
def Ty.one : Ty -> Bool
 | .unit => false
 | .pair _ _ => false
 | _ => true
def Ty.fv : (t : Ty) -> t.sem -> FV
 | .int k, x => .v (.int k x)
 | .bool, x => .v (.bool x)
 | .str, x => .v (.string x)
 | .list el t, xs => .l el (List.length xs) (List.flatMap t.cells xs)
 | .raw, xs => .l 1000000001 (List.length xs) (dD xs)
 | .ol el k, xs => fvo el k xs
 | .nif, _ => .v .nilIface
 | _, _ => .v undef
theorem Ty.cells_one : ∀ {t : Ty} {x : t.sem}, t.one = true -> t.cells x = [t.fv x]
 | .int _, _, _ => rfl
 | .bool, _, _ => rfl
 | .str, _, _ => rfl
 | .list _ _, _, _ => rfl
 | .raw, _, _ => rfl
 | .ol _ _, _, _ => rfl
 | .nif, _, _ => rfl
 | .unit, _, h => by cases h
 | .pair _ _, _, h => by cases h
theorem Ty.zAX : ∀ (t : Ty) (x : t.sem), (t.cells x).length = t.w
 | .int _, _ => rfl
 | .bool, _ => rfl
 | .str, _ => rfl
 | .list _ _, _ => rfl
 | .raw, _ => rfl
 | .ol _ _, _ => rfl
 | .nif, _ => rfl
 | .unit, _ => rfl
 | .pair a b, x => by
   show (a.cells x.1 ++ b.cells x.2).length = a.w + b.w;rw [zK6, a.zAX, b.zAX]
theorem yR {t : Ty} : ∀ (xs : List t.sem), (xs.flatMap t.cells).length = xs.length * t.w
 | [] => by simp
 | x :: xs => by rw [zLF, zK6, t.zAX, yR xs, zK1, zM1, zNC]
theorem aJ {t : Ty} : ∀ (xs : List t.sem) (j : Nat), (xs.flatMap t.cells).drop (j * t.w) = (xs.drop j).flatMap t.cells
 | xs, 0 => by simp
 | [], j + 1 => by simp
 | x :: xs, j + 1 => by
   rw [zLF, List.drop_succ_cons, <- aJ xs j, zM1, zNC, <- zN0]
   congr 1
   rw [List.drop_append_of_le_length (by rw [t.zAX]; exact zKK _), List.drop_of_length_le (by rw [t.zAX]; exact zKK _), List.nil_append]
theorem oO {t : Ty} : ∀ (xs : List t.sem) (j : Nat), (xs.flatMap t.cells).take (j * t.w) = (xs.take j).flatMap t.cells
 | xs, 0 => by simp
 | [], j + 1 => by simp
 | x :: xs, j + 1 => by
   rw [zLF, zMC, zLF, <- oO xs j, zM1, zNC, List.take_append, t.zAX, zN1, zLN (by rw [t.zAX]; omega)]
theorem qUS {t : Ty} {xs : List t.sem} {x : t.sem} (h : xs[j]? = some x) : ((xs.flatMap t.cells).drop (j * t.w)).take t.w = t.cells x := by
 rw [aJ]
 have hj := (zKN.1 h)
 obtain ⟨hl, hx⟩ := hj;rw [zM7 hl, hx, zLF, List.take_append_of_le_length (by rw [t.zAX]; exact zKK _), zLN (by rw [t.zAX]; exact zKK _)]
theorem qI2 {t : Ty} {xs : List t.sem} {x : t.sem} (h : xs[j]? = some x) (hn : off + n <= t.w) : ((xs.flatMap t.cells).drop (j * t.w + off)).take n = ((t.cells x).drop off).take n := by
 rw [<- qUS h, List.drop_take, zN0, zOP, zMK (by omega)]
theorem flat_get {t : Ty} {xs : List t.sem} {x : t.sem} (h : xs[j]? = some x) (hn : off < t.w) : (xs.flatMap t.cells)[j * t.w + off]? = (t.cells x)[off]? := by
 rw [<- qUS h, zLX, if_pos hn, zL1]
theorem qG7 {t : Ty} {xs : List t.sem} {x : t.sem} (h : xs[j]? = some x) (hn : off + n <= t.w) : j * t.w + off + n <= (xs.flatMap t.cells).length := by
 have hl := (zKN.1 h).1;rw [yR];have : (j + 1) * t.w <= xs.length * t.w := zL3 _ hl;rw [zM1] at this;omega
theorem qID : ∀ (xs ys : List (Value × Value)), dD xs = dD ys -> xs = ys
 | [], [], _ => rfl
 | [], y :: ys, h => by cases h
 | x :: xs, [], h => by cases h
 | x :: xs, y :: ys, h => by
   have h : FV.v x.1 :: FV.v x.2 :: dD xs = FV.v y.1 :: FV.v y.2 :: dD ys := h;injection h with h1 h2;injection h2 with h2 h3;injection h1 with h1;injection h2 with h2;rw [qID xs ys h3, Prod.ext h1 h2]
theorem qAW : ∀ (xs : List (Value × Value)), (dD xs).length = 2 * xs.length
 | [] => rfl
 | x :: xs => by
   show (dD xs).length + 2 = _;rw [qAW xs, zK1]; omega
theorem qNP : ∀ (xs ys : List (Value × Value)) (vs : List Value), FRL Z H (dD xs) vs -> FRL Z' H (dD ys) vs -> xs = ys
 | [], [], _, _, _ => rfl
 | [], y :: ys, vs, a, b => by have := a.len; have := b.len; simp [dD] at *; omega
 | x :: xs, [], vs, a, b => by have := a.len; have := b.len; simp [dD] at *; omega
 | x :: xs, y :: ys, vs, a, b => by
   have a : FRL Z H (FV.v x.1 :: FV.v x.2 :: dD xs) vs := a;have b : FRL Z' H (FV.v y.1 :: FV.v y.2 :: dD ys) vs := b;obtain ⟨v, vs', rfl, a1, a2⟩ := a.zAQ;obtain ⟨v', vs2, e, b1, b2⟩ := b.zAQ;cases e;obtain ⟨w, vs3, rfl, a3, a4⟩ := a2.zAQ;obtain ⟨w', vs4, e, b3, b4⟩ := b2.zAQ;cases e;have e1 := (qKN a1).symm.trans (qKN b1);have e2 := (qKN a3).symm.trans (qKN b3);rw [qNP xs ys _ a4 b4, Prod.ext e1 e2]
theorem qOD {k : IntKind} : ∀ (xs ys : List Int), List.flatMap (fun i => [FV.v (.int k i)]) xs = List.flatMap (fun i => [FV.v (.int k i)]) ys -> xs = ys
 | [], [], _ => rfl
 | [], y :: ys, h => by simp at h
 | x :: xs, [], h => by simp at h
 | x :: xs, y :: ys, h => by
   have h : FV.v (.int k x) :: List.flatMap (fun i => [FV.v (.int k i)]) xs = FV.v (.int k y) :: List.flatMap (fun i => [FV.v (.int k i)]) ys := h;injection h with h1 h2;injection h1 with h1;injection h1 with _ h1;rw [h1, qOD xs ys h2]
theorem qO8 (xs : List Int) : (List.flatMap (fun i => [FV.v (.int k i)]) xs).length = xs.length := by
 induction xs with
 | nil => rfl
 | cons x xs ih => rw [zLF, zK6, ih]; simp; omega
theorem qIK {k : IntKind} : ∀ (xs ys : List Int) (vs : List Value), FRL Z H (List.flatMap (fun i => [FV.v (.int k i)]) xs) vs -> FRL Z' H (List.flatMap (fun i => [FV.v (.int k i)]) ys) vs -> xs = ys
 | [], [], _, _, _ => rfl
 | [], y :: ys, vs, a, b => by have := a.len; have := b.len; simp at *; omega
 | x :: xs, [], vs, a, b => by have := a.len; have := b.len; simp at *; omega
 | x :: xs, y :: ys, vs, a, b => by
   have a : FRL Z H (FV.v (.int k x) :: List.flatMap (fun i => [FV.v (.int k i)]) xs) vs := a;have b : FRL Z' H (FV.v (.int k y) :: List.flatMap (fun i => [FV.v (.int k i)]) ys) vs := b;obtain ⟨v, vs', rfl, a1, a2⟩ := a.zAQ;obtain ⟨v', vs2, e, b1, b2⟩ := b.zAQ;cases e;have e1 := (qKN a1).symm.trans (qKN b1);injection e1 with _ e1;rw [qIK xs ys _ a2 b2, e1]
theorem q3G : ∀ {xs ys : List Int}, fvo el k xs = fvo el k ys -> xs = ys
 | [], [], _ => rfl
 | [], _ :: _, h => by cases h
 | _ :: _, [], h => by cases h
 | x :: xs, y :: ys, h => by
   injection h with _ _ h;exact qOD _ _ h
theorem qZO {v : Value} : ∀ {xs ys : List Int}, FR Z H (fvo el k xs) v -> FR Z' H (fvo el k ys) v -> xs = ys
 | [], [], _, _ => rfl
 | [], _ :: _, a, b => by have := qKN a; subst this; cases b
 | _ :: _, [], a, b => by have := qKN b; subst this; cases a
 | x :: xs, y :: ys, a, b => by
   obtain ⟨h1, ws, ws', h2, h3, h4⟩ := mR a b;have := h4 (by rw [qO8, qO8]; simpa using h1);subst this;exact qIK _ _ ws h2 h3
theorem Ty.inj : ∀ (t : Ty) (x y : t.sem), t.cells x = t.cells y -> x = y
 | .int _, x, y, h => by injection h with h; injection h with h; injection h
 | .bool, x, y, h => by injection h with h; injection h with h; injection h
 | .str, x, y, h => by injection h with h; injection h with h; injection h
 | .unit, _, _, _ => rfl
 | .nif, _, _, _ => rfl
 | .ol el k, xs, ys, h => by
   injection h with h;exact q3G h
 | .raw, xs, ys, h => by
   injection h with h;injection h with _ h1 h2;exact qID _ _ h2
 | .pair a b, x, y, h => by
   have := List.append_inj (show a.cells x.1 ++ b.cells x.2 = a.cells y.1 ++ b.cells y.2 from h) (by rw [a.zAX, a.zAX]);exact Prod.ext (a.inj _ _ this.1) (b.inj _ _ this.2)
 | .list el t, xs, ys, h => by
   injection h with h;injection h with _ h1 h2;exact go t xs ys h1 h2
where
 go (t : Ty) : ∀ (xs ys : List t.sem), xs.length = ys.length -> xs.flatMap t.cells = ys.flatMap t.cells -> xs = ys
 | [], [], _, _ => rfl
 | [], y :: ys, e, h => by cases e
 | x :: xs, [], e, h => by cases e
 | x :: xs, y :: ys, e, h => by
   rw [zLF, zLF] at h;have := List.append_inj h (by rw [t.zAX, t.zAX]);rw [t.inj x y this.1, go t xs ys (by simpa using e) this.2]
theorem Ty.uniq : ∀ (t : Ty) {x y : t.sem} {vs : List Value}, FRL Z H (t.cells x) vs -> FRL Z' H (t.cells y) vs -> x = y
 | .int k, x, y, vs, a, b => by
   obtain ⟨v, vs', rfl, a1, _⟩ := a.zAQ;obtain ⟨v', vs2, e, b1, _⟩ := b.zAQ;cases e;have := (qKN a1).symm.trans (qKN b1);injection this
 | .bool, x, y, vs, a, b => by
   obtain ⟨v, vs', rfl, a1, _⟩ := a.zAQ;obtain ⟨v', vs2, e, b1, _⟩ := b.zAQ;cases e;have := (qKN a1).symm.trans (qKN b1);injection this
 | .str, x, y, vs, a, b => by
   obtain ⟨v, vs', rfl, a1, _⟩ := a.zAQ;obtain ⟨v', vs2, e, b1, _⟩ := b.zAQ;cases e;have := (qKN a1).symm.trans (qKN b1);injection this
 | .unit, _, _, _, _, _ => rfl
 | .nif, _, _, _, _, _ => rfl
 | .ol el k, xs, ys, vs, a, b => by
   obtain ⟨v, vs', rfl, a1, _⟩ := a.zAQ;obtain ⟨v', vs2, e, b1, _⟩ := b.zAQ;cases e;exact qZO a1 b1
 | .raw, xs, ys, vs, a, b => by
   obtain ⟨v, vs', rfl, a1, _⟩ := a.zAQ;obtain ⟨v', vs2, e, b1, _⟩ := b.zAQ;cases e;obtain ⟨h1, ws, ws', h2, h3, h4⟩ := mR a1 b1;have := h4 (by rw [qAW, qAW, h1]);subst this;exact qNP xs ys ws h2 h3
 | .pair s t, x, y, vs, a, b => by
   obtain ⟨a1, a2⟩ := FRL.split (xs := s.cells x.1) (ys := t.cells x.2) a;obtain ⟨b1, b2⟩ := FRL.split (xs := s.cells y.1) (ys := t.cells y.2) b;rw [s.zAX] at a1 a2 b1 b2;exact Prod.ext (s.uniq a1 b1) (t.uniq a2 b2)
 | .list el t, xs, ys, vs, a, b => by
   obtain ⟨v, vs', rfl, a1, _⟩ := a.zAQ;obtain ⟨v', vs2, e, b1, _⟩ := b.zAQ;cases e;obtain ⟨h1, ws, ws', h2, h3, h4⟩ := mR a1 b1;have := h4 (by rw [yR, yR, h1]);subst this;exact go t xs ys ws h1 h2 h3
where
 go (t : Ty) : ∀ (xs ys : List t.sem) (vs : List Value), xs.length = ys.length -> FRL Z H (xs.flatMap t.cells) vs -> FRL Z' H (ys.flatMap t.cells) vs -> xs = ys
 | [], [], _, _, _, _ => rfl
 | [], y :: ys, vs, e, a, b => by cases e
 | x :: xs, [], vs, e, a, b => by cases e
 | x :: xs, y :: ys, vs, e, a, b => by
   rw [zLF] at a b;obtain ⟨a1, a2⟩ := a.split;obtain ⟨b1, b2⟩ := b.split;rw [t.zAX] at a1 a2 b1 b2;rw [t.uniq a1 b1, go t xs ys _ (by simpa using e) a2 b2]
def Ty.pv (t : Ty) (x : t.sem) : PV := cond t.one (.f (t.fv x)) (.agg ((t.cells x).map .f))
def Ty.en (t : Ty) : PEn t.sem := ⟨t.pv, fun x y h => by
 unfold Ty.pv at h
 cases ht : t.one with
 | true =>
   rw [ht] at h;injection h with h;exact t.inj x y (by rw [Ty.cells_one ht, Ty.cells_one ht, h])
 | false =>
   rw [ht] at h;injection h with h
   exact t.inj x y (q71 _ _ h), fun P Z Z' H x y v a b => by
 unfold Ty.pv at a b
 cases ht : t.one with
 | true =>
   rw [ht] at a b
   cases a with
   | f a => cases b with
     | f b => exact t.uniq (vs := [v]) (by rw [Ty.cells_one ht]; exact .cons a ⟨rfl, fun i x v h => by simp at h⟩) (by rw [Ty.cells_one ht]; exact .cons b ⟨rfl, fun i x v h => by simp at h⟩)
 | false =>
   rw [ht] at a b;obtain ⟨vs, rfl, h1⟩ := VR.zC4 a;obtain ⟨vs', e, h2⟩ := VR.zC4 b;cases e
   exact t.uniq (qF8 h1) (qF8 h2)⟩
@[reducible] def TyL : List Ty -> Type
  | [] => Unit
  | [t] => t.sem
  | t :: u :: ts => t.sem × TyL (u :: ts)
def pvL : (ts : List Ty) -> TyL ts -> List PV
 | [], _ => []
 | [t], x => [t.pv x]
 | t :: u :: ts, x => t.pv x.1 :: pvL (u :: ts) x.2
theorem qT1 : ∀ (ts : List Ty) (x y : TyL ts), pvL ts x = pvL ts y -> x = y
 | [], _, _, _ => rfl
 | [t], x, y, h => by injection h with h; exact t.en.inj x y h
 | t :: u :: ts, x, y, h => by
   injection h with h1 h2;exact Prod.ext (t.en.inj _ _ h1) (qT1 (u :: ts) _ _ h2)
theorem qOV : ∀ (ts : List Ty) (x y : TyL ts) (vs : List Value), VRL P Z H (fun _ => none) (pvL ts x) vs -> VRL P Z' H (fun _ => none) (pvL ts y) vs -> x = y
 | [], _, _, _, _, _ => rfl
 | [t], x, y, vs, a, b => by
   obtain ⟨v, vs', rfl, a1, _⟩ := a.zAQ;obtain ⟨v', vs2, e, b1, _⟩ := b.zAQ;cases e;exact t.en.uniq P Z Z' H x y v a1 b1
 | t :: u :: ts, x, y, vs, a, b => by
   obtain ⟨v, vs', rfl, a1, a2⟩ := a.zAQ;obtain ⟨v', vs2, e, b1, b2⟩ := b.zAQ;cases e;exact Prod.ext (t.en.uniq P Z Z' H _ _ v a1 b1) (qOV (u :: ts) _ _ _ a2 b2)
def enL (ts : List Ty) : AEn (TyL ts) := ⟨pvL ts, qT1 ts, fun P Z Z' H x y vs a b => qOV ts x y vs a b⟩
def vC : (ts : List Ty) -> TyL ts -> PV := fun ts x => qCX (pvL ts x)
end Go.Sv
namespace Go.Sv
open Go.Idl
variable [Gc]
variable {P : Program}
variable {b : Bool} {k : Nat}
def zAN (R : Type) : Type := Option R
section
variable {R α σ ρ : Type}
def zAN.run (t : zAN R) : Option R := t
def zAN.fail : zAN R := (none : Option R)
def zAN.ret (r : R) : zAN R := some r
def zAN.ite (b : Bool) (x y : zAN R) : zAN R := cond b x y
noncomputable def zAN.bind (o : Option α) (k : α -> zAN R) : zAN R := Option.rec zAN.fail k o
open Classical in
noncomputable def qJ7 (x y : Option R) : Option R := if x = y then x else none
noncomputable def zAN.both (x y : zAN R) : zAN R := zAN.bind (qJ7 x y) .ret
noncomputable def zAN.loop (f : σ -> zAN (σ ⊕ ρ)) (s : σ) (k : ρ -> zAN R) : zAN R := zAN.bind (zS (fun s => (f s).run) s) k
end
theorem run_ite {R : Type} {x y : zAN R} {r : R} (h : (zAN.ite b x y).run = some r) : (b = true ∧ x.run = some r) ∨ (b = false ∧ y.run = some r) := by
 cases b with
 | true => exact .inl ⟨rfl, h⟩
 | false => exact .inr ⟨rfl, h⟩
theorem run_bind {R α : Type} {o : Option α} {k : α -> zAN R} {r : R} (h : (zAN.bind o k).run = some r) : ∃ a, o = some a ∧ (k a).run = some r := by
 cases o with
 | none => cases h
 | some a => exact ⟨a, rfl, h⟩
theorem qZZ {R σ ρ : Type} {f : σ -> zAN (σ ⊕ ρ)} {s : σ} {k : ρ -> zAN R} {r : R} (h : (zAN.loop f s k).run = some r) : ∃ a, zS (fun s => (f s).run) s = some a ∧ (k a).run = some r := run_bind h
theorem qU6 {R : Type} {x y : Option R} {r : R} (h : qJ7 x y = some r) : x = some r ∧ y = some r := by
 unfold qJ7 at h;split at h
 ·rename_i e;exact ⟨h, e ▸ h⟩
 ·cases h
theorem q0A {R : Type} {x y : zAN R} {r : R} (h : (zAN.both x y).run = some r) : x.run = some r ∧ y.run = some r := by
 obtain ⟨a, h1, h2⟩ := run_bind h;cases h2;exact qU6 h1
theorem qP4 {R : Type} (x : Option R) : qJ7 x x = x := by unfold qJ7; rw [if_pos rfl]
theorem qG {R : Type} {x : zAN R} {r : R} (h : (cond b x .fail).run = some r) : b = true ∧ x.run = some r := by
 cases b with
 | true => exact ⟨rfl, h⟩
 | false => cases h
inductive SV where
 | d (t : Ty) (x : t.sem)
 | c (v : Value)
 | agg (l : List SV)
 | tup (l : List SV)
 | own (k g n : Nat)
 | sl (k g n o m : Nat)
 | ref (k off w : Nat)
 | elt (k g n w j off : Nat)
 | lp (t : Ty) (xs : List t.sem) (j off : Nat)
 | fn (f : FuncId) (first cap : List SV)
 | unk
 | yv
 | bq
 | mp (k : Nat)
 | opt (b : Bool) (k off w : Nat)
 | rfx (k off w : Nat)
 | etx (k g n w j off : Nat)
section
variable [Yl]
mutual
def SV.enc : SV -> PV
 | .d t x => .f (t.fv x)
 | .c v => fvv v
 | .agg l => .agg (qB l)
 | .tup l => .tup (qB l)
 | .own k _ n => .own k n 0 n
 | .sl k _ n o m => .own k n o m
 | .ref k off w => .ref k w off
 | .elt k _ n w j off => .ref k (n * w) (j * w + off)
 | .lp t xs j off => .lp (List.flatMap t.cells xs) (j * t.w + off)
 | .fn f a b => .fn f (qB a) (qB b)
 | .unk => .unk
 | .yv => .yl Yl.l
 | .bq => .bq
 | .mp k => .mp k
 | .opt b k off w => cond b (.ref k w off) (fvv (.pointer none))
 | .rfx k off w => .ref k w off
 | .etx k _ n w j off => .ref k (n * w) (j * w + off)
def qB : List SV -> List PV
 | [] => []
 | x :: l => x.enc :: qB l
end
theorem qY : ∀ (l : List SV), qB l = l.map SV.enc
 | [] => by simp [qB]
 | x :: l => by simp [qB, qY l]
end
inductive SpO where
 | map (es : List (Value × Value))
 | iter (s : ByteArray) (pos : Nat)
 | mit (t : TypeId) (k since last : Nat) (seen : List Nat)
def yD : Nat -> List (Value × Value) -> List MapEntry
 | _, [] => []
 | i, p :: l => ⟨p.1, p.2, i⟩ :: yD (i + 1) l
def SpO.enc : SpO -> PO
 | .map es => ⟨1000000001, false, kV (List.length es) (yD 0 es)⟩
 | .iter s pos => ⟨1000000000, false, qRW s pos⟩
 | .mit _ k since last seen => ⟨1000000002, false, qR2 (.mp k) since last seen⟩
inductive SO where
 | spc (w : Nat) (x : SpO)
 | cells (el : TypeId) (w : Nat) (l : List SV)
 | list (el : TypeId) (gr : Bool) (g w : Nat) (t : Ty) (xs : List t.sem)
section
variable [Yl]
def SO.enc : SO -> PO
 | .cells el _ l => ⟨el, false, qB l⟩
 | .list el gr _ _ t xs => ⟨el, gr, (List.flatMap t.cells xs).map .f⟩
 | .spc _ x => x.enc
def SO.w : SO -> Nat
 | .cells _ w _ => w
 | .list _ _ _ w _ _ => w
 | .spc w _ => w
structure SH where
 next : Nat
 l : List (Nat × SO)
def slk (k : Nat) : List (Nat × SO) -> Option SO
 | [] => none
 | (j, o) :: l => cond (k == j) (some o) (slk k l)
def sst (k : Nat) (o : SO) : List (Nat × SO) -> List (Nat × SO)
 | [] => []
 | (j, p) :: l => cond (k == j) ((j, o) :: l) ((j, p) :: sst k o l)
def sdl (k : Nat) : List (Nat × SO) -> List (Nat × SO)
 | [] => []
 | (j, p) :: l => cond (k == j) (sdl k l) ((j, p) :: sdl k l)
def qE : List (Nat × SO) -> PHp
 | [] => []
 | (j, o) :: l => (j, o.enc) :: qE l
theorem uV (k : Nat) : ∀ (l : List (Nat × SO)), qA k (qE l) = (slk k l).map SO.enc
 | [] => rfl
 | (j, o) :: l => by
   show cond (k == j) (some o.enc) (qA k (qE l)) = (cond (k == j) (some o) (slk k l)).map SO.enc;cases k == j
   ·exact uV k l
   ·rfl
theorem vM (k : Nat) (o : SO) : ∀ (l : List (Nat × SO)), qE (sst k o l) = kU k o.enc (qE l)
 | [] => rfl
 | (j, p) :: l => by
   show qE (cond (k == j) ((j, o) :: l) ((j, p) :: sst k o l)) = cond (k == j) ((j, o.enc) :: qE l) ((j, p.enc) :: kU k o.enc (qE l));cases k == j
   ·show (j, p.enc) :: qE (sst k o l) = _;rw [vM k o l]; rfl
   ·rfl
theorem nQ (k : Nat) : ∀ (l : List (Nat × SO)), qE (sdl k l) = tF k (qE l)
 | [] => rfl
 | (j, p) :: l => by
   show qE (cond (k == j) (sdl k l) ((j, p) :: sdl k l)) = cond (k == j) (tF k (qE l)) ((j, p.enc) :: tF k (qE l));cases k == j
   ·show (j, p.enc) :: qE (sdl k l) = _;rw [nQ k l]; rfl
   ·exact nQ k l
end
theorem qD9 {k j : Nat} {o : SO} (hj : j ≠ k) : ∀ (l : List (Nat × SO)), slk j (sst k o l) = slk j l
 | [] => rfl
 | (i, p) :: l => by
   show slk j (cond (k == i) ((i, o) :: l) ((i, p) :: sst k o l)) = cond (j == i) (some p) (slk j l)
   cases h : k == i with
   | true =>
     have : k = i := by simpa using h
     subst this;show cond (j == k) (some o) (slk j l) = _;rw [show (j == k) = false by simpa using hj]; rfl
   | false =>
     show cond (j == i) (some p) (slk j (sst k o l)) = _;rw [qD9 hj l]
theorem qUW {k : Nat} {o p : SO} : ∀ {l : List (Nat × SO)}, slk k l = some p -> slk k (sst k o l) = some o
 | (i, q) :: l, h => by
   have h : cond (k == i) (some q) (slk k l) = some p := h;show slk k (cond (k == i) ((i, o) :: l) ((i, q) :: sst k o l)) = some o
   cases hi : k == i with
   | true =>
     show cond (k == i) (some o) (slk k l) = some o;rw [hi]; rfl
   | false =>
     rw [hi] at h;show cond (k == i) (some q) (slk k (sst k o l)) = some o;rw [hi]; exact qUW (l := l) h
theorem kZ {k j : Nat} (hj : j ≠ k) : ∀ (l : List (Nat × SO)), slk j (sdl k l) = slk j l
 | [] => rfl
 | (i, p) :: l => by
   show slk j (cond (k == i) (sdl k l) ((i, p) :: sdl k l)) = cond (j == i) (some p) (slk j l)
   cases h : k == i with
   | true =>
     have : k = i := by simpa using h
     subst this;rw [show (j == k) = false by simpa using hj];exact kZ hj l
   | false =>
     show cond (j == i) (some p) (slk j (sdl k l)) = _;rw [kZ hj l]
theorem qLQ (k : Nat) : ∀ (l : List (Nat × SO)), slk k (sdl k l) = none
 | [] => rfl
 | (i, p) :: l => by
   show slk k (cond (k == i) (sdl k l) ((i, p) :: sdl k l)) = none
   cases h : k == i with
   | true => exact qLQ k l
   | false =>
     show cond (k == i) (some p) (slk k (sdl k l)) = none;rw [h]; exact qLQ k l
theorem yA {j : Nat} {o : SO} {l : List (Nat × SO)} (hj : j ≠ k) : slk j ((k, o) :: l) = slk j l := by
 show cond (j == k) (some o) (slk j l) = _;rw [show (j == k) = false by simpa using hj]; rfl
theorem vN {o : SO} {l : List (Nat × SO)} : slk k ((k, o) :: l) = some o := by
 show cond (k == k) (some o) (slk k l) = _;simp
def qXP (h : SH) (k g n : Nat) : Prop := g < h.next ∧ ∀ el gr w t xs, slk k h.l = some (.list el gr g w t xs) -> n = xs.length
mutual
def SV.ok (h : SH) : SV -> Prop
 | .agg l => okL h l
 | .tup l => okL h l
 | .own k g n => qXP h k g n
 | .sl k g n o m => qXP h k g n ∧ o + m <= n
 | .elt k g n _ _ _ => qXP h k g n
 | .etx k g n _ _ _ => qXP h k g n
 | .fn _ a b => okL h a ∧ okL h b
 | _ => True
def okL (h : SH) : List SV -> Prop
 | [] => True
 | x :: l => x.ok h ∧ okL h l
end
theorem yC {h : SH} : ∀ {l : List SV}, okL h l ↔ ∀ x ∈ l, x.ok h
 | [] => by simp [okL]
 | x :: l => by simp [okL, yC (l := l)]
structure OkH (P : Program) (h : SH) : Prop where
 ver : ∀ k ob, slk k h.l = some ob -> ob.w < h.next
 cells : ∀ k el w l, slk k h.l = some (.cells el w l) -> okL h l
 list : ∀ k el gr g w t xs, slk k h.l = some (.list el gr g w t xs) -> g < h.next ∧ szT P el = some t.w ∧ 0 < t.w
structure Keep (h h' : SH) : Prop where
 next : h.next <= h'.next
 same : ∀ k ob, slk k h'.l = some ob -> ob.w < h.next -> slk k h.l = some ob
 len : ∀ k el gr g w t xs, slk k h'.l = some (.list el gr g w t xs) -> g < h.next -> ∃ w0, ∃ xs0 : List t.sem, slk k h.l = some (.list el gr g w0 t xs0) ∧ xs0.length = xs.length
theorem Keep.refl (h : SH) : Keep h h := ⟨zKK _, fun _ _ h _ => h, fun k el gr g w t xs h _ => ⟨w, xs, h, rfl⟩⟩
theorem Keep.trans {a b c : SH} (x : Keep a b) (y : Keep b c) : Keep a c :=
 ⟨zK3 x.next y.next, fun k ob h hw => x.same k ob (y.same k ob h (zKO hw x.next)) hw, fun k el gr g w t xs h hg => by
   obtain ⟨w1, xs1, h1, e1⟩ := y.len k el gr g w t xs h (zKO hg x.next);obtain ⟨w2, xs2, h2, e2⟩ := x.len k el gr g w1 t xs1 h1 hg
   exact ⟨w2, xs2, h2, e2.trans e1⟩⟩
theorem qXP.keep {h h' : SH} {g n : Nat} (a : qXP h k g n) (b : Keep h h') : qXP h' k g n :=
 ⟨zKO a.1 b.next, fun el gr w t xs hk => by
   obtain ⟨w0, xs0, h0, e0⟩ := b.len k el gr g w t xs hk a.1
   rw [<- e0]; exact a.2 el gr w0 t xs0 h0⟩
mutual
theorem SV.ok.keep {h h' : SH} (b : Keep h h') : ∀ {x : SV}, x.ok h -> x.ok h'
 | .agg l, a => by simp only [SV.ok] at a ⊢; exact qL b a
 | .tup l, a => by simp only [SV.ok] at a ⊢; exact qL b a
 | .own k g n, a => by simp only [SV.ok] at a ⊢; exact a.keep b
 | .sl k g n o m, a => by simp only [SV.ok] at a ⊢; exact ⟨a.1.keep b, a.2⟩
 | .elt k g n w j off, a => by simp only [SV.ok] at a ⊢; exact a.keep b
 | .etx k g n w j off, a => by simp only [SV.ok] at a ⊢; exact a.keep b
 | .fn f x y, a => by simp only [SV.ok] at a ⊢; exact ⟨qL b a.1, qL b a.2⟩
 | .d _ _, _ => by simp [SV.ok]
 | .c _, _ => by simp [SV.ok]
 | .ref _ _ _, _ => by simp [SV.ok]
 | .lp _ _ _ _, _ => by simp [SV.ok]
 | .unk, _ => by simp [SV.ok]
 | .yv, _ => by simp [SV.ok]
 | .bq, _ => by simp [SV.ok]
 | .mp _, _ => by simp [SV.ok]
 | .opt _ _ _ _, _ => by simp [SV.ok]
 | .rfx _ _ _, _ => by simp [SV.ok]
theorem qL {h h' : SH} (b : Keep h h') : ∀ {l : List SV}, okL h l -> okL h' l
 | [], _ => by simp [okL]
 | x :: l, a => by simp only [okL] at a ⊢; exact ⟨SV.ok.keep b a.1, qL b a.2⟩
end
def SH.new (h : SH) (k : Nat) (f : Nat -> SO) : SH := ⟨h.next + 1, (k, f h.next) :: h.l⟩
def SH.put (h : SH) (k : Nat) (f : Nat -> SO) : SH := ⟨h.next + 1, sst k (f h.next) h.l⟩
def SH.del (h : SH) (k : Nat) : SH := ⟨h.next, sdl k h.l⟩
def q6O (P : Program) (h : SH) (n : Nat) : SO -> Prop
 | .cells _ w l => w = n ∧ okL h l
 | .list el _ g w t _ => w = n ∧ g = n ∧ szT P el = some t.w ∧ 0 < t.w
 | .spc w _ => w = n
theorem qZL {h : SH} {f : Nat -> SO} (hw : (f h.next).w = h.next) (hg : ∀ el gr g w t xs, f h.next = .list el gr g w t xs -> g = h.next) : Keep h (h.new k f) :=
 ⟨zN6 _, fun j ob hj hlt => by
   by_cases e : j = k
   ·subst e; rw [show slk j (h.new j f).l = some (f h.next) from vN] at hj;cases hj; omega
   ·rwa [show slk j (h.new k f).l = slk j h.l from yA e] at hj, fun j el gr g w t xs hj hlt => by
   by_cases e : j = k
   ·subst e; rw [show slk j (h.new j f).l = some (f h.next) from vN] at hj;have := hg _ _ _ _ _ _ (zLK hj);omega
   ·rw [show slk j (h.new k f).l = slk j h.l from yA e] at hj
    exact ⟨w, xs, hj, rfl⟩⟩
theorem kD {h : SH} {f : Nat -> SO} (a : OkH P h) (hf : q6O P h h.next (f h.next)) : Keep h (h.new k f) ∧ OkH P (h.new k f) := by
 have hw : (f h.next).w = h.next := by
  cases hq : f h.next with
  | cells el w l => rw [hq] at hf; exact hf.1
  | list el gr g w t xs => rw [hq] at hf; exact hf.1
  | spc w x => rw [hq] at hf; exact hf
 have hk : Keep h (h.new k f) := qZL hw fun el gr g w t xs e => by rw [e] at hf; exact hf.2.1
 refine ⟨hk, ⟨fun j ob hj => ?_, fun j el w l hj => ?_, fun j el gr g w t xs hj => ?_⟩⟩
 ·by_cases e : j = k
  ·subst e; rw [show slk j (h.new j f).l = some (f h.next) from vN] at hj;cases hj; rw [hw]; exact zLI _
  ·rw [show slk j (h.new k f).l = slk j h.l from yA e] at hj;exact zL8 (a.ver j ob hj)
 ·by_cases e : j = k
  ·subst e; rw [show slk j (h.new j f).l = some (f h.next) from vN] at hj;rw [zLK hj] at hf;exact qL hk hf.2
  ·rw [show slk j (h.new k f).l = slk j h.l from yA e] at hj;exact qL hk (a.cells j el w l hj)
 ·by_cases e : j = k
  ·subst e; rw [show slk j (h.new j f).l = some (f h.next) from vN] at hj;rw [zLK hj] at hf;exact ⟨by rw [hf.2.1]; exact zLI _, hf.2.2⟩
  ·rw [show slk j (h.new k f).l = slk j h.l from yA e] at hj;have := a.list j el gr g w t xs hj;exact ⟨zL8 this.1, this.2⟩
def q87 (h : SH) (n : Nat) : SO -> SO -> Prop
 | .cells _ _ _, .cells _ w' l' => w' = n ∧ okL h l'
 | .list el gr g _ t xs, ob' => ∃ xs' : List t.sem, ob' = .list el gr g n t xs' ∧ xs.length = xs'.length
 | .spc _ _, .spc w' _ => w' = n
 | _, _ => False
theorem aF {h : SH} {f : Nat -> SO} {ob : SO} (a : OkH P h) (hk : slk k h.l = some ob) (hf : q87 h h.next ob (f h.next)) : Keep h (h.put k f) ∧ OkH P (h.put k f) := by
 have hs : slk k (h.put k f).l = some (f h.next) := qUW hk;have hn : ∀ j, j ≠ k -> slk j (h.put k f).l = slk j h.l := fun j hj => qD9 hj _
 have hw : (f h.next).w = h.next := by
  cases ob with
  | cells el w l =>
    cases hq : f h.next with
    | cells el' w' l' => rw [hq] at hf; exact hf.1
    | list => rw [hq] at hf; exact hf.elim
    | spc => rw [hq] at hf; exact hf.elim
  | spc w0 x0 =>
    cases hq : f h.next with
    | spc w' x' => rw [hq] at hf; exact hf
    | list => rw [hq] at hf; exact hf.elim
    | cells => rw [hq] at hf; exact hf.elim
  | list el gr g w t xs =>
    obtain ⟨xs', e, _⟩ := hf;rw [e]; rfl
 have hkp : Keep h (h.put k f) := by
  refine ⟨zN6 _, fun j o hj hlt => ?_, fun j el gr g w t xs hj hlt => ?_⟩
  ·by_cases e : j = k
   ·subst e; rw [hs] at hj; cases hj; omega
   ·rwa [hn j e] at hj
  ·by_cases e : j = k
   ·subst e;rw [hs] at hj;have hj := zLK hj
    cases ob with
    | cells el0 w0 l0 =>
      rw [hj] at hf;exact hf.elim
    | spc w0 x0 =>
      rw [hj] at hf;exact hf.elim
    | list el0 gr0 g0 w0 t0 xs0 =>
      obtain ⟨xs', e2, e3⟩ := hf;rw [e2] at hj;injection hj with a1 a2 a3 a4 a5 a6;subst a1 a2 a3 a5;cases a6;exact ⟨w0, xs0, hk, e3⟩
   ·rw [hn j e] at hj; exact ⟨w, xs, hj, rfl⟩
 refine ⟨hkp, ⟨fun j o hj => ?_, fun j el w l hj => ?_, fun j el gr g w t xs hj => ?_⟩⟩
 ·by_cases e : j = k
  ·subst e; rw [hs] at hj; cases hj; rw [hw]; exact zLI _
  ·rw [hn j e] at hj; exact zL8 (a.ver j o hj)
 ·by_cases e : j = k
  ·subst e;rw [hs] at hj;have hj := zLK hj
   cases ob with
   | cells el0 w0 l0 => rw [hj] at hf; exact qL hkp hf.2
   | spc w0 x0 => rw [hj] at hf; exact hf.elim
   | list el0 gr0 g0 w0 t0 xs0 =>
     obtain ⟨xs', e2, e3⟩ := hf;rw [e2] at hj; cases hj
  ·rw [hn j e] at hj; exact qL hkp (a.cells j el w l hj)
 ·by_cases e : j = k
  ·subst e;rw [hs] at hj;have hj := zLK hj
   cases ob with
   | cells el0 w0 l0 => rw [hj] at hf; exact hf.elim
   | spc w0 x0 => rw [hj] at hf; exact hf.elim
   | list el0 gr0 g0 w0 t0 xs0 =>
     obtain ⟨xs', e2, e3⟩ := hf;rw [e2] at hj;injection hj with a1 a2 a3 a4 a5 a6;subst a1 a2 a3 a5;have := a.list j _ _ _ _ _ _ hk;exact ⟨zL8 this.1, this.2⟩
  ·rw [hn j e] at hj;have := a.list j el gr g w t xs hj;exact ⟨zL8 this.1, this.2⟩
theorem eG {h : SH} (a : OkH P h) : Keep h (h.del k) ∧ OkH P (h.del k) := by
 have hl : ∀ j ob, slk j (h.del k).l = some ob -> slk j h.l = some ob := fun j ob hj => by
  by_cases e : j = k
  ·subst e; rw [show slk j (h.del j).l = none from qLQ j _] at hj; cases hj
  ·rwa [show slk j (h.del k).l = slk j h.l from kZ e _] at hj
 have hkp : Keep h (h.del k) := ⟨zKK _, fun j ob hj _ => hl j ob hj, fun j el gr g w t xs hj _ => ⟨w, xs, hl _ _ hj, rfl⟩⟩
 exact ⟨hkp, ⟨fun j ob hj => a.ver j ob (hl j ob hj), fun j el w l hj => qL hkp (a.cells j el w l (hl _ _ hj)), fun j el gr g w t xs hj => a.list j el gr g w t xs (hl _ _ hj)⟩⟩
def GV (Γ : Option Type) : Type := match Γ with
 | none => Unit
 | some γ => γ
def GS (Γ : Option Type) (S : Type) : Type := match Γ with
 | none => S
 | some γ => γ × S
def gj : {Γ : Option Type} -> {S : Type} -> GV Γ -> S -> GS Γ S
 | none, _, _, s => s
 | some _, _, g, s => (g, s)
def g1 : {Γ : Option Type} -> {S : Type} -> GS Γ S -> GV Γ
 | none, _, _ => ()
 | some _, _, p => p.1
def g2 : {Γ : Option Type} -> {S : Type} -> GS Γ S -> S
 | none, _, s => s
 | some _, _, p => p.2
theorem q3O {Γ : Option Type} {S : Type} {g : GV Γ} {s : S} : g1 (gj g s) = g := by cases Γ <;> rfl
theorem q1L {Γ : Option Type} {S : Type} {g : GV Γ} {s : S} : g2 (gj g s) = s := by cases Γ <;> rfl
structure Ent where
 as : List Ty
 rs : List Ty
 F : TyL as -> Option (TyL rs)
abbrev jF := List (FuncId × Ent)
def slT (g : FuncId) : jF -> Option Ent
 | [] => none
 | (k, e) :: l => cond (Nat.beq g k) (some e) (slT g l)
structure Sh where
 d : List Nat
 o : List Nat
 s : List (Nat × Nat)
 v : List (Nat × TypeId)
 ex : List Nat
 b : List (Nat × List (Option Nat)) := []
 bv : List (Nat × Nat × TypeId × Nat) := []
structure Ab where
 A : List Ty -> Type
 f : ∀ ts, TyL ts -> A ts
def Ab.id : Ab := ⟨fun ts => TyL ts, fun _ s => s⟩
structure An where
 fz : List (Nat × List (Nat × TypeId))
 lp : List (Nat × Sh)
 rg : List (Nat × Sh) := []
 ab : List (Nat × Ab) := []
def lkA.{u} {α : Type u} (i : Nat) : List (Nat × α) -> Option α
 | [] => none
 | (j, x) :: l => cond (Nat.beq i j) (some x) (lkA i l)
structure zBB where
 as : List Ty
 ys : List Ty
 yt : List TypeId
 F : TyL as -> (γ : Type) -> (γ -> TyL ys -> Option (γ × Bool)) -> γ -> Option γ
def slI (g : FuncId) : List (FuncId × zBB) -> Option zBB
 | [] => none
 | (k, e) :: l => cond (Nat.beq g k) (some e) (slI g l)
structure YI (Γ : Type) where
 ys : List Ty
 yt : List TypeId
 stp : Γ -> TyL ys -> Option (Γ × Bool)
def yi0 : YI Unit := ⟨[], [], fun _ _ => none⟩
abbrev CIT : Type 1 := (R : Type) -> Nm -> FuncId -> List SV -> SH -> (SV -> SH -> zAN R) -> zAN R
end Go.Sv
namespace Go.Sv
open Go.Idl
variable {a b env l : List SV} {el t : TypeId} {ik k : IntKind} {j n off : Nat} {v x : SV} {ys : List Int}
noncomputable section
variable [Gc]
variable [Yl]
variable {P : Program} {h : SH} {R : Type} {r : R}
def q7M : Value -> SV
 | .agg cs => cond (kQ okC cs.toList) (.agg (kG .c cs.toList)) .unk
 | .tuple cs => cond (kQ okC cs.toList) (.tup (kG .c cs.toList)) .unk
 | v => cond (okC v) (.c v) .unk
def xM (env : List SV) : Operand -> SV
 | .tmp t => (zH env t).getD .unk
 | .const v => q7M v
 | .global _ => .unk
 | .func g => .c (.func (.func g) #[] #[])
theorem q79 : ∀ (l : List Value), qB (kG .c l) = kG fvv l
 | [] => by simp [kG, qB]
 | v :: l => by
   show qB (.c v :: kG .c l) = fvv v :: kG fvv l;simp [qB, q79 l, SV.enc]
omit [Yl] in
theorem q78 : ∀ (l : List Value), okL h (kG .c l)
 | [] => by simp [kG, okL]
 | v :: l => by
   show okL h (.c v :: kG .c l);simp [okL, q78 l, SV.ok]
theorem qX5 (v : Value) : ofC v = (q7M v).enc := by
 cases v with
 | agg cs =>
   show cond _ _ _ = (cond (kQ okC cs.toList) (SV.agg (kG .c cs.toList)) SV.unk).enc;cases kQ okC cs.toList
   ·simp [SV.enc]
   ·simp [SV.enc, q79]
 | tuple cs =>
   show cond _ _ _ = (cond (kQ okC cs.toList) (SV.tup (kG .c cs.toList)) SV.unk).enc;cases kQ okC cs.toList
   ·simp [SV.enc]
   ·simp [SV.enc, q79]
 | _ =>
   simp only [ofC, q2T, q7M];cases okC _ <;> simp [SV.enc]
omit [Yl] in
theorem q4J (v : Value) : (q7M v).ok h := by
 cases v with
 | agg cs =>
   show (cond (kQ okC cs.toList) (.agg (kG .c cs.toList)) .unk : SV).ok h;cases kQ okC cs.toList
   ·simp [SV.ok]
   ·simp [SV.ok, q78]
 | tuple cs =>
   show (cond (kQ okC cs.toList) (.tup (kG .c cs.toList)) .unk : SV).ok h;cases kQ okC cs.toList
   ·simp [SV.ok]
   ·simp [SV.ok, q78]
 | _ =>
   simp only [q7M];cases okC _ <;> simp [SV.ok]
theorem zK (env : List SV) (t : Nat) : zH (qB env) t = (zH env t).map SV.enc := by
 rw [qF, qF, qY, zKX]
omit [Yl] in
theorem eX {t : Nat} (ho : okL h env) (hx : zH env t = some x) : x.ok h := by
 rw [qF] at hx;exact yC.1 ho x (zLH hx)
theorem qM (env : List SV) (x : Operand) : qJ (qB env) x = (xM env x).enc := by
 cases x with
 | tmp t =>
   show (zH (qB env) t).getD .unk = ((zH env t).getD .unk).enc;rw [zK];cases zH env t <;> simp [SV.enc]
 | const v => exact qX5 v
 | global g => simp [qJ, xM, SV.enc]
 | func g => simp [qJ, xM, SV.enc]
omit [Yl] in
theorem pJ (ho : okL h env) (x : Operand) : (xM env x).ok h := by
 cases x with
 | tmp t =>
   show ((zH env t).getD .unk).ok h
   cases hx : zH env t with
   | none => simp [SV.ok]
   | some y => exact eX ho hx
 | const v => exact q4J v
 | global g => simp [xM, SV.ok]
 | func g => simp [xM, SV.ok]
def asI : SV -> Option (IntKind × Int)
 | .d (.int k) x => some (k, x)
 | .c (.int k x) => some (k, x)
 | _ => none
def asB : SV -> Option Bool
 | .d .bool x => some x
 | .c (.bool x) => some x
 | _ => none
def asS : SV -> Option ByteArray
 | .d .str x => some x
 | .c (.string x) => some x
 | _ => none
theorem yL {x : Int} (e : asI v = some (k, x)) : v.enc = fvv (.int k x) := by
 unfold asI at e;split at e
 ·cases e; simp [SV.enc, Ty.fv, fvv]
 ·cases e; simp [SV.enc]
 ·cases e
theorem o7 {x : Bool} (e : asB v = some x) : v.enc = fvv (.bool x) := by
 unfold asB at e;split at e
 ·cases e; simp [SV.enc, Ty.fv, fvv]
 ·cases e; simp [SV.enc]
 ·cases e
theorem gW {x : ByteArray} (e : asS v = some x) : v.enc = fvv (.string x) := by
 unfold asS at e;split at e
 ·cases e; simp [SV.enc, Ty.fv, fvv]
 ·cases e; simp [SV.enc]
 ·cases e
def Ty.svs : (t : Ty) -> t.sem -> List SV
 | .int k, x => [.d (.int k) x]
 | .bool, x => [.d .bool x]
 | .str, x => [.d .str x]
 | .unit, _ => []
 | .list el t, x => [.d (.list el t) x]
 | .pair a b, x => a.svs x.1 ++ b.svs x.2
 | .raw, x => [.d .raw x]
 | .ol el k, x => [.d (.ol el k) x]
 | .nif, x => [.d .nif x]
theorem oD (a b : List SV) : qB (a ++ b) = qB a ++ qB b := by simp [qY]
theorem gD : ∀ (t : Ty) (x : t.sem), qB (t.svs x) = (t.cells x).map .f
 | .int k, x => by simp [Ty.svs, Ty.cells, qB, SV.enc, Ty.fv]
 | .bool, x => by simp [Ty.svs, Ty.cells, qB, SV.enc, Ty.fv]
 | .str, x => by simp [Ty.svs, Ty.cells, qB, SV.enc, Ty.fv]
 | .unit, x => by simp [Ty.svs, Ty.cells, qB]
 | .list el t, x => by simp [Ty.svs, Ty.cells, qB, SV.enc, Ty.fv]
 | .raw, x => by simp [Ty.svs, Ty.cells, qB, SV.enc, Ty.fv]
 | .ol el k, x => by simp [Ty.svs, Ty.cells, qB, SV.enc, Ty.fv]
 | .nif, x => by simp [Ty.svs, Ty.cells, qB, SV.enc, Ty.fv]
 | .pair a b, x => by
   show qB (a.svs x.1 ++ b.svs x.2) = (a.cells x.1 ++ b.cells x.2).map .f;rw [oD, gD a, gD b, zLQ]
omit [Yl] in
theorem aW (x : okL h a) (y : okL h b) : okL h (a ++ b) := yC.2 fun z hz => by
 rcases zLY.1 hz with q | q
 ·exact yC.1 x z q
 ·exact yC.1 y z q
omit [Yl] in
theorem qDH : ∀ (t : Ty) (x : t.sem), okL h (t.svs x)
 | .int k, x => by simp [Ty.svs, okL, SV.ok]
 | .bool, x => by simp [Ty.svs, okL, SV.ok]
 | .str, x => by simp [Ty.svs, okL, SV.ok]
 | .unit, x => by simp [Ty.svs, okL]
 | .list el t, x => by simp [Ty.svs, okL, SV.ok]
 | .raw, x => by simp [Ty.svs, okL, SV.ok]
 | .ol el k, x => by simp [Ty.svs, okL, SV.ok]
 | .nif, x => by simp [Ty.svs, okL, SV.ok]
 | .pair a b, x => aW (qDH a x.1) (qDH b x.2)
def q5Q (k : IntKind) (v : SV) : Option Int := match asI v with
 | some (k', x) => cond (decide (k' = k)) (some x) none
 | none => none
def q8X (el : TypeId) (t : Ty) : SV -> Option (List t.sem)
 | .d (.list el' t') xs => if e : t' = t then cond (Nat.beq el' el) (some (e ▸ xs)) none else none
 | _ => none
def asR : SV -> Option (List (Value × Value))
 | .d .raw x => some x
 | _ => none
def q46 (el : TypeId) (k : IntKind) : SV -> Option (List Int)
 | .d (.ol el' k') xs => cond (Nat.beq el' el && decide (k' = k)) (some xs) none
 | .c (.slice none 0 0) => some []
 | _ => none
def q1Y : SV -> Option Unit
 | .d .nif _ => some ()
 | .c .nilIface => some ()
 | _ => none
def Ty.zEW : (t : Ty) -> SV -> Option t.sem
 | .int k, v => q5Q k v
 | .bool, v => asB v
 | .str, v => asS v
 | .list el t, v => q8X el t v
 | .unit, _ => none
 | .pair _ _, _ => none
 | .raw, v => asR v
 | .ol el k, v => q46 el k v
 | .nif, v => q1Y v
theorem tC {x : Int} (e : q5Q k v = some x) : v.enc = fvv (.int k x) := by
 unfold q5Q at e;split at e
 ·rename_i k' x' hx
  cases hk : decide (k' = k) with
  | false => rw [hk] at e; cases e
  | true =>
    rw [hk] at e;cases e;have : k' = k := by simpa using hk
    subst this;exact yL hx
 ·cases e
omit [Yl] in
theorem qXM {t : Ty} {x : List t.sem} (e : q8X el t v = some x) : v = .d (.list el t) x := by
 unfold q8X at e;split at e
 ·rename_i el' t' xs;split at e
  ·rename_i ht;subst ht
   cases hk : Nat.beq el' el with
   | false => rw [hk] at e; cases e
   | true =>
     rw [hk] at e;cases e;have : el' = el := zKJ hk;subst this;rfl
  ·cases e
 ·cases e
theorem qUY {x : List Int} (e : q46 el k v = some x) : v.enc = .f (fvo el k x) := by
 unfold q46 at e;split at e
 ·rename_i el' k' xs
  cases hk : (Nat.beq el' el && decide (k' = k)) with
  | false => rw [hk] at e; cases e
  | true =>
    rw [hk] at e;cases e;rw [zKI] at hk;have h1 : el' = el := zKJ hk.1;have h2 : k' = k := by simpa using hk.2
    subst h1 h2;simp [SV.enc, Ty.fv]
 ·cases e; simp [SV.enc, fvo, fvv]
 ·cases e
theorem sK : ∀ {t : Ty} {v : SV} {x : t.sem}, t.zEW v = some x -> v.enc = .f (t.fv x) ∧ t.one = true
 | .int k, v, x, e => ⟨tC e, rfl⟩
 | .bool, v, x, e => ⟨o7 e, rfl⟩
 | .str, v, x, e => ⟨gW e, rfl⟩
 | .list el t, v, x, e => ⟨by rw [qXM e]; simp [SV.enc], rfl⟩
 | .ol el k, v, x, e => ⟨qUY e, rfl⟩
 | .nif, v, x, e => by
   have e : q1Y v = some x := e;refine ⟨?_, rfl⟩;unfold q1Y at e;split at e
   ·simp [SV.enc, Ty.fv]
   ·simp [SV.enc, Ty.fv, fvv]
   ·cases e
 | .raw, v, x, e => by
   have e : asR v = some x := e;refine ⟨?_, rfl⟩;unfold asR at e;split at e
   ·cases e; simp [SV.enc]
   ·cases e
 | .unit, v, x, e => by cases e
 | .pair a b, v, x, e => by cases e
def qYC (t : Ty) : List SV -> Option (t.sem × List SV)
 | v :: l => match t.zEW v with
   | some x => some (x, l)
   | none => none
 | [] => none
def Ty.zDI : (t : Ty) -> List SV -> Option (t.sem × List SV)
 | .int k, l => qYC (.int k) l
 | .bool, l => qYC .bool l
 | .str, l => qYC .str l
 | .raw, l => qYC .raw l
 | .ol el k, l => qYC (.ol el k) l
 | .nif, l => qYC .nif l
 | .list el t, l => qYC (.list el t) l
 | .unit, l => some ((), l)
 | .pair a b, l => match a.zDI l with
   | some (x, l1) => (match b.zDI l1 with
     | some (y, l2) => some ((x, y), l2)
     | none => none)
   | none => none
theorem gV {t : Ty} {l' : List SV} {x : t.sem} (e : qYC t l = some (x, l')) : qB l = (t.cells x).map .f ++ qB l' := by
 cases l with
 | nil => cases e
 | cons v l =>
   unfold qYC at e;simp only at e;split at e
   ·rename_i y hy;cases e;obtain ⟨h1, h2⟩ := sK hy;rw [Ty.cells_one h2];simp [qB, h1]
   ·cases e
theorem sS : ∀ {t : Ty} {l l' : List SV} {x : t.sem}, t.zDI l = some (x, l') -> qB l = (t.cells x).map .f ++ qB l'
 | .int k, l, l', x, e => gV e
 | .bool, l, l', x, e => gV e
 | .str, l, l', x, e => gV e
 | .raw, l, l', x, e => gV e
 | .ol _ _, l, l', x, e => gV e
 | .nif, l, l', x, e => gV e
 | .list el t, l, l', x, e => gV e
 | .unit, l, l', x, e => by cases e; simp [Ty.cells]
 | .pair a b, l, l', x, e => by
   unfold Ty.zDI at e;split at e
   ·rename_i x1 l1 h1;split at e
    ·rename_i y l2 h2;cases e;show qB l = (a.cells x1 ++ b.cells y).map .f ++ qB l';rw [sS h1, sS h2, zLQ, zLG]
    ·cases e
   ·cases e
def Ty.zC5 (t : Ty) (l : List SV) : Option t.sem := match t.zDI l with
 | some (x, []) => some x
 | _ => none
theorem nM {t : Ty} {x : t.sem} (e : t.zC5 l = some x) : qB l = (t.cells x).map .f := by
 unfold Ty.zC5 at e;split at e
 ·rename_i y hy;cases e;rw [sS hy]; simp [qB]
 ·cases e
def qEN (P : Program) (t : TypeId) (l : List SV) (off : Nat) : Option SV := match qMB P t with
 | some true => (match szT P t with
   | some n => cond (Nat.ble (off + n) l.length) (some (.agg ((l.drop off).take n))) none
   | none => none)
 | some false => zH l off
 | none => none
omit [Yl] in
theorem qK3 {b : List SV} (x : okL h a) (hs : ∀ z ∈ b, z ∈ a) : okL h b := yC.2 fun z hz => yC.1 x z (hs z hz)
theorem qFS (e : qEN P t l off = some v) : nZ P t (qB l) off = some v.enc ∧ (okL h l -> v.ok h) := by
 unfold qEN at e;unfold nZ;split at e
 ·rename_i ha;rw [ha];simp only;split at e
  ·rename_i n hn;rw [hn];simp only
   cases hc : Nat.ble (off + n) l.length with
   | false => rw [hc] at e; cases e
   | true =>
     rw [hc] at e;cases e;refine ⟨by rw [qY, zK2, hc]; simp [SV.enc, qY, zMW, zMX], fun ho => ?_⟩;simp only [SV.ok];exact qK3 ho fun z hz => zM8 (zNR hz)
  ·cases e
 ·rename_i ha;rw [ha];simp only;rw [zK, e];exact ⟨rfl, fun ho => eX ho e⟩
 ·cases e
theorem qB3 {t' : Ty} {xs : List t'.sem} {x : t'.sem} (hx : xs[j]? = some x) (e : qEN P t (t'.svs x) off = some v) :
 nZ P t ((xs.flatMap t'.cells).map .f) (j * t'.w + off) = some v.enc ∧ qLP P t (xs.flatMap t'.cells) (j * t'.w + off) = some v.enc ∧ v.ok h := by
 have h0 := qFS (h := h) e;refine ⟨?_, ?_, h0.2 (qDH t' x)⟩
 all_goals
  have h1 := h0.1;rw [gD] at h1;unfold nZ at h1
 ·unfold nZ;split at h1
  ·rename_i ha;split at h1
   ·rename_i n hn
    cases hc : Nat.ble (off + n) ((t'.cells x).map PV.f).length with
    | false => rw [hc] at h1; cases h1
    | true =>
      rw [hc] at h1
      have hle : off + n <= t'.w := by
       have := zKS hc;rw [zK2, t'.zAX] at this;exact this
      rw [show Nat.ble (j * t'.w + off + n) ((xs.flatMap t'.cells).map PV.f).length = true from zK4 (by rw [zK2]; exact qG7 hx hle)];simp only [cond_true] at h1 ⊢;rw [<- h1, <- zMW, <- zMX, qI2 hx hle, <- zMW, <- zMX]
   ·cases h1
  ·rename_i ha;rw [qF, zKX] at h1 ⊢
   have hlt : off < t'.w := by
    rw [<- t'.zAX x]
    cases hq : (t'.cells x)[off]? with
    | none => rw [hq] at h1; cases h1
    | some y => exact (zKN.1 hq).1
   rw [Go.Sv.flat_get hx hlt]; exact h1
  ·cases h1
 ·unfold qLP;split at h1
  ·rename_i ha;split at h1
   ·rename_i n hn
    cases hc : Nat.ble (off + n) ((t'.cells x).map PV.f).length with
    | false => rw [hc] at h1; cases h1
    | true =>
      rw [hc] at h1
      have hle : off + n <= t'.w := by
       have := zKS hc;rw [zK2, t'.zAX] at this;exact this
      rw [show Nat.ble (j * t'.w + off + n) (xs.flatMap t'.cells).length = true from zK4 (qG7 hx hle)];simp only [cond_true] at h1 ⊢;rw [<- h1, qI2 hx hle, <- zMW, <- zMX]
   ·cases h1
  ·rename_i ha;rw [qF, zKX] at h1
   cases hq : (t'.cells x)[off]? with
   | none => rw [hq] at h1; cases h1
   | some y =>
     rw [hq] at h1
     have hlt : off < t'.w := by
      rw [<- t'.zAX x];exact (zKN.1 hq).1
     rw [Go.Sv.flat_get hx hlt, hq];exact h1
  ·cases h1
def q76 : List SV -> Option IntKind
 | v :: _ => (asI v).map Prod.fst
 | [] => none
def qMJ (ik : IntKind) : List SV -> Option (List Int)
 | [] => some []
 | v :: l => match q5Q ik v, qMJ ik l with
   | some x, some xs => some (x :: xs)
   | _, _ => none
def q75 (off : Nat) (v : Int) (xs : List Int) : Option (List Int) := if off < xs.length then some (xs.set off v) else none
def spread (ik : IntKind) (n : Nat) (ys : List Int) : List SV := (List.range n).map fun i => SV.d (.int ik) (ys.getD i 0 : Int)
theorem aX {ik : IntKind} : ∀ {l : List SV} {xs : List Int}, qMJ ik l = some xs -> qB l = xs.map fun x => fvv (.int ik x)
 | [], xs, e => by cases e; simp [qB]
 | v :: l, xs, e => by
   unfold qMJ at e;split at e
   ·rename_i x ys hx hy;cases e;simp only [qB, zKZ, tC hx, aX hy]
   ·cases e
theorem qD0 (h : ys.length = n) : qB (spread ik n ys) = ys.map fun x => fvv (.int ik x) := by
 rw [qY];unfold spread;rw [zNY];apply zLR;intro i;rw [zKX, zKX];by_cases hi : i < n
 ·rw [zOM hi, zKM (by omega : i < ys.length)];simp only [zKU, Function.comp, zKP];rw [zK9, zKM (by omega : i < ys.length)];simp [SV.enc, Ty.fv, fvv]
 ·rw [zLT (by simp; omega), zLT (by omega)];rfl
theorem qRU : okL h (spread ik n ys) := yC.2 fun x hx => by
 unfold spread at hx;obtain ⟨i, _, rfl⟩ := zLC.1 hx;simp [SV.ok]
def q4C (P : Program) (t : TypeId) (a : SV) (h : SH) (K : SV -> zAN R) : zAN R := match a with
 | .ref k off w => (match slk k h.l with
   | some (.cells el _ l) => (match qEN P t l off with
     | some v => cond (!(spec P el) && Nat.beq w l.length) (K v) .fail
     | none => .fail)
   | _ => .fail)
 | .elt k g n w j off => (match slk k h.l with
   | some (.list _ _ g' _ t' xs) => cond (Nat.beq g g' && Nat.beq w t'.w) (.bind (xs[j]?) fun x => match qEN P t (t'.svs x) off with
     | some v => K v
     | none => .fail) .fail
   | _ => .fail)
 | .lp t' xs j off => .bind (xs[j]?) fun x => match qEN P t (t'.svs x) off with
   | some v => K v
   | none => .fail
 | .rfx k off w => (match slk k h.l with
   | some (.cells el _ l) => (match q76 l with
     | some ik => (match qMJ ik l, qMB P t with
       | some xs, some false => cond (!(spec P el) && Nat.beq w l.length) (.bind (xs[off]?) fun x => K (.d (.int ik) (x : Int))) .fail
       | _, _ => .fail)
     | none => .fail)
   | _ => .fail)
 | .etx k g n w j off => (match slk k h.l with
   | some (.list _ _ g' _ t' xs) => cond (Nat.beq g g' && Nat.beq w t'.w) (.bind (xs[j]?) fun x => match q76 (t'.svs x) with
     | some ik => (match qMJ ik (t'.svs x), qMB P t with
       | some ys, some false => .bind (ys[off]?) fun z => K (.d (.int ik) (z : Int))
       | _, _ => .fail)
     | none => .fail) .fail
   | _ => .fail)
 | _ => .fail
theorem qW (l : List SV) : (qB l).length = l.length := by rw [qY, zK2]
theorem yY {k : Nat} {ob : SO} {l : List (Nat × SO)} (e : slk k l = some ob) : qA k (qE l) = some ob.enc := by rw [uV, e]; rfl
theorem qV {gr : Bool} {g w : Nat} {t : Ty} {xs : List t.sem} : (SO.list el gr g w t xs).enc.cs.length = xs.length * t.w := by
 show ((xs.flatMap t.cells).map PV.f).length = _;rw [zK2, yR]
theorem qZU {a : SV} {K : SV -> zAN R} (ho : OkH P h) (ha : a.ok h) (e : (q4C P t a h K).run = some r) : ∃ v, dF P t a.enc (qE h.l) = some v.enc ∧ v.ok h ∧ (K v).run = some r := by
 unfold q4C at e;split at e
 ·rename_i k off w;split at e
  ·rename_i el w' l hk;split at e
   ·rename_i v hv;obtain ⟨h1, h2⟩ := qG e;rw [zKI, zK7] at h1;obtain ⟨hsp, h1⟩ := h1;obtain ⟨h3, h4⟩ := qFS (h := h) hv;refine ⟨v, ?_, h4 (ho.cells _ _ _ _ hk), h2⟩;simp only [SV.enc, dF, yY hk];show cond (spec P el) none (cond (Nat.beq w (qB l).length) (nZ P t (qB l) off) none) = _;rw [qW, h1, hsp];exact h3
   ·cases e
  ·cases e
 ·rename_i k g n w j off;split at e
  ·rename_i el gr g' w' t' xs hk;obtain ⟨h1, h2⟩ := qG e;rw [zKI] at h1;have hg : g = g' := zKJ h1.1;have hw : w = t'.w := zKJ h1.2;subst hg hw;obtain ⟨x, hx, h3⟩ := run_bind h2;split at h3
   ·rename_i v hv;have h5 := qB3 (h := h) hx hv;refine ⟨v, ?_, h5.2.2, h3⟩;simp only [SV.ok] at ha;have hn : n = xs.length := ha.2 _ _ _ _ _ hk;simp only [SV.enc, dF, yY hk];rw [qV, hn, show spec P (SO.list el gr g w' t' xs).enc.el = false from kY (ho.list _ _ _ _ _ _ _ hk).2.1];simp only [rO, cond_true, cond_false];exact h5.1
   ·cases h3
  ·cases e
 ·rename_i t' xs j off;obtain ⟨x, hx, h3⟩ := run_bind e;split at h3
  ·rename_i v hv;have h5 := qB3 (h := h) hx hv;exact ⟨v, by simp only [SV.enc, dF]; exact h5.2.1, h5.2.2, h3⟩
  ·cases h3
 ·rename_i k off w;split at e
  ·rename_i el w' l hk;split at e
   ·rename_i ik hik;split at e
    ·rename_i xs hxs hag;obtain ⟨h1, h2⟩ := qG e;rw [zKI, zK7] at h1;obtain ⟨hsp, h1⟩ := h1;obtain ⟨x, hx, h3⟩ := run_bind h2;refine ⟨_, ?_, by simp [SV.ok], h3⟩;simp only [SV.enc, dF, yY hk];show cond (spec P el) none (cond (Nat.beq w (qB l).length) (nZ P t (qB l) off) none) = _;rw [qW, h1, hsp];simp only [cond_true, cond_false];unfold nZ;rw [hag];show zH (qB l) off = _;rw [qF, aX hxs, zKX, hx];simp [Ty.fv, fvv]
    ·cases e
   ·cases e
  ·cases e
 ·rename_i k g n w j off;split at e
  ·rename_i el gr g' w' t' xs hk;obtain ⟨h1, h2⟩ := qG e;rw [zKI] at h1;have hg : g = g' := zKJ h1.1;have hw : w = t'.w := zKJ h1.2;subst hg hw;obtain ⟨x, hx, h3⟩ := run_bind h2;split at h3
   ·rename_i ik hik;split at h3
    ·rename_i ys hys hag;obtain ⟨z, hz, h4⟩ := run_bind h3;refine ⟨_, ?_, by simp [SV.ok], h4⟩;have hn1 : zH (qB (t'.svs x)) off = some (fvv (.int ik z)) := by rw [qF, aX hys, zKX, hz]; rfl
     rw [zK] at hn1;obtain ⟨v0, hv0, hv1⟩ := zKR.1 hn1;have hsp : qEN P t (t'.svs x) off = some v0 := by unfold qEN; rw [hag]; exact hv0
     have h5 := qB3 (h := h) hx hsp;simp only [SV.ok] at ha;have hn : n = xs.length := ha.2 _ _ _ _ _ hk;simp only [SV.enc, dF, yY hk];rw [qV, hn, show spec P (SO.list el gr g w' t' xs).enc.el = false from kY (ho.list _ _ _ _ _ _ _ hk).2.1];simp only [rO, cond_true, cond_false];have h6 := h5.1;rw [hv1] at h6;rw [show (SO.list el gr g w' t' xs).enc.cs = (xs.flatMap t'.cells).map .f from rfl, h6];simp [Ty.fv, fvv]
    ·cases h3
   ·cases h3
  ·cases e
 ·cases e
def Post (P : Program) (h h' : SH) (v : SV) : Prop := Keep h h' ∧ OkH P h' ∧ v.ok h'
def yH : SV -> List SV
 | .agg l => l
 | v => [v]
theorem bX (v : SV) : zJ v.enc = qB (yH v) := by
 cases v <;> simp [SV.enc, zJ, yH, qB, fvv];rename_i b _ _ _;cases b <;> rfl
omit [Yl] in
theorem qAU (hv : v.ok h) : okL h (yH v) := by
 cases v <;> simp only [yH, okL, SV.ok, and_true] at hv ⊢ <;> exact hv
def qB8 (l : List SV) (i : Nat) (vs : List SV) : List SV := l.take i ++ vs ++ l.drop (i + vs.length)
theorem qAA (l vs : List SV) (i : Nat) : qB (qB8 l i vs) = kM (qB l) i (qB vs) := by
 simp [qB8, kM, qY, zMX, zMW]
omit [Yl] in
theorem qOH {vs : List SV} {i : Nat} (a : okL h l) (b : okL h vs) : okL h (qB8 l i vs) :=
 aW (aW (qK3 a fun z hz => zNR hz) b) (qK3 a fun z hz => zM8 hz)
omit [Yl] in
theorem qXK {α : Type} (A B C : List α) (c : List α) (hle : off + c.length <= B.length) :
 (A ++ B ++ C).take (A.length + off) ++ c ++ (A ++ B ++ C).drop (A.length + off + c.length) = A ++ (B.take off ++ c ++ B.drop (off + c.length)) ++ C := by
 rw [zLG A B C, List.take_append, zLN (by omega), zN1, List.take_append_of_le_length (by omega)];rw [zMB, List.drop_append, List.drop_of_length_le (by omega), zN1, List.nil_append, List.drop_append_of_le_length (by omega)];simp [zLG]
omit [Yl] in
theorem qD5 {t : Ty} {xs : List t.sem} {x : t.sem} (hx : xs[j]? = some x) (y : t.sem) : (xs.set j y).flatMap t.cells = (xs.take j).flatMap t.cells ++ t.cells y ++ (xs.drop (j + 1)).flatMap t.cells := by
 have hl := (zKN.1 hx).1;rw [zNA, if_pos hl, zNV, zLF, zLG]
omit [Yl] in
theorem qC8 {t : Ty} {xs : List t.sem} {x y : t.sem} (hx : xs[j]? = some x) {c : List PV} (hle : off + c.length <= t.w) (hy : kM ((t.cells x).map .f) off c = (t.cells y).map .f) :
 kM ((xs.flatMap t.cells).map .f) (j * t.w + off) c = ((xs.set j y).flatMap t.cells).map .f := by
 have hl := (zKN.1 hx).1
 have e0 : xs.set j x = xs := by
  apply zLR;intro i;rw [zLD];by_cases e : j = i
  ·subst e; rw [if_pos rfl, if_pos hl, hx]
  ·rw [if_neg e]
 have e1 := qD5 hx x;rw [e0] at e1;rw [qD5 hx y, e1];simp only [zLQ];unfold kM;have hA : (((xs.take j).flatMap t.cells).map PV.f).length = j * t.w := by rw [zK2, yR, zLZ, zMK (by omega)]
 rw [<- hA, qXK _ _ _ _ (by rw [zK2, t.zAX]; exact hle)];unfold kM at hy;rw [hy]
def qTI (P : Program) (t : TypeId) (a x : SV) (h : SH) (K : SV -> SH -> zAN R) : zAN R := match szT P t with
 | some n => (match a with
   | .ref k off w => (match slk k h.l with
     | some (.cells el _ l) => cond (!(spec P el) && (Nat.beq w l.length && (Nat.beq n (yH x).length && (Nat.ble (off + n) l.length && (pnt x.enc && (qB (yH x)).all eT)))))
        (K (.tup []) (h.put k fun v => .cells el v (qB8 l off (yH x)))) .fail
     | _ => .fail)
   | .elt k g m w j off => (match slk k h.l with
     | some (.list el gr g' _ t' xs) => cond (Nat.beq g g' && (Nat.beq w t'.w && (Nat.beq n (yH x).length && (Nat.ble (off + n) w && (pnt x.enc && (qB (yH x)).all eT)))))
        (.bind (xs[j]?) fun y => match t'.zC5 (qB8 (t'.svs y) off (yH x)) with
          | some z => K (.tup []) (h.put k fun v => .list el gr g v t' (List.set xs j z))
          | none => .fail) .fail
     | _ => .fail)
   | .rfx k off w => (match slk k h.l with
     | some (.cells el _ l) => (match q76 l with
       | some ik => (match qMJ ik l, q5Q ik x with
         | some xs, some v => cond (!(spec P el) && (Nat.beq w l.length && Nat.beq n 1)) (.bind (q75 off v xs) fun ys => K (.tup []) (h.put k fun u => .cells el u (spread ik (List.length xs) ys))) .fail
         | _, _ => .fail)
       | none => .fail)
     | _ => .fail)
   | .etx k g m w j off => (match slk k h.l with
     | some (.list el gr g' _ t' xs) => cond (Nat.beq g g' && (Nat.beq w t'.w && Nat.beq n 1)) (.bind (xs[j]?) fun y => match q76 (t'.svs y) with
       | some ik => (match qMJ ik (t'.svs y), q5Q ik x with
         | some ys, some v => .bind (q75 off v ys) fun zs => match t'.zC5 (spread ik (List.length ys) zs) with
           | some z => K (.tup []) (h.put k fun v => .list el gr g v t' (List.set xs j z))
           | none => .fail
         | _, _ => .fail)
       | none => .fail) .fail
     | _ => .fail)
   | _ => .fail)
 | none => .fail
theorem qSI {a : SV} {K : SV -> SH -> zAN R} (ho : OkH P h) (ha : a.ok h) (hx : x.ok h) (e : (qTI P t a x h K).run = some r) :
 ∃ h', wI P t a.enc x.enc (qE h.l) = some (qE h'.l) ∧ Keep h h' ∧ OkH P h' ∧ (K (.tup []) h').run = some r := by
 unfold qTI at e;split at e
 ·rename_i n hn;split at e
  ·rename_i k off w;split at e
   ·rename_i el w' l hk;obtain ⟨h1, h2⟩ := qG e;rw [zKI, zK7] at h1;obtain ⟨hsp, h1⟩ := h1;have hp := aF (f := fun v => .cells el v (qB8 l off (yH x))) ho hk ⟨rfl, qOH (ho.cells _ _ _ _ hk) (qAU hx)⟩;refine ⟨_, ?_, hp.1, hp.2, h2⟩;simp only [SV.enc, wI, yY hk, hn];show cond (spec P el) none (cond (Nat.beq w (qB l).length && (Nat.beq n (zJ x.enc).length && (Nat.ble (off + n) (qB l).length && (pnt x.enc && (zJ x.enc).all eT)))) _ _) = _;rw [bX, qW, qW, h1, hsp];simp only [cond_true];rw [show qE (h.put k fun v => .cells el v (qB8 l off (yH x))).l = kU k (SO.enc (.cells el h.next (qB8 l off (yH x)))) (qE h.l) from vM k _ _];show some (kU k ⟨el, false, kM (qB l) off (qB (yH x))⟩ (qE h.l)) = some (kU k ⟨el, false, qB (qB8 l off (yH x))⟩ (qE h.l));rw [qAA]
   ·cases e
  ·rename_i k g m w j off;split at e
   ·rename_i el gr g' w' t' xs hk;obtain ⟨h1, h2⟩ := qG e;simp only [zKI] at h1;obtain ⟨q1, q2, q3, q4, q5, q6⟩ := h1;have hg : g = g' := zKJ q1;have hw : w = t'.w := zKJ q2;subst hg hw;obtain ⟨y, hy, h3⟩ := run_bind h2;split at h3
    ·rename_i z hz;have hp := aF (f := fun v => .list el gr g v t' (List.set xs j z)) ho hk ⟨_, rfl, by simp⟩;refine ⟨_, ?_, hp.1, hp.2, h3⟩;simp only [SV.ok] at ha;have hm : m = xs.length := ha.2 _ _ _ _ _ hk;have hle : off + n <= t'.w := zKS q4;simp only [SV.enc, wI, yY hk, hn];rw [qV, hm, bX, qW, show spec P (SO.list el gr g w' t' xs).enc.el = false from kY (ho.list _ _ _ _ _ _ _ hk).2.1]
     have hjl : j * t'.w + off + n <= xs.length * t'.w := by
      have := qG7 hy hle
      rwa [yR] at this
     rw [q3, q5, q6, show Nat.ble (j * t'.w + off + n) (xs.length * t'.w) = true from zK4 hjl];simp only [rO, zLM, cond_true, cond_false];rw [show qE (h.put k fun v => .list el gr g v t' (List.set xs j z)).l = kU k (SO.enc (.list el gr g h.next t' (List.set xs j z))) (qE h.l) from vM k _ _];show some (kU k ⟨el, gr, kM ((xs.flatMap t'.cells).map .f) (j * t'.w + off) (qB (yH x))⟩ (qE h.l)) = some (kU k ⟨el, gr, ((List.set xs j z).flatMap t'.cells).map .f⟩ (qE h.l));have hnl : n = (qB (yH x)).length := by rw [qW]; exact zKJ q3
     rw [qC8 hy (y := z) (by rw [<- hnl]; exact hle) (by rw [<- gD, <- qAA]; exact nM hz)]
    ·cases h3
   ·cases e
  ·rename_i k off w;split at e
   ·rename_i el w' l hk;split at e
    ·rename_i ik hik;split at e
     ·rename_i xs v hxs hv;obtain ⟨h1, h2⟩ := qG e;simp only [zKI, zK7] at h1;obtain ⟨hsp, hw, hn1⟩ := h1;have hn2 := zKJ hn1;subst hn2;obtain ⟨ys, hys, h3⟩ := run_bind h2;unfold q75 at hys;split at hys
      case isFalse => cases hys
      rename_i hlt;cases hys;have hp := aF (f := fun u => .cells el u (spread ik (List.length xs) (xs.set off v))) ho hk ⟨rfl, qRU⟩;refine ⟨_, ?_, hp.1, hp.2, h3⟩;have hel := aX hxs;have hll : (qB l).length = xs.length := by rw [hel, zK2]
      simp only [SV.enc, wI, yY hk, hn];rw [tC hv];show cond (spec P el) none (cond (Nat.beq w (qB l).length && (Nat.beq 1 1 && (Nat.ble (off + 1) (qB l).length && (true && true)))) (some (kU k ⟨el, false, kM (qB l) off [fvv (.int ik v)]⟩ (qE h.l))) none) = _;rw [hsp, show Nat.beq w (qB l).length = true by rw [qW]; exact hw, hll, show Nat.ble (off + 1) xs.length = true from zK4 hlt];rw [show qE (h.put k fun u => .cells el u (spread ik (List.length xs) (xs.set off v))).l = kU k (SO.enc (.cells el h.next (spread ik (List.length xs) (xs.set off v)))) (qE h.l) from vM k _ _];show some (kU k ⟨el, false, kM (qB l) off [fvv (.int ik v)]⟩ (qE h.l)) = some (kU k ⟨el, false, qB (spread ik (List.length xs) (xs.set off v))⟩ (qE h.l));rw [qD0 (by simp), hel]
      have : kM (xs.map fun x => fvv (.int ik x)) off [fvv (.int ik v)] = (xs.set off v).map fun x => fvv (.int ik x) := by
       rw [List.map_set, zNA, if_pos (by rw [zK2]; exact hlt)];unfold kM;simp
      rw [this]
     ·cases e
    ·cases e
   ·cases e
  ·rename_i k g m w j off;split at e
   ·rename_i el gr g' w' t' xs hk;obtain ⟨h1, h2⟩ := qG e;simp only [zKI] at h1;obtain ⟨q1, q2, q3⟩ := h1;have hg : g = g' := zKJ q1;have hw : w = t'.w := zKJ q2;have hn2 := zKJ q3;subst hg hw hn2;obtain ⟨y, hy, h3⟩ := run_bind h2;split at h3
    ·rename_i ik hik;split at h3
     ·rename_i ys v hys hv;obtain ⟨zs, hzs, h4⟩ := run_bind h3;split at h4
      ·rename_i z hz;unfold q75 at hzs;split at hzs
       case isFalse => cases hzs
       rename_i hlt;cases hzs;have hp := aF (f := fun v => .list el gr g v t' (List.set xs j z)) ho hk ⟨_, rfl, by simp⟩;refine ⟨_, ?_, hp.1, hp.2, h4⟩;simp only [SV.ok] at ha;have hm : m = xs.length := ha.2 _ _ _ _ _ hk;have hel := aX hys
       have hcw : ys.length = t'.w := by
        have := congrArg List.length hel;rw [gD, zK2, zK2, t'.zAX] at this;exact this.symm
       have hle : off + 1 <= t'.w := by omega
       simp only [SV.enc, wI, yY hk, hn];rw [qV, hm, tC hv, show spec P (SO.list el gr g w' t' xs).enc.el = false from kY (ho.list _ _ _ _ _ _ _ hk).2.1]
       have hjl : j * t'.w + off + 1 <= xs.length * t'.w := by
        have := qG7 hy hle
        rwa [yR] at this
       rw [show Nat.ble (j * t'.w + off + 1) (xs.length * t'.w) = true from zK4 hjl];simp only [rO, cond_false];show some (kU k ⟨el, gr, kM ((xs.flatMap t'.cells).map .f) (j * t'.w + off) [fvv (.int ik v)]⟩ (qE h.l)) = _;rw [show qE (h.put k fun v => .list el gr g v t' (List.set xs j z)).l = kU k (SO.enc (.list el gr g h.next t' (List.set xs j z))) (qE h.l) from vM k _ _];show _ = some (kU k ⟨el, gr, ((List.set xs j z).flatMap t'.cells).map .f⟩ (qE h.l));rw [qC8 hy (y := z) hle ?_];rw [<- nM hz, qD0 (by simp), <- gD, hel, List.map_set, zNA, if_pos (by rw [zK2]; exact hlt)];unfold kM;simp
      ·cases h4
     ·cases h3
    ·cases h3
   ·cases e
  ·cases e
 ·cases e
end
end Go.Sv
namespace Go.Sv
open Go.Idl
noncomputable section
variable [Gc]
variable [Yl]
variable {P : Program} {h : SH} {R : Type} {r : R}
def tyL : List (Option Ty) -> Option Ty
 | [] => some .unit
 | [t] => t.map fun t => .pair t .unit
 | [a, b] => match a, b with
   | some a, some b => some (.pair a b)
   | _, _ => none
 | a :: l => match a, tyL l with
   | some a, some b => some (.pair a b)
   | _, _ => none
def zAE (P : Program) (t : TypeId) : Option Ty := match P.underlying t with
 | some (.slice el) => (match P.underlying el with
   | some (.int k) => some (.ol el k)
   | _ => none)
 | _ => none
def qDY (P : Program) : Nat -> TypeId -> Option Ty
 | 0, _ => none
 | n + 1, t => match P.underlying t with
   | some (.int k) => some (.int k)
   | some .bool => some .bool
   | some .string => some .str
   | some (.slice el) => (match qDY P n el with
     | some u => some (.list el u)
     | none => none)
   | some (.struct fields) => tyL (fields.toList.map fun f => cond (Gc.ol f.type) (zAE P f.type) (qDY P n f.type))
   | some (.array k el) => tyL (List.replicate k (qDY P n el))
   | some (.interface ..) => some .nif
   | _ => none
def zcS (P : Program) (t : TypeId) : Option (List SV) := match qBS P t with
 | some z => cond (kQ okC z.cells.toList) (some (kG .c z.cells.toList)) none
 | none => none
theorem qBB {t : TypeId} {l : List SV} (e : zcS P t = some l) : zc P t = some (qB l) ∧ okL h l := by
 unfold zcS at e;unfold zc;split at e
 ·rename_i z hz
  cases hc : kQ okC z.cells.toList with
  | false => rw [hc] at e; cases e
  | true =>
    rw [hc] at e;cases e;rw [hz];simp only [hc, cond_true];exact ⟨by rw [q79], q78 _⟩
 ·cases e
def qUQ (P : Program) (el : TypeId) (k : Nat) (h : SH) (K : SV -> SH -> zAN R) : zAN R := match zcS P el with
 | some l => cond (spec P el) .fail (K (.ref k 0 l.length) (h.new k fun v => .cells el v l))
 | none => .fail
theorem qR7 {el : TypeId} {k : Nat} {K : SV -> SH -> zAN R} (ho : OkH P h) (e : (qUQ P el k h K).run = some r) : ∃ v h', mO P el k (qE h.l) = some (v.enc, qE h'.l) ∧ Post P h h' v ∧ (K v h').run = some r := by
 unfold qUQ at e;split at e
 ·rename_i l hl;obtain ⟨h1, h2⟩ := qBB (h := h) hl;have hp := kD (k := k) (f := fun v => .cells el v l) ho ⟨rfl, h2⟩
  cases hsp : spec P el with
  | true => rw [hsp] at e; cases e
  | false =>
  rw [hsp] at e;refine ⟨_, _, ?_, ⟨hp.1, hp.2, by simp [SV.ok]⟩, e⟩;simp only [mO, h1, qKP, SV.enc, qW, hsp, cond_false];rfl
 ·cases e
def q9P (P : Program) (el : TypeId) (v : SV) (k : Nat) (h : SH) (K : SV -> SH -> zAN R) : zAN R :=
 cond (!(spec P el) && (pnt v.enc && (qB (yH v)).all eT)) (K (.ref k 0 (yH v).length) (h.new k fun n => .cells el n (yH v))) .fail
theorem q3F {el : TypeId} {v : SV} {k : Nat} {K : SV -> SH -> zAN R} (ho : OkH P h) (hv : v.ok h) (e : (q9P P el v k h K).run = some r) : ∃ x h', qYI P el v.enc k (qE h.l) = some (x.enc, qE h'.l) ∧ Post P h h' x ∧ (K x h').run = some r := by
 obtain ⟨h1, h2⟩ := qG e;have hp := kD (k := k) (f := fun n => .cells el n (yH v)) ho ⟨rfl, qAU hv⟩;refine ⟨_, _, ?_, ⟨hp.1, hp.2, by simp [SV.ok]⟩, h2⟩;unfold qYI;rw [bX, h1];simp only [cond_true, qKP, SV.enc, qW];rfl
def qQV (place : Nat -> Option (Nat × Nat)) : List SV -> List (Nat × SV) -> Option (List SV)
 | cells, [] => some cells
 | cells, (i, v) :: rest => match place i with
   | some (off, size) => cond (Nat.beq (yH v).length size && (Nat.ble (off + size) cells.length && (pnt v.enc && (qB (yH v)).all eT))) (qQV place (qB8 cells off (yH v)) rest) none
   | none => none
def q5N (l : List (Nat × SV)) : List (Nat × PV) := l.map fun p => (p.1, p.2.enc)
theorem sO {place : Nat -> Option (Nat × Nat)} : ∀ {l cs : List SV} {parts : List (Nat × SV)}, qQV place l parts = some cs -> qKK place (qB l) (q5N parts) = some (qB cs) ∧ (okL h l -> (∀ p ∈ parts, p.2.ok h) -> okL h cs)
 | l, cs, [], e => by cases e; exact ⟨rfl, fun a _ => a⟩
 | l, cs, (i, v) :: rest, e => by
   unfold qQV at e;split at e
   ·rename_i off size hpl
    cases hc : (Nat.beq (yH v).length size && (Nat.ble (off + size) l.length && (pnt v.enc && (qB (yH v)).all eT))) with
    | false => rw [hc] at e; cases e
    | true =>
      rw [hc] at e;obtain ⟨h1, h2⟩ := sO (l := qB8 l off (yH v)) e;refine ⟨?_, fun a b => h2 (qOH a (qAU (b _ zKW))) fun p hp => b p (zKQ _ hp)⟩
      show (match place i with
       | some (off, size) => cond (Nat.beq (zJ v.enc).length size && (Nat.ble (off + size) (qB l).length && (pnt v.enc && (zJ v.enc).all eT))) (qKK place (kM (qB l) off (zJ v.enc)) (q5N rest)) none
       | none => none) = some (qB cs)
      rw [hpl];simp only;rw [bX, qW, qW, hc, <- qAA];exact h1
   ·cases e
def qTG (P : Program) (t : TypeId) (parts : List (Nat × SV)) : Option SV := match zcS P t with
 | some z => cond (qBU P t) (match qQV (qS3 P t) z parts with
   | some cs => some (.agg cs)
   | none => none) none
 | none => none
theorem qVM {t : TypeId} {parts : List (Nat × SV)} {v : SV} (hp : ∀ p ∈ parts, p.2.ok h) (e : qTG P t parts = some v) : qHQ P t (q5N parts) = some v.enc ∧ v.ok h := by
 unfold qTG at e;split at e
 ·rename_i z hz;obtain ⟨h1, h2⟩ := qBB (h := h) hz
  cases hb : qBU P t with
  | false => rw [hb] at e; cases e
  | true =>
    rw [hb] at e;simp only [cond_true] at e;split at e
    ·rename_i cs hcs;cases e;obtain ⟨h3, h4⟩ := sO (h := h) hcs;simp only [qHQ, h1, hb, cond_true, h3, SV.enc, SV.ok, true_and];exact h4 h2 hp
    ·cases e
 ·cases e
def Ty.zEX (t : Ty) : Nat -> List SV -> Option (List t.sem)
 | 0, [] => some []
 | 0, _ :: _ => none
 | n + 1, l => match t.zDI l with
   | some (x, l') => (match t.zEX n l' with
     | some xs => some (x :: xs)
     | none => none)
   | none => none
theorem qOS {t : Ty} : ∀ {n : Nat} {l : List SV} {xs : List t.sem}, t.zEX n l = some xs -> qB l = (xs.flatMap t.cells).map .f ∧ xs.length = n
 | 0, [], xs, e => by cases e; simp [qB]
 | 0, _ :: _, xs, e => by cases e
 | n + 1, l, xs, e => by
   unfold Ty.zEX at e;split at e
   ·rename_i x l' hx;split at e
    ·rename_i ys hy;cases e;obtain ⟨h1, h2⟩ := qOS hy;rw [sS hx, h1, zLF, zLQ];exact ⟨rfl, by rw [zK1, h2]⟩
    ·cases e
   ·cases e
def q6G (n : Nat) (z : List SV) : List SV := (List.replicate n z).flatten
theorem qOF (n : Nat) (z : List SV) : qB (q6G n z) = qHH n (qB z) := by simp [q6G, qHH, qY, List.map_flatten]
def eU (P : Program) (t : TypeId) (len : Nat) (parts : List (Nat × SV)) (k : Nat) (h : SH) (K : SV -> SH -> zAN R) : zAN R := match zW P t with
 | some el => (match szT P el, zcS P el, qDY P 8 el with
   | some (s + 1), some z, some ty => cond (Nat.beq ty.w (s + 1)) (cond (Nat.beq z.length (s + 1) && Nat.ble (len * (s + 1)) 65536) (match qQV (fun i => some (i * (s + 1), s + 1)) (q6G len z) parts with
     | some cs => (match ty.zEX len cs with
       | some xs => K (.own k h.next len) (h.new k fun v => .list el false v v ty xs)
       | none => .fail)
     | none => .fail) .fail) .fail
   | some (s + 1), some z, none => cond (Nat.beq z.length (s + 1) && Nat.ble (len * (s + 1)) 65536) (match qQV (fun i => some (i * (s + 1), s + 1)) (q6G len z) parts with
     | some cs => K (.own k h.next len) (h.new k fun v => .cells el v cs)
     | none => .fail) .fail
   | _, _, _ => .fail)
 | none => .fail
omit [Yl] in
theorem vR {el : TypeId} {gr : Bool} {k n : Nat} {ty : Ty} {xs : List ty.sem} (hn : n = xs.length) : (SV.own k h.next n).ok (h.new k fun v => .list el gr v v ty xs) := by
 simp only [SV.ok];refine ⟨zLI _, fun el' gr' w' t' xs' hk => ?_⟩;rw [show slk k (h.new k fun v => .list el gr v v ty xs).l = some (.list el gr h.next h.next ty xs) from vN] at hk;cases hk;exact hn
theorem qCT {t : TypeId} {len k : Nat} {parts : List (Nat × SV)} {K : SV -> SH -> zAN R} (ho : OkH P h) (hp : ∀ p ∈ parts, p.2.ok h) (e : (eU P t len parts k h K).run = some r) :
 ∃ v h', yF P t len (q5N parts) k (qE h.l) = some (v.enc, qE h'.l) ∧ Post P h h' v ∧ (K v h').run = some r := by
 unfold eU at e;split at e
 ·rename_i el hel;split at e
  ·rename_i s z ty hs hz hty;obtain ⟨e1, e⟩ := qG e;obtain ⟨e2, e⟩ := qG e;split at e
   ·rename_i cs hcs;split at e
    ·rename_i xs hxs;obtain ⟨z1, z2⟩ := qBB (h := h) hz;obtain ⟨f1, f2⟩ := sO (h := h) hcs;obtain ⟨d1, d2⟩ := qOS hxs;have hw : ty.w = s + 1 := zKJ e1;have hn := kD (k := k) (f := fun v => .list el false v v ty xs) ho ⟨rfl, rfl, by rw [hs, hw], by omega⟩;refine ⟨_, _, ?_, ⟨hn.1, hn.2, vR d2.symm⟩, e⟩;rw [qOF] at f1;simp only [yF, hel, hs, z1, qW, e2, cond_true, f1, qKP, SV.enc, d1];rfl
    ·cases e
   ·cases e
  ·rename_i s z hs hz hty;obtain ⟨e2, e⟩ := qG e;split at e
   ·rename_i cs hcs;obtain ⟨z1, z2⟩ := qBB (h := h) hz;obtain ⟨f1, f2⟩ := sO (h := h) hcs
    have zIA : okL h cs := f2 (yC.2 fun x hx => by
     unfold q6G at hx;obtain ⟨l, hl, hx⟩ := zN9.1 hx;rw [List.eq_of_mem_replicate hl] at hx
     exact yC.1 z2 x hx) hp
    have hn := kD (k := k) (f := fun v => .cells el v cs) ho ⟨rfl, zIA⟩;refine ⟨_, _, ?_, ⟨hn.1, hn.2, ?_⟩, e⟩
    ·rw [qOF] at f1;simp only [yF, hel, hs, z1, qW, e2, cond_true, f1, qKP, SV.enc];rfl
    ·simp only [SV.ok];refine ⟨zLI _, fun el' gr' w' t' xs' hk => ?_⟩;rw [show slk k (h.new k fun v => .cells el v cs).l = some (.cells el h.next cs) from vN] at hk;cases hk
   ·cases e
  ·cases e
 ·cases e
def q26 (P : Program) (t : TypeId) (l : SV) (k : Nat) (h : SH) (K : SV -> SH -> zAN R) : zAN R := match zW P t, asI l with
 | some el, some (_, n) => (match szT P el, zcS P el, qDY P 8 el with
   | some (s + 1), some z, some ty => cond (kP P el && (Nat.beq z.length (s + 1) && Nat.beq ty.w (s + 1))) (match ty.zC5 z with
     | some z0 => .bind (mkN n) fun N => K (.own k h.next N) (h.new k fun v => .list el false v v ty (List.replicate N z0))
     | none => .fail) .fail
   | _, _, _ => .fail)
 | _, _ => .fail
omit [Yl] in
theorem qNT {t : Ty} {z : t.sem} : ∀ (n : Nat), ((List.replicate n z).flatMap t.cells).map PV.f = qHH n ((t.cells z).map .f)
 | 0 => rfl
 | n + 1 => by
   rw [zL7, zLF, zLQ, qNT n];simp [qHH, zL7]
theorem qZR {t : TypeId} {l : SV} {k : Nat} {K : SV -> SH -> zAN R} (ho : OkH P h) (e : (q26 P t l k h K).run = some r) :
 ∃ v h', xJ P t l.enc l.enc k (qE h.l) = some (v.enc, qE h'.l) ∧ Post P h h' v ∧ (K v h').run = some r := by
 unfold q26 at e;split at e
 ·rename_i el ki n hel hl;split at e
  ·rename_i s z ty hs hz hty;obtain ⟨e1, e⟩ := qG e;simp only [zKI] at e1;obtain ⟨q1, q2, q3⟩ := e1;split at e
   ·rename_i z0 hz0;obtain ⟨N, hN, e⟩ := run_bind e;obtain ⟨z1, z2⟩ := qBB (h := h) hz;have hw : ty.w = s + 1 := zKJ q3;have hn := kD (k := k) (f := fun v => .list el false v v ty (List.replicate N z0)) ho ⟨rfl, rfl, by rw [hs, hw], by omega⟩;refine ⟨_, _, ?_, ⟨hn.1, hn.2, vR (xs := List.replicate N z0) (by simp)⟩, e⟩;rw [yL hl];simp only [xJ, fvv, hel, decide_true, cond_true, hN, hs, z1, qW, q1, q2, zLM, qKP, SV.enc];show some (PV.own k N 0 N, (k, (⟨el, false, qHH N (qB z)⟩ : PO)) :: qE h.l) = some (PV.own k N 0 N, (k, ⟨el, false, ((List.replicate N z0).flatMap ty.cells).map PV.f⟩) :: qE h.l);rw [qNT, nM hz0]
   ·cases e
  ·cases e
 ·cases e
def q1Z (h : SH) : SV -> Bool
 | .ref k _ w => match slk k h.l with
   | some (.cells _ _ l) => Nat.beq w l.length
   | _ => false
 | .elt k g _ w _ _ => match slk k h.l with
   | some (.list _ _ g' _ t _) => Nat.beq g g' && Nat.beq w t.w
   | _ => false
 | .lp _ _ _ _ => true
 | _ => false
theorem qPN {k off w : Nat} (e : q1Z h (.ref k off w) = true) : live? k w (qE h.l) = true := by
 simp only [q1Z] at e;split at e
 ·rename_i el w' l hk;unfold live?;rw [yY hk];show Nat.beq w (qB l).length = true;rw [qW]; exact e
 ·cases e
theorem qOM {k g n w j off : Nat} (ho : (SV.elt k g n w j off).ok h) (e : q1Z h (.elt k g n w j off) = true) : live? k (n * w) (qE h.l) = true := by
 simp only [q1Z] at e;split at e
 ·rename_i el gr g' w' t xs hk;rw [zKI] at e;have hg : g = g' := zKJ e.1;have hw : w = t.w := zKJ e.2;subst hg hw;simp only [SV.ok] at ho;unfold live?;rw [yY hk];show Nat.beq (n * t.w) (SO.list el gr g w' t xs).enc.cs.length = true;rw [qV, ho.2 _ _ _ _ _ hk]; exact rO _
 ·cases e
def qM7 (n : Nat) : SV -> SV
 | .ref k off w => .ref k (off + n) w
 | .elt k g m w j off => .elt k g m w j (off + n)
 | .lp t xs j off => .lp t xs j (off + n)
 | v => v
def q95 : SV -> Bool
 | .ref _ _ _ => true
 | .elt _ _ _ _ _ _ => true
 | .lp _ _ _ _ => true
 | _ => false
omit [Yl] in
theorem qTV {n : Nat} {v : SV} (hv : v.ok h) : (qM7 n v).ok h := by
 cases v <;> simp only [qM7, SV.ok] at hv ⊢ <;> exact hv
def pV (P : Program) (t : TypeId) (x : SV) (i : Nat) (h : SH) : Option SV := match q8C P t i with
 | some (off, ft) => (match szT P ft with
   | some (_ + 1) => cond (q1Z h x) (some (qM7 off x)) none
   | _ => none)
 | none => none
theorem qFU {t : TypeId} {x v : SV} {i : Nat} (hx : x.ok h) (e : pV P t x i h = some v) : zR P t x.enc i (qE h.l) = some v.enc ∧ v.ok h := by
 unfold pV at e;unfold zR;split at e
 ·rename_i off ft hf;split at e
  ·rename_i s hs
   cases hl : q1Z h x with
   | false => rw [hl] at e; cases e
   | true =>
     rw [hl] at e;cases e;refine ⟨?_, qTV hx⟩;simp only [hf, hs]
     cases x with
     | ref k o w => simp only [SV.enc, qM7, qPN hl, cond_true]
     | elt k g n w j o => simp only [SV.enc, qM7, qOM hx hl, cond_true, zMB]
     | lp t xs j o => simp only [SV.enc, qM7, zMB]
     | _ => cases hl
  ·cases e
 ·cases e
def q9F (n : Nat) (ix : SV) (K : Nat -> zAN R) : zAN R := match ix with
 | .c (.int _ i) => (match idx n i with
   | some j => K j
   | none => .fail)
 | v => (match asI v with
   | some (_, i) => .bind (idx n i) K
   | none => .fail)
theorem q3M {n : Nat} {ix : SV} {K : Nat -> zAN R} (e : (q9F n ix K).run = some r) : ∃ k i j, ix.enc = fvv (.int k i) ∧ idx n i = some j ∧ (K j).run = some r := by
 unfold q9F at e;split at e
 ·rename_i k i;split at e
  ·rename_i j hj;exact ⟨k, i, j, by simp [SV.enc], hj, e⟩
  ·cases e
 ·split at e
  ·rename_i k i hi;obtain ⟨j, hj, e⟩ := run_bind e;exact ⟨k, i, j, yL hi, hj, e⟩
  ·cases e
def q4F (n : Nat) (ix : SV) (K K2 : Nat -> zAN R) : zAN R := match ix with
 | .c (.int _ i) => (match idx n i with
   | some j => K j
   | none => .fail)
 | v => (match asI v with
   | some (_, i) => .bind (idx n i) K2
   | none => .fail)
theorem qXW {n : Nat} {ix : SV} {K K2 : Nat -> zAN R} (e : (q4F n ix K K2).run = some r) : ∃ k i j, ix.enc = fvv (.int k i) ∧ idx n i = some j ∧ ((K j).run = some r ∨ (K2 j).run = some r) := by
 unfold q4F at e;split at e
 ·rename_i k i;split at e
  ·rename_i j hj;exact ⟨k, i, j, by simp [SV.enc], hj, .inl e⟩
  ·cases e
 ·split at e
  ·rename_i k i hi;obtain ⟨j, hj, e⟩ := run_bind e;exact ⟨k, i, j, yL hi, hj, .inr e⟩
  ·cases e
def q6T (n : Nat) : SV -> SV
 | .ref k off w => .rfx k (off + n) w
 | .elt k g m w j off => .etx k g m w j (off + n)
 | v => qM7 n v
omit [Yl] in
theorem q49 {n : Nat} {v : SV} (hv : v.ok h) : (q6T n v).ok h := by
 cases v <;> simp only [q6T, qM7, SV.ok] at hv ⊢ <;> exact hv
theorem qZY {n : Nat} {v : SV} (hv : q95 v = true) : (q6T n v).enc = (qM7 n v).enc := by
 cases v <;> first | rfl | (simp only [q6T, qM7, SV.enc])
def pE (P : Program) (t : TypeId) (x ix : SV) (h : SH) (K : SV -> zAN R) : zAN R := match x with
 | .d (.list el u) xs => (match asI ix, zW P t with
   | some (_, i), some el' => (match szT P el' with
     | some s => cond (Nat.beq s u.w) (.bind (idx (List.length xs) i) fun j => K (.lp u xs j 0)) .fail
     | none => .fail)
   | _, _ => .fail)
 | .own k g n => (match asI ix, zW P t, slk k h.l with
   | some (_, i), some el', some (.list el _ g' _ u _) => cond (Nat.beq el' el && Nat.beq g g') (.bind (idx n i) fun j => K (.elt k g n u.w j 0)) .fail
   | some (_, i), some el', some (.cells el _ cs) => (match szT P el with
     | some s => cond (Nat.beq el' el && Nat.beq (n * s) cs.length) (.bind (idx n i) fun j => K (.ref k (j * s) cs.length)) .fail
     | none => .fail)
   | _, _, _ => .fail)
 | .sl k g n o m => (match asI ix, zW P t, slk k h.l with
   | some (_, i), some el', some (.list el _ g' _ u _) => cond (Nat.beq el' el && Nat.beq g g') (.bind (idx m i) fun j => K (.elt k g n u.w (o + j) 0)) .fail
   | _, _, _ => .fail)
 | x => (match qSV P t with
   | some (n, el) => (match szT P el with
     | some s => cond (q95 x && q1Z h x) (q4F n ix (fun j => K (qM7 (j * s) x)) fun j => K (q6T (j * s) x)) .fail
     | none => .fail)
   | none => .fail)
theorem qGN {t : TypeId} {x ix : SV} {K : SV -> zAN R} (ho : OkH P h) (hx : x.ok h) (e : (pE P t x ix h K).run = some r) : ∃ v, qR P t x.enc ix.enc (qE h.l) = some v.enc ∧ v.ok h ∧ (K v).run = some r := by
 unfold pE at e;split at e
 ·rename_i el u xs;split at e
  ·rename_i k i el' hi hel;split at e
   ·rename_i s hs;obtain ⟨h1, e1⟩ := qG e;obtain ⟨j, hj, e2⟩ := run_bind e1;have hw : s = u.w := zKJ h1;subst hw;refine ⟨_, ?_, by simp [SV.ok], e2⟩;rw [yL hi];simp only [SV.enc, Ty.fv, fvv, qR, hel, hs, hj, zML]
   ·cases e
  ·cases e
 ·rename_i k g n;split at e
  ·rename_i ki i el' el gr g' w u xs hi hel hk;obtain ⟨h1, e1⟩ := qG e;obtain ⟨j, hj, e2⟩ := run_bind e1;rw [zKI] at h1;have hg : g = g' := zKJ h1.2;subst hg;simp only [SV.ok] at hx;have hn := hx.2 _ _ _ _ _ hk;have hl := ho.list _ _ _ _ _ _ _ hk;refine ⟨_, ?_, by simp only [SV.ok]; exact hx, e2⟩;rw [yL hi];simp only [SV.enc, fvv, qR, hel, yY hk]
   show (match szT P el with
    | some s => (match idx n i with
      | some j => cond (Nat.beq el' el && Nat.beq (n * s) (SO.list el gr g w u xs).enc.cs.length) (some (PV.ref k (SO.list el gr g w u xs).enc.cs.length ((0 + j) * s))) none
      | none => none)
    | none => none) = _
   rw [hl.2.1, hj];simp only [qV, hn, rO, h1.1, zLM, cond_true, zLA, zML]
  ·rename_i ki i el' el w cs hi hel hk;split at e
   ·rename_i s hs;obtain ⟨h1, e1⟩ := qG e;obtain ⟨j, hj, e2⟩ := run_bind e1;refine ⟨_, ?_, by simp [SV.ok], e2⟩;rw [yL hi];simp only [SV.enc, fvv, qR, hel, yY hk]
    show (match szT P el with
     | some s => (match idx n i with
       | some j => cond (Nat.beq el' el && Nat.beq (n * s) (qB cs).length) (some (PV.ref k (qB cs).length ((0 + j) * s))) none
       | none => none)
     | none => none) = _
    rw [hs, hj];simp only [qW, h1, cond_true, zLA]
   ·cases e
  ·cases e
 ·rename_i k g n o m;split at e
  ·rename_i ki i el' el gr g' w u xs hi hel hk;obtain ⟨h1, e1⟩ := qG e;obtain ⟨j, hj, e2⟩ := run_bind e1;rw [zKI] at h1;have hg : g = g' := zKJ h1.2;subst hg;simp only [SV.ok] at hx;have hn := hx.1.2 _ _ _ _ _ hk;have hl := ho.list _ _ _ _ _ _ _ hk;refine ⟨_, ?_, by simp only [SV.ok]; exact hx.1, e2⟩;rw [yL hi];simp only [SV.enc, fvv, qR, hel, yY hk]
   show (match szT P el with
    | some s => (match idx m i with
      | some j => cond (Nat.beq el' el && Nat.beq (n * s) (SO.list el gr g w u xs).enc.cs.length) (some (PV.ref k (SO.list el gr g w u xs).enc.cs.length ((o + j) * s))) none
      | none => none)
    | none => none) = _
   rw [hl.2.1];simp only [hj, qV, hn, rO, h1.1, zLM, cond_true, zML]
  ·cases e
 ·split at e
  ·rename_i n el ha;split at e
   ·rename_i s hs;obtain ⟨h1, e⟩ := qG e;rw [zKI] at h1;obtain ⟨ki, i, j, hi, hj, e⟩ := qXW e
    obtain ⟨v, hv1, hv2, e⟩ : ∃ v : SV, v.enc = (qM7 (j * s) x).enc ∧ v.ok h ∧ (K v).run = some r := by
     rcases e with e | e
     ·exact ⟨_, rfl, qTV hx, e⟩
     ·exact ⟨_, qZY h1.1, q49 hx, e⟩
    refine ⟨_, ?_, hv2, e⟩;rw [hi, hv1]
    cases x with
    | ref k o w => simp only [SV.enc, qM7, fvv, qR, ha, hs, hj, qPN h1.2, cond_true]
    | elt k g n w j o => simp only [SV.enc, qM7, fvv, qR, ha, hs, hj, qOM hx h1.2, cond_true, zMB]
    | lp t xs j o => simp only [SV.enc, qM7, fvv, qR, ha, hs, hj, zMB]
    | _ => cases h1.1
   ·cases e
  ·cases e
def qSM (P : Program) (t : TypeId) (x ix : SV) (K : SV -> zAN R) : zAN R := match qSV P t, x with
 | some (n, el), .agg l => (match szT P el with
   | some s => q9F n ix fun j => match qEN P el l (j * s) with
     | some v => K v
     | none => .fail
   | none => .fail)
 | _, _ => .fail
theorem qUE {t : TypeId} {x ix : SV} {K : SV -> zAN R} (hx : x.ok h) (e : (qSM P t x ix K).run = some r) : ∃ v, qC4 P t x.enc ix.enc = some v.enc ∧ v.ok h ∧ (K v).run = some r ∧ ∃ l, x = .agg l := by
 unfold qSM at e;split at e
 ·rename_i n el l ha;split at e
  ·rename_i s hs;obtain ⟨ki, i, j, hi, hj, e⟩ := q3M e;split at e
   ·rename_i v hv;obtain ⟨h1, h2⟩ := qFS (h := h) hv;simp only [SV.ok] at hx;refine ⟨v, ?_, h2 hx, e, l, rfl⟩;rw [hi];simp only [qC4, ha, SV.enc, fvv, hs, hj];exact h1
   ·cases e
  ·cases e
 ·cases e
def qE4 (v : SV) (i : Nat) : Option SV := match v with
 | .tup l => (match zH l i with
   | some x => cond (pnt x.enc) (some x) none
   | none => none)
 | _ => none
theorem qMG {x v : SV} {i : Nat} (hx : x.ok h) (e : qE4 x i = some v) : cB x.enc i = some v.enc ∧ v.ok h := by
 unfold qE4 at e;split at e
 ·rename_i l;split at e
  ·rename_i y hy
   cases hp : pnt y.enc with
   | false => rw [hp] at e; cases e
   | true =>
     rw [hp] at e;cases e;simp only [SV.ok] at hx;refine ⟨?_, eX hx hy⟩;simp only [cB, SV.enc, zK, hy, zKU, hp, cond_true]
  ·cases e
 ·cases e
def qBZ (fn : Fn) (first cap : List SV) : Option SV := match fn with
 | .func g => some (match first, cap with
   | [], [] => .c (.func (.func g) #[] #[])
   | _, _ => .fn g first cap)
 | _ => none
theorem qH1 {fn : Fn} {first cap : List SV} {v : SV} (h1 : okL h first) (h2 : okL h cap) (e : qBZ fn first cap = some v) : jY fn (qB first) (qB cap) = some v.enc ∧ v.ok h := by
 unfold qBZ at e;split at e
 ·rename_i g;cases e
  cases first with
  | nil => cases cap with
    | nil => exact ⟨by simp [jY, qB, SV.enc], by simp [SV.ok]⟩
    | cons x l => exact ⟨by simp [jY, qB, SV.enc], by simp only [SV.ok]; exact ⟨h1, h2⟩⟩
  | cons y l => exact ⟨by simp [jY, qB, SV.enc], by simp only [SV.ok]; exact ⟨h1, h2⟩⟩
 ·cases e
end
end Go.Sv
namespace Go.Sv
open Go.Idl
variable {el : TypeId} {k : Nat} {t : Ty} {x : SV}
noncomputable section
variable [Gc]
variable [Yl]
variable {P : Program} {h : SH} {R : Type} {r : R}
def q81 (P : Program) (ts : Array TypeId) (x : SV) (h : SH) : Option SV := match ts[0]? with
 | some t => (match zW P t with
   | some _ => (match x with
     | .d (.list _ _) xs => some (.d (.int .i64) ((List.length xs : Nat) : Int))
     | .c (.slice _ n _) => some (.c (.int .i64 (n : Int)))
     | .own k g n => (match slk k h.l with
       | some (.list _ _ g' _ _ _) => cond (Nat.beq g g') (some (.d (.int .i64) (n : Int))) none
       | some (.cells el _ cs) => (match szT P el with
         | some s => cond (Nat.beq (n * s) cs.length) (some (.c (.int .i64 (n : Int)))) none
         | none => none)
       | _ => none)
     | .sl k g _ _ m => (match slk k h.l with
       | some (.list _ _ g' _ _ _) => cond (Nat.beq g g') (some (.d (.int .i64) (m : Int))) none
       | _ => none)
     | _ => none)
   | none => (match qSV P t with
     | some (n, _) => some (.c (.int .i64 (n : Int)))
     | none => none))
 | none => none
theorem q1X {ts : Array TypeId} {v : SV} (ho : OkH P h) (hx : x.ok h) (e : q81 P ts x h = some v) : qX4 P ts x.enc (qE h.l) = some v.enc ∧ v.ok h := by
 unfold q81 at e;unfold qX4;split at e
 ·rename_i t ht;split at e
  ·rename_i el hel;split at e
   ·rename_i el' u xs;cases e;simp [ht, hel, SV.enc, Ty.fv, fvv, SV.ok]
   ·rename_i a n c;cases e;simp [ht, hel, SV.enc, fvv, SV.ok]
   ·rename_i k g n;split at e
    ·rename_i el' gr g' w u xs hk
     obtain ⟨h1, e1⟩ : Nat.beq g g' = true ∧ some (SV.d (.int .i64) (n : Int)) = some v := by
      cases hb : Nat.beq g g' with
      | false => rw [hb] at e; cases e
      | true => rw [hb] at e; exact ⟨rfl, e⟩
     cases e1;have hg : g = g' := zKJ h1;subst hg;simp only [SV.ok] at hx;have hn := hx.2 _ _ _ _ _ hk;have hl := ho.list _ _ _ _ _ _ _ hk;refine ⟨?_, by simp [SV.ok]⟩;simp only [ht, hel, SV.enc, yY hk]
     show (match szT P el' with
      | some s => cond (Nat.beq (n * s) (SO.list el' gr g w u xs).enc.cs.length) (some (fvv (.int .i64 (n : Int)))) none
      | none => none) = _
     rw [hl.2.1];simp only [qV, hn, rO, cond_true, Ty.fv, fvv]
    ·rename_i el' w cs hk;split at e
     ·rename_i s hs
      cases hb : Nat.beq (n * s) cs.length with
      | false => rw [hb] at e; cases e
      | true =>
        rw [hb] at e;cases e;refine ⟨?_, by simp [SV.ok]⟩;simp only [ht, hel, SV.enc, yY hk]
        show (match szT P el' with
         | some s => cond (Nat.beq (n * s) (qB cs).length) (some (fvv (.int .i64 (n : Int)))) none
         | none => none) = _
        rw [hs];simp only [qW, hb, cond_true]
     ·cases e
    ·cases e
   ·rename_i k g n o m;split at e
    ·rename_i el' gr g' w u xs hk
     obtain ⟨h1, e1⟩ : Nat.beq g g' = true ∧ some (SV.d (.int .i64) (m : Int)) = some v := by
      cases hb : Nat.beq g g' with
      | false => rw [hb] at e; cases e
      | true => rw [hb] at e; exact ⟨rfl, e⟩
     cases e1;have hg : g = g' := zKJ h1;subst hg;simp only [SV.ok] at hx;have hn := hx.1.2 _ _ _ _ _ hk;have hl := ho.list _ _ _ _ _ _ _ hk;refine ⟨?_, by simp [SV.ok]⟩;simp only [ht, hel, SV.enc, yY hk]
     show (match szT P el' with
      | some s => cond (Nat.beq (n * s) (SO.list el' gr g w u xs).enc.cs.length) (some (fvv (.int .i64 (m : Int)))) none
      | none => none) = _
     rw [hl.2.1];simp only [qV, hn, rO, cond_true, Ty.fv, fvv]
    ·cases e
   ·cases e
  ·rename_i hel;split at e
   ·rename_i n el ha;cases e;simp [ht, hel, ha, SV.enc, SV.ok]
   ·cases e
 ·cases e
def qFE (u t : Ty) (xs : List u.sem) : Option (List t.sem) := if e : u = t then some (e ▸ xs) else none
omit [Yl] in
theorem nO {u : Ty} {xs : List u.sem} {ys : List t.sem} (e : qFE u t xs = some ys) : (⟨u, xs⟩ : (t : Ty) × List t.sem) = ⟨t, ys⟩ := by
 unfold qFE at e;split at e
 ·rename_i h;subst h;cases e;rfl
 ·cases e
def qXO (t : Ty) (x : SV) (h : SH) : Option (List t.sem) := match x with
 | .d (.list _ u) xs => qFE u t xs
 | .c (.slice none 0 _) => some []
 | .own k g _ => (match slk k h.l with
   | some (.list _ _ g' _ u xs) => cond (Nat.beq g g') (qFE u t xs) none
   | _ => none)
 | .sl k g _ o m => (match slk k h.l with
   | some (.list _ _ g' _ u xs) => cond (Nat.beq g g') (match qFE u t xs with
     | some xs => some ((xs.drop o).take m)
     | none => none) none
   | _ => none)
 | _ => none
theorem qYV {ys : List t.sem} (ho : OkH P h) (hx : x.ok h) (e : qXO t x h = some ys) : rZ P t.w x.enc (qE h.l) = some (ys.length, (ys.flatMap t.cells).map .f) := by
 unfold qXO at e;unfold rZ;split at e
 ·rename_i el u xs;cases nO e;simp only [SV.enc, Ty.fv, yR, rO, cond_true]
 ·cases e;simp [SV.enc, fvv]
 ·rename_i k g n;split at e
  ·rename_i el gr g' w u xs hk
   cases hb : Nat.beq g g' with
   | false => rw [hb] at e; cases e
   | true =>
     rw [hb] at e;have hg : g = g' := zKJ hb;subst hg;cases nO e;simp only [SV.ok] at hx;have hn := hx.2 _ _ _ _ _ hk;have hl := ho.list _ _ _ _ _ _ _ hk;simp only [SV.enc, yY hk]
     show (match szT P el with
      | some s' => cond (Nat.beq (n * s') (SO.list el gr g w t ys).enc.cs.length && Nat.beq t.w s') (some (n, (((ys.flatMap t.cells).map PV.f).drop (0 * t.w)).take (n * t.w))) none
      | none => none) = _
     rw [hl.2.1];simp only [qV, hn, rO, zLM, cond_true, zOH, zM0];rw [zLN (by rw [zK2, yR]; exact zKK _)]
  ·cases e
 ·rename_i k g n o m;split at e
  ·rename_i el gr g' w u xs hk
   cases hb : Nat.beq g g' with
   | false => rw [hb] at e; cases e
   | true =>
     rw [hb] at e;have hg : g = g' := zKJ hb;subst hg;simp only [cond_true] at e;split at e
     case h_2 => cases e
     rename_i xs2 zIB;cases e;cases nO zIB;simp only [SV.ok] at hx;have hn := hx.1.2 _ _ _ _ _ hk;have hl := ho.list _ _ _ _ _ _ _ hk;simp only [SV.enc, yY hk]
     show (match szT P el with
      | some s' => cond (Nat.beq (n * s') (SO.list el gr g w t xs2).enc.cs.length && Nat.beq t.w s') (some (m, (((xs2.flatMap t.cells).map PV.f).drop (o * t.w)).take (m * t.w))) none
      | none => none) = _
     rw [hl.2.1];simp only [qV, hn, rO, zLM, cond_true];rw [<- zMW, <- zMX, aJ, oO]
     congr 1
     have := hx.2;rw [zLZ, zMZ, zMK (by omega)]
  ·cases e
 ·cases e
omit [Yl] in
theorem qST (ys : List t.sem) : ((ys.flatMap t.cells).map PV.f).all eT = true := by
 rw [zKL];intro x hx;obtain ⟨y, _, rfl⟩ := zLC.1 hx;rfl
omit [Yl] in
theorem qE6 {h0 : SH} {gr : Bool} {n m : Nat} {ty : Ty} {xs ys : List ty.sem} (hn : n = xs.length) (hm : m = ys.length) : (SV.own k h0.next (n + m)).ok (h0.new k fun v => .list el gr v v ty (xs ++ ys)) :=
 vR (by rw [zK6, hn, hm])
def qM2 (P : Program) (ts : List TypeId) (base x : SV) (k : Nat) (h : SH) (K : SV -> SH -> zAN R) : zAN R := match ts with
 | [st, xt] => (match zW P st, zW P xt with
   | some el, some _ => (match szT P el, qDY P 8 el with
     | some (s + 1), some t => cond (Nat.beq t.w (s + 1) && kP P el) (match qXO t x h with
       | some ys => (match base with
         | .c (.slice none 0 0) => .ite (Nat.beq ys.length 0) (K base h)
            (.ite (Nat.ble (0 + ys.length) 1048576) (K (.own k h.next (0 + ys.length)) (h.new k fun v => .list el true v v t ([] ++ ys))) .fail)
         | .own j g n => (match slk j h.l with
           | some (.list el' gr g' _ u xs) => cond (Nat.beq el' el && Nat.beq g g') (match qFE u t xs with
             | some xs => .ite (Nat.beq ys.length 0) (K base h)
                (.ite (Nat.ble (n + ys.length) 1048576) (cond gr (K (.own j h.next (n + ys.length)) ((h.del j).new j fun v => .list el true v v t (xs ++ ys))) (K (.own k h.next (n + ys.length)) (h.new k fun v => .list el true v v t (xs ++ ys)))) .fail)
             | none => .fail) .fail
           | _ => .fail)
         | _ => .fail)
       | none => .fail) .fail
     | _, _ => .fail)
   | _, _ => .fail)
 | _ => .fail
omit [Yl] in
theorem qF7 {xs ys : List t.sem} {ph : PHp} (h1 : Nat.ble (xs.length + ys.length) 1048576 = true) (h2 : kP P el = true) :
 mU P el t.w ((xs.flatMap t.cells).map .f) xs.length ((ys.flatMap t.cells).map .f) ys.length k ph = some (.own k (xs.length + ys.length) 0 (xs.length + ys.length), (k, ⟨el, true, ((xs ++ ys).flatMap t.cells).map .f⟩) :: ph) := by
 unfold mU;rw [h1, h2, zK2, yR, zK2, yR, qST];simp only [rO, zLM, cond_true, qKP];rw [zNV, zLQ]
theorem qRD {ts : List TypeId} {base : SV} {K : SV -> SH -> zAN R} (ho : OkH P h) (hb : base.ok h) (hx : x.ok h) (e : (qM2 P ts base x k h K).run = some r) :
 ∃ v h', yB P ts base.enc x.enc k (qE h.l) = some (v.enc, qE h'.l) ∧ Post P h h' v ∧ (K v h').run = some r := by
 unfold qM2 at e;split at e
 ·rename_i st xt;split at e
  ·rename_i el el2 hel zFW;split at e
   ·rename_i s t hs hty;have e_ := qG e;clear e;obtain ⟨c1, e⟩ := e_;rw [zKI] at c1;have hw : s + 1 = t.w := (zKJ c1.1).symm;split at e
    ·rename_i ys hys;have hnw := qYV ho hx hys;split at e
     ·have e_ := run_ite e;clear e
      rcases e_ with ⟨z, e⟩ | ⟨z, e⟩
      ·refine ⟨_, _, ?_, ⟨.refl _, ho, hb⟩, e⟩;simp only [yB, hel, zFW, hs, SV.enc, fvv];rw [hw, hnw];simp only [z, cond_true]
      ·have e_ := run_ite e;clear e
       rcases e_ with ⟨z2, e⟩ | ⟨z2, e⟩
       ·have hn := kD (k := k) (f := fun v => .list el true v v t ([] ++ ys)) ho ⟨rfl, rfl, by rw [hs]; exact congrArg some hw, by omega⟩;refine ⟨_, _, ?_, ⟨hn.1, hn.2, qE6 (xs := []) rfl rfl⟩, e⟩;simp only [yB, hel, zFW, hs, SV.enc, fvv];rw [hw, hnw];simp only [z, cond_false];exact qF7 (xs := []) z2 c1.2
       ·cases e
     ·rename_i j g n;split at e
      ·rename_i el' gr g' w u xs0 hk;have e_ := qG e;clear e;obtain ⟨c2, e⟩ := e_;rw [zKI] at c2;have he : el' = el := zKJ c2.1;have hg : g = g' := zKJ c2.2;split at e
       ·rename_i xs hxs;have hcast := nO hxs
        have hk2 : slk j h.l = some (.list el gr g w t xs) := by
         rw [hk, he, <- hg];cases hcast;rfl
        have hnl : n = xs.length := by
         simp only [SV.ok] at hb;exact hb.2 _ _ _ _ _ hk2
        have pre : ∀ z : PV × PHp, (cond (Nat.beq ys.length 0) (some (PV.own j n 0 n, qE h.l))
         (cond (Nat.ble (n + ys.length) n) (cond (Nat.beq ((ys.flatMap t.cells).map PV.f).length (ys.length * (s + 1)) && ((ys.flatMap t.cells).map PV.f).all eT) (some (PV.own j n 0 (n + ys.length), kU j { (SO.list el gr g w t xs).enc with cs := kM (SO.list el gr g w t xs).enc.cs (n * (s + 1)) ((ys.flatMap t.cells).map PV.f) } (qE h.l))) none)
           (cond gr (mU P el (s + 1) (SO.list el gr g w t xs).enc.cs n ((ys.flatMap t.cells).map PV.f) ys.length j (tF j (qE h.l))) (mU P el (s + 1) (SO.list el gr g w t xs).enc.cs n ((ys.flatMap t.cells).map PV.f) ys.length k (qE h.l))))) = some z ->
         yB P [st, xt] (SV.own j g n).enc x.enc k (qE h.l) = some z := fun z hz => by
         simp only [yB, hel, zFW, hs, SV.enc];rw [show rZ P (s + 1) x.enc (qE h.l) = _ from (hw ▸ hnw)];simp only [yY hk2];rw [show (SO.list el gr g w t xs).enc.el = el from rfl, show Nat.beq (n * (s + 1)) (SO.list el gr g w t xs).enc.cs.length = true by rw [qV, hw, hnl]; exact rO _];simp only [rO, zLM, cond_true];exact hz
        have e_ := run_ite e;clear e
        rcases e_ with ⟨z, e⟩ | ⟨z, e⟩
        ·refine ⟨_, _, pre _ ?_, ⟨.refl _, ho, hb⟩, e⟩;rw [z]; simp [SV.enc]
        ·have e_ := run_ite e;clear e
         rcases e_ with ⟨z2, e⟩ | ⟨z2, e⟩
         ·have hpos : Nat.ble (n + ys.length) n = false := by
           cases hq : Nat.ble (n + ys.length) n with
           | false => rfl
           | true =>
             have h0 := zKS hq;have : ys.length = 0 := by omega
             rw [this] at z;cases z
          cases hgr : gr with
          | true =>
            rw [hgr] at e;have hd := eG (k := j) ho;have hn := kD (h := h.del j) (k := j) (f := fun v => .list el true v v t (xs ++ ys)) hd.2 ⟨rfl, rfl, by rw [hs]; exact congrArg some hw, by omega⟩;refine ⟨_, _, pre _ ?_, ⟨hd.1.trans hn.1, hn.2, qE6 (h0 := h.del j) hnl rfl⟩, e⟩;rw [z, hpos, hgr];simp only [cond_true, cond_false];rw [hw, hnl];rw [hnl] at z2;rw [show (SO.list el true g w t xs).enc.cs = (xs.flatMap t.cells).map .f from rfl, qF7 z2 c1.2, <- nQ];rfl
          | false =>
            rw [hgr] at e;have hn := kD (h := h) (k := k) (f := fun v => .list el true v v t (xs ++ ys)) ho ⟨rfl, rfl, by rw [hs]; exact congrArg some hw, by omega⟩;refine ⟨_, _, pre _ ?_, ⟨hn.1, hn.2, qE6 (h0 := h) hnl rfl⟩, e⟩;rw [z, hpos, hgr];simp only [cond_false];rw [hw, hnl];rw [hnl] at z2;rw [show (SO.list el false g w t xs).enc.cs = (xs.flatMap t.cells).map .f from rfl, qF7 z2 c1.2];rfl
         ·cases e
       ·cases e
      ·cases e
     ·cases e
    ·cases e
   ·cases e
  ·cases e
 ·cases e
end
end Go.Sv
namespace Go.Sv
open Go.Idl
noncomputable section
variable [Gc]
variable [Yl]
variable {P : Program} {h : SH} {R : Type} {r : R}
def q96 {α : Type} (xs ys : List α) (o c : Nat) : List α := xs.take o ++ (ys.take c ++ xs.drop (o + c))
def zAK (P : Program) (ts : List TypeId) (base x : SV) (h : SH) (K : SV -> SH -> zAN R) : zAN R := match ts with
 | [st, xt] => (match zW P st, zW P xt with
   | some el, some _ => (match szT P el, qDY P 8 el with
     | some (s + 1), some t => cond (Nat.beq t.w (s + 1)) (match qXO t x h with
       | some ys => (match base with
         | .own j g n => (match slk j h.l with
           | some (.list el' gr g' _ u xs) => cond (Nat.beq el' el && Nat.beq g g') (match qFE u t xs with
             | some xs => K (.d (.int .i64) ((Nat.min ys.length n : Nat) : Int)) (h.put j fun v => .list el gr g v t (q96 xs ys 0 (Nat.min ys.length n)))
             | none => .fail) .fail
           | _ => .fail)
         | .sl j g n o m => (match slk j h.l with
           | some (.list el' gr g' _ u xs) => cond (Nat.beq el' el && Nat.beq g g') (match qFE u t xs with
             | some xs => K (.d (.int .i64) ((Nat.min ys.length m : Nat) : Int)) (h.put j fun v => .list el gr g v t (q96 xs ys o (Nat.min ys.length m)))
             | none => .fail) .fail
           | _ => .fail)
         | .d (.list _ _) xs => .ite (Nat.beq (List.length xs) 0) (K (.d (.int .i64) 0) h) .fail
         | .c (.slice none 0 _) => K (.d (.int .i64) 0) h
         | _ => .fail)
       | none => .fail) .fail
     | _, _ => .fail)
   | _, _ => .fail)
 | _ => .fail
def q0L (most : Nat) (i : Int) : Option Nat := if 0 <= i ∧ i <= (most : Int) then some i.toNat else none
def qRN (d most : Nat) (x : Option SV) (K : Nat -> zAN R) : zAN R := match x with
 | none => K d
 | some v => (match asI v with
   | some (_, i) => .bind (q0L most i) K
   | none => .fail)
theorem uH {d most : Nat} {x : Option SV} {K : Nat -> zAN R} (e : (qRN d most x K).run = some r) : ∃ n, bnd d most (x.map SV.enc) = some n ∧ (n = d ∨ n <= most) ∧ (K n).run = some r := by
 unfold qRN at e;split at e
 ·exact ⟨d, rfl, .inl rfl, e⟩
 ·rename_i v;split at e
  ·rename_i k i hi;have e_ := run_bind e;clear e;obtain ⟨n, hn, e⟩ := e_;refine ⟨n, ?_, .inr ?_, e⟩
   ·simp only [zKU, yL hi, fvv, bnd]; exact hn
   ·unfold q0L at hn;split at hn
    ·cases hn; omega
    ·cases hn
  ·cases e
def qRX (P : Program) (t : TypeId) (x : SV) (lo hi : Option SV) (h : SH) (K : SV -> zAN R) : zAN R := match x with
 | .d (.list el u) xs => (match zW P t, szT P el with
   | some el', some s => cond (Nat.beq el' el && Nat.beq s u.w) (qRN (List.length xs) (List.length xs) hi fun b => qRN 0 b lo fun a => K (.d (.list el u) ((List.drop a xs).take (b - a)))) .fail
   | _, _ => .fail)
 | .c (.slice none 0 0) => (match zW P t with
   | some el => cond (szT P el).isSome (qRN 0 0 hi fun _ => qRN 0 0 lo fun _ => K x) .fail
   | none => .fail)
 | .own k g n => (match zW P t, slk k h.l with
   | some el', some (.list el _ g' _ u _) => cond (Nat.beq el' el && Nat.beq g g') (qRN n n hi fun b => qRN 0 b lo fun a =>
      .ite (Nat.beq a 0) (K (.sl k g n 0 b)) (.ite (Nat.beq a b) (K (.d (.list el u) [])) (K (.sl k g n a (b - a))))) .fail
   | _, _ => .fail)
 | .sl k g n o m => (match zW P t, slk k h.l with
   | some el', some (.list el _ g' _ u _) => cond (Nat.beq el' el && Nat.beq g g') (qRN m m hi fun b => qRN 0 b lo fun a =>
      .ite (Nat.beq a 0) (K (.sl k g n o b)) (.ite (Nat.beq a b) (K (.d (.list el u) [])) (K (.sl k g n (o + a) (b - a))))) .fail
   | _, _ => .fail)
 | _ => .fail
theorem qWH {t : TypeId} {x : SV} {lo hi : Option SV} {K : SV -> zAN R} (ho : OkH P h) (hx : x.ok h) (e : (qRX P t x lo hi h K).run = some r) :
 ∃ v, wX P t x.enc (lo.map SV.enc) (hi.map SV.enc) (qE h.l) = some v.enc ∧ v.ok h ∧ (K v).run = some r := by
 unfold qRX at e
 have key : ∀ {k g n o m w : Nat} {gr : Bool} {el el' : TypeId} {u : Ty} {xs : List u.sem}, slk k h.l = some (.list el gr g w u xs) -> n = xs.length -> o + m <= n -> g < h.next -> zW P t = some el' -> Nat.beq el' el = true ->
  ∀ a b, bnd m m (hi.map SV.enc) = some b -> b <= m -> bnd 0 b (lo.map SV.enc) = some a -> a <= b ->
  (zAN.ite (Nat.beq a 0) (K (.sl k g n o b)) (.ite (Nat.beq a b) (K (.d (.list el u) [])) (K (.sl k g n (o + a) (b - a))))).run = some r ->
  ∃ v, wX P t (.own k n o m) (lo.map SV.enc) (hi.map SV.enc) (qE h.l) = some v.enc ∧ v.ok h ∧ (K v).run = some r := by
  intro k g n o m w gr el el' u xs hk hn hom hg hel hbe a b hb hbm ha hab e;have hl := ho.list _ _ _ _ _ _ _ hk
  have pre : wX P t (.own k n o m) (lo.map SV.enc) (hi.map SV.enc) (qE h.l) = some (cond (Nat.beq a 0) (.own k n o b) (cond (Nat.beq a b) (.f (.l el 0 [])) (.own k n (o + a) (b - a)))) := by
   simp only [wX, yY hk, hel];rw [show (SO.list el gr g w u xs).enc.el = el from rfl, hl.2.1, hb];simp only [ha, qV, hn, rO, hbe, zLM, cond_true]
  have hsl : qXP h k g n := ⟨hg, fun el2 gr2 w2 t2 xs2 hk2 => by
   rw [hk] at hk2;cases hk2
   exact hn⟩
  rw [pre]
  rcases run_ite e with ⟨z, e⟩ | ⟨z, e⟩
  ·exact ⟨_, by rw [z]; simp [SV.enc], by simp only [SV.ok]; exact ⟨hsl, by omega⟩, e⟩
  ·rcases run_ite e with ⟨z2, e⟩ | ⟨z2, e⟩
   ·exact ⟨_, by rw [z, z2]; simp [SV.enc, Ty.fv], by simp [SV.ok], e⟩
   ·exact ⟨_, by rw [z, z2]; simp [SV.enc], by simp only [SV.ok]; exact ⟨hsl, by omega⟩, e⟩
 split at e
 ·rename_i el u xs;split at e
  ·rename_i el' s hel hs;have e_ := qG e;clear e;obtain ⟨c1, e⟩ := e_;rw [zKI] at c1;have hw : s = u.w := zKJ c1.2;have he : el' = el := zKJ c1.1;subst hw he;obtain ⟨b, hb, hb2, e1⟩ := uH e;obtain ⟨a, ha, ha2, e2⟩ := uH e1;have hbl : b <= xs.length := by rcases hb2 with q | q <;> omega
   have hab : a <= b := by rcases ha2 with q | q <;> omega
   refine ⟨_, ?_, by simp [SV.ok], e2⟩;simp only [SV.enc, Ty.fv, wX, hel, hs, hb, ha, rO, yR, zLM, cond_true];rw [aJ, oO]
   cases hq : Nat.beq a b with
   | true =>
     have : a = b := zKJ hq;subst this;simp
   | false =>
     simp only [cond_false, zLZ, zMZ];rw [zMK (by omega)]
  ·cases e
 ·split at e
  ·rename_i el hel;have e_ := qG e;clear e;obtain ⟨c1, e⟩ := e_;obtain ⟨b, hb, hb2, e1⟩ := uH e;obtain ⟨a, ha, ha2, e2⟩ := uH e1;refine ⟨_, ?_, by simp [SV.ok], e2⟩;have hb' : bnd 0 0 (hi.map SV.enc) = some b := hb;simp only [SV.enc, fvv, wX, hel, hb', ha, c1, cond_true]
  ·cases e
 ·rename_i k g n;split at e
  ·rename_i el' el gr g' w u xs hel hk;have e_ := qG e;clear e;obtain ⟨c1, e⟩ := e_;rw [zKI] at c1;have hg : g = g' := zKJ c1.2;subst hg;obtain ⟨b, hb, hb2, e1⟩ := uH e;obtain ⟨a, ha, ha2, e2⟩ := uH e1;simp only [SV.ok] at hx;refine key hk (hx.2 _ _ _ _ _ hk) (by omega) hx.1 hel c1.1 a b hb (by rcases hb2 with q | q <;> omega) ha (by rcases ha2 with q | q <;> omega) ?_;rw [zLA]; exact e2
  ·cases e
 ·rename_i k g n o m;split at e
  ·rename_i el' el gr g' w u xs hel hk;have e_ := qG e;clear e;obtain ⟨c1, e⟩ := e_;rw [zKI] at c1;have hg : g = g' := zKJ c1.2;subst hg;obtain ⟨b, hb, hb2, e1⟩ := uH e;obtain ⟨a, ha, ha2, e2⟩ := uH e1;simp only [SV.ok] at hx;exact key hk (hx.1.2 _ _ _ _ _ hk) hx.2 hx.1.1 hel c1.1 a b hb (by rcases hb2 with q | q <;> omega) ha (by rcases ha2 with q | q <;> omega) e2
  ·cases e
 ·cases e
end
end Go.Sv
namespace Go.Sv
open Go.Idl
variable [Gc]
variable {P : Program} {t t2 : TypeId} {a b : ByteArray} {ph : PHp}
theorem bH {v : Value} (h3 : qHI v = true) (h4 : ofC v = fvv v) : qV0 (qBJ H00 v) = some (fvv v) := by
 unfold qBJ;rw [h3];show some (ofC v) = _;rw [h4]
theorem qK8 {op : BinOp} {v : Value} (h1 : zA3 P (cop (.binOp op t (.const (.string a)) (.const (.string b)) t2)) op t (.string a) (.string b) [] H00 = kK P (cop (.binOp op t (.const (.string a)) (.const (.string b)) t2)) [] H00)
 (h2 : zX P (execOp (Env.val []) (cop (.binOp op t (.const (.string a)) (.const (.string b)) t2))) = some (.value v)) (h3 : qHI v = true) (h4 : ofC v = fvv v) : vZ P op t t2 (fvv (.string a)) (fvv (.string b)) ph = some (fvv v) := by
 unfold vZ;simp only [fvv, pl, q8J, cond_false];show qV0 (zA3 P _ op t (.string a) (.string b) [] H00) = _;rw [h1];unfold kK;have : zO (kG (Env.val []) (cop (.binOp op t (.const (.string a)) (.const (.string b)) t2)).op.operands.toList) = true := rfl;rw [if_pos this, h2];exact bH h3 h4
theorem q30 (hl : a.size + b.size <= 9223372036854775807) : vZ P .add t t2 (fvv (.string a)) (fvv (.string b)) ph = some (fvv (.string (a ++ b))) := by
 refine qK8 rfl ?_ rfl rfl;have hm : IntKind.i64.max = 9223372036854775807 := rfl;have : ¬ (((a.size + b.size : Nat) : Int) > IntKind.i64.max) := by rw [hm]; omega
 show zX P (do eqGuard .add t (.const (.string a)) (.const (.string b)) (.string a) (.string b); let v <- Op.stringOp .add a b; pure (Next.value v)) = _;unfold Op.stringOp;simp only [this, if_false];rfl
theorem q1T : vZ P .eql t t2 (fvv (.string a)) (fvv (.string b)) ph = some (fvv (.bool (a.toList == b.toList))) := qK8 rfl rfl rfl rfl
theorem q37 : vZ P .neq t t2 (fvv (.string a)) (fvv (.string b)) ph = some (fvv (.bool (!(a.toList == b.toList)))) := qK8 rfl rfl rfl rfl
theorem dB {α β : Type} (s : Sem α) (g : α -> Sem β) : zX P (s >>= g) = (zX P s).bind fun a => zX P (g a) := kN g s
theorem dP {α : Type} (a : α) : zX P (pure a : Sem α) = some a := rfl
theorem qZF {ts : Array TypeId} (hs : qWU P ts = true) : ∃ t, ts[0]? = some t ∧ P.underlying t = some .string := by
 unfold qWU at hs
 cases h0 : ts[0]? with
 | none => rw [h0] at hs; cases hs
 | some t =>
   rw [h0] at hs;simp only [zK0] at hs;split at hs
   ·rename_i hq; exact ⟨t, rfl, hq⟩
   ·cases hs
theorem q5Y {t : TypeId} {ts : Array TypeId} {ty : TypeId} (h0 : ts[0]? = some t) (hu : P.underlying t = some .string) : zX P (Go.Builtin.len_ ts ty #[.string a]) = some (goInt a.size) := by
 unfold Go.Builtin.len_;simp only [h0, dB, zV, hu, zK0, zMO, zK8];rfl
theorem qOW {x : Operand} {ts : Array TypeId} {ty : TypeId} {env : Env} (hs : qWU P ts = true) (hx : env.val x = .string a) :
 qV0 (kK P (cop (.call ⟨.builtin .len, #[x], ts⟩) ty) env H00) = some (fvv (.int .i64 (a.size : Int))) := by
 have h2 : kG env.val (cop (.call ⟨.builtin .len, #[x], ts⟩) ty).op.operands.toList = [env.val x] := rfl;unfold kK;rw [h2];obtain ⟨t, h0, hu⟩ := qZF hs;have hp : zO [env.val x] = true := by rw [hx]; rfl
 rw [if_pos hp]
 have he : zX P (execOp env.val (cop (.call ⟨.builtin .len, #[x], ts⟩) ty)) = some (.value (goInt a.size)) := by
  simp only [cop, execOp, resolve, List.map_toArray, zKZ, zMU, hx];show zX P (do let v <- Go.Builtin.len_ ts ty #[.string a]; pure (Next.value v)) = _;rw [dB, q5Y h0 hu]; rfl
 rw [he];exact bH rfl rfl
def qXQ (s : ByteArray) (i : Int) : Option Int := if 0 <= i then (s[i.toNat]?).map fun b => (b.toNat : Int) else none
theorem qY7 {t : TypeId} {s : ByteArray} {k : IntKind} {i c : Int} {ty : TypeId} (hu : P.underlying t = some .string) (h : qXQ s i = some c) : qLC P (.index t (.const (.string s)) (.const (.int k i))) ty = some (fvv (.int .u8 c)) := by
 unfold qLC kK;have hp : zO (kG (Env.val []) (cop (.index t (.const (.string s)) (.const (.int k i))) ty).op.operands.toList) = true := rfl;rw [if_pos hp]
 have he : zX P (execOp (Env.val []) (cop (.index t (.const (.string s)) (.const (.int k i))) ty)) = some (.value (.int .u8 c)) := by
  show zX P (do let v <- Instr.index t (.string s) (.int k i); pure (Next.value v)) = _;unfold qXQ at h;split at h
  ·rename_i hc;obtain ⟨b, hb, rfl⟩ := zKR.1 h;unfold Instr.index;simp only [dB, zV, hu, zK0];have h0 : zX P (asIntOf (.int k i)) = some (k, i) := rfl;rw [h0];simp only [zK0, if_pos hc, hb, dP]
  ·cases h
 rw [he];exact bH rfl rfl
theorem tL {k : IntKind} {i : Int} {y n : Nat} {code : BoundsCode} (h : (if 0 <= i ∧ i <= (y : Int) then some i.toNat else none) = some n) : zX P (Instr.sliceBound (.int k i) y code) = some n := by
 unfold Instr.sliceBound;rw [dB];have h0 : zX P (asIntOf (.int k i)) = some (k, i) := rfl;rw [h0];simp only [zK0];split at h
 ·rename_i hc;rw [if_pos hc];cases h; rfl
 ·cases h
theorem qUL {d most n : Nat} {x : Option PV} (h : bnd d most x = some n) : (x = none ∧ n = d) ∨ ∃ k i, x = some (fvv (.int k i)) ∧ (if 0 <= i ∧ i <= (most : Int) then some i.toNat else none) = some n := by
 unfold bnd at h;split at h
 ·cases h; exact .inl ⟨rfl, rfl⟩
 ·rename_i k i; exact .inr ⟨k, i, rfl, h⟩
 ·cases h
theorem qYM {t : TypeId} {s : ByteArray} {lo hi : Option Operand} {l u : Nat} {env : List PV} {ty : TypeId} (hu : P.underlying t = some .string) (h1 : bnd s.size s.size (hi.map (qJ env)) = some u) (h2 : bnd 0 u (lo.map (qJ env)) = some l) :
 qLC P (.slice t (.const (.string s)) (lo.map fun a => .const ((pl (qJ env a)).getD undef)) (hi.map fun a => .const ((pl (qJ env a)).getD undef)) none) ty = some (fvv (.string (s.extract l u))) := by
 have opt : ∀ {o : Option Operand} {d most n : Nat}, bnd d most (o.map (qJ env)) = some n -> (o = none ∧ n = d) ∨ ∃ k i, (o.map fun a => Operand.const ((pl (qJ env a)).getD undef)) = some (.const (.int k i)) ∧ (if 0 <= i ∧ i <= (most : Int) then some i.toNat else none) = some n := fun {o d most n} h => by
  rcases qUL h with ⟨q, e⟩ | ⟨k, i, q, e⟩
  ·cases o with
   | none => exact .inl ⟨rfl, e⟩
   | some a => cases q
  ·cases o with
   | none => cases q
   | some a =>
     have q : qJ env a = fvv (.int k i) := by simpa using q
     exact .inr ⟨k, i, by simp [q, fvv, pl], e⟩
 unfold qLC kK
 have hk : ∀ (lo' hi' : Option Operand) (vl vh : Option Value), lo'.map (Env.val []) = vl -> hi'.map (Env.val []) = vh -> zO (kG (Env.val []) (cop (.slice t (.const (.string s)) lo' hi' none) ty).op.operands.toList) = true ->
  zX P (Instr.sliceBounds false s.size s.size vl vh none) = some (l, u, s.size) -> qV0 (if zO (kG (Env.val []) (cop (.slice t (.const (.string s)) lo' hi' none) ty).op.operands.toList) = true then qGI H00 (zX P (execOp (Env.val []) (cop (.slice t (.const (.string s)) lo' hi' none) ty))) else none) = some (fvv (.string (s.extract l u))) := by
  intro lo' hi' vl vh e1 e2 hp hb;rw [if_pos hp]
  have he : zX P (execOp (Env.val []) (cop (.slice t (.const (.string s)) lo' hi' none) ty)) = some (.value (.string (s.extract l u))) := by
   show zX P (do let v <- Instr.sliceAt t (.string s) (lo'.map (Env.val [])) (hi'.map (Env.val [])) none; pure (Next.value v)) = _;rw [e1, e2];unfold Instr.sliceAt;simp only [dB, zV, hu, zK0];unfold Instr.slice;simp only [dB, zV, hu, zK0];simp only [zOR, zL9, if_false, dB, hb, zK0, dP]
  rw [he];exact bH rfl rfl
 have hB : ∀ (vl vh : Option Value), (vh = none ∧ u = s.size ∨ ∃ k i, vh = some (.int k i) ∧ (if 0 <= i ∧ i <= (s.size : Int) then some i.toNat else none) = some u) -> (vl = none ∧ l = 0 ∨ ∃ k i, vl = some (.int k i) ∧ (if 0 <= i ∧ i <= (u : Int) then some i.toNat else none) = some l) ->
  zX P (Instr.sliceBounds false s.size s.size vl vh none) = some (l, u, s.size) := by
  intro vl vh a b;unfold Instr.sliceBounds;rcases a with ⟨rfl, rfl⟩ | ⟨k, i, rfl, ha⟩ <;> rcases b with ⟨rfl, rfl⟩ | ⟨k', i', rfl, hb⟩ <;> simp only [dB, dP, zK0, zOR, zL9, if_false]
  ·rw [tL hb]; rfl
  ·rw [tL ha]; rfl
  ·rw [tL ha]; simp only [zK0]; rw [tL hb]; rfl
 rcases opt h1 with ⟨rfl, e1⟩ | ⟨k, i, e1, f1⟩ <;> rcases opt h2 with ⟨rfl, e2⟩ | ⟨k', i', e2, f2⟩
 ·exact hk none none none none rfl rfl rfl (hB _ _ (.inl ⟨rfl, e1⟩) (.inl ⟨rfl, e2⟩))
 ·rw [e2]; exact hk _ none _ none rfl rfl rfl (hB _ _ (.inl ⟨rfl, e1⟩) (.inr ⟨k', i', rfl, f2⟩))
 ·rw [e1]; exact hk none _ none _ rfl rfl rfl (hB _ _ (.inr ⟨k, i, rfl, f1⟩) (.inl ⟨rfl, e2⟩))
 ·rw [e1, e2]; exact hk _ _ _ _ rfl rfl rfl (hB _ _ (.inr ⟨k, i, rfl, f1⟩) (.inr ⟨k', i', rfl, f2⟩))
theorem q4X {s d : TypeId} {k k' : IntKind} {x : Int} {u : TypeDesc} (hs : P.underlying s = some u) (hd : P.underlying d = some (.int k')) : aB P (fun a => .convert s d a) (fvv (.int k x)) = some (fvv (.int k' (k'.wrap x))) := by
 have hl : pl (fvv (.int k x)) = some (.int k x) := rfl;unfold aB;rw [hl];unfold qLC kK;have hp : zO (kG (Env.val []) (cop (.convert s d (.const (.int k x)))).op.operands.toList) = true := rfl;simp only [hp, if_true]
 have he : zX P (execOp (Env.val []) (cop (.convert s d (.const (.int k x))))) = some (.value (.int k' (k'.wrap x))) := by
  show zX P (do let v <- convert s d (.int k x); pure (Next.value v)) = _;unfold convert;simp only [dB, zV, hs, hd, zK0];rfl
 rw [he];exact bH rfl rfl
theorem qW4 {s d : TypeId} {x : ByteArray} {u : TypeDesc} (hs : P.underlying s = some u) (hd : P.underlying d = some .string) : aB P (fun a => .convert s d a) (fvv (.string x)) = some (fvv (.string x)) := by
 have hl : pl (fvv (.string x)) = some (.string x) := rfl;unfold aB;rw [hl];unfold qLC kK;have hp : zO (kG (Env.val []) (cop (.convert s d (.const (.string x)))).op.operands.toList) = true := rfl;simp only [hp, if_true]
 have he : zX P (execOp (Env.val []) (cop (.convert s d (.const (.string x))))) = some (.value (.string x)) := by
  show zX P (do let v <- convert s d (.string x); pure (Next.value v)) = _;unfold convert;simp only [dB, zV, hs, hd, zK0];cases u <;> rfl
 rw [he];exact bH rfl rfl
end Go.Sv
namespace Go.Sv
open Go.Idl
noncomputable section
variable [Gc]
variable [Yl]
variable {P : Program} {h : SH} {R : Type} {r : R}
def qDN : SV -> Option Value
 | .d (.int k) x => some (.int k x)
 | .d .bool x => some (.bool x)
 | .d .str x => some (.string x)
 | .c v => some v
 | _ => none
theorem pK {v : SV} {a : Value} (e : qDN v = some a) : v.enc = fvv a := by
 unfold qDN at e;split at e <;> cases e <;> simp [SV.enc, Ty.fv, fvv]
def qGT : List SV -> Option (List Value)
 | [] => some []
 | v :: l => match qDN v, qGT l with
   | some a, some b => some (a :: b)
   | _, _ => none
def aR : SV -> Option Value
 | .agg l => (match qGT l with
   | some vs => some (.agg vs.toArray)
   | none => none)
 | v => qDN v
theorem qDP : ∀ {l : List SV} {vs : List Value}, qGT l = some vs -> qKH (qB l) = some vs
 | [], vs, e => by cases e; simp [qB, qKH]
 | v :: l, vs, e => by
   unfold qGT at e;split at e
   ·rename_i a b ha hb;cases e;simp only [qB, pK ha, fvv, qKH, pl1, qDP hb]
   ·cases e
theorem vP {v : SV} {a : Value} (e : aR v = some a) : pl v.enc = some a := by
 unfold aR at e;split at e
 ·rename_i l;split at e
  ·rename_i vs hvs;cases e;simp only [SV.enc, pl, qDP hvs]
  ·cases e
 ·rw [pK e];rfl
def q9R (op : BinOp) (a b : ByteArray) (K : SV -> zAN R) (F : zAN R) : zAN R := match op with
 | .add => .ite (Nat.ble (a.size + b.size) 9223372036854775807) (K (.d .str (a ++ b))) .fail
 | .eql => K (.d .bool (a.toList == b.toList))
 | .neq => K (.d .bool (!(a.toList == b.toList)))
 | _ => F
def qM9 (P : Program) (t : TypeId) : Bool := match P.underlying t with
 | some .string => true
 | _ => false
omit [Yl] in
theorem qDL {t : TypeId} (e : qM9 P t = true) : P.underlying t = some .string := by
 unfold qM9 at e;split at e
 ·assumption
 ·cases e
def qL4 (P : Program) (t : TypeId) (s : ByteArray) (ix : SV) (K : SV -> zAN R) : zAN R := match asI ix with
 | some (_, i) => cond (qM9 P t) (.bind (qXQ s i) fun c => K (.d (.int .u8) c)) .fail
 | none => .fail
def qSA (P : Program) (t : TypeId) (s : ByteArray) (lo hi : Option SV) (K : SV -> zAN R) : zAN R :=
 cond (qM9 P t) (qRN s.size s.size hi fun b => qRN 0 b lo fun a => K (.d .str (s.extract a b))) .fail
def qZ3 (P : Program) (s d : TypeId) (x : SV) (K : SV -> zAN R) (F : zAN R) : zAN R := match P.underlying s, P.underlying d with
 | some _, some (.int k') => (match asI x with
   | some (_, a) => K (.d (.int k') (k'.wrap a))
   | none => F)
 | some _, some .string => (match asS x with
   | some a => K (.d .str a)
   | none => F)
 | _, _ => F
def Ty.vals : (t : Ty) -> List Value -> Option (t.sem × List Value)
 | .int k, .int k' x :: l => cond (decide (k' = k)) (some (x, l)) none
 | .bool, .bool x :: l => some (x, l)
 | .str, .string x :: l => some (x, l)
 | .unit, l => some ((), l)
 | .pair a b, l => match a.vals l with
   | some (x, l1) => (match b.vals l1 with
     | some (y, l2) => some ((x, y), l2)
     | none => none)
   | none => none
 | _, _ => none
def Ty.ofV (t : Ty) (v : Value) : Option t.sem := cond t.one (match t.vals [v] with
 | some (x, []) => some x
 | _ => none) (match v with
 | .agg a => (match t.vals a.toList with
   | some (x, []) => some x
   | _ => none)
 | _ => none)
def qYY (t : Ty) (x : t.sem) : SV := cond t.one (.d t x) (.agg (t.svs x))
omit [Yl] in
theorem qBG (t : Ty) (x : t.sem) : (qYY t x).ok h := by
 unfold qYY
 cases t.one with
 | true => simp [SV.ok]
 | false => simp only [cond_false, SV.ok]; exact qDH t x
omit [Yl] in
theorem qJ5 : ∀ {a b : List Value}, kQ okC a = true -> kQ okC b = true -> kQ okC (a ++ b) = true
 | [], _, _, h => h
 | x :: a, b, h1, h2 => by
   rw [xD, zKI] at h1;rw [zMG, xD, h1.1, qJ5 h1.2 h2]; rfl
omit [Yl] in
theorem bP : ∀ {t : Ty} {l l' : List Value} {x : t.sem}, t.vals l = some (x, l') -> ∃ us, l = us ++ l' ∧ kQ okC us = true ∧ kG fvv us = (t.cells x).map PV.f
 | .int k, l, l', x, e => by
   cases l with
   | nil => cases e
   | cons v l =>
     cases v <;> try (cases e; done)
     rename_i k' y;have e : cond (decide (k' = k)) (some ((y : Int), l)) none = some (x, l') := e
     cases hk : decide (k' = k) with
     | false => rw [hk] at e; cases e
     | true =>
       rw [hk] at e;cases e;have : k' = k := by simpa using hk
       subst this;exact ⟨[.int k' x], rfl, rfl, rfl⟩
 | .bool, l, l', x, e => by
   cases l with
   | nil => cases e
   | cons v l =>
     cases v <;> try (cases e; done)
     cases e;exact ⟨[.bool x], rfl, rfl, rfl⟩
 | .str, l, l', x, e => by
   cases l with
   | nil => cases e
   | cons v l =>
     cases v <;> try (cases e; done)
     cases e;exact ⟨[.string x], rfl, rfl, rfl⟩
 | .unit, l, l', x, e => by
   have e : some ((), l) = some ((), l') := by cases l <;> exact e
   cases e;exact ⟨[], rfl, rfl, rfl⟩
 | .list _ _, l, l', x, e => by cases l <;> cases e
 | .raw, l, l', x, e => by cases l <;> cases e
 | .ol _ _, l, l', x, e => by cases l <;> cases e
 | .nif, l, l', x, e => by cases l <;> cases e
 | .pair a b, l, l', x, e => by
   have e : (match a.vals l with
    | some (x, l1) => (match b.vals l1 with
      | some (y, l2) => some ((x, y), l2)
      | none => none)
    | none => none) = some (x, l') := by cases l <;> exact e
   split at e
   ·rename_i x1 l1 h1;split at e
    ·rename_i y l2 h2;cases e;obtain ⟨us, rfl, u1, u2⟩ := bP h1;obtain ⟨ws, rfl, w1, w2⟩ := bP h2;refine ⟨us ++ ws, by rw [zLG], ?_, ?_⟩
     ·exact qJ5 u1 w1
     ·show _ = (a.cells x1 ++ b.cells y).map PV.f;rw [y5] at u2 w2 ⊢;rw [zLQ, zLQ, u2, w2]
    ·cases e
   ·cases e
theorem pY {t : Ty} {v : Value} {x : t.sem} (e : t.ofV v = some x) : ofC v = (qYY t x).enc := by
 unfold Ty.ofV at e;unfold qYY
 cases ht : t.one with
 | true =>
   rw [ht] at e;simp only [cond_true] at e ⊢;split at e
   ·rename_i y hy;cases e;obtain ⟨us, h1, h2, h3⟩ := bP hy;rw [zL6] at h1;subst h1;rw [Ty.cells_one ht] at h3
    have h3 : fvv v = .f (t.fv x) := by
     have : kG fvv [v] = [fvv v] := rfl;rw [this] at h3;simpa using h3
    have h2 : okC v = true := by
     rw [xD, zKI] at h2; exact h2.1
    have : ofC v = fvv v := by
     unfold okC at h2;rw [zKI] at h2
     cases v <;> first | (exact absurd h2.2 (by decide)) | skip
     all_goals first | (show q2T _ = _; unfold q2T okC; simp [h2.1, h2.2]) | (simp [oneCell] at h2)
    rw [this, h3]; simp [SV.enc]
   ·cases e
 | false =>
   rw [ht] at e;simp only [cond_false] at e ⊢;split at e
   ·rename_i a;split at e
    ·rename_i y hy;cases e;obtain ⟨us, h1, h2, h3⟩ := bP hy;rw [zL6] at h1;show cond (kQ okC a.toList) (PV.agg (kG fvv a.toList)) .unk = _;rw [h1, h2, h3];simp only [cond_true, SV.enc, gD]
    ·cases e
   ·cases e
def smp (x : SV) (h : SH) : Option (Nat × List (Value × Value)) := match x with
 | .mp k => (match slk k h.l with
   | some (.spc _ (.map es)) => some (k, es)
   | _ => none)
 | _ => none
omit [Yl] in
theorem uZ : ∀ (n : Nat) (es : List (Value × Value)) (i : Nat), (yD n es)[i]? = (es[i]?).map fun p => (⟨p.1, p.2, n + i⟩ : MapEntry)
 | n, [], i => by simp [yD]
 | n, p :: es, 0 => by simp [yD]
 | n, p :: es, i + 1 => by
   show (yD (n + 1) es)[i]? = _;rw [uZ (n + 1) es i];have : n + 1 + i = n + (i + 1) := by omega
   rw [this]; simp
omit [Yl] in
theorem qBA : ∀ (n : Nat) (es : List (Value × Value)), (yD n es).length = es.length
 | n, [] => rfl
 | n, p :: es => by
   show (yD (n + 1) es).length + 1 = _;rw [qBA, zK1]
omit [Yl] in
theorem nT : ∀ (n : Nat) (es : List (Value × Value)) (k v : Value), yD n (es ++ [(k, v)]) = yD n es ++ [⟨k, v, n + es.length⟩]
 | n, [], k, v => rfl
 | n, p :: es, k, v => by
   show _ :: yD (n + 1) (es ++ [(k, v)]) = _;rw [nT (n + 1) es k v];show _ = _ :: (yD (n + 1) es ++ _);rw [zK1];have : n + 1 + es.length = n + (es.length + 1) := by omega
   rw [this]
omit [Yl] in
theorem qBH (es : List (Value × Value)) (i : Nat) (k v : Value) (f : MapEntry -> MapEntry) (hf : ∀ p, es[i]? = some p -> f ⟨p.1, p.2, i⟩ = ⟨k, v, i⟩) : yD 0 (es.set i (k, v)) = (yD 0 es).modify i f := by
 apply zLR;intro j;rw [uZ, zOG, uZ, zLD, zLA];by_cases hij : i = j
 ·subst hij;rw [if_pos rfl];simp only [if_true]
  cases he : es[i]? with
  | none =>
    have : ¬ i < es.length := fun hl => by rw [zKM hl] at he; cases he
    rw [if_neg this]; rfl
  | some p =>
    have := (zKN.1 he).1;rw [if_pos this];simp [hf p he]
 ·rw [if_neg hij];simp only [if_neg hij];cases es[j]? <;> rfl
theorem qXU {x : SV} {k : Nat} {es : List (Value × Value)} (hs : spec P 1000000001 = true) (e : smp x h = some (k, es)) : fV P x.enc (qE h.l) = some (k, (SpO.map es).enc, es.length, yD 0 es) ∧ ∃ w, slk k h.l = some (.spc w (.map es)) := by
 unfold smp at e;split at e
 ·rename_i k';split at e
  ·rename_i w es' hk;cases e;refine ⟨?_, w, hk⟩;simp only [SV.enc, fV, yY hk]
   show cond (spec P 1000000001 && Nat.beq 1000000001 1000000001) (match mapOf (kV es.length (yD 0 es)) with
    | some (c, es') => some (k, (SO.spc w (SpO.map es)).enc, c, es')
    | none => none) none = _
   rw [hs, qGK];rfl
  ·cases e
 ·cases e
def q5E (P : Program) (kt : TypeId) (k : Value) (es : List (Value × Value)) : Option Bool := (vL P kt k (yD 0 es)).map Option.isSome
def q4W (P : Program) (kt : TypeId) (t : Ty) (k : Value) (es : List (Value × Value)) : Option t.sem := match vL P kt k (yD 0 es) with
 | some (some i) => (match es[i]? with
   | some p => t.ofV p.2
   | none => none)
 | _ => none
def q44 (ok : Bool) (t : Ty) (x : t.sem) (b : Bool) : SV := cond ok (.tup [qYY t x, .c (.bool b)]) (qYY t x)
theorem qOB {ok b : Bool} {t : Ty} {x : t.sem} {v : Value} (e : t.ofV v = some x) : qW5 ok v b = (q44 ok t x b).enc := by
 unfold qW5 q44
 cases ok with
 | true => simp [pY e, SV.enc, qB]
 | false => exact pY e
omit [Yl] in
theorem qV4 {ok b : Bool} {t : Ty} {x : t.sem} : (q44 ok t x b).ok h := by
 unfold q44
 cases ok with
 | true => simp only [cond_true, SV.ok, okL, and_true]; exact qBG t x
 | false => exact qBG t x
def qKV (P : Program) (t : TypeId) (m kx : SV) (ok : Bool) (h : SH) (K : SV -> zAN R) : zAN R := match P.underlying t, smp m h, aR kx with
 | some (.map kt et), some (_, es), some kv => (match qDY P 8 et, wF P et with
   | some vt, some z => (match vt.ofV z with
     | some z0 => cond (spec P 1000000001 && zM z) (.bind (q5E P kt kv es) fun b => .ite b (.bind (q4W P kt vt kv es) fun x => K (q44 ok vt x true)) (K (q44 ok vt z0 false))) .fail
     | none => .fail)
   | _, _ => .fail)
 | _, _, _ => .fail
theorem qQS {t : TypeId} {m kx : SV} {ok : Bool} {K : SV -> zAN R} (e : (qKV P t m kx ok h K).run = some r) : ∃ v, xX P t m.enc kx.enc ok (qE h.l) = some v.enc ∧ v.ok h ∧ (K v).run = some r := by
 unfold qKV at e;split at e
 case h_2 => cases e
 rename_i kt et k es kv hu hm hk;split at e
 case h_2 => cases e
 rename_i vt z hvt hz;split at e
 case h_2 => cases e
 rename_i z0 hz0;obtain ⟨c, e1⟩ := qG e;rw [zKI] at c;obtain ⟨b, hb, e2⟩ := run_bind e1;obtain ⟨h1, w, h2⟩ := qXU c.1 hm
 have pre : xX P t m.enc kx.enc ok (qE h.l) = (match vL P kt kv (yD 0 es) with
  | some (some i) => (match (yD 0 es)[i]? with
    | some e => some (qW5 ok e.val true)
    | none => none)
  | some none => some (qW5 ok z false)
  | none => none) := by
  unfold xX;rw [hu, h1, vP hk];simp only [hz, c.2, cond_true];rfl
 rw [pre];unfold q5E at hb
 cases hf : vL P kt kv (yD 0 es) with
 | none => rw [hf] at hb; cases hb
 | some o =>
   rw [hf] at hb
   cases o with
   | none =>
     cases hb;refine ⟨_, by simp only [qOB hz0], qV4, e2⟩
   | some i =>
     cases hb;obtain ⟨x, hx, e3⟩ := run_bind (show (zAN.bind (q4W P kt vt kv es) fun x => K (q44 ok vt x true)).run = some r from e2);unfold q4W at hx;rw [hf] at hx;simp only at hx;split at hx
     ·rename_i p hp;refine ⟨_, ?_, qV4, e3⟩;simp only [uZ, hp, zKU, qOB hx]
     ·cases hx
def qW2 (P : Program) (kt : TypeId) (k v : Value) (es : List (Value × Value)) : Option (List (Value × Value)) := match vL P kt k (yD 0 es) with
 | some (some i) => (match es[i]? with
   | some p => cond (Instr.sameBits 10000 p.1 k) (some (es.set i (k, v))) none
   | none => none)
 | some none => some (es ++ [(k, v)])
 | none => none
def p8 (P : Program) (t : TypeId) (m kx x : SV) (h : SH) (K : SV -> SH -> zAN R) : zAN R := match P.underlying t, smp m h, aR kx, aR x with
 | some (.map kt _), some (k, es), some kv, some xv => cond (spec P 1000000001 && qX xv) (.bind (qW2 P kt kv xv es) fun es' => K (.tup []) (h.put k fun v => .spc v (.map es'))) .fail
 | _, _, _, _ => .fail
theorem aD {k : Nat} {es es' : List (Value × Value)} {w : Nat} (ho : OkH P h) (hk : slk k h.l = some (.spc w (.map es))) : Keep h (h.put k fun v => .spc v (.map es')) ∧ OkH P (h.put k fun v => .spc v (.map es')) ∧
 qE (h.put k fun v => .spc v (.map es')).l = kU k { (SpO.map es).enc with cs := kV es'.length (yD 0 es') } (qE h.l) := by
 have := aF (f := fun v => .spc v (.map es')) ho hk rfl;exact ⟨this.1, this.2, vM k _ _⟩
theorem qGB {t : TypeId} {m kx x : SV} {K : SV -> SH -> zAN R} (ho : OkH P h) (e : (p8 P t m kx x h K).run = some r) :
 ∃ h', kW P t m.enc kx.enc x.enc (qE h.l) = some (qE h'.l) ∧ Keep h h' ∧ OkH P h' ∧ (K (.tup []) h').run = some r := by
 unfold p8 at e;split at e
 case h_2 => cases e
 rename_i kt et k es kv xv hu hm hkv hxv;obtain ⟨c, e1⟩ := qG e;rw [zKI] at c;obtain ⟨es', hs, e2⟩ := run_bind e1;obtain ⟨h1, w, h2⟩ := qXU c.1 hm;obtain ⟨p1, p2, p3⟩ := aD (es' := es') ho h2;refine ⟨_, ?_, p1, p2, e2⟩;unfold kW;rw [hu, h1, vP hkv, vP hxv, p3];simp only [c.2, cond_true];unfold qW2 at hs
 cases hf : vL P kt kv (yD 0 es) with
 | none => rw [hf] at hs; cases hs
 | some o =>
   rw [hf] at hs
   cases o with
   | none =>
     cases hs;simp only [nT, zK6, zK1, zNM, zLA]
   | some i =>
     simp only at hs ⊢;split at hs
     ·rename_i p hp
      cases hb : Instr.sameBits 10000 p.1 kv with
      | false => rw [hb] at hs; cases hs
      | true =>
        rw [hb] at hs;cases hs;simp only [uZ, hp, zKU, hb, cond_true];rw [qBH es i kv xv (fun e => { e with key := kv, val := xv }) (fun _ _ => rfl), zNK]
     ·cases hs
def q99 (P : Program) (kt : TypeId) (t : Ty) (k z : Value) (es : List (Value × Value)) : Option (List (Value × Value) × Nat × t.sem) := match vL P kt k (yD 0 es) with
 | some (some i) => (match es[i]? with
   | some p => cond (Instr.sameBits 10000 p.1 k && q5P i (vL P kt k (yD 0 (es.set i (k, p.2))))) (match t.ofV p.2 with
     | some x => some (es.set i (k, p.2), i, x)
     | none => none) none
   | none => none)
 | some none => cond (q5P es.length (vL P kt k (yD 0 (es ++ [(k, z)])))) (match t.ofV z with
   | some x => some (es ++ [(k, z)], es.length, x)
   | none => none) none
 | none => none
def qB4 (P : Program) (t : TypeId) (m kx : SV) (h : SH) (K : SV -> SH -> zAN R) : zAN R := match P.underlying t, smp m h, aR kx with
 | some (.map kt et), some (k, es), some kv => (match qDY P 8 et, wF P et with
   | some vt, some z => cond (spec P 1000000001 && zM z) (.bind (q99 P kt vt kv z es) fun q => K (.tup [qYY vt q.2.2, .d (.int .i64) (q.2.1 : Int)]) (h.put k fun v => .spc v (.map q.1))) .fail
   | _, _ => .fail)
 | _, _, _ => .fail
theorem qHS {t : TypeId} {m kx : SV} {K : SV -> SH -> zAN R} (ho : OkH P h) (e : (qB4 P t m kx h K).run = some r) :
 ∃ v h', xR P t m.enc kx.enc (qE h.l) = some (v.enc, qE h'.l) ∧ Post P h h' v ∧ (K v h').run = some r := by
 unfold qB4 at e;split at e
 case h_2 => cases e
 rename_i kt et k es kv hu hm hkv;split at e
 case h_2 => cases e
 rename_i vt z hvt hz;obtain ⟨c, e1⟩ := qG e;rw [zKI] at c;obtain ⟨q, hs, e2⟩ := run_bind e1;obtain ⟨h1, w, h2⟩ := qXU c.1 hm;obtain ⟨p1, p2, p3⟩ := aD (es' := q.1) ho h2;refine ⟨_, _, ?_, ⟨p1, p2, ?_⟩, e2⟩
 ·unfold xR;rw [hu, h1, vP hkv, p3];unfold q99 at hs
  cases hf : vL P kt kv (yD 0 es) with
  | none => rw [hf] at hs; cases hs
  | some o =>
    rw [hf] at hs
    cases o with
    | none =>
      simp only at hs ⊢;obtain ⟨hat, hs⟩ := xO hs;split at hs
      ·rename_i x hx;cases hs
       have hat' : q5P (yD 0 es).length (vL P kt kv (yD 0 es ++ [⟨kv, z, es.length⟩])) = true := by
        rw [nT, zLA] at hat;rw [qBA];exact hat
       simp only [hf, hz, c.2, hat', zLM, cond_true, nT, zK6, zK1, zNM, zLA, SV.enc, qB, pY hx, Ty.fv, fvv]
      ·cases hs
    | some i =>
      simp only at hs ⊢;split at hs
      ·rename_i p hp;obtain ⟨hb', hs⟩ := xO hs;rw [zKI] at hb';obtain ⟨hb, hat⟩ := hb'
       ·split at hs
        ·rename_i x hx;cases hs;rw [qBH es i kv p.2 (fun e => { e with key := kv }) (fun p' hp' => by rw [hp] at hp'; cases hp'; rfl)] at hat;simp only [hf, uZ, hp, zKU, hb, hat, zLM, cond_true, SV.enc, qB, pY hx, Ty.fv, fvv, zLA];rw [qBH es i kv p.2 (fun e => { e with key := kv }) (fun p' hp' => by rw [hp] at hp'; cases hp'; rfl), zNK]
        ·cases hs
      ·cases hs
 ·simp only [SV.ok, okL, and_true]; exact qBG _ _
def qOK (P : Program) (k : Nat) (h : SH) (K : SV -> SH -> zAN R) : zAN R := cond (spec P 1000000001) (K (.mp k) (h.new k fun v => .spc v (.map []))) .fail
theorem qLM {k : Nat} {K : SV -> SH -> zAN R} (ho : OkH P h) (e : (qOK P k h K).run = some r) : ∃ v h', bR P k (qE h.l) = some (v.enc, qE h'.l) ∧ Post P h h' v ∧ (K v h').run = some r := by
 obtain ⟨c, e1⟩ := qG e;have hp := kD (k := k) (f := fun v => .spc v (.map [])) ho rfl;refine ⟨_, _, ?_, ⟨hp.1, hp.2, by simp [SV.ok]⟩, e1⟩;unfold bR;rw [c];simp only [cond_true, qKP, SV.enc];rfl
def q4K (P : Program) (ts : Array TypeId) (x : SV) (h : SH) : Option SV := match smp x h with
 | some (_, es) => cond (spec P 1000000001 && q52 P ts) (some (.d (.int .i64) ((List.length es : Nat) : Int))) none
 | none => none
theorem qZ4 {ts : Array TypeId} {x v : SV} (e : q4K P ts x h = some v) : qCR P ts x.enc (qE h.l) = some v.enc ∧ v.ok h := by
 unfold q4K at e;split at e
 case h_2 => cases e
 rename_i k es hm
 cases hc : (spec P 1000000001 && q52 P ts) with
 | false => rw [hc] at e; cases e
 | true =>
   rw [hc] at e;cases e;rw [zKI] at hc;refine ⟨?_, by simp [SV.ok]⟩;unfold smp at hm;split at hm
   case h_2 => cases hm
   rename_i k';split at hm
   case h_2 => cases hm
   rename_i w es' hk;cases hm
   have h1 : rR P (SV.enc (.mp k)) (qE h.l) = some (kV es.length (yD 0 es)) := by
    simp only [SV.enc, rR, yY hk];show cond (!false && (spec P 1000000001 && Nat.beq 1000000001 1000000001)) (some (kV es.length (yD 0 es))) none = _;rw [hc.1]; rfl
   unfold qCR;rw [h1];simp only [hc.2, cond_true, xN, qBA];have : (3 * es.length + 1) / 3 = es.length := by omega
   rw [this];simp [SV.enc, Ty.fv, fvv]
omit [Yl] in
theorem qJA {p : Value -> Bool} : ∀ {a b : List Value}, kQ p a = true -> kQ p b = true -> kQ p (a ++ b) = true
 | [], _, _, h => h
 | x :: a, b, h, h2 => by
   rw [zMG, xD, zKI];rw [xD, zKI] at h;exact ⟨h.1, qJA h.2 h2⟩
omit [Yl] in
theorem dA (n : Nat) : ∀ {t : Ty} {l l' : List Value} {x : t.sem}, t.vals l = some (x, l') -> ∃ us, l = us ++ l' ∧ kQ (xE (n + 1)) us = true
 | .int k, l, l', x, e => by
   cases l with
   | nil => cases e
   | cons v l =>
     cases v <;> try (cases e; done)
     rename_i k' y;have e : cond (decide (k' = k)) (some ((y : Int), l)) none = some (x, l') := e
     cases hk : decide (k' = k) with
     | false => rw [hk] at e; cases e
     | true =>
       rw [hk] at e;cases e;exact ⟨[.int k' x], rfl, rfl⟩
 | .bool, l, l', x, e => by
   cases l with
   | nil => cases e
   | cons v l =>
     cases v <;> try (cases e; done)
     cases e;exact ⟨[.bool x], rfl, rfl⟩
 | .str, l, l', x, e => by
   cases l with
   | nil => cases e
   | cons v l =>
     cases v <;> try (cases e; done)
     cases e;exact ⟨[.string x], rfl, rfl⟩
 | .unit, l, l', x, e => by
   have e : some ((), l) = some ((), l') := by cases l <;> exact e
   cases e;exact ⟨[], rfl, rfl⟩
 | .list _ _, l, l', x, e => by cases l <;> cases e
 | .raw, l, l', x, e => by cases l <;> cases e
 | .ol _ _, l, l', x, e => by cases l <;> cases e
 | .nif, l, l', x, e => by cases l <;> cases e
 | .pair a b, l, l', x, e => by
   have e : (match a.vals l with
    | some (x, l1) => (match b.vals l1 with
      | some (y, l2) => some ((x, y), l2)
      | none => none)
    | none => none) = some (x, l') := by cases l <;> exact e
   split at e
   ·rename_i x1 l1 h1;split at e
    ·rename_i y l2 h2;cases e;obtain ⟨us, rfl, u1⟩ := dA n h1;obtain ⟨ws, rfl, w1⟩ := dA n h2;exact ⟨us ++ ws, by rw [zLG], qJA u1 w1⟩
    ·cases e
   ·cases e
omit [Yl] in
theorem qWA {t : Ty} {v : Value} {x : t.sem} (e : t.ofV v = some x) : zM v = true := by
 unfold Ty.ofV at e
 cases ht : t.one with
 | true =>
   rw [ht] at e;simp only [cond_true] at e;split at e
   ·rename_i y hy;obtain ⟨us, h1, h2⟩ := dA 2 hy;rw [zL6] at h1;subst h1;rw [xD, zKI] at h2;exact h2.1
   ·cases e
 | false =>
   rw [ht] at e;simp only [cond_false] at e;split at e
   ·rename_i a;split at e
    ·rename_i y hy;obtain ⟨us, h1, h2⟩ := dA 1 hy;rw [zL6] at h1;show kQ (xE 2) a.toList = true;rw [h1]; exact h2
    ·cases e
   ·cases e
omit [Yl] in
theorem qD2 : ∀ (n : Nat) (es : List (Value × Value)) (i : Nat), (yD n es).find? (·.born == n + i) = (es[i]?).map fun p => (⟨p.1, p.2, n + i⟩ : MapEntry)
 | n, [], i => by simp [yD]
 | n, p :: es, 0 => by simp [yD]
 | n, p :: es, i + 1 => by
   have h : ((⟨p.1, p.2, n⟩ : MapEntry).born == n + (i + 1)) = false := by simp
   have ih := qD2 (n + 1) es i;have e : n + 1 + i = n + (i + 1) := by omega
   rw [e] at ih;show List.find? (fun x => x.born == n + (i + 1)) ((⟨p.1, p.2, n⟩ : MapEntry) :: yD (n + 1) es) = _;rw [List.find?_cons, h, ih];simp
def q06 (kt vt : Ty) (i : Nat) (es : List (Value × Value)) : Option (kt.sem × vt.sem) := match es[i]? with
 | some p => (match kt.ofV p.1, vt.ofV p.2 with
   | some x, some y => some (x, y)
   | _, _ => none)
 | none => none
def qSF (P : Program) (x : SV) (h : SH) (K : SV -> SH -> zAN R) : zAN R := match x with
 | .ref k off w => (match slk k h.l with
   | some (.spc _ (.mit t j since (last + 1) _)) => (match P.underlying t, smp (.mp j) h with
     | some (.map kt vt), some (_, es) => (match qDY P 8 kt, qDY P 8 vt with
       | some kT, some vT => cond (spec P 1000000001 && (spec P 1000000002 && (Nat.beq w 4 && (Nat.beq off 0 && Nat.beq (List.length es) since)))) (.bind (q06 kT vT last es) fun p => K (.tup [qYY kT p.1, qYY vT p.2]) h) .fail
       | _, _ => .fail)
     | _, _ => .fail)
   | _ => .fail)
 | _ => .fail
theorem qS0 {x : SV} {K : SV -> SH -> zAN R} (ho : OkH P h) (e : (qSF P x h K).run = some r) : ∃ v, qKJ P x.enc (qE h.l) = some v.enc ∧ v.ok h ∧ (K v h).run = some r := by
 unfold qSF at e;split at e
 case h_2 => cases e
 rename_i k off w;split at e
 case h_2 => cases e
 rename_i w0 t j since last seen hk;split at e
 case h_2 => cases e
 rename_i kt vt j2 es hu hs;split at e
 case h_2 => cases e
 rename_i kT vT hkT hvT;obtain ⟨c, e1⟩ := qG e;simp only [zKI] at c;obtain ⟨c1, c2, c3, c4, c5⟩ := c;obtain ⟨q, hq, e2⟩ := run_bind e1;obtain ⟨h1, _⟩ := qXU c1 hs;unfold q06 at hq;split at hq
 case h_2 => cases hq
 rename_i p hp;split at hq
 case h_2 => cases hq
 rename_i x1 y1 hx1 hy1;cases hq;refine ⟨_, ?_, ?_, e2⟩
 ·have e3 := zKJ c3;have e4 := zKJ c4;subst e3 e4;simp only [SV.enc, qKJ, yY hk]
  show cond (spec P 1000000002 && (Nat.beq 1000000002 1000000002 && (Nat.beq 4 4 && Nat.beq 0 0))) (match fV P (.mp j) (qE h.l) with
   | some (_, _, c, es) => cond (Nat.beq c (since : Int).toNat && Nat.ble 1 ((last + 1 : Nat) : Int).toNat) (match es.find? (·.born == ((last + 1 : Nat) : Int).toNat - 1) with
     | some e => cond (zM e.key) (some (PV.tup [ofC e.key, ofC e.val])) none
     | none => none) none
   | none => none) none = _
  have h1 : fV P (.mp j) (qE h.l) = some (j2, (SpO.map es).enc, es.length, yD 0 es) := h1;rw [h1, c2];have hl : ((last + 1 : Nat) : Int).toNat = last + 1 := rfl;have hsi : ((since : Nat) : Int).toNat = since := rfl;have hf := qD2 0 es last;simp only [zLA] at hf;rw [hl, hsi];simp only [zOS, hf, hp, c5, zKU];rw [show Nat.ble 1 (last + 1) = true from zK4 (by omega), show (Nat.beq 1000000002 1000000002) = true from rfl, show (Nat.beq 4 4) = true from rfl, show (Nat.beq 0 0) = true from rfl];simp only [zLM, cond_true, qWA hx1, pY hx1, pY hy1, qB]
 ·simp only [SV.ok, okL];exact ⟨qBG _ _, qBG _ _, trivial⟩
end
end Go.Sv
namespace Go.Sv
open Go.Idl
variable {a : Int} {b : Bool} {env : List SV} {k : IntKind} {o : Oper} {op : BinOp} {ph : PHp} {s : ByteArray} {t t2 ty : TypeId} {ts : Array TypeId} {x y : SV}
noncomputable section
variable [Gc]
variable [Yl]
variable {P : Program} {h : SH} {R : Type} {r : R}
def q43 (k : IntKind) : PV -> Option Int
 | .f (.v (.int k' x)) => cond (decide (k' = k)) (some x) none
 | _ => none
def q2U : PV -> Option Bool
 | .f (.v (.bool x)) => some x
 | _ => none
def q42 : PV -> Option ByteArray
 | .f (.v (.string x)) => some x
 | _ => none
def Ty.zGZ : (t : Ty) -> PV -> Option t.sem
 | .int k, p => q43 k p
 | .bool, p => q2U p
 | .str, p => q42 p
 | .raw, _ => none
 | .ol _ _, _ => none
 | .nif, _ => none
 | .unit, _ => none
 | .list _ _, _ => none
 | .pair _ _, _ => none
omit [Yl] in
theorem q1U : ∀ {t : Ty} {p : PV} {x : t.sem}, t.zGZ p = some x -> p = .f (t.fv x)
 | .int k, p, x, e => by
   have e1 : q43 k p = some x := e;clear e;unfold q43 at e1;split at e1
   ·rename_i k' y;have e := e1;clear e1
    cases hk : decide (k' = k) with
    | false => rw [hk] at e; cases e
    | true =>
      rw [hk] at e;cases e;have : k' = k := by simpa using hk
      subst this;rfl
   ·cases e1
 | .bool, p, x, e => by
   have e1 : q2U p = some x := e;clear e;unfold q2U at e1;split at e1
   ·cases e1; rfl
   ·cases e1
 | .str, p, x, e => by
   have e1 : q42 p = some x := e;clear e;unfold q42 at e1;split at e1
   ·cases e1; rfl
   ·cases e1
 | .unit, _, _, e => by cases e
 | .list _ _, _, _, e => by cases e
 | .pair _ _, _, _, e => by cases e
 | .raw, _, _, e => by cases e
 | .ol _ _, _, _, e => by cases e
 | .nif, _, _, e => by cases e
def Ty.zD6 (t : Ty) (o : Option PV) : Option t.sem := o.bind t.zGZ
theorem qOR {t : Ty} {o : Option PV} {x : t.sem} (e : t.zD6 o = some x) : o = some (SV.d t x).enc := by
 obtain ⟨p, h1, h2⟩ := zMA.1 e;rw [h1, q1U h2]; simp [SV.enc]
def sint (op : BinOp) (k : IntKind) (a b : Int) (K : SV -> zAN R) (F : zAN R) : zAN R := match op with
 | .lss => K (.d .bool (decide (a < b)))
 | .leq => K (.d .bool (decide (a <= b)))
 | .gtr => K (.d .bool (decide (b < a)))
 | .geq => K (.d .bool (decide (b <= a)))
 | .eql => K (.d .bool (a == b))
 | .neq => K (.d .bool (a != b))
 | .add => K (.d (.int k) (k.wrap (a + b)))
 | .sub => K (.d (.int k) (k.wrap (a - b)))
 | .mul => K (.d (.int k) (k.wrap (a * b)))
 | .quo => .bind (q72 k a b) fun c => K (.d (.int k) c)
 | .rem => .bind (q5K a b) fun c => K (.d (.int k) c)
 | _ => F
omit [Yl] in
theorem q1S {x y : PV} {a b : Value} (hx : pl x = some a) (hy : pl y = some b) : vZ P op t t2 x y ph = vZ P op t t2 (fvv a) (fvv b) [] := by
 unfold vZ;rw [hx, hy];rfl
def qQF (P : Program) (op : BinOp) (t t2 ty : TypeId) (x y : SV) (K : SV -> zAN R) : zAN R := match aR x, aR y, qDY P 8 ty with
 | some a, some b, some u => .bind (u.zD6 (vZ P op t t2 (fvv a) (fvv b) [])) fun z => K (.d u z)
 | _, _, _ => .fail
def q9I (P : Program) (t : TypeId) (x y : SV) (h : SH) : Option Bool := match y with
 | .c (.slice none _ _) => cond (zW P t).isSome (match x with
   | .own k g n => (match slk k h.l with
     | some (.list _ gr g' _ _ _) => cond (Nat.beq g g') (some (gr && Nat.beq n 0)) none
     | _ => none)
   | _ => none) none
 | .c .nilFunc => cond (qTP P t) (match x with
   | .fn _ _ _ => some false
   | _ => none) none
 | _ => none
theorem qV1 (ho : OkH P h) (hx : x.ok h) (e : q9I P t x y h = some b) : qGF P t x.enc y.enc (qE h.l) = some b ∧ pl x.enc = none := by
 unfold q9I at e;split at e
 ·rename_i n c
  cases h1 : (zW P t).isSome with
  | false => rw [h1] at e; cases e
  | true =>
    rw [h1] at e;simp only [cond_true] at e;split at e
    ·rename_i k g n;split at e
     ·rename_i el gr g' w u xs hk
      cases h2 : Nat.beq g g' with
      | false => rw [h2] at e; cases e
      | true =>
        rw [h2] at e;cases e;have hg : g = g' := zKJ h2;subst hg;simp only [SV.ok] at hx;have hn := hx.2 _ _ _ _ _ hk;have hl := ho.list _ _ _ _ _ _ _ hk;refine ⟨?_, by simp [SV.enc, pl]⟩;simp only [SV.enc, fvv, qGF, h1, cond_true, isNil, yY hk];rw [show (SO.list el gr g w u xs).enc.el = el from rfl, hl.2.1];simp only [qV, hn, rO, cond_true];rfl
     ·cases e
    ·cases e
 ·cases h1 : qTP P t with
  | false => rw [h1] at e; cases e
  | true =>
    rw [h1] at e;simp only [cond_true] at e;split at e
    ·cases e;exact ⟨by simp [SV.enc, fvv, qGF, h1, qPO], by simp [SV.enc, pl]⟩
    ·cases e
 ·cases e
def q2S (P : Program) (t : TypeId) (x y : SV) : Option Bool := match x, y with
 | .d (.ol _ _) xs, .c (.slice none 0 0) => cond (zW P t).isSome (some (List.isEmpty xs)) none
 | _, _ => none
theorem qOX (e : q2S P t x y = some b) : vZ P .eql t t2 x.enc y.enc ph = some (fvv (.bool b)) ∧ vZ P .neq t t2 x.enc y.enc ph = some (fvv (.bool !b)) := by
 unfold q2S at e;split at e
 ·rename_i el k xs
  cases h1 : (zW P t).isSome with
  | false => rw [h1] at e; cases e
  | true =>
    rw [h1] at e;cases e
    cases xs with
    | nil =>
      have hn : qGF P t (fvv (.slice none 0 0)) (fvv (.slice none 0 0)) ph = some true := by simp only [qGF, fvv, h1, cond_true, isNil]
      have hv : ∀ H, VR P (fun _ => True) H (own (fun _ => 0) ph) (fvv (.slice none 0 0)) (.slice none 0 0) := fun H => .f (.v rfl rfl)
      constructor
      ·have := (qEH (op := .eql) (o := cop (.binOp .eql t (.const (.slice none 0 0)) (.const (.slice none 0 0)) t2)) (env := []) (hv H00) (hv H00) hn).1;simp only [SV.enc, Ty.fv, fvo];show vZ P .eql t t2 (fvv (.slice none 0 0)) (fvv (.slice none 0 0)) ph = _;unfold vZ;rw [show pl (fvv (.slice none 0 0)) = some (.slice none 0 0) from rfl];simp only [this];rfl
      ·have := (qEH (op := .neq) (o := cop (.binOp .neq t (.const (.slice none 0 0)) (.const (.slice none 0 0)) t2)) (env := []) (hv H00) (hv H00) hn).2;simp only [SV.enc, Ty.fv, fvo];show vZ P .neq t t2 (fvv (.slice none 0 0)) (fvv (.slice none 0 0)) ph = _;unfold vZ;rw [show pl (fvv (.slice none 0 0)) = some (.slice none 0 0) from rfl];simp only [this];rfl
    | cons x xs =>
      have hn : qGF P t (.f (fvo el k (x :: xs))) (fvv (.slice none 0 0)) ph = some false := by
       simp only [qGF, fvv, h1, cond_true, fvo, zLF, zMG, isNil]
      constructor
      ·simp only [SV.enc, Ty.fv];show uD P t (.f (fvo el k (x :: xs))) (fvv (.slice none 0 0)) ph _ = _;unfold uD;rw [hn]; rfl
      ·simp only [SV.enc, Ty.fv];show uD P t (.f (fvo el k (x :: xs))) (fvv (.slice none 0 0)) ph _ = _;unfold uD;rw [hn]; rfl
 ·cases e
def q3I (P : Program) (t : TypeId) (x y : SV) : Option Bool := match x, y with
 | .d (.list _ u) xs, .c (.slice none 0 0) => cond ((zW P t).isSome && Nat.blt 0 u.w) (some (List.isEmpty xs)) none
 | _, _ => none
theorem sV (e : q3I P t x y = some b) :
 (b = true -> vZ P .eql t t2 x.enc y.enc ph = some .bq ∧ vZ P .neq t t2 x.enc y.enc ph = some .bq) ∧ (b = false -> vZ P .eql t t2 x.enc y.enc ph = some (fvv (.bool false)) ∧ vZ P .neq t t2 x.enc y.enc ph = some (fvv (.bool true))) := by
 unfold q3I at e;split at e
 case h_2 => cases e
 rename_i el u xs
 cases h1 : ((zW P t).isSome && Nat.blt 0 u.w) with
 | false => rw [h1] at e; cases e
 | true =>
   rw [h1] at e;cases e;rw [zKI] at h1;obtain ⟨h1, h2⟩ := h1;have h2 : 0 < u.w := zKS h2
   cases xs with
   | nil =>
     have hq : qQ5 P t (.f (.l el 0 [])) (fvv (.slice none 0 0)) = some .bq := by simp only [qQ5, fvv, h1, cond_true]
     have hn : qGF P t (.f (.l el 0 [])) (fvv (.slice none 0 0)) ph = none := by simp only [qGF, fvv, h1, cond_true, isNil]
     refine ⟨fun _ => ?_, fun h => (by cases h)⟩;simp only [SV.enc, Ty.fv, List.flatMap_nil, zNM];constructor
     ·show uD P t (.f (.l el 0 [])) (fvv (.slice none 0 0)) ph _ = _;unfold uD; rw [hn]; exact hq
     ·show uD P t (.f (.l el 0 [])) (fvv (.slice none 0 0)) ph _ = _;unfold uD; rw [hn]; exact hq
   | cons x xs =>
     refine ⟨fun h => (by cases h), fun _ => ?_⟩
     obtain ⟨c, cs, hcs⟩ : ∃ c cs, List.flatMap u.cells (x :: xs) = c :: cs := by
      cases hf : List.flatMap u.cells (x :: xs) with
      | nil =>
        have := congrArg List.length hf;rw [yR, zK1, zM1] at this;simp at this;omega
      | cons c cs => exact ⟨c, cs, rfl⟩
     have hn : qGF P t (.f (.l el (xs.length + 1) (c :: cs))) (fvv (.slice none 0 0)) ph = some false := by simp only [qGF, fvv, h1, cond_true, isNil]
     simp only [SV.enc, Ty.fv, hcs, zK1];constructor
     ·show uD P t (.f (.l el (xs.length + 1) (c :: cs))) (fvv (.slice none 0 0)) ph _ = _;unfold uD; rw [hn]
     ·show uD P t (.f (.l el (xs.length + 1) (c :: cs))) (fvv (.slice none 0 0)) ph _ = _;unfold uD; rw [hn]; rfl
def q3T (P : Program) (op : BinOp) (t t2 ty : TypeId) (x y : SV) (h : SH) (K : SV -> zAN R) : zAN R := match q9I P t x y h, op with
 | some b, .eql => K (.d .bool b)
 | some b, .neq => K (.d .bool (!b))
 | _, _ => qQF P op t t2 ty x y K
def q4H (P : Program) (op : BinOp) (t t2 ty : TypeId) (x y : SV) (h : SH) (K : SV -> zAN R) : zAN R := match q3I P t x y, op with
 | some b, .eql => .ite b (K .bq) (K (.d .bool false))
 | some b, .neq => .ite b (K .bq) (K (.d .bool true))
 | _, _ => q3T P op t t2 ty x y h K
def q8N (P : Program) (op : BinOp) (t t2 ty : TypeId) (x y : SV) (h : SH) (K : SV -> zAN R) : zAN R := match asI x, asI y with
 | some (k, a), some (k', b) => cond (decide (k = k')) (sint op k a b K (qQF P op t t2 ty x y K)) (qQF P op t t2 ty x y K)
 | _, _ => (match asS x, asS y with
   | some a, some b => q9R op a b K (qQF P op t t2 ty x y K)
   | _, _ => (match q2S P t x y, op with
     | some b, .eql => K (.d .bool b)
     | some b, .neq => K (.d .bool (!b))
     | _, _ => q4H P op t t2 ty x y h K))
theorem sP {K : SV -> zAN R} (e : (qQF P op t t2 ty x y K).run = some r) : ∃ v, vZ P op t t2 x.enc y.enc (qE h.l) = some v.enc ∧ v.ok h ∧ (K v).run = some r := by
 unfold qQF at e;split at e
 ·rename_i a b u ha hb hu;obtain ⟨z, hz, e1⟩ := run_bind e;refine ⟨_, ?_, by simp [SV.ok], e1⟩;rw [q1S (vP ha) (vP hb)];exact qOR hz
 ·cases e
theorem qZB {K : SV -> zAN R} (ho : OkH P h) (hx : x.ok h) (e : (q3T P op t t2 ty x y h K).run = some r) : ∃ v, vZ P op t t2 x.enc y.enc (qE h.l) = some v.enc ∧ v.ok h ∧ (K v).run = some r := by
 unfold q3T at e;split at e
 ·rename_i b hs;obtain ⟨h1, h2⟩ := qV1 ho hx hs;refine ⟨_, ?_, by simp [SV.ok], e⟩;unfold vZ;rw [h2];simp [uD, h1, SV.enc, Ty.fv, fvv]
 ·rename_i b hs;obtain ⟨h1, h2⟩ := qV1 ho hx hs;refine ⟨_, ?_, by simp [SV.ok], e⟩;unfold vZ;rw [h2];simp [uD, h1, SV.enc, Ty.fv, fvv]
 ·exact sP e
theorem qZV {K : SV -> zAN R} (ho : OkH P h) (hx : x.ok h) (e : (q4H P op t t2 ty x y h K).run = some r) : ∃ v, vZ P op t t2 x.enc y.enc (qE h.l) = some v.enc ∧ v.ok h ∧ (K v).run = some r := by
 unfold q4H at e;split at e
 ·rename_i b hs
  rcases run_ite e with ⟨z, e1⟩ | ⟨z, e1⟩
  ·exact ⟨.bq, by rw [((sV hs).1 z).1]; simp [SV.enc], by simp [SV.ok], e1⟩
  ·exact ⟨.d .bool false, by rw [((sV hs).2 z).1]; simp [SV.enc, Ty.fv, fvv], by simp [SV.ok], e1⟩
 ·rename_i b hs
  rcases run_ite e with ⟨z, e1⟩ | ⟨z, e1⟩
  ·exact ⟨.bq, by rw [((sV hs).1 z).2]; simp [SV.enc], by simp [SV.ok], e1⟩
  ·exact ⟨.d .bool true, by rw [((sV hs).2 z).2]; simp [SV.enc, Ty.fv, fvv], by simp [SV.ok], e1⟩
 ·exact qZB ho hx e
theorem q33 {K : SV -> zAN R} (ho : OkH P h) (hx : x.ok h) (e : (q8N P op t t2 ty x y h K).run = some r) : ∃ v, vZ P op t t2 x.enc y.enc (qE h.l) = some v.enc ∧ v.ok h ∧ (K v).run = some r := by
 unfold q8N at e;split at e
 ·rename_i k a k' b ha hb
  cases hk : decide (k = k') with
  | false => rw [hk] at e; exact sP e
  | true =>
    rw [hk] at e;have hkk : k = k' := by simpa using hk
    subst hkk;simp only [cond_true] at e;have ha' := yL ha;have hb' := yL hb
    have fin : ∀ {v : SV}, vZ P op t t2 (fvv (.int k a)) (fvv (.int k b)) (qE h.l) = some v.enc -> v.ok h -> (K v).run = some r -> ∃ v, vZ P op t t2 x.enc y.enc (qE h.l) = some v.enc ∧ v.ok h ∧ (K v).run = some r := fun h1 h2 h3 => ⟨_, by rw [ha', hb']; exact h1, h2, h3⟩
    unfold sint at e;split at e
    ·exact fin (v := .d .bool (decide (a < b))) q7H (by simp [SV.ok]) e
    ·exact fin (v := .d .bool (decide (a <= b))) q6V (by simp [SV.ok]) e
    ·exact fin (v := .d .bool (decide (b < a))) q7F (by simp [SV.ok]) e
    ·exact fin (v := .d .bool (decide (b <= a))) q7G (by simp [SV.ok]) e
    ·exact fin (v := .d .bool (a == b)) q6J (by simp [SV.ok]) e
    ·exact fin (v := .d .bool (a != b)) q7V (by simp [SV.ok]) e
    ·exact fin (v := .d (.int k) (k.wrap (a + b))) q62 (by simp [SV.ok]) e
    ·exact fin (v := .d (.int k) (k.wrap (a - b))) q59 (by simp [SV.ok]) e
    ·exact fin (v := .d (.int k) (k.wrap (a * b))) q7O (by simp [SV.ok]) e
    ·obtain ⟨c, hc, e1⟩ := run_bind e;exact fin (v := .d (.int k) c) (q7C hc) (by simp [SV.ok]) e1
    ·obtain ⟨c, hc, e1⟩ := run_bind e;exact fin (v := .d (.int k) c) (q7K hc) (by simp [SV.ok]) e1
    ·exact sP e
 ·split at e
  ·rename_i a b ha hb;have ha' := gW ha;have hb' := gW hb;unfold q9R at e;split at e
   ·rcases run_ite e with ⟨z, e1⟩ | ⟨z, e1⟩
    ·exact ⟨.d .str (a ++ b), by rw [ha', hb', q30 (zKS z)]; simp [SV.enc, Ty.fv, fvv], by simp [SV.ok], e1⟩
    ·cases e1
   ·exact ⟨.d .bool (a.toList == b.toList), by rw [ha', hb', q1T]; simp [SV.enc, Ty.fv, fvv], by simp [SV.ok], e⟩
   ·exact ⟨.d .bool (!(a.toList == b.toList)), by rw [ha', hb', q37]; simp [SV.enc, Ty.fv, fvv], by simp [SV.ok], e⟩
   ·exact sP e
  split at e
  ·rename_i b hs;exact ⟨_, by rw [(qOX hs).1]; simp [SV.enc, Ty.fv, fvv], by simp [SV.ok], e⟩
  ·rename_i b hs;exact ⟨_, by rw [(qOX hs).2]; simp [SV.enc, Ty.fv, fvv], by simp [SV.ok], e⟩
  exact qZV ho hx e
def qWE (P : Program) (mk : Operand -> Op) (ty : TypeId) (x : SV) (K : SV -> zAN R) : zAN R := match qDN x, qDY P 8 ty with
 | some a, some u => .bind (u.zD6 (aB P mk (fvv a))) fun z => K (.d u z)
 | _, _ => .fail
theorem qPB {mk : Operand -> Op} {K : SV -> zAN R} (e : (qWE P mk ty x K).run = some r) : ∃ v, aB P mk x.enc = some v.enc ∧ v.ok h ∧ (K v).run = some r ∧ ∃ a, qDN x = some a := by
 unfold qWE at e;split at e
 ·rename_i a u ha hu;obtain ⟨z, hz, e1⟩ := run_bind e;exact ⟨_, by rw [pK ha]; exact qOR hz, by simp [SV.ok], e1, a, ha⟩
 ·cases e
def sun (P : Program) (op : UnOp) (t ty : TypeId) (x : SV) (K : SV -> zAN R) : zAN R := match op, asI x, asB x with
 | .neg, some (k, a), _ => K (.d (.int k) (k.wrap (0 - a)))
 | .not, _, some b => K (.d .bool (!b))
 | _, _, _ => qWE P (fun a => .unOp op t a) ty x K
omit [Yl] in
theorem q19 {x : Int} : aB P (fun a => .unOp .neg t a) (fvv (.int k x)) = some (fvv (.int k (k.wrap (0 - x)))) := rfl
theorem q64 {op : UnOp} {K : SV -> zAN R} (e : (sun P op t ty x K).run = some r) : ∃ v, aB P (fun a => .unOp op t a) x.enc = some v.enc ∧ v.ok h ∧ (K v).run = some r := by
 unfold sun at e;split at e
 ·rename_i k a ha;exact ⟨_, by rw [yL ha, q19]; simp [SV.enc, Ty.fv, fvv], by simp [SV.ok], e⟩
 ·rename_i b hb;exact ⟨_, by rw [o7 hb, q7R]; simp [SV.enc, Ty.fv, fvv], by simp [SV.ok], e⟩
 ·obtain ⟨v, h1, h2, h3, _⟩ := qPB (h := h) e;exact ⟨v, h1, h2, h3⟩
def eP (env : List SV) (l : Array Operand) : List SV := l.toList.map (xM env)
theorem aV (env : List SV) (l : Array Operand) : l.toList.map (qJ (qB env)) = qB (eP env l) := by
 unfold eP;rw [qY (l.toList.map (xM env)), zNY];exact zLU fun x _ => qM env x
omit [Yl] in
theorem bO (ho : okL h env) (l : Array Operand) : okL h (eP env l) := yC.2 fun x hx => by
 obtain ⟨q, _, rfl⟩ := zLC.1 hx;exact pJ ho _
def smm (lo : Bool) (x y : SV) (K : SV -> zAN R) : zAN R := match asI x, asI y with
 | some (k, a), some (k', b) => cond (decide (k = k')) (K (.d (.int k) (cond lo (cond (decide (b < a)) b a) (cond (decide (a < b)) b a)))) .fail
 | _, _ => .fail
omit [Yl] in
theorem dmin {x y : Operand} {b : Int} {env : Env} (hx : env.val x = .int k a) (hy : env.val y = .int k b) :
 qV0 (kK P (cop (.call ⟨.builtin .min, #[x, y], ts⟩) ty) env H00) = some (fvv (.int k (if b < a then b else a))) := by
 have h2 : kG env.val (cop (.call ⟨.builtin .min, #[x, y], ts⟩) ty).op.operands.toList = [env.val x, env.val y] := rfl;unfold kK;rw [h2];simp only [cop, execOp, resolve, List.map_toArray, zKZ, zMU, hx, hy];rfl
omit [Yl] in
theorem dmax {x y : Operand} {b : Int} {env : Env} (hx : env.val x = .int k a) (hy : env.val y = .int k b) :
 qV0 (kK P (cop (.call ⟨.builtin .max, #[x, y], ts⟩) ty) env H00) = some (fvv (.int k (if a < b then b else a))) := by
 have h2 : kG env.val (cop (.call ⟨.builtin .max, #[x, y], ts⟩) ty).op.operands.toList = [env.val x, env.val y] := rfl;unfold kK;rw [h2];simp only [cop, execOp, resolve, List.map_toArray, zKZ, zMU, hx, hy];rfl
omit [Yl] in
theorem qTE {p : Prop} [Decidable p] {α : Type} {x y : α} : cond (decide p) x y = if p then x else y := by
 by_cases h : p <;> simp [h]
theorem q1Q {lo : Bool} {c : Call} {K : SV -> zAN R} (hl : eP env c.args = [x, y]) (hc : c.callee = .builtin (cond lo .min .max)) (e : (smm lo x y K).run = some r) :
 ∃ v, vI P (cond lo .min .max) c [x.enc, y.enc] (qB env) ty (qE h.l) = some (v.enc, qE h.l) ∧ v.ok h ∧ (K v).run = some r := by
 unfold smm at e;split at e
 ·rename_i k a k' b ha hb
  cases hk : decide (k = k') with
  | false => rw [hk] at e; cases e
  | true =>
    rw [hk] at e;have : k = k' := by simpa using hk
    subst this;have e1 := yL ha;have e2 := yL hb;refine ⟨_, ?_, by simp [SV.ok], e⟩;obtain ⟨cal, args, ts⟩ := c;simp only at hc hl;subst hc;unfold eP at hl
    have hal : ∃ p q, args = #[p, q] ∧ xM env p = x ∧ xM env q = y := by
     obtain ⟨l⟩ := args
     match l, hl with
     | [p, q], hl => simp at hl; exact ⟨p, q, rfl, hl.1, hl.2⟩
    obtain ⟨p, q, rfl, hp, hq⟩ := hal;have vp : (qQ4 (qB env)).val p = .int k a := bS P (by rw [qM, hp, e1]; rfl);have vq : (qQ4 (qB env)).val q = .int k b := bS P (by rw [qM, hq, e2]; rfl);unfold vI;rw [e1, e2];have hpl : plL [fvv (.int k a), fvv (.int k b)] = some [.int k a, .int k b] := rfl;rw [hpl]
    cases lo with
    | true =>
      simp only [cond_true];rw [dmin vp vq, qTE];simp [pp1, SV.enc, Ty.fv, fvv]
    | false =>
      simp only [cond_false];rw [dmax vp vq, qTE];simp [pp1, SV.enc, Ty.fv, fvv]
 ·cases e
def q12 (P : Program) (ts : Array TypeId) (x : SV) (h : SH) : Option SV := match rR P x.enc (qE h.l) with
 | some _ => none
 | none => q81 P ts x h
theorem qXY {v : SV} (ho : OkH P h) (hx : x.ok h) (e : q12 P ts x h = some v) : qCR P ts x.enc (qE h.l) = some v.enc ∧ v.ok h := by
 unfold q12 at e;split at e
 ·cases e
 ·rename_i hn;unfold qCR;rw [hn];exact q1X ho hx e
theorem qRG {lo hi : Option Operand} {K : SV -> zAN R} (e : (qSA P t s (lo.map (xM env)) (hi.map (xM env)) K).run = some r) :
 ∃ v, qLC P (.slice t (.const (.string s)) (lo.map fun a => .const ((pl (qJ (qB env) a)).getD undef)) (hi.map fun a => .const ((pl (qJ (qB env) a)).getD undef)) none) = some v.enc ∧ v.ok h ∧ (K v).run = some r ∧ (plL ((lo.toList ++ hi.toList).map (qJ (qB env)))).isSome = true := by
 obtain ⟨c, e1⟩ := qG e;obtain ⟨b, hb, _, e2⟩ := uH e1;obtain ⟨a, ha, _, e3⟩ := uH e2;have m : ∀ o : Option Operand, (o.map (xM env)).map SV.enc = o.map (qJ (qB env)) := fun o => by cases o <;> simp [qM]
 rw [m] at hb ha;refine ⟨.d .str (s.extract a b), by rw [qYM (qDL c) hb ha]; simp [SV.enc, Ty.fv, fvv], by simp [SV.ok], e3, ?_⟩
 have one : ∀ {o : Option Operand} {d most n : Nat}, bnd d most (o.map (qJ (qB env))) = some n -> o = none ∨ ∃ a k i, o = some a ∧ qJ (qB env) a = fvv (.int k i) := fun {o d most n} h => by
  rcases qUL h with ⟨q, _⟩ | ⟨k, i, q, _⟩
  ·cases o with
   | none => exact .inl rfl
   | some a => cases q
  ·cases o with
   | none => cases q
   | some a => exact .inr ⟨a, k, i, rfl, by simpa using q⟩
 rcases one hb with rfl | ⟨x, k, i, rfl, hx⟩ <;> rcases one ha with rfl | ⟨y, k', i', rfl, hy⟩ <;> simp_all [plL, fvv, pl]
theorem qQ8 {ix : SV} {K : SV -> zAN R} (e : (qL4 P t s ix K).run = some r) :
 ∃ v k i, ix.enc = fvv (.int k i) ∧ qLC P (.index t (.const (.string s)) (.const (.int k i))) = some v.enc ∧ v.ok h ∧ (K v).run = some r := by
 unfold qL4 at e;split at e
 ·rename_i k i hi;obtain ⟨c, e1⟩ := qG e;obtain ⟨b, hb, e2⟩ := run_bind e1;exact ⟨.d (.int .u8) b, k, i, yL hi, by rw [qY7 (qDL c) hb]; simp [SV.enc, Ty.fv, fvv], by simp [SV.ok], e2⟩
 ·cases e
theorem qZ9 {s d : TypeId} {K : SV -> zAN R} {F : zAN R} (e : (qZ3 P s d x K F).run = some r) : (∃ v, aB P (fun a => .convert s d a) x.enc = some v.enc ∧ v.ok h ∧ (K v).run = some r) ∨ F.run = some r := by
 unfold qZ3 at e;split at e
 ·rename_i u k' hs hd;split at e
  ·rename_i k a ha;exact .inl ⟨_, by rw [yL ha, q4X hs hd]; simp [SV.enc, Ty.fv, fvv], by simp [SV.ok], e⟩
  ·exact .inr e
 ·rename_i u hs hd;split at e
  ·rename_i a ha;exact .inl ⟨_, by rw [gW ha, qW4 hs hd]; simp [SV.enc, Ty.fv, fvv], by simp [SV.ok], e⟩
  ·exact .inr e
 ·exact .inr e
def qIV (env : List SV) (parts : Array (Nat × Operand)) : List (Nat × SV) := parts.toList.map fun p => (p.1, xM env p.2)
theorem qC7 (env : List SV) (parts : Array (Nat × Operand)) : (parts.toList.map fun p => (p.1, qJ (qB env) p.2)) = q5N (qIV env parts) := by
 simp [qIV, q5N, qM]
omit [Yl] in
theorem qHP {env : List SV} (ho : okL h env) (parts : Array (Nat × Operand)) : ∀ p ∈ qIV env parts, p.2.ok h := fun p hp => by
 obtain ⟨q, _, rfl⟩ := zLC.1 hp;exact pJ ho _
def qSZ : Operand -> Operand -> Bool
 | .tmp i, .tmp j => Nat.beq i j
 | .const (.int k a), .const (.int k' b) => decide (k = k') && decide (a = b)
 | _, _ => false
omit [Yl] in
theorem qT3 {a b : Operand} (e : qSZ a b = true) : a = b := by
 unfold qSZ at e;split at e
 ·rw [zKJ e]
 ·rw [zKI] at e;have h1 := of_decide_eq_true e.1;have h2 := of_decide_eq_true e.2;rw [h1, h2]
 ·cases e
def gv (o : Option SV) (h : SH) (K : SV -> SH -> zAN R) : zAN R := match o with
 | some v => K v h
 | none => .fail
def sop (P : Program) (o : Oper) (env : List SV) (k : Nat) (h : SH) (K : SV -> SH -> zAN R) : zAN R := match o.op with
 | .move x => K (xM env x) h
 | .assign x => K (xM env x) h
 | .pick c a b => (match asB (xM env c) with
   | some t => .ite t (K (xM env a) h) (K (xM env b) h)
   | none => .fail)
 | .alloc el => qUQ P el k h K
 | .box el x => q9P P el (xM env x) k h K
 | .build t parts => gv (qTG P t (qIV env parts)) h K
 | .buildSlice t len parts => eU P t len (qIV env parts) k h K
 | .load t a => q4C P t (xM env a) h fun v => K v h
 | .store t a x => qTI P t (xM env a) (xM env x) h K
 | .binOp op t x y t2 => q8N P op t t2 o.type (xM env x) (xM env y) h fun v => K v h
 | .unOp op t x => sun P op t o.type (xM env x) fun v => K v h
 | .convert s d x => cond (qQP (xM env x).enc) .fail (qZ3 P s d (xM env x) (fun v => K v h) (qWE P (fun a => .convert s d a) o.type (xM env x) fun v => K v h))
 | .makeFunc fn first cap => gv (qBZ fn (eP env first) (eP env cap)) h K
 | .makeSlice t l c => cond (qSZ l c) (q26 P t (xM env l) k h K) .fail
 | .slice t x lo hi none => (match asS (xM env x) with
   | some s => qSA P t s (lo.map (xM env)) (hi.map (xM env)) fun v => K v h
   | none => qRX P t (xM env x) (lo.map (xM env)) (hi.map (xM env)) h fun v => K v h)
 | .fieldAddr t x i => gv (pV P t (xM env x) i h) h K
 | .indexAddr t x ix => pE P t (xM env x) (xM env ix) h fun v => K v h
 | .index t x ix => (match asS (xM env x) with
   | some s => qL4 P t s (xM env ix) fun v => K v h
   | none => qSM P t (xM env x) (xM env ix) fun v => K v h)
 | .extract t i => gv (qE4 (xM env t) i) h K
 | .makeMap _ none => qOK P k h K
 | .lookup t m kx ok => qKV P t (xM env m) (xM env kx) ok h fun v => K v h
 | .mapUpdate t m kx x => p8 P t (xM env m) (xM env kx) (xM env x) h K
 | .mapEntry t m kx => qB4 P t (xM env m) (xM env kx) h K
 | .call c => (match c.callee, eP env c.args with
   | .builtin .append, [x, y] => qM2 P c.argTypes.toList x y k h K
   | .builtin .len, [x] => cond (qWU P c.argTypes) (match asS x with
     | some s => K (.d (.int .i64) (s.size : Int)) h
     | none => .fail) (match q4K P c.argTypes x h with
     | some v => K v h
     | none => gv (q12 P c.argTypes x h) h K)
   | .builtin .min, [x, y] => smm true x y fun v => K v h
   | .builtin .max, [x, y] => smm false x y fun v => K v h
   | _, _ => .fail)
 | _ => .fail
omit [Yl] in
theorem qUT {o : Option SV} {K : SV -> SH -> zAN R} (e : (gv o h K).run = some r) : ∃ v, o = some v ∧ (K v h).run = some r := by
 unfold gv at e;split at e
 ·exact ⟨_, rfl, e⟩
 ·cases e
theorem q0Z {k : Nat} {K : SV -> SH -> zAN R} (ho : OkH P h) (he : okL h env) (e : (sop P o env k h K).run = some r) :
 ∃ v h', o9 P o (qB env) k (qE h.l) = some (v.enc, qE h'.l) ∧ Post P h h' v ∧ (K v h').run = some r := by
 have same : ∀ {v : SV}, v.ok h -> Post P h h v := fun hv => ⟨.refl _, ho, hv⟩
 have sv := fun x => pJ (h := h) he x
 unfold sop at e;unfold o9;split at e
 ·rename_i x ho';exact ⟨_, _, by simp only [ho', qM], same (sv x), e⟩
 ·rename_i x ho';exact ⟨_, _, by simp only [ho', qM], same (sv x), e⟩
 ·rename_i c a b ho';split at e
  ·rename_i t ht;have h1 := o7 ht
   rcases run_ite e with ⟨z, e1⟩ | ⟨z, e1⟩
   ·exact ⟨_, _, by simp only [ho', qM, h1, fvv, z, cond_true], same (sv a), e1⟩
   ·exact ⟨_, _, by simp only [ho', qM, h1, fvv, z, cond_false], same (sv b), e1⟩
  ·cases e
 ·rename_i el ho';rw [ho'];exact qR7 ho e
 ·rename_i el x ho';rw [ho'];simp only [qM];exact q3F ho (sv x) e
 ·rename_i t parts ho';rw [ho'];obtain ⟨v, h1, h2⟩ := qUT e;have h3 := qVM (qHP he parts) h1;exact ⟨v, h, by simp only [qC7, h3.1, pp1], same h3.2, h2⟩
 ·rename_i t len parts ho';rw [ho'];simp only [qC7];exact qCT ho (qHP he parts) e
 ·rename_i t a ho';rw [ho'];obtain ⟨v, h1, h2, h3⟩ := qZU ho (sv a) e;exact ⟨v, h, by simp only [qM, h1, pp1], same h2, h3⟩
 ·rename_i t a x ho';rw [ho'];obtain ⟨h', h1, h2, h3, h4⟩ := qSI ho (sv a) (sv x) e;exact ⟨_, h', by simp only [qM, h1, ppS]; simp [SV.enc, qB], ⟨h2, h3, by simp [SV.ok, okL]⟩, h4⟩
 ·rename_i op t x y t2 ho';rw [ho'];obtain ⟨v, h1, h2, h3⟩ := q33 ho (sv x) e;exact ⟨v, h, by simp only [qM, h1, pp1], same h2, h3⟩
 ·rename_i op t x ho';rw [ho'];obtain ⟨v, h1, h2, h3⟩ := q64 (h := h) e;exact ⟨v, h, by simp only [qM, h1, pp1], same h2, h3⟩
 ·rename_i s d x ho';rw [ho']
  cases hp : qQP (xM env x).enc with
  | true => rw [hp] at e; cases e
  | false =>
    rw [hp] at e;have e1 : (qZ3 P s d (xM env x) (fun v => K v h) (qWE P (fun a => .convert s d a) o.type (xM env x) fun v => K v h)).run = some r := e;rcases qZ9 (h := h) e1 with ⟨v, h1, h2, h3⟩ | e1
    ·exact ⟨v, h, by simp only [qM, hp, cond_false, h1, pp1], same h2, h3⟩
    ·obtain ⟨v, h1, h2, h3, _⟩ := qPB (h := h) e1;exact ⟨v, h, by simp only [qM, hp, cond_false, h1, pp1], same h2, h3⟩
 ·rename_i fn first cap ho'
  rw [ho'];obtain ⟨v, h1, h2⟩ := qUT e;have h3 := qH1 (bO he first) (bO he cap) h1;exact ⟨v, h, by simp only [aV, h3.1, pp1], same h3.2, h2⟩
 ·rename_i t l c ho';rw [ho'];obtain ⟨h1, h2⟩ := qG e;have := qT3 h1;subst this;simp only [qM];exact qZR ho h2
 ·rename_i t x lo hi ho';rw [ho'];split at e
  ·rename_i s hs;obtain ⟨v, h1, h2, h3, h4⟩ := qRG (h := h) e;obtain ⟨vs, hvs⟩ := zLJ.1 h4;refine ⟨v, h, ?_, same h2, h3⟩;have hx : qJ (qB env) x = .f (.v (.string s)) := by rw [qM]; exact gW hs
   simp only [hx, hvs, h1, pp1]
  obtain ⟨v, h1, h2, h3⟩ := qWH ho (sv x) e;refine ⟨v, h, ?_, same h2, h3⟩;have m : ∀ o : Option Operand, o.map (qJ (qB env)) = (o.map (xM env)).map SV.enc := fun o => by cases o <;> simp [qM]
  simp only [qM, m]
  have ns : ∀ s, (xM env x).enc ≠ .f (.v (.string s)) := fun s hs => by
   rw [hs] at h1;simp only [wX] at h1;cases h1
  split
  ·rename_i s hs; exact absurd hs (ns s)
  ·rw [h1]; rfl
 ·rename_i t x i ho';rw [ho'];obtain ⟨v, h1, h2⟩ := qUT e;have h3 := qFU (sv x) h1;exact ⟨v, h, by simp only [qM, h3.1, pp1], same h3.2, h2⟩
 ·rename_i t x ix ho';rw [ho'];obtain ⟨v, h1, h2, h3⟩ := qGN ho (sv x) e;exact ⟨v, h, by simp only [qM, h1, pp1], same h2, h3⟩
 ·rename_i t x ix ho';rw [ho'];split at e
  ·rename_i s hs;obtain ⟨v, k', i, h0, h1, h2, h3⟩ := qQ8 (h := h) e;refine ⟨v, h, ?_, same h2, h3⟩;have hx := gW hs;have hpl : pl (fvv (.int k' i)) = some (.int k' i) := rfl;simp only [qM, hx, h0, hpl];simp only [fvv, h1, pp1]
  obtain ⟨v, h1, h2, h3, l, hl⟩ := qUE (sv x) e;refine ⟨v, h, ?_, same h2, h3⟩;simp only [qM];rw [hl] at h1 ⊢;simp only [SV.enc] at h1 ⊢;rw [h1];rfl
 ·rename_i t i ho';rw [ho'];obtain ⟨v, h1, h2⟩ := qUT e;have h3 := qMG (sv t) h1;exact ⟨v, h, by simp only [qM, h3.1, pp1], same h3.2, h2⟩
 ·rename_i ho';rw [ho'];exact qLM ho e
 ·rename_i t m kx ok ho';rw [ho'];obtain ⟨v, h1, h2, h3⟩ := qQS e;exact ⟨v, h, by simp only [qM, h1, pp1], same h2, h3⟩
 ·rename_i t m kx x ho';rw [ho'];obtain ⟨h', h1, h2, h3, h4⟩ := qGB ho e;exact ⟨_, h', by simp only [qM, h1, ppS]; simp [SV.enc, qB], ⟨h2, h3, by simp [SV.ok, okL]⟩, h4⟩
 ·rename_i t m kx ho';rw [ho'];simp only [qM];exact qHS ho e
 ·rename_i c ho';rw [ho'];have ha := aV env c.args;have hao := bO he c.args;split at e
  ·rename_i x y hc hl;rw [hl] at ha hao;simp only [okL] at hao;simp only [hc, ha, qB, uT];exact qRD ho hao.1 hao.2.1 e
  ·rename_i x hc hl;rw [hl] at ha hao;simp only [okL] at hao
   cases hst : qWU P c.argTypes with
   | true =>
     rw [hst] at e;simp only [cond_true] at e;split at e
     ·rename_i s hs;refine ⟨_, h, ?_, same (by simp [SV.ok]), e⟩;obtain ⟨cal, args, ts⟩ := c;simp only at hc hl hst;subst hc
      obtain ⟨p, rfl, hp⟩ : ∃ p, args = #[p] ∧ xM env p = x := by
       unfold eP at hl;obtain ⟨l⟩ := args
       match l, hl with
       | [p], hl => simp at hl; exact ⟨p, rfl, hl⟩
      have vp : (qQ4 (qB env)).val p = .string s := bS P (by rw [qM, hp, gW hs]; rfl);simp only [uT, ha, qB, hst, cond_true];unfold vI;have hpl : plL [x.enc] = some [.string s] := by rw [gW hs]; rfl
      rw [hpl];simp only;rw [qOW hst vp];simp [pp1, SV.enc, Ty.fv, fvv]
     ·cases e
   | false =>
     rw [hst] at e;simp only [cond_false] at e;split at e
     ·rename_i v hv;have h3 := qZ4 hv;refine ⟨v, h, ?_, same h3.2, e⟩;simp only [hc, ha, qB, uT, hst, cond_false, h3.1, pp1]
     obtain ⟨v, h1, h2⟩ := qUT e;have h3 := qXY ho hao.1 h1;refine ⟨v, h, ?_, same h3.2, h2⟩;simp only [hc, ha, qB, uT, hst, cond_false, h3.1, pp1]
  ·rename_i x y hc hl;rw [hl] at ha;obtain ⟨v, h1, h2, h3⟩ := q1Q (h := h) (lo := true) (ty := o.type) hl hc e;exact ⟨v, h, by simp only [hc, ha, qB, uT]; exact h1, same h2, h3⟩
  ·rename_i x y hc hl;rw [hl] at ha;obtain ⟨v, h1, h2, h3⟩ := q1Q (h := h) (lo := false) (ty := o.type) hl hc e;exact ⟨v, h, by simp only [hc, ha, qB, uT]; exact h1, same h2, h3⟩
  ·cases e
 ·cases e
def q8S (P : Program) (o : Oper) (env : List SV) (k : Nat) (h : SH) (K : SV -> SH -> zAN R) : zAN R := match o.op with
 | .entry it => qSF P (xM env it) h K
 | _ => sop P o env k h K
theorem q3J {k : Nat} {K : SV -> SH -> zAN R} (ho : OkH P h) (he : okL h env) (e : (q8S P o env k h K).run = some r) :
 ∃ v h', q0E P o (qB env) k (qE h.l) = some (v.enc, qE h'.l) ∧ Post P h h' v ∧ (K v h').run = some r := by
 unfold q8S at e;split at e
 ·rename_i it ho';obtain ⟨v, h1, h2, h3⟩ := qS0 ho e;refine ⟨v, h, ?_, ⟨.refl _, ho, h2⟩, h3⟩;unfold q0E;rw [ho'];simp only [qM, h1, pp1]
 ·obtain ⟨v, h', h1, h2, h3⟩ := q0Z ho he e;exact ⟨v, h', qTB h1, h2, h3⟩
end
end Go.Sv
namespace Go.Sv
open Go.Idl
variable {as : List SV} {el ty : TypeId} {g : FuncId} {h' : SH} {k m n o : Nat} {v : SV}
noncomputable section
variable [Gc]
variable [Yl]
variable {P : Program} {h : SH} {R : Type} {r : R} {tab : uL}
omit [Yl] in
theorem qGY : ∀ (cs : List FV) (ph : PHp) (n : Nat), qDK (fz1 P n) (cs.map .f) ph = some (cs, ph)
 | [], ph, n => rfl
 | c :: cs, ph, n => by
   have e : fz1 P n ph (.f c) = some (c, ph) := by cases n <;> rfl
   show (match fz1 P n ph (.f c) with
    | some (y, ph1) => (match qDK (fz1 P n) (cs.map .f) ph1 with
      | some (ys, ph2) => some (y :: ys, ph2)
      | none => none)
    | none => none) = _
   rw [e];simp only [qGY cs ph n]
theorem q2F {gr : Bool} {g w : Nat} {t : Ty} {xs : List t.sem} (ho : OkH P h) (hk : slk k h.l = some (.list el gr g w t xs)) (hn : n = xs.length) (hom : o + m <= n) :
 fz1 P 4 (qE h.l) (.own k n o m) = some (.l el m (((xs.drop o).take m).flatMap t.cells), qE (h.del k).l) := by
 have hl := ho.list _ _ _ _ _ _ _ hk;simp only [fz1, yY hk];rw [show (SO.list el gr g w t xs).enc.el = el from rfl, hl.2.1];simp only [qV, hn, rO, cond_true];rw [show (SO.list el gr g w t xs).enc.cs = (xs.flatMap t.cells).map .f from rfl, <- zMW, <- zMX, aJ, oO, qGY];show some _ = some (_, qE (sdl k h.l));rw [nQ]
def q74 (el : TypeId) (t : Ty) (k g : Nat) (f : List t.sem -> List t.sem) (h : SH) : Option (List t.sem × SH) := match slk k h.l with
 | some (.list el' _ g' _ u xs) => cond (Nat.beq el' el && Nat.beq g g') (match qFE u t xs with
   | some xs => some (f xs, h.del k)
   | none => none) none
 | _ => none
def q97 (P : Program) (ty el : TypeId) (t : Ty) (h : SH) : Option (List t.sem × SH) := match zW P ty with
 | some el' => cond (Nat.beq el' el) (some ([], h)) none
 | none => none
def q6F (P : Program) (ty el el' : TypeId) (k' : IntKind) (xs : List Int) : (t : Ty) -> Option (List t.sem)
 | .int k => cond (Nat.beq el' el && decide (k' = k)) (match zW P ty with
   | some e => cond (Nat.beq e el) (some xs) none
   | none => none) none
 | _ => none
def qVX (t : Ty) (v : SV) (h : SH) : Option (t.sem × SH) := match t.zEW v with
 | some x => some (x, h)
 | none => none
def qYA (P : Program) (ty : TypeId) : (t : Ty) -> SV -> SH -> Option (t.sem × SH)
 | .list el t, .own k g _, h => q74 el t k g (fun xs => xs) h
 | .list el t, .sl k g _ o m, h => q74 el t k g (fun xs => (xs.drop o).take m) h
 | .list el t, .c (.slice none 0 0), h => q97 P ty el t h
 | .list el t, .d (.ol el' k') xs, h => (match q6F P ty el el' k' xs t with
   | some x => some (x, h)
   | none => none)
 | t, v, h => cond t.nol (qVX t v h) none
omit [Yl] in
theorem tZ : ∀ {t : Ty} {x : t.sem}, (t.one && t.nol) = true -> rt0 P ty (.f (t.fv x)) = .f (t.fv x)
 | .int _, _, _ => rfl
 | .bool, _, _ => rfl
 | .str, _, _ => rfl
 | .raw, _, _ => rfl
 | .nif, _, _ => rfl
 | .ol _ _, _, e => by cases e
 | .list _ _, _, _ => rfl
 | .unit, _, e => by cases e
 | .pair _ _, _, e => by cases e
theorem qTW {ty : TypeId} {t : Ty} {g : Nat} {f : List t.sem -> List t.sem} {x : List t.sem} (ho : OkH P h) (hs : qXP h k g n) (hom : o + m <= n) (hf : ∀ xs : List t.sem, xs.length = n -> f xs = (xs.drop o).take m) (e : q74 el t k g f h = some (x, h')) :
 fz1 P 4 (qE h.l) (.own k n o m) = some ((Ty.list el t).fv x, qE h'.l) ∧ Keep h h' ∧ OkH P h' := by
 unfold q74 at e;split at e
 ·rename_i el' gr g' w u xs hk
  cases hc : (Nat.beq el' el && Nat.beq g g') with
  | false => rw [hc] at e; cases e
  | true =>
    rw [hc] at e;rw [zKI] at hc;have he : el' = el := zKJ hc.1;have hg : g = g' := zKJ hc.2;subst he hg;simp only [cond_true] at e;split at e
    ·rename_i ys hys;cases nO hys;cases e;have hn := hs.2 _ _ _ _ _ hk;have hd := eG (k := k) ho;refine ⟨?_, hd.1, hd.2⟩;rw [q2F ho hk hn hom, hf _ hn.symm];show some (FV.l el' m _, _) = some (FV.l el' _ _, _);rw [zLZ, zMZ, zMK (by omega)]
    ·cases e
 ·cases e
theorem qN7 {t : Ty} {x : t.sem} (ho : OkH P h) (hv : v.ok h) (e : qYA P ty t v h = some (x, h')) :
 ∃ y, fz1 P 4 (qE h.l) v.enc = some (y, qE h'.l) ∧ rt0 P ty (.f y) = .f (t.fv x) ∧ (t.one && t.nol) = true ∧ Keep h h' ∧ OkH P h' := by
 unfold qYA at e;split at e
 ·rename_i el t k g n;simp only [SV.ok] at hv;obtain ⟨h1, h2, h3⟩ := qTW (ty := ty) (n := n) (o := 0) (m := n) ho hv (by omega) (fun xs hl => by rw [zM0, <- hl, List.take_length]) e;exact ⟨_, by simp only [SV.enc]; exact h1, tZ rfl, rfl, h2, h3⟩
 ·rename_i el t k g n o m;simp only [SV.ok] at hv;obtain ⟨h1, h2, h3⟩ := qTW (ty := ty) (n := n) (o := o) (m := m) ho hv.1 hv.2 (fun xs hl => rfl) e;exact ⟨_, by simp only [SV.enc]; exact h1, tZ rfl, rfl, h2, h3⟩
 ·rename_i el t;unfold q97 at e;split at e
  ·rename_i el' hel
   cases hc : Nat.beq el' el with
   | false => rw [hc] at e; cases e
   | true =>
     rw [hc] at e;cases e;have he : el' = el := zKJ hc;subst he;refine ⟨.v (.slice none 0 0), by simp only [SV.enc, fvv, fz1], ?_, rfl, .refl _, ho⟩
     show (match zW P ty with
      | some el => PV.f (.l el 0 [])
      | none => fvv (.slice none 0 0)) = _
     rw [hel];rfl
  ·cases e
 ·rename_i el t el' k' xs;split at e
  ·rename_i y hy;cases e;unfold q6F at hy;split at hy
   ·rename_i k _
    cases hc : (Nat.beq el' el && decide (k' = k)) with
    | false => rw [hc] at hy; cases hy
    | true =>
      rw [hc] at hy;rw [zKI] at hc;have h1 : el' = el := zKJ hc.1;have h2 : k' = k := by simpa using hc.2
      subst h1 h2;simp only [cond_true] at hy;split at hy
      ·rename_i e0 he0
       cases hc2 : Nat.beq e0 el' with
       | false => rw [hc2] at hy; cases hy
       | true =>
         rw [hc2] at hy;cases hy;have h3 : e0 = el' := zKJ hc2;subst h3;refine ⟨fvo e0 k' xs, by simp only [SV.enc]; rfl, ?_, rfl, .refl _, ho⟩
         cases xs with
         | nil =>
           show (match zW P ty with
            | some el => PV.f (.l el 0 [])
            | none => fvv (.slice none 0 0)) = _
           rw [he0];rfl
         | cons x xs => rfl
      ·cases hy
   ·cases hy
  ·cases e
 ·obtain ⟨zIC, e⟩ : t.nol = true ∧ qVX t v h = some (x, h') := by
   cases hn : t.nol with
   | true => rw [hn] at e; exact ⟨rfl, e⟩
   | false => rw [hn] at e; cases e
  unfold qVX at e;split at e
  ·rename_i y hy;cases e;obtain ⟨h1, h2⟩ := sK hy;have h3 : (t.one && t.nol) = true := by rw [h2, zIC]; rfl
   exact ⟨_, by rw [h1]; rfl, tZ h3, h3, .refl _, ho⟩
  ·cases e
def q9C (P : Program) (ty : TypeId) (t : Ty) (v : SV) (h : SH) : Option (t.sem × SH) := cond (Gc.ol ty) (qVX t v h) (qYA P ty t v h)
theorem q13 {t : Ty} {x : t.sem} (ho : OkH P h) (hv : v.ok h) (e : q9C P ty t v h = some (x, h')) :
 ∃ y, fz1 P 4 (qE h.l) v.enc = some (y, qE h'.l) ∧ rtC P ty (.f y) = .f (t.fv x) ∧ rtC P ty (.f (t.fv x)) = .f (t.fv x) ∧ t.one = true ∧ Keep h h' ∧ OkH P h' := by
 unfold q9C at e;unfold rtC
 cases hc : Gc.ol ty with
 | true =>
   rw [hc] at e;simp only [cond_true] at e ⊢;unfold qVX at e;split at e
   ·rename_i y hy;cases e;obtain ⟨h1, h2⟩ := sK hy;exact ⟨_, by rw [h1]; rfl, rfl, trivial, h2, .refl _, ho⟩
   ·cases e
 | false =>
   rw [hc] at e;simp only [cond_false] at e ⊢;obtain ⟨y, a1, a2, a3, a4, a5⟩ := qN7 ho hv e;exact ⟨y, a1, a2, tZ a3, (by rw [zKI] at a3; exact a3.1), a4, a5⟩
def qG8 (P : Program) (t : Ty) (tys : List TypeId) (l : List SV) (h : SH) : Option (t.sem × List TypeId × List SV × SH) := match tys, l with
 | ty :: tys, v :: l => (match q9C P ty t v h with
   | some (x, h') => some (x, tys, l, h')
   | none => none)
 | _, _ => none
def Ty.zDJ (P : Program) : (t : Ty) -> List TypeId -> List SV -> SH -> Option (t.sem × List TypeId × List SV × SH)
 | .unit, tys, l, h => some ((), tys, l, h)
 | .pair a b, tys, l, h => match a.zDJ P tys l h with
   | some (x, zD7, l1, h1) => (match b.zDJ P zD7 l1 h1 with
     | some (y, zG0, l2, h2) => some ((x, y), zG0, l2, h2)
     | none => none)
   | none => none
 | .int k, tys, l, h => qG8 P (.int k) tys l h
 | .bool, tys, l, h => qG8 P .bool tys l h
 | .str, tys, l, h => qG8 P .str tys l h
 | .raw, tys, l, h => qG8 P .raw tys l h
 | .ol el k, tys, l, h => qG8 P (.ol el k) tys l h
 | .nif, tys, l, h => qG8 P .nif tys l h
 | .list el t, tys, l, h => qG8 P (.list el t) tys l h
def q93 (P : Program) (t : Ty) (tys : List TypeId) (l : List SV) (h : SH) (x : t.sem) (zA4 : List TypeId) (l' : List SV) (h' : SH) : Prop :=
 okL h' l' ∧ Keep h h' ∧ OkH P h' ∧ ∃ ys : List FV, (∀ zs p, qDK (fz1 P 4) (qB l') (qE h'.l) = some (zs, p) -> qDK (fz1 P 4) (qB l) (qE h.l) = some (ys ++ zs, p)) ∧
  ∀ zs : List PV, rtL (rtC P) tys (ys.map .f ++ zs) = (t.cells x).map .f ++ rtL (rtC P) zA4 zs ∧ rtL (rtC P) tys ((t.cells x).map .f ++ zs) = (t.cells x).map .f ++ rtL (rtC P) zA4 zs
theorem gG {t : Ty} {tys zA4 : List TypeId} {l l' : List SV} {x : t.sem} (ho : OkH P h) (hl : okL h l) (e : qG8 P t tys l h = some (x, zA4, l', h')) : q93 P t tys l h x zA4 l' h' := by
 unfold qG8 at e;split at e
 ·rename_i ty tys v l;split at e
  ·rename_i y h1 hd;cases e;simp only [okL] at hl;obtain ⟨y, a1, a2, a2', a3, a4, a5⟩ := q13 ho hl.1 hd;refine ⟨qL a4 hl.2, a4, a5, [y], fun zs p hz => ?_, fun zs => ⟨?_, ?_⟩⟩
   ·simp only [qB, qDK, a1, hz]; rfl
   ·show rtC P ty (.f y) :: rtL (rtC P) _ zs = _;rw [a2, Ty.cells_one a3]; rfl
   ·rw [Ty.cells_one a3];show rtC P ty (.f (t.fv _)) :: rtL (rtC P) _ zs = _;rw [a2']; rfl
  ·cases e
 ·cases e
theorem qAE : ∀ {t : Ty} {tys zA4 : List TypeId} {l l' : List SV} {h : SH} {x : t.sem} {h' : SH}, OkH P h -> okL h l -> t.zDJ P tys l h = some (x, zA4, l', h') -> q93 P t tys l h x zA4 l' h'
 | .unit, tys, zA4, l, l', h, x, h', ho, hl, e => by
   cases e;exact ⟨hl, .refl _, ho, [], fun zs p hz => hz, fun zs => ⟨rfl, rfl⟩⟩
 | .int k, tys, zA4, l, l', h, x, h', ho, hl, e => gG ho hl e
 | .bool, tys, zA4, l, l', h, x, h', ho, hl, e => gG ho hl e
 | .str, tys, zA4, l, l', h, x, h', ho, hl, e => gG ho hl e
 | .raw, tys, zA4, l, l', h, x, h', ho, hl, e => gG ho hl e
 | .ol _ _, tys, zA4, l, l', h, x, h', ho, hl, e => gG ho hl e
 | .nif, tys, zA4, l, l', h, x, h', ho, hl, e => gG ho hl e
 | .list el t, tys, zA4, l, l', h, x, h', ho, hl, e => gG ho hl e
 | .pair a b, tys, zA4, l, l', h, x, h', ho, hl, e => by
   unfold Ty.zDJ at e;split at e
   ·rename_i x1 zD7 l1 h1 hd1;split at e
    ·rename_i y zG0 l2 h2 hd2;cases e;obtain ⟨a1, a2, a3, ys, a4, a5⟩ := qAE ho hl hd1;obtain ⟨b1, b2, b3, zs, b4, b5⟩ := qAE a3 a1 hd2;refine ⟨b1, a2.trans b2, b3, ys ++ zs, fun us p hu => ?_, fun us => ⟨?_, ?_⟩⟩
     ·rw [zLG];exact a4 _ _ (b4 _ _ hu)
     ·rw [zLQ, zLG, (a5 _).1, (b5 _).1];show _ = (a.cells x1 ++ b.cells y).map PV.f ++ _;rw [zLQ, zLG]
     ·show rtL (rtC P) _ ((a.cells x1 ++ b.cells y).map PV.f ++ us) = (a.cells x1 ++ b.cells y).map PV.f ++ _;rw [zLQ, zLG, (a5 _).2, (b5 _).2, zLG]
    ·cases e
   ·cases e
def q3L (P : Program) (ty : TypeId) (t : Ty) (v : SV) (h : SH) : Option (t.sem × SH) := cond t.one (match v with
 | .agg _ => none
 | v => qYA P ty t v h) (match v with
 | .agg l => (match t.zDJ P (vH P 8 ty) l h with
   | some (x, _, [], h') => some (x, h')
   | _ => none)
 | _ => none)
theorem qBR {t : Ty} {x : t.sem} (ho : OkH P h) (hv : v.ok h) (e : q3L P ty t v h = some (x, h')) :
 ∃ y, fzP P (qE h.l) v.enc = some (y, qE h'.l) ∧ rt1 P ty y = t.pv x ∧ Keep h h' ∧ OkH P h' ∧ rt1 P ty (t.pv x) = t.pv x := by
 unfold q3L at e
 cases ht : t.one with
 | true =>
   rw [ht] at e;simp only [cond_true] at e;split at e
   ·cases e
   ·rename_i hna;obtain ⟨y, h1, h2, h3, h4, h5⟩ := qN7 ho hv e
    have hpv : rt1 P ty (t.pv x) = t.pv x := by
     unfold Ty.pv;rw [ht];exact tZ h3
    refine ⟨.f y, ?_, ?_, h4, h5, hpv⟩
    ·cases v with
     | agg l => exact absurd rfl (hna l)
     | opt b k o w => cases b <;> (simp only [SV.enc, fvv, fzP, cond_true, cond_false] at h1 ⊢; rw [h1])
     | _ => simp only [SV.enc, fvv, fzP] at h1 ⊢; rw [h1]
    ·show rt0 P ty (.f y) = _;rw [h2];unfold Ty.pv;rw [ht]; rfl
 | false =>
   rw [ht] at e;simp only [cond_false] at e;split at e
   ·rename_i l;split at e
    ·rename_i x1 zD7 h1 hd;cases e;simp only [SV.ok] at hv;obtain ⟨a1, a2, a3, ys, a4, a5⟩ := qAE ho hv hd
     have hpv : rt1 P ty (t.pv x) = t.pv x := by
      unfold Ty.pv;rw [ht];show PV.agg (rtL (rtC P) (vH P 8 ty) ((t.cells x).map .f)) = _;have := (a5 []).2;rw [zL6] at this;rw [this];cases zD7 <;> simp [rtL]
     refine ⟨.agg (ys.map .f), ?_, ?_, a2, a3, hpv⟩
     ·have := a4 [] (qE h'.l) (by simp [qB, qDK]);simp only [SV.enc, fzP, this, zL6]
     ·show PV.agg (rtL (rtC P) (vH P 8 ty) (ys.map .f)) = _;have := (a5 []).1;rw [zL6] at this;rw [this];unfold Ty.pv;rw [ht];cases zD7 <;> simp [rtL]
    ·cases e
   ·cases e
def vF (P : Program) : List TypeId -> (ts : List Ty) -> List SV -> SH -> Option (TyL ts × SH)
 | _, [], [], h => some ((), h)
 | ty :: _, [t], [v], h => q3L P ty t v h
 | ty :: tys, t :: u :: ts, v :: vs, h => match q3L P ty t v h with
   | some (x, h1) => (match vF P tys (u :: ts) vs h1 with
     | some (y, h2) => some ((x, y), h2)
     | none => none)
   | none => none
 | _, _, _, _ => none
theorem bZ : ∀ {tys : List TypeId} {ts : List Ty} {vs : List SV} {h : SH} {x : TyL ts} {h' : SH}, OkH P h -> okL h vs -> vF P tys ts vs h = some (x, h') ->
 ∃ ys, fzA P (qB vs) (qE h.l) = some (ys, qE h'.l) ∧ rtL (rt1 P) tys ys = pvL ts x ∧ Keep h h' ∧ OkH P h'
 | tys, [], [], h, x, h', ho, hv, e => by
   unfold vF at e;cases e;refine ⟨[], rfl, ?_, .refl _, ho⟩;cases tys <;> rfl
 | ty :: tys, [t], [v], h, x, h', ho, hv, e => by
   unfold vF at e;simp only [okL] at hv;obtain ⟨y, h1, h2, h3, h4, _⟩ := qBR ho hv.1 e;refine ⟨[y], ?_, ?_, h3, h4⟩
   ·simp only [qB, fzA, h1]
   ·show rt1 P ty y :: rtL (rt1 P) tys [] = [t.pv x];rw [h2];cases tys <;> rfl
 | ty :: tys, t :: u :: ts, v :: vs, h, x, h', ho, hv, e => by
   unfold vF at e;simp only [okL] at hv;split at e
   ·rename_i x1 h1 hd;split at e
    ·rename_i y1 h2 hd2;cases e;obtain ⟨y, a1, a2, a3, a4, _⟩ := qBR ho hv.1 hd;obtain ⟨ys, b1, b2, b3, b4⟩ := bZ a4 (qL a3 hv.2) hd2;refine ⟨y :: ys, ?_, ?_, a3.trans b3, b4⟩
     ·simp only [qB, fzA, a1, b1]
     ·show rt1 P ty y :: rtL (rt1 P) tys ys = t.pv x1 :: pvL (u :: ts) y1;rw [a2, b2]
    ·cases e
   ·cases e
 | [], [_], [_], _, _, _, _, _, e => by unfold vF at e; cases e
 | [], _ :: _ :: _, _ :: _, _, _, _, _, _, e => by unfold vF at e; cases e
 | tys, [], _ :: _, _, _, _, _, _, e => by cases tys <;> (unfold vF at e; cases e)
 | tys, _ :: ts, [], _, _, _, _, _, e => by cases tys <;> cases ts <;> (unfold vF at e; cases e)
 | tys, [_], _ :: _ :: _, _, _, _, _, _, e => by cases tys <;> (unfold vF at e; cases e)
def Ty.sv (t : Ty) (x : t.sem) : SV := cond t.one (.d t x) (.agg (t.svs x))
theorem nI (t : Ty) (x : t.sem) : (t.sv x).enc = t.pv x := by
 unfold Ty.sv Ty.pv;cases t.one <;> simp [SV.enc, gD]
omit [Yl] in
theorem qKF (t : Ty) (x : t.sem) : (t.sv x).ok h := by
 unfold Ty.sv;cases t.one
 ·simp only [cond_false, SV.ok]; exact qDH t x
 ·simp [SV.ok]
def svL : (ts : List Ty) -> TyL ts -> List SV
 | [], _ => []
 | [t], x => [t.sv x]
 | t :: u :: ts, x => t.sv x.1 :: svL (u :: ts) x.2
theorem qB2 : ∀ (ts : List Ty) (x : TyL ts), qB (svL ts x) = pvL ts x
 | [], _ => by simp [svL, pvL, qB]
 | [t], x => by simp [svL, pvL, qB, nI]
 | t :: u :: ts, x => by
   show qB (t.sv x.1 :: svL (u :: ts) x.2) = t.pv x.1 :: pvL (u :: ts) x.2;simp only [qB, nI, qB2 (u :: ts)]
omit [Yl] in
theorem qBE : ∀ (ts : List Ty) (x : TyL ts), okL h (svL ts x)
 | [], _ => by simp [svL, okL]
 | [t], x => by simp [svL, okL, qKF]
 | t :: u :: ts, x => by
   show okL h (t.sv x.1 :: svL (u :: ts) x.2);simp only [okL];exact ⟨qKF t x.1, qBE (u :: ts) x.2⟩
def qKL (ts : List Ty) (x : TyL ts) : SV := match svL ts x with
 | [v] => v
 | vs => .tup vs
theorem qJD (ts : List Ty) (x : TyL ts) : (qKL ts x).enc = vC ts x := by
 unfold qKL vC;rw [<- qB2]
 match svL ts x with
 | [] => simp [qB, qCX, SV.enc]
 | [v] => simp [qB, qCX]
 | a :: b :: l => simp [qB, qCX, SV.enc]
omit [Yl] in
theorem qOO (ts : List Ty) (x : TyL ts) : (qKL ts x).ok h := by
 unfold qKL;have := qBE (h := h) ts x;split
 ·rename_i v hv;rw [hv] at this;simp only [okL] at this;exact this.1
 ·simp only [SV.ok]; exact this
def qRH (tab : uL) (T : jF) : Prop := ∀ g ent, slT g T = some ent -> ∀ x, tab g (pvL ent.as x) = (ent.F x).map (vC ent.rs)
def okc : FV -> Bool
 | .v (.slice _ _ _) => false
 | .v _ => true
 | .l _ _ _ => false
def _root_.Go.Sv.Ty.pln : Ty -> Bool
 | .int _ | .bool | .str | .unit | .nif => true
 | .pair a b => Go.Sv.Ty.pln a && Go.Sv.Ty.pln b
 | _ => false
omit [Yl] in
theorem nU : ∀ (t : Ty) (x : t.sem), (t.cells x).all okc = t.pln
 | .int _, _ => rfl
 | .bool, _ => rfl
 | .str, _ => rfl
 | .unit, _ => rfl
 | .nif, _ => rfl
 | .raw, _ => rfl
 | .list _ _, _ => rfl
 | .ol _ _, xs => by cases xs <;> rfl
 | .pair a b, x => by
   show (a.cells x.1 ++ b.cells x.2).all okc = (a.pln && b.pln);rw [zNX, nU a, nU b]
omit [Yl] in
theorem qVZ : ∀ (cs : List FV), ((qKH (cs.map .f)).isSome && (cs.map PV.f).all q18) = cs.all okc
 | [] => rfl
 | c :: cs => by
   rw [zLO, <- qVZ cs, zKZ, zLO]
   cases c with
   | l el n xs => rfl
   | v x =>
     have e2 : q18 (.f (.v x)) = okc (.v x) := by cases x <;> rfl
     rw [e2, show qKH (.f (.v x) :: cs.map .f) = (match qKH (cs.map .f) with
      | some vs => some (x :: vs)
      | none => none) from rfl]
     cases qKH (cs.map PV.f) with
     | none => simp only [zOR, Bool.false_and, Bool.and_false]
     | some vs => simp only [zNL, zOT]
omit [Yl] in
theorem qE9 (t : Ty) (x : t.sem) : jU (t.pv x) = t.pln ∧ ((pl (t.pv x)).isSome && qWD (t.pv x)) = t.pln := by
 unfold Ty.pv
 cases ht : t.one with
 | true =>
   simp only [cond_true];have := nU t x;rw [Ty.cells_one ht] at this;rw [<- this, zLO, List.all_nil, zMV]
   cases hv : t.fv x with
   | l el n xs => exact ⟨rfl, rfl⟩
   | v y => cases y <;> exact ⟨rfl, rfl⟩
 | false =>
   simp only [cond_false];have := qVZ (t.cells x);rw [nU] at this;refine ⟨this, ?_⟩;rw [<- this]
   show ((match qKH ((t.cells x).map .f) with
    | some vs => some (Value.agg vs.toArray)
    | none => none).isSome && ((t.cells x).map PV.f).all q18) = _
   cases qKH ((t.cells x).map .f) <;> rfl
def q6P (ts : List Ty) : Bool := ts.all Ty.pln
omit [Yl] in
theorem qJV : ∀ (ts : List Ty) (x : TyL ts), ((plL (pvL ts x)).isSome && (pvL ts x).all qWD) = q6P ts
 | [], _ => rfl
 | [t], x => by
   show ((match pl (t.pv x) with
    | some v => (match plL [] with
      | some vs => some (v :: vs)
      | none => none)
    | none => none).isSome && ((t.pv x) :: []).all qWD) = (t.pln && true)
   rw [<- (qE9 t x).2, zLO];cases pl (t.pv x) <;> simp [plL]
 | t :: u :: ts, x => by
   show ((match pl (t.pv x.1) with
    | some v => (match plL (pvL (u :: ts) x.2) with
      | some vs => some (v :: vs)
      | none => none)
    | none => none).isSome && ((t.pv x.1) :: pvL (u :: ts) x.2).all qWD) = (t.pln && q6P (u :: ts))
   rw [<- (qE9 t x.1).2, <- qJV (u :: ts) x.2, zLO]
   cases pl (t.pv x.1) with
   | none => simp
   | some v => cases plL (pvL (u :: ts) x.2) with
     | none => simp
     | some vs => simp
omit [Yl] in
theorem qJX (ts : List Ty) (x : TyL ts) : jU (vC ts x) = q6P ts := by
 unfold vC
 match ts, x with
 | [], x => rfl
 | [t], x =>
   show jU (t.pv x) = (t.pln && true);rw [(qE9 t x).1, zMV]
 | t :: u :: ts, x =>
   have := qJV (t :: u :: ts) x;cases ts <;> exact this
def qPY (P : Program) (T : jF) (d : Bool) (g : FuncId) (as : List SV) (h : SH) (K : SV -> SH -> zAN R) : zAN R := match slT g T, P.funcs[g]? with
 | some ent, some fn => (match vF P fn.params.toList ent.as as h with
   | some (x, h1) => .bind (ent.F x) fun y => cond d (cond (q6P ent.rs || (qB as).all qHM) (K (qKL ent.rs y) h) .fail) (K (qKL ent.rs y) (cond (q6P ent.rs) h h1))
   | none => .fail)
 | _, _ => .fail
theorem qY3 {T : jF} (ht : qRH tab T) {K : SV -> SH -> zAN R} (ho : OkH P h) (ha : okL h as) (e : (qPY P T false g as h K).run = some r) :
 ∃ v h', fO P tab g (qB as) (qE h.l) = .ok v.enc (qE h'.l) ∧ Post P h h' v ∧ (K v h').run = some r := by
 unfold qPY at e;split at e
 ·rename_i ent fn hent hfn;split at e
  ·rename_i x h1 hx;obtain ⟨y, hy, e1⟩ := run_bind e;obtain ⟨ys, a1, a2, a3, a4⟩ := bZ ho ha hx;have e2 : (K (qKL ent.rs y) (cond (jU (vC ent.rs y)) h h1)).run = some r := by rw [qJX]; exact e1
   refine ⟨_, _, ?_, ⟨?_, ?_, qOO _ _⟩, e2⟩
   ·unfold fO;rw [a1];simp only;rw [show rtA P g ys = pvL ent.as x by unfold rtA; rw [hfn]; exact a2, ht g ent hent x, hy];simp only [zKU, qJD];cases jU (vC ent.rs y) <;> rfl
   ·cases jU (vC ent.rs y)
    ·exact a3
    ·exact .refl _
   ·cases jU (vC ent.rs y)
    ·exact a4
    ·exact ho
  ·cases e
 ·cases e
theorem qUG {T : jF} (ht : qRH tab T) {K : SV -> SH -> zAN R} (ho : OkH P h) (ha : okL h as) (e : (qPY P T true g as h K).run = some r) :
 ∃ v h', p9 P tab g (qB as) (qE h.l) = .ok v.enc (qE h'.l) ∧ Post P h h' v ∧ (K v h').run = some r := by
 unfold qPY at e;split at e
 ·rename_i ent fn hent hfn;split at e
  ·rename_i x h1 hx;obtain ⟨y, hy, e1⟩ := run_bind e;obtain ⟨ys, a1, a2, a3, a4⟩ := bZ ho ha hx;obtain ⟨c, e2⟩ := qG (show (cond (jU (vC ent.rs y) || (qB as).all qHM) (K (qKL ent.rs y) h) .fail : zAN R).run = some r by rw [qJX]; exact e1);refine ⟨_, _, ?_, ⟨.refl _, ho, qOO _ _⟩, e2⟩;unfold p9;rw [a1];simp only;rw [show rtA P g ys = pvL ent.as x by unfold rtA; rw [hfn]; exact a2, ht g ent hent x, hy];simp only [zKU, qJD, c, cond_true]
  ·cases e
 ·cases e
def qAF (fv : SV) (args : List SV) : Option (FuncId × List SV) := match fv with
 | .c (.func (.func g) a c) => cond (a.toList.isEmpty && c.toList.isEmpty) (some (g, args)) none
 | .fn g first cap => some (g, first ++ (args ++ cap))
 | _ => none
theorem rE {fv : SV} {args : List SV} (hf : fv.ok h) (ha : okL h args) (e : qAF fv args = some (g, as)) : target fv.enc (qB args) = some (g, qB as) ∧ okL h as := by
 unfold qAF at e;split at e
 ·rename_i g' a c
  cases hc : (a.toList.isEmpty && c.toList.isEmpty) with
  | false => rw [hc] at e; cases e
  | true =>
    rw [hc] at e;cases e;exact ⟨by simp only [target, SV.enc, fvv, hc, cond_true], ha⟩
 ·rename_i g' first cap
  cases e;simp only [SV.ok] at hf;exact ⟨by simp only [target, SV.enc, oD], aW hf.1 (aW ha hf.2)⟩
 ·cases e
def q00 (P : Program) (T : jF) (d : Bool) (f : SV) (args : List SV) (h : SH) (K : SV -> SH -> zAN R) : zAN R := match qAF f args with
 | some (g, as) => qPY P T d g as h K
 | none => .fail
def qZS (P : Program) (T : jF) (d : Bool) (k : Nat) (o : Oper) (env : List SV) (h : SH) (K : SV -> SH -> zAN R) : zAN R := match o.op with
 | .call ⟨.value f, args, _⟩ => q00 P T d (xM env f) (eP env args) h K
 | _ => sop P o env k h K
def q1C (P : Program) (G : Nat -> Bool) (CI : CIT) : Prop := ∀ {R : Type} (nm : Nm) (f : FuncId) (as : List SV) (h : SH) (K : SV -> SH -> zAN R) (r : R), OkH P h -> okL h as -> (CI R nm f as h K).run = some r ->
 qCP P G nm f (qB as) (qE h.l) fun v p => ∃ v' h', v = v'.enc ∧ p = qE h'.l ∧ Post P h h' v' ∧ (K v' h').run = some r
def qPQ (p : Nat -> Bool) (env : List SV) : List (Nat × SO) -> Bool
 | [] => true
 | (k, _) :: l => (!p k || z8 k (qB env)) && qPQ p env l
theorem qKC {p : Nat -> Bool} {env : List SV} : ∀ {l : List (Nat × SO)}, qPQ p env l = true -> clean p (qB env) (qE l) = true
 | [], _ => rfl
 | (k, o) :: l, h => by
   have h : ((!p k || z8 k (qB env)) && qPQ p env l) = true := h;show ((!p k || z8 k (qB env)) && clean p (qB env) (qE l)) = true;rw [zKI] at h ⊢;exact ⟨h.1, qKC h.2⟩
section
variable {Γ : Type}
def q0N (P : Program) (T : jF) (CI : CIT) (Y : YI Γ) (nm : Nm) (f : SV) (args : List SV) (g : Γ) (env : List SV) (h : SH) (K : Γ -> SV -> SH -> zAN R) : zAN R := match f with
 | .yv => (match vF P Y.yt Y.ys args h with
   | some (y, h1) => .bind (Y.stp g y) fun p => K p.1 (.d .bool p.2) h1
   | none => .fail)
 | f => (match qAF f args with
   | some (t, as) => cond (slT t T).isSome (qPY P T false t as h (K g)) (CI R (qVI nm t) t as h fun v h2 => cond (qPQ (qVI nm t).p env h2.l) (K g v h2) .fail)
   | none => .fail)
def q1K (P : Program) (T : jF) (CI : CIT) (Y : YI Γ) (nm : Nm) (o : Oper) (g : Γ) (env : List SV) (h : SH) (K : Γ -> SV -> SH -> zAN R) : zAN R := match o.op with
 | .call ⟨.value f, args, _⟩ => q0N P T CI Y nm (xM env f) (eP env args) g env h K
 | _ => q8S P o env (qH nm o.dst) h (K g)
def YOk (P : Program) (G : Nat -> Bool) (w : Wld Γ) (Y : YI Γ) : Prop := ∀ g y g' b, Y.stp g y = some (g', b) -> qH4 P G w Yl.l g (pvL Y.ys y) g' b
end
theorem qI3 {T : jF} (ht : qRH tab T) {o : Oper} {env : List SV} {K : SV -> SH -> zAN R} (ho : OkH P h) (he : okL h env) (e : (qZS P T true k o env h K).run = some r) :
 ∃ v h', zI P tab k o (qB env) (qE h.l) = .ok v.enc (qE h'.l) ∧ Post P h h' v ∧ (K v h').run = some r := by
 unfold qZS at e;unfold zI;split at e
 ·rename_i f args ts hop;unfold q00 at e;split at e
  ·rename_i g as hst;obtain ⟨h1, h2⟩ := rE (pJ he f) (bO he args) hst;obtain ⟨v, h', a1, a2, a3⟩ := qUG ht ho h2 e;refine ⟨v, h', ?_, a2, a3⟩;simp only [hop, qM, aV, h1];exact a1
  ·cases e
 ·rename_i hne;obtain ⟨v, h', a1, a2, a3⟩ := q0Z ho he e;refine ⟨v, h', ?_, a2, a3⟩;split
  ·rename_i f args ts hop; exact absurd hop (hne f args ts)
  ·rw [a1]; rfl
end
end Go.Sv
namespace Go.Sv
open Go.Idl
variable {d : Option Tmp} {el : TypeId} {env : List SV} {h : SH} {o : Oper} {t : Nat} {v : SV}
noncomputable section
variable [Gc]
variable [Frs]
variable [Yl]
variable {P : Program} {R : Type} {r : R} {tab : uL} {G : Nat -> Bool} {nm : Nm}
omit [Yl] in
theorem zA0 {Q Q' : List PV -> PHp -> Prop} (hq : ∀ e p, Q e p -> Q' e p) : ∀ {t : PT}, t.holds P G Q -> t.holds P G Q'
 | .fail, h => h.elim
 | .ret e p, h => hq e p h
 | .chk c t, h => ⟨h.1, zA0 hq h.2⟩
 | .call nm g args ph k, h => by
   obtain ⟨R, h1, h2⟩ := h;exact ⟨R, h1, fun v p hr => zA0 hq (h2 v p hr)⟩
 | .rnd _ _ _ _, h => h.elim
omit [Yl] in
theorem q0G (k : Nat) : ∀ (cs : List FV), z8 k (cs.map .f) = true
 | [] => by simp [z8]
 | c :: cs => by simp [z8, noK, q0G k cs]
def qME (k : Nat) : List (Nat × SO) -> Bool
 | [] => true
 | (_, .cells _ _ l) :: r => z8 k (qB l) && qME k r
 | (_, .list _ _ _ _ _ _) :: r => qME k r
 | (_, .spc _ (.mit _ j _ _ _)) :: r => !(k == j) && qME k r
 | (_, .spc _ (.map _)) :: r => qME k r
 | (_, .spc _ (.iter _ _)) :: r => qME k r
theorem qU9 (k : Nat) : ∀ (l : List Nat), z8 k (l.map iv) = true
 | [] => by simp [z8]
 | c :: cs => by
   show (true && z8 k (cs.map iv)) = true;rw [qU9 k cs]; rfl
theorem qXX (k j si la : Nat) (seen : List Nat) : z8 k (qR2 (.mp j) si la seen) = !(k == j) := by
 show (!(k == j) && (true && (true && (z8 k (seen.map iv) && true)))) = _;rw [qU9]; simp
theorem vW {k : Nat} : ∀ {l : List (Nat × SO)}, qME k l = true -> fZ k (qE l) = true
 | [], _ => rfl
 | (j, .cells el w l) :: r, h => by
   simp only [qME, zKI] at h;show (z8 k (qB l) && fZ k (qE r)) = true;rw [h.1, vW h.2]; rfl
 | (j, .list el gr g w t xs) :: r, h => by
   simp only [qME] at h;show (z8 k ((xs.flatMap t.cells).map .f) && fZ k (qE r)) = true;rw [q0G, vW h]; rfl
 | (j, .spc w (.mit t i si la seen)) :: r, h => by
   simp only [qME, zKI] at h;show (z8 k (qR2 (.mp i) si la seen) && fZ k (qE r)) = true;rw [qXX, h.1, vW h.2]; rfl
 | (j, .spc w (.map es)) :: r, h => by
   simp only [qME] at h;show (z8 k (kV _ _) && fZ k (qE r)) = true;rw [aG, vW h]; rfl
 | (j, .spc w (.iter s pos)) :: r, h => by
   simp only [qME] at h;show (z8 k (qRW s pos) && fZ k (qE r)) = true;rw [show z8 k (qRW s pos) = true from rfl, vW h]; rfl
def d9 (env : List SV) (d : Option Tmp) (v : SV) : List SV := match d with
 | some t => xB env t v
 | none => env
theorem kE (env : List SV) (t : Nat) (v : SV) : qB (xB env t v) = xB (qB env) t v.enc := by
 rw [zB, zB, qY, qY, List.map_set]
theorem jX (env : List SV) (d : Option Tmp) (v : SV) : qB (d9 env d v) = yK (qB env) d v.enc := by
 cases d with
 | none => rfl
 | some t => exact kE env t v
omit [Yl] in
theorem xY (he : okL h env) (hv : v.ok h) : okL h (xB env t v) := by
 rw [zB]
 exact yC.2 fun x hx => by
  rcases List.mem_or_eq_of_mem_set hx with q | q
  ·exact yC.1 he x q
  ·rw [q]; exact hv
omit [Yl] in
theorem wW (he : okL h env) (hv : v.ok h) : okL h (d9 env d v) := by
 cases d with
 | none => exact he
 | some t => exact xY he hv
omit [Yl] in
theorem jJ (env : List SV) (t : Nat) (v : SV) : (xB env t v).length = env.length := by rw [zB, zNK]
omit [Yl] in
theorem qX9 (env : List SV) (d : Option Tmp) (v : SV) : (d9 env d v).length = env.length := by
 cases d with
 | none => rfl
 | some t => exact jJ env t v
theorem qOU {w : SV} (h1 : zH env t = some v) (h2 : w.enc = v.enc) : qB (xB env t w) = qB env := by
 rw [kE, zB];rw [qF] at h1;apply zLR;intro i;rw [zLD];by_cases e : t = i
 ·subst e;rw [if_pos rfl, qY, zKX, h1, zK2, if_pos (zKN.1 h1).1, h2];rfl
 ·rw [if_neg e]
def zG (b w : Bool) : Bool := cond w b (!b)
omit [Yl] in
theorem qPI (b w : Bool) : zG b w = (b == w) := by cases b <;> cases w <;> rfl
def qAP (ds : List (Option Tmp)) (o : Oper) (env : List SV) (Y N : List SV -> zAN R) : zAN R := match o.guard with
 | none => Y env
 | some (j, w) => (match qRL ds j with
   | none => N env
   | some t => (match zH env t with
     | none => .fail
     | some v => (match asB v with
       | some b => .ite (zG b w) (Y (xB env t (.c (.bool w)))) (N (xB env t (.c (.bool (!w)))))
       | none => (match v with
         | .tup [] => N env
         | _ => .fail))))
theorem o8 {ds : List (Option Tmp)} {Y N : List SV -> zAN R} (he : okL h env) (e : (qAP ds o env Y N).run = some r) :
 ∃ env', qB env' = qB env ∧ okL h env' ∧ env'.length = env.length ∧ ((jZ ds o (qB env) = some true ∧ (Y env').run = some r) ∨ (jZ ds o (qB env) = some false ∧ (N env').run = some r)) := by
 unfold qAP at e;unfold jZ;split at e
 ·rename_i hg;exact ⟨env, rfl, he, rfl, .inl ⟨by rw [hg], e⟩⟩
 ·rename_i j w hg;rw [hg];simp only;split at e
  ·rename_i hd;exact ⟨env, rfl, he, rfl, .inr ⟨by rw [hd]; rfl, e⟩⟩
  ·rename_i t hd;rw [hd];simp only [qM3, zK];split at e
   ·cases e
   ·rename_i v hv;rw [hv];split at e
    ·rename_i b hb;have hbe := o7 hb
     rcases run_ite e with ⟨z, e1⟩ | ⟨z, e1⟩
     ·rw [qPI] at z;have : b = w := by simpa using z
      subst this;refine ⟨_, qOU hv (by rw [hbe]; simp [SV.enc]), xY he (by simp [SV.ok]), jJ _ _ _, .inl ⟨?_, e1⟩⟩;simp only [zKU, hbe, qBF, z]
     ·rw [qPI] at z
      have : b = !w := by cases b <;> cases w <;> first | rfl | cases z
      refine ⟨_, qOU hv (by rw [hbe, this]; simp [SV.enc]), xY he (by simp [SV.ok]), jJ _ _ _, .inr ⟨?_, e1⟩⟩;simp only [zKU, hbe, qBF, z]
    ·split at e
     ·exact ⟨env, rfl, he, rfl, .inr ⟨by simp only [zKU, SV.enc, qB]; exact qQW, e⟩⟩
     ·cases e
def qC5 (nm : Nm) (k : Nat) (env : List SV) (h : SH) : Bool := inP nm k && (z8 k (qB env) && qME k h.l)
section
variable {Γ : Type}
def qWV (P : Program) (T : jF) (CI : CIT) (Y : YI Γ) (nm : Nm) (ds : List (Option Tmp)) : List Oper -> Γ -> List SV -> SH -> (Γ -> List SV -> SH -> zAN R) -> zAN R
 | [], g, env, h, K => K g env h
 | o :: l, g, env, h, K => qAP ds o env
    (fun env => cond (cond (needs o.op) (qC5 nm (qH nm o.dst) env h) true) (q1K P T CI Y nm o g env h fun g v h' => qWV P T CI Y nm ds l g (d9 env o.dst v) h' K) .fail)
    (fun env => qWV P T CI Y nm ds l g (d9 env o.dst (.tup [])) h K)
end
def Ends (P : Program) (w : List (Option Tmp)) (env : List SV) (h : SH) (env' : List SV) (h' : SH) : Prop :=
 okL h' env' ∧ OkH P h' ∧ Keep h h' ∧ (∀ i, some i ∉ w -> zH (qB env') i = zH (qB env) i) ∧ env'.length = env.length
theorem q34 {i : Nat} (h : d ≠ some i) : zH (qB (d9 env d v)) i = zH (qB env) i := by
 cases d with
 | none => rfl
 | some t =>
   show zH (qB (xB env t v)) i = _;rw [kE, zB, qF, qF, zLD, if_neg (fun e => h (by rw [e]))]
theorem Ends.step {w : List (Option Tmp)} {zAS : List SV} {h1 : SH} {env' : List SV} {h' : SH} (he : qB env = qB zAS) (hl : env.length = zAS.length) (hk : Keep h h1) (x : Ends P w (d9 env o.dst v) h1 env' h') : Ends P (o.dst :: w) zAS h env' h' :=
 ⟨x.1, x.2.1, hk.trans x.2.2.1, fun i hi => by
   rw [zK5, not_or] at hi
   rw [x.2.2.2.1 i hi.2, q34 (fun e => hi.1 e.symm), he], by rw [x.2.2.2.2, qX9, hl]⟩
omit [Yl] in
theorem kC {Γ : Type} {w : Wld Γ} {Q Q' : Γ -> List PV -> PHp -> Prop} (hq : ∀ g e p, Q g e p -> Q' g e p) : ∀ {t : PT} {g : Γ}, t.zBJ P G w Q g -> t.zBJ P G w Q' g
 | .fail, _, h => h.elim
 | .ret e p, g, h => hq g e p h
 | .chk c t, g, h => ⟨h.1, kC hq h.2⟩
 | .call nm f args ph k, g, h => by
   obtain ⟨R, h1, h2⟩ := h;exact ⟨R, h1, fun v p hr => kC hq (h2 v p hr)⟩
 | .rnd l args ph k, g, h => by
   obtain ⟨zBR, tys, ph1, g', b, h1, h2, h3⟩ := h;exact ⟨zBR, tys, ph1, g', b, h1, h2, kC hq h3⟩
def q0D (T : jF) (f : FuncId) : Bool := !(slT f T).isSome
theorem qGO {Γ : Type} {w : Wld Γ} {T : jF} {CI : CIT} {Y : YI Γ} (ht : qRH tab T) (hci : q1C P G CI) (hy : YOk P G w Y) {ds : List (Option Tmp)} : ∀ {l : List Oper} {g : Γ} {env : List SV} {h : SH} {K : Γ -> List SV -> SH -> zAN R}, OkH P h -> okL h env -> (qWV P T CI Y nm ds l g env h K).run = some r ->
 (pops P tab (q0D T) nm ds l (qB env) (qE h.l)).zBJ P G w (fun g e p => ∃ env' h', e = qB env' ∧ p = qE h'.l ∧ Ends P (l.map (·.dst)) env h env' h' ∧ (K g env' h').run = some r) g
 | [], g, env, h, K, ho, he, e => ⟨env, h, rfl, rfl, ⟨he, ho, .refl _, fun _ _ => rfl, rfl⟩, e⟩
 | o :: l, g, env, h, K, ho, he, e => by
   unfold qWV at e;obtain ⟨zAV, q1, q2, q3, q4⟩ := o8 he e;rw [qT0]
   rcases q4 with ⟨hw, e1⟩ | ⟨hw, e1⟩
   ·rw [hw, qYH];obtain ⟨c, e2⟩ := qG e1
    have next : ∀ {g' : Γ} {v : SV} {h' : SH}, Post P h h' v -> (qWV P T CI Y nm ds l g' (d9 zAV o.dst v) h' K).run = some r -> (pops P tab (q0D T) nm ds l (yK (qB env) o.dst v.enc) (qE h'.l)).zBJ P G w (fun g e p => ∃ env' h', e = qB env' ∧ p = qE h'.l ∧ Ends P ((o :: l).map (·.dst)) env h env' h' ∧ (K g env' h').run = some r) g' := fun {g' v h'} a2 a3 => by
     have ih := qGO ht hci hy a2.2.1 (wW (d := o.dst) (qL a2.1 q2) a2.2.2) a3;rw [jX, q1] at ih;exact kC (fun g e p ⟨env', h', b1, b2, b3, b4⟩ => ⟨env', h', b1, b2, Ends.step q1 q3 a2.1 b3, b4⟩) ih
    have chk : ∀ {g' : Γ} {v : SV} {h' : SH}, Post P h h' v -> (qWV P T CI Y nm ds l g' (d9 zAV o.dst v) h' K).run = some r -> (q5L (needs o.op) (qH nm o.dst) nm (qB env) (qE h.l) (pops P tab (q0D T) nm ds l (yK (qB env) o.dst v.enc) (qE h'.l))).zBJ P G w (fun g e p => ∃ env' h', e = qB env' ∧ p = qE h'.l ∧ Ends P ((o :: l).map (·.dst)) env h env' h' ∧ (K g env' h').run = some r) g' := fun {g' v h'} a2 a3 => by
     unfold q5L
     cases hn : needs o.op with
     | false => exact next a2 a3
     | true =>
       rw [hn] at c;simp only [cond_true] at c ⊢;refine ⟨?_, next a2 a3⟩;unfold qC5 at c;rw [q1] at c;simp only [zKI] at c;unfold fresh;rw [c.1, c.2.1, vW c.2.2]; rfl
    unfold q1K at e2;split at e2
    ·rename_i f args ts hop
     have hpe : aT P tab (q0D T) (qH nm o.dst) o (qB env) (qE h.l) = oI P tab (q0D T) (xM zAV f).enc (qB (eP zAV args)) (qE h.l) := by
      unfold aT;rw [<- q1];simp only [hop, qM, aV]
     rw [hpe];have hfv := pJ q2 f;have has := bO q2 args
     revert e2 hfv
     generalize xM zAV f = fv;intro e2 hfv;unfold q0N at e2;split at e2
     ·split at e2
      ·rename_i y h1 hd;obtain ⟨p, hp, e3⟩ := run_bind e2;obtain ⟨g', b⟩ := p;obtain ⟨ys, a1, a2, a3, a4⟩ := bZ ho has hd
       have : oI P tab (q0D T) (SV.enc .yv) (qB (eP zAV args)) (qE h.l) = .rnd Yl.l (qB (eP zAV args)) (qE h.l) := by
        simp only [SV.enc, oI]
       rw [this, qT2];refine ⟨ys, Y.yt, qE h1.l, g', b, a1, ?_, ?_⟩
       ·rw [a2]; exact hy _ _ _ _ hp
       ·have := next (v := .d .bool b) ⟨a3, a4, by simp [SV.ok]⟩ e3;simpa [SV.enc, Ty.fv, fvv] using this
      ·cases e2
     ·split at e2
      ·rename_i t as hst;obtain ⟨h1, h2⟩ := rE hfv has hst;rw [qJU h1];unfold dL q0D
       cases hsl : (slT t T).isSome with
       | true =>
         rw [hsl] at e2;simp only [cond_true] at e2;obtain ⟨v, h', a1, a2, a3⟩ := qY3 ht ho h2 e2;simp only [zN7, cond_false];rw [a1, qPR];exact chk a2 a3
       | false =>
         rw [hsl] at e2;simp only [cond_false] at e2;simp only [Bool.not_false, cond_true];rw [qP0];refine ⟨_, hci _ _ _ _ _ _ ho h2 e2, ?_⟩;rintro v p ⟨v', h', rfl, rfl, a2, a3⟩;obtain ⟨c2, a4⟩ := qG a3;have := qKC c2;rw [q1] at this;exact ⟨this, next a2 a4⟩
      ·cases e2
    ·rename_i hne;obtain ⟨v, h', a1, a2, a3⟩ := q3J ho q2 e2;rw [q1] at a1
     have hpe : aT P tab (q0D T) (qH nm o.dst) o (qB env) (qE h.l) = .ok v.enc (qE h'.l) := by
      unfold aT;split
      ·rename_i f args ts hop; exact absurd hop (hne f args ts)
      ·rw [a1]; rfl
     rw [hpe, qPR];exact chk a2 a3
   ·rw [hw, qT5];have ih := qGO ht hci hy ho (wW (d := o.dst) (v := .tup []) q2 (by simp [SV.ok, okL])) e1;rw [jX, q1] at ih;simp only [SV.enc, qB] at ih;exact kC (fun g e p ⟨env', h', b1, b2, b3, b4⟩ => ⟨env', h', b1, b2, Ends.step q1 q3 (.refl _) b3, b4⟩) ih
def qWM (P : Program) (T : jF) (nm : Nm) (ds : List (Option Tmp)) (b : DB) (zAS : List SV) : Nat -> List Oper -> List SV -> SH -> List (Nat × List Nat) -> List (Nat × List Nat) -> List (Nat × Nat) -> List (Nat × PV) -> (List SV -> SH -> zAN R) -> zAN R
 | i, [], env, h, E, F, N, V, K => cond (mG b (qB zAS) E F N V) (K env h) .fail
 | i, o :: l, env, h, E, F, N, V, K => qAP ds o env
    (fun env => cond (cond (needs o.op) (inP nm (qH nm o.dst) && qME (qH nm o.dst) h.l) true) (qZS P T true (qH nm o.dst) o env h fun v h' =>
      qWM P T nm ds b zAS (i + 1) l (d9 env o.dst v) h' (cond (qU o) ((i, wlT nm o (qB env)) :: E) E) (cond (qU o) F ((i, dlT o (qB env)) :: F)) (cond (needs o.op) ((i, qH nm o.dst) :: N) N) ((i, v.enc) :: V) K) .fail)
    (fun env => qWM P T nm ds b zAS (i + 1) l (d9 env o.dst (.tup [])) h E F N ((i, .tup []) :: V) K)
theorem qGZ {T : jF} (ht : qRH tab T) {ds : List (Option Tmp)} {b : DB} {zAS : List SV} : ∀ {l : List Oper} {i : Nat} {env : List SV} {h : SH} {E F : List (Nat × List Nat)} {N : List (Nat × Nat)} {V : List (Nat × PV)} {K : List SV -> SH -> zAN R}, OkH P h -> okL h env -> (qWM P T nm ds b zAS i l env h E F N V K).run = some r ->
 (qHT P tab nm ds b (qB zAS) i l (qB env) (qE h.l) E F N V).holds P G fun e p => ∃ env' h', e = qB env' ∧ p = qE h'.l ∧ Ends P (l.map (·.dst)) env h env' h' ∧ (K env' h').run = some r
 | [], i, env, h, E, F, N, V, K, ho, he, e => by
   unfold qWM at e;obtain ⟨c, e1⟩ := qG e;rw [qZN];exact ⟨c, env, h, rfl, rfl, ⟨he, ho, .refl _, fun _ _ => rfl, rfl⟩, e1⟩
 | o :: l, i, env, h, E, F, N, V, K, ho, he, e => by
   unfold qWM at e;obtain ⟨zAV, q1, q2, q3, q4⟩ := o8 he e;rw [qVR]
   rcases q4 with ⟨hw, e1⟩ | ⟨hw, e1⟩
   ·rw [hw, qTU];obtain ⟨c, e2⟩ := qG e1;obtain ⟨v, h', a1, a2, a3⟩ := qI3 ht ho q2 e2;rw [q1] at a1;rw [a1, qR5];have ih := qGZ ht a2.2.1 (wW (d := o.dst) (qL a2.1 q2) a2.2.2) a3;rw [jX, q1] at ih;have ih2 := zA0 (Q' := fun e p => ∃ env' h', e = qB env' ∧ p = qE h'.l ∧ Ends P ((o :: l).map (·.dst)) env h env' h' ∧ (K env' h').run = some r) (fun e p ⟨env', h', b1, b2, b3, b4⟩ => ⟨env', h', b1, b2, Ends.step q1 q3 a2.1 b3, b4⟩) ih;unfold qCV
    cases hn : needs o.op with
    | false => rw [hn] at ih2; exact ih2
    | true =>
      rw [hn] at c ih2;simp only [cond_true] at c ⊢;refine ⟨?_, ih2⟩;rw [zKI] at c;rw [c.1, vW c.2]; rfl
   ·rw [hw, qPZ];have ih := qGZ ht ho (wW (d := o.dst) (v := .tup []) q2 (by simp [SV.ok, okL])) e1;rw [jX, q1] at ih;simp only [SV.enc, qB] at ih;exact zA0 (fun e p ⟨env', h', b1, b2, b3, b4⟩ => ⟨env', h', b1, b2, Ends.step q1 q3 (.refl _) b3, b4⟩) ih
def qHJ (R : List Nat) (l : List (Nat × SO)) : List (Nat × SO) := R.filterMap fun k => (slk k l).map fun o => (k, o)
theorem qBY {l : List (Nat × SO)} : ∀ (R : List Nat), qE (qHJ R l) = aU R (qE l)
 | [] => rfl
 | k :: R => by
   have ih := qBY (l := l) R;unfold qHJ aU at ih ⊢;rw [zON, zON, uV]
   cases hk : slk k l with
   | none => simp only [zOJ]; exact ih
   | some o =>
     simp only [zKU];show (k, o.enc) :: qE _ = _;rw [ih]
def q83 (b : Array Nat) (h0 : List (Nat × SO)) (zAS : List PV) (E F : List (Nat × List Nat)) (N : List (Nat × Nat)) (V : List (Nat × PV)) (O : List (Nat × List (Nat × SO))) : Bool :=
 (E.all fun e => (E ++ F).all fun f => Nat.beq e.1 f.1 || (qO2 b e.1 f.1 || f.2.all fun l => !e.2.contains l)) &&
   N.all fun n => z8 n.2 zAS && (qME n.2 h0 && ((V.all fun v => Nat.beq v.1 n.1 || (j6 b n.1 v.1 || noK n.2 v.2)) && O.all fun c => Nat.beq c.1 n.1 || (j6 b n.1 c.1 || qME n.2 c.2)))
def qY1 (O : List (Nat × List (Nat × SO))) : List (Nat × PHp) := O.map fun c => (c.1, qE c.2)
theorem q2M {b : Array Nat} {h0 : List (Nat × SO)} {zAS : List PV} {E F : List (Nat × List Nat)} {N : List (Nat × Nat)} {V : List (Nat × PV)} {O : List (Nat × List (Nat × SO))} (h : q83 b h0 zAS E F N V O = true) : q5R b (qE h0) zAS E F N V (qY1 O) = true := by
 unfold q83 at h;unfold q5R;rw [zKI] at h ⊢;refine ⟨h.1, zKL.2 fun n hn => ?_⟩;have h2 := zKL.1 h.2 n hn;rw [zKI, zKI, zKI] at h2 ⊢;refine ⟨h2.1, vW h2.2.1, h2.2.2.1, zKL.2 fun c hc => ?_⟩;obtain ⟨c0, hc0, rfl⟩ := zLC.1 hc;have h3 := zKL.1 h2.2.2.2 c0 hc0;rw [zLP, zLP] at h3 ⊢;rcases h3 with h | h | h
 ·exact .inl h
 ·exact .inr (.inl h)
 ·exact .inr (.inr (vW h))
def q1W (l : List (Nat × SO)) : PV -> Bool
 | .own k _ _ _ => (match slk k l with
   | some (.list _ _ _ _ _ _) => true
   | _ => false)
 | x => qHM x
theorem qXB {l : List (Nat × SO)} {x : PV} (h : q1W l x = true) : qIS (qE l) x = true := by
 cases x with
 | own k t o n =>
   unfold q1W at h;unfold qIS;simp only at h ⊢;rw [uV];split at h
   ·rename_i el gr g w u xs hk;rw [hk];simp only [zKU];show (((List.flatMap u.cells xs).map PV.f).all qRM) = true;rw [zKL];intro z hz;obtain ⟨y, _, rfl⟩ := zLC.1 hz;rfl
   ·cases h
 | _ => exact h
def q38 (o : Oper) (env : List PV) : Bool := match o.op with
 | .call ⟨.value f, args, _⟩ => (match target (qJ env f) (args.toList.map (qJ env)) with
   | some (g, _) => (match Frs.fr g with
     | none => true
     | some _ => false)
   | none => true)
 | _ => true
theorem qYE {env : List PV} (h : q38 o env = true) : pfr o env = none := by
 cases hp : pfr o env with
 | none => rfl
 | some q =>
   obtain ⟨el, n, cs⟩ := q;obtain ⟨f, args, ts, g, hop, ht, hg⟩ := qL3 hp;unfold q38 at h;rw [hop] at h;simp only [ht, hg] at h;cases h
def sfr (o : Oper) (env : List SV) : Option SV := match o.op with
 | .call ⟨.value f, args, _⟩ => (match qAF (xM env f) (eP env args) with
   | some (g, [.d (.list el t) xs]) => (match Frs.fr g with
     | some el' => cond (Nat.beq el el') (some (.d (.list el t) xs)) none
     | none => none)
   | _ => none)
 | _ => none
theorem q7T {x : SV} (he : okL h env) (e : sfr o env = some x) : ∃ el t, ∃ xs : List (Ty.sem t), x = .d (.list el t) xs ∧ pfr o (qB env) = some (el, xs.length, xs.flatMap t.cells) := by
 unfold sfr at e;split at e
 case h_2 => cases e
 rename_i f args ts hop;split at e
 case h_2 => cases e
 rename_i g el t xs hst;split at e
 case h_2 => cases e
 rename_i el' hg
 cases hc : Nat.beq el el' with
 | false => rw [hc] at e; cases e
 | true =>
   rw [hc] at e;cases e;obtain ⟨h1, _⟩ := rE (pJ he f) (bO he args) hst;refine ⟨el, t, xs, rfl, ?_⟩;unfold pfr;rw [hop];simp only [qM, aV, h1, qB, SV.enc, Ty.fv, hg, hc, cond_true]
def frT (P : Program) (el : TypeId) (w : Nat) (t : Ty) : Bool := match szT P el, t with
 | some (s + 1), .int k => Nat.beq w (s + 1) && (kP P el && decide (k = Frs.fk))
 | _, _ => false
theorem qR8 {k : IntKind} : ∀ (xs : List Int), (List.flatMap (Ty.int k).cells xs).all (isK k) = true
 | [] => rfl
 | x :: xs => by
   rw [zLF, zNX, qR8 xs];simp [Ty.cells, isK]
theorem q0T {t : Ty} {xs : List t.sem} (h : frT P el t.w t = true) (hn : Nat.ble xs.length 1048576 = true) : qW0 P el xs.length (xs.flatMap t.cells) = true := by
 unfold frT at h;unfold qW0;split at h
 ·rename_i s k hs;rw [zKI, zKI] at h;have hw := zKJ h.1;have hk : k = Frs.fk := of_decide_eq_true h.2.2;subst hk;rw [hs];have h1 : (List.flatMap (Ty.int Frs.fk).cells xs).length = xs.length * (s + 1) := by rw [yR, hw]
  have h2 : (List.flatMap (Ty.int Frs.fk).cells xs).all (isK Frs.fk) = true := qR8 xs;show (Nat.beq (xs.length * (s + 1)) (List.flatMap (Ty.int Frs.fk).cells xs).length && (Nat.ble xs.length 1048576 && (kP P el && (List.flatMap (Ty.int Frs.fk).cells xs).all (isK Frs.fk)))) = true;rw [h1, h2, hn, h.2.1, Nat.beq_refl];rfl
 ·cases h
theorem q9A {w : Nat} {t : Ty} (h : frT P el w t = true) : szT P el = some w ∧ 0 < w := by
 unfold frT at h;split at h
 ·rename_i s k hs;rw [zKI] at h;have hw := zKJ h.1;rw [hw];exact ⟨hs, Nat.succ_pos _⟩
 ·cases h
def qFB (P : Program) (T : jF) (nm : Nm) (ds : List (Option Tmp)) (b : Array Nat) (zAS : List SV) (h0 : SH) : Nat -> List Oper -> List SV -> SH -> List (Nat × List Nat) -> List (Nat × List Nat) -> List (Nat × Nat) -> List (Nat × PV) -> List (Nat × List (Nat × SO)) -> (List SV -> SH -> zAN R) -> zAN R
 | i, [], env, h, E, F, N, V, O, K => cond (q83 b h0.l (qB zAS) E F N V O) (K env h) .fail
 | i, o :: l, env, h, E, F, N, V, O, K => qAP ds o env
    (fun env => match sfr o env with
      | some (.d (.list el t) xs) => cond (frT P el t.w t && inP nm (qH nm o.dst)) (.ite (Nat.beq xs.length 0)
         (qFB P T nm ds b zAS h0 (i + 1) l (d9 env o.dst (.d (.list el t) [])) h E ((i, dlC o (qB env)) :: F) N ((i, .f (.l el 0 [])) :: V) O K)
         (.ite (Nat.ble xs.length 1048576)
           (qFB P T nm ds b zAS h0 (i + 1) l (d9 env o.dst (.own (qH nm o.dst) h.next xs.length)) (h.new (qH nm o.dst) fun v => .list el true v v t xs) ((i, [qH nm o.dst]) :: E) F ((i, qH nm o.dst) :: N) ((i, .own (qH nm o.dst) xs.length 0 xs.length) :: V)
             ((i, qHJ [qH nm o.dst] (h.new (qH nm o.dst) fun v => .list el true v v t xs).l) :: O) K) .fail)) .fail
      | some _ => .fail
      | none => cond ((q38 o (qB env) && (okE o || (!qU o || mF o))) && ((qBP o (qB env)).all (q1W h.l) && cond (needs o.op) (inP nm (qH nm o.dst)) true)) (qZS P T true (qH nm o.dst) o env h fun v h' =>
      qFB P T nm ds b zAS h0 (i + 1) l (d9 env o.dst v) h' (cond (okE o) ((i, RC o (qH nm o.dst) (qB env)) :: E) E) (cond (okE o) F ((i, dlC o (qB env)) :: F)) (cond (needs o.op) ((i, qH nm o.dst) :: N) N) ((i, v.enc) :: V) (cond (okE o) ((i, qHJ (RC o (qH nm o.dst) (qB env)) h'.l) :: O) O) K) .fail)
    (fun env => qFB P T nm ds b zAS h0 (i + 1) l (d9 env o.dst (.tup [])) h E F N ((i, .tup []) :: V) O K)
theorem oN {T : jF} (ht : qRH tab T) {ds : List (Option Tmp)} {b : Array Nat} {zAS : List SV} {h0 : SH} : ∀ {l : List Oper} {i : Nat} {env : List SV} {h : SH} {E F : List (Nat × List Nat)} {N : List (Nat × Nat)} {V : List (Nat × PV)} {O : List (Nat × List (Nat × SO))} {K : List SV -> SH -> zAN R}, OkH P h -> okL h env -> (qFB P T nm ds b zAS h0 i l env h E F N V O K).run = some r ->
 (qKD P tab nm ds b (qB zAS) (qE h0.l) i l (qB env) (qE h.l) E F N V (qY1 O)).holds P G fun e p => ∃ env' h', e = qB env' ∧ p = qE h'.l ∧ Ends P (l.map (·.dst)) env h env' h' ∧ (K env' h').run = some r
 | [], i, env, h, E, F, N, V, O, K, ho, he, e => by
   unfold qFB at e;obtain ⟨c, e1⟩ := qG e;exact ⟨q2M c, env, h, rfl, rfl, ⟨he, ho, .refl _, fun _ _ => rfl, rfl⟩, e1⟩
 | o :: l, i, env, h, E, F, N, V, O, K, ho, he, e => by
   unfold qFB at e;obtain ⟨zAV, q1, q2, q3, q4⟩ := o8 he e;unfold qKD jW
   rcases q4 with ⟨hw, e1⟩ | ⟨hw, e1⟩
   ·rw [hw];simp only;split at e1
    ·rename_i el t xs hsf;obtain ⟨el', t', xs', hx, hpf⟩ := q7T q2 hsf;cases hx;rw [q1] at hpf;obtain ⟨c, e2⟩ := qG e1;rw [zKI] at c;obtain ⟨p1, p2⟩ := qH2 hpf
     rcases run_ite e2 with ⟨z, e3⟩ | ⟨z, e3⟩
     ·have z0 : xs = [] := List.eq_nil_of_length_eq_zero (zKJ z);subst z0;have hfr : qHC o (qB env) = false := by unfold qHC; rw [hpf]; rfl
      have zD8 : okF o (qB env) = false := by unfold okF; rw [p1, hfr]; rfl
      have zD9 : ndF o (qB env) = false := by unfold ndF; rw [p2, hfr]; rfl
      rw [oL hpf (q0T c.1 rfl)];simp only [zD8, zD9, cond_false];unfold qCV;simp only [cond_false];have ih := oN ht ho (wW (d := o.dst) (v := .d (.list el t) []) q2 (by simp [SV.ok])) e3;rw [jX, q1] at ih;exact zA0 (Q' := fun e p => ∃ env' h', e = qB env' ∧ p = qE h'.l ∧ Ends P ((o :: l).map (·.dst)) env h env' h' ∧ (K env' h').run = some r) (fun e p ⟨env', h', b1, b2, b3, b4⟩ => ⟨env', h', b1, b2, Ends.step q1 q3 (.refl _) b3, b4⟩) ih
     ·rcases run_ite e3 with ⟨z2, e4⟩ | ⟨z2, e4⟩
      ·cases hn : xs.length with
       | zero => rw [hn] at z; cases z
       | succ n =>
       rw [hn] at hpf;have hfr : qHC o (qB env) = true := by unfold qHC; rw [hpf]
       have zD8 : okF o (qB env) = true := by unfold okF; rw [hfr, Bool.or_true]
       have zD9 : ndF o (qB env) = true := by unfold ndF; rw [hfr, Bool.or_true]
       have hRF : RF o (qH nm o.dst) (qB env) = [qH nm o.dst] := by unfold RF; rw [hfr]; rfl
       have hfo := q0T c.1 z2;rw [hn] at hfo;rw [oL hpf hfo];simp only [zD8, zD9, hRF, cond_true];unfold qCV;simp only [cond_true];have hnw := kD (k := qH nm o.dst) (f := fun v => .list el true v v t xs) ho ⟨rfl, rfl, q9A c.1⟩;have ih := oN ht hnw.2 (wW (d := o.dst) (v := .own (qH nm o.dst) h.next xs.length) (qL hnw.1 q2) (vR rfl)) e4;rw [jX, q1] at ih;have ih2 := zA0 (Q' := fun e p => ∃ env' h', e = qB env' ∧ p = qE h'.l ∧ Ends P ((o :: l).map (·.dst)) env h env' h' ∧ (K env' h').run = some r) (fun e p ⟨env', h', b1, b2, b3, b4⟩ => ⟨env', h', b1, b2, Ends.step q1 q3 hnw.1 b3, b4⟩) ih
       have eO : qY1 ((i, qHJ [qH nm o.dst] (h.new (qH nm o.dst) fun v => .list el true v v t xs).l) :: O) = (i, aU [qH nm o.dst] (qE (h.new (qH nm o.dst) fun v => .list el true v v t xs).l)) :: qY1 O := by
        show (i, qE (qHJ _ _)) :: qY1 O = _;rw [qBY]
       rw [eO] at ih2;simp only [SV.enc, hn] at ih2;exact ⟨c.2, ih2⟩
      ·cases e4
    ·cases e1
    rename_i hsf;obtain ⟨c, e2⟩ := qG e1;rw [zKI, zKI, zKI] at c;have hpf : pfr o (qB env) = none := by rw [<- q1]; exact qYE c.1.1
    have hfr : qHC o (qB env) = false := by unfold qHC; rw [hpf]
    have zD8 : okF o (qB env) = okE o := by unfold okF; rw [hfr, zN8]
    have zD9 : ndF o (qB env) = needs o.op := by unfold ndF; rw [hfr, zN8]
    have hRF : RF o (qH nm o.dst) (qB env) = RC o (qH nm o.dst) (qB env) := by unfold RF; rw [hfr]; rfl
    obtain ⟨v, h', a1, a2, a3⟩ := qI3 ht ho q2 e2;rw [q1] at a1;have c2 : uI o (qB env) (qE h.l) = true := zKL.2 fun x hx => qXB (zKL.1 c.2.1 x (by rw [q1]; exact hx))
    rw [nK hpf a1 c.1.2 c2];simp only [zD8, zD9, hRF];have ih := oN ht a2.2.1 (wW (d := o.dst) (qL a2.1 q2) a2.2.2) a3;rw [jX, q1] at ih;have ih2 := zA0 (Q' := fun e p => ∃ env' h', e = qB env' ∧ p = qE h'.l ∧ Ends P ((o :: l).map (·.dst)) env h env' h' ∧ (K env' h').run = some r) (fun e p ⟨env', h', b1, b2, b3, b4⟩ => ⟨env', h', b1, b2, Ends.step q1 q3 a2.1 b3, b4⟩) ih
    have eO : qY1 (cond (okE o) ((i, qHJ (RC o (qH nm o.dst) (qB env)) h'.l) :: O) O) = cond (okE o) ((i, aU (RC o (qH nm o.dst) (qB env)) (qE h'.l)) :: qY1 O) (qY1 O) := by
     cases okE o with
     | false => rfl
     | true =>
       show (i, qE (qHJ _ _)) :: qY1 O = _;rw [qBY]; rfl
    rw [eO] at ih2;unfold qCV
    cases hn : needs o.op with
    | false => rw [hn] at ih2; exact ih2
    | true =>
      have c3 := c.2.2;rw [hn] at c3 ih2;simp only [cond_true] at c3 ⊢;exact ⟨c3, ih2⟩
   ·rw [hw];simp only;have ih := oN ht ho (wW (d := o.dst) (v := .tup []) q2 (by simp [SV.ok, okL])) e1;rw [jX, q1] at ih;simp only [SV.enc, qB] at ih;exact zA0 (fun e p ⟨env', h', b1, b2, b3, b4⟩ => ⟨env', h', b1, b2, Ends.step q1 q3 (.refl _) b3, b4⟩) ih
def qNQ (ops : Array Oper) : Bool := match ops[ops.size - 1]? with
 | some o => (match o.op with
   | .call ⟨.value _, _, _⟩ => (List.range (ops.size - 1)).all fun i => j6 (Region.before ops) i (ops.size - 1)
   | _ => false)
 | none => false
def q9H {Γ : Type} (P : Program) (G : Nat -> Bool) (T : jF) (CI : CIT) (Y : YI Γ) (nm : Nm) (ops : Array Oper) (d : Bool) (g : Γ) (env : List SV) (h : SH) (K : Γ -> List SV -> SH -> zAN R) : zAN R :=
 cond (uE G ops) (cond d (cond (fM ops && fQ ops) (cond (qNQ ops)
  (qWM P T nm (ops.toList.map (·.dst)) (dBo ops) env 0 (ops.toList.take (ops.size - 1)) env h [] [] [] [] fun env h => qWV P T CI Y nm (ops.toList.map (·.dst)) (ops.toList.drop (ops.size - 1)) g env h K)
  (qWM P T nm (ops.toList.map (·.dst)) (dBo ops) env 0 ops.toList env h [] [] [] [] (K g))) (cond (qBC ops) (qFB P T nm (ops.toList.map (·.dst)) (Region.before ops) env h 0 ops.toList env h [] [] [] [] [] (K g)) .fail)) (qWV P T CI Y nm (ops.toList.map (·.dst)) ops.toList g env h K)) .fail
variable {nat : y8} {good : FuncId -> Bool} {rd : Bool}
theorem q3P [zBD P G] {Γ : Type} {w : Wld Γ} {T : jF} {CI : CIT} {Y : YI Γ} (s : zBH P good nat G tab) (ht : qRH tab T) (hci : q1C P G CI) (hy : YOk P G w Y) {id : Nat} {ops : Array Oper} {d : Bool} {g : Γ} {K : Γ -> List SV -> SH -> zAN R} (ho : OkH P h) (he : okL h env) (e : (q9H P G T CI Y nm ops d g env h K).run = some r) :
 qQ P G rd nm w (.region id ops d) g (qB env) (qE h.l) fun x g' pe ph => x = .normal ∧ ∃ env' h', pe = qB env' ∧ ph = qE h'.l ∧ Ends P (ops.toList.map (·.dst)) env h env' h' ∧ (K g' env' h').run = some r := by
 unfold q9H at e;obtain ⟨c1, e1⟩ := qG e
 cases d with
 | true =>
   cases hc2 : (fM ops && fQ ops) with
   | false =>
     rw [hc2] at e1;obtain ⟨c3, e2⟩ := qG (show (cond (qBC ops) (qFB P T nm (ops.toList.map (·.dst)) (Region.before ops) env h 0 ops.toList env h [] [] [] [] [] (K g)) .fail : zAN R).run = some r from e1);refine (qQ.of (s.zH9 (Q := fun x pe ph => x = .normal ∧ ∃ env' h', pe = qB env' ∧ ph = qE h'.l ∧ Ends P (ops.toList.map (·.dst)) env h env' h' ∧ (K g env' h').run = some r) c1 c3 ?_)).mono ?_
     ·exact zA0 (fun e p hq => ⟨rfl, hq⟩) (oN (G := G) (O := []) ht ho he e2)
     ·rintro x g' pe ph ⟨rfl, hq⟩;exact hq
   | true =>
   have c2 := hc2;rw [hc2] at e1
   have e2 : (cond (qNQ ops)
    (qWM P T nm (ops.toList.map (·.dst)) (dBo ops) env 0 (ops.toList.take (ops.size - 1)) env h [] [] [] [] fun env h => qWV P T CI Y nm (ops.toList.map (·.dst)) (ops.toList.drop (ops.size - 1)) g env h K)
    (qWM P T nm (ops.toList.map (·.dst)) (dBo ops) env 0 ops.toList env h [] [] [] [] (K g)) : zAN R).run = some r := e1
   rw [zKI] at c2
   cases hlo : qNQ ops with
   | false =>
     rw [hlo] at e2;have e2 : (qWM P T nm (ops.toList.map (·.dst)) (dBo ops) env 0 ops.toList env h [] [] [] [] (K g)).run = some r := e2;refine (qQ.of (s.zH3 (Q := fun x pe ph => x = .normal ∧ ∃ env' h', pe = qB env' ∧ ph = qE h'.l ∧ Ends P (ops.toList.map (·.dst)) env h env' h' ∧ (K g env' h').run = some r) c1 c2.1 c2.2 rfl rfl ?_)).mono ?_
     ·exact zA0 (fun e p hq => ⟨rfl, hq⟩) (qGZ (G := G) ht ho he e2)
     ·rintro x g' pe ph ⟨rfl, hq⟩;exact hq
   | true =>
     rw [hlo] at e2;have e2 : (qWM P T nm (ops.toList.map (·.dst)) (dBo ops) env 0 (ops.toList.take (ops.size - 1)) env h [] [] [] [] fun env h => qWV P T CI Y nm (ops.toList.map (·.dst)) (ops.toList.drop (ops.size - 1)) g env h K).run = some r := e2;unfold qNQ at hlo;split at hlo
     ·rename_i o hop;split at hlo
      ·have hlt := (zKT.1 hop).1
       have hdrop : ops.toList.drop (ops.size - 1) = [o] := by
        have h1 : ops.toList[ops.size - 1]? = some o := by simpa using hop
        obtain ⟨h2, h3⟩ := zKN.1 h1;rw [zM7 h2, h3, List.drop_eq_nil_of_le (by simp; omega)]
       have hmap : (ops.toList.take (ops.size - 1)).map (·.dst) ++ [o.dst] = ops.toList.map (·.dst) := by
        rw [show [o.dst] = [o].map (·.dst) from rfl, <- zLQ, <- hdrop, zOD]
       refine s.zH6 (inl := q0D T) (n0 := ops.size - 1) c1 c2.1 c2.2 hop (by omega) (fun i hi => zKL.1 hlo i (zNB.2 hi)) ?_;refine zA0 (fun e p hq => ?_) (qGZ (G := G) ht ho he e2);obtain ⟨zAV, h1, rfl, rfl, a3, a4⟩ := hq;rw [hdrop] at a4;refine kC (fun g2 e p hq => ?_) (qGO (G := G) ht hci hy a3.2.1 a3.1 a4);obtain ⟨zBE, h2, rfl, rfl, b3, b4⟩ := hq;refine ⟨rfl, zBE, h2, rfl, rfl, ⟨b3.1, b3.2.1, a3.2.2.1.trans b3.2.2.1, fun i hi => ?_, b3.2.2.2.2.trans a3.2.2.2.2⟩, b4⟩;rw [<- hmap, zLY, not_or] at hi;exact (b3.2.2.2.1 i hi.2).trans (a3.2.2.2.1 i hi.1)
      ·cases hlo
     ·cases hlo
 | false => exact s.zH5 c1 (kC (fun g e p hq => ⟨rfl, hq⟩) (qGO (G := G) ht hci hy ho he e1))
end
end Go.Sv
