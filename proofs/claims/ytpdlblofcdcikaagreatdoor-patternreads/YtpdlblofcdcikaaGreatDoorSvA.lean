/- A symbolic run, part one. Conditions: none. -/
import Derived.Test.YtpdlblofcdcikaaGreatDoorPur19
set_option linter.all false
namespace Go.Sv
open Go.Idl
class Yl where
 l : Nat
variable [Gc]
variable {P : Program} {Z Z' : Nat -> Prop} {H : IH} {M : Nat -> Option (Nat × PO)}
inductive Ty where
 | int (k : IntKind)
 | bool
 | str
 | unit
 | list (el : TypeId) (t : Ty)
 | pair (a b : Ty)
 | raw deriving DecidableEq
@[reducible] def Ty.sem : Ty -> Type
  | .int _ => Int
  | .bool => Bool
  | .str => ByteArray
  | .unit => Unit
  | .list _ t => List t.sem
  | .pair a b => a.sem × b.sem
  | .raw => List (Value × Value)
def eG (l : List (Value × Value)) : List FV := List.flatMap (fun p => [.v p.1, .v p.2]) l
def Ty.cells : (t : Ty) -> t.sem -> List FV
 | .int k, x => [.v (.int k x)]
 | .bool, x => [.v (.bool x)]
 | .str, x => [.v (.string x)]
 | .unit, _ => []
 | .list el t, xs => [.l el (List.length xs) (List.flatMap t.cells xs)]
 | .pair a b, x => a.cells x.1 ++ b.cells x.2
 | .raw, xs => [.l 1000000001 (List.length xs) (eG xs)]
def Ty.w : Ty -> Nat
 | .int _ | .bool | .str | .list _ _ | .raw => 1
 | .unit => 0
 | .pair a b => a.w + b.w
def Ty.one : Ty -> Bool
 | .unit => false
 | .pair _ _ => false
 | _ => true
def Ty.fv : (t : Ty) -> t.sem -> FV
 | .int k, x => .v (.int k x)
 | .bool, x => .v (.bool x)
 | .str, x => .v (.string x)
 | .list el t, xs => .l el (List.length xs) (List.flatMap t.cells xs)
 | .raw, xs => .l 1000000001 (List.length xs) (eG xs)
 | _, _ => .v undef
theorem Ty.cells_one : ∀ {t : Ty} {x : t.sem}, t.one = true -> t.cells x = [t.fv x]
 | .int _, _, _ => rfl
 | .bool, _, _ => rfl
 | .str, _, _ => rfl
 | .list _ _, _, _ => rfl
 | .raw, _, _ => rfl
 | .unit, _, h => by cases h
 | .pair _ _, _, h => by cases h
theorem Ty.cells_len : ∀ (t : Ty) (x : t.sem), (t.cells x).length = t.w
 | .int _, _ => rfl
 | .bool, _ => rfl
 | .str, _ => rfl
 | .list _ _, _ => rfl
 | .raw, _ => rfl
 | .unit, _ => rfl
 | .pair a b, x => by
   show (a.cells x.1 ++ b.cells x.2).length = a.w + b.w;rw [List.length_append, a.cells_len, b.cells_len]
theorem xD {t : Ty} : ∀ (xs : List t.sem), (xs.flatMap t.cells).length = xs.length * t.w
 | [] => by simp
 | x :: xs => by rw [List.flatMap_cons, List.length_append, t.cells_len, xD xs, List.length_cons, Nat.succ_mul, Nat.add_comm]
theorem gV {t : Ty} : ∀ (xs : List t.sem) (j : Nat), (xs.flatMap t.cells).drop (j * t.w) = (xs.drop j).flatMap t.cells
 | xs, 0 => by simp
 | [], j + 1 => by simp
 | x :: xs, j + 1 => by
   rw [List.flatMap_cons, List.drop_succ_cons, <- gV xs j, Nat.succ_mul, Nat.add_comm, <- List.drop_drop]
   congr 1
   rw [List.drop_append_of_le_length (by rw [t.cells_len]; exact Nat.le_refl _), List.drop_of_length_le (by rw [t.cells_len]; exact Nat.le_refl _), List.nil_append]
theorem gX {t : Ty} : ∀ (xs : List t.sem) (j : Nat), (xs.flatMap t.cells).take (j * t.w) = (xs.take j).flatMap t.cells
 | xs, 0 => by simp
 | [], j + 1 => by simp
 | x :: xs, j + 1 => by
   rw [List.flatMap_cons, List.take_succ_cons, List.flatMap_cons, <- gX xs j, Nat.succ_mul, Nat.add_comm, List.take_append, t.cells_len, Nat.add_sub_cancel_left, List.take_of_length_le (by rw [t.cells_len]; omega)]
theorem qRW {t : Ty} {xs : List t.sem} {j : Nat} {x : t.sem} (h : xs[j]? = some x) : ((xs.flatMap t.cells).drop (j * t.w)).take t.w = t.cells x := by
 rw [gV]
 have hj := (List.getElem?_eq_some_iff.1 h)
 obtain ⟨hl, hx⟩ := hj;rw [List.drop_eq_getElem_cons hl, hx, List.flatMap_cons, List.take_append_of_le_length (by rw [t.cells_len]; exact Nat.le_refl _), List.take_of_length_le (by rw [t.cells_len]; exact Nat.le_refl _)]
theorem qJ8 {t : Ty} {xs : List t.sem} {j : Nat} {x : t.sem} (h : xs[j]? = some x) {off n : Nat} (hn : off + n <= t.w) : ((xs.flatMap t.cells).drop (j * t.w + off)).take n = ((t.cells x).drop off).take n := by
 rw [<- qRW h, List.drop_take, List.drop_drop, List.take_take, Nat.min_eq_left (by omega)]
theorem flat_get {t : Ty} {xs : List t.sem} {j : Nat} {x : t.sem} (h : xs[j]? = some x) {off : Nat} (hn : off < t.w) : (xs.flatMap t.cells)[j * t.w + off]? = (t.cells x)[off]? := by
 rw [<- qRW h, List.getElem?_take, if_pos hn, List.getElem?_drop]
theorem qLS {t : Ty} {xs : List t.sem} {j : Nat} {x : t.sem} (h : xs[j]? = some x) {off n : Nat} (hn : off + n <= t.w) : j * t.w + off + n <= (xs.flatMap t.cells).length := by
 have hl := (List.getElem?_eq_some_iff.1 h).1;rw [xD];have : (j + 1) * t.w <= xs.length * t.w := Nat.mul_le_mul_right _ hl;rw [Nat.succ_mul] at this;omega
theorem qIG : ∀ (xs ys : List (Value × Value)), eG xs = eG ys -> xs = ys
 | [], [], _ => rfl
 | [], y :: ys, h => by cases h
 | x :: xs, [], h => by cases h
 | x :: xs, y :: ys, h => by
   have h : FV.v x.1 :: FV.v x.2 :: eG xs = FV.v y.1 :: FV.v y.2 :: eG ys := h;injection h with h1 h2;injection h2 with h2 h3;injection h1 with h1;injection h2 with h2;rw [qIG xs ys h3, Prod.ext h1 h2]
theorem qAM : ∀ (xs : List (Value × Value)), (eG xs).length = 2 * xs.length
 | [] => rfl
 | x :: xs => by
   show (eG xs).length + 2 = _;rw [qAM xs, List.length_cons]; omega
theorem qNX : ∀ (xs ys : List (Value × Value)) (vs : List Value), FRL Z H (eG xs) vs -> FRL Z' H (eG ys) vs -> xs = ys
 | [], [], _, _, _ => rfl
 | [], y :: ys, vs, a, b => by have := a.len; have := b.len; simp [eG] at *; omega
 | x :: xs, [], vs, a, b => by have := a.len; have := b.len; simp [eG] at *; omega
 | x :: xs, y :: ys, vs, a, b => by
   have a : FRL Z H (FV.v x.1 :: FV.v x.2 :: eG xs) vs := a;have b : FRL Z' H (FV.v y.1 :: FV.v y.2 :: eG ys) vs := b;obtain ⟨v, vs', rfl, a1, a2⟩ := a.uncons;obtain ⟨v', vs2, e, b1, b2⟩ := b.uncons;cases e;obtain ⟨w, vs3, rfl, a3, a4⟩ := a2.uncons;obtain ⟨w', vs4, e, b3, b4⟩ := b2.uncons;cases e;have e1 := (qRD a1).symm.trans (qRD b1);have e2 := (qRD a3).symm.trans (qRD b3);rw [qNX xs ys _ a4 b4, Prod.ext e1 e2]
theorem Ty.inj : ∀ (t : Ty) (x y : t.sem), t.cells x = t.cells y -> x = y
 | .int _, x, y, h => by injection h with h; injection h with h; injection h
 | .bool, x, y, h => by injection h with h; injection h with h; injection h
 | .str, x, y, h => by injection h with h; injection h with h; injection h
 | .unit, _, _, _ => rfl
 | .raw, xs, ys, h => by
   injection h with h;injection h with _ h1 h2;exact qIG _ _ h2
 | .pair a b, x, y, h => by
   have := List.append_inj (show a.cells x.1 ++ b.cells x.2 = a.cells y.1 ++ b.cells y.2 from h) (by rw [a.cells_len, a.cells_len]);exact Prod.ext (a.inj _ _ this.1) (b.inj _ _ this.2)
 | .list el t, xs, ys, h => by
   injection h with h;injection h with _ h1 h2;exact go t xs ys h1 h2
where
 go (t : Ty) : ∀ (xs ys : List t.sem), xs.length = ys.length -> xs.flatMap t.cells = ys.flatMap t.cells -> xs = ys
 | [], [], _, _ => rfl
 | [], y :: ys, e, h => by cases e
 | x :: xs, [], e, h => by cases e
 | x :: xs, y :: ys, e, h => by
   rw [List.flatMap_cons, List.flatMap_cons] at h;have := List.append_inj h (by rw [t.cells_len, t.cells_len]);rw [t.inj x y this.1, go t xs ys (by simpa using e) this.2]
theorem Ty.uniq : ∀ (t : Ty) {x y : t.sem} {vs : List Value}, FRL Z H (t.cells x) vs -> FRL Z' H (t.cells y) vs -> x = y
 | .int k, x, y, vs, a, b => by
   obtain ⟨v, vs', rfl, a1, _⟩ := a.uncons;obtain ⟨v', vs2, e, b1, _⟩ := b.uncons;cases e;have := (qRD a1).symm.trans (qRD b1);injection this
 | .bool, x, y, vs, a, b => by
   obtain ⟨v, vs', rfl, a1, _⟩ := a.uncons;obtain ⟨v', vs2, e, b1, _⟩ := b.uncons;cases e;have := (qRD a1).symm.trans (qRD b1);injection this
 | .str, x, y, vs, a, b => by
   obtain ⟨v, vs', rfl, a1, _⟩ := a.uncons;obtain ⟨v', vs2, e, b1, _⟩ := b.uncons;cases e;have := (qRD a1).symm.trans (qRD b1);injection this
 | .unit, _, _, _, _, _ => rfl
 | .raw, xs, ys, vs, a, b => by
   obtain ⟨v, vs', rfl, a1, _⟩ := a.uncons;obtain ⟨v', vs2, e, b1, _⟩ := b.uncons;cases e;obtain ⟨h1, ws, ws', h2, h3, h4⟩ := qBQ a1 b1;have := h4 (by rw [qAM, qAM, h1]);subst this;exact qNX xs ys ws h2 h3
 | .pair s t, x, y, vs, a, b => by
   obtain ⟨a1, a2⟩ := FRL.split (xs := s.cells x.1) (ys := t.cells x.2) a;obtain ⟨b1, b2⟩ := FRL.split (xs := s.cells y.1) (ys := t.cells y.2) b;rw [s.cells_len] at a1 a2 b1 b2;exact Prod.ext (s.uniq a1 b1) (t.uniq a2 b2)
 | .list el t, xs, ys, vs, a, b => by
   obtain ⟨v, vs', rfl, a1, _⟩ := a.uncons;obtain ⟨v', vs2, e, b1, _⟩ := b.uncons;cases e;obtain ⟨h1, ws, ws', h2, h3, h4⟩ := qBQ a1 b1;have := h4 (by rw [xD, xD, h1]);subst this;exact go t xs ys ws h1 h2 h3
where
 go (t : Ty) : ∀ (xs ys : List t.sem) (vs : List Value), xs.length = ys.length -> FRL Z H (xs.flatMap t.cells) vs -> FRL Z' H (ys.flatMap t.cells) vs -> xs = ys
 | [], [], _, _, _, _ => rfl
 | [], y :: ys, vs, e, a, b => by cases e
 | x :: xs, [], vs, e, a, b => by cases e
 | x :: xs, y :: ys, vs, e, a, b => by
   rw [List.flatMap_cons] at a b;obtain ⟨a1, a2⟩ := a.split;obtain ⟨b1, b2⟩ := b.split;rw [t.cells_len] at a1 a2 b1 b2;rw [t.uniq a1 b1, go t xs ys _ (by simpa using e) a2 b2]
def Ty.pv (t : Ty) (x : t.sem) : PV := cond t.one (.f (t.fv x)) (.agg ((t.cells x).map .f))
def Ty.en (t : Ty) : PEn t.sem := ⟨t.pv, fun x y h => by
 unfold Ty.pv at h
 cases ht : t.one with
 | true =>
   rw [ht] at h;injection h with h;exact t.inj x y (by rw [Ty.cells_one ht, Ty.cells_one ht, h])
 | false =>
   rw [ht] at h;injection h with h
   exact t.inj x y (q07 _ _ h), fun P Z Z' H x y v a b => by
 unfold Ty.pv at a b
 cases ht : t.one with
 | true =>
   rw [ht] at a b
   cases a with
   | f a => cases b with
     | f b => exact t.uniq (vs := [v]) (by rw [Ty.cells_one ht]; exact .cons a ⟨rfl, fun i x v h => by simp at h⟩) (by rw [Ty.cells_one ht]; exact .cons b ⟨rfl, fun i x v h => by simp at h⟩)
 | false =>
   rw [ht] at a b;obtain ⟨vs, rfl, h1⟩ := VR.aggL a;obtain ⟨vs', e, h2⟩ := VR.aggL b;cases e
   exact t.uniq (qBB h1) (qBB h2)⟩
@[reducible] def TyL : List Ty -> Type
  | [] => Unit
  | [t] => t.sem
  | t :: u :: ts => t.sem × TyL (u :: ts)
def pvL : (ts : List Ty) -> TyL ts -> List PV
 | [], _ => []
 | [t], x => [t.pv x]
 | t :: u :: ts, x => t.pv x.1 :: pvL (u :: ts) x.2
theorem qV6 : ∀ (ts : List Ty) (x y : TyL ts), pvL ts x = pvL ts y -> x = y
 | [], _, _, _ => rfl
 | [t], x, y, h => by injection h with h; exact t.en.inj x y h
 | t :: u :: ts, x, y, h => by
   injection h with h1 h2;exact Prod.ext (t.en.inj _ _ h1) (qV6 (u :: ts) _ _ h2)
theorem qN4 : ∀ (ts : List Ty) (x y : TyL ts) (vs : List Value), VRL P Z H (fun _ => none) (pvL ts x) vs -> VRL P Z' H (fun _ => none) (pvL ts y) vs -> x = y
 | [], _, _, _, _, _ => rfl
 | [t], x, y, vs, a, b => by
   obtain ⟨v, vs', rfl, a1, _⟩ := a.uncons;obtain ⟨v', vs2, e, b1, _⟩ := b.uncons;cases e;exact t.en.uniq P Z Z' H x y v a1 b1
 | t :: u :: ts, x, y, vs, a, b => by
   obtain ⟨v, vs', rfl, a1, a2⟩ := a.uncons;obtain ⟨v', vs2, e, b1, b2⟩ := b.uncons;cases e;exact Prod.ext (t.en.uniq P Z Z' H _ _ v a1 b1) (qN4 (u :: ts) _ _ _ a2 b2)
def enL (ts : List Ty) : AEn (TyL ts) := ⟨pvL ts, qV6 ts, fun P Z Z' H x y vs a b => qN4 ts x y vs a b⟩
def wE : (ts : List Ty) -> TyL ts -> PV := fun ts x => qC2 (pvL ts x)
end Go.Sv
namespace Go.Sv
open Go.Idl
variable [Gc]
variable {P : Program}
def Tree (R : Type) : Type := Option R
section
variable {R α σ ρ : Type}
def Tree.run (t : Tree R) : Option R := t
def Tree.fail : Tree R := (none : Option R)
def Tree.ret (r : R) : Tree R := some r
def Tree.ite (b : Bool) (x y : Tree R) : Tree R := cond b x y
noncomputable def Tree.bind (o : Option α) (k : α -> Tree R) : Tree R := Option.rec Tree.fail k o
noncomputable def Tree.loop (f : σ -> Tree (σ ⊕ ρ)) (s : σ) (k : ρ -> Tree R) : Tree R := Tree.bind (zX (fun s => (f s).run) s) k
end
theorem run_ite {R : Type} {b : Bool} {x y : Tree R} {r : R} (h : (Tree.ite b x y).run = some r) : (b = true ∧ x.run = some r) ∨ (b = false ∧ y.run = some r) := by
 cases b with
 | true => exact .inl ⟨rfl, h⟩
 | false => exact .inr ⟨rfl, h⟩
theorem run_bind {R α : Type} {o : Option α} {k : α -> Tree R} {r : R} (h : (Tree.bind o k).run = some r) : ∃ a, o = some a ∧ (k a).run = some r := by
 cases o with
 | none => cases h
 | some a => exact ⟨a, rfl, h⟩
theorem qYO {R σ ρ : Type} {f : σ -> Tree (σ ⊕ ρ)} {s : σ} {k : ρ -> Tree R} {r : R} (h : (Tree.loop f s k).run = some r) : ∃ a, zX (fun s => (f s).run) s = some a ∧ (k a).run = some r := run_bind h
theorem qF {R : Type} {b : Bool} {x : Tree R} {r : R} (h : (cond b x .fail).run = some r) : b = true ∧ x.run = some r := by
 cases b with
 | true => exact ⟨rfl, h⟩
 | false => cases h
inductive SV where
 | d (t : Ty) (x : t.sem)
 | c (v : Value)
 | agg (l : List SV)
 | tup (l : List SV)
 | own (k g n : Nat)
 | sl (k g n o m : Nat)
 | ref (k off w : Nat)
 | elt (k g n w j off : Nat)
 | lp (t : Ty) (xs : List t.sem) (j off : Nat)
 | fn (f : FuncId) (first cap : List SV)
 | unk
 | yv
 | mp (k : Nat)
 | opt (b : Bool) (k off w : Nat)
section
variable [Yl]
mutual
def SV.enc : SV -> PV
 | .d t x => .f (t.fv x)
 | .c v => fvv v
 | .agg l => .agg (qA l)
 | .tup l => .tup (qA l)
 | .own k _ n => .own k n 0 n
 | .sl k _ n o m => .own k n o m
 | .ref k off w => .ref k w off
 | .elt k _ n w j off => .ref k (n * w) (j * w + off)
 | .lp t xs j off => .lp (List.flatMap t.cells xs) (j * t.w + off)
 | .fn f a b => .fn f (qA a) (qA b)
 | .unk => .unk
 | .yv => .yl Yl.l
 | .mp k => .mp k
 | .opt b k off w => cond b (.ref k w off) (fvv (.pointer none))
def qA : List SV -> List PV
 | [] => []
 | x :: l => x.enc :: qA l
end
theorem qZ : ∀ (l : List SV), qA l = l.map SV.enc
 | [] => by simp [qA]
 | x :: l => by simp [qA, qZ l]
end
inductive SpO where
 | map (es : List (Value × Value))
 | iter (s : ByteArray) (pos : Nat)
def kY : Nat -> List (Value × Value) -> List MapEntry
 | _, [] => []
 | i, p :: l => ⟨p.1, p.2, i⟩ :: kY (i + 1) l
def SpO.enc : SpO -> PO
 | .map es => ⟨1000000001, false, jA (List.length es) (kY 0 es)⟩
 | .iter s pos => ⟨1000000000, false, qAW s pos⟩
inductive SO where
 | spc (w : Nat) (x : SpO)
 | cells (el : TypeId) (w : Nat) (l : List SV)
 | list (el : TypeId) (gr : Bool) (g w : Nat) (t : Ty) (xs : List t.sem)
section
variable [Yl]
def SO.enc : SO -> PO
 | .cells el _ l => ⟨el, false, qA l⟩
 | .list el gr _ _ t xs => ⟨el, gr, (List.flatMap t.cells xs).map .f⟩
 | .spc _ x => x.enc
def SO.w : SO -> Nat
 | .cells _ w _ => w
 | .list _ _ _ w _ _ => w
 | .spc w _ => w
structure SH where
 next : Nat
 l : List (Nat × SO)
def slk (k : Nat) : List (Nat × SO) -> Option SO
 | [] => none
 | (j, o) :: l => cond (k == j) (some o) (slk k l)
def sst (k : Nat) (o : SO) : List (Nat × SO) -> List (Nat × SO)
 | [] => []
 | (j, p) :: l => cond (k == j) ((j, o) :: l) ((j, p) :: sst k o l)
def sdl (k : Nat) : List (Nat × SO) -> List (Nat × SO)
 | [] => []
 | (j, p) :: l => cond (k == j) (sdl k l) ((j, p) :: sdl k l)
def qD : List (Nat × SO) -> PHp
 | [] => []
 | (j, o) :: l => (j, o.enc) :: qD l
theorem oM (k : Nat) : ∀ (l : List (Nat × SO)), qC k (qD l) = (slk k l).map SO.enc
 | [] => rfl
 | (j, o) :: l => by
   show cond (k == j) (some o.enc) (qC k (qD l)) = (cond (k == j) (some o) (slk k l)).map SO.enc;cases k == j
   ·exact oM k l
   ·rfl
theorem uJ (k : Nat) (o : SO) : ∀ (l : List (Nat × SO)), qD (sst k o l) = vN k o.enc (qD l)
 | [] => rfl
 | (j, p) :: l => by
   show qD (cond (k == j) ((j, o) :: l) ((j, p) :: sst k o l)) = cond (k == j) ((j, o.enc) :: qD l) ((j, p.enc) :: vN k o.enc (qD l));cases k == j
   ·show (j, p.enc) :: qD (sst k o l) = _;rw [uJ k o l]; rfl
   ·rfl
theorem dG (k : Nat) : ∀ (l : List (Nat × SO)), qD (sdl k l) = o7 k (qD l)
 | [] => rfl
 | (j, p) :: l => by
   show qD (cond (k == j) (sdl k l) ((j, p) :: sdl k l)) = cond (k == j) (o7 k (qD l)) ((j, p.enc) :: o7 k (qD l));cases k == j
   ·show (j, p.enc) :: qD (sdl k l) = _;rw [dG k l]; rfl
   ·exact dG k l
end
theorem qDO {k j : Nat} {o : SO} (hj : j ≠ k) : ∀ (l : List (Nat × SO)), slk j (sst k o l) = slk j l
 | [] => rfl
 | (i, p) :: l => by
   show slk j (cond (k == i) ((i, o) :: l) ((i, p) :: sst k o l)) = cond (j == i) (some p) (slk j l)
   cases h : k == i with
   | true =>
     have : k = i := by simpa using h
     subst this;show cond (j == k) (some o) (slk j l) = _;rw [show (j == k) = false by simpa using hj]; rfl
   | false =>
     show cond (j == i) (some p) (slk j (sst k o l)) = _;rw [qDO hj l]
theorem qS2 {k : Nat} {o p : SO} : ∀ {l : List (Nat × SO)}, slk k l = some p -> slk k (sst k o l) = some o
 | (i, q) :: l, h => by
   have h : cond (k == i) (some q) (slk k l) = some p := h;show slk k (cond (k == i) ((i, o) :: l) ((i, q) :: sst k o l)) = some o
   cases hi : k == i with
   | true =>
     show cond (k == i) (some o) (slk k l) = some o;rw [hi]; rfl
   | false =>
     rw [hi] at h;show cond (k == i) (some q) (slk k (sst k o l)) = some o;rw [hi]; exact qS2 (l := l) h
theorem jT {k j : Nat} (hj : j ≠ k) : ∀ (l : List (Nat × SO)), slk j (sdl k l) = slk j l
 | [] => rfl
 | (i, p) :: l => by
   show slk j (cond (k == i) (sdl k l) ((i, p) :: sdl k l)) = cond (j == i) (some p) (slk j l)
   cases h : k == i with
   | true =>
     have : k = i := by simpa using h
     subst this;rw [show (j == k) = false by simpa using hj];exact jT hj l
   | false =>
     show cond (j == i) (some p) (slk j (sdl k l)) = _;rw [jT hj l]
theorem qM0 (k : Nat) : ∀ (l : List (Nat × SO)), slk k (sdl k l) = none
 | [] => rfl
 | (i, p) :: l => by
   show slk k (cond (k == i) (sdl k l) ((i, p) :: sdl k l)) = none
   cases h : k == i with
   | true => exact qM0 k l
   | false =>
     show cond (k == i) (some p) (slk k (sdl k l)) = none;rw [h]; exact qM0 k l
theorem yD {k j : Nat} {o : SO} {l : List (Nat × SO)} (hj : j ≠ k) : slk j ((k, o) :: l) = slk j l := by
 show cond (j == k) (some o) (slk j l) = _;rw [show (j == k) = false by simpa using hj]; rfl
theorem uX {k : Nat} {o : SO} {l : List (Nat × SO)} : slk k ((k, o) :: l) = some o := by
 show cond (k == k) (some o) (slk k l) = _;simp
def qZW (h : SH) (k g n : Nat) : Prop := g < h.next ∧ ∀ el gr w t xs, slk k h.l = some (.list el gr g w t xs) -> n = xs.length
mutual
def SV.ok (h : SH) : SV -> Prop
 | .agg l => okL h l
 | .tup l => okL h l
 | .own k g n => qZW h k g n
 | .sl k g n o m => qZW h k g n ∧ o + m <= n
 | .elt k g n _ _ _ => qZW h k g n
 | .fn _ a b => okL h a ∧ okL h b
 | _ => True
def okL (h : SH) : List SV -> Prop
 | [] => True
 | x :: l => x.ok h ∧ okL h l
end
theorem y7 {h : SH} : ∀ {l : List SV}, okL h l ↔ ∀ x ∈ l, x.ok h
 | [] => by simp [okL]
 | x :: l => by simp [okL, y7 (l := l)]
structure OkH (P : Program) (h : SH) : Prop where
 ver : ∀ k ob, slk k h.l = some ob -> ob.w < h.next
 cells : ∀ k el w l, slk k h.l = some (.cells el w l) -> okL h l
 list : ∀ k el gr g w t xs, slk k h.l = some (.list el gr g w t xs) -> g < h.next ∧ szT P el = some t.w ∧ 0 < t.w
structure Keep (h h' : SH) : Prop where
 next : h.next <= h'.next
 same : ∀ k ob, slk k h'.l = some ob -> ob.w < h.next -> slk k h.l = some ob
 len : ∀ k el gr g w t xs, slk k h'.l = some (.list el gr g w t xs) -> g < h.next -> ∃ w0, ∃ xs0 : List t.sem, slk k h.l = some (.list el gr g w0 t xs0) ∧ xs0.length = xs.length
theorem Keep.refl (h : SH) : Keep h h := ⟨Nat.le_refl _, fun _ _ h _ => h, fun k el gr g w t xs h _ => ⟨w, xs, h, rfl⟩⟩
theorem Keep.trans {a b c : SH} (x : Keep a b) (y : Keep b c) : Keep a c :=
 ⟨Nat.le_trans x.next y.next, fun k ob h hw => x.same k ob (y.same k ob h (Nat.lt_of_lt_of_le hw x.next)) hw, fun k el gr g w t xs h hg => by
   obtain ⟨w1, xs1, h1, e1⟩ := y.len k el gr g w t xs h (Nat.lt_of_lt_of_le hg x.next);obtain ⟨w2, xs2, h2, e2⟩ := x.len k el gr g w1 t xs1 h1 hg
   exact ⟨w2, xs2, h2, e2.trans e1⟩⟩
theorem qZW.keep {h h' : SH} {k g n : Nat} (a : qZW h k g n) (b : Keep h h') : qZW h' k g n :=
 ⟨Nat.lt_of_lt_of_le a.1 b.next, fun el gr w t xs hk => by
   obtain ⟨w0, xs0, h0, e0⟩ := b.len k el gr g w t xs hk a.1
   rw [<- e0]; exact a.2 el gr w0 t xs0 h0⟩
mutual
theorem SV.ok.keep {h h' : SH} (b : Keep h h') : ∀ {x : SV}, x.ok h -> x.ok h'
 | .agg l, a => by simp only [SV.ok] at a ⊢; exact qN b a
 | .tup l, a => by simp only [SV.ok] at a ⊢; exact qN b a
 | .own k g n, a => by simp only [SV.ok] at a ⊢; exact a.keep b
 | .sl k g n o m, a => by simp only [SV.ok] at a ⊢; exact ⟨a.1.keep b, a.2⟩
 | .elt k g n w j off, a => by simp only [SV.ok] at a ⊢; exact a.keep b
 | .fn f x y, a => by simp only [SV.ok] at a ⊢; exact ⟨qN b a.1, qN b a.2⟩
 | .d _ _, _ => by simp [SV.ok]
 | .c _, _ => by simp [SV.ok]
 | .ref _ _ _, _ => by simp [SV.ok]
 | .lp _ _ _ _, _ => by simp [SV.ok]
 | .unk, _ => by simp [SV.ok]
 | .yv, _ => by simp [SV.ok]
 | .mp _, _ => by simp [SV.ok]
 | .opt _ _ _ _, _ => by simp [SV.ok]
theorem qN {h h' : SH} (b : Keep h h') : ∀ {l : List SV}, okL h l -> okL h' l
 | [], _ => by simp [okL]
 | x :: l, a => by simp only [okL] at a ⊢; exact ⟨SV.ok.keep b a.1, qN b a.2⟩
end
def SH.new (h : SH) (k : Nat) (f : Nat -> SO) : SH := ⟨h.next + 1, (k, f h.next) :: h.l⟩
def SH.put (h : SH) (k : Nat) (f : Nat -> SO) : SH := ⟨h.next + 1, sst k (f h.next) h.l⟩
def SH.del (h : SH) (k : Nat) : SH := ⟨h.next, sdl k h.l⟩
def q5L (P : Program) (h : SH) (n : Nat) : SO -> Prop
 | .cells _ w l => w = n ∧ okL h l
 | .list el _ g w t _ => w = n ∧ g = n ∧ szT P el = some t.w ∧ 0 < t.w
 | .spc w _ => w = n
theorem qY2 {h : SH} {k : Nat} {f : Nat -> SO} (hw : (f h.next).w = h.next) (hg : ∀ el gr g w t xs, f h.next = .list el gr g w t xs -> g = h.next) : Keep h (h.new k f) :=
 ⟨Nat.le_succ _, fun j ob hj hlt => by
   by_cases e : j = k
   ·subst e; rw [show slk j (h.new j f).l = some (f h.next) from uX] at hj;cases hj; omega
   ·rwa [show slk j (h.new k f).l = slk j h.l from yD e] at hj, fun j el gr g w t xs hj hlt => by
   by_cases e : j = k
   ·subst e; rw [show slk j (h.new j f).l = some (f h.next) from uX] at hj;have := hg _ _ _ _ _ _ (Option.some.inj hj);omega
   ·rw [show slk j (h.new k f).l = slk j h.l from yD e] at hj
    exact ⟨w, xs, hj, rfl⟩⟩
theorem kT {h : SH} {k : Nat} {f : Nat -> SO} (a : OkH P h) (hf : q5L P h h.next (f h.next)) : Keep h (h.new k f) ∧ OkH P (h.new k f) := by
 have hw : (f h.next).w = h.next := by
  cases hq : f h.next with
  | cells el w l => rw [hq] at hf; exact hf.1
  | list el gr g w t xs => rw [hq] at hf; exact hf.1
  | spc w x => rw [hq] at hf; exact hf
 have hk : Keep h (h.new k f) := qY2 hw fun el gr g w t xs e => by rw [e] at hf; exact hf.2.1
 refine ⟨hk, ⟨fun j ob hj => ?_, fun j el w l hj => ?_, fun j el gr g w t xs hj => ?_⟩⟩
 ·by_cases e : j = k
  ·subst e; rw [show slk j (h.new j f).l = some (f h.next) from uX] at hj;cases hj; rw [hw]; exact Nat.lt_succ_self _
  ·rw [show slk j (h.new k f).l = slk j h.l from yD e] at hj;exact Nat.lt_succ_of_lt (a.ver j ob hj)
 ·by_cases e : j = k
  ·subst e; rw [show slk j (h.new j f).l = some (f h.next) from uX] at hj;rw [Option.some.inj hj] at hf;exact qN hk hf.2
  ·rw [show slk j (h.new k f).l = slk j h.l from yD e] at hj;exact qN hk (a.cells j el w l hj)
 ·by_cases e : j = k
  ·subst e; rw [show slk j (h.new j f).l = some (f h.next) from uX] at hj;rw [Option.some.inj hj] at hf;exact ⟨by rw [hf.2.1]; exact Nat.lt_succ_self _, hf.2.2⟩
  ·rw [show slk j (h.new k f).l = slk j h.l from yD e] at hj;have := a.list j el gr g w t xs hj;exact ⟨Nat.lt_succ_of_lt this.1, this.2⟩
def q7J (h : SH) (n : Nat) : SO -> SO -> Prop
 | .cells _ _ _, .cells _ w' l' => w' = n ∧ okL h l'
 | .list el gr g _ t xs, ob' => ∃ xs' : List t.sem, ob' = .list el gr g n t xs' ∧ xs.length = xs'.length
 | .spc _ _, .spc w' _ => w' = n
 | _, _ => False
theorem mM {h : SH} {k : Nat} {f : Nat -> SO} {ob : SO} (a : OkH P h) (hk : slk k h.l = some ob) (hf : q7J h h.next ob (f h.next)) : Keep h (h.put k f) ∧ OkH P (h.put k f) := by
 have hs : slk k (h.put k f).l = some (f h.next) := qS2 hk;have hn : ∀ j, j ≠ k -> slk j (h.put k f).l = slk j h.l := fun j hj => qDO hj _
 have hw : (f h.next).w = h.next := by
  cases ob with
  | cells el w l =>
    cases hq : f h.next with
    | cells el' w' l' => rw [hq] at hf; exact hf.1
    | list => rw [hq] at hf; exact hf.elim
    | spc => rw [hq] at hf; exact hf.elim
  | spc w0 x0 =>
    cases hq : f h.next with
    | spc w' x' => rw [hq] at hf; exact hf
    | list => rw [hq] at hf; exact hf.elim
    | cells => rw [hq] at hf; exact hf.elim
  | list el gr g w t xs =>
    obtain ⟨xs', e, _⟩ := hf;rw [e]; rfl
 have hkp : Keep h (h.put k f) := by
  refine ⟨Nat.le_succ _, fun j o hj hlt => ?_, fun j el gr g w t xs hj hlt => ?_⟩
  ·by_cases e : j = k
   ·subst e; rw [hs] at hj; cases hj; omega
   ·rwa [hn j e] at hj
  ·by_cases e : j = k
   ·subst e;rw [hs] at hj;have hj := Option.some.inj hj
    cases ob with
    | cells el0 w0 l0 =>
      rw [hj] at hf;exact hf.elim
    | spc w0 x0 =>
      rw [hj] at hf;exact hf.elim
    | list el0 gr0 g0 w0 t0 xs0 =>
      obtain ⟨xs', e2, e3⟩ := hf;rw [e2] at hj;injection hj with a1 a2 a3 a4 a5 a6;subst a1 a2 a3 a5;cases a6;exact ⟨w0, xs0, hk, e3⟩
   ·rw [hn j e] at hj; exact ⟨w, xs, hj, rfl⟩
 refine ⟨hkp, ⟨fun j o hj => ?_, fun j el w l hj => ?_, fun j el gr g w t xs hj => ?_⟩⟩
 ·by_cases e : j = k
  ·subst e; rw [hs] at hj; cases hj; rw [hw]; exact Nat.lt_succ_self _
  ·rw [hn j e] at hj; exact Nat.lt_succ_of_lt (a.ver j o hj)
 ·by_cases e : j = k
  ·subst e;rw [hs] at hj;have hj := Option.some.inj hj
   cases ob with
   | cells el0 w0 l0 => rw [hj] at hf; exact qN hkp hf.2
   | spc w0 x0 => rw [hj] at hf; exact hf.elim
   | list el0 gr0 g0 w0 t0 xs0 =>
     obtain ⟨xs', e2, e3⟩ := hf;rw [e2] at hj; cases hj
  ·rw [hn j e] at hj; exact qN hkp (a.cells j el w l hj)
 ·by_cases e : j = k
  ·subst e;rw [hs] at hj;have hj := Option.some.inj hj
   cases ob with
   | cells el0 w0 l0 => rw [hj] at hf; exact hf.elim
   | spc w0 x0 => rw [hj] at hf; exact hf.elim
   | list el0 gr0 g0 w0 t0 xs0 =>
     obtain ⟨xs', e2, e3⟩ := hf;rw [e2] at hj;injection hj with a1 a2 a3 a4 a5 a6;subst a1 a2 a3 a5;have := a.list j _ _ _ _ _ _ hk;exact ⟨Nat.lt_succ_of_lt this.1, this.2⟩
  ·rw [hn j e] at hj;have := a.list j el gr g w t xs hj;exact ⟨Nat.lt_succ_of_lt this.1, this.2⟩
theorem mK {h : SH} {k : Nat} (a : OkH P h) : Keep h (h.del k) ∧ OkH P (h.del k) := by
 have hl : ∀ j ob, slk j (h.del k).l = some ob -> slk j h.l = some ob := fun j ob hj => by
  by_cases e : j = k
  ·subst e; rw [show slk j (h.del j).l = none from qM0 j _] at hj; cases hj
  ·rwa [show slk j (h.del k).l = slk j h.l from jT e _] at hj
 have hkp : Keep h (h.del k) := ⟨Nat.le_refl _, fun j ob hj _ => hl j ob hj, fun j el gr g w t xs hj _ => ⟨w, xs, hl _ _ hj, rfl⟩⟩
 exact ⟨hkp, ⟨fun j ob hj => a.ver j ob (hl j ob hj), fun j el w l hj => qN hkp (a.cells j el w l (hl _ _ hj)), fun j el gr g w t xs hj => a.list j el gr g w t xs (hl _ _ hj)⟩⟩
def GV (Γ : Option Type) : Type := match Γ with
 | none => Unit
 | some γ => γ
def GS (Γ : Option Type) (S : Type) : Type := match Γ with
 | none => S
 | some γ => γ × S
def gj : {Γ : Option Type} -> {S : Type} -> GV Γ -> S -> GS Γ S
 | none, _, _, s => s
 | some _, _, g, s => (g, s)
def g1 : {Γ : Option Type} -> {S : Type} -> GS Γ S -> GV Γ
 | none, _, _ => ()
 | some _, _, p => p.1
def g2 : {Γ : Option Type} -> {S : Type} -> GS Γ S -> S
 | none, _, s => s
 | some _, _, p => p.2
theorem q1K {Γ : Option Type} {S : Type} {g : GV Γ} {s : S} : g1 (gj g s) = g := by cases Γ <;> rfl
theorem q0D {Γ : Option Type} {S : Type} {g : GV Γ} {s : S} : g2 (gj g s) = s := by cases Γ <;> rfl
structure Ent where
 as : List Ty
 rs : List Ty
 F : TyL as -> Option (TyL rs)
abbrev kR := List (FuncId × Ent)
def slT (g : FuncId) : kR -> Option Ent
 | [] => none
 | (k, e) :: l => cond (Nat.beq g k) (some e) (slT g l)
structure Sh where
 d : List Nat
 o : List Nat
 s : List (Nat × Nat)
 v : List (Nat × TypeId)
 ex : List Nat
 b : List (Nat × List (Option Nat)) := []
 bv : List (Nat × Nat × TypeId × Nat) := []
structure An where
 fz : List (Nat × List (Nat × TypeId))
 lp : List (Nat × Sh)
 rg : List (Nat × Sh) := []
def lkA {α : Type} (i : Nat) : List (Nat × α) -> Option α
 | [] => none
 | (j, x) :: l => cond (Nat.beq i j) (some x) (lkA i l)
structure IEnt where
 as : List Ty
 ys : List Ty
 yt : List TypeId
 F : TyL as -> (γ : Type) -> (γ -> TyL ys -> Option (γ × Bool)) -> γ -> Option γ
def slI (g : FuncId) : List (FuncId × IEnt) -> Option IEnt
 | [] => none
 | (k, e) :: l => cond (Nat.beq g k) (some e) (slI g l)
structure YI (Γ : Type) where
 ys : List Ty
 yt : List TypeId
 stp : Γ -> TyL ys -> Option (Γ × Bool)
def yi0 : YI Unit := ⟨[], [], fun _ _ => none⟩
abbrev CIT : Type 1 := (R : Type) -> Nm -> FuncId -> List SV -> SH -> (SV -> SH -> Tree R) -> Tree R
end Go.Sv
namespace Go.Sv
open Go.Idl
noncomputable section
variable [Gc]
variable [Yl]
variable {P : Program} {h : SH} {R : Type} {r : R}
def q45 : Value -> SV
 | .agg cs => cond (kS okC cs.toList) (.agg (xM .c cs.toList)) .unk
 | .tuple cs => cond (kS okC cs.toList) (.tup (xM .c cs.toList)) .unk
 | v => cond (okC v) (.c v) .unk
def xE (env : List SV) : Operand -> SV
 | .tmp t => (zN env t).getD .unk
 | .const v => q45 v
 | .global _ => .unk
 | .func g => .c (.func (.func g) #[] #[])
theorem q56 : ∀ (l : List Value), qA (xM .c l) = xM fvv l
 | [] => by simp [xM, qA]
 | v :: l => by
   show qA (.c v :: xM .c l) = fvv v :: xM fvv l;simp [qA, q56 l, SV.enc]
omit [Yl] in
theorem q6E : ∀ (l : List Value), okL h (xM .c l)
 | [] => by simp [xM, okL]
 | v :: l => by
   show okL h (.c v :: xM .c l);simp [okL, q6E l, SV.ok]
theorem qY0 (v : Value) : ofC v = (q45 v).enc := by
 cases v with
 | agg cs =>
   show cond _ _ _ = (cond (kS okC cs.toList) (SV.agg (xM .c cs.toList)) SV.unk).enc;cases kS okC cs.toList
   ·simp [SV.enc]
   ·simp [SV.enc, q56]
 | tuple cs =>
   show cond _ _ _ = (cond (kS okC cs.toList) (SV.tup (xM .c cs.toList)) SV.unk).enc;cases kS okC cs.toList
   ·simp [SV.enc]
   ·simp [SV.enc, q56]
 | _ =>
   simp only [ofC, q1X, q45];cases okC _ <;> simp [SV.enc]
omit [Yl] in
theorem q1M (v : Value) : (q45 v).ok h := by
 cases v with
 | agg cs =>
   show (cond (kS okC cs.toList) (.agg (xM .c cs.toList)) .unk : SV).ok h;cases kS okC cs.toList
   ·simp [SV.ok]
   ·simp [SV.ok, q6E]
 | tuple cs =>
   show (cond (kS okC cs.toList) (.tup (xM .c cs.toList)) .unk : SV).ok h;cases kS okC cs.toList
   ·simp [SV.ok]
   ·simp [SV.ok, q6E]
 | _ =>
   simp only [q45];cases okC _ <;> simp [SV.ok]
theorem xL (env : List SV) (t : Nat) : zN (qA env) t = (zN env t).map SV.enc := by
 rw [qH, qH, qZ, List.getElem?_map]
omit [Yl] in
theorem qAO {env : List SV} {t : Nat} {x : SV} (ho : okL h env) (hx : zN env t = some x) : x.ok h := by
 rw [qH] at hx;exact y7.1 ho x (List.mem_of_getElem? hx)
theorem qJ (env : List SV) (x : Operand) : qK (qA env) x = (xE env x).enc := by
 cases x with
 | tmp t =>
   show (zN (qA env) t).getD .unk = ((zN env t).getD .unk).enc;rw [xL];cases zN env t <;> simp [SV.enc]
 | const v => exact qY0 v
 | global g => simp [qK, xE, SV.enc]
 | func g => simp [qK, xE, SV.enc]
omit [Yl] in
theorem qCF {env : List SV} (ho : okL h env) (x : Operand) : (xE env x).ok h := by
 cases x with
 | tmp t =>
   show ((zN env t).getD .unk).ok h
   cases hx : zN env t with
   | none => simp [SV.ok]
   | some y => exact qAO ho hx
 | const v => exact q1M v
 | global g => simp [xE, SV.ok]
 | func g => simp [xE, SV.ok]
def asI : SV -> Option (IntKind × Int)
 | .d (.int k) x => some (k, x)
 | .c (.int k x) => some (k, x)
 | _ => none
def asB : SV -> Option Bool
 | .d .bool x => some x
 | .c (.bool x) => some x
 | _ => none
def asS : SV -> Option ByteArray
 | .d .str x => some x
 | .c (.string x) => some x
 | _ => none
theorem xK {v : SV} {k : IntKind} {x : Int} (e : asI v = some (k, x)) : v.enc = fvv (.int k x) := by
 unfold asI at e;split at e
 ·cases e; simp [SV.enc, Ty.fv, fvv]
 ·cases e; simp [SV.enc]
 ·cases e
theorem rH {v : SV} {x : Bool} (e : asB v = some x) : v.enc = fvv (.bool x) := by
 unfold asB at e;split at e
 ·cases e; simp [SV.enc, Ty.fv, fvv]
 ·cases e; simp [SV.enc]
 ·cases e
theorem gD {v : SV} {x : ByteArray} (e : asS v = some x) : v.enc = fvv (.string x) := by
 unfold asS at e;split at e
 ·cases e; simp [SV.enc, Ty.fv, fvv]
 ·cases e; simp [SV.enc]
 ·cases e
def Ty.svs : (t : Ty) -> t.sem -> List SV
 | .int k, x => [.d (.int k) x]
 | .bool, x => [.d .bool x]
 | .str, x => [.d .str x]
 | .unit, _ => []
 | .list el t, x => [.d (.list el t) x]
 | .pair a b, x => a.svs x.1 ++ b.svs x.2
 | .raw, x => [.d .raw x]
theorem qAE (a b : List SV) : qA (a ++ b) = qA a ++ qA b := by simp [qZ]
theorem pX : ∀ (t : Ty) (x : t.sem), qA (t.svs x) = (t.cells x).map .f
 | .int k, x => by simp [Ty.svs, Ty.cells, qA, SV.enc, Ty.fv]
 | .bool, x => by simp [Ty.svs, Ty.cells, qA, SV.enc, Ty.fv]
 | .str, x => by simp [Ty.svs, Ty.cells, qA, SV.enc, Ty.fv]
 | .unit, x => by simp [Ty.svs, Ty.cells, qA]
 | .list el t, x => by simp [Ty.svs, Ty.cells, qA, SV.enc, Ty.fv]
 | .raw, x => by simp [Ty.svs, Ty.cells, qA, SV.enc, Ty.fv]
 | .pair a b, x => by
   show qA (a.svs x.1 ++ b.svs x.2) = (a.cells x.1 ++ b.cells x.2).map .f;rw [qAE, pX a, pX b, List.map_append]
omit [Yl] in
theorem mG {a b : List SV} (x : okL h a) (y : okL h b) : okL h (a ++ b) := y7.2 fun z hz => by
 rcases List.mem_append.1 hz with q | q
 ·exact y7.1 x z q
 ·exact y7.1 y z q
omit [Yl] in
theorem qHI : ∀ (t : Ty) (x : t.sem), okL h (t.svs x)
 | .int k, x => by simp [Ty.svs, okL, SV.ok]
 | .bool, x => by simp [Ty.svs, okL, SV.ok]
 | .str, x => by simp [Ty.svs, okL, SV.ok]
 | .unit, x => by simp [Ty.svs, okL]
 | .list el t, x => by simp [Ty.svs, okL, SV.ok]
 | .raw, x => by simp [Ty.svs, okL, SV.ok]
 | .pair a b, x => mG (qHI a x.1) (qHI b x.2)
def q7N (k : IntKind) (v : SV) : Option Int := match asI v with
 | some (k', x) => cond (decide (k' = k)) (some x) none
 | none => none
def q6L (el : TypeId) (t : Ty) : SV -> Option (List t.sem)
 | .d (.list el' t') xs => if e : t' = t then cond (Nat.beq el' el) (some (e ▸ xs)) none else none
 | _ => none
def asR : SV -> Option (List (Value × Value))
 | .d .raw x => some x
 | _ => none
def Ty.decS : (t : Ty) -> SV -> Option t.sem
 | .int k, v => q7N k v
 | .bool, v => asB v
 | .str, v => asS v
 | .list el t, v => q6L el t v
 | .unit, _ => none
 | .pair _ _, _ => none
 | .raw, v => asR v
theorem qWY {k : IntKind} {v : SV} {x : Int} (e : q7N k v = some x) : v.enc = fvv (.int k x) := by
 unfold q7N at e;split at e
 ·rename_i k' x' hx
  cases hk : decide (k' = k) with
  | false => rw [hk] at e; cases e
  | true =>
    rw [hk] at e;cases e;have : k' = k := by simpa using hk
    subst this;exact xK hx
 ·cases e
omit [Yl] in
theorem qXP {el : TypeId} {t : Ty} {v : SV} {x : List t.sem} (e : q6L el t v = some x) : v = .d (.list el t) x := by
 unfold q6L at e;split at e
 ·rename_i el' t' xs;split at e
  ·rename_i ht;subst ht
   cases hk : Nat.beq el' el with
   | false => rw [hk] at e; cases e
   | true =>
     rw [hk] at e;cases e;have : el' = el := Nat.eq_of_beq_eq_true hk;subst this;rfl
  ·cases e
 ·cases e
theorem qGT : ∀ {t : Ty} {v : SV} {x : t.sem}, t.decS v = some x -> v.enc = .f (t.fv x) ∧ t.one = true
 | .int k, v, x, e => ⟨qWY e, rfl⟩
 | .bool, v, x, e => ⟨rH e, rfl⟩
 | .str, v, x, e => ⟨gD e, rfl⟩
 | .list el t, v, x, e => ⟨by rw [qXP e]; simp [SV.enc], rfl⟩
 | .raw, v, x, e => by
   have e : asR v = some x := e;refine ⟨?_, rfl⟩;unfold asR at e;split at e
   ·cases e; simp [SV.enc]
   ·cases e
 | .unit, v, x, e => by cases e
 | .pair a b, v, x, e => by cases e
def q3L (t : Ty) : List SV -> Option (t.sem × List SV)
 | v :: l => match t.decS v with
   | some x => some (x, l)
   | none => none
 | [] => none
def Ty.decL : (t : Ty) -> List SV -> Option (t.sem × List SV)
 | .int k, l => q3L (.int k) l
 | .bool, l => q3L .bool l
 | .str, l => q3L .str l
 | .raw, l => q3L .raw l
 | .list el t, l => q3L (.list el t) l
 | .unit, l => some ((), l)
 | .pair a b, l => match a.decL l with
   | some (x, l1) => (match b.decL l1 with
     | some (y, l2) => some ((x, y), l2)
     | none => none)
   | none => none
theorem oK {t : Ty} {l l' : List SV} {x : t.sem} (e : q3L t l = some (x, l')) : qA l = (t.cells x).map .f ++ qA l' := by
 cases l with
 | nil => cases e
 | cons v l =>
   unfold q3L at e;simp only at e;split at e
   ·rename_i y hy;cases e;obtain ⟨h1, h2⟩ := qGT hy;rw [Ty.cells_one h2];simp [qA, h1]
   ·cases e
theorem tN : ∀ {t : Ty} {l l' : List SV} {x : t.sem}, t.decL l = some (x, l') -> qA l = (t.cells x).map .f ++ qA l'
 | .int k, l, l', x, e => oK e
 | .bool, l, l', x, e => oK e
 | .str, l, l', x, e => oK e
 | .raw, l, l', x, e => oK e
 | .list el t, l, l', x, e => oK e
 | .unit, l, l', x, e => by cases e; simp [Ty.cells]
 | .pair a b, l, l', x, e => by
   unfold Ty.decL at e;split at e
   ·rename_i x1 l1 h1;split at e
    ·rename_i y l2 h2;cases e;show qA l = (a.cells x1 ++ b.cells y).map .f ++ qA l';rw [tN h1, tN h2, List.map_append, List.append_assoc]
    ·cases e
   ·cases e
def Ty.decA (t : Ty) (l : List SV) : Option t.sem := match t.decL l with
 | some (x, []) => some x
 | _ => none
theorem qFU {t : Ty} {l : List SV} {x : t.sem} (e : t.decA l = some x) : qA l = (t.cells x).map .f := by
 unfold Ty.decA at e;split at e
 ·rename_i y hy;cases e;rw [tN hy]; simp [qA]
 ·cases e
def qIM (P : Program) (t : TypeId) (l : List SV) (off : Nat) : Option SV := match qKP P t with
 | some true => (match szT P t with
   | some n => cond (Nat.ble (off + n) l.length) (some (.agg ((l.drop off).take n))) none
   | none => none)
 | some false => zN l off
 | none => none
omit [Yl] in
theorem qMO {a b : List SV} (x : okL h a) (hs : ∀ z ∈ b, z ∈ a) : okL h b := y7.2 fun z hz => y7.1 x z (hs z hz)
theorem tX {t : TypeId} {l : List SV} {off : Nat} {v : SV} (e : qIM P t l off = some v) : pE P t (qA l) off = some v.enc ∧ (okL h l -> v.ok h) := by
 unfold qIM at e;unfold pE;split at e
 ·rename_i ha;rw [ha];simp only;split at e
  ·rename_i n hn;rw [hn];simp only
   cases hc : Nat.ble (off + n) l.length with
   | false => rw [hc] at e; cases e
   | true =>
     rw [hc] at e;cases e;refine ⟨by rw [qZ, List.length_map, hc]; simp [SV.enc, qZ, List.map_drop, List.map_take], fun ho => ?_⟩;simp only [SV.ok];exact qMO ho fun z hz => List.mem_of_mem_drop (List.mem_of_mem_take hz)
  ·cases e
 ·rename_i ha;rw [ha];simp only;rw [xL, e];exact ⟨rfl, fun ho => qAO ho e⟩
 ·cases e
theorem qI2 {t : TypeId} {t' : Ty} {xs : List t'.sem} {j off : Nat} {x : t'.sem} {v : SV} (hx : xs[j]? = some x) (e : qIM P t (t'.svs x) off = some v) :
 pE P t ((xs.flatMap t'.cells).map .f) (j * t'.w + off) = some v.enc ∧ qLB P t (xs.flatMap t'.cells) (j * t'.w + off) = some v.enc ∧ v.ok h := by
 have h0 := tX (h := h) e;refine ⟨?_, ?_, h0.2 (qHI t' x)⟩
 all_goals
  have h1 := h0.1;rw [pX] at h1;unfold pE at h1
 ·unfold pE;split at h1
  ·rename_i ha;split at h1
   ·rename_i n hn
    cases hc : Nat.ble (off + n) ((t'.cells x).map PV.f).length with
    | false => rw [hc] at h1; cases h1
    | true =>
      rw [hc] at h1
      have hle : off + n <= t'.w := by
       have := Nat.le_of_ble_eq_true hc;rw [List.length_map, t'.cells_len] at this;exact this
      rw [show Nat.ble (j * t'.w + off + n) ((xs.flatMap t'.cells).map PV.f).length = true from Nat.ble_eq_true_of_le (by rw [List.length_map]; exact qLS hx hle)];simp only [cond_true] at h1 ⊢;rw [<- h1, <- List.map_drop, <- List.map_take, qJ8 hx hle, <- List.map_drop, <- List.map_take]
   ·cases h1
  ·rename_i ha;rw [qH, List.getElem?_map] at h1 ⊢
   have hlt : off < t'.w := by
    rw [<- t'.cells_len x]
    cases hq : (t'.cells x)[off]? with
    | none => rw [hq] at h1; cases h1
    | some y => exact (List.getElem?_eq_some_iff.1 hq).1
   rw [Go.Sv.flat_get hx hlt]; exact h1
  ·cases h1
 ·unfold qLB;split at h1
  ·rename_i ha;split at h1
   ·rename_i n hn
    cases hc : Nat.ble (off + n) ((t'.cells x).map PV.f).length with
    | false => rw [hc] at h1; cases h1
    | true =>
      rw [hc] at h1
      have hle : off + n <= t'.w := by
       have := Nat.le_of_ble_eq_true hc;rw [List.length_map, t'.cells_len] at this;exact this
      rw [show Nat.ble (j * t'.w + off + n) (xs.flatMap t'.cells).length = true from Nat.ble_eq_true_of_le (qLS hx hle)];simp only [cond_true] at h1 ⊢;rw [<- h1, qJ8 hx hle, <- List.map_drop, <- List.map_take]
   ·cases h1
  ·rename_i ha;rw [qH, List.getElem?_map] at h1
   cases hq : (t'.cells x)[off]? with
   | none => rw [hq] at h1; cases h1
   | some y =>
     rw [hq] at h1
     have hlt : off < t'.w := by
      rw [<- t'.cells_len x];exact (List.getElem?_eq_some_iff.1 hq).1
     rw [Go.Sv.flat_get hx hlt, hq];exact h1
  ·cases h1
def q3H (P : Program) (t : TypeId) (a : SV) (h : SH) (K : SV -> Tree R) : Tree R := match a with
 | .ref k off w => (match slk k h.l with
   | some (.cells el _ l) => (match qIM P t l off with
     | some v => cond (!(spec P el) && Nat.beq w l.length) (K v) .fail
     | none => .fail)
   | _ => .fail)
 | .elt k g n w j off => (match slk k h.l with
   | some (.list _ _ g' _ t' xs) => cond (Nat.beq g g' && Nat.beq w t'.w) (.bind (xs[j]?) fun x => match qIM P t (t'.svs x) off with
     | some v => K v
     | none => .fail) .fail
   | _ => .fail)
 | .lp t' xs j off => .bind (xs[j]?) fun x => match qIM P t (t'.svs x) off with
   | some v => K v
   | none => .fail
 | _ => .fail
theorem zD (l : List SV) : (qA l).length = l.length := by rw [qZ, List.length_map]
theorem xZ {k : Nat} {ob : SO} {l : List (Nat × SO)} (e : slk k l = some ob) : qC k (qD l) = some ob.enc := by rw [oM, e]; rfl
theorem qV {el : TypeId} {gr : Bool} {g w : Nat} {t : Ty} {xs : List t.sem} : (SO.list el gr g w t xs).enc.cs.length = xs.length * t.w := by
 show ((xs.flatMap t.cells).map PV.f).length = _;rw [List.length_map, xD]
theorem qXM {t : TypeId} {a : SV} {K : SV -> Tree R} (ho : OkH P h) (ha : a.ok h) (e : (q3H P t a h K).run = some r) : ∃ v, oW P t a.enc (qD h.l) = some v.enc ∧ v.ok h ∧ (K v).run = some r := by
 unfold q3H at e;split at e
 ·rename_i k off w;split at e
  ·rename_i el w' l hk;split at e
   ·rename_i v hv;obtain ⟨h1, h2⟩ := qF e;rw [Bool.and_eq_true, Bool.not_eq_true'] at h1;obtain ⟨hsp, h1⟩ := h1;obtain ⟨h3, h4⟩ := tX (h := h) hv;refine ⟨v, ?_, h4 (ho.cells _ _ _ _ hk), h2⟩;simp only [SV.enc, oW, xZ hk];show cond (spec P el) none (cond (Nat.beq w (qA l).length) (pE P t (qA l) off) none) = _;rw [zD, h1, hsp];exact h3
   ·cases e
  ·cases e
 ·rename_i k g n w j off;split at e
  ·rename_i el gr g' w' t' xs hk;obtain ⟨h1, h2⟩ := qF e;rw [Bool.and_eq_true] at h1;have hg : g = g' := Nat.eq_of_beq_eq_true h1.1;have hw : w = t'.w := Nat.eq_of_beq_eq_true h1.2;subst hg hw;obtain ⟨x, hx, h3⟩ := run_bind h2;split at h3
   ·rename_i v hv;have h5 := qI2 (h := h) hx hv;refine ⟨v, ?_, h5.2.2, h3⟩;simp only [SV.ok] at ha;have hn : n = xs.length := ha.2 _ _ _ _ _ hk;simp only [SV.enc, oW, xZ hk];rw [qV, hn, show spec P (SO.list el gr g w' t' xs).enc.el = false from jQ (ho.list _ _ _ _ _ _ _ hk).2.1];simp only [qBD, cond_true, cond_false];exact h5.1
   ·cases h3
  ·cases e
 ·rename_i t' xs j off;obtain ⟨x, hx, h3⟩ := run_bind e;split at h3
  ·rename_i v hv;have h5 := qI2 (h := h) hx hv;exact ⟨v, by simp only [SV.enc, oW]; exact h5.2.1, h5.2.2, h3⟩
  ·cases h3
 ·cases e
def Post (P : Program) (h h' : SH) (v : SV) : Prop := Keep h h' ∧ OkH P h' ∧ v.ok h'
def yI : SV -> List SV
 | .agg l => l
 | v => [v]
theorem cK (v : SV) : zL v.enc = qA (yI v) := by
 cases v <;> simp [SV.enc, zL, yI, qA, fvv];rename_i b _ _ _;cases b <;> rfl
omit [Yl] in
theorem qA9 {v : SV} (hv : v.ok h) : okL h (yI v) := by
 cases v <;> simp only [yI, okL, SV.ok, and_true] at hv ⊢ <;> exact hv
def qAT (l : List SV) (i : Nat) (vs : List SV) : List SV := l.take i ++ vs ++ l.drop (i + vs.length)
theorem qCU (l vs : List SV) (i : Nat) : qA (qAT l i vs) = xV (qA l) i (qA vs) := by
 simp [qAT, xV, qZ, List.map_take, List.map_drop]
omit [Yl] in
theorem qOE {l vs : List SV} {i : Nat} (a : okL h l) (b : okL h vs) : okL h (qAT l i vs) :=
 mG (mG (qMO a fun z hz => List.mem_of_mem_take hz) b) (qMO a fun z hz => List.mem_of_mem_drop hz)
omit [Yl] in
theorem qW3 {α : Type} (A B C : List α) (c : List α) {off : Nat} (hle : off + c.length <= B.length) :
 (A ++ B ++ C).take (A.length + off) ++ c ++ (A ++ B ++ C).drop (A.length + off + c.length) = A ++ (B.take off ++ c ++ B.drop (off + c.length)) ++ C := by
 rw [List.append_assoc A B C, List.take_append, List.take_of_length_le (by omega), Nat.add_sub_cancel_left, List.take_append_of_le_length (by omega)];rw [Nat.add_assoc, List.drop_append, List.drop_of_length_le (by omega), Nat.add_sub_cancel_left, List.nil_append, List.drop_append_of_le_length (by omega)];simp [List.append_assoc]
omit [Yl] in
theorem qDZ {t : Ty} {xs : List t.sem} {j : Nat} {x : t.sem} (hx : xs[j]? = some x) (y : t.sem) : (xs.set j y).flatMap t.cells = (xs.take j).flatMap t.cells ++ t.cells y ++ (xs.drop (j + 1)).flatMap t.cells := by
 have hl := (List.getElem?_eq_some_iff.1 hx).1;rw [List.set_eq_take_append_cons_drop, if_pos hl, List.flatMap_append, List.flatMap_cons, List.append_assoc]
omit [Yl] in
theorem qQJ {t : Ty} {xs : List t.sem} {j : Nat} {x y : t.sem} (hx : xs[j]? = some x) {off : Nat} {c : List PV} (hle : off + c.length <= t.w) (hy : xV ((t.cells x).map .f) off c = (t.cells y).map .f) :
 xV ((xs.flatMap t.cells).map .f) (j * t.w + off) c = ((xs.set j y).flatMap t.cells).map .f := by
 have hl := (List.getElem?_eq_some_iff.1 hx).1
 have e0 : xs.set j x = xs := by
  apply List.ext_getElem?;intro i;rw [List.getElem?_set];by_cases e : j = i
  ·subst e; rw [if_pos rfl, if_pos hl, hx]
  ·rw [if_neg e]
 have e1 := qDZ hx x;rw [e0] at e1;rw [qDZ hx y, e1];simp only [List.map_append];unfold xV;have hA : (((xs.take j).flatMap t.cells).map PV.f).length = j * t.w := by rw [List.length_map, xD, List.length_take, Nat.min_eq_left (by omega)]
 rw [<- hA, qW3 _ _ _ _ (by rw [List.length_map, t.cells_len]; exact hle)];unfold xV at hy;rw [hy]
def qUF (P : Program) (t : TypeId) (a x : SV) (h : SH) (K : SV -> SH -> Tree R) : Tree R := match szT P t with
 | some n => (match a with
   | .ref k off w => (match slk k h.l with
     | some (.cells el _ l) => cond (!(spec P el) && (Nat.beq w l.length && (Nat.beq n (yI x).length && (Nat.ble (off + n) l.length && (pnt x.enc && (qA (yI x)).all mZ)))))
        (K (.tup []) (h.put k fun v => .cells el v (qAT l off (yI x)))) .fail
     | _ => .fail)
   | .elt k g m w j off => (match slk k h.l with
     | some (.list el gr g' _ t' xs) => cond (Nat.beq g g' && (Nat.beq w t'.w && (Nat.beq n (yI x).length && (Nat.ble (off + n) w && (pnt x.enc && (qA (yI x)).all mZ)))))
        (.bind (xs[j]?) fun y => match t'.decA (qAT (t'.svs y) off (yI x)) with
          | some z => K (.tup []) (h.put k fun v => .list el gr g v t' (List.set xs j z))
          | none => .fail) .fail
     | _ => .fail)
   | _ => .fail)
 | none => .fail
theorem qV4 {t : TypeId} {a x : SV} {K : SV -> SH -> Tree R} (ho : OkH P h) (ha : a.ok h) (hx : x.ok h) (e : (qUF P t a x h K).run = some r) :
 ∃ h', nR P t a.enc x.enc (qD h.l) = some (qD h'.l) ∧ Keep h h' ∧ OkH P h' ∧ (K (.tup []) h').run = some r := by
 unfold qUF at e;split at e
 ·rename_i n hn;split at e
  ·rename_i k off w;split at e
   ·rename_i el w' l hk;obtain ⟨h1, h2⟩ := qF e;rw [Bool.and_eq_true, Bool.not_eq_true'] at h1;obtain ⟨hsp, h1⟩ := h1;have hp := mM (f := fun v => .cells el v (qAT l off (yI x))) ho hk ⟨rfl, qOE (ho.cells _ _ _ _ hk) (qA9 hx)⟩;refine ⟨_, ?_, hp.1, hp.2, h2⟩;simp only [SV.enc, nR, xZ hk, hn];show cond (spec P el) none (cond (Nat.beq w (qA l).length && (Nat.beq n (zL x.enc).length && (Nat.ble (off + n) (qA l).length && (pnt x.enc && (zL x.enc).all mZ)))) _ _) = _;rw [cK, zD, zD, h1, hsp];simp only [cond_true];rw [show qD (h.put k fun v => .cells el v (qAT l off (yI x))).l = vN k (SO.enc (.cells el h.next (qAT l off (yI x)))) (qD h.l) from uJ k _ _];show some (vN k ⟨el, false, xV (qA l) off (qA (yI x))⟩ (qD h.l)) = some (vN k ⟨el, false, qA (qAT l off (yI x))⟩ (qD h.l));rw [qCU]
   ·cases e
  ·rename_i k g m w j off;split at e
   ·rename_i el gr g' w' t' xs hk;obtain ⟨h1, h2⟩ := qF e;simp only [Bool.and_eq_true] at h1;obtain ⟨q1, q2, q3, q4, q5, q6⟩ := h1;have hg : g = g' := Nat.eq_of_beq_eq_true q1;have hw : w = t'.w := Nat.eq_of_beq_eq_true q2;subst hg hw;obtain ⟨y, hy, h3⟩ := run_bind h2;split at h3
    ·rename_i z hz;have hp := mM (f := fun v => .list el gr g v t' (List.set xs j z)) ho hk ⟨_, rfl, by simp⟩;refine ⟨_, ?_, hp.1, hp.2, h3⟩;simp only [SV.ok] at ha;have hm : m = xs.length := ha.2 _ _ _ _ _ hk;have hle : off + n <= t'.w := Nat.le_of_ble_eq_true q4;simp only [SV.enc, nR, xZ hk, hn];rw [qV, hm, cK, zD, show spec P (SO.list el gr g w' t' xs).enc.el = false from jQ (ho.list _ _ _ _ _ _ _ hk).2.1]
     have hjl : j * t'.w + off + n <= xs.length * t'.w := by
      have := qLS hy hle
      rwa [xD] at this
     rw [q3, q5, q6, show Nat.ble (j * t'.w + off + n) (xs.length * t'.w) = true from Nat.ble_eq_true_of_le hjl];simp only [qBD, Bool.and_self, cond_true, cond_false];rw [show qD (h.put k fun v => .list el gr g v t' (List.set xs j z)).l = vN k (SO.enc (.list el gr g h.next t' (List.set xs j z))) (qD h.l) from uJ k _ _];show some (vN k ⟨el, gr, xV ((xs.flatMap t'.cells).map .f) (j * t'.w + off) (qA (yI x))⟩ (qD h.l)) = some (vN k ⟨el, gr, ((List.set xs j z).flatMap t'.cells).map .f⟩ (qD h.l));have hnl : n = (qA (yI x)).length := by rw [zD]; exact Nat.eq_of_beq_eq_true q3
     rw [qQJ hy (y := z) (by rw [<- hnl]; exact hle) (by rw [<- pX, <- qCU]; exact qFU hz)]
    ·cases h3
   ·cases e
  ·cases e
 ·cases e
end
end Go.Sv
namespace Go.Sv
open Go.Idl
noncomputable section
variable [Gc]
variable [Yl]
variable {P : Program} {h : SH} {R : Type} {r : R}
def tyL : List (Option Ty) -> Option Ty
 | [] => some .unit
 | [t] => t.map fun t => .pair t .unit
 | [a, b] => match a, b with
   | some a, some b => some (.pair a b)
   | _, _ => none
 | a :: l => match a, tyL l with
   | some a, some b => some (.pair a b)
   | _, _ => none
def qLJ (P : Program) : Nat -> TypeId -> Option Ty
 | 0, _ => none
 | n + 1, t => match P.underlying t with
   | some (.int k) => some (.int k)
   | some .bool => some .bool
   | some .string => some .str
   | some (.slice el) => (match qLJ P n el with
     | some u => some (.list el u)
     | none => none)
   | some (.struct fields) => tyL (fields.toList.map fun f => qLJ P n f.type)
   | some (.array k el) => tyL (List.replicate k (qLJ P n el))
   | _ => none
def zcS (P : Program) (t : TypeId) : Option (List SV) := match qBI P t with
 | some z => cond (kS okC z.cells.toList) (some (xM .c z.cells.toList)) none
 | none => none
theorem qFH {t : TypeId} {l : List SV} (e : zcS P t = some l) : zc P t = some (qA l) ∧ okL h l := by
 unfold zcS at e;unfold zc;split at e
 ·rename_i z hz
  cases hc : kS okC z.cells.toList with
  | false => rw [hc] at e; cases e
  | true =>
    rw [hc] at e;cases e;rw [hz];simp only [hc, cond_true];exact ⟨by rw [q56], q6E _⟩
 ·cases e
def qUJ (P : Program) (el : TypeId) (k : Nat) (h : SH) (K : SV -> SH -> Tree R) : Tree R := match zcS P el with
 | some l => cond (spec P el) .fail (K (.ref k 0 l.length) (h.new k fun v => .cells el v l))
 | none => .fail
theorem qRT {el : TypeId} {k : Nat} {K : SV -> SH -> Tree R} (ho : OkH P h) (e : (qUJ P el k h K).run = some r) : ∃ v h', qDW P el k (qD h.l) = some (v.enc, qD h'.l) ∧ Post P h h' v ∧ (K v h').run = some r := by
 unfold qUJ at e;split at e
 ·rename_i l hl;obtain ⟨h1, h2⟩ := qFH (h := h) hl;have hp := kT (k := k) (f := fun v => .cells el v l) ho ⟨rfl, h2⟩
  cases hsp : spec P el with
  | true => rw [hsp] at e; cases e
  | false =>
  rw [hsp] at e;refine ⟨_, _, ?_, ⟨hp.1, hp.2, by simp [SV.ok]⟩, e⟩;simp only [qDW, h1, qH3, SV.enc, zD, hsp, cond_false];rfl
 ·cases e
def q8E (P : Program) (el : TypeId) (v : SV) (k : Nat) (h : SH) (K : SV -> SH -> Tree R) : Tree R :=
 cond (!(spec P el) && (pnt v.enc && (qA (yI v)).all mZ)) (K (.ref k 0 (yI v).length) (h.new k fun n => .cells el n (yI v))) .fail
theorem q0V {el : TypeId} {v : SV} {k : Nat} {K : SV -> SH -> Tree R} (ho : OkH P h) (hv : v.ok h) (e : (q8E P el v k h K).run = some r) : ∃ x h', q30 P el v.enc k (qD h.l) = some (x.enc, qD h'.l) ∧ Post P h h' x ∧ (K x h').run = some r := by
 obtain ⟨h1, h2⟩ := qF e;have hp := kT (k := k) (f := fun n => .cells el n (yI v)) ho ⟨rfl, qA9 hv⟩;refine ⟨_, _, ?_, ⟨hp.1, hp.2, by simp [SV.ok]⟩, h2⟩;unfold q30;rw [cK, h1];simp only [cond_true, qH3, SV.enc, zD];rfl
def qTW (place : Nat -> Option (Nat × Nat)) : List SV -> List (Nat × SV) -> Option (List SV)
 | cells, [] => some cells
 | cells, (i, v) :: rest => match place i with
   | some (off, size) => cond (Nat.beq (yI v).length size && (Nat.ble (off + size) cells.length && (pnt v.enc && (qA (yI v)).all mZ))) (qTW place (qAT cells off (yI v)) rest) none
   | none => none
def q3T (l : List (Nat × SV)) : List (Nat × PV) := l.map fun p => (p.1, p.2.enc)
theorem qG5 {place : Nat -> Option (Nat × Nat)} : ∀ {l cs : List SV} {parts : List (Nat × SV)}, qTW place l parts = some cs -> qHH place (qA l) (q3T parts) = some (qA cs) ∧ (okL h l -> (∀ p ∈ parts, p.2.ok h) -> okL h cs)
 | l, cs, [], e => by cases e; exact ⟨rfl, fun a _ => a⟩
 | l, cs, (i, v) :: rest, e => by
   unfold qTW at e;split at e
   ·rename_i off size hpl
    cases hc : (Nat.beq (yI v).length size && (Nat.ble (off + size) l.length && (pnt v.enc && (qA (yI v)).all mZ))) with
    | false => rw [hc] at e; cases e
    | true =>
      rw [hc] at e;obtain ⟨h1, h2⟩ := qG5 (l := qAT l off (yI v)) e;refine ⟨?_, fun a b => h2 (qOE a (qA9 (b _ List.mem_cons_self))) fun p hp => b p (List.mem_cons_of_mem _ hp)⟩
      show (match place i with
       | some (off, size) => cond (Nat.beq (zL v.enc).length size && (Nat.ble (off + size) (qA l).length && (pnt v.enc && (zL v.enc).all mZ))) (qHH place (xV (qA l) off (zL v.enc)) (q3T rest)) none
       | none => none) = some (qA cs)
      rw [hpl];simp only;rw [cK, zD, zD, hc, <- qCU];exact h1
   ·cases e
def qSJ (P : Program) (t : TypeId) (parts : List (Nat × SV)) : Option SV := match zcS P t with
 | some z => cond (qA7 P t) (match qTW (qTH P t) z parts with
   | some cs => some (.agg cs)
   | none => none) none
 | none => none
theorem qVA {t : TypeId} {parts : List (Nat × SV)} {v : SV} (hp : ∀ p ∈ parts, p.2.ok h) (e : qSJ P t parts = some v) : qIR P t (q3T parts) = some v.enc ∧ v.ok h := by
 unfold qSJ at e;split at e
 ·rename_i z hz;obtain ⟨h1, h2⟩ := qFH (h := h) hz
  cases hb : qA7 P t with
  | false => rw [hb] at e; cases e
  | true =>
    rw [hb] at e;simp only [cond_true] at e;split at e
    ·rename_i cs hcs;cases e;obtain ⟨h3, h4⟩ := qG5 (h := h) hcs;simp only [qIR, h1, hb, cond_true, h3, SV.enc, SV.ok, true_and];exact h4 h2 hp
    ·cases e
 ·cases e
def Ty.decs (t : Ty) : Nat -> List SV -> Option (List t.sem)
 | 0, [] => some []
 | 0, _ :: _ => none
 | n + 1, l => match t.decL l with
   | some (x, l') => (match t.decs n l' with
     | some xs => some (x :: xs)
     | none => none)
   | none => none
theorem qOQ {t : Ty} : ∀ {n : Nat} {l : List SV} {xs : List t.sem}, t.decs n l = some xs -> qA l = (xs.flatMap t.cells).map .f ∧ xs.length = n
 | 0, [], xs, e => by cases e; simp [qA]
 | 0, _ :: _, xs, e => by cases e
 | n + 1, l, xs, e => by
   unfold Ty.decs at e;split at e
   ·rename_i x l' hx;split at e
    ·rename_i ys hy;cases e;obtain ⟨h1, h2⟩ := qOQ hy;rw [tN hx, h1, List.flatMap_cons, List.map_append];exact ⟨rfl, by rw [List.length_cons, h2]⟩
    ·cases e
   ·cases e
def q7R (n : Nat) (z : List SV) : List SV := (List.replicate n z).flatten
theorem qXV (n : Nat) (z : List SV) : qA (q7R n z) = qHM n (qA z) := by simp [q7R, qHM, qZ, List.map_flatten]
def mU (P : Program) (t : TypeId) (len : Nat) (parts : List (Nat × SV)) (k : Nat) (h : SH) (K : SV -> SH -> Tree R) : Tree R := match yS P t with
 | some el => (match szT P el, zcS P el, qLJ P 8 el with
   | some (s + 1), some z, some ty => cond (Nat.beq ty.w (s + 1)) (cond (Nat.beq z.length (s + 1) && Nat.ble (len * (s + 1)) 65536) (match qTW (fun i => some (i * (s + 1), s + 1)) (q7R len z) parts with
     | some cs => (match ty.decs len cs with
       | some xs => K (.own k h.next len) (h.new k fun v => .list el false v v ty xs)
       | none => .fail)
     | none => .fail) .fail) .fail
   | _, _, _ => .fail)
 | none => .fail
omit [Yl] in
theorem wV {el : TypeId} {gr : Bool} {k n : Nat} {ty : Ty} {xs : List ty.sem} (hn : n = xs.length) : (SV.own k h.next n).ok (h.new k fun v => .list el gr v v ty xs) := by
 simp only [SV.ok];refine ⟨Nat.lt_succ_self _, fun el' gr' w' t' xs' hk => ?_⟩;rw [show slk k (h.new k fun v => .list el gr v v ty xs).l = some (.list el gr h.next h.next ty xs) from uX] at hk;cases hk;exact hn
theorem qC0 {t : TypeId} {len k : Nat} {parts : List (Nat × SV)} {K : SV -> SH -> Tree R} (ho : OkH P h) (hp : ∀ p ∈ parts, p.2.ok h) (e : (mU P t len parts k h K).run = some r) :
 ∃ v h', jJ P t len (q3T parts) k (qD h.l) = some (v.enc, qD h'.l) ∧ Post P h h' v ∧ (K v h').run = some r := by
 unfold mU at e;split at e
 ·rename_i el hel;split at e
  ·rename_i s z ty hs hz hty;obtain ⟨e1, e⟩ := qF e;obtain ⟨e2, e⟩ := qF e;split at e
   ·rename_i cs hcs;split at e
    ·rename_i xs hxs;obtain ⟨z1, z2⟩ := qFH (h := h) hz;obtain ⟨f1, f2⟩ := qG5 (h := h) hcs;obtain ⟨d1, d2⟩ := qOQ hxs;have hw : ty.w = s + 1 := Nat.eq_of_beq_eq_true e1;have hn := kT (k := k) (f := fun v => .list el false v v ty xs) ho ⟨rfl, rfl, by rw [hs, hw], by omega⟩;refine ⟨_, _, ?_, ⟨hn.1, hn.2, wV d2.symm⟩, e⟩;rw [qXV] at f1;simp only [jJ, hel, hs, z1, zD, e2, cond_true, f1, qH3, SV.enc, d1];rfl
    ·cases e
   ·cases e
  ·cases e
 ·cases e
def q0W (P : Program) (t : TypeId) (l : SV) (k : Nat) (h : SH) (K : SV -> SH -> Tree R) : Tree R := match yS P t, asI l with
 | some el, some (_, n) => (match szT P el, zcS P el, qLJ P 8 el with
   | some (s + 1), some z, some ty => cond (uF P el && (Nat.beq z.length (s + 1) && Nat.beq ty.w (s + 1))) (match ty.decA z with
     | some z0 => .bind (mkN n) fun N => K (.own k h.next N) (h.new k fun v => .list el false v v ty (List.replicate N z0))
     | none => .fail) .fail
   | _, _, _ => .fail)
 | _, _ => .fail
omit [Yl] in
theorem qN1 {t : Ty} {z : t.sem} : ∀ (n : Nat), ((List.replicate n z).flatMap t.cells).map PV.f = qHM n ((t.cells z).map .f)
 | 0 => rfl
 | n + 1 => by
   rw [List.replicate_succ, List.flatMap_cons, List.map_append, qN1 n];simp [qHM, List.replicate_succ]
theorem qYQ {t : TypeId} {l : SV} {k : Nat} {K : SV -> SH -> Tree R} (ho : OkH P h) (e : (q0W P t l k h K).run = some r) :
 ∃ v h', wB P t l.enc l.enc k (qD h.l) = some (v.enc, qD h'.l) ∧ Post P h h' v ∧ (K v h').run = some r := by
 unfold q0W at e;split at e
 ·rename_i el ki n hel hl;split at e
  ·rename_i s z ty hs hz hty;obtain ⟨e1, e⟩ := qF e;simp only [Bool.and_eq_true] at e1;obtain ⟨q1, q2, q3⟩ := e1;split at e
   ·rename_i z0 hz0;obtain ⟨N, hN, e⟩ := run_bind e;obtain ⟨z1, z2⟩ := qFH (h := h) hz;have hw : ty.w = s + 1 := Nat.eq_of_beq_eq_true q3;have hn := kT (k := k) (f := fun v => .list el false v v ty (List.replicate N z0)) ho ⟨rfl, rfl, by rw [hs, hw], by omega⟩;refine ⟨_, _, ?_, ⟨hn.1, hn.2, wV (xs := List.replicate N z0) (by simp)⟩, e⟩;rw [xK hl];simp only [wB, fvv, hel, decide_true, cond_true, hN, hs, z1, zD, q1, q2, Bool.and_self, qH3, SV.enc];show some (PV.own k N 0 N, (k, (⟨el, false, qHM N (qA z)⟩ : PO)) :: qD h.l) = some (PV.own k N 0 N, (k, ⟨el, false, ((List.replicate N z0).flatMap ty.cells).map PV.f⟩) :: qD h.l);rw [qN1, qFU hz0]
   ·cases e
  ·cases e
 ·cases e
def qXW (h : SH) : SV -> Bool
 | .ref k _ w => match slk k h.l with
   | some (.cells _ _ l) => Nat.beq w l.length
   | _ => false
 | .elt k g _ w _ _ => match slk k h.l with
   | some (.list _ _ g' _ t _) => Nat.beq g g' && Nat.beq w t.w
   | _ => false
 | .lp _ _ _ _ => true
 | _ => false
theorem qEW {k off w : Nat} (e : qXW h (.ref k off w) = true) : live? k w (qD h.l) = true := by
 simp only [qXW] at e;split at e
 ·rename_i el w' l hk;unfold live?;rw [xZ hk];show Nat.beq w (qA l).length = true;rw [zD]; exact e
 ·cases e
theorem qFT {k g n w j off : Nat} (ho : (SV.elt k g n w j off).ok h) (e : qXW h (.elt k g n w j off) = true) : live? k (n * w) (qD h.l) = true := by
 simp only [qXW] at e;split at e
 ·rename_i el gr g' w' t xs hk;rw [Bool.and_eq_true] at e;have hg : g = g' := Nat.eq_of_beq_eq_true e.1;have hw : w = t.w := Nat.eq_of_beq_eq_true e.2;subst hg hw;simp only [SV.ok] at ho;unfold live?;rw [xZ hk];show Nat.beq (n * t.w) (SO.list el gr g w' t xs).enc.cs.length = true;rw [qV, ho.2 _ _ _ _ _ hk]; exact qBD _
 ·cases e
def qWT (n : Nat) : SV -> SV
 | .ref k off w => .ref k (off + n) w
 | .elt k g m w j off => .elt k g m w j (off + n)
 | .lp t xs j off => .lp t xs j (off + n)
 | v => v
def q92 : SV -> Bool
 | .ref _ _ _ => true
 | .elt _ _ _ _ _ _ => true
 | .lp _ _ _ _ => true
 | _ => false
omit [Yl] in
theorem qWF {n : Nat} {v : SV} (hv : v.ok h) : (qWT n v).ok h := by
 cases v <;> simp only [qWT, SV.ok] at hv ⊢ <;> exact hv
def rO (P : Program) (t : TypeId) (x : SV) (i : Nat) (h : SH) : Option SV := match q3U P t i with
 | some (off, ft) => (match szT P ft with
   | some (_ + 1) => cond (qXW h x) (some (qWT off x)) none
   | _ => none)
 | none => none
theorem qFD {t : TypeId} {x v : SV} {i : Nat} (hx : x.ok h) (e : rO P t x i h = some v) : zV P t x.enc i (qD h.l) = some v.enc ∧ v.ok h := by
 unfold rO at e;unfold zV;split at e
 ·rename_i off ft hf;split at e
  ·rename_i s hs
   cases hl : qXW h x with
   | false => rw [hl] at e; cases e
   | true =>
     rw [hl] at e;cases e;refine ⟨?_, qWF hx⟩;simp only [hf, hs]
     cases x with
     | ref k o w => simp only [SV.enc, qWT, qEW hl, cond_true]
     | elt k g n w j o => simp only [SV.enc, qWT, qFT hx hl, cond_true, Nat.add_assoc]
     | lp t xs j o => simp only [SV.enc, qWT, Nat.add_assoc]
     | _ => cases hl
  ·cases e
 ·cases e
def qUR (P : Program) (t : TypeId) (x : SV) (i : Nat) : Option SV := match q3U P t i, x with
 | some (off, ft), .agg l => qIM P ft l off
 | _, _ => none
theorem qWD {t : TypeId} {x v : SV} {i : Nat} (hx : x.ok h) (e : qUR P t x i = some v) : qD5 P t x.enc i = some v.enc ∧ v.ok h := by
 unfold qUR at e;split at e
 ·rename_i off ft l hf;obtain ⟨h1, h2⟩ := tX (h := h) e;simp only [SV.ok] at hx;refine ⟨?_, h2 hx⟩;simp only [qD5, hf, SV.enc];exact h1
 ·cases e
def q6A (n : Nat) (ix : SV) (K : Nat -> Tree R) : Tree R := match ix with
 | .c (.int _ i) => (match idx n i with
   | some j => K j
   | none => .fail)
 | v => (match asI v with
   | some (_, i) => .bind (idx n i) K
   | none => .fail)
theorem qSP {n : Nat} {ix : SV} {K : Nat -> Tree R} (e : (q6A n ix K).run = some r) : ∃ k i j, ix.enc = fvv (.int k i) ∧ idx n i = some j ∧ (K j).run = some r := by
 unfold q6A at e;split at e
 ·rename_i k i;split at e
  ·rename_i j hj;exact ⟨k, i, j, by simp [SV.enc], hj, e⟩
  ·cases e
 ·split at e
  ·rename_i k i hi;obtain ⟨j, hj, e⟩ := run_bind e;exact ⟨k, i, j, xK hi, hj, e⟩
  ·cases e
def o9 (P : Program) (t : TypeId) (x ix : SV) (h : SH) (K : SV -> Tree R) : Tree R := match x with
 | .d (.list el u) xs => (match asI ix, yS P t with
   | some (_, i), some el' => (match szT P el' with
     | some s => cond (Nat.beq s u.w) (.bind (idx (List.length xs) i) fun j => K (.lp u xs j 0)) .fail
     | none => .fail)
   | _, _ => .fail)
 | .own k g n => (match asI ix, yS P t, slk k h.l with
   | some (_, i), some el', some (.list el _ g' _ u _) => cond (Nat.beq el' el && Nat.beq g g') (.bind (idx n i) fun j => K (.elt k g n u.w j 0)) .fail
   | _, _, _ => .fail)
 | .sl k g n o m => (match asI ix, yS P t, slk k h.l with
   | some (_, i), some el', some (.list el _ g' _ u _) => cond (Nat.beq el' el && Nat.beq g g') (.bind (idx m i) fun j => K (.elt k g n u.w (o + j) 0)) .fail
   | _, _, _ => .fail)
 | x => (match qSR P t with
   | some (n, el) => (match szT P el with
     | some s => cond (q92 x && qXW h x) (q6A n ix fun j => K (qWT (j * s) x)) .fail
     | none => .fail)
   | none => .fail)
theorem qF6 {t : TypeId} {x ix : SV} {K : SV -> Tree R} (ho : OkH P h) (hx : x.ok h) (e : (o9 P t x ix h K).run = some r) : ∃ v, qW P t x.enc ix.enc (qD h.l) = some v.enc ∧ v.ok h ∧ (K v).run = some r := by
 unfold o9 at e;split at e
 ·rename_i el u xs;split at e
  ·rename_i k i el' hi hel;split at e
   ·rename_i s hs;obtain ⟨h1, e1⟩ := qF e;obtain ⟨j, hj, e2⟩ := run_bind e1;have hw : s = u.w := Nat.eq_of_beq_eq_true h1;subst hw;refine ⟨_, ?_, by simp [SV.ok], e2⟩;rw [xK hi];simp only [SV.enc, Ty.fv, fvv, qW, hel, hs, hj, Nat.add_zero]
   ·cases e
  ·cases e
 ·rename_i k g n;split at e
  ·rename_i ki i el' el gr g' w u xs hi hel hk;obtain ⟨h1, e1⟩ := qF e;obtain ⟨j, hj, e2⟩ := run_bind e1;rw [Bool.and_eq_true] at h1;have hg : g = g' := Nat.eq_of_beq_eq_true h1.2;subst hg;simp only [SV.ok] at hx;have hn := hx.2 _ _ _ _ _ hk;have hl := ho.list _ _ _ _ _ _ _ hk;refine ⟨_, ?_, by simp only [SV.ok]; exact hx, e2⟩;rw [xK hi];simp only [SV.enc, fvv, qW, hel, xZ hk]
   show (match szT P el with
    | some s => (match idx n i with
      | some j => cond (Nat.beq el' el && Nat.beq (n * s) (SO.list el gr g w u xs).enc.cs.length) (some (PV.ref k (SO.list el gr g w u xs).enc.cs.length ((0 + j) * s))) none
      | none => none)
    | none => none) = _
   rw [hl.2.1, hj];simp only [qV, hn, qBD, h1.1, Bool.and_self, cond_true, Nat.zero_add, Nat.add_zero]
  ·cases e
 ·rename_i k g n o m;split at e
  ·rename_i ki i el' el gr g' w u xs hi hel hk;obtain ⟨h1, e1⟩ := qF e;obtain ⟨j, hj, e2⟩ := run_bind e1;rw [Bool.and_eq_true] at h1;have hg : g = g' := Nat.eq_of_beq_eq_true h1.2;subst hg;simp only [SV.ok] at hx;have hn := hx.1.2 _ _ _ _ _ hk;have hl := ho.list _ _ _ _ _ _ _ hk;refine ⟨_, ?_, by simp only [SV.ok]; exact hx.1, e2⟩;rw [xK hi];simp only [SV.enc, fvv, qW, hel, xZ hk]
   show (match szT P el with
    | some s => (match idx m i with
      | some j => cond (Nat.beq el' el && Nat.beq (n * s) (SO.list el gr g w u xs).enc.cs.length) (some (PV.ref k (SO.list el gr g w u xs).enc.cs.length ((o + j) * s))) none
      | none => none)
    | none => none) = _
   rw [hl.2.1];simp only [hj, qV, hn, qBD, h1.1, Bool.and_self, cond_true, Nat.add_zero]
  ·cases e
 ·split at e
  ·rename_i n el ha;split at e
   ·rename_i s hs;obtain ⟨h1, e⟩ := qF e;rw [Bool.and_eq_true] at h1;obtain ⟨ki, i, j, hi, hj, e⟩ := qSP e;refine ⟨_, ?_, qWF hx, e⟩;rw [hi]
    cases x with
    | ref k o w => simp only [SV.enc, qWT, fvv, qW, ha, hs, hj, qEW h1.2, cond_true]
    | elt k g n w j o => simp only [SV.enc, qWT, fvv, qW, ha, hs, hj, qFT hx h1.2, cond_true, Nat.add_assoc]
    | lp t xs j o => simp only [SV.enc, qWT, fvv, qW, ha, hs, hj, Nat.add_assoc]
    | _ => cases h1.1
   ·cases e
  ·cases e
def qSB (P : Program) (t : TypeId) (x ix : SV) (K : SV -> Tree R) : Tree R := match qSR P t, x with
 | some (n, el), .agg l => (match szT P el with
   | some s => q6A n ix fun j => match qIM P el l (j * s) with
     | some v => K v
     | none => .fail
   | none => .fail)
 | _, _ => .fail
theorem qR7 {t : TypeId} {x ix : SV} {K : SV -> Tree R} (hx : x.ok h) (e : (qSB P t x ix K).run = some r) : ∃ v, qD6 P t x.enc ix.enc = some v.enc ∧ v.ok h ∧ (K v).run = some r ∧ ∃ l, x = .agg l := by
 unfold qSB at e;split at e
 ·rename_i n el l ha;split at e
  ·rename_i s hs;obtain ⟨ki, i, j, hi, hj, e⟩ := qSP e;split at e
   ·rename_i v hv;obtain ⟨h1, h2⟩ := tX (h := h) hv;simp only [SV.ok] at hx;refine ⟨v, ?_, h2 hx, e, l, rfl⟩;rw [hi];simp only [qD6, ha, SV.enc, fvv, hs, hj];exact h1
   ·cases e
  ·cases e
 ·cases e
def qF5 (v : SV) (i : Nat) : Option SV := match v with
 | .tup l => (match zN l i with
   | some x => cond (pnt x.enc) (some x) none
   | none => none)
 | _ => none
theorem qLZ {x v : SV} {i : Nat} (hx : x.ok h) (e : qF5 x i = some v) : dA x.enc i = some v.enc ∧ v.ok h := by
 unfold qF5 at e;split at e
 ·rename_i l;split at e
  ·rename_i y hy
   cases hp : pnt y.enc with
   | false => rw [hp] at e; cases e
   | true =>
     rw [hp] at e;cases e;simp only [SV.ok] at hx;refine ⟨?_, qAO hx hy⟩;simp only [dA, SV.enc, xL, hy, Option.map_some, hp, cond_true]
  ·cases e
 ·cases e
def qA4 (fn : Fn) (first cap : List SV) : Option SV := match fn with
 | .func g => some (match first, cap with
   | [], [] => .c (.func (.func g) #[] #[])
   | _, _ => .fn g first cap)
 | _ => none
theorem qH6 {fn : Fn} {first cap : List SV} {v : SV} (h1 : okL h first) (h2 : okL h cap) (e : qA4 fn first cap = some v) : jW fn (qA first) (qA cap) = some v.enc ∧ v.ok h := by
 unfold qA4 at e;split at e
 ·rename_i g;cases e
  cases first with
  | nil => cases cap with
    | nil => exact ⟨by simp [jW, qA, SV.enc], by simp [SV.ok]⟩
    | cons x l => exact ⟨by simp [jW, qA, SV.enc], by simp only [SV.ok]; exact ⟨h1, h2⟩⟩
  | cons y l => exact ⟨by simp [jW, qA, SV.enc], by simp only [SV.ok]; exact ⟨h1, h2⟩⟩
 ·cases e
def qCS (v : SV) (h : SH) : Option SV := match v with
 | .fn _ _ _ => some v
 | .c (.func (.func _) _ _) => some v
 | v => cond (qXW h v) (some v) none
theorem qHZ {x v : SV} (hx : x.ok h) (e : qCS x h = some v) : yL x.enc (qD h.l) = some v.enc ∧ v.ok h := by
 unfold qCS at e;split at e
 ·cases e; exact ⟨by simp [yL, SV.enc], hx⟩
 ·cases e; exact ⟨by simp [yL, SV.enc, fvv], hx⟩
 ·cases hl : qXW h x with
  | false => rw [hl] at e; cases e
  | true =>
    rw [hl] at e;cases e;refine ⟨?_, hx⟩
    cases x with
    | ref k o w => simp only [SV.enc, yL, qEW hl, cond_true]
    | elt k g n w j o => simp only [SV.enc, yL, qFT hx hl, cond_true]
    | lp t xs j o => simp only [SV.enc, yL]
    | _ => cases hl
end
end Go.Sv
namespace Go.Sv
open Go.Idl
noncomputable section
variable [Gc]
variable [Yl]
variable {P : Program} {h : SH} {R : Type} {r : R}
def q7P (P : Program) (ts : Array TypeId) (x : SV) (h : SH) : Option SV := match ts[0]? with
 | some t => (match yS P t with
   | some _ => (match x with
     | .d (.list _ _) xs => some (.d (.int .i64) ((List.length xs : Nat) : Int))
     | .c (.slice _ n _) => some (.c (.int .i64 (n : Int)))
     | .own k g n => (match slk k h.l with
       | some (.list _ _ g' _ _ _) => cond (Nat.beq g g') (some (.d (.int .i64) (n : Int))) none
       | _ => none)
     | .sl k g _ _ m => (match slk k h.l with
       | some (.list _ _ g' _ _ _) => cond (Nat.beq g g') (some (.d (.int .i64) (m : Int))) none
       | _ => none)
     | _ => none)
   | none => (match qSR P t with
     | some (n, _) => some (.c (.int .i64 (n : Int)))
     | none => none))
 | none => none
theorem q2T {ts : Array TypeId} {x v : SV} (ho : OkH P h) (hx : x.ok h) (e : q7P P ts x h = some v) : qX1 P ts x.enc (qD h.l) = some v.enc ∧ v.ok h := by
 unfold q7P at e;unfold qX1;split at e
 ·rename_i t ht;split at e
  ·rename_i el hel;split at e
   ·rename_i el' u xs;cases e;simp [ht, hel, SV.enc, Ty.fv, fvv, SV.ok]
   ·rename_i a n c;cases e;simp [ht, hel, SV.enc, fvv, SV.ok]
   ·rename_i k g n;split at e
    ·rename_i el' gr g' w u xs hk
     obtain ⟨h1, e1⟩ : Nat.beq g g' = true ∧ some (SV.d (.int .i64) (n : Int)) = some v := by
      cases hb : Nat.beq g g' with
      | false => rw [hb] at e; cases e
      | true => rw [hb] at e; exact ⟨rfl, e⟩
     cases e1;have hg : g = g' := Nat.eq_of_beq_eq_true h1;subst hg;simp only [SV.ok] at hx;have hn := hx.2 _ _ _ _ _ hk;have hl := ho.list _ _ _ _ _ _ _ hk;refine ⟨?_, by simp [SV.ok]⟩;simp only [ht, hel, SV.enc, xZ hk]
     show (match szT P el' with
      | some s => cond (Nat.beq (n * s) (SO.list el' gr g w u xs).enc.cs.length) (some (fvv (.int .i64 (n : Int)))) none
      | none => none) = _
     rw [hl.2.1];simp only [qV, hn, qBD, cond_true, Ty.fv, fvv]
    ·cases e
   ·rename_i k g n o m;split at e
    ·rename_i el' gr g' w u xs hk
     obtain ⟨h1, e1⟩ : Nat.beq g g' = true ∧ some (SV.d (.int .i64) (m : Int)) = some v := by
      cases hb : Nat.beq g g' with
      | false => rw [hb] at e; cases e
      | true => rw [hb] at e; exact ⟨rfl, e⟩
     cases e1;have hg : g = g' := Nat.eq_of_beq_eq_true h1;subst hg;simp only [SV.ok] at hx;have hn := hx.1.2 _ _ _ _ _ hk;have hl := ho.list _ _ _ _ _ _ _ hk;refine ⟨?_, by simp [SV.ok]⟩;simp only [ht, hel, SV.enc, xZ hk]
     show (match szT P el' with
      | some s => cond (Nat.beq (n * s) (SO.list el' gr g w u xs).enc.cs.length) (some (fvv (.int .i64 (m : Int)))) none
      | none => none) = _
     rw [hl.2.1];simp only [qV, hn, qBD, cond_true, Ty.fv, fvv]
    ·cases e
   ·cases e
  ·rename_i hel;split at e
   ·rename_i n el ha;cases e;simp [ht, hel, ha, SV.enc, SV.ok]
   ·cases e
 ·cases e
def qGL (u t : Ty) (xs : List u.sem) : Option (List t.sem) := if e : u = t then some (e ▸ xs) else none
omit [Yl] in
theorem fU {u t : Ty} {xs : List u.sem} {ys : List t.sem} (e : qGL u t xs = some ys) : (⟨u, xs⟩ : (t : Ty) × List t.sem) = ⟨t, ys⟩ := by
 unfold qGL at e;split at e
 ·rename_i h;subst h;cases e;rfl
 ·cases e
def qZI (t : Ty) (x : SV) (h : SH) : Option (List t.sem) := match x with
 | .d (.list _ u) xs => qGL u t xs
 | .c (.slice none 0 _) => some []
 | .own k g _ => (match slk k h.l with
   | some (.list _ _ g' _ u xs) => cond (Nat.beq g g') (qGL u t xs) none
   | _ => none)
 | .sl k g _ o m => (match slk k h.l with
   | some (.list _ _ g' _ u xs) => cond (Nat.beq g g') (match qGL u t xs with
     | some xs => some ((xs.drop o).take m)
     | none => none) none
   | _ => none)
 | _ => none
theorem qNG {t : Ty} {x : SV} {ys : List t.sem} (ho : OkH P h) (hx : x.ok h) (e : qZI t x h = some ys) : qGD P t.w x.enc (qD h.l) = some (ys.length, (ys.flatMap t.cells).map .f) := by
 unfold qZI at e;unfold qGD;split at e
 ·rename_i el u xs;cases fU e;simp only [SV.enc, Ty.fv, xD, qBD, cond_true]
 ·cases e;simp [SV.enc, fvv]
 ·rename_i k g n;split at e
  ·rename_i el gr g' w u xs hk
   cases hb : Nat.beq g g' with
   | false => rw [hb] at e; cases e
   | true =>
     rw [hb] at e;have hg : g = g' := Nat.eq_of_beq_eq_true hb;subst hg;cases fU e;simp only [SV.ok] at hx;have hn := hx.2 _ _ _ _ _ hk;have hl := ho.list _ _ _ _ _ _ _ hk;simp only [SV.enc, xZ hk]
     show (match szT P el with
      | some s' => cond (Nat.beq (n * s') (SO.list el gr g w t ys).enc.cs.length && Nat.beq t.w s') (some (n, (((ys.flatMap t.cells).map PV.f).drop (0 * t.w)).take (n * t.w))) none
      | none => none) = _
     rw [hl.2.1];simp only [qV, hn, qBD, Bool.and_self, cond_true, Nat.zero_mul, List.drop_zero];rw [List.take_of_length_le (by rw [List.length_map, xD]; exact Nat.le_refl _)]
  ·cases e
 ·rename_i k g n o m;split at e
  ·rename_i el gr g' w u xs hk
   cases hb : Nat.beq g g' with
   | false => rw [hb] at e; cases e
   | true =>
     rw [hb] at e;have hg : g = g' := Nat.eq_of_beq_eq_true hb;subst hg;simp only [cond_true] at e;split at e
     case h_2 => cases e
     rename_i xs2 hxs2;cases e;cases fU hxs2;simp only [SV.ok] at hx;have hn := hx.1.2 _ _ _ _ _ hk;have hl := ho.list _ _ _ _ _ _ _ hk;simp only [SV.enc, xZ hk]
     show (match szT P el with
      | some s' => cond (Nat.beq (n * s') (SO.list el gr g w t xs2).enc.cs.length && Nat.beq t.w s') (some (m, (((xs2.flatMap t.cells).map PV.f).drop (o * t.w)).take (m * t.w))) none
      | none => none) = _
     rw [hl.2.1];simp only [qV, hn, qBD, Bool.and_self, cond_true];rw [<- List.map_drop, <- List.map_take, gV, gX]
     congr 1
     have := hx.2;rw [List.length_take, List.length_drop, Nat.min_eq_left (by omega)]
  ·cases e
 ·cases e
omit [Yl] in
theorem qIT {t : Ty} (ys : List t.sem) : ((ys.flatMap t.cells).map PV.f).all mZ = true := by
 rw [List.all_eq_true];intro x hx;obtain ⟨y, _, rfl⟩ := List.mem_map.1 hx;rfl
omit [Yl] in
theorem qGI {h0 : SH} {el : TypeId} {gr : Bool} {k n m : Nat} {ty : Ty} {xs ys : List ty.sem} (hn : n = xs.length) (hm : m = ys.length) : (SV.own k h0.next (n + m)).ok (h0.new k fun v => .list el gr v v ty (xs ++ ys)) :=
 wV (by rw [List.length_append, hn, hm])
def qK7 (P : Program) (ts : List TypeId) (base x : SV) (k : Nat) (h : SH) (K : SV -> SH -> Tree R) : Tree R := match ts with
 | [st, xt] => (match yS P st, yS P xt with
   | some el, some _ => (match szT P el, qLJ P 8 el with
     | some (s + 1), some t => cond (Nat.beq t.w (s + 1) && uF P el) (match qZI t x h with
       | some ys => (match base with
         | .c (.slice none 0 0) => .ite (Nat.beq ys.length 0) (K base h)
            (.ite (Nat.ble (0 + ys.length) 1048576) (K (.own k h.next (0 + ys.length)) (h.new k fun v => .list el true v v t ([] ++ ys))) .fail)
         | .own j g n => (match slk j h.l with
           | some (.list el' gr g' _ u xs) => cond (Nat.beq el' el && Nat.beq g g') (match qGL u t xs with
             | some xs => .ite (Nat.beq ys.length 0) (K base h)
                (.ite (Nat.ble (n + ys.length) 1048576) (cond gr (K (.own j h.next (n + ys.length)) ((h.del j).new j fun v => .list el true v v t (xs ++ ys))) (K (.own k h.next (n + ys.length)) (h.new k fun v => .list el true v v t (xs ++ ys)))) .fail)
             | none => .fail) .fail
           | _ => .fail)
         | _ => .fail)
       | none => .fail) .fail
     | _, _ => .fail)
   | _, _ => .fail)
 | _ => .fail
omit [Yl] in
theorem qG0 {el : TypeId} {t : Ty} {xs ys : List t.sem} {k : Nat} {ph : PHp} (h1 : Nat.ble (xs.length + ys.length) 1048576 = true) (h2 : uF P el = true) :
 qCD P el t.w ((xs.flatMap t.cells).map .f) xs.length ((ys.flatMap t.cells).map .f) ys.length k ph = some (.own k (xs.length + ys.length) 0 (xs.length + ys.length), (k, ⟨el, true, ((xs ++ ys).flatMap t.cells).map .f⟩) :: ph) := by
 unfold qCD;rw [h1, h2, List.length_map, xD, List.length_map, xD, qIT];simp only [qBD, Bool.and_self, cond_true, qH3];rw [List.flatMap_append, List.map_append]
theorem qQW {ts : List TypeId} {base x : SV} {k : Nat} {K : SV -> SH -> Tree R} (ho : OkH P h) (hb : base.ok h) (hx : x.ok h) (e : (qK7 P ts base x k h K).run = some r) :
 ∃ v h', fT P ts base.enc x.enc k (qD h.l) = some (v.enc, qD h'.l) ∧ Post P h h' v ∧ (K v h').run = some r := by
 unfold qK7 at e;split at e
 ·rename_i st xt;split at e
  ·rename_i el el2 hel hel2;split at e
   ·rename_i s t hs hty;have e_ := qF e;clear e;obtain ⟨c1, e⟩ := e_;rw [Bool.and_eq_true] at c1;have hw : s + 1 = t.w := (Nat.eq_of_beq_eq_true c1.1).symm;split at e
    ·rename_i ys hys;have hnw := qNG ho hx hys;split at e
     ·have e_ := run_ite e;clear e
      rcases e_ with ⟨z, e⟩ | ⟨z, e⟩
      ·refine ⟨_, _, ?_, ⟨.refl _, ho, hb⟩, e⟩;simp only [fT, hel, hel2, hs, SV.enc, fvv];rw [hw, hnw];simp only [z, cond_true]
      ·have e_ := run_ite e;clear e
       rcases e_ with ⟨z2, e⟩ | ⟨z2, e⟩
       ·have hn := kT (k := k) (f := fun v => .list el true v v t ([] ++ ys)) ho ⟨rfl, rfl, by rw [hs]; exact congrArg some hw, by omega⟩;refine ⟨_, _, ?_, ⟨hn.1, hn.2, qGI (xs := []) rfl rfl⟩, e⟩;simp only [fT, hel, hel2, hs, SV.enc, fvv];rw [hw, hnw];simp only [z, cond_false];exact qG0 (xs := []) z2 c1.2
       ·cases e
     ·rename_i j g n;split at e
      ·rename_i el' gr g' w u xs0 hk;have e_ := qF e;clear e;obtain ⟨c2, e⟩ := e_;rw [Bool.and_eq_true] at c2;have he : el' = el := Nat.eq_of_beq_eq_true c2.1;have hg : g = g' := Nat.eq_of_beq_eq_true c2.2;split at e
       ·rename_i xs hxs;have hcast := fU hxs
        have hk2 : slk j h.l = some (.list el gr g w t xs) := by
         rw [hk, he, <- hg];cases hcast;rfl
        have hnl : n = xs.length := by
         simp only [SV.ok] at hb;exact hb.2 _ _ _ _ _ hk2
        have pre : ∀ z : PV × PHp, (cond (Nat.beq ys.length 0) (some (PV.own j n 0 n, qD h.l))
         (cond (Nat.ble (n + ys.length) n) (cond (Nat.beq ((ys.flatMap t.cells).map PV.f).length (ys.length * (s + 1)) && ((ys.flatMap t.cells).map PV.f).all mZ) (some (PV.own j n 0 (n + ys.length), vN j { (SO.list el gr g w t xs).enc with cs := xV (SO.list el gr g w t xs).enc.cs (n * (s + 1)) ((ys.flatMap t.cells).map PV.f) } (qD h.l))) none)
           (cond gr (qCD P el (s + 1) (SO.list el gr g w t xs).enc.cs n ((ys.flatMap t.cells).map PV.f) ys.length j (o7 j (qD h.l))) (qCD P el (s + 1) (SO.list el gr g w t xs).enc.cs n ((ys.flatMap t.cells).map PV.f) ys.length k (qD h.l))))) = some z ->
         fT P [st, xt] (SV.own j g n).enc x.enc k (qD h.l) = some z := fun z hz => by
         simp only [fT, hel, hel2, hs, SV.enc];rw [show qGD P (s + 1) x.enc (qD h.l) = _ from (hw ▸ hnw)];simp only [xZ hk2];rw [show (SO.list el gr g w t xs).enc.el = el from rfl, show Nat.beq (n * (s + 1)) (SO.list el gr g w t xs).enc.cs.length = true by rw [qV, hw, hnl]; exact qBD _];simp only [qBD, Bool.and_self, cond_true];exact hz
        have e_ := run_ite e;clear e
        rcases e_ with ⟨z, e⟩ | ⟨z, e⟩
        ·refine ⟨_, _, pre _ ?_, ⟨.refl _, ho, hb⟩, e⟩;rw [z]; simp [SV.enc]
        ·have e_ := run_ite e;clear e
         rcases e_ with ⟨z2, e⟩ | ⟨z2, e⟩
         ·have hpos : Nat.ble (n + ys.length) n = false := by
           cases hq : Nat.ble (n + ys.length) n with
           | false => rfl
           | true =>
             have h0 := Nat.le_of_ble_eq_true hq;have : ys.length = 0 := by omega
             rw [this] at z;cases z
          cases hgr : gr with
          | true =>
            rw [hgr] at e;have hd := mK (k := j) ho;have hn := kT (h := h.del j) (k := j) (f := fun v => .list el true v v t (xs ++ ys)) hd.2 ⟨rfl, rfl, by rw [hs]; exact congrArg some hw, by omega⟩;refine ⟨_, _, pre _ ?_, ⟨hd.1.trans hn.1, hn.2, qGI (h0 := h.del j) hnl rfl⟩, e⟩;rw [z, hpos, hgr];simp only [cond_true, cond_false];rw [hw, hnl];rw [hnl] at z2;rw [show (SO.list el true g w t xs).enc.cs = (xs.flatMap t.cells).map .f from rfl, qG0 z2 c1.2, <- dG];rfl
          | false =>
            rw [hgr] at e;have hn := kT (h := h) (k := k) (f := fun v => .list el true v v t (xs ++ ys)) ho ⟨rfl, rfl, by rw [hs]; exact congrArg some hw, by omega⟩;refine ⟨_, _, pre _ ?_, ⟨hn.1, hn.2, qGI (h0 := h) hnl rfl⟩, e⟩;rw [z, hpos, hgr];simp only [cond_true, cond_false];rw [hw, hnl];rw [hnl] at z2;rw [show (SO.list el false g w t xs).enc.cs = (xs.flatMap t.cells).map .f from rfl, qG0 z2 c1.2];rfl
         ·cases e
       ·cases e
      ·cases e
     ·cases e
    ·cases e
   ·cases e
  ·cases e
 ·cases e
end
end Go.Sv
namespace Go.Sv
open Go.Idl
noncomputable section
variable [Gc]
variable [Yl]
variable {P : Program} {h : SH} {R : Type} {r : R}
def qVE {α : Type} (xs ys : List α) (o c : Nat) : List α := xs.take o ++ (ys.take c ++ xs.drop (o + c))
omit [Yl] in
theorem qYT {α : Type} {xs ys : List α} {o c : Nat} (h1 : o + c <= xs.length) (h2 : c <= ys.length) : xs.length = (qVE xs ys o c).length := by
 simp [qVE]; omega
omit [Yl] in
theorem qVR {t : Ty} {xs ys : List t.sem} {o c : Nat} (h2 : c <= ys.length) :
 xV ((xs.flatMap t.cells).map PV.f) (o * t.w) (((ys.flatMap t.cells).map PV.f).take (c * t.w)) = ((qVE xs ys o c).flatMap t.cells).map PV.f := by
 have hl : (((ys.flatMap t.cells).map PV.f).take (c * t.w)).length = c * t.w := by
  rw [List.length_take, List.length_map, xD];exact Nat.min_eq_left (Nat.mul_le_mul_right _ h2)
 unfold xV;rw [hl, <- Nat.add_mul, <- List.map_take, <- List.map_take, <- List.map_drop, gX, gX, gV];unfold qVE;simp [List.flatMap_append, List.append_assoc]
def q2Q (P : Program) (ts : List TypeId) (base x : SV) (h : SH) (K : SV -> SH -> Tree R) : Tree R := match ts with
 | [st, xt] => (match yS P st, yS P xt with
   | some el, some _ => (match szT P el, qLJ P 8 el with
     | some (s + 1), some t => cond (Nat.beq t.w (s + 1)) (match qZI t x h with
       | some ys => (match base with
         | .own j g n => (match slk j h.l with
           | some (.list el' gr g' _ u xs) => cond (Nat.beq el' el && Nat.beq g g') (match qGL u t xs with
             | some xs => K (.d (.int .i64) ((Nat.min ys.length n : Nat) : Int)) (h.put j fun v => .list el gr g v t (qVE xs ys 0 (Nat.min ys.length n)))
             | none => .fail) .fail
           | _ => .fail)
         | .sl j g n o m => (match slk j h.l with
           | some (.list el' gr g' _ u xs) => cond (Nat.beq el' el && Nat.beq g g') (match qGL u t xs with
             | some xs => K (.d (.int .i64) ((Nat.min ys.length m : Nat) : Int)) (h.put j fun v => .list el gr g v t (qVE xs ys o (Nat.min ys.length m)))
             | none => .fail) .fail
           | _ => .fail)
         | .d (.list _ _) xs => .ite (Nat.beq (List.length xs) 0) (K (.d (.int .i64) 0) h) .fail
         | .c (.slice none 0 _) => K (.d (.int .i64) 0) h
         | _ => .fail)
       | none => .fail) .fail
     | _, _ => .fail)
   | _, _ => .fail)
 | _ => .fail
theorem qX2 {ts : List TypeId} {base x : SV} {K : SV -> SH -> Tree R} (ho : OkH P h) (hb : base.ok h) (hx : x.ok h) (e : (q2Q P ts base x h K).run = some r) :
 ∃ v h', qGC P ts base.enc x.enc (qD h.l) = some (v.enc, qD h'.l) ∧ Post P h h' v ∧ (K v h').run = some r := by
 unfold q2Q at e;split at e
 ·rename_i st xt;split at e
  ·rename_i el el2 hel hel2;split at e
   ·rename_i s t hs hty;have e_ := qF e;clear e;obtain ⟨c1, e⟩ := e_;have hw : s + 1 = t.w := (Nat.eq_of_beq_eq_true c1).symm;split at e
    ·rename_i ys hys;have hnw : qGD P (s + 1) x.enc (qD h.l) = some (ys.length, (ys.flatMap t.cells).map .f) := hw ▸ qNG ho hx hys;have hlen : ((ys.flatMap t.cells).map PV.f).length = ys.length * (s + 1) := by rw [List.length_map, xD, hw]
     have key : ∀ {j g n o m w : Nat} {gr : Bool} {xs : List t.sem}, slk j h.l = some (.list el gr g w t xs) -> n = xs.length -> o + m <= n ->
      (K (.d (.int .i64) ((Nat.min ys.length m : Nat) : Int)) (h.put j fun v => .list el gr g v t (qVE xs ys o (Nat.min ys.length m)))).run = some r ->
      ∃ v h', qGC P [st, xt] (.own j n o m) x.enc (qD h.l) = some (v.enc, qD h'.l) ∧ Post P h h' v ∧ (K v h').run = some r := by
      intro j g n o m w gr xs hk hn hom e;have hc : Nat.min ys.length m <= ys.length := Nat.min_le_left _ _;have hc2 : Nat.min ys.length m <= m := Nat.min_le_right _ _;have hp := mM (f := fun v => .list el gr g v t (qVE xs ys o (Nat.min ys.length m))) ho hk ⟨_, rfl, qYT (by omega) hc⟩;refine ⟨_, _, ?_, ⟨hp.1, hp.2, by simp [SV.ok]⟩, e⟩;simp only [qGC, hel, hel2, hs, hnw, xZ hk];rw [show (SO.list el gr g w t xs).enc.el = el from rfl, show Nat.beq (n * (s + 1)) (SO.list el gr g w t xs).enc.cs.length = true by rw [qV, hw, hn]; exact qBD _, hlen, qIT];simp only [qBD, Bool.and_self, cond_true];rw [show qD (h.put j fun v => .list el gr g v t (qVE xs ys o (Nat.min ys.length m))).l = vN j (SO.list el gr g h.next t (qVE xs ys o (Nat.min ys.length m))).enc (qD h.l) from uJ j _ _];rw [hw];show some (_, vN j ⟨el, gr, xV ((xs.flatMap t.cells).map PV.f) (o * t.w) _⟩ (qD h.l)) = some (_, vN j ⟨el, gr, ((qVE xs ys o (Nat.min ys.length m)).flatMap t.cells).map PV.f⟩ (qD h.l));rw [qVR hc];simp [SV.enc, Ty.fv, fvv]
     split at e
     ·rename_i j g n;split at e
      ·rename_i el' gr g' w u xs0 hk;have e_ := qF e;clear e;obtain ⟨c2, e⟩ := e_;rw [Bool.and_eq_true] at c2;have he : el' = el := Nat.eq_of_beq_eq_true c2.1;have hg : g = g' := Nat.eq_of_beq_eq_true c2.2;split at e
       ·rename_i xs hxs;have hcast := fU hxs
        have hk2 : slk j h.l = some (.list el gr g w t xs) := by
         rw [hk, he, <- hg];cases hcast;rfl
        simp only [SV.ok] at hb;exact key hk2 (hb.2 _ _ _ _ _ hk2) (by omega) e
       ·cases e
      ·cases e
     ·rename_i j g n o m;split at e
      ·rename_i el' gr g' w u xs0 hk;have e_ := qF e;clear e;obtain ⟨c2, e⟩ := e_;rw [Bool.and_eq_true] at c2;have he : el' = el := Nat.eq_of_beq_eq_true c2.1;have hg : g = g' := Nat.eq_of_beq_eq_true c2.2;split at e
       ·rename_i xs hxs;have hcast := fU hxs
        have hk2 : slk j h.l = some (.list el gr g w t xs) := by
         rw [hk, he, <- hg];cases hcast;rfl
        simp only [SV.ok] at hb;exact key hk2 (hb.1.2 _ _ _ _ _ hk2) hb.2 e
       ·cases e
      ·cases e
     ·rename_i el' u xs
      rcases run_ite e with ⟨z, e⟩ | ⟨z, e⟩
      ·refine ⟨_, _, ?_, ⟨.refl _, ho, by simp [SV.ok]⟩, e⟩;have hz : xs = [] := List.length_eq_zero_iff.1 (Nat.eq_of_beq_eq_true z);subst hz;simp [qGC, hel, hel2, hs, hnw, SV.enc, Ty.fv, fvv]
      ·cases e
     ·refine ⟨_, _, ?_, ⟨.refl _, ho, by simp [SV.ok]⟩, e⟩;simp [qGC, hel, hel2, hs, hnw, SV.enc, Ty.fv, fvv]
     ·cases e
    ·cases e
   ·cases e
  ·cases e
 ·cases e
def qCZ (most : Nat) (i : Int) : Option Nat := if 0 <= i ∧ i <= (most : Int) then some i.toNat else none
def qRA (d most : Nat) (x : Option SV) (K : Nat -> Tree R) : Tree R := match x with
 | none => K d
 | some v => (match asI v with
   | some (_, i) => .bind (qCZ most i) K
   | none => .fail)
theorem gG {d most : Nat} {x : Option SV} {K : Nat -> Tree R} (e : (qRA d most x K).run = some r) : ∃ n, bnd d most (x.map SV.enc) = some n ∧ (n = d ∨ n <= most) ∧ (K n).run = some r := by
 unfold qRA at e;split at e
 ·exact ⟨d, rfl, .inl rfl, e⟩
 ·rename_i v;split at e
  ·rename_i k i hi;have e_ := run_bind e;clear e;obtain ⟨n, hn, e⟩ := e_;refine ⟨n, ?_, .inr ?_, e⟩
   ·simp only [Option.map_some, xK hi, fvv, bnd]; exact hn
   ·unfold qCZ at hn;split at hn
    ·cases hn; omega
    ·cases hn
  ·cases e
def qRX (P : Program) (t : TypeId) (x : SV) (lo hi : Option SV) (h : SH) (K : SV -> Tree R) : Tree R := match x with
 | .d (.list el u) xs => (match yS P t, szT P el with
   | some el', some s => cond (Nat.beq el' el && Nat.beq s u.w) (qRA (List.length xs) (List.length xs) hi fun b => qRA 0 b lo fun a => K (.d (.list el u) ((List.drop a xs).take (b - a)))) .fail
   | _, _ => .fail)
 | .c (.slice none 0 0) => (match yS P t with
   | some el => cond (szT P el).isSome (qRA 0 0 hi fun _ => qRA 0 0 lo fun _ => K x) .fail
   | none => .fail)
 | .own k g n => (match yS P t, slk k h.l with
   | some el', some (.list el _ g' _ u _) => cond (Nat.beq el' el && Nat.beq g g') (qRA n n hi fun b => qRA 0 b lo fun a =>
      .ite (Nat.beq a 0) (K (.sl k g n 0 b)) (.ite (Nat.beq a b) (K (.d (.list el u) [])) (K (.sl k g n a (b - a))))) .fail
   | _, _ => .fail)
 | .sl k g n o m => (match yS P t, slk k h.l with
   | some el', some (.list el _ g' _ u _) => cond (Nat.beq el' el && Nat.beq g g') (qRA m m hi fun b => qRA 0 b lo fun a =>
      .ite (Nat.beq a 0) (K (.sl k g n o b)) (.ite (Nat.beq a b) (K (.d (.list el u) [])) (K (.sl k g n (o + a) (b - a))))) .fail
   | _, _ => .fail)
 | _ => .fail
theorem qUI {t : TypeId} {x : SV} {lo hi : Option SV} {K : SV -> Tree R} (ho : OkH P h) (hx : x.ok h) (e : (qRX P t x lo hi h K).run = some r) :
 ∃ v, uG P t x.enc (lo.map SV.enc) (hi.map SV.enc) (qD h.l) = some v.enc ∧ v.ok h ∧ (K v).run = some r := by
 unfold qRX at e
 have key : ∀ {k g n o m w : Nat} {gr : Bool} {el el' : TypeId} {u : Ty} {xs : List u.sem}, slk k h.l = some (.list el gr g w u xs) -> n = xs.length -> o + m <= n -> g < h.next -> yS P t = some el' -> Nat.beq el' el = true ->
  ∀ a b, bnd m m (hi.map SV.enc) = some b -> b <= m -> bnd 0 b (lo.map SV.enc) = some a -> a <= b ->
  (Tree.ite (Nat.beq a 0) (K (.sl k g n o b)) (.ite (Nat.beq a b) (K (.d (.list el u) [])) (K (.sl k g n (o + a) (b - a))))).run = some r ->
  ∃ v, uG P t (.own k n o m) (lo.map SV.enc) (hi.map SV.enc) (qD h.l) = some v.enc ∧ v.ok h ∧ (K v).run = some r := by
  intro k g n o m w gr el el' u xs hk hn hom hg hel hbe a b hb hbm ha hab e;have hl := ho.list _ _ _ _ _ _ _ hk
  have pre : uG P t (.own k n o m) (lo.map SV.enc) (hi.map SV.enc) (qD h.l) = some (cond (Nat.beq a 0) (.own k n o b) (cond (Nat.beq a b) (.f (.l el 0 [])) (.own k n (o + a) (b - a)))) := by
   simp only [uG, xZ hk, hel];rw [show (SO.list el gr g w u xs).enc.el = el from rfl, hl.2.1, hb];simp only [ha, qV, hn, qBD, hbe, Bool.and_self, cond_true]
  have hsl : qZW h k g n := ⟨hg, fun el2 gr2 w2 t2 xs2 hk2 => by
   rw [hk] at hk2;cases hk2
   exact hn⟩
  rw [pre]
  rcases run_ite e with ⟨z, e⟩ | ⟨z, e⟩
  ·exact ⟨_, by rw [z]; simp [SV.enc], by simp only [SV.ok]; exact ⟨hsl, by omega⟩, e⟩
  ·rcases run_ite e with ⟨z2, e⟩ | ⟨z2, e⟩
   ·exact ⟨_, by rw [z, z2]; simp [SV.enc, Ty.fv], by simp [SV.ok], e⟩
   ·exact ⟨_, by rw [z, z2]; simp [SV.enc], by simp only [SV.ok]; exact ⟨hsl, by omega⟩, e⟩
 split at e
 ·rename_i el u xs;split at e
  ·rename_i el' s hel hs;have e_ := qF e;clear e;obtain ⟨c1, e⟩ := e_;rw [Bool.and_eq_true] at c1;have hw : s = u.w := Nat.eq_of_beq_eq_true c1.2;have he : el' = el := Nat.eq_of_beq_eq_true c1.1;subst hw he;obtain ⟨b, hb, hb2, e1⟩ := gG e;obtain ⟨a, ha, ha2, e2⟩ := gG e1;have hbl : b <= xs.length := by rcases hb2 with q | q <;> omega
   have hab : a <= b := by rcases ha2 with q | q <;> omega
   refine ⟨_, ?_, by simp [SV.ok], e2⟩;simp only [SV.enc, Ty.fv, uG, hel, hs, hb, ha, qBD, xD, Bool.and_self, cond_true];rw [gV, gX]
   cases hq : Nat.beq a b with
   | true =>
     have : a = b := Nat.eq_of_beq_eq_true hq;subst this;simp
   | false =>
     simp only [cond_false, List.length_take, List.length_drop];rw [Nat.min_eq_left (by omega)]
  ·cases e
 ·split at e
  ·rename_i el hel;have e_ := qF e;clear e;obtain ⟨c1, e⟩ := e_;obtain ⟨b, hb, hb2, e1⟩ := gG e;obtain ⟨a, ha, ha2, e2⟩ := gG e1;refine ⟨_, ?_, by simp [SV.ok], e2⟩;have hb' : bnd 0 0 (hi.map SV.enc) = some b := hb;simp only [SV.enc, fvv, uG, hel, hb', ha, c1, cond_true]
  ·cases e
 ·rename_i k g n;split at e
  ·rename_i el' el gr g' w u xs hel hk;have e_ := qF e;clear e;obtain ⟨c1, e⟩ := e_;rw [Bool.and_eq_true] at c1;have hg : g = g' := Nat.eq_of_beq_eq_true c1.2;subst hg;obtain ⟨b, hb, hb2, e1⟩ := gG e;obtain ⟨a, ha, ha2, e2⟩ := gG e1;simp only [SV.ok] at hx;refine key hk (hx.2 _ _ _ _ _ hk) (by omega) hx.1 hel c1.1 a b hb (by rcases hb2 with q | q <;> omega) ha (by rcases ha2 with q | q <;> omega) ?_;rw [Nat.zero_add]; exact e2
  ·cases e
 ·rename_i k g n o m;split at e
  ·rename_i el' el gr g' w u xs hel hk;have e_ := qF e;clear e;obtain ⟨c1, e⟩ := e_;rw [Bool.and_eq_true] at c1;have hg : g = g' := Nat.eq_of_beq_eq_true c1.2;subst hg;obtain ⟨b, hb, hb2, e1⟩ := gG e;obtain ⟨a, ha, ha2, e2⟩ := gG e1;simp only [SV.ok] at hx;exact key hk (hx.1.2 _ _ _ _ _ hk) hx.2 hx.1.1 hel c1.1 a b hb (by rcases hb2 with q | q <;> omega) ha (by rcases ha2 with q | q <;> omega) e2
  ·cases e
 ·cases e
end
end Go.Sv
namespace Go.Sv
open Go.Idl
variable [Gc]
variable {P : Program} {t t2 : TypeId} {a b : ByteArray} {ph : PHp}
theorem cZ {v : Value} (h3 : qIJ v = true) (h4 : ofC v = fvv v) : qSC (qCG H00 v) = some (fvv v) := by
 unfold qCG;rw [h3];show some (ofC v) = _;rw [h4]
theorem qKZ {op : BinOp} {v : Value} (h1 : nilBin P (cop (.binOp op t (.const (.string a)) (.const (.string b)) t2)) op t (.string a) (.string b) [] H00 = xU P (cop (.binOp op t (.const (.string a)) (.const (.string b)) t2)) [] H00)
 (h2 : xJ P (execOp (Env.val []) (cop (.binOp op t (.const (.string a)) (.const (.string b)) t2))) = some (.value v)) (h3 : qIJ v = true) (h4 : ofC v = fvv v) : bH P op t t2 (fvv (.string a)) (fvv (.string b)) ph = some (fvv v) := by
 unfold bH;simp only [fvv, pl, q6D, cond_false];show qSC (nilBin P _ op t (.string a) (.string b) [] H00) = _;rw [h1];unfold xU;have : zS (xM (Env.val []) (cop (.binOp op t (.const (.string a)) (.const (.string b)) t2)).op.operands.toList) = true := rfl;rw [if_pos this, h2];exact cZ h3 h4
theorem q3M (hl : a.size + b.size <= 9223372036854775807) : bH P .add t t2 (fvv (.string a)) (fvv (.string b)) ph = some (fvv (.string (a ++ b))) := by
 refine qKZ rfl ?_ rfl rfl;have hm : IntKind.i64.max = 9223372036854775807 := rfl;have : ¬ (((a.size + b.size : Nat) : Int) > IntKind.i64.max) := by rw [hm]; omega
 show xJ P (do eqGuard .add t (.const (.string a)) (.const (.string b)) (.string a) (.string b); let v <- Op.stringOp .add a b; pure (Next.value v)) = _;unfold Op.stringOp;simp only [this, if_false];rfl
theorem q1A : bH P .eql t t2 (fvv (.string a)) (fvv (.string b)) ph = some (fvv (.bool (a.toList == b.toList))) := qKZ rfl rfl rfl rfl
theorem q3N : bH P .neq t t2 (fvv (.string a)) (fvv (.string b)) ph = some (fvv (.bool (!(a.toList == b.toList)))) := qKZ rfl rfl rfl rfl
theorem dB {α β : Type} (s : Sem α) (g : α -> Sem β) : xJ P (s >>= g) = (xJ P s).bind fun a => xJ P (g a) := j6 g s
theorem dP {α : Type} (a : α) : xJ P (pure a : Sem α) = some a := rfl
theorem qXD {ts : Array TypeId} (hs : qWN P ts = true) : ∃ t, ts[0]? = some t ∧ P.underlying t = some .string := by
 unfold qWN at hs
 cases h0 : ts[0]? with
 | none => rw [h0] at hs; cases hs
 | some t =>
   rw [h0] at hs;simp only [Option.bind_some] at hs;split at hs
   ·rename_i hq; exact ⟨t, rfl, hq⟩
   ·cases hs
theorem q5K {t : TypeId} {ts : Array TypeId} {ty : TypeId} (h0 : ts[0]? = some t) (hu : P.underlying t = some .string) : xJ P (Go.Builtin.len_ ts ty #[.string a]) = some (goInt a.size) := by
 unfold Go.Builtin.len_;simp only [h0, dB, zW, hu, Option.bind_some, List.getElem?_toArray, List.getElem?_cons_zero];rfl
theorem qN7 {x : Operand} {ts : Array TypeId} {ty : TypeId} {env : Env} (hs : qWN P ts = true) (hx : env.val x = .string a) :
 qSC (xU P (cop (.call ⟨.builtin .len, #[x], ts⟩) ty) env H00) = some (fvv (.int .i64 (a.size : Int))) := by
 have h2 : xM env.val (cop (.call ⟨.builtin .len, #[x], ts⟩) ty).op.operands.toList = [env.val x] := rfl;unfold xU;rw [h2];obtain ⟨t, h0, hu⟩ := qXD hs;have hp : zS [env.val x] = true := by rw [hx]; rfl
 rw [if_pos hp]
 have he : xJ P (execOp env.val (cop (.call ⟨.builtin .len, #[x], ts⟩) ty)) = some (.value (goInt a.size)) := by
  simp only [cop, execOp, resolve, List.map_toArray, List.map_cons, List.map_nil, hx];show xJ P (do let v <- Go.Builtin.len_ ts ty #[.string a]; pure (Next.value v)) = _;rw [dB, q5K h0 hu]; rfl
 rw [he];exact cZ rfl rfl
def nU (s : ByteArray) (i : Int) : Option Int := if 0 <= i then (s[i.toNat]?).map fun b => (b.toNat : Int) else none
theorem qZM {t : TypeId} {s : ByteArray} {k : IntKind} {i c : Int} {ty : TypeId} (hu : P.underlying t = some .string) (h : nU s i = some c) : qL8 P (.index t (.const (.string s)) (.const (.int k i))) ty = some (fvv (.int .u8 c)) := by
 unfold qL8 xU;have hp : zS (xM (Env.val []) (cop (.index t (.const (.string s)) (.const (.int k i))) ty).op.operands.toList) = true := rfl;rw [if_pos hp]
 have he : xJ P (execOp (Env.val []) (cop (.index t (.const (.string s)) (.const (.int k i))) ty)) = some (.value (.int .u8 c)) := by
  show xJ P (do let v <- Instr.index t (.string s) (.int k i); pure (Next.value v)) = _;unfold nU at h;split at h
  ·rename_i hc;obtain ⟨b, hb, rfl⟩ := Option.map_eq_some_iff.1 h;unfold Instr.index;simp only [dB, zW, hu, Option.bind_some];have h0 : xJ P (asIntOf (.int k i)) = some (k, i) := rfl;rw [h0];simp only [Option.bind_some, if_pos hc, hb, dP]
  ·cases h
 rw [he];exact cZ rfl rfl
theorem qAB {k : IntKind} {i : Int} {y n : Nat} {code : BoundsCode} (h : (if 0 <= i ∧ i <= (y : Int) then some i.toNat else none) = some n) : xJ P (Instr.sliceBound (.int k i) y code) = some n := by
 unfold Instr.sliceBound;rw [dB];have h0 : xJ P (asIntOf (.int k i)) = some (k, i) := rfl;rw [h0];simp only [Option.bind_some];split at h
 ·rename_i hc;rw [if_pos hc];cases h; rfl
 ·cases h
theorem qVH {d most n : Nat} {x : Option PV} (h : bnd d most x = some n) : (x = none ∧ n = d) ∨ ∃ k i, x = some (fvv (.int k i)) ∧ (if 0 <= i ∧ i <= (most : Int) then some i.toNat else none) = some n := by
 unfold bnd at h;split at h
 ·cases h; exact .inl ⟨rfl, rfl⟩
 ·rename_i k i; exact .inr ⟨k, i, rfl, h⟩
 ·cases h
theorem qYC {t : TypeId} {s : ByteArray} {lo hi : Option Operand} {l u : Nat} {env : List PV} {ty : TypeId} (hu : P.underlying t = some .string) (h1 : bnd s.size s.size (hi.map (qK env)) = some u) (h2 : bnd 0 u (lo.map (qK env)) = some l) :
 qL8 P (.slice t (.const (.string s)) (lo.map fun a => .const ((pl (qK env a)).getD undef)) (hi.map fun a => .const ((pl (qK env a)).getD undef)) none) ty = some (fvv (.string (s.extract l u))) := by
 have opt : ∀ {o : Option Operand} {d most n : Nat}, bnd d most (o.map (qK env)) = some n -> (o = none ∧ n = d) ∨ ∃ k i, (o.map fun a => Operand.const ((pl (qK env a)).getD undef)) = some (.const (.int k i)) ∧ (if 0 <= i ∧ i <= (most : Int) then some i.toNat else none) = some n := fun {o d most n} h => by
  rcases qVH h with ⟨q, e⟩ | ⟨k, i, q, e⟩
  ·cases o with
   | none => exact .inl ⟨rfl, e⟩
   | some a => cases q
  ·cases o with
   | none => cases q
   | some a =>
     have q : qK env a = fvv (.int k i) := by simpa using q
     exact .inr ⟨k, i, by simp [q, fvv, pl], e⟩
 unfold qL8 xU
 have hk : ∀ (lo' hi' : Option Operand) (vl vh : Option Value), lo'.map (Env.val []) = vl -> hi'.map (Env.val []) = vh -> zS (xM (Env.val []) (cop (.slice t (.const (.string s)) lo' hi' none) ty).op.operands.toList) = true ->
  xJ P (Instr.sliceBounds false s.size s.size vl vh none) = some (l, u, s.size) -> qSC (if zS (xM (Env.val []) (cop (.slice t (.const (.string s)) lo' hi' none) ty).op.operands.toList) = true then qGS H00 (xJ P (execOp (Env.val []) (cop (.slice t (.const (.string s)) lo' hi' none) ty))) else none) = some (fvv (.string (s.extract l u))) := by
  intro lo' hi' vl vh e1 e2 hp hb;rw [if_pos hp]
  have he : xJ P (execOp (Env.val []) (cop (.slice t (.const (.string s)) lo' hi' none) ty)) = some (.value (.string (s.extract l u))) := by
   show xJ P (do let v <- Instr.sliceAt t (.string s) (lo'.map (Env.val [])) (hi'.map (Env.val [])) none; pure (Next.value v)) = _;rw [e1, e2];unfold Instr.sliceAt;simp only [dB, zW, hu, Option.bind_some];unfold Instr.slice;simp only [dB, zW, hu, Option.bind_some];simp only [Option.isSome_none, Bool.false_eq_true, if_false, dB, hb, Option.bind_some, dP]
  rw [he];exact cZ rfl rfl
 have hB : ∀ (vl vh : Option Value), (vh = none ∧ u = s.size ∨ ∃ k i, vh = some (.int k i) ∧ (if 0 <= i ∧ i <= (s.size : Int) then some i.toNat else none) = some u) -> (vl = none ∧ l = 0 ∨ ∃ k i, vl = some (.int k i) ∧ (if 0 <= i ∧ i <= (u : Int) then some i.toNat else none) = some l) ->
  xJ P (Instr.sliceBounds false s.size s.size vl vh none) = some (l, u, s.size) := by
  intro vl vh a b;unfold Instr.sliceBounds;rcases a with ⟨rfl, rfl⟩ | ⟨k, i, rfl, ha⟩ <;> rcases b with ⟨rfl, rfl⟩ | ⟨k', i', rfl, hb⟩ <;> simp only [dB, dP, Option.bind_some, Option.isSome_none, Bool.false_eq_true, if_false]
  ·rw [qAB hb]; rfl
  ·rw [qAB ha]; rfl
  ·rw [qAB ha]; simp only [Option.bind_some]; rw [qAB hb]; rfl
 rcases opt h1 with ⟨rfl, e1⟩ | ⟨k, i, e1, f1⟩ <;> rcases opt h2 with ⟨rfl, e2⟩ | ⟨k', i', e2, f2⟩
 ·exact hk none none none none rfl rfl rfl (hB _ _ (.inl ⟨rfl, e1⟩) (.inl ⟨rfl, e2⟩))
 ·rw [e2]; exact hk _ none _ none rfl rfl rfl (hB _ _ (.inl ⟨rfl, e1⟩) (.inr ⟨k', i', rfl, f2⟩))
 ·rw [e1]; exact hk none _ none _ rfl rfl rfl (hB _ _ (.inr ⟨k, i, rfl, f1⟩) (.inl ⟨rfl, e2⟩))
 ·rw [e1, e2]; exact hk _ _ _ _ rfl rfl rfl (hB _ _ (.inr ⟨k, i, rfl, f1⟩) (.inr ⟨k', i', rfl, f2⟩))
theorem q14 {s d : TypeId} {k k' : IntKind} {x : Int} {u : TypeDesc} (hs : P.underlying s = some u) (hd : P.underlying d = some (.int k')) : aT P (fun a => .convert s d a) (fvv (.int k x)) = some (fvv (.int k' (k'.wrap x))) := by
 have hl : pl (fvv (.int k x)) = some (.int k x) := rfl;unfold aT;rw [hl];unfold qL8 xU;have hp : zS (xM (Env.val []) (cop (.convert s d (.const (.int k x)))).op.operands.toList) = true := rfl;simp only [hp, if_true]
 have he : xJ P (execOp (Env.val []) (cop (.convert s d (.const (.int k x))))) = some (.value (.int k' (k'.wrap x))) := by
  show xJ P (do let v <- convert s d (.int k x); pure (Next.value v)) = _;unfold convert;simp only [dB, zW, hs, hd, Option.bind_some];rfl
 rw [he];exact cZ rfl rfl
theorem qX6 {s d : TypeId} {x : ByteArray} {u : TypeDesc} (hs : P.underlying s = some u) (hd : P.underlying d = some .string) : aT P (fun a => .convert s d a) (fvv (.string x)) = some (fvv (.string x)) := by
 have hl : pl (fvv (.string x)) = some (.string x) := rfl;unfold aT;rw [hl];unfold qL8 xU;have hp : zS (xM (Env.val []) (cop (.convert s d (.const (.string x)))).op.operands.toList) = true := rfl;simp only [hp, if_true]
 have he : xJ P (execOp (Env.val []) (cop (.convert s d (.const (.string x))))) = some (.value (.string x)) := by
  show xJ P (do let v <- convert s d (.string x); pure (Next.value v)) = _;unfold convert;simp only [dB, zW, hs, hd, Option.bind_some];cases u <;> rfl
 rw [he];exact cZ rfl rfl
end Go.Sv
namespace Go.Sv
open Go.Idl
noncomputable section
variable [Gc]
variable [Yl]
variable {P : Program} {h : SH} {R : Type} {r : R}
def qEA : SV -> Option Value
 | .d (.int k) x => some (.int k x)
 | .d .bool x => some (.bool x)
 | .d .str x => some (.string x)
 | .c v => some v
 | _ => none
theorem rE {v : SV} {a : Value} (e : qEA v = some a) : v.enc = fvv a := by
 unfold qEA at e;split at e <;> cases e <;> simp [SV.enc, Ty.fv, fvv]
def qGK : List SV -> Option (List Value)
 | [] => some []
 | v :: l => match qEA v, qGK l with
   | some a, some b => some (a :: b)
   | _, _ => none
def aC : SV -> Option Value
 | .agg l => (match qGK l with
   | some vs => some (.agg vs.toArray)
   | none => none)
 | v => qEA v
theorem qDX : ∀ {l : List SV} {vs : List Value}, qGK l = some vs -> qT0 (qA l) = some vs
 | [], vs, e => by cases e; simp [qA, qT0]
 | v :: l, vs, e => by
   unfold qGK at e;split at e
   ·rename_i a b ha hb;cases e;simp only [qA, rE ha, fvv, qT0, pl1, qDX hb]
   ·cases e
theorem jP {v : SV} {a : Value} (e : aC v = some a) : pl v.enc = some a := by
 unfold aC at e;split at e
 ·rename_i l;split at e
  ·rename_i vs hvs;cases e;simp only [SV.enc, pl, qDX hvs]
  ·cases e
 ·rw [rE e];rfl
def q8A (op : BinOp) (a b : ByteArray) (K : SV -> Tree R) (F : Tree R) : Tree R := match op with
 | .add => .ite (Nat.ble (a.size + b.size) 9223372036854775807) (K (.d .str (a ++ b))) .fail
 | .eql => K (.d .bool (a.toList == b.toList))
 | .neq => K (.d .bool (!(a.toList == b.toList)))
 | _ => F
def qKE (P : Program) (t : TypeId) : Bool := match P.underlying t with
 | some .string => true
 | _ => false
omit [Yl] in
theorem rM {t : TypeId} (e : qKE P t = true) : P.underlying t = some .string := by
 unfold qKE at e;split at e
 ·assumption
 ·cases e
def qL5 (P : Program) (t : TypeId) (s : ByteArray) (ix : SV) (K : SV -> Tree R) : Tree R := match asI ix with
 | some (_, i) => cond (qKE P t) (.bind (nU s i) fun c => K (.d (.int .u8) c)) .fail
 | none => .fail
def qV7 (P : Program) (t : TypeId) (s : ByteArray) (lo hi : Option SV) (K : SV -> Tree R) : Tree R :=
 cond (qKE P t) (qRA s.size s.size hi fun b => qRA 0 b lo fun a => K (.d .str (s.extract a b))) .fail
def qWV (P : Program) (s d : TypeId) (x : SV) (K : SV -> Tree R) (F : Tree R) : Tree R := match P.underlying s, P.underlying d with
 | some _, some (.int k') => (match asI x with
   | some (_, a) => K (.d (.int k') (k'.wrap a))
   | none => F)
 | some _, some .string => (match asS x with
   | some a => K (.d .str a)
   | none => F)
 | _, _ => F
def Ty.vals : (t : Ty) -> List Value -> Option (t.sem × List Value)
 | .int k, .int k' x :: l => cond (decide (k' = k)) (some (x, l)) none
 | .bool, .bool x :: l => some (x, l)
 | .str, .string x :: l => some (x, l)
 | .unit, l => some ((), l)
 | .pair a b, l => match a.vals l with
   | some (x, l1) => (match b.vals l1 with
     | some (y, l2) => some ((x, y), l2)
     | none => none)
   | none => none
 | _, _ => none
def Ty.ofV (t : Ty) (v : Value) : Option t.sem := cond t.one (match t.vals [v] with
 | some (x, []) => some x
 | _ => none) (match v with
 | .agg a => (match t.vals a.toList with
   | some (x, []) => some x
   | _ => none)
 | _ => none)
def q2K (t : Ty) (x : t.sem) : SV := cond t.one (.d t x) (.agg (t.svs x))
omit [Yl] in
theorem qLK (t : Ty) (x : t.sem) : (q2K t x).ok h := by
 unfold q2K
 cases t.one with
 | true => simp [SV.ok]
 | false => simp only [cond_false, SV.ok]; exact qHI t x
omit [Yl] in
theorem qIS : ∀ {a b : List Value}, kS okC a = true -> kS okC b = true -> kS okC (a ++ b) = true
 | [], _, _, h => h
 | x :: a, b, h1, h2 => by
   rw [vJ, Bool.and_eq_true] at h1;rw [List.cons_append, vJ, h1.1, qIS h1.2 h2]; rfl
omit [Yl] in
theorem bV : ∀ {t : Ty} {l l' : List Value} {x : t.sem}, t.vals l = some (x, l') -> ∃ us, l = us ++ l' ∧ kS okC us = true ∧ xM fvv us = (t.cells x).map PV.f
 | .int k, l, l', x, e => by
   cases l with
   | nil => cases e
   | cons v l =>
     cases v <;> try (cases e; done)
     rename_i k' y;have e : cond (decide (k' = k)) (some ((y : Int), l)) none = some (x, l') := e
     cases hk : decide (k' = k) with
     | false => rw [hk] at e; cases e
     | true =>
       rw [hk] at e;cases e;have : k' = k := by simpa using hk
       subst this;exact ⟨[.int k' x], rfl, rfl, rfl⟩
 | .bool, l, l', x, e => by
   cases l with
   | nil => cases e
   | cons v l =>
     cases v <;> try (cases e; done)
     cases e;exact ⟨[.bool x], rfl, rfl, rfl⟩
 | .str, l, l', x, e => by
   cases l with
   | nil => cases e
   | cons v l =>
     cases v <;> try (cases e; done)
     cases e;exact ⟨[.string x], rfl, rfl, rfl⟩
 | .unit, l, l', x, e => by
   have e : some ((), l) = some ((), l') := by cases l <;> exact e
   cases e;exact ⟨[], rfl, rfl, rfl⟩
 | .list _ _, l, l', x, e => by cases l <;> cases e
 | .raw, l, l', x, e => by cases l <;> cases e
 | .pair a b, l, l', x, e => by
   have e : (match a.vals l with
    | some (x, l1) => (match b.vals l1 with
      | some (y, l2) => some ((x, y), l2)
      | none => none)
    | none => none) = some (x, l') := by cases l <;> exact e
   split at e
   ·rename_i x1 l1 h1;split at e
    ·rename_i y l2 h2;cases e;obtain ⟨us, rfl, u1, u2⟩ := bV h1;obtain ⟨ws, rfl, w1, w2⟩ := bV h2;refine ⟨us ++ ws, by rw [List.append_assoc], ?_, ?_⟩
     ·exact qIS u1 w1
     ·show _ = (a.cells x1 ++ b.cells y).map PV.f;rw [y8] at u2 w2 ⊢;rw [List.map_append, List.map_append, u2, w2]
    ·cases e
   ·cases e
theorem qEY {t : Ty} {v : Value} {x : t.sem} (e : t.ofV v = some x) : ofC v = (q2K t x).enc := by
 unfold Ty.ofV at e;unfold q2K
 cases ht : t.one with
 | true =>
   rw [ht] at e;simp only [cond_true] at e ⊢;split at e
   ·rename_i y hy;cases e;obtain ⟨us, h1, h2, h3⟩ := bV hy;rw [List.append_nil] at h1;subst h1;rw [Ty.cells_one ht] at h3
    have h3 : fvv v = .f (t.fv x) := by
     have : xM fvv [v] = [fvv v] := rfl;rw [this] at h3;simpa using h3
    have h2 : okC v = true := by
     rw [vJ, Bool.and_eq_true] at h2; exact h2.1
    have : ofC v = fvv v := by
     unfold okC at h2;rw [Bool.and_eq_true] at h2
     cases v <;> first | (exact absurd h2.2 (by decide)) | skip
     all_goals first | (show q1X _ = _; unfold q1X okC; simp [h2.1, h2.2]) | (simp [oneCell] at h2)
    rw [this, h3]; simp [SV.enc]
   ·cases e
 | false =>
   rw [ht] at e;simp only [cond_false] at e ⊢;split at e
   ·rename_i a;split at e
    ·rename_i y hy;cases e;obtain ⟨us, h1, h2, h3⟩ := bV hy;rw [List.append_nil] at h1;show cond (kS okC a.toList) (PV.agg (xM fvv a.toList)) .unk = _;rw [h1, h2, h3];simp only [cond_true, SV.enc, pX]
    ·cases e
   ·cases e
def smp (x : SV) (h : SH) : Option (Nat × List (Value × Value)) := match x with
 | .mp k => (match slk k h.l with
   | some (.spc _ (.map es)) => some (k, es)
   | _ => none)
 | _ => none
omit [Yl] in
theorem fA : ∀ (n : Nat) (es : List (Value × Value)) (i : Nat), (kY n es)[i]? = (es[i]?).map fun p => (⟨p.1, p.2, n + i⟩ : MapEntry)
 | n, [], i => by simp [kY]
 | n, p :: es, 0 => by simp [kY]
 | n, p :: es, i + 1 => by
   show (kY (n + 1) es)[i]? = _;rw [fA (n + 1) es i];have : n + 1 + i = n + (i + 1) := by omega
   rw [this]; simp
omit [Yl] in
theorem qJY : ∀ (n : Nat) (es : List (Value × Value)), (kY n es).length = es.length
 | n, [] => rfl
 | n, p :: es => by
   show (kY (n + 1) es).length + 1 = _;rw [qJY, List.length_cons]
omit [Yl] in
theorem qB5 : ∀ (n : Nat) (es : List (Value × Value)) (k v : Value), kY n (es ++ [(k, v)]) = kY n es ++ [⟨k, v, n + es.length⟩]
 | n, [], k, v => rfl
 | n, p :: es, k, v => by
   show _ :: kY (n + 1) (es ++ [(k, v)]) = _;rw [qB5 (n + 1) es k v];show _ = _ :: (kY (n + 1) es ++ _);rw [List.length_cons];have : n + 1 + es.length = n + (es.length + 1) := by omega
   rw [this]
omit [Yl] in
theorem qBS (es : List (Value × Value)) (i : Nat) (k v : Value) (f : MapEntry -> MapEntry) (hf : ∀ p, es[i]? = some p -> f ⟨p.1, p.2, i⟩ = ⟨k, v, i⟩) : kY 0 (es.set i (k, v)) = (kY 0 es).modify i f := by
 apply List.ext_getElem?;intro j;rw [fA, List.getElem?_modify, fA, List.getElem?_set, Nat.zero_add];by_cases hij : i = j
 ·subst hij;rw [if_pos rfl];simp only [if_true]
  cases he : es[i]? with
  | none =>
    have : ¬ i < es.length := fun hl => by rw [List.getElem?_eq_getElem hl] at he; cases he
    rw [if_neg this]; rfl
  | some p =>
    have := (List.getElem?_eq_some_iff.1 he).1;rw [if_pos this];simp [hf p he]
 ·rw [if_neg hij];simp only [if_neg hij];cases es[j]? <;> rfl
theorem qYK {x : SV} {k : Nat} {es : List (Value × Value)} (hs : spec P 1000000001 = true) (e : smp x h = some (k, es)) : pW P x.enc (qD h.l) = some (k, (SpO.map es).enc, es.length, kY 0 es) ∧ ∃ w, slk k h.l = some (.spc w (.map es)) := by
 unfold smp at e;split at e
 ·rename_i k';split at e
  ·rename_i w es' hk;cases e;refine ⟨?_, w, hk⟩;simp only [SV.enc, pW, xZ hk]
   show cond (spec P 1000000001 && Nat.beq 1000000001 1000000001) (match mapOf (jA es.length (kY 0 es)) with
    | some (c, es') => some (k, (SO.spc w (SpO.map es)).enc, c, es')
    | none => none) none = _
   rw [hs, qOK];rfl
  ·cases e
 ·cases e
def q8M (P : Program) (kt : TypeId) (k : Value) (es : List (Value × Value)) : Option Bool := (bF P kt k (kY 0 es)).map Option.isSome
def q68 (P : Program) (kt : TypeId) (t : Ty) (k : Value) (es : List (Value × Value)) : Option t.sem := match bF P kt k (kY 0 es) with
 | some (some i) => (match es[i]? with
   | some p => t.ofV p.2
   | none => none)
 | _ => none
def q26 (ok : Bool) (t : Ty) (x : t.sem) (b : Bool) : SV := cond ok (.tup [q2K t x, .c (.bool b)]) (q2K t x)
theorem qOL {ok b : Bool} {t : Ty} {x : t.sem} {v : Value} (e : t.ofV v = some x) : qZP ok v b = (q26 ok t x b).enc := by
 unfold qZP q26
 cases ok with
 | true => simp [qEY e, SV.enc, qA]
 | false => exact qEY e
omit [Yl] in
theorem qU3 {ok b : Bool} {t : Ty} {x : t.sem} : (q26 ok t x b).ok h := by
 unfold q26
 cases ok with
 | true => simp only [cond_true, SV.ok, okL, and_true]; exact qLK t x
 | false => exact qLK t x
def qLT (P : Program) (t : TypeId) (m kx : SV) (ok : Bool) (h : SH) (K : SV -> Tree R) : Tree R := match P.underlying t, smp m h, aC kx with
 | some (.map kt et), some (_, es), some kv => (match qLJ P 8 et, vZ P et with
   | some vt, some z => (match vt.ofV z with
     | some z0 => cond (spec P 1000000001 && zP z) (.bind (q8M P kt kv es) fun b => .ite b (.bind (q68 P kt vt kv es) fun x => K (q26 ok vt x true)) (K (q26 ok vt z0 false))) .fail
     | none => .fail)
   | _, _ => .fail)
 | _, _, _ => .fail
theorem qQI {t : TypeId} {m kx : SV} {ok : Bool} {K : SV -> Tree R} (e : (qLT P t m kx ok h K).run = some r) : ∃ v, gI P t m.enc kx.enc ok (qD h.l) = some v.enc ∧ v.ok h ∧ (K v).run = some r := by
 unfold qLT at e;split at e
 case h_2 => cases e
 rename_i kt et k es kv hu hm hk;split at e
 case h_2 => cases e
 rename_i vt z hvt hz;split at e
 case h_2 => cases e
 rename_i z0 hz0;obtain ⟨c, e1⟩ := qF e;rw [Bool.and_eq_true] at c;obtain ⟨b, hb, e2⟩ := run_bind e1;obtain ⟨h1, w, h2⟩ := qYK c.1 hm
 have pre : gI P t m.enc kx.enc ok (qD h.l) = (match bF P kt kv (kY 0 es) with
  | some (some i) => (match (kY 0 es)[i]? with
    | some e => some (qZP ok e.val true)
    | none => none)
  | some none => some (qZP ok z false)
  | none => none) := by
  unfold gI;rw [hu, h1, jP hk];simp only [hz, c.2, cond_true];rfl
 rw [pre];unfold q8M at hb
 cases hf : bF P kt kv (kY 0 es) with
 | none => rw [hf] at hb; cases hb
 | some o =>
   rw [hf] at hb
   cases o with
   | none =>
     cases hb;refine ⟨_, by simp only [qOL hz0], qU3, e2⟩
   | some i =>
     cases hb;obtain ⟨x, hx, e3⟩ := run_bind (show (Tree.bind (q68 P kt vt kv es) fun x => K (q26 ok vt x true)).run = some r from e2);unfold q68 at hx;rw [hf] at hx;simp only at hx;split at hx
     ·rename_i p hp;refine ⟨_, ?_, qU3, e3⟩;simp only [fA, hp, Option.map_some, qOL hx]
     ·cases hx
def q73 (P : Program) (kt : TypeId) (k v : Value) (es : List (Value × Value)) : Option (List (Value × Value)) := match bF P kt k (kY 0 es) with
 | some (some i) => (match es[i]? with
   | some p => cond (Instr.sameBits 10000 p.1 k) (some (es.set i (k, v))) none
   | none => none)
 | some none => some (es ++ [(k, v)])
 | none => none
def dQ (P : Program) (t : TypeId) (m kx x : SV) (h : SH) (K : SV -> SH -> Tree R) : Tree R := match P.underlying t, smp m h, aC kx, aC x with
 | some (.map kt _), some (k, es), some kv, some xv => cond (spec P 1000000001 && qQ xv) (.bind (q73 P kt kv xv es) fun es' => K (.tup []) (h.put k fun v => .spc v (.map es'))) .fail
 | _, _, _, _ => .fail
theorem fF {k : Nat} {es es' : List (Value × Value)} {w : Nat} (ho : OkH P h) (hk : slk k h.l = some (.spc w (.map es))) : Keep h (h.put k fun v => .spc v (.map es')) ∧ OkH P (h.put k fun v => .spc v (.map es')) ∧
 qD (h.put k fun v => .spc v (.map es')).l = vN k { (SpO.map es).enc with cs := jA es'.length (kY 0 es') } (qD h.l) := by
 have := mM (f := fun v => .spc v (.map es')) ho hk rfl;exact ⟨this.1, this.2, uJ k _ _⟩
theorem oZ {t : TypeId} {m kx x : SV} {K : SV -> SH -> Tree R} (ho : OkH P h) (e : (dQ P t m kx x h K).run = some r) :
 ∃ h', kD P t m.enc kx.enc x.enc (qD h.l) = some (qD h'.l) ∧ Keep h h' ∧ OkH P h' ∧ (K (.tup []) h').run = some r := by
 unfold dQ at e;split at e
 case h_2 => cases e
 rename_i kt et k es kv xv hu hm hkv hxv;obtain ⟨c, e1⟩ := qF e;rw [Bool.and_eq_true] at c;obtain ⟨es', hs, e2⟩ := run_bind e1;obtain ⟨h1, w, h2⟩ := qYK c.1 hm;obtain ⟨p1, p2, p3⟩ := fF (es' := es') ho h2;refine ⟨_, ?_, p1, p2, e2⟩;unfold kD;rw [hu, h1, jP hkv, jP hxv, p3];simp only [c.2, cond_true];unfold q73 at hs
 cases hf : bF P kt kv (kY 0 es) with
 | none => rw [hf] at hs; cases hs
 | some o =>
   rw [hf] at hs
   cases o with
   | none =>
     cases hs;simp only [qB5, List.length_append, List.length_cons, List.length_nil, Nat.zero_add]
   | some i =>
     simp only at hs ⊢;split at hs
     ·rename_i p hp
      cases hb : Instr.sameBits 10000 p.1 kv with
      | false => rw [hb] at hs; cases hs
      | true =>
        rw [hb] at hs;cases hs;simp only [fA, hp, Option.map_some, hb, cond_true];rw [qBS es i kv xv (fun e => { e with key := kv, val := xv }) (fun _ _ => rfl), List.length_set]
     ·cases hs
def q8I (P : Program) (kt : TypeId) (t : Ty) (k z : Value) (es : List (Value × Value)) : Option (List (Value × Value) × Nat × t.sem) := match bF P kt k (kY 0 es) with
 | some (some i) => (match es[i]? with
   | some p => cond (Instr.sameBits 10000 p.1 k) (match t.ofV p.2 with
     | some x => some (es.set i (k, p.2), i, x)
     | none => none) none
   | none => none)
 | some none => (match t.ofV z with
   | some x => some (es ++ [(k, z)], es.length, x)
   | none => none)
 | none => none
def qBT (P : Program) (t : TypeId) (m kx : SV) (h : SH) (K : SV -> SH -> Tree R) : Tree R := match P.underlying t, smp m h, aC kx with
 | some (.map kt et), some (k, es), some kv => (match qLJ P 8 et, vZ P et with
   | some vt, some z => cond (spec P 1000000001 && zP z) (.bind (q8I P kt vt kv z es) fun q => K (.tup [q2K vt q.2.2, .d (.int .i64) (q.2.1 : Int)]) (h.put k fun v => .spc v (.map q.1))) .fail
   | _, _ => .fail)
 | _, _, _ => .fail
theorem qKG {t : TypeId} {m kx : SV} {K : SV -> SH -> Tree R} (ho : OkH P h) (e : (qBT P t m kx h K).run = some r) :
 ∃ v h', wO P t m.enc kx.enc (qD h.l) = some (v.enc, qD h'.l) ∧ Post P h h' v ∧ (K v h').run = some r := by
 unfold qBT at e;split at e
 case h_2 => cases e
 rename_i kt et k es kv hu hm hkv;split at e
 case h_2 => cases e
 rename_i vt z hvt hz;obtain ⟨c, e1⟩ := qF e;rw [Bool.and_eq_true] at c;obtain ⟨q, hs, e2⟩ := run_bind e1;obtain ⟨h1, w, h2⟩ := qYK c.1 hm;obtain ⟨p1, p2, p3⟩ := fF (es' := q.1) ho h2;refine ⟨_, _, ?_, ⟨p1, p2, ?_⟩, e2⟩
 ·unfold wO;rw [hu, h1, jP hkv, p3];unfold q8I at hs
  cases hf : bF P kt kv (kY 0 es) with
  | none => rw [hf] at hs; cases hs
  | some o =>
    rw [hf] at hs
    cases o with
    | none =>
      simp only at hs ⊢;split at hs
      ·rename_i x hx;cases hs;simp only [hf, hz, c.2, cond_true, qB5, List.length_append, List.length_cons, List.length_nil, Nat.zero_add, SV.enc, qA, qEY hx, Ty.fv, fvv]
      ·cases hs
    | some i =>
      simp only at hs ⊢;split at hs
      ·rename_i p hp
       cases hb : Instr.sameBits 10000 p.1 kv with
       | false => rw [hb] at hs; cases hs
       | true =>
         rw [hb] at hs;simp only [cond_true] at hs;split at hs
         ·rename_i x hx;cases hs;simp only [hf, fA, hp, Option.map_some, hb, cond_true, SV.enc, qA, qEY hx, Ty.fv, fvv, Nat.zero_add];rw [qBS es i kv p.2 (fun e => { e with key := kv }) (fun p' hp' => by rw [hp] at hp'; cases hp'; rfl), List.length_set]
         ·cases hs
      ·cases hs
 ·simp only [SV.ok, okL, and_true]; exact qLK _ _
def q8N (born : Int) (v : Value) (es : List (Value × Value)) : Option (List (Value × Value)) := match (kY 0 es).findIdx? (fun e => (e.born : Int) == born) with
 | some i => (match es[i]? with
   | some p => some (es.set i (p.1, v))
   | none => none)
 | none => none
def mO (P : Program) (m st x : SV) (h : SH) (K : SV -> SH -> Tree R) : Tree R := match smp m h, asI st, aC x with
 | some (k, es), some (_, b), some xv => cond (spec P 1000000001 && qQ xv) (.bind (q8N b xv es) fun es' => K (.tup []) (h.put k fun v => .spc v (.map es'))) .fail
 | _, _, _ => .fail
theorem qDF {m st x : SV} {K : SV -> SH -> Tree R} (ho : OkH P h) (e : (mO P m st x h K).run = some r) :
 ∃ h', xY P m.enc st.enc x.enc (qD h.l) = some (qD h'.l) ∧ Keep h h' ∧ OkH P h' ∧ (K (.tup []) h').run = some r := by
 unfold mO at e;split at e
 case h_2 => cases e
 rename_i k es ki b xv hm hst hxv;obtain ⟨c, e1⟩ := qF e;rw [Bool.and_eq_true] at c;obtain ⟨es', hs, e2⟩ := run_bind e1;obtain ⟨h1, w, h2⟩ := qYK c.1 hm;obtain ⟨p1, p2, p3⟩ := fF (es' := es') ho h2;refine ⟨_, ?_, p1, p2, e2⟩;unfold xY;have hpl : pl (fvv (.int ki b)) = some (.int ki b) := rfl;rw [h1, xK hst, hpl, jP hxv, p3];simp only [c.2, cond_true];unfold q8N at hs;split at hs
 ·rename_i i hi;rw [hi];split at hs
  ·rename_i p hp;cases hs;simp only;rw [qBS es i p.1 xv (fun e => { e with val := xv }) (fun p' hp' => by rw [hp] at hp'; cases hp'; rfl), List.length_set]
  ·cases hs
 ·cases hs
def qNQ (P : Program) (k : Nat) (h : SH) (K : SV -> SH -> Tree R) : Tree R := cond (spec P 1000000001) (K (.mp k) (h.new k fun v => .spc v (.map []))) .fail
theorem qLV {k : Nat} {K : SV -> SH -> Tree R} (ho : OkH P h) (e : (qNQ P k h K).run = some r) : ∃ v h', dO P k (qD h.l) = some (v.enc, qD h'.l) ∧ Post P h h' v ∧ (K v h').run = some r := by
 obtain ⟨c, e1⟩ := qF e;have hp := kT (k := k) (f := fun v => .spc v (.map [])) ho rfl;refine ⟨_, _, ?_, ⟨hp.1, hp.2, by simp [SV.ok]⟩, e1⟩;unfold dO;rw [c];simp only [cond_true, qH3, SV.enc];rfl
def q1N (P : Program) (ts : Array TypeId) (x : SV) (h : SH) : Option SV := match smp x h with
 | some (_, es) => cond (spec P 1000000001 && q4T P ts) (some (.d (.int .i64) ((List.length es : Nat) : Int))) none
 | none => none
theorem qXI {ts : Array TypeId} {x v : SV} (e : q1N P ts x h = some v) : qDA P ts x.enc (qD h.l) = some v.enc ∧ v.ok h := by
 unfold q1N at e;split at e
 case h_2 => cases e
 rename_i k es hm
 cases hc : (spec P 1000000001 && q4T P ts) with
 | false => rw [hc] at e; cases e
 | true =>
   rw [hc] at e;cases e;rw [Bool.and_eq_true] at hc;refine ⟨?_, by simp [SV.ok]⟩;unfold smp at hm;split at hm
   case h_2 => cases hm
   rename_i k';split at hm
   case h_2 => cases hm
   rename_i w es' hk;cases hm
   have h1 : rV P (SV.enc (.mp k)) (qD h.l) = some (jA es.length (kY 0 es)) := by
    simp only [SV.enc, rV, xZ hk];show cond (!false && (spec P 1000000001 && Nat.beq 1000000001 1000000001)) (some (jA es.length (kY 0 es))) none = _;rw [hc.1]; rfl
   unfold qDA;rw [h1];simp only [hc.2, cond_true, yX, qJY];have : (3 * es.length + 1) / 3 = es.length := by omega
   rw [this];simp [SV.enc, Ty.fv, fvv]
def qUB (P : Program) (t : TypeId) (x : SV) (k : Nat) (h : SH) (K : SV -> SH -> Tree R) : Tree R := match asS x with
 | some s => cond (qKE P t && spec P 1000000000) (K (.ref k 0 2) (h.new k fun v => .spc v (.iter s 0))) .fail
 | none => .fail
theorem qRG {t : TypeId} {x : SV} {k : Nat} {K : SV -> SH -> Tree R} (ho : OkH P h) (e : (qUB P t x k h K).run = some r) : ∃ v h', qD0 P t x.enc k (qD h.l) = some (v.enc, qD h'.l) ∧ Post P h h' v ∧ (K v h').run = some r := by
 unfold qUB at e;split at e
 case h_2 => cases e
 rename_i s hs;obtain ⟨c, e1⟩ := qF e;rw [Bool.and_eq_true] at c;have hp := kT (k := k) (f := fun v => .spc v (.iter s 0)) ho rfl;refine ⟨_, _, ?_, ⟨hp.1, hp.2, by simp [SV.ok]⟩, e1⟩;unfold qD0;have hpl : pl (fvv (.string s)) = some (.string s) := rfl;rw [rM c.1, gD hs, hpl];simp only [c.2, cond_true, qH3, SV.enc];rfl
def q29 (P : Program) (x : SV) (h : SH) (K : SV -> SH -> Tree R) : Tree R := match x with
 | .ref k off w => (match slk k h.l with
   | some (.spc _ (.iter s pos)) => cond (spec P 1000000000 && (Nat.beq w 2 && Nat.beq off 0)) (.ite (decide (pos < s.size))
      (K (.tup [.c (.bool true), .d (.int .i64) (pos : Int), .d (.int .i32) ((Utf8.decode s pos).1 : Int)]) (h.put k fun v => .spc v (.iter s (pos + (Utf8.decode s pos).2))))
      (K (.tup [.c (.bool false)]) h)) .fail
   | _ => .fail)
 | _ => .fail
theorem qXZ {x : SV} {K : SV -> SH -> Tree R} (ho : OkH P h) (e : (q29 P x h K).run = some r) : ∃ v h', qHG P x.enc (qD h.l) = some (v.enc, qD h'.l) ∧ Post P h h' v ∧ (K v h').run = some r := by
 unfold q29 at e;split at e
 case h_2 => cases e
 rename_i k off w;split at e
 case h_2 => cases e
 rename_i w0 s pos hk;obtain ⟨c, e1⟩ := qF e
 have pre : qHG P (SV.enc (.ref k off w)) (qD h.l) = cond (decide (pos < s.size))
  (some (PV.tup [fvv (.bool true), fvv (.int .i64 (pos : Int)), fvv (.int .i32 (Utf8.decode s pos).1)], vN k { (SpO.iter s pos).enc with cs := qAW s (pos + (Utf8.decode s pos).2) } (qD h.l)))
  (some (.tup [fvv (.bool false)], qD h.l)) := by
  simp only [SV.enc, qHG, xZ hk];show cond (spec P 1000000000 && (Nat.beq 1000000000 1000000000 && (Nat.beq w 2 && Nat.beq off 0))) _ none = _;have : (Nat.beq 1000000000 1000000000) = true := rfl;rw [this, Bool.true_and, c];rfl
 rw [pre]
 rcases run_ite e1 with ⟨z, e2⟩ | ⟨z, e2⟩
 ·rw [z];have hp := mM (f := fun v => .spc v (.iter s (pos + (Utf8.decode s pos).2))) ho hk rfl;refine ⟨_, _, ?_, ⟨hp.1, hp.2, by simp [SV.ok, okL]⟩, e2⟩;simp only [cond_true, SV.enc, qA, Ty.fv, fvv];rw [show qD (h.put k fun v => .spc v (.iter s (pos + (Utf8.decode s pos).2))).l = _ from uJ k _ _];rfl
 ·rw [z];exact ⟨_, _, by simp [SV.enc, qA], ⟨.refl _, ho, by simp [SV.ok, okL]⟩, e2⟩
end
end Go.Sv
namespace Go.Sv
open Go.Idl
noncomputable section
variable [Gc]
variable [Yl]
variable {P : Program} {h : SH} {R : Type} {r : R}
def q2P (k : IntKind) : PV -> Option Int
 | .f (.v (.int k' x)) => cond (decide (k' = k)) (some x) none
 | _ => none
def q25 : PV -> Option Bool
 | .f (.v (.bool x)) => some x
 | _ => none
def q1E : PV -> Option ByteArray
 | .f (.v (.string x)) => some x
 | _ => none
def Ty.decP : (t : Ty) -> PV -> Option t.sem
 | .int k, p => q2P k p
 | .bool, p => q25 p
 | .str, p => q1E p
 | .raw, _ => none
 | .unit, _ => none
 | .list _ _, _ => none
 | .pair _ _, _ => none
omit [Yl] in
theorem q3J : ∀ {t : Ty} {p : PV} {x : t.sem}, t.decP p = some x -> p = .f (t.fv x)
 | .int k, p, x, e => by
   have e1 : q2P k p = some x := e;clear e;unfold q2P at e1;split at e1
   ·rename_i k' y;have e := e1;clear e1
    cases hk : decide (k' = k) with
    | false => rw [hk] at e; cases e
    | true =>
      rw [hk] at e;cases e;have : k' = k := by simpa using hk
      subst this;rfl
   ·cases e1
 | .bool, p, x, e => by
   have e1 : q25 p = some x := e;clear e;unfold q25 at e1;split at e1
   ·cases e1; rfl
   ·cases e1
 | .str, p, x, e => by
   have e1 : q1E p = some x := e;clear e;unfold q1E at e1;split at e1
   ·cases e1; rfl
   ·cases e1
 | .unit, _, _, e => by cases e
 | .list _ _, _, _, e => by cases e
 | .pair _ _, _, _, e => by cases e
 | .raw, _, _, e => by cases e
def Ty.decPO (t : Ty) (o : Option PV) : Option t.sem := o.bind t.decP
theorem qN6 {t : Ty} {o : Option PV} {x : t.sem} (e : t.decPO o = some x) : o = some (SV.d t x).enc := by
 obtain ⟨p, h1, h2⟩ := Option.bind_eq_some_iff.1 e;rw [h1, q3J h2]; simp [SV.enc]
def sint (op : BinOp) (k : IntKind) (a b : Int) (K : SV -> Tree R) (F : Tree R) : Tree R := match op with
 | .lss => K (.d .bool (decide (a < b)))
 | .leq => K (.d .bool (decide (a <= b)))
 | .gtr => K (.d .bool (decide (b < a)))
 | .geq => K (.d .bool (decide (b <= a)))
 | .eql => K (.d .bool (a == b))
 | .neq => K (.d .bool (a != b))
 | .add => K (.d (.int k) (k.wrap (a + b)))
 | .sub => K (.d (.int k) (k.wrap (a - b)))
 | .mul => K (.d (.int k) (k.wrap (a * b)))
 | .quo => .bind (q7D k a b) fun c => K (.d (.int k) c)
 | .rem => .bind (q6W a b) fun c => K (.d (.int k) c)
 | _ => F
omit [Yl] in
theorem q05 {op : BinOp} {t t2 : TypeId} {x y : PV} {a b : Value} {ph : PHp} (hx : pl x = some a) (hy : pl y = some b) : bH P op t t2 x y ph = bH P op t t2 (fvv a) (fvv b) [] := by
 unfold bH;rw [hx, hy];rfl
def qP5 (P : Program) (op : BinOp) (t t2 ty : TypeId) (x y : SV) (K : SV -> Tree R) : Tree R := match aC x, aC y, qLJ P 8 ty with
 | some a, some b, some u => .bind (u.decPO (bH P op t t2 (fvv a) (fvv b) [])) fun z => K (.d u z)
 | _, _, _ => .fail
def q7Y (P : Program) (t : TypeId) (x y : SV) (h : SH) : Option Bool := match y with
 | .c (.slice none _ _) => cond (yS P t).isSome (match x with
   | .own k g n => (match slk k h.l with
     | some (.list _ gr g' _ _ _) => cond (Nat.beq g g') (some (gr && Nat.beq n 0)) none
     | _ => none)
   | _ => none) none
 | .c .nilFunc => cond (qS8 P t) (match x with
   | .fn _ _ _ => some false
   | _ => none) none
 | _ => none
theorem qU6 {t : TypeId} {x y : SV} {b : Bool} (ho : OkH P h) (hx : x.ok h) (e : q7Y P t x y h = some b) : qWR P t x.enc y.enc (qD h.l) = some b ∧ pl x.enc = none := by
 unfold q7Y at e;split at e
 ·rename_i n c
  cases h1 : (yS P t).isSome with
  | false => rw [h1] at e; cases e
  | true =>
    rw [h1] at e;simp only [cond_true] at e;split at e
    ·rename_i k g n;split at e
     ·rename_i el gr g' w u xs hk
      cases h2 : Nat.beq g g' with
      | false => rw [h2] at e; cases e
      | true =>
        rw [h2] at e;cases e;have hg : g = g' := Nat.eq_of_beq_eq_true h2;subst hg;simp only [SV.ok] at hx;have hn := hx.2 _ _ _ _ _ hk;have hl := ho.list _ _ _ _ _ _ _ hk;refine ⟨?_, by simp [SV.enc, pl]⟩;simp only [SV.enc, fvv, qWR, h1, cond_true, isNil, xZ hk];rw [show (SO.list el gr g w u xs).enc.el = el from rfl, hl.2.1];simp only [qV, hn, qBD, cond_true];rfl
     ·cases e
    ·cases e
 ·cases h1 : qS8 P t with
  | false => rw [h1] at e; cases e
  | true =>
    rw [h1] at e;simp only [cond_true] at e;split at e
    ·cases e;exact ⟨by simp [SV.enc, fvv, qWR, h1, qOU], by simp [SV.enc, pl]⟩
    ·cases e
 ·cases e
def q70 (P : Program) (op : BinOp) (t t2 ty : TypeId) (x y : SV) (h : SH) (K : SV -> Tree R) : Tree R := match asI x, asI y with
 | some (k, a), some (k', b) => cond (decide (k = k')) (sint op k a b K (qP5 P op t t2 ty x y K)) (qP5 P op t t2 ty x y K)
 | _, _ => (match asS x, asS y with
   | some a, some b => q8A op a b K (qP5 P op t t2 ty x y K)
   | _, _ => (match q7Y P t x y h, op with
     | some b, .eql => K (.d .bool b)
     | some b, .neq => K (.d .bool (!b))
     | _, _ => qP5 P op t t2 ty x y K))
theorem qAC {op : BinOp} {t t2 ty : TypeId} {x y : SV} {K : SV -> Tree R} (e : (qP5 P op t t2 ty x y K).run = some r) : ∃ v, bH P op t t2 x.enc y.enc (qD h.l) = some v.enc ∧ v.ok h ∧ (K v).run = some r := by
 unfold qP5 at e;split at e
 ·rename_i a b u ha hb hu;obtain ⟨z, hz, e1⟩ := run_bind e;refine ⟨_, ?_, by simp [SV.ok], e1⟩;rw [q05 (jP ha) (jP hb)];exact qN6 hz
 ·cases e
theorem q27 {op : BinOp} {t t2 ty : TypeId} {x y : SV} {K : SV -> Tree R} (ho : OkH P h) (hx : x.ok h) (e : (q70 P op t t2 ty x y h K).run = some r) : ∃ v, bH P op t t2 x.enc y.enc (qD h.l) = some v.enc ∧ v.ok h ∧ (K v).run = some r := by
 unfold q70 at e;split at e
 ·rename_i k a k' b ha hb
  cases hk : decide (k = k') with
  | false => rw [hk] at e; exact qAC e
  | true =>
    rw [hk] at e;have hkk : k = k' := by simpa using hk
    subst hkk;simp only [cond_true] at e;have ha' := xK ha;have hb' := xK hb
    have fin : ∀ {v : SV}, bH P op t t2 (fvv (.int k a)) (fvv (.int k b)) (qD h.l) = some v.enc -> v.ok h -> (K v).run = some r -> ∃ v, bH P op t t2 x.enc y.enc (qD h.l) = some v.enc ∧ v.ok h ∧ (K v).run = some r := fun h1 h2 h3 => ⟨_, by rw [ha', hb']; exact h1, h2, h3⟩
    unfold sint at e;split at e
    ·exact fin (v := .d .bool (decide (a < b))) q4W (by simp [SV.ok]) e
    ·exact fin (v := .d .bool (decide (a <= b))) q5X (by simp [SV.ok]) e
    ·exact fin (v := .d .bool (decide (b < a))) q40 (by simp [SV.ok]) e
    ·exact fin (v := .d .bool (decide (b <= a))) q5C (by simp [SV.ok]) e
    ·exact fin (v := .d .bool (a == b)) q39 (by simp [SV.ok]) e
    ·exact fin (v := .d .bool (a != b)) q5G (by simp [SV.ok]) e
    ·exact fin (v := .d (.int k) (k.wrap (a + b))) q4C (by simp [SV.ok]) e
    ·exact fin (v := .d (.int k) (k.wrap (a - b))) q5A (by simp [SV.ok]) e
    ·exact fin (v := .d (.int k) (k.wrap (a * b))) q4B (by simp [SV.ok]) e
    ·obtain ⟨c, hc, e1⟩ := run_bind e;exact fin (v := .d (.int k) c) (q4F hc) (by simp [SV.ok]) e1
    ·obtain ⟨c, hc, e1⟩ := run_bind e;exact fin (v := .d (.int k) c) (q5F hc) (by simp [SV.ok]) e1
    ·exact qAC e
 ·split at e
  ·rename_i a b ha hb;have ha' := gD ha;have hb' := gD hb;unfold q8A at e;split at e
   ·rcases run_ite e with ⟨z, e1⟩ | ⟨z, e1⟩
    ·exact ⟨.d .str (a ++ b), by rw [ha', hb', q3M (Nat.le_of_ble_eq_true z)]; simp [SV.enc, Ty.fv, fvv], by simp [SV.ok], e1⟩
    ·cases e1
   ·exact ⟨.d .bool (a.toList == b.toList), by rw [ha', hb', q1A]; simp [SV.enc, Ty.fv, fvv], by simp [SV.ok], e⟩
   ·exact ⟨.d .bool (!(a.toList == b.toList)), by rw [ha', hb', q3N]; simp [SV.enc, Ty.fv, fvv], by simp [SV.ok], e⟩
   ·exact qAC e
  split at e
  ·rename_i b hs;obtain ⟨h1, h2⟩ := qU6 ho hx hs;refine ⟨_, ?_, by simp [SV.ok], e⟩;unfold bH;rw [h2];simp [h1, SV.enc, Ty.fv, fvv]
  ·rename_i b hs;obtain ⟨h1, h2⟩ := qU6 ho hx hs;refine ⟨_, ?_, by simp [SV.ok], e⟩;unfold bH;rw [h2];simp [h1, SV.enc, Ty.fv, fvv]
  ·exact qAC e
def qUT (P : Program) (mk : Operand -> Op) (ty : TypeId) (x : SV) (K : SV -> Tree R) : Tree R := match qEA x, qLJ P 8 ty with
 | some a, some u => .bind (u.decPO (aT P mk (fvv a))) fun z => K (.d u z)
 | _, _ => .fail
theorem qPG {mk : Operand -> Op} {ty : TypeId} {x : SV} {K : SV -> Tree R} (e : (qUT P mk ty x K).run = some r) : ∃ v, aT P mk x.enc = some v.enc ∧ v.ok h ∧ (K v).run = some r ∧ ∃ a, qEA x = some a := by
 unfold qUT at e;split at e
 ·rename_i a u ha hu;obtain ⟨z, hz, e1⟩ := run_bind e;exact ⟨_, by rw [rE ha]; exact qN6 hz, by simp [SV.ok], e1, a, ha⟩
 ·cases e
def sun (P : Program) (op : UnOp) (t ty : TypeId) (x : SV) (K : SV -> Tree R) : Tree R := match op, asI x, asB x with
 | .neg, some (k, a), _ => K (.d (.int k) (k.wrap (0 - a)))
 | .not, _, some b => K (.d .bool (!b))
 | _, _, _ => qUT P (fun a => .unOp op t a) ty x K
omit [Yl] in
theorem q2E {k : IntKind} {x : Int} {t : TypeId} : aT P (fun a => .unOp .neg t a) (fvv (.int k x)) = some (fvv (.int k (k.wrap (0 - x)))) := rfl
theorem q5S {op : UnOp} {t ty : TypeId} {x : SV} {K : SV -> Tree R} (e : (sun P op t ty x K).run = some r) : ∃ v, aT P (fun a => .unOp op t a) x.enc = some v.enc ∧ v.ok h ∧ (K v).run = some r := by
 unfold sun at e;split at e
 ·rename_i k a ha;exact ⟨_, by rw [xK ha, q2E]; simp [SV.enc, Ty.fv, fvv], by simp [SV.ok], e⟩
 ·rename_i b hb;exact ⟨_, by rw [rH hb, q5E]; simp [SV.enc, Ty.fv, fvv], by simp [SV.ok], e⟩
 ·obtain ⟨v, h1, h2, h3, _⟩ := qPG (h := h) e;exact ⟨v, h1, h2, h3⟩
def nZ (env : List SV) (l : Array Operand) : List SV := l.toList.map (xE env)
theorem oD (env : List SV) (l : Array Operand) : l.toList.map (qK (qA env)) = qA (nZ env l) := by
 unfold nZ;rw [qZ (l.toList.map (xE env)), List.map_map];exact List.map_congr_left fun x _ => qJ env x
omit [Yl] in
theorem nY {env : List SV} (ho : okL h env) (l : Array Operand) : okL h (nZ env l) := y7.2 fun x hx => by
 obtain ⟨q, _, rfl⟩ := List.mem_map.1 hx;exact qCF ho _
def smm (lo : Bool) (x y : SV) (K : SV -> Tree R) : Tree R := match asI x, asI y with
 | some (k, a), some (k', b) => cond (decide (k = k')) (K (.d (.int k) (cond lo (cond (decide (b < a)) b a) (cond (decide (a < b)) b a)))) .fail
 | _, _ => .fail
omit [Yl] in
theorem dmin {x y : Operand} {ts : Array TypeId} {ty : TypeId} {k : IntKind} {a b : Int} {env : Env} (hx : env.val x = .int k a) (hy : env.val y = .int k b) :
 qSC (xU P (cop (.call ⟨.builtin .min, #[x, y], ts⟩) ty) env H00) = some (fvv (.int k (if b < a then b else a))) := by
 have h2 : xM env.val (cop (.call ⟨.builtin .min, #[x, y], ts⟩) ty).op.operands.toList = [env.val x, env.val y] := rfl;unfold xU;rw [h2];simp only [cop, execOp, resolve, List.map_toArray, List.map_cons, List.map_nil, hx, hy];rfl
omit [Yl] in
theorem dmax {x y : Operand} {ts : Array TypeId} {ty : TypeId} {k : IntKind} {a b : Int} {env : Env} (hx : env.val x = .int k a) (hy : env.val y = .int k b) :
 qSC (xU P (cop (.call ⟨.builtin .max, #[x, y], ts⟩) ty) env H00) = some (fvv (.int k (if a < b then b else a))) := by
 have h2 : xM env.val (cop (.call ⟨.builtin .max, #[x, y], ts⟩) ty).op.operands.toList = [env.val x, env.val y] := rfl;unfold xU;rw [h2];simp only [cop, execOp, resolve, List.map_toArray, List.map_cons, List.map_nil, hx, hy];rfl
omit [Yl] in
theorem qU4 {p : Prop} [Decidable p] {α : Type} {x y : α} : cond (decide p) x y = if p then x else y := by
 by_cases h : p <;> simp [h]
theorem qZ2 {lo : Bool} {c : Call} {x y : SV} {env : List SV} {ty : TypeId} {K : SV -> Tree R} (hl : nZ env c.args = [x, y]) (hc : c.callee = .builtin (cond lo .min .max)) (e : (smm lo x y K).run = some r) :
 ∃ v, vR P (cond lo .min .max) c [x.enc, y.enc] (qA env) ty (qD h.l) = some (v.enc, qD h.l) ∧ v.ok h ∧ (K v).run = some r := by
 unfold smm at e;split at e
 ·rename_i k a k' b ha hb
  cases hk : decide (k = k') with
  | false => rw [hk] at e; cases e
  | true =>
    rw [hk] at e;have : k = k' := by simpa using hk
    subst this;have e1 := xK ha;have e2 := xK hb;refine ⟨_, ?_, by simp [SV.ok], e⟩;obtain ⟨cal, args, ts⟩ := c;simp only at hc hl;subst hc;unfold nZ at hl
    have hal : ∃ p q, args = #[p, q] ∧ xE env p = x ∧ xE env q = y := by
     obtain ⟨l⟩ := args
     match l, hl with
     | [p, q], hl => simp at hl; exact ⟨p, q, rfl, hl.1, hl.2⟩
    obtain ⟨p, q, rfl, hp, hq⟩ := hal;have vp : (qQ3 (qA env)).val p = .int k a := dD P (by rw [qJ, hp, e1]; rfl);have vq : (qQ3 (qA env)).val q = .int k b := dD P (by rw [qJ, hq, e2]; rfl);unfold vR;rw [e1, e2];have hpl : plL [fvv (.int k a), fvv (.int k b)] = some [.int k a, .int k b] := rfl;rw [hpl]
    cases lo with
    | true =>
      simp only [cond_true];rw [dmin vp vq, qU4];simp [pp1, SV.enc, Ty.fv, fvv]
    | false =>
      simp only [cond_false];rw [dmax vp vq, qU4];simp [pp1, SV.enc, Ty.fv, fvv]
 ·cases e
def q00 (P : Program) (ts : Array TypeId) (x : SV) (h : SH) : Option SV := match rV P x.enc (qD h.l) with
 | some _ => none
 | none => q7P P ts x h
theorem qYX {ts : Array TypeId} {x v : SV} (ho : OkH P h) (hx : x.ok h) (e : q00 P ts x h = some v) : qDA P ts x.enc (qD h.l) = some v.enc ∧ v.ok h := by
 unfold q00 at e;split at e
 ·cases e
 ·rename_i hn;unfold qDA;rw [hn];exact q2T ho hx e
theorem qP6 {t : TypeId} {s : ByteArray} {lo hi : Option Operand} {env : List SV} {K : SV -> Tree R} (e : (qV7 P t s (lo.map (xE env)) (hi.map (xE env)) K).run = some r) :
 ∃ v, qL8 P (.slice t (.const (.string s)) (lo.map fun a => .const ((pl (qK (qA env) a)).getD undef)) (hi.map fun a => .const ((pl (qK (qA env) a)).getD undef)) none) = some v.enc ∧ v.ok h ∧ (K v).run = some r ∧ (plL ((lo.toList ++ hi.toList).map (qK (qA env)))).isSome = true := by
 obtain ⟨c, e1⟩ := qF e;obtain ⟨b, hb, _, e2⟩ := gG e1;obtain ⟨a, ha, _, e3⟩ := gG e2;have m : ∀ o : Option Operand, (o.map (xE env)).map SV.enc = o.map (qK (qA env)) := fun o => by cases o <;> simp [qJ]
 rw [m] at hb ha;refine ⟨.d .str (s.extract a b), by rw [qYC (rM c) hb ha]; simp [SV.enc, Ty.fv, fvv], by simp [SV.ok], e3, ?_⟩
 have one : ∀ {o : Option Operand} {d most n : Nat}, bnd d most (o.map (qK (qA env))) = some n -> o = none ∨ ∃ a k i, o = some a ∧ qK (qA env) a = fvv (.int k i) := fun {o d most n} h => by
  rcases qVH h with ⟨q, _⟩ | ⟨k, i, q, _⟩
  ·cases o with
   | none => exact .inl rfl
   | some a => cases q
  ·cases o with
   | none => cases q
   | some a => exact .inr ⟨a, k, i, rfl, by simpa using q⟩
 rcases one hb with rfl | ⟨x, k, i, rfl, hx⟩ <;> rcases one ha with rfl | ⟨y, k', i', rfl, hy⟩ <;> simp_all [plL, fvv, pl]
theorem qQL {t : TypeId} {s : ByteArray} {ix : SV} {K : SV -> Tree R} (e : (qL5 P t s ix K).run = some r) :
 ∃ v k i, ix.enc = fvv (.int k i) ∧ qL8 P (.index t (.const (.string s)) (.const (.int k i))) = some v.enc ∧ v.ok h ∧ (K v).run = some r := by
 unfold qL5 at e;split at e
 ·rename_i k i hi;obtain ⟨c, e1⟩ := qF e;obtain ⟨b, hb, e2⟩ := run_bind e1;exact ⟨.d (.int .u8) b, k, i, xK hi, by rw [qZM (rM c) hb]; simp [SV.enc, Ty.fv, fvv], by simp [SV.ok], e2⟩
 ·cases e
theorem qYR {s d : TypeId} {x : SV} {K : SV -> Tree R} {F : Tree R} (e : (qWV P s d x K F).run = some r) : (∃ v, aT P (fun a => .convert s d a) x.enc = some v.enc ∧ v.ok h ∧ (K v).run = some r) ∨ F.run = some r := by
 unfold qWV at e;split at e
 ·rename_i u k' hs hd;split at e
  ·rename_i k a ha;exact .inl ⟨_, by rw [xK ha, q14 hs hd]; simp [SV.enc, Ty.fv, fvv], by simp [SV.ok], e⟩
  ·exact .inr e
 ·rename_i u hs hd;split at e
  ·rename_i a ha;exact .inl ⟨_, by rw [gD ha, qX6 hs hd]; simp [SV.enc, Ty.fv, fvv], by simp [SV.ok], e⟩
  ·exact .inr e
 ·exact .inr e
def qHS (env : List SV) (parts : Array (Nat × Operand)) : List (Nat × SV) := parts.toList.map fun p => (p.1, xE env p.2)
theorem qEQ (env : List SV) (parts : Array (Nat × Operand)) : (parts.toList.map fun p => (p.1, qK (qA env) p.2)) = q3T (qHS env parts) := by
 simp [qHS, q3T, qJ]
omit [Yl] in
theorem qIE {env : List SV} (ho : okL h env) (parts : Array (Nat × Operand)) : ∀ p ∈ qHS env parts, p.2.ok h := fun p hp => by
 obtain ⟨q, _, rfl⟩ := List.mem_map.1 hp;exact qCF ho _
def qSG : Operand -> Operand -> Bool
 | .tmp i, .tmp j => Nat.beq i j
 | .const (.int k a), .const (.int k' b) => decide (k = k') && decide (a = b)
 | _, _ => false
omit [Yl] in
theorem qSZ {a b : Operand} (e : qSG a b = true) : a = b := by
 unfold qSG at e;split at e
 ·rw [Nat.eq_of_beq_eq_true e]
 ·rw [Bool.and_eq_true] at e;have h1 := of_decide_eq_true e.1;have h2 := of_decide_eq_true e.2;rw [h1, h2]
 ·cases e
def gv (o : Option SV) (h : SH) (K : SV -> SH -> Tree R) : Tree R := match o with
 | some v => K v h
 | none => .fail
def sop (P : Program) (o : Oper) (env : List SV) (k : Nat) (h : SH) (K : SV -> SH -> Tree R) : Tree R := match o.op with
 | .move x => K (xE env x) h
 | .assign x => K (xE env x) h
 | .pick c a b => (match asB (xE env c) with
   | some t => .ite t (K (xE env a) h) (K (xE env b) h)
   | none => .fail)
 | .alloc el => qUJ P el k h K
 | .box el x => q8E P el (xE env x) k h K
 | .build t parts => gv (qSJ P t (qHS env parts)) h K
 | .buildSlice t len parts => mU P t len (qHS env parts) k h K
 | .load t a => q3H P t (xE env a) h fun v => K v h
 | .store t a x => qUF P t (xE env a) (xE env x) h K
 | .nilCheck x => gv (qCS (xE env x) h) h K
 | .binOp op t x y t2 => q70 P op t t2 o.type (xE env x) (xE env y) h fun v => K v h
 | .unOp op t x => sun P op t o.type (xE env x) fun v => K v h
 | .convert s d x => cond (qQB (xE env x).enc) .fail (qWV P s d (xE env x) (fun v => K v h) (qUT P (fun a => .convert s d a) o.type (xE env x) fun v => K v h))
 | .makeFunc fn first cap => gv (qA4 fn (nZ env first) (nZ env cap)) h K
 | .makeSlice t l c => cond (qSG l c) (q0W P t (xE env l) k h K) .fail
 | .slice t x lo hi none => (match asS (xE env x) with
   | some s => qV7 P t s (lo.map (xE env)) (hi.map (xE env)) fun v => K v h
   | none => qRX P t (xE env x) (lo.map (xE env)) (hi.map (xE env)) h fun v => K v h)
 | .fieldAddr t x i => gv (rO P t (xE env x) i h) h K
 | .field t x i => gv (qUR P t (xE env x) i) h K
 | .indexAddr t x ix => o9 P t (xE env x) (xE env ix) h fun v => K v h
 | .index t x ix => (match asS (xE env x) with
   | some s => qL5 P t s (xE env ix) fun v => K v h
   | none => qSB P t (xE env x) (xE env ix) fun v => K v h)
 | .extract t i => gv (qF5 (xE env t) i) h K
 | .makeMap _ none => qNQ P k h K
 | .lookup t m kx ok => qLT P t (xE env m) (xE env kx) ok h fun v => K v h
 | .mapUpdate t m kx x => dQ P t (xE env m) (xE env kx) (xE env x) h K
 | .insert t m kx x => dQ P t (xE env m) (xE env kx) (xE env x) h K
 | .mapEntry t m kx => qBT P t (xE env m) (xE env kx) h K
 | .entryStore _ m st x => mO P (xE env m) (xE env st) (xE env x) h K
 | .range t x => qUB P t (xE env x) k h K
 | .next it true => q29 P (xE env it) h K
 | .call c => (match c.callee, nZ env c.args with
   | .builtin .append, [x, y] => qK7 P c.argTypes.toList x y k h K
   | .builtin .copy, [x, y] => q2Q P c.argTypes.toList x y h K
   | .builtin .len, [x] => cond (qWN P c.argTypes) (match asS x with
     | some s => K (.d (.int .i64) (s.size : Int)) h
     | none => .fail) (match q1N P c.argTypes x h with
     | some v => K v h
     | none => gv (q00 P c.argTypes x h) h K)
   | .builtin .min, [x, y] => smm true x y fun v => K v h
   | .builtin .max, [x, y] => smm false x y fun v => K v h
   | _, _ => .fail)
 | _ => .fail
omit [Yl] in
theorem qKW {o : Option SV} {K : SV -> SH -> Tree R} (e : (gv o h K).run = some r) : ∃ v, o = some v ∧ (K v h).run = some r := by
 unfold gv at e;split at e
 ·exact ⟨_, rfl, e⟩
 ·cases e
theorem qZU {o : Oper} {env : List SV} {k : Nat} {K : SV -> SH -> Tree R} (ho : OkH P h) (he : okL h env) (e : (sop P o env k h K).run = some r) :
 ∃ v h', qG9 P o (qA env) k (qD h.l) = some (v.enc, qD h'.l) ∧ Post P h h' v ∧ (K v h').run = some r := by
 have same : ∀ {v : SV}, v.ok h -> Post P h h v := fun hv => ⟨.refl _, ho, hv⟩
 have sv := fun x => qCF (h := h) he x
 unfold sop at e;unfold qG9;split at e
 ·rename_i x ho';exact ⟨_, _, by simp only [ho', qJ], same (sv x), e⟩
 ·rename_i x ho';exact ⟨_, _, by simp only [ho', qJ], same (sv x), e⟩
 ·rename_i c a b ho';split at e
  ·rename_i t ht;have h1 := rH ht
   rcases run_ite e with ⟨z, e1⟩ | ⟨z, e1⟩
   ·exact ⟨_, _, by simp only [ho', qJ, h1, fvv, z, cond_true], same (sv a), e1⟩
   ·exact ⟨_, _, by simp only [ho', qJ, h1, fvv, z, cond_false], same (sv b), e1⟩
  ·cases e
 ·rename_i el ho';rw [ho'];exact qRT ho e
 ·rename_i el x ho';rw [ho'];simp only [qJ];exact q0V ho (sv x) e
 ·rename_i t parts ho';rw [ho'];obtain ⟨v, h1, h2⟩ := qKW e;have h3 := qVA (qIE he parts) h1;exact ⟨v, h, by simp only [qEQ, h3.1, pp1], same h3.2, h2⟩
 ·rename_i t len parts ho';rw [ho'];simp only [qEQ];exact qC0 ho (qIE he parts) e
 ·rename_i t a ho';rw [ho'];obtain ⟨v, h1, h2, h3⟩ := qXM ho (sv a) e;exact ⟨v, h, by simp only [qJ, h1, pp1], same h2, h3⟩
 ·rename_i t a x ho';rw [ho'];obtain ⟨h', h1, h2, h3, h4⟩ := qV4 ho (sv a) (sv x) e;exact ⟨_, h', by simp only [qJ, h1, ppS]; simp [SV.enc, qA], ⟨h2, h3, by simp [SV.ok, okL]⟩, h4⟩
 ·rename_i x ho';rw [ho'];obtain ⟨v, h1, h2⟩ := qKW e;have h3 := qHZ (sv x) h1;exact ⟨v, h, by simp only [qJ, h3.1, pp1], same h3.2, h2⟩
 ·rename_i op t x y t2 ho';rw [ho'];obtain ⟨v, h1, h2, h3⟩ := q27 ho (sv x) e;exact ⟨v, h, by simp only [qJ, h1, pp1], same h2, h3⟩
 ·rename_i op t x ho';rw [ho'];obtain ⟨v, h1, h2, h3⟩ := q5S (h := h) e;exact ⟨v, h, by simp only [qJ, h1, pp1], same h2, h3⟩
 ·rename_i s d x ho';rw [ho']
  cases hp : qQB (xE env x).enc with
  | true => rw [hp] at e; cases e
  | false =>
    rw [hp] at e;have e1 : (qWV P s d (xE env x) (fun v => K v h) (qUT P (fun a => .convert s d a) o.type (xE env x) fun v => K v h)).run = some r := e;rcases qYR (h := h) e1 with ⟨v, h1, h2, h3⟩ | e1
    ·exact ⟨v, h, by simp only [qJ, hp, cond_false, h1, pp1], same h2, h3⟩
    ·obtain ⟨v, h1, h2, h3, _⟩ := qPG (h := h) e1;exact ⟨v, h, by simp only [qJ, hp, cond_false, h1, pp1], same h2, h3⟩
 ·rename_i fn first cap ho'
  rw [ho'];obtain ⟨v, h1, h2⟩ := qKW e;have h3 := qH6 (nY he first) (nY he cap) h1;exact ⟨v, h, by simp only [oD, h3.1, pp1], same h3.2, h2⟩
 ·rename_i t l c ho';rw [ho'];obtain ⟨h1, h2⟩ := qF e;have := qSZ h1;subst this;simp only [qJ];exact qYQ ho h2
 ·rename_i t x lo hi ho';rw [ho'];split at e
  ·rename_i s hs;obtain ⟨v, h1, h2, h3, h4⟩ := qP6 (h := h) e;obtain ⟨vs, hvs⟩ := Option.isSome_iff_exists.1 h4;refine ⟨v, h, ?_, same h2, h3⟩;have hx : qK (qA env) x = .f (.v (.string s)) := by rw [qJ]; exact gD hs
   simp only [hx, hvs, h1, pp1]
  obtain ⟨v, h1, h2, h3⟩ := qUI ho (sv x) e;refine ⟨v, h, ?_, same h2, h3⟩;have m : ∀ o : Option Operand, o.map (qK (qA env)) = (o.map (xE env)).map SV.enc := fun o => by cases o <;> simp [qJ]
  simp only [qJ, m]
  have ns : ∀ s, (xE env x).enc ≠ .f (.v (.string s)) := fun s hs => by
   rw [hs] at h1;simp only [uG] at h1;cases h1
  split
  ·rename_i s hs; exact absurd hs (ns s)
  ·rw [h1]; rfl
 ·rename_i t x i ho';rw [ho'];obtain ⟨v, h1, h2⟩ := qKW e;have h3 := qFD (sv x) h1;exact ⟨v, h, by simp only [qJ, h3.1, pp1], same h3.2, h2⟩
 ·rename_i t x i ho';rw [ho'];obtain ⟨v, h1, h2⟩ := qKW e;have h3 := qWD (sv x) h1;exact ⟨v, h, by simp only [qJ, h3.1, pp1], same h3.2, h2⟩
 ·rename_i t x ix ho';rw [ho'];obtain ⟨v, h1, h2, h3⟩ := qF6 ho (sv x) e;exact ⟨v, h, by simp only [qJ, h1, pp1], same h2, h3⟩
 ·rename_i t x ix ho';rw [ho'];split at e
  ·rename_i s hs;obtain ⟨v, k', i, h0, h1, h2, h3⟩ := qQL (h := h) e;refine ⟨v, h, ?_, same h2, h3⟩;have hx := gD hs;have hpl : pl (fvv (.int k' i)) = some (.int k' i) := rfl;simp only [qJ, hx, h0, hpl];simp only [fvv, h1, pp1]
  obtain ⟨v, h1, h2, h3, l, hl⟩ := qR7 (sv x) e;refine ⟨v, h, ?_, same h2, h3⟩;simp only [qJ];rw [hl] at h1 ⊢;simp only [SV.enc] at h1 ⊢;rw [h1];rfl
 ·rename_i t i ho';rw [ho'];obtain ⟨v, h1, h2⟩ := qKW e;have h3 := qLZ (sv t) h1;exact ⟨v, h, by simp only [qJ, h3.1, pp1], same h3.2, h2⟩
 ·rename_i ho';rw [ho'];exact qLV ho e
 ·rename_i t m kx ok ho';rw [ho'];obtain ⟨v, h1, h2, h3⟩ := qQI e;exact ⟨v, h, by simp only [qJ, h1, pp1], same h2, h3⟩
 ·rename_i t m kx x ho';rw [ho'];obtain ⟨h', h1, h2, h3, h4⟩ := oZ ho e;exact ⟨_, h', by simp only [qJ, h1, ppS]; simp [SV.enc, qA], ⟨h2, h3, by simp [SV.ok, okL]⟩, h4⟩
 ·rename_i t m kx x ho';rw [ho'];obtain ⟨h', h1, h2, h3, h4⟩ := oZ ho e;exact ⟨_, h', by simp only [qJ, h1, ppS]; simp [SV.enc, qA], ⟨h2, h3, by simp [SV.ok, okL]⟩, h4⟩
 ·rename_i t m kx ho';rw [ho'];simp only [qJ];exact qKG ho e
 ·rename_i t m st x ho';rw [ho'];obtain ⟨h', h1, h2, h3, h4⟩ := qDF ho e;exact ⟨_, h', by simp only [qJ, h1, ppS]; simp [SV.enc, qA], ⟨h2, h3, by simp [SV.ok, okL]⟩, h4⟩
 ·rename_i t x ho';rw [ho'];simp only [qJ];exact qRG ho e
 ·rename_i it ho';rw [ho'];simp only [qJ];exact qXZ ho e
 ·rename_i c ho';rw [ho'];have ha := oD env c.args;have hao := nY he c.args;split at e
  ·rename_i x y hc hl;rw [hl] at ha hao;simp only [okL] at hao;simp only [hc, ha, qA, uZ];exact qQW ho hao.1 hao.2.1 e
  ·rename_i x y hc hl;rw [hl] at ha hao;simp only [okL] at hao;simp only [hc, ha, qA, uZ];exact qX2 ho hao.1 hao.2.1 e
  ·rename_i x hc hl;rw [hl] at ha hao;simp only [okL] at hao
   cases hst : qWN P c.argTypes with
   | true =>
     rw [hst] at e;simp only [cond_true] at e;split at e
     ·rename_i s hs;refine ⟨_, h, ?_, same (by simp [SV.ok]), e⟩;obtain ⟨cal, args, ts⟩ := c;simp only at hc hl hst;subst hc
      obtain ⟨p, rfl, hp⟩ : ∃ p, args = #[p] ∧ xE env p = x := by
       unfold nZ at hl;obtain ⟨l⟩ := args
       match l, hl with
       | [p], hl => simp at hl; exact ⟨p, rfl, hl⟩
      have vp : (qQ3 (qA env)).val p = .string s := dD P (by rw [qJ, hp, gD hs]; rfl);simp only [uZ, ha, qA, hst, cond_true];unfold vR;have hpl : plL [x.enc] = some [.string s] := by rw [gD hs]; rfl
      rw [hpl];simp only;rw [qN7 hst vp];simp [pp1, SV.enc, Ty.fv, fvv]
     ·cases e
   | false =>
     rw [hst] at e;simp only [cond_false] at e;split at e
     ·rename_i v hv;have h3 := qXI hv;refine ⟨v, h, ?_, same h3.2, e⟩;simp only [hc, ha, qA, uZ, hst, cond_false, h3.1, pp1]
     obtain ⟨v, h1, h2⟩ := qKW e;have h3 := qYX ho hao.1 h1;refine ⟨v, h, ?_, same h3.2, h2⟩;simp only [hc, ha, qA, uZ, hst, cond_false, h3.1, pp1]
  ·rename_i x y hc hl;rw [hl] at ha;obtain ⟨v, h1, h2, h3⟩ := qZ2 (h := h) (lo := true) (ty := o.type) hl hc e;exact ⟨v, h, by simp only [hc, ha, qA, uZ]; exact h1, same h2, h3⟩
  ·rename_i x y hc hl;rw [hl] at ha;obtain ⟨v, h1, h2, h3⟩ := qZ2 (h := h) (lo := false) (ty := o.type) hl hc e;exact ⟨v, h, by simp only [hc, ha, qA, uZ]; exact h1, same h2, h3⟩
  ·cases e
 ·cases e
end
end Go.Sv
namespace Go.Sv
open Go.Idl
noncomputable section
variable [Gc]
variable [Yl]
variable {P : Program} {h : SH} {R : Type} {r : R} {tab : bJ}
omit [Yl] in
theorem qE9 : ∀ (cs : List FV) (ph : PHp) (n : Nat), qKO (fz1 P n) (cs.map .f) ph = some (cs, ph)
 | [], ph, n => rfl
 | c :: cs, ph, n => by
   have e : fz1 P n ph (.f c) = some (c, ph) := by cases n <;> rfl
   show (match fz1 P n ph (.f c) with
    | some (y, ph1) => (match qKO (fz1 P n) (cs.map .f) ph1 with
      | some (ys, ph2) => some (y :: ys, ph2)
      | none => none)
    | none => none) = _
   rw [e];simp only [qE9 cs ph n]
theorem q3A {k n o m : Nat} {el : TypeId} {gr : Bool} {g w : Nat} {t : Ty} {xs : List t.sem} (ho : OkH P h) (hk : slk k h.l = some (.list el gr g w t xs)) (hn : n = xs.length) (hom : o + m <= n) :
 fz1 P 4 (qD h.l) (.own k n o m) = some (.l el m (((xs.drop o).take m).flatMap t.cells), qD (h.del k).l) := by
 have hl := ho.list _ _ _ _ _ _ _ hk;simp only [fz1, xZ hk];rw [show (SO.list el gr g w t xs).enc.el = el from rfl, hl.2.1];simp only [qV, hn, qBD, cond_true];rw [show (SO.list el gr g w t xs).enc.cs = (xs.flatMap t.cells).map .f from rfl, <- List.map_drop, <- List.map_take, gV, gX, qE9];show some _ = some (_, qD (sdl k h.l));rw [dG]
def q6B (el : TypeId) (t : Ty) (k g : Nat) (f : List t.sem -> List t.sem) (h : SH) : Option (List t.sem × SH) := match slk k h.l with
 | some (.list el' _ g' _ u xs) => cond (Nat.beq el' el && Nat.beq g g') (match qGL u t xs with
   | some xs => some (f xs, h.del k)
   | none => none) none
 | _ => none
def q77 (P : Program) (ty el : TypeId) (t : Ty) (h : SH) : Option (List t.sem × SH) := match yS P ty with
 | some el' => cond (Nat.beq el' el) (some ([], h)) none
 | none => none
def qW6 (P : Program) (ty : TypeId) : (t : Ty) -> SV -> SH -> Option (t.sem × SH)
 | .list el t, .own k g _, h => q6B el t k g (fun xs => xs) h
 | .list el t, .sl k g _ o m, h => q6B el t k g (fun xs => (xs.drop o).take m) h
 | .list el t, .c (.slice none 0 0), h => q77 P ty el t h
 | t, v, h => match t.decS v with
   | some x => some (x, h)
   | none => none
omit [Yl] in
theorem qJ2 {ty : TypeId} : ∀ {t : Ty} {x : t.sem}, t.one = true -> rt0 P ty (.f (t.fv x)) = .f (t.fv x)
 | .int _, _, _ => rfl
 | .bool, _, _ => rfl
 | .str, _, _ => rfl
 | .raw, _, _ => rfl
 | .list _ _, _, _ => rfl
 | .unit, _, e => by cases e
 | .pair _ _, _, e => by cases e
theorem qSN {el ty : TypeId} {t : Ty} {k g n o m : Nat} {f : List t.sem -> List t.sem} {x : List t.sem} {h' : SH} (ho : OkH P h) (hs : qZW h k g n) (hom : o + m <= n) (hf : ∀ xs : List t.sem, xs.length = n -> f xs = (xs.drop o).take m) (e : q6B el t k g f h = some (x, h')) :
 fz1 P 4 (qD h.l) (.own k n o m) = some ((Ty.list el t).fv x, qD h'.l) ∧ Keep h h' ∧ OkH P h' := by
 unfold q6B at e;split at e
 ·rename_i el' gr g' w u xs hk
  cases hc : (Nat.beq el' el && Nat.beq g g') with
  | false => rw [hc] at e; cases e
  | true =>
    rw [hc] at e;rw [Bool.and_eq_true] at hc;have he : el' = el := Nat.eq_of_beq_eq_true hc.1;have hg : g = g' := Nat.eq_of_beq_eq_true hc.2;subst he hg;simp only [cond_true] at e;split at e
    ·rename_i ys hys;cases fU hys;cases e;have hn := hs.2 _ _ _ _ _ hk;have hd := mK (k := k) ho;refine ⟨?_, hd.1, hd.2⟩;rw [q3A ho hk hn hom, hf _ hn.symm];show some (FV.l el' m _, _) = some (FV.l el' _ _, _);rw [List.length_take, List.length_drop, Nat.min_eq_left (by omega)]
    ·cases e
 ·cases e
theorem qNB {ty : TypeId} {t : Ty} {v : SV} {x : t.sem} {h' : SH} (ho : OkH P h) (hv : v.ok h) (e : qW6 P ty t v h = some (x, h')) :
 ∃ y, fz1 P 4 (qD h.l) v.enc = some (y, qD h'.l) ∧ rt0 P ty (.f y) = .f (t.fv x) ∧ t.one = true ∧ Keep h h' ∧ OkH P h' := by
 unfold qW6 at e;split at e
 ·rename_i el t k g n;simp only [SV.ok] at hv;obtain ⟨h1, h2, h3⟩ := qSN (ty := ty) (n := n) (o := 0) (m := n) ho hv (by omega) (fun xs hl => by rw [List.drop_zero, <- hl, List.take_length]) e;exact ⟨_, by simp only [SV.enc]; exact h1, qJ2 rfl, rfl, h2, h3⟩
 ·rename_i el t k g n o m;simp only [SV.ok] at hv;obtain ⟨h1, h2, h3⟩ := qSN (ty := ty) (n := n) (o := o) (m := m) ho hv.1 hv.2 (fun xs hl => rfl) e;exact ⟨_, by simp only [SV.enc]; exact h1, qJ2 rfl, rfl, h2, h3⟩
 ·rename_i el t;unfold q77 at e;split at e
  ·rename_i el' hel
   cases hc : Nat.beq el' el with
   | false => rw [hc] at e; cases e
   | true =>
     rw [hc] at e;cases e;have he : el' = el := Nat.eq_of_beq_eq_true hc;subst he;refine ⟨.v (.slice none 0 0), by simp only [SV.enc, fvv, fz1], ?_, rfl, .refl _, ho⟩
     show (match yS P ty with
      | some el => PV.f (.l el 0 [])
      | none => fvv (.slice none 0 0)) = _
     rw [hel];rfl
  ·cases e
 ·split at e
  ·rename_i y hy;cases e;obtain ⟨h1, h2⟩ := qGT hy;exact ⟨_, by rw [h1]; rfl, qJ2 h2, h2, .refl _, ho⟩
  ·cases e
def qL6 (P : Program) (t : Ty) (tys : List TypeId) (l : List SV) (h : SH) : Option (t.sem × List TypeId × List SV × SH) := match tys, l with
 | ty :: tys, v :: l => (match qW6 P ty t v h with
   | some (x, h') => some (x, tys, l, h')
   | none => none)
 | _, _ => none
def Ty.decC (P : Program) : (t : Ty) -> List TypeId -> List SV -> SH -> Option (t.sem × List TypeId × List SV × SH)
 | .unit, tys, l, h => some ((), tys, l, h)
 | .pair a b, tys, l, h => match a.decC P tys l h with
   | some (x, tys1, l1, h1) => (match b.decC P tys1 l1 h1 with
     | some (y, tys2, l2, h2) => some ((x, y), tys2, l2, h2)
     | none => none)
   | none => none
 | .int k, tys, l, h => qL6 P (.int k) tys l h
 | .bool, tys, l, h => qL6 P .bool tys l h
 | .str, tys, l, h => qL6 P .str tys l h
 | .raw, tys, l, h => qL6 P .raw tys l h
 | .list el t, tys, l, h => qL6 P (.list el t) tys l h
def q8O (P : Program) (t : Ty) (tys : List TypeId) (l : List SV) (h : SH) (x : t.sem) (tys' : List TypeId) (l' : List SV) (h' : SH) : Prop :=
 okL h' l' ∧ Keep h h' ∧ OkH P h' ∧ ∃ ys : List FV, (∀ zs p, qKO (fz1 P 4) (qA l') (qD h'.l) = some (zs, p) -> qKO (fz1 P 4) (qA l) (qD h.l) = some (ys ++ zs, p)) ∧
  ∀ zs : List PV, rtL (rt0 P) tys (ys.map .f ++ zs) = (t.cells x).map .f ++ rtL (rt0 P) tys' zs
theorem nK {t : Ty} {tys tys' : List TypeId} {l l' : List SV} {x : t.sem} {h' : SH} (ho : OkH P h) (hl : okL h l) (e : qL6 P t tys l h = some (x, tys', l', h')) : q8O P t tys l h x tys' l' h' := by
 unfold qL6 at e;split at e
 ·rename_i ty tys v l;split at e
  ·rename_i y h1 hd;cases e;simp only [okL] at hl;obtain ⟨y, a1, a2, a3, a4, a5⟩ := qNB ho hl.1 hd;refine ⟨qN a4 hl.2, a4, a5, [y], fun zs p hz => ?_, fun zs => ?_⟩
   ·simp only [qA, qKO, a1, hz]; rfl
   ·show rt0 P ty (.f y) :: rtL (rt0 P) _ zs = _;rw [a2, Ty.cells_one a3]; rfl
  ·cases e
 ·cases e
theorem qEZ : ∀ {t : Ty} {tys tys' : List TypeId} {l l' : List SV} {h : SH} {x : t.sem} {h' : SH}, OkH P h -> okL h l -> t.decC P tys l h = some (x, tys', l', h') -> q8O P t tys l h x tys' l' h'
 | .unit, tys, tys', l, l', h, x, h', ho, hl, e => by
   cases e;exact ⟨hl, .refl _, ho, [], fun zs p hz => hz, fun zs => rfl⟩
 | .int k, tys, tys', l, l', h, x, h', ho, hl, e => nK ho hl e
 | .bool, tys, tys', l, l', h, x, h', ho, hl, e => nK ho hl e
 | .str, tys, tys', l, l', h, x, h', ho, hl, e => nK ho hl e
 | .raw, tys, tys', l, l', h, x, h', ho, hl, e => nK ho hl e
 | .list el t, tys, tys', l, l', h, x, h', ho, hl, e => nK ho hl e
 | .pair a b, tys, tys', l, l', h, x, h', ho, hl, e => by
   unfold Ty.decC at e;split at e
   ·rename_i x1 tys1 l1 h1 hd1;split at e
    ·rename_i y tys2 l2 h2 hd2;cases e;obtain ⟨a1, a2, a3, ys, a4, a5⟩ := qEZ ho hl hd1;obtain ⟨b1, b2, b3, zs, b4, b5⟩ := qEZ a3 a1 hd2;refine ⟨b1, a2.trans b2, b3, ys ++ zs, fun us p hu => ?_, fun us => ?_⟩
     ·rw [List.append_assoc];exact a4 _ _ (b4 _ _ hu)
     ·rw [List.map_append, List.append_assoc, a5, b5];show _ = (a.cells x1 ++ b.cells y).map PV.f ++ _;rw [List.map_append, List.append_assoc]
    ·cases e
   ·cases e
def q33 (P : Program) (ty : TypeId) (t : Ty) (v : SV) (h : SH) : Option (t.sem × SH) := cond t.one (match v with
 | .agg _ => none
 | v => qW6 P ty t v h) (match v with
 | .agg l => (match t.decC P (sI P 8 ty) l h with
   | some (x, _, [], h') => some (x, h')
   | _ => none)
 | _ => none)
theorem qFG {ty : TypeId} {t : Ty} {v : SV} {x : t.sem} {h' : SH} (ho : OkH P h) (hv : v.ok h) (e : q33 P ty t v h = some (x, h')) :
 ∃ y, fzP P (qD h.l) v.enc = some (y, qD h'.l) ∧ rt1 P ty y = t.pv x ∧ Keep h h' ∧ OkH P h' := by
 unfold q33 at e
 cases ht : t.one with
 | true =>
   rw [ht] at e;simp only [cond_true] at e;split at e
   ·cases e
   ·rename_i hna;obtain ⟨y, h1, h2, h3, h4, h5⟩ := qNB ho hv e;refine ⟨.f y, ?_, ?_, h4, h5⟩
    ·cases v with
     | agg l => exact absurd rfl (hna l)
     | opt b k o w => cases b <;> (simp only [SV.enc, fvv, fzP, cond_true, cond_false] at h1 ⊢; rw [h1])
     | _ => simp only [SV.enc, fvv, fzP] at h1 ⊢; rw [h1]
    ·show rt0 P ty (.f y) = _;rw [h2];unfold Ty.pv;rw [ht]; rfl
 | false =>
   rw [ht] at e;simp only [cond_false] at e;split at e
   ·rename_i l;split at e
    ·rename_i x1 tys1 h1 hd;cases e;simp only [SV.ok] at hv;obtain ⟨a1, a2, a3, ys, a4, a5⟩ := qEZ ho hv hd;refine ⟨.agg (ys.map .f), ?_, ?_, a2, a3⟩
     ·have := a4 [] (qD h'.l) (by simp [qA, qKO]);simp only [SV.enc, fzP, this, List.append_nil]
     ·show PV.agg (rtL (rt0 P) (sI P 8 ty) (ys.map .f)) = _;have := a5 [];rw [List.append_nil] at this;rw [this];unfold Ty.pv;rw [ht];cases tys1 <;> simp [rtL]
    ·cases e
   ·cases e
def vP (P : Program) : List TypeId -> (ts : List Ty) -> List SV -> SH -> Option (TyL ts × SH)
 | _, [], [], h => some ((), h)
 | ty :: _, [t], [v], h => q33 P ty t v h
 | ty :: tys, t :: u :: ts, v :: vs, h => match q33 P ty t v h with
   | some (x, h1) => (match vP P tys (u :: ts) vs h1 with
     | some (y, h2) => some ((x, y), h2)
     | none => none)
   | none => none
 | _, _, _, _ => none
theorem dF : ∀ {tys : List TypeId} {ts : List Ty} {vs : List SV} {h : SH} {x : TyL ts} {h' : SH}, OkH P h -> okL h vs -> vP P tys ts vs h = some (x, h') ->
 ∃ ys, fzA P (qA vs) (qD h.l) = some (ys, qD h'.l) ∧ rtL (rt1 P) tys ys = pvL ts x ∧ Keep h h' ∧ OkH P h'
 | tys, [], [], h, x, h', ho, hv, e => by
   unfold vP at e;cases e;refine ⟨[], rfl, ?_, .refl _, ho⟩;cases tys <;> rfl
 | ty :: tys, [t], [v], h, x, h', ho, hv, e => by
   unfold vP at e;simp only [okL] at hv;obtain ⟨y, h1, h2, h3, h4⟩ := qFG ho hv.1 e;refine ⟨[y], ?_, ?_, h3, h4⟩
   ·simp only [qA, fzA, h1]
   ·show rt1 P ty y :: rtL (rt1 P) tys [] = [t.pv x];rw [h2];cases tys <;> rfl
 | ty :: tys, t :: u :: ts, v :: vs, h, x, h', ho, hv, e => by
   unfold vP at e;simp only [okL] at hv;split at e
   ·rename_i x1 h1 hd;split at e
    ·rename_i y1 h2 hd2;cases e;obtain ⟨y, a1, a2, a3, a4⟩ := qFG ho hv.1 hd;obtain ⟨ys, b1, b2, b3, b4⟩ := dF a4 (qN a3 hv.2) hd2;refine ⟨y :: ys, ?_, ?_, a3.trans b3, b4⟩
     ·simp only [qA, fzA, a1, b1]
     ·show rt1 P ty y :: rtL (rt1 P) tys ys = t.pv x1 :: pvL (u :: ts) y1;rw [a2, b2]
    ·cases e
   ·cases e
 | [], [_], [_], _, _, _, _, _, e => by unfold vP at e; cases e
 | [], _ :: _ :: _, _ :: _, _, _, _, _, _, e => by unfold vP at e; cases e
 | tys, [], _ :: _, _, _, _, _, _, e => by cases tys <;> (unfold vP at e; cases e)
 | tys, _ :: ts, [], _, _, _, _, _, e => by cases tys <;> cases ts <;> (unfold vP at e; cases e)
 | tys, [_], _ :: _ :: _, _, _, _, _, _, e => by cases tys <;> (unfold vP at e; cases e)
def Ty.sv (t : Ty) (x : t.sem) : SV := cond t.one (.d t x) (.agg (t.svs x))
theorem r9 (t : Ty) (x : t.sem) : (t.sv x).enc = t.pv x := by
 unfold Ty.sv Ty.pv;cases t.one <;> simp [SV.enc, pX]
omit [Yl] in
theorem qKY (t : Ty) (x : t.sem) : (t.sv x).ok h := by
 unfold Ty.sv;cases t.one
 ·simp only [cond_false, SV.ok]; exact qHI t x
 ·simp [SV.ok]
def svL : (ts : List Ty) -> TyL ts -> List SV
 | [], _ => []
 | [t], x => [t.sv x]
 | t :: u :: ts, x => t.sv x.1 :: svL (u :: ts) x.2
theorem qBY : ∀ (ts : List Ty) (x : TyL ts), qA (svL ts x) = pvL ts x
 | [], _ => by simp [svL, pvL, qA]
 | [t], x => by simp [svL, pvL, qA, r9]
 | t :: u :: ts, x => by
   show qA (t.sv x.1 :: svL (u :: ts) x.2) = t.pv x.1 :: pvL (u :: ts) x.2;simp only [qA, r9, qBY (u :: ts)]
omit [Yl] in
theorem qCW : ∀ (ts : List Ty) (x : TyL ts), okL h (svL ts x)
 | [], _ => by simp [svL, okL]
 | [t], x => by simp [svL, okL, qKY]
 | t :: u :: ts, x => by
   show okL h (t.sv x.1 :: svL (u :: ts) x.2);simp only [okL];exact ⟨qKY t x.1, qCW (u :: ts) x.2⟩
def qIB (ts : List Ty) (x : TyL ts) : SV := match svL ts x with
 | [v] => v
 | vs => .tup vs
theorem qH0 (ts : List Ty) (x : TyL ts) : (qIB ts x).enc = wE ts x := by
 unfold qIB wE;rw [<- qBY]
 match svL ts x with
 | [] => simp [qA, qC2, SV.enc]
 | [v] => simp [qA, qC2]
 | a :: b :: l => simp [qA, qC2, SV.enc]
omit [Yl] in
theorem qO9 (ts : List Ty) (x : TyL ts) : (qIB ts x).ok h := by
 unfold qIB;have := qCW (h := h) ts x;split
 ·rename_i v hv;rw [hv] at this;simp only [okL] at this;exact this.1
 ·simp only [SV.ok]; exact this
def qWL (tab : bJ) (T : kR) : Prop := ∀ g ent, slT g T = some ent -> ∀ x, tab g (pvL ent.as x) = (ent.F x).map (wE ent.rs)
def qPY (P : Program) (T : kR) (d : Bool) (g : FuncId) (as : List SV) (h : SH) (K : SV -> SH -> Tree R) : Tree R := match slT g T, P.funcs[g]? with
 | some ent, some fn => (match vP P fn.params.toList ent.as as h with
   | some (x, h1) => .bind (ent.F x) fun y => cond d (cond (wL (wE ent.rs y) || (qA as).all qRE) (K (qIB ent.rs y) h) .fail) (K (qIB ent.rs y) (cond (wL (wE ent.rs y)) h h1))
   | none => .fail)
 | _, _ => .fail
theorem qXG {T : kR} (ht : qWL tab T) {g : FuncId} {as : List SV} {K : SV -> SH -> Tree R} (ho : OkH P h) (ha : okL h as) (e : (qPY P T false g as h K).run = some r) :
 ∃ v h', aJ P tab g (qA as) (qD h.l) = .ok v.enc (qD h'.l) ∧ Post P h h' v ∧ (K v h').run = some r := by
 unfold qPY at e;split at e
 ·rename_i ent fn hent hfn;split at e
  ·rename_i x h1 hx;obtain ⟨y, hy, e1⟩ := run_bind e;obtain ⟨ys, a1, a2, a3, a4⟩ := dF ho ha hx;have e2 : (K (qIB ent.rs y) (cond (wL (wE ent.rs y)) h h1)).run = some r := e1;refine ⟨_, _, ?_, ⟨?_, ?_, qO9 _ _⟩, e2⟩
   ·unfold aJ;rw [a1];simp only;rw [show rtA P g ys = pvL ent.as x by unfold rtA; rw [hfn]; exact a2, ht g ent hent x, hy];simp only [Option.map_some, qH0];cases wL (wE ent.rs y) <;> rfl
   ·cases wL (wE ent.rs y)
    ·exact a3
    ·exact .refl _
   ·cases wL (wE ent.rs y)
    ·exact a4
    ·exact ho
  ·cases e
 ·cases e
theorem qUG {T : kR} (ht : qWL tab T) {g : FuncId} {as : List SV} {K : SV -> SH -> Tree R} (ho : OkH P h) (ha : okL h as) (e : (qPY P T true g as h K).run = some r) :
 ∃ v h', qAU P tab g (qA as) (qD h.l) = .ok v.enc (qD h'.l) ∧ Post P h h' v ∧ (K v h').run = some r := by
 unfold qPY at e;split at e
 ·rename_i ent fn hent hfn;split at e
  ·rename_i x h1 hx;obtain ⟨y, hy, e1⟩ := run_bind e;obtain ⟨ys, a1, a2, a3, a4⟩ := dF ho ha hx;obtain ⟨c, e2⟩ := qF (show (cond (wL (wE ent.rs y) || (qA as).all qRE) (K (qIB ent.rs y) h) .fail : Tree R).run = some r from e1);refine ⟨_, _, ?_, ⟨.refl _, ho, qO9 _ _⟩, e2⟩;unfold qAU;rw [a1];simp only;rw [show rtA P g ys = pvL ent.as x by unfold rtA; rw [hfn]; exact a2, ht g ent hent x, hy];simp only [Option.map_some, qH0, c, cond_true]
  ·cases e
 ·cases e
def qFM (fv : SV) (args : List SV) : Option (FuncId × List SV) := match fv with
 | .c (.func (.func g) a c) => cond (a.toList.isEmpty && c.toList.isEmpty) (some (g, args)) none
 | .fn g first cap => some (g, first ++ (args ++ cap))
 | _ => none
theorem qD1 {fv : SV} {args as : List SV} {g : FuncId} (hf : fv.ok h) (ha : okL h args) (e : qFM fv args = some (g, as)) : target fv.enc (qA args) = some (g, qA as) ∧ okL h as := by
 unfold qFM at e;split at e
 ·rename_i g' a c
  cases hc : (a.toList.isEmpty && c.toList.isEmpty) with
  | false => rw [hc] at e; cases e
  | true =>
    rw [hc] at e;cases e;exact ⟨by simp only [target, SV.enc, fvv, hc, cond_true], ha⟩
 ·rename_i g' first cap
  cases e;simp only [SV.ok] at hf;exact ⟨by simp only [target, SV.enc, qAE], mG hf.1 (mG ha hf.2)⟩
 ·cases e
def q0M (P : Program) (T : kR) (d : Bool) (f : SV) (args : List SV) (h : SH) (K : SV -> SH -> Tree R) : Tree R := match qFM f args with
 | some (g, as) => qPY P T d g as h K
 | none => .fail
def q1H (P : Program) (T : kR) (d : Bool) (k : Nat) (o : Oper) (env : List SV) (h : SH) (K : SV -> SH -> Tree R) : Tree R := match o.op with
 | .call ⟨.value f, args, _⟩ => q0M P T d (xE env f) (nZ env args) h K
 | _ => sop P o env k h K
def q3S (P : Program) (G : Nat -> Bool) (CI : CIT) : Prop := ∀ {R : Type} (nm : Nm) (f : FuncId) (as : List SV) (h : SH) (K : SV -> SH -> Tree R) (r : R), OkH P h -> okL h as -> (CI R nm f as h K).run = some r ->
 qFA P G nm f (qA as) (qD h.l) fun v p => ∃ v' h', v = v'.enc ∧ p = qD h'.l ∧ Post P h h' v' ∧ (K v' h').run = some r
def qM6 (p : Nat -> Bool) (env : List SV) : List (Nat × SO) -> Bool
 | [] => true
 | (k, _) :: l => (!p k || yU k (qA env)) && qM6 p env l
theorem qIL {p : Nat -> Bool} {env : List SV} : ∀ {l : List (Nat × SO)}, qM6 p env l = true -> clean p (qA env) (qD l) = true
 | [], _ => rfl
 | (k, o) :: l, h => by
   have h : ((!p k || yU k (qA env)) && qM6 p env l) = true := h;show ((!p k || yU k (qA env)) && clean p (qA env) (qD l)) = true;rw [Bool.and_eq_true] at h ⊢;exact ⟨h.1, qIL h.2⟩
section
variable {Γ : Type}
def qZ8 (P : Program) (T : kR) (CI : CIT) (Y : YI Γ) (nm : Nm) (f : SV) (args : List SV) (g : Γ) (env : List SV) (h : SH) (K : Γ -> SV -> SH -> Tree R) : Tree R := match f with
 | .yv => (match vP P Y.yt Y.ys args h with
   | some (y, h1) => .bind (Y.stp g y) fun p => K p.1 (.d .bool p.2) h1
   | none => .fail)
 | f => (match qFM f args with
   | some (t, as) => cond (slT t T).isSome (qPY P T false t as h (K g)) (CI R (qRP nm t) t as h fun v h2 => cond (qM6 (qRP nm t).p env h2.l) (K g v h2) .fail)
   | none => .fail)
def q0H (P : Program) (T : kR) (CI : CIT) (Y : YI Γ) (nm : Nm) (o : Oper) (g : Γ) (env : List SV) (h : SH) (K : Γ -> SV -> SH -> Tree R) : Tree R := match o.op with
 | .call ⟨.value f, args, _⟩ => qZ8 P T CI Y nm (xE env f) (nZ env args) g env h K
 | _ => sop P o env (zH nm o.dst) h (K g)
def YOk (P : Program) (G : Nat -> Bool) (w : Wld Γ) (Y : YI Γ) : Prop := ∀ g y g' b, Y.stp g y = some (g', b) -> qI6 P G w Yl.l g (pvL Y.ys y) g' b
end
theorem qSW {T : kR} (ht : qWL tab T) {k : Nat} {o : Oper} {env : List SV} {K : SV -> SH -> Tree R} (ho : OkH P h) (he : okL h env) (e : (q1H P T true k o env h K).run = some r) :
 ∃ v h', yE P tab k o (qA env) (qD h.l) = .ok v.enc (qD h'.l) ∧ Post P h h' v ∧ (K v h').run = some r := by
 unfold q1H at e;unfold yE;split at e
 ·rename_i f args ts hop;unfold q0M at e;split at e
  ·rename_i g as hst;obtain ⟨h1, h2⟩ := qD1 (qCF he f) (nY he args) hst;obtain ⟨v, h', a1, a2, a3⟩ := qUG ht ho h2 e;refine ⟨v, h', ?_, a2, a3⟩;simp only [hop, qJ, oD, h1];exact a1
  ·cases e
 ·rename_i hne;obtain ⟨v, h', a1, a2, a3⟩ := qZU ho he e;refine ⟨v, h', ?_, a2, a3⟩;split
  ·rename_i f args ts hop; exact absurd hop (hne f args ts)
  ·rw [a1]; rfl
end
end Go.Sv
namespace Go.Sv
open Go.Idl
noncomputable section
variable [Gc]
variable [Yl]
variable {P : Program} {R : Type} {r : R} {tab : bJ} {G : Nat -> Bool} {nm : Nm}
omit [Yl] in
theorem holds_mono {Q Q' : List PV -> PHp -> Prop} (hq : ∀ e p, Q e p -> Q' e p) : ∀ {t : PT}, t.holds P G Q -> t.holds P G Q'
 | .fail, h => h.elim
 | .ret e p, h => hq e p h
 | .chk c t, h => ⟨h.1, holds_mono hq h.2⟩
 | .call nm g args ph k, h => by
   obtain ⟨R, h1, h2⟩ := h;exact ⟨R, h1, fun v p hr => holds_mono hq (h2 v p hr)⟩
 | .rnd _ _ _ _, h => h.elim
omit [Yl] in
theorem qZ1 (k : Nat) : ∀ (cs : List FV), yU k (cs.map .f) = true
 | [] => by simp [yU]
 | c :: cs => by simp [yU, noK, qZ1 k cs]
def qX9 (k : Nat) : List (Nat × SO) -> Bool
 | [] => true
 | (_, .cells _ _ l) :: r => yU k (qA l) && qX9 k r
 | (_, .list _ _ _ _ _ _) :: r => qX9 k r
 | (_, .spc _ _) :: r => qX9 k r
theorem mV {k : Nat} : ∀ {l : List (Nat × SO)}, qX9 k l = true -> o8 k (qD l) = true
 | [], _ => rfl
 | (j, .cells el w l) :: r, h => by
   simp only [qX9, Bool.and_eq_true] at h;show (yU k (qA l) && o8 k (qD r)) = true;rw [h.1, mV h.2]; rfl
 | (j, .list el gr g w t xs) :: r, h => by
   simp only [qX9] at h;show (yU k ((xs.flatMap t.cells).map .f) && o8 k (qD r)) = true;rw [qZ1, mV h]; rfl
 | (j, .spc w x) :: r, h => by
   simp only [qX9] at h;show (yU k x.enc.cs && o8 k (qD r)) = true
   have : yU k x.enc.cs = true := by
    cases x with
    | map es => exact gT k _ _
    | iter s pos => rfl
   rw [this, mV h]; rfl
def qCJ (env : List SV) (d : Option Tmp) (v : SV) : List SV := match d with
 | some t => xO env t v
 | none => env
theorem wI (env : List SV) (t : Nat) (v : SV) : qA (xO env t v) = xO (qA env) t v.enc := by
 rw [z8, z8, qZ, qZ, List.map_set]
theorem nM (env : List SV) (d : Option Tmp) (v : SV) : qA (qCJ env d v) = yQ (qA env) d v.enc := by
 cases d with
 | none => rfl
 | some t => exact wI env t v
omit [Yl] in
theorem wT {h : SH} {env : List SV} {t : Nat} {v : SV} (he : okL h env) (hv : v.ok h) : okL h (xO env t v) := by
 rw [z8]
 exact y7.2 fun x hx => by
  rcases List.mem_or_eq_of_mem_set hx with q | q
  ·exact y7.1 he x q
  ·rw [q]; exact hv
omit [Yl] in
theorem qAD {h : SH} {env : List SV} {d : Option Tmp} {v : SV} (he : okL h env) (hv : v.ok h) : okL h (qCJ env d v) := by
 cases d with
 | none => exact he
 | some t => exact wT he hv
omit [Yl] in
theorem fQ (env : List SV) (t : Nat) (v : SV) : (xO env t v).length = env.length := by rw [z8, List.length_set]
omit [Yl] in
theorem qXN (env : List SV) (d : Option Tmp) (v : SV) : (qCJ env d v).length = env.length := by
 cases d with
 | none => rfl
 | some t => exact fQ env t v
theorem qPM {env : List SV} {t : Nat} {v w : SV} (h1 : zN env t = some v) (h2 : w.enc = v.enc) : qA (xO env t w) = qA env := by
 rw [wI, z8];rw [qH] at h1;apply List.ext_getElem?;intro i;rw [List.getElem?_set];by_cases e : t = i
 ·subst e;rw [if_pos rfl, qZ, List.getElem?_map, h1, List.length_map, if_pos (List.getElem?_eq_some_iff.1 h1).1, h2];rfl
 ·rw [if_neg e]
def zK (b w : Bool) : Bool := cond w b (!b)
omit [Yl] in
theorem qOW (b w : Bool) : zK b w = (b == w) := by cases b <;> cases w <;> rfl
def qGE (ds : List (Option Tmp)) (o : Oper) (env : List SV) (Y N : List SV -> Tree R) : Tree R := match o.guard with
 | none => Y env
 | some (j, w) => (match qAX ds j with
   | none => N env
   | some t => (match zN env t with
     | none => .fail
     | some v => (match asB v with
       | some b => .ite (zK b w) (Y (xO env t (.c (.bool w)))) (N (xO env t (.c (.bool (!w)))))
       | none => (match v with
         | .tup [] => N env
         | _ => .fail))))
theorem qDH {ds : List (Option Tmp)} {o : Oper} {env : List SV} {Y N : List SV -> Tree R} {h : SH} (he : okL h env) (e : (qGE ds o env Y N).run = some r) :
 ∃ env', qA env' = qA env ∧ okL h env' ∧ env'.length = env.length ∧ ((eB ds o (qA env) = some true ∧ (Y env').run = some r) ∨ (eB ds o (qA env) = some false ∧ (N env').run = some r)) := by
 unfold qGE at e;unfold eB;split at e
 ·rename_i hg;exact ⟨env, rfl, he, rfl, .inl ⟨by rw [hg], e⟩⟩
 ·rename_i j w hg;rw [hg];simp only;split at e
  ·rename_i hd;exact ⟨env, rfl, he, rfl, .inr ⟨by rw [hd]; rfl, e⟩⟩
  ·rename_i t hd;rw [hd];simp only [qLQ, xL];split at e
   ·cases e
   ·rename_i v hv;rw [hv];split at e
    ·rename_i b hb;have hbe := rH hb
     rcases run_ite e with ⟨z, e1⟩ | ⟨z, e1⟩
     ·rw [qOW] at z;have : b = w := by simpa using z
      subst this;refine ⟨_, qPM hv (by rw [hbe]; simp [SV.enc]), wT he (by simp [SV.ok]), fQ _ _ _, .inl ⟨?_, e1⟩⟩;simp only [Option.map_some, hbe, qBE, z]
     ·rw [qOW] at z
      have : b = !w := by cases b <;> cases w <;> first | rfl | cases z
      refine ⟨_, qPM hv (by rw [hbe, this]; simp [SV.enc]), wT he (by simp [SV.ok]), fQ _ _ _, .inr ⟨?_, e1⟩⟩;simp only [Option.map_some, hbe, qBE, z]
    ·split at e
     ·exact ⟨env, rfl, he, rfl, .inr ⟨by simp only [Option.map_some, SV.enc, qA]; exact qQ0, e⟩⟩
     ·cases e
def qDN (nm : Nm) (k : Nat) (env : List SV) (h : SH) : Bool := inP nm k && (yU k (qA env) && qX9 k h.l)
section
variable {Γ : Type}
def qWO (P : Program) (T : kR) (CI : CIT) (Y : YI Γ) (nm : Nm) (ds : List (Option Tmp)) : List Oper -> Γ -> List SV -> SH -> (Γ -> List SV -> SH -> Tree R) -> Tree R
 | [], g, env, h, K => K g env h
 | o :: l, g, env, h, K => qGE ds o env
    (fun env => cond (cond (needs o.op) (qDN nm (zH nm o.dst) env h) true) (q0H P T CI Y nm o g env h fun g v h' => qWO P T CI Y nm ds l g (qCJ env o.dst v) h' K) .fail)
    (fun env => qWO P T CI Y nm ds l g (qCJ env o.dst (.tup [])) h K)
end
def Ends (P : Program) (w : List (Option Tmp)) (env : List SV) (h : SH) (env' : List SV) (h' : SH) : Prop :=
 okL h' env' ∧ OkH P h' ∧ Keep h h' ∧ (∀ i, some i ∉ w -> zN (qA env') i = zN (qA env) i) ∧ env'.length = env.length
theorem q2C {env : List SV} {d : Option Tmp} {v : SV} {i : Nat} (h : d ≠ some i) : zN (qA (qCJ env d v)) i = zN (qA env) i := by
 cases d with
 | none => rfl
 | some t =>
   show zN (qA (xO env t v)) i = _;rw [wI, z8, qH, qH, List.getElem?_set, if_neg (fun e => h (by rw [e]))]
theorem Ends.step {o : Oper} {w : List (Option Tmp)} {env env0 : List SV} {h h1 : SH} {v : SV} {env' : List SV} {h' : SH} (he : qA env = qA env0) (hl : env.length = env0.length) (hk : Keep h h1) (x : Ends P w (qCJ env o.dst v) h1 env' h') : Ends P (o.dst :: w) env0 h env' h' :=
 ⟨x.1, x.2.1, hk.trans x.2.2.1, fun i hi => by
   rw [List.mem_cons, not_or] at hi
   rw [x.2.2.2.1 i hi.2, q2C (fun e => hi.1 e.symm), he], by rw [x.2.2.2.2, qXN, hl]⟩
omit [Yl] in
theorem kC {Γ : Type} {w : Wld Γ} {Q Q' : Γ -> List PV -> PHp -> Prop} (hq : ∀ g e p, Q g e p -> Q' g e p) : ∀ {t : PT} {g : Γ}, t.holdsY P G w Q g -> t.holdsY P G w Q' g
 | .fail, _, h => h.elim
 | .ret e p, g, h => hq g e p h
 | .chk c t, g, h => ⟨h.1, kC hq h.2⟩
 | .call nm f args ph k, g, h => by
   obtain ⟨R, h1, h2⟩ := h;exact ⟨R, h1, fun v p hr => kC hq (h2 v p hr)⟩
 | .rnd l args ph k, g, h => by
   obtain ⟨fargs, tys, ph1, g', b, h1, h2, h3⟩ := h;exact ⟨fargs, tys, ph1, g', b, h1, h2, kC hq h3⟩
def qWU (T : kR) (f : FuncId) : Bool := !(slT f T).isSome
theorem qFO {Γ : Type} {w : Wld Γ} {T : kR} {CI : CIT} {Y : YI Γ} (ht : qWL tab T) (hci : q3S P G CI) (hy : YOk P G w Y) {ds : List (Option Tmp)} : ∀ {l : List Oper} {g : Γ} {env : List SV} {h : SH} {K : Γ -> List SV -> SH -> Tree R}, OkH P h -> okL h env -> (qWO P T CI Y nm ds l g env h K).run = some r ->
 (pops P tab (qWU T) nm ds l (qA env) (qD h.l)).holdsY P G w (fun g e p => ∃ env' h', e = qA env' ∧ p = qD h'.l ∧ Ends P (l.map (·.dst)) env h env' h' ∧ (K g env' h').run = some r) g
 | [], g, env, h, K, ho, he, e => ⟨env, h, rfl, rfl, ⟨he, ho, .refl _, fun _ _ => rfl, rfl⟩, e⟩
 | o :: l, g, env, h, K, ho, he, e => by
   unfold qWO at e;obtain ⟨env1, q1, q2, q3, q4⟩ := qDH he e;rw [qTP]
   rcases q4 with ⟨hw, e1⟩ | ⟨hw, e1⟩
   ·rw [hw, qZH];obtain ⟨c, e2⟩ := qF e1
    have next : ∀ {g' : Γ} {v : SV} {h' : SH}, Post P h h' v -> (qWO P T CI Y nm ds l g' (qCJ env1 o.dst v) h' K).run = some r -> (pops P tab (qWU T) nm ds l (yQ (qA env) o.dst v.enc) (qD h'.l)).holdsY P G w (fun g e p => ∃ env' h', e = qA env' ∧ p = qD h'.l ∧ Ends P ((o :: l).map (·.dst)) env h env' h' ∧ (K g env' h').run = some r) g' := fun {g' v h'} a2 a3 => by
     have ih := qFO ht hci hy a2.2.1 (qAD (d := o.dst) (qN a2.1 q2) a2.2.2) a3;rw [nM, q1] at ih;exact kC (fun g e p ⟨env', h', b1, b2, b3, b4⟩ => ⟨env', h', b1, b2, Ends.step q1 q3 a2.1 b3, b4⟩) ih
    have chk : ∀ {g' : Γ} {v : SV} {h' : SH}, Post P h h' v -> (qWO P T CI Y nm ds l g' (qCJ env1 o.dst v) h' K).run = some r -> (q2I (needs o.op) (zH nm o.dst) nm (qA env) (qD h.l) (pops P tab (qWU T) nm ds l (yQ (qA env) o.dst v.enc) (qD h'.l))).holdsY P G w (fun g e p => ∃ env' h', e = qA env' ∧ p = qD h'.l ∧ Ends P ((o :: l).map (·.dst)) env h env' h' ∧ (K g env' h').run = some r) g' := fun {g' v h'} a2 a3 => by
     unfold q2I
     cases hn : needs o.op with
     | false => exact next a2 a3
     | true =>
       rw [hn] at c;simp only [cond_true] at c ⊢;refine ⟨?_, next a2 a3⟩;unfold qDN at c;rw [q1] at c;simp only [Bool.and_eq_true] at c;unfold fresh;rw [c.1, c.2.1, mV c.2.2]; rfl
    unfold q0H at e2;split at e2
    ·rename_i f args ts hop
     have hpe : aR P tab (qWU T) (zH nm o.dst) o (qA env) (qD h.l) = nQ P tab (qWU T) (xE env1 f).enc (qA (nZ env1 args)) (qD h.l) := by
      unfold aR;rw [<- q1];simp only [hop, qJ, oD]
     rw [hpe];have hfv := qCF q2 f;have has := nY q2 args
     revert e2 hfv
     generalize xE env1 f = fv;intro e2 hfv;unfold qZ8 at e2;split at e2
     ·split at e2
      ·rename_i y h1 hd;obtain ⟨p, hp, e3⟩ := run_bind e2;obtain ⟨g', b⟩ := p;obtain ⟨ys, a1, a2, a3, a4⟩ := dF ho has hd
       have : nQ P tab (qWU T) (SV.enc .yv) (qA (nZ env1 args)) (qD h.l) = .rnd Yl.l (qA (nZ env1 args)) (qD h.l) := by
        simp only [SV.enc, nQ]
       rw [this, qV9];refine ⟨ys, Y.yt, qD h1.l, g', b, a1, ?_, ?_⟩
       ·rw [a2]; exact hy _ _ _ _ hp
       ·have := next (v := .d .bool b) ⟨a3, a4, by simp [SV.ok]⟩ e3;simpa [SV.enc, Ty.fv, fvv] using this
      ·cases e2
     ·split at e2
      ·rename_i t as hst;obtain ⟨h1, h2⟩ := qD1 hfv has hst;rw [qIV h1];unfold mD qWU
       cases hsl : (slT t T).isSome with
       | true =>
         rw [hsl] at e2;simp only [cond_true] at e2;obtain ⟨v, h', a1, a2, a3⟩ := qXG ht ho h2 e2;simp only [Bool.not_true, cond_false];rw [a1, qNY];exact chk a2 a3
       | false =>
         rw [hsl] at e2;simp only [cond_false] at e2;simp only [Bool.not_false, cond_true];rw [qPV];refine ⟨_, hci _ _ _ _ _ _ ho h2 e2, ?_⟩;rintro v p ⟨v', h', rfl, rfl, a2, a3⟩;obtain ⟨c2, a4⟩ := qF a3;have := qIL c2;rw [q1] at this;exact ⟨this, next a2 a4⟩
      ·cases e2
    ·rename_i hne;obtain ⟨v, h', a1, a2, a3⟩ := qZU ho q2 e2;rw [q1] at a1
     have hpe : aR P tab (qWU T) (zH nm o.dst) o (qA env) (qD h.l) = .ok v.enc (qD h'.l) := by
      unfold aR;split
      ·rename_i f args ts hop; exact absurd hop (hne f args ts)
      ·rw [a1]; rfl
     rw [hpe, qNY];exact chk a2 a3
   ·rw [hw, qVL];have ih := qFO ht hci hy ho (qAD (d := o.dst) (v := .tup []) q2 (by simp [SV.ok, okL])) e1;rw [nM, q1] at ih;simp only [SV.enc, qA] at ih;exact kC (fun g e p ⟨env', h', b1, b2, b3, b4⟩ => ⟨env', h', b1, b2, Ends.step q1 q3 (.refl _) b3, b4⟩) ih
def qV5 (P : Program) (T : kR) (nm : Nm) (ds : List (Option Tmp)) (b : Array Nat) (env0 : List SV) : Nat -> List Oper -> List SV -> SH -> List (Nat × List Nat) -> List (Nat × List Nat) -> List (Nat × Nat) -> List (Nat × PV) -> (List SV -> SH -> Tree R) -> Tree R
 | i, [], env, h, E, F, N, V, K => cond (mQ b (qA env0) E F N V) (K env h) .fail
 | i, o :: l, env, h, E, F, N, V, K => qGE ds o env
    (fun env => cond (cond (needs o.op) (inP nm (zH nm o.dst) && qX9 (zH nm o.dst) h.l) true) (q1H P T true (zH nm o.dst) o env h fun v h' =>
      qV5 P T nm ds b env0 (i + 1) l (qCJ env o.dst v) h' (cond (zA o) ((i, wlT nm o (qA env)) :: E) E) (cond (zA o) F ((i, dlT o (qA env)) :: F)) (cond (needs o.op) ((i, zH nm o.dst) :: N) N) ((i, v.enc) :: V) K) .fail)
    (fun env => qV5 P T nm ds b env0 (i + 1) l (qCJ env o.dst (.tup [])) h E F N ((i, .tup []) :: V) K)
theorem qFW {T : kR} (ht : qWL tab T) {ds : List (Option Tmp)} {b : Array Nat} {env0 : List SV} : ∀ {l : List Oper} {i : Nat} {env : List SV} {h : SH} {E F : List (Nat × List Nat)} {N : List (Nat × Nat)} {V : List (Nat × PV)} {K : List SV -> SH -> Tree R}, OkH P h -> okL h env -> (qV5 P T nm ds b env0 i l env h E F N V K).run = some r ->
 (qHU P tab nm ds b (qA env0) i l (qA env) (qD h.l) E F N V).holds P G fun e p => ∃ env' h', e = qA env' ∧ p = qD h'.l ∧ Ends P (l.map (·.dst)) env h env' h' ∧ (K env' h').run = some r
 | [], i, env, h, E, F, N, V, K, ho, he, e => by
   unfold qV5 at e;obtain ⟨c, e1⟩ := qF e;rw [qY6];exact ⟨c, env, h, rfl, rfl, ⟨he, ho, .refl _, fun _ _ => rfl, rfl⟩, e1⟩
 | o :: l, i, env, h, E, F, N, V, K, ho, he, e => by
   unfold qV5 at e;obtain ⟨env1, q1, q2, q3, q4⟩ := qDH he e;rw [qRV]
   rcases q4 with ⟨hw, e1⟩ | ⟨hw, e1⟩
   ·rw [hw, qTX];obtain ⟨c, e2⟩ := qF e1;obtain ⟨v, h', a1, a2, a3⟩ := qSW ht ho q2 e2;rw [q1] at a1;rw [a1, qRI];have ih := qFW ht a2.2.1 (qAD (d := o.dst) (qN a2.1 q2) a2.2.2) a3;rw [nM, q1] at ih;have ih2 := holds_mono (Q' := fun e p => ∃ env' h', e = qA env' ∧ p = qD h'.l ∧ Ends P ((o :: l).map (·.dst)) env h env' h' ∧ (K env' h').run = some r) (fun e p ⟨env', h', b1, b2, b3, b4⟩ => ⟨env', h', b1, b2, Ends.step q1 q3 a2.1 b3, b4⟩) ih;unfold qR3
    cases hn : needs o.op with
    | false => rw [hn] at ih2; exact ih2
    | true =>
      rw [hn] at c ih2;simp only [cond_true] at c ⊢;refine ⟨?_, ih2⟩;rw [Bool.and_eq_true] at c;rw [c.1, mV c.2]; rfl
   ·rw [hw, qQM];have ih := qFW ht ho (qAD (d := o.dst) (v := .tup []) q2 (by simp [SV.ok, okL])) e1;rw [nM, q1] at ih;simp only [SV.enc, qA] at ih;exact holds_mono (fun e p ⟨env', h', b1, b2, b3, b4⟩ => ⟨env', h', b1, b2, Ends.step q1 q3 (.refl _) b3, b4⟩) ih
def qM5 (ops : Array Oper) : Bool := match ops[ops.size - 1]? with
 | some o => (match o.op with
   | .call ⟨.value _, _, _⟩ => (List.range (ops.size - 1)).all fun i => gJ (Region.before ops) i (ops.size - 1)
   | _ => false)
 | none => false
def q67 {Γ : Type} (P : Program) (G : Nat -> Bool) (T : kR) (CI : CIT) (Y : YI Γ) (nm : Nm) (ops : Array Oper) (d : Bool) (g : Γ) (env : List SV) (h : SH) (K : Γ -> List SV -> SH -> Tree R) : Tree R :=
 cond (kV G ops) (cond d (cond (wW ops && gY ops) (cond (qM5 ops)
  (qV5 P T nm (ops.toList.map (·.dst)) (Region.before ops) env 0 (ops.toList.take (ops.size - 1)) env h [] [] [] [] fun env h => qWO P T CI Y nm (ops.toList.map (·.dst)) (ops.toList.drop (ops.size - 1)) g env h K)
  (qV5 P T nm (ops.toList.map (·.dst)) (Region.before ops) env 0 ops.toList env h [] [] [] [] (K g))) .fail) (qWO P T CI Y nm (ops.toList.map (·.dst)) ops.toList g env h K)) .fail
variable {nat : yT} {good : FuncId -> Bool} {rd : Bool}
theorem q1Z {Γ : Type} {w : Wld Γ} {T : kR} {CI : CIT} {Y : YI Γ} (s : PSet P good nat G tab) (ht : qWL tab T) (hci : q3S P G CI) (hy : YOk P G w Y) {id : Nat} {ops : Array Oper} {d : Bool} {g : Γ} {env : List SV} {h : SH} {K : Γ -> List SV -> SH -> Tree R} (ho : OkH P h) (he : okL h env) (e : (q67 P G T CI Y nm ops d g env h K).run = some r) :
 zC P G rd nm w (.region id ops d) g (qA env) (qD h.l) fun x g' pe ph => x = .normal ∧ ∃ env' h', pe = qA env' ∧ ph = qD h'.l ∧ Ends P (ops.toList.map (·.dst)) env h env' h' ∧ (K g' env' h').run = some r := by
 unfold q67 at e;obtain ⟨c1, e1⟩ := qF e
 cases d with
 | true =>
   obtain ⟨c2, e2⟩ := qF (show (cond (wW ops && gY ops) (cond (qM5 ops)
    (qV5 P T nm (ops.toList.map (·.dst)) (Region.before ops) env 0 (ops.toList.take (ops.size - 1)) env h [] [] [] [] fun env h => qWO P T CI Y nm (ops.toList.map (·.dst)) (ops.toList.drop (ops.size - 1)) g env h K)
    (qV5 P T nm (ops.toList.map (·.dst)) (Region.before ops) env 0 ops.toList env h [] [] [] [] (K g))) .fail : Tree R).run = some r from e1)
   rw [Bool.and_eq_true] at c2
   cases hlo : qM5 ops with
   | false =>
     rw [hlo] at e2;have e2 : (qV5 P T nm (ops.toList.map (·.dst)) (Region.before ops) env 0 ops.toList env h [] [] [] [] (K g)).run = some r := e2;refine (zC.of (s.drwZ (Q := fun x pe ph => x = .normal ∧ ∃ env' h', pe = qA env' ∧ ph = qD h'.l ∧ Ends P (ops.toList.map (·.dst)) env h env' h' ∧ (K g env' h').run = some r) c1 c2.1 c2.2 rfl rfl ?_)).mono ?_
     ·exact holds_mono (fun e p hq => ⟨rfl, hq⟩) (qFW (G := G) ht ho he e2)
     ·rintro x g' pe ph ⟨rfl, hq⟩;exact hq
   | true =>
     rw [hlo] at e2;have e2 : (qV5 P T nm (ops.toList.map (·.dst)) (Region.before ops) env 0 (ops.toList.take (ops.size - 1)) env h [] [] [] [] fun env h => qWO P T CI Y nm (ops.toList.map (·.dst)) (ops.toList.drop (ops.size - 1)) g env h K).run = some r := e2;unfold qM5 at hlo;split at hlo
     ·rename_i o hop;split at hlo
      ·have hlt := (Array.getElem?_eq_some_iff.1 hop).1
       have hdrop : ops.toList.drop (ops.size - 1) = [o] := by
        have h1 : ops.toList[ops.size - 1]? = some o := by simpa using hop
        obtain ⟨h2, h3⟩ := List.getElem?_eq_some_iff.1 h1;rw [List.drop_eq_getElem_cons h2, h3, List.drop_eq_nil_of_le (by simp; omega)]
       have hmap : (ops.toList.take (ops.size - 1)).map (·.dst) ++ [o.dst] = ops.toList.map (·.dst) := by
        rw [show [o.dst] = [o].map (·.dst) from rfl, <- List.map_append, <- hdrop, List.take_append_drop]
       refine s.drwY (inl := qWU T) (n0 := ops.size - 1) c1 c2.1 c2.2 hop (by omega) (fun i hi => List.all_eq_true.1 hlo i (List.mem_range.2 hi)) ?_;refine holds_mono (fun e p hq => ?_) (qFW (G := G) ht ho he e2);obtain ⟨env1, h1, rfl, rfl, a3, a4⟩ := hq;rw [hdrop] at a4;refine kC (fun g2 e p hq => ?_) (qFO (G := G) ht hci hy a3.2.1 a3.1 a4);obtain ⟨env2, h2, rfl, rfl, b3, b4⟩ := hq;refine ⟨rfl, env2, h2, rfl, rfl, ⟨b3.1, b3.2.1, a3.2.2.1.trans b3.2.2.1, fun i hi => ?_, b3.2.2.2.2.trans a3.2.2.2.2⟩, b4⟩;rw [<- hmap, List.mem_append, not_or] at hi;exact (b3.2.2.2.1 i hi.2).trans (a3.2.2.2.1 i hi.1)
      ·cases hlo
     ·cases hlo
 | false => exact s.regY c1 (kC (fun g e p hq => ⟨rfl, hq⟩) (qFO (G := G) ht hci hy ho he e1))
end
end Go.Sv
