/- A symbolic run, part one. Conditions: none. -/
import Derived.Test.YtpdlblofcdcikaaGreatDoorPur19
set_option linter.all false
namespace Go.Sv
open Go.Idl
class Yl where
 l : Nat
variable [Gc]
variable {P : Program} {Z Z' : Nat -> Prop} {H : IH} {M : Nat -> Option (Nat × PO)}
inductive Ty where
 | int (k : IntKind)
 | bool
 | str
 | unit
 | list (el : TypeId) (t : Ty)
 | pair (a b : Ty)
 | raw deriving DecidableEq
@[reducible] def Ty.sem : Ty -> Type
  | .int _ => Int
  | .bool => Bool
  | .str => ByteArray
  | .unit => Unit
  | .list _ t => List t.sem
  | .pair a b => a.sem × b.sem
  | .raw => List (Value × Value)
def eP (l : List (Value × Value)) : List FV := List.flatMap (fun p => [.v p.1, .v p.2]) l
def Ty.cells : (t : Ty) -> t.sem -> List FV
 | .int k, x => [.v (.int k x)]
 | .bool, x => [.v (.bool x)]
 | .str, x => [.v (.string x)]
 | .unit, _ => []
 | .list el t, xs => [.l el (List.length xs) (List.flatMap t.cells xs)]
 | .pair a b, x => a.cells x.1 ++ b.cells x.2
 | .raw, xs => [.l 1000000001 (List.length xs) (eP xs)]
def Ty.w : Ty -> Nat
 | .int _ | .bool | .str | .list _ _ | .raw => 1
 | .unit => 0
 | .pair a b => a.w + b.w
def Ty.one : Ty -> Bool
 | .unit => false
 | .pair _ _ => false
 | _ => true
def Ty.fv : (t : Ty) -> t.sem -> FV
 | .int k, x => .v (.int k x)
 | .bool, x => .v (.bool x)
 | .str, x => .v (.string x)
 | .list el t, xs => .l el (List.length xs) (List.flatMap t.cells xs)
 | .raw, xs => .l 1000000001 (List.length xs) (eP xs)
 | _, _ => .v undef
theorem Ty.cells_one : ∀ {t : Ty} {x : t.sem}, t.one = true -> t.cells x = [t.fv x]
 | .int _, _, _ => rfl
 | .bool, _, _ => rfl
 | .str, _, _ => rfl
 | .list _ _, _, _ => rfl
 | .raw, _, _ => rfl
 | .unit, _, h => by cases h
 | .pair _ _, _, h => by cases h
theorem Ty.cells_len : ∀ (t : Ty) (x : t.sem), (t.cells x).length = t.w
 | .int _, _ => rfl
 | .bool, _ => rfl
 | .str, _ => rfl
 | .list _ _, _ => rfl
 | .raw, _ => rfl
 | .unit, _ => rfl
 | .pair a b, x => by
   show (a.cells x.1 ++ b.cells x.2).length = a.w + b.w;rw [List.length_append, a.cells_len, b.cells_len]
theorem xC {t : Ty} : ∀ (xs : List t.sem), (xs.flatMap t.cells).length = xs.length * t.w
 | [] => by simp
 | x :: xs => by rw [List.flatMap_cons, List.length_append, t.cells_len, xC xs, List.length_cons, Nat.succ_mul, Nat.add_comm]
theorem gV {t : Ty} : ∀ (xs : List t.sem) (j : Nat), (xs.flatMap t.cells).drop (j * t.w) = (xs.drop j).flatMap t.cells
 | xs, 0 => by simp
 | [], j + 1 => by simp
 | x :: xs, j + 1 => by
   rw [List.flatMap_cons, List.drop_succ_cons, <- gV xs j, Nat.succ_mul, Nat.add_comm, <- List.drop_drop]
   congr 1
   rw [List.drop_append_of_le_length (by rw [t.cells_len]; exact Nat.le_refl _), List.drop_of_length_le (by rw [t.cells_len]; exact Nat.le_refl _), List.nil_append]
theorem gP {t : Ty} : ∀ (xs : List t.sem) (j : Nat), (xs.flatMap t.cells).take (j * t.w) = (xs.take j).flatMap t.cells
 | xs, 0 => by simp
 | [], j + 1 => by simp
 | x :: xs, j + 1 => by
   rw [List.flatMap_cons, List.take_succ_cons, List.flatMap_cons, <- gP xs j, Nat.succ_mul, Nat.add_comm, List.take_append, t.cells_len, Nat.add_sub_cancel_left, List.take_of_length_le (by rw [t.cells_len]; omega)]
theorem qUG {t : Ty} {xs : List t.sem} {j : Nat} {x : t.sem} (h : xs[j]? = some x) : ((xs.flatMap t.cells).drop (j * t.w)).take t.w = t.cells x := by
 rw [gV]
 have hj := (List.getElem?_eq_some_iff.1 h)
 obtain ⟨hl, hx⟩ := hj;rw [List.drop_eq_getElem_cons hl, hx, List.flatMap_cons, List.take_append_of_le_length (by rw [t.cells_len]; exact Nat.le_refl _), List.take_of_length_le (by rw [t.cells_len]; exact Nat.le_refl _)]
theorem qI7 {t : Ty} {xs : List t.sem} {j : Nat} {x : t.sem} (h : xs[j]? = some x) {off n : Nat} (hn : off + n <= t.w) : ((xs.flatMap t.cells).drop (j * t.w + off)).take n = ((t.cells x).drop off).take n := by
 rw [<- qUG h, List.drop_take, List.drop_drop, List.take_take, Nat.min_eq_left (by omega)]
theorem flat_get {t : Ty} {xs : List t.sem} {j : Nat} {x : t.sem} (h : xs[j]? = some x) {off : Nat} (hn : off < t.w) : (xs.flatMap t.cells)[j * t.w + off]? = (t.cells x)[off]? := by
 rw [<- qUG h, List.getElem?_take, if_pos hn, List.getElem?_drop]
theorem qM1 {t : Ty} {xs : List t.sem} {j : Nat} {x : t.sem} (h : xs[j]? = some x) {off n : Nat} (hn : off + n <= t.w) : j * t.w + off + n <= (xs.flatMap t.cells).length := by
 have hl := (List.getElem?_eq_some_iff.1 h).1;rw [xC];have : (j + 1) * t.w <= xs.length * t.w := Nat.mul_le_mul_right _ hl;rw [Nat.succ_mul] at this;omega
theorem qKB : ∀ (xs ys : List (Value × Value)), eP xs = eP ys -> xs = ys
 | [], [], _ => rfl
 | [], y :: ys, h => by cases h
 | x :: xs, [], h => by cases h
 | x :: xs, y :: ys, h => by
   have h : FV.v x.1 :: FV.v x.2 :: eP xs = FV.v y.1 :: FV.v y.2 :: eP ys := h;injection h with h1 h2;injection h2 with h2 h3;injection h1 with h1;injection h2 with h2;rw [qKB xs ys h3, Prod.ext h1 h2]
theorem qB3 : ∀ (xs : List (Value × Value)), (eP xs).length = 2 * xs.length
 | [] => rfl
 | x :: xs => by
   show (eP xs).length + 2 = _;rw [qB3 xs, List.length_cons]; omega
theorem qPD : ∀ (xs ys : List (Value × Value)) (vs : List Value), FRL Z H (eP xs) vs -> FRL Z' H (eP ys) vs -> xs = ys
 | [], [], _, _, _ => rfl
 | [], y :: ys, vs, a, b => by have := a.len; have := b.len; simp [eP] at *; omega
 | x :: xs, [], vs, a, b => by have := a.len; have := b.len; simp [eP] at *; omega
 | x :: xs, y :: ys, vs, a, b => by
   have a : FRL Z H (FV.v x.1 :: FV.v x.2 :: eP xs) vs := a;have b : FRL Z' H (FV.v y.1 :: FV.v y.2 :: eP ys) vs := b;obtain ⟨v, vs', rfl, a1, a2⟩ := a.uncons;obtain ⟨v', vs2, e, b1, b2⟩ := b.uncons;cases e;obtain ⟨w, vs3, rfl, a3, a4⟩ := a2.uncons;obtain ⟨w', vs4, e, b3, b4⟩ := b2.uncons;cases e;have e1 := (qRH a1).symm.trans (qRH b1);have e2 := (qRH a3).symm.trans (qRH b3);rw [qPD xs ys _ a4 b4, Prod.ext e1 e2]
theorem Ty.inj : ∀ (t : Ty) (x y : t.sem), t.cells x = t.cells y -> x = y
 | .int _, x, y, h => by injection h with h; injection h with h; injection h
 | .bool, x, y, h => by injection h with h; injection h with h; injection h
 | .str, x, y, h => by injection h with h; injection h with h; injection h
 | .unit, _, _, _ => rfl
 | .raw, xs, ys, h => by
   injection h with h;injection h with _ h1 h2;exact qKB _ _ h2
 | .pair a b, x, y, h => by
   have := List.append_inj (show a.cells x.1 ++ b.cells x.2 = a.cells y.1 ++ b.cells y.2 from h) (by rw [a.cells_len, a.cells_len]);exact Prod.ext (a.inj _ _ this.1) (b.inj _ _ this.2)
 | .list el t, xs, ys, h => by
   injection h with h;injection h with _ h1 h2;exact go t xs ys h1 h2
where
 go (t : Ty) : ∀ (xs ys : List t.sem), xs.length = ys.length -> xs.flatMap t.cells = ys.flatMap t.cells -> xs = ys
 | [], [], _, _ => rfl
 | [], y :: ys, e, h => by cases e
 | x :: xs, [], e, h => by cases e
 | x :: xs, y :: ys, e, h => by
   rw [List.flatMap_cons, List.flatMap_cons] at h;have := List.append_inj h (by rw [t.cells_len, t.cells_len]);rw [t.inj x y this.1, go t xs ys (by simpa using e) this.2]
theorem Ty.uniq : ∀ (t : Ty) {x y : t.sem} {vs : List Value}, FRL Z H (t.cells x) vs -> FRL Z' H (t.cells y) vs -> x = y
 | .int k, x, y, vs, a, b => by
   obtain ⟨v, vs', rfl, a1, _⟩ := a.uncons;obtain ⟨v', vs2, e, b1, _⟩ := b.uncons;cases e;have := (qRH a1).symm.trans (qRH b1);injection this
 | .bool, x, y, vs, a, b => by
   obtain ⟨v, vs', rfl, a1, _⟩ := a.uncons;obtain ⟨v', vs2, e, b1, _⟩ := b.uncons;cases e;have := (qRH a1).symm.trans (qRH b1);injection this
 | .str, x, y, vs, a, b => by
   obtain ⟨v, vs', rfl, a1, _⟩ := a.uncons;obtain ⟨v', vs2, e, b1, _⟩ := b.uncons;cases e;have := (qRH a1).symm.trans (qRH b1);injection this
 | .unit, _, _, _, _, _ => rfl
 | .raw, xs, ys, vs, a, b => by
   obtain ⟨v, vs', rfl, a1, _⟩ := a.uncons;obtain ⟨v', vs2, e, b1, _⟩ := b.uncons;cases e;obtain ⟨h1, ws, ws', h2, h3, h4⟩ := qBQ a1 b1;have := h4 (by rw [qB3, qB3, h1]);subst this;exact qPD xs ys ws h2 h3
 | .pair s t, x, y, vs, a, b => by
   obtain ⟨a1, a2⟩ := FRL.split (xs := s.cells x.1) (ys := t.cells x.2) a;obtain ⟨b1, b2⟩ := FRL.split (xs := s.cells y.1) (ys := t.cells y.2) b;rw [s.cells_len] at a1 a2 b1 b2;exact Prod.ext (s.uniq a1 b1) (t.uniq a2 b2)
 | .list el t, xs, ys, vs, a, b => by
   obtain ⟨v, vs', rfl, a1, _⟩ := a.uncons;obtain ⟨v', vs2, e, b1, _⟩ := b.uncons;cases e;obtain ⟨h1, ws, ws', h2, h3, h4⟩ := qBQ a1 b1;have := h4 (by rw [xC, xC, h1]);subst this;exact go t xs ys ws h1 h2 h3
where
 go (t : Ty) : ∀ (xs ys : List t.sem) (vs : List Value), xs.length = ys.length -> FRL Z H (xs.flatMap t.cells) vs -> FRL Z' H (ys.flatMap t.cells) vs -> xs = ys
 | [], [], _, _, _, _ => rfl
 | [], y :: ys, vs, e, a, b => by cases e
 | x :: xs, [], vs, e, a, b => by cases e
 | x :: xs, y :: ys, vs, e, a, b => by
   rw [List.flatMap_cons] at a b;obtain ⟨a1, a2⟩ := a.split;obtain ⟨b1, b2⟩ := b.split;rw [t.cells_len] at a1 a2 b1 b2;rw [t.uniq a1 b1, go t xs ys _ (by simpa using e) a2 b2]
def Ty.pv (t : Ty) (x : t.sem) : PV := cond t.one (.f (t.fv x)) (.agg ((t.cells x).map .f))
def Ty.en (t : Ty) : PEn t.sem := ⟨t.pv, fun x y h => by
 unfold Ty.pv at h
 cases ht : t.one with
 | true =>
   rw [ht] at h;injection h with h;exact t.inj x y (by rw [Ty.cells_one ht, Ty.cells_one ht, h])
 | false =>
   rw [ht] at h;injection h with h
   exact t.inj x y (q2H _ _ h), fun P Z Z' H x y v a b => by
 unfold Ty.pv at a b
 cases ht : t.one with
 | true =>
   rw [ht] at a b
   cases a with
   | f a => cases b with
     | f b => exact t.uniq (vs := [v]) (by rw [Ty.cells_one ht]; exact .cons a ⟨rfl, fun i x v h => by simp at h⟩) (by rw [Ty.cells_one ht]; exact .cons b ⟨rfl, fun i x v h => by simp at h⟩)
 | false =>
   rw [ht] at a b;obtain ⟨vs, rfl, h1⟩ := VR.aggL a;obtain ⟨vs', e, h2⟩ := VR.aggL b;cases e
   exact t.uniq (qCN h1) (qCN h2)⟩
@[reducible] def TyL : List Ty -> Type
  | [] => Unit
  | [t] => t.sem
  | t :: u :: ts => t.sem × TyL (u :: ts)
def pvL : (ts : List Ty) -> TyL ts -> List PV
 | [], _ => []
 | [t], x => [t.pv x]
 | t :: u :: ts, x => t.pv x.1 :: pvL (u :: ts) x.2
theorem qSB : ∀ (ts : List Ty) (x y : TyL ts), pvL ts x = pvL ts y -> x = y
 | [], _, _, _ => rfl
 | [t], x, y, h => by injection h with h; exact t.en.inj x y h
 | t :: u :: ts, x, y, h => by
   injection h with h1 h2;exact Prod.ext (t.en.inj _ _ h1) (qSB (u :: ts) _ _ h2)
theorem qNI : ∀ (ts : List Ty) (x y : TyL ts) (vs : List Value), VRL P Z H (fun _ => none) (pvL ts x) vs -> VRL P Z' H (fun _ => none) (pvL ts y) vs -> x = y
 | [], _, _, _, _, _ => rfl
 | [t], x, y, vs, a, b => by
   obtain ⟨v, vs', rfl, a1, _⟩ := a.uncons;obtain ⟨v', vs2, e, b1, _⟩ := b.uncons;cases e;exact t.en.uniq P Z Z' H x y v a1 b1
 | t :: u :: ts, x, y, vs, a, b => by
   obtain ⟨v, vs', rfl, a1, a2⟩ := a.uncons;obtain ⟨v', vs2, e, b1, b2⟩ := b.uncons;cases e;exact Prod.ext (t.en.uniq P Z Z' H _ _ v a1 b1) (qNI (u :: ts) _ _ _ a2 b2)
def enL (ts : List Ty) : AEn (TyL ts) := ⟨pvL ts, qSB ts, fun P Z Z' H x y vs a b => qNI ts x y vs a b⟩
def wG : (ts : List Ty) -> TyL ts -> PV := fun ts x => qDK (pvL ts x)
end Go.Sv
namespace Go.Sv
open Go.Idl
variable [Gc]
variable {P : Program}
def Tree (R : Type) : Type := Option R
section
variable {R α σ ρ : Type}
def Tree.run (t : Tree R) : Option R := t
def Tree.fail : Tree R := (none : Option R)
def Tree.ret (r : R) : Tree R := some r
def Tree.ite (b : Bool) (x y : Tree R) : Tree R := cond b x y
noncomputable def Tree.bind (o : Option α) (k : α -> Tree R) : Tree R := Option.rec Tree.fail k o
noncomputable def Tree.loop (f : σ -> Tree (σ ⊕ ρ)) (s : σ) (k : ρ -> Tree R) : Tree R := Tree.bind (yB (fun s => (f s).run) s) k
end
theorem run_ite {R : Type} {b : Bool} {x y : Tree R} {r : R} (h : (Tree.ite b x y).run = some r) : (b = true ∧ x.run = some r) ∨ (b = false ∧ y.run = some r) := by
 cases b with
 | true => exact .inl ⟨rfl, h⟩
 | false => exact .inr ⟨rfl, h⟩
theorem run_bind {R α : Type} {o : Option α} {k : α -> Tree R} {r : R} (h : (Tree.bind o k).run = some r) : ∃ a, o = some a ∧ (k a).run = some r := by
 cases o with
 | none => cases h
 | some a => exact ⟨a, rfl, h⟩
theorem qWX {R σ ρ : Type} {f : σ -> Tree (σ ⊕ ρ)} {s : σ} {k : ρ -> Tree R} {r : R} (h : (Tree.loop f s k).run = some r) : ∃ a, yB (fun s => (f s).run) s = some a ∧ (k a).run = some r := run_bind h
theorem qF {R : Type} {b : Bool} {x : Tree R} {r : R} (h : (cond b x .fail).run = some r) : b = true ∧ x.run = some r := by
 cases b with
 | true => exact ⟨rfl, h⟩
 | false => cases h
inductive SV where
 | d (t : Ty) (x : t.sem)
 | c (v : Value)
 | agg (l : List SV)
 | tup (l : List SV)
 | own (k g n : Nat)
 | sl (k g n o m : Nat)
 | ref (k off w : Nat)
 | elt (k g n w j off : Nat)
 | lp (t : Ty) (xs : List t.sem) (j off : Nat)
 | fn (f : FuncId) (first cap : List SV)
 | unk
 | yv
 | mp (k : Nat)
 | opt (b : Bool) (k off w : Nat)
section
variable [Yl]
mutual
def SV.enc : SV -> PV
 | .d t x => .f (t.fv x)
 | .c v => fvv v
 | .agg l => .agg (qA l)
 | .tup l => .tup (qA l)
 | .own k _ n => .own k n 0 n
 | .sl k _ n o m => .own k n o m
 | .ref k off w => .ref k w off
 | .elt k _ n w j off => .ref k (n * w) (j * w + off)
 | .lp t xs j off => .lp (List.flatMap t.cells xs) (j * t.w + off)
 | .fn f a b => .fn f (qA a) (qA b)
 | .unk => .unk
 | .yv => .yl Yl.l
 | .mp k => .mp k
 | .opt b k off w => cond b (.ref k w off) (fvv (.pointer none))
def qA : List SV -> List PV
 | [] => []
 | x :: l => x.enc :: qA l
end
theorem qZ : ∀ (l : List SV), qA l = l.map SV.enc
 | [] => by simp [qA]
 | x :: l => by simp [qA, qZ l]
end
inductive SpO where
 | map (es : List (Value × Value))
 | iter (s : ByteArray) (pos : Nat)
def kY : Nat -> List (Value × Value) -> List MapEntry
 | _, [] => []
 | i, p :: l => ⟨p.1, p.2, i⟩ :: kY (i + 1) l
def SpO.enc : SpO -> PO
 | .map es => ⟨1000000001, false, jC (List.length es) (kY 0 es)⟩
 | .iter s pos => ⟨1000000000, false, qAV s pos⟩
inductive SO where
 | spc (w : Nat) (x : SpO)
 | cells (el : TypeId) (w : Nat) (l : List SV)
 | list (el : TypeId) (gr : Bool) (g w : Nat) (t : Ty) (xs : List t.sem)
section
variable [Yl]
def SO.enc : SO -> PO
 | .cells el _ l => ⟨el, false, qA l⟩
 | .list el gr _ _ t xs => ⟨el, gr, (List.flatMap t.cells xs).map .f⟩
 | .spc _ x => x.enc
def SO.w : SO -> Nat
 | .cells _ w _ => w
 | .list _ _ _ w _ _ => w
 | .spc w _ => w
structure SH where
 next : Nat
 l : List (Nat × SO)
def slk (k : Nat) : List (Nat × SO) -> Option SO
 | [] => none
 | (j, o) :: l => cond (k == j) (some o) (slk k l)
def sst (k : Nat) (o : SO) : List (Nat × SO) -> List (Nat × SO)
 | [] => []
 | (j, p) :: l => cond (k == j) ((j, o) :: l) ((j, p) :: sst k o l)
def sdl (k : Nat) : List (Nat × SO) -> List (Nat × SO)
 | [] => []
 | (j, p) :: l => cond (k == j) (sdl k l) ((j, p) :: sdl k l)
def qD : List (Nat × SO) -> PHp
 | [] => []
 | (j, o) :: l => (j, o.enc) :: qD l
theorem oO (k : Nat) : ∀ (l : List (Nat × SO)), qC k (qD l) = (slk k l).map SO.enc
 | [] => rfl
 | (j, o) :: l => by
   show cond (k == j) (some o.enc) (qC k (qD l)) = (cond (k == j) (some o) (slk k l)).map SO.enc;cases k == j
   ·exact oO k l
   ·rfl
theorem uM (k : Nat) (o : SO) : ∀ (l : List (Nat × SO)), qD (sst k o l) = vO k o.enc (qD l)
 | [] => rfl
 | (j, p) :: l => by
   show qD (cond (k == j) ((j, o) :: l) ((j, p) :: sst k o l)) = cond (k == j) ((j, o.enc) :: qD l) ((j, p.enc) :: vO k o.enc (qD l));cases k == j
   ·show (j, p.enc) :: qD (sst k o l) = _;rw [uM k o l]; rfl
   ·rfl
theorem dD (k : Nat) : ∀ (l : List (Nat × SO)), qD (sdl k l) = pI k (qD l)
 | [] => rfl
 | (j, p) :: l => by
   show qD (cond (k == j) (sdl k l) ((j, p) :: sdl k l)) = cond (k == j) (pI k (qD l)) ((j, p.enc) :: pI k (qD l));cases k == j
   ·show (j, p.enc) :: qD (sdl k l) = _;rw [dD k l]; rfl
   ·exact dD k l
end
theorem qEG {k j : Nat} {o : SO} (hj : j ≠ k) : ∀ (l : List (Nat × SO)), slk j (sst k o l) = slk j l
 | [] => rfl
 | (i, p) :: l => by
   show slk j (cond (k == i) ((i, o) :: l) ((i, p) :: sst k o l)) = cond (j == i) (some p) (slk j l)
   cases h : k == i with
   | true =>
     have : k = i := by simpa using h
     subst this;show cond (j == k) (some o) (slk j l) = _;rw [show (j == k) = false by simpa using hj]; rfl
   | false =>
     show cond (j == i) (some p) (slk j (sst k o l)) = _;rw [qEG hj l]
theorem qUL {k : Nat} {o p : SO} : ∀ {l : List (Nat × SO)}, slk k l = some p -> slk k (sst k o l) = some o
 | (i, q) :: l, h => by
   have h : cond (k == i) (some q) (slk k l) = some p := h;show slk k (cond (k == i) ((i, o) :: l) ((i, q) :: sst k o l)) = some o
   cases hi : k == i with
   | true =>
     show cond (k == i) (some o) (slk k l) = some o;rw [hi]; rfl
   | false =>
     rw [hi] at h;show cond (k == i) (some q) (slk k (sst k o l)) = some o;rw [hi]; exact qUL (l := l) h
theorem jK {k j : Nat} (hj : j ≠ k) : ∀ (l : List (Nat × SO)), slk j (sdl k l) = slk j l
 | [] => rfl
 | (i, p) :: l => by
   show slk j (cond (k == i) (sdl k l) ((i, p) :: sdl k l)) = cond (j == i) (some p) (slk j l)
   cases h : k == i with
   | true =>
     have : k = i := by simpa using h
     subst this;rw [show (j == k) = false by simpa using hj];exact jK hj l
   | false =>
     show cond (j == i) (some p) (slk j (sdl k l)) = _;rw [jK hj l]
theorem qMS (k : Nat) : ∀ (l : List (Nat × SO)), slk k (sdl k l) = none
 | [] => rfl
 | (i, p) :: l => by
   show slk k (cond (k == i) (sdl k l) ((i, p) :: sdl k l)) = none
   cases h : k == i with
   | true => exact qMS k l
   | false =>
     show cond (k == i) (some p) (slk k (sdl k l)) = none;rw [h]; exact qMS k l
theorem yE {k j : Nat} {o : SO} {l : List (Nat × SO)} (hj : j ≠ k) : slk j ((k, o) :: l) = slk j l := by
 show cond (j == k) (some o) (slk j l) = _;rw [show (j == k) = false by simpa using hj]; rfl
theorem u6 {k : Nat} {o : SO} {l : List (Nat × SO)} : slk k ((k, o) :: l) = some o := by
 show cond (k == k) (some o) (slk k l) = _;simp
def qZV (h : SH) (k g n : Nat) : Prop := g < h.next ∧ ∀ el gr w t xs, slk k h.l = some (.list el gr g w t xs) -> n = xs.length
mutual
def SV.ok (h : SH) : SV -> Prop
 | .agg l => okL h l
 | .tup l => okL h l
 | .own k g n => qZV h k g n
 | .sl k g n o m => qZV h k g n ∧ o + m <= n
 | .elt k g n _ _ _ => qZV h k g n
 | .fn _ a b => okL h a ∧ okL h b
 | _ => True
def okL (h : SH) : List SV -> Prop
 | [] => True
 | x :: l => x.ok h ∧ okL h l
end
theorem xA {h : SH} : ∀ {l : List SV}, okL h l ↔ ∀ x ∈ l, x.ok h
 | [] => by simp [okL]
 | x :: l => by simp [okL, xA (l := l)]
structure OkH (P : Program) (h : SH) : Prop where
 ver : ∀ k ob, slk k h.l = some ob -> ob.w < h.next
 cells : ∀ k el w l, slk k h.l = some (.cells el w l) -> okL h l
 list : ∀ k el gr g w t xs, slk k h.l = some (.list el gr g w t xs) -> g < h.next ∧ szT P el = some t.w ∧ 0 < t.w
structure Keep (h h' : SH) : Prop where
 next : h.next <= h'.next
 same : ∀ k ob, slk k h'.l = some ob -> ob.w < h.next -> slk k h.l = some ob
 len : ∀ k el gr g w t xs, slk k h'.l = some (.list el gr g w t xs) -> g < h.next -> ∃ w0, ∃ xs0 : List t.sem, slk k h.l = some (.list el gr g w0 t xs0) ∧ xs0.length = xs.length
theorem Keep.refl (h : SH) : Keep h h := ⟨Nat.le_refl _, fun _ _ h _ => h, fun k el gr g w t xs h _ => ⟨w, xs, h, rfl⟩⟩
theorem Keep.trans {a b c : SH} (x : Keep a b) (y : Keep b c) : Keep a c :=
 ⟨Nat.le_trans x.next y.next, fun k ob h hw => x.same k ob (y.same k ob h (Nat.lt_of_lt_of_le hw x.next)) hw, fun k el gr g w t xs h hg => by
   obtain ⟨w1, xs1, h1, e1⟩ := y.len k el gr g w t xs h (Nat.lt_of_lt_of_le hg x.next);obtain ⟨w2, xs2, h2, e2⟩ := x.len k el gr g w1 t xs1 h1 hg
   exact ⟨w2, xs2, h2, e2.trans e1⟩⟩
theorem qZV.keep {h h' : SH} {k g n : Nat} (a : qZV h k g n) (b : Keep h h') : qZV h' k g n :=
 ⟨Nat.lt_of_lt_of_le a.1 b.next, fun el gr w t xs hk => by
   obtain ⟨w0, xs0, h0, e0⟩ := b.len k el gr g w t xs hk a.1
   rw [<- e0]; exact a.2 el gr w0 t xs0 h0⟩
mutual
theorem SV.ok.keep {h h' : SH} (b : Keep h h') : ∀ {x : SV}, x.ok h -> x.ok h'
 | .agg l, a => by simp only [SV.ok] at a ⊢; exact qO b a
 | .tup l, a => by simp only [SV.ok] at a ⊢; exact qO b a
 | .own k g n, a => by simp only [SV.ok] at a ⊢; exact a.keep b
 | .sl k g n o m, a => by simp only [SV.ok] at a ⊢; exact ⟨a.1.keep b, a.2⟩
 | .elt k g n w j off, a => by simp only [SV.ok] at a ⊢; exact a.keep b
 | .fn f x y, a => by simp only [SV.ok] at a ⊢; exact ⟨qO b a.1, qO b a.2⟩
 | .d _ _, _ => by simp [SV.ok]
 | .c _, _ => by simp [SV.ok]
 | .ref _ _ _, _ => by simp [SV.ok]
 | .lp _ _ _ _, _ => by simp [SV.ok]
 | .unk, _ => by simp [SV.ok]
 | .yv, _ => by simp [SV.ok]
 | .mp _, _ => by simp [SV.ok]
 | .opt _ _ _ _, _ => by simp [SV.ok]
theorem qO {h h' : SH} (b : Keep h h') : ∀ {l : List SV}, okL h l -> okL h' l
 | [], _ => by simp [okL]
 | x :: l, a => by simp only [okL] at a ⊢; exact ⟨SV.ok.keep b a.1, qO b a.2⟩
end
def SH.new (h : SH) (k : Nat) (f : Nat -> SO) : SH := ⟨h.next + 1, (k, f h.next) :: h.l⟩
def SH.put (h : SH) (k : Nat) (f : Nat -> SO) : SH := ⟨h.next + 1, sst k (f h.next) h.l⟩
def SH.del (h : SH) (k : Nat) : SH := ⟨h.next, sdl k h.l⟩
def q4Z (P : Program) (h : SH) (n : Nat) : SO -> Prop
 | .cells _ w l => w = n ∧ okL h l
 | .list el _ g w t _ => w = n ∧ g = n ∧ szT P el = some t.w ∧ 0 < t.w
 | .spc w _ => w = n
theorem qY6 {h : SH} {k : Nat} {f : Nat -> SO} (hw : (f h.next).w = h.next) (hg : ∀ el gr g w t xs, f h.next = .list el gr g w t xs -> g = h.next) : Keep h (h.new k f) :=
 ⟨Nat.le_succ _, fun j ob hj hlt => by
   by_cases e : j = k
   ·subst e; rw [show slk j (h.new j f).l = some (f h.next) from u6] at hj;cases hj; omega
   ·rwa [show slk j (h.new k f).l = slk j h.l from yE e] at hj, fun j el gr g w t xs hj hlt => by
   by_cases e : j = k
   ·subst e; rw [show slk j (h.new j f).l = some (f h.next) from u6] at hj;have := hg _ _ _ _ _ _ (Option.some.inj hj);omega
   ·rw [show slk j (h.new k f).l = slk j h.l from yE e] at hj
    exact ⟨w, xs, hj, rfl⟩⟩
theorem kW {h : SH} {k : Nat} {f : Nat -> SO} (a : OkH P h) (hf : q4Z P h h.next (f h.next)) : Keep h (h.new k f) ∧ OkH P (h.new k f) := by
 have hw : (f h.next).w = h.next := by
  cases hq : f h.next with
  | cells el w l => rw [hq] at hf; exact hf.1
  | list el gr g w t xs => rw [hq] at hf; exact hf.1
  | spc w x => rw [hq] at hf; exact hf
 have hk : Keep h (h.new k f) := qY6 hw fun el gr g w t xs e => by rw [e] at hf; exact hf.2.1
 refine ⟨hk, ⟨fun j ob hj => ?_, fun j el w l hj => ?_, fun j el gr g w t xs hj => ?_⟩⟩
 ·by_cases e : j = k
  ·subst e; rw [show slk j (h.new j f).l = some (f h.next) from u6] at hj;cases hj; rw [hw]; exact Nat.lt_succ_self _
  ·rw [show slk j (h.new k f).l = slk j h.l from yE e] at hj;exact Nat.lt_succ_of_lt (a.ver j ob hj)
 ·by_cases e : j = k
  ·subst e; rw [show slk j (h.new j f).l = some (f h.next) from u6] at hj;rw [Option.some.inj hj] at hf;exact qO hk hf.2
  ·rw [show slk j (h.new k f).l = slk j h.l from yE e] at hj;exact qO hk (a.cells j el w l hj)
 ·by_cases e : j = k
  ·subst e; rw [show slk j (h.new j f).l = some (f h.next) from u6] at hj;rw [Option.some.inj hj] at hf;exact ⟨by rw [hf.2.1]; exact Nat.lt_succ_self _, hf.2.2⟩
  ·rw [show slk j (h.new k f).l = slk j h.l from yE e] at hj;have := a.list j el gr g w t xs hj;exact ⟨Nat.lt_succ_of_lt this.1, this.2⟩
def q6S (h : SH) (n : Nat) : SO -> SO -> Prop
 | .cells _ _ _, .cells _ w' l' => w' = n ∧ okL h l'
 | .list el gr g _ t xs, ob' => ∃ xs' : List t.sem, ob' = .list el gr g n t xs' ∧ xs.length = xs'.length
 | .spc _ _, .spc w' _ => w' = n
 | _, _ => False
theorem nA {h : SH} {k : Nat} {f : Nat -> SO} {ob : SO} (a : OkH P h) (hk : slk k h.l = some ob) (hf : q6S h h.next ob (f h.next)) : Keep h (h.put k f) ∧ OkH P (h.put k f) := by
 have hs : slk k (h.put k f).l = some (f h.next) := qUL hk;have hn : ∀ j, j ≠ k -> slk j (h.put k f).l = slk j h.l := fun j hj => qEG hj _
 have hw : (f h.next).w = h.next := by
  cases ob with
  | cells el w l =>
    cases hq : f h.next with
    | cells el' w' l' => rw [hq] at hf; exact hf.1
    | list => rw [hq] at hf; exact hf.elim
    | spc => rw [hq] at hf; exact hf.elim
  | spc w0 x0 =>
    cases hq : f h.next with
    | spc w' x' => rw [hq] at hf; exact hf
    | list => rw [hq] at hf; exact hf.elim
    | cells => rw [hq] at hf; exact hf.elim
  | list el gr g w t xs =>
    obtain ⟨xs', e, _⟩ := hf;rw [e]; rfl
 have hkp : Keep h (h.put k f) := by
  refine ⟨Nat.le_succ _, fun j o hj hlt => ?_, fun j el gr g w t xs hj hlt => ?_⟩
  ·by_cases e : j = k
   ·subst e; rw [hs] at hj; cases hj; omega
   ·rwa [hn j e] at hj
  ·by_cases e : j = k
   ·subst e;rw [hs] at hj;have hj := Option.some.inj hj
    cases ob with
    | cells el0 w0 l0 =>
      rw [hj] at hf;exact hf.elim
    | spc w0 x0 =>
      rw [hj] at hf;exact hf.elim
    | list el0 gr0 g0 w0 t0 xs0 =>
      obtain ⟨xs', e2, e3⟩ := hf;rw [e2] at hj;injection hj with a1 a2 a3 a4 a5 a6;subst a1 a2 a3 a5;cases a6;exact ⟨w0, xs0, hk, e3⟩
   ·rw [hn j e] at hj; exact ⟨w, xs, hj, rfl⟩
 refine ⟨hkp, ⟨fun j o hj => ?_, fun j el w l hj => ?_, fun j el gr g w t xs hj => ?_⟩⟩
 ·by_cases e : j = k
  ·subst e; rw [hs] at hj; cases hj; rw [hw]; exact Nat.lt_succ_self _
  ·rw [hn j e] at hj; exact Nat.lt_succ_of_lt (a.ver j o hj)
 ·by_cases e : j = k
  ·subst e;rw [hs] at hj;have hj := Option.some.inj hj
   cases ob with
   | cells el0 w0 l0 => rw [hj] at hf; exact qO hkp hf.2
   | spc w0 x0 => rw [hj] at hf; exact hf.elim
   | list el0 gr0 g0 w0 t0 xs0 =>
     obtain ⟨xs', e2, e3⟩ := hf;rw [e2] at hj; cases hj
  ·rw [hn j e] at hj; exact qO hkp (a.cells j el w l hj)
 ·by_cases e : j = k
  ·subst e;rw [hs] at hj;have hj := Option.some.inj hj
   cases ob with
   | cells el0 w0 l0 => rw [hj] at hf; exact hf.elim
   | spc w0 x0 => rw [hj] at hf; exact hf.elim
   | list el0 gr0 g0 w0 t0 xs0 =>
     obtain ⟨xs', e2, e3⟩ := hf;rw [e2] at hj;injection hj with a1 a2 a3 a4 a5 a6;subst a1 a2 a3 a5;have := a.list j _ _ _ _ _ _ hk;exact ⟨Nat.lt_succ_of_lt this.1, this.2⟩
  ·rw [hn j e] at hj;have := a.list j el gr g w t xs hj;exact ⟨Nat.lt_succ_of_lt this.1, this.2⟩
theorem nD {h : SH} {k : Nat} (a : OkH P h) : Keep h (h.del k) ∧ OkH P (h.del k) := by
 have hl : ∀ j ob, slk j (h.del k).l = some ob -> slk j h.l = some ob := fun j ob hj => by
  by_cases e : j = k
  ·subst e; rw [show slk j (h.del j).l = none from qMS j _] at hj; cases hj
  ·rwa [show slk j (h.del k).l = slk j h.l from jK e _] at hj
 have hkp : Keep h (h.del k) := ⟨Nat.le_refl _, fun j ob hj _ => hl j ob hj, fun j el gr g w t xs hj _ => ⟨w, xs, hl _ _ hj, rfl⟩⟩
 exact ⟨hkp, ⟨fun j ob hj => a.ver j ob (hl j ob hj), fun j el w l hj => qO hkp (a.cells j el w l (hl _ _ hj)), fun j el gr g w t xs hj => a.list j el gr g w t xs (hl _ _ hj)⟩⟩
def GV (Γ : Option Type) : Type := match Γ with
 | none => Unit
 | some γ => γ
def GS (Γ : Option Type) (S : Type) : Type := match Γ with
 | none => S
 | some γ => γ × S
def gj : {Γ : Option Type} -> {S : Type} -> GV Γ -> S -> GS Γ S
 | none, _, _, s => s
 | some _, _, g, s => (g, s)
def g1 : {Γ : Option Type} -> {S : Type} -> GS Γ S -> GV Γ
 | none, _, _ => ()
 | some _, _, p => p.1
def g2 : {Γ : Option Type} -> {S : Type} -> GS Γ S -> S
 | none, _, s => s
 | some _, _, p => p.2
theorem q1O {Γ : Option Type} {S : Type} {g : GV Γ} {s : S} : g1 (gj g s) = g := by cases Γ <;> rfl
theorem q0B {Γ : Option Type} {S : Type} {g : GV Γ} {s : S} : g2 (gj g s) = s := by cases Γ <;> rfl
structure Ent where
 as : List Ty
 rs : List Ty
 F : TyL as -> Option (TyL rs)
abbrev kT := List (FuncId × Ent)
def slT (g : FuncId) : kT -> Option Ent
 | [] => none
 | (k, e) :: l => cond (Nat.beq g k) (some e) (slT g l)
structure Sh where
 d : List Nat
 o : List Nat
 s : List (Nat × Nat)
 v : List (Nat × TypeId)
 ex : List Nat
 b : List (Nat × List (Option Nat)) := []
 bv : List (Nat × Nat × TypeId × Nat) := []
structure An where
 fz : List (Nat × List (Nat × TypeId))
 lp : List (Nat × Sh)
 rg : List (Nat × Sh) := []
def lkA {α : Type} (i : Nat) : List (Nat × α) -> Option α
 | [] => none
 | (j, x) :: l => cond (Nat.beq i j) (some x) (lkA i l)
structure IEnt where
 as : List Ty
 ys : List Ty
 yt : List TypeId
 F : TyL as -> (γ : Type) -> (γ -> TyL ys -> Option (γ × Bool)) -> γ -> Option γ
def slI (g : FuncId) : List (FuncId × IEnt) -> Option IEnt
 | [] => none
 | (k, e) :: l => cond (Nat.beq g k) (some e) (slI g l)
structure YI (Γ : Type) where
 ys : List Ty
 yt : List TypeId
 stp : Γ -> TyL ys -> Option (Γ × Bool)
def yi0 : YI Unit := ⟨[], [], fun _ _ => none⟩
abbrev CIT : Type 1 := (R : Type) -> Nm -> FuncId -> List SV -> SH -> (SV -> SH -> Tree R) -> Tree R
end Go.Sv
namespace Go.Sv
open Go.Idl
noncomputable section
variable [Gc]
variable [Yl]
variable {P : Program} {h : SH} {R : Type} {r : R}
def q44 : Value -> SV
 | .agg cs => cond (kU okC cs.toList) (.agg (xP .c cs.toList)) .unk
 | .tuple cs => cond (kU okC cs.toList) (.tup (xP .c cs.toList)) .unk
 | v => cond (okC v) (.c v) .unk
def xG (env : List SV) : Operand -> SV
 | .tmp t => (zM env t).getD .unk
 | .const v => q44 v
 | .global _ => .unk
 | .func g => .c (.func (.func g) #[] #[])
theorem q55 : ∀ (l : List Value), qA (xP .c l) = xP fvv l
 | [] => by simp [xP, qA]
 | v :: l => by
   show qA (.c v :: xP .c l) = fvv v :: xP fvv l;simp [qA, q55 l, SV.enc]
omit [Yl] in
theorem q6E : ∀ (l : List Value), okL h (xP .c l)
 | [] => by simp [xP, okL]
 | v :: l => by
   show okL h (.c v :: xP .c l);simp [okL, q6E l, SV.ok]
theorem qXR (v : Value) : ofC v = (q44 v).enc := by
 cases v with
 | agg cs =>
   show cond _ _ _ = (cond (kU okC cs.toList) (SV.agg (xP .c cs.toList)) SV.unk).enc;cases kU okC cs.toList
   ·simp [SV.enc]
   ·simp [SV.enc, q55]
 | tuple cs =>
   show cond _ _ _ = (cond (kU okC cs.toList) (SV.tup (xP .c cs.toList)) SV.unk).enc;cases kU okC cs.toList
   ·simp [SV.enc]
   ·simp [SV.enc, q55]
 | _ =>
   simp only [ofC, q29, q44];cases okC _ <;> simp [SV.enc]
omit [Yl] in
theorem q2F (v : Value) : (q44 v).ok h := by
 cases v with
 | agg cs =>
   show (cond (kU okC cs.toList) (.agg (xP .c cs.toList)) .unk : SV).ok h;cases kU okC cs.toList
   ·simp [SV.ok]
   ·simp [SV.ok, q6E]
 | tuple cs =>
   show (cond (kU okC cs.toList) (.tup (xP .c cs.toList)) .unk : SV).ok h;cases kU okC cs.toList
   ·simp [SV.ok]
   ·simp [SV.ok, q6E]
 | _ =>
   simp only [q44];cases okC _ <;> simp [SV.ok]
theorem xO (env : List SV) (t : Nat) : zM (qA env) t = (zM env t).map SV.enc := by
 rw [qH, qH, qZ, List.getElem?_map]
omit [Yl] in
theorem qBF {env : List SV} {t : Nat} {x : SV} (ho : okL h env) (hx : zM env t = some x) : x.ok h := by
 rw [qH] at hx;exact xA.1 ho x (List.mem_of_getElem? hx)
theorem qJ (env : List SV) (x : Operand) : qL (qA env) x = (xG env x).enc := by
 cases x with
 | tmp t =>
   show (zM (qA env) t).getD .unk = ((zM env t).getD .unk).enc;rw [xO];cases zM env t <;> simp [SV.enc]
 | const v => exact qXR v
 | global g => simp [qL, xG, SV.enc]
 | func g => simp [qL, xG, SV.enc]
omit [Yl] in
theorem qBV {env : List SV} (ho : okL h env) (x : Operand) : (xG env x).ok h := by
 cases x with
 | tmp t =>
   show ((zM env t).getD .unk).ok h
   cases hx : zM env t with
   | none => simp [SV.ok]
   | some y => exact qBF ho hx
 | const v => exact q2F v
 | global g => simp [xG, SV.ok]
 | func g => simp [xG, SV.ok]
def asI : SV -> Option (IntKind × Int)
 | .d (.int k) x => some (k, x)
 | .c (.int k x) => some (k, x)
 | _ => none
def asB : SV -> Option Bool
 | .d .bool x => some x
 | .c (.bool x) => some x
 | _ => none
def asS : SV -> Option ByteArray
 | .d .str x => some x
 | .c (.string x) => some x
 | _ => none
theorem xN {v : SV} {k : IntKind} {x : Int} (e : asI v = some (k, x)) : v.enc = fvv (.int k x) := by
 unfold asI at e;split at e
 ·cases e; simp [SV.enc, Ty.fv, fvv]
 ·cases e; simp [SV.enc]
 ·cases e
theorem rH {v : SV} {x : Bool} (e : asB v = some x) : v.enc = fvv (.bool x) := by
 unfold asB at e;split at e
 ·cases e; simp [SV.enc, Ty.fv, fvv]
 ·cases e; simp [SV.enc]
 ·cases e
theorem gL {v : SV} {x : ByteArray} (e : asS v = some x) : v.enc = fvv (.string x) := by
 unfold asS at e;split at e
 ·cases e; simp [SV.enc, Ty.fv, fvv]
 ·cases e; simp [SV.enc]
 ·cases e
def Ty.svs : (t : Ty) -> t.sem -> List SV
 | .int k, x => [.d (.int k) x]
 | .bool, x => [.d .bool x]
 | .str, x => [.d .str x]
 | .unit, _ => []
 | .list el t, x => [.d (.list el t) x]
 | .pair a b, x => a.svs x.1 ++ b.svs x.2
 | .raw, x => [.d .raw x]
theorem qAM (a b : List SV) : qA (a ++ b) = qA a ++ qA b := by simp [qZ]
theorem rW : ∀ (t : Ty) (x : t.sem), qA (t.svs x) = (t.cells x).map .f
 | .int k, x => by simp [Ty.svs, Ty.cells, qA, SV.enc, Ty.fv]
 | .bool, x => by simp [Ty.svs, Ty.cells, qA, SV.enc, Ty.fv]
 | .str, x => by simp [Ty.svs, Ty.cells, qA, SV.enc, Ty.fv]
 | .unit, x => by simp [Ty.svs, Ty.cells, qA]
 | .list el t, x => by simp [Ty.svs, Ty.cells, qA, SV.enc, Ty.fv]
 | .raw, x => by simp [Ty.svs, Ty.cells, qA, SV.enc, Ty.fv]
 | .pair a b, x => by
   show qA (a.svs x.1 ++ b.svs x.2) = (a.cells x.1 ++ b.cells x.2).map .f;rw [qAM, rW a, rW b, List.map_append]
omit [Yl] in
theorem mV {a b : List SV} (x : okL h a) (y : okL h b) : okL h (a ++ b) := xA.2 fun z hz => by
 rcases List.mem_append.1 hz with q | q
 ·exact xA.1 x z q
 ·exact xA.1 y z q
omit [Yl] in
theorem qKJ : ∀ (t : Ty) (x : t.sem), okL h (t.svs x)
 | .int k, x => by simp [Ty.svs, okL, SV.ok]
 | .bool, x => by simp [Ty.svs, okL, SV.ok]
 | .str, x => by simp [Ty.svs, okL, SV.ok]
 | .unit, x => by simp [Ty.svs, okL]
 | .list el t, x => by simp [Ty.svs, okL, SV.ok]
 | .raw, x => by simp [Ty.svs, okL, SV.ok]
 | .pair a b, x => mV (qKJ a x.1) (qKJ b x.2)
def q6Y (k : IntKind) (v : SV) : Option Int := match asI v with
 | some (k', x) => cond (decide (k' = k)) (some x) none
 | none => none
def q6J (el : TypeId) (t : Ty) : SV -> Option (List t.sem)
 | .d (.list el' t') xs => if e : t' = t then cond (Nat.beq el' el) (some (e ▸ xs)) none else none
 | _ => none
def asR : SV -> Option (List (Value × Value))
 | .d .raw x => some x
 | _ => none
def Ty.decS : (t : Ty) -> SV -> Option t.sem
 | .int k, v => q6Y k v
 | .bool, v => asB v
 | .str, v => asS v
 | .list el t, v => q6J el t v
 | .unit, _ => none
 | .pair _ _, _ => none
 | .raw, v => asR v
theorem qW4 {k : IntKind} {v : SV} {x : Int} (e : q6Y k v = some x) : v.enc = fvv (.int k x) := by
 unfold q6Y at e;split at e
 ·rename_i k' x' hx
  cases hk : decide (k' = k) with
  | false => rw [hk] at e; cases e
  | true =>
    rw [hk] at e;cases e;have : k' = k := by simpa using hk
    subst this;exact xN hx
 ·cases e
omit [Yl] in
theorem qYU {el : TypeId} {t : Ty} {v : SV} {x : List t.sem} (e : q6J el t v = some x) : v = .d (.list el t) x := by
 unfold q6J at e;split at e
 ·rename_i el' t' xs;split at e
  ·rename_i ht;subst ht
   cases hk : Nat.beq el' el with
   | false => rw [hk] at e; cases e
   | true =>
     rw [hk] at e;cases e;have : el' = el := Nat.eq_of_beq_eq_true hk;subst this;rfl
  ·cases e
 ·cases e
theorem qHH : ∀ {t : Ty} {v : SV} {x : t.sem}, t.decS v = some x -> v.enc = .f (t.fv x) ∧ t.one = true
 | .int k, v, x, e => ⟨qW4 e, rfl⟩
 | .bool, v, x, e => ⟨rH e, rfl⟩
 | .str, v, x, e => ⟨gL e, rfl⟩
 | .list el t, v, x, e => ⟨by rw [qYU e]; simp [SV.enc], rfl⟩
 | .raw, v, x, e => by
   have e : asR v = some x := e;refine ⟨?_, rfl⟩;unfold asR at e;split at e
   ·cases e; simp [SV.enc]
   ·cases e
 | .unit, v, x, e => by cases e
 | .pair a b, v, x, e => by cases e
def q1W (t : Ty) : List SV -> Option (t.sem × List SV)
 | v :: l => match t.decS v with
   | some x => some (x, l)
   | none => none
 | [] => none
def Ty.decL : (t : Ty) -> List SV -> Option (t.sem × List SV)
 | .int k, l => q1W (.int k) l
 | .bool, l => q1W .bool l
 | .str, l => q1W .str l
 | .raw, l => q1W .raw l
 | .list el t, l => q1W (.list el t) l
 | .unit, l => some ((), l)
 | .pair a b, l => match a.decL l with
   | some (x, l1) => (match b.decL l1 with
     | some (y, l2) => some ((x, y), l2)
     | none => none)
   | none => none
theorem nZ {t : Ty} {l l' : List SV} {x : t.sem} (e : q1W t l = some (x, l')) : qA l = (t.cells x).map .f ++ qA l' := by
 cases l with
 | nil => cases e
 | cons v l =>
   unfold q1W at e;simp only at e;split at e
   ·rename_i y hy;cases e;obtain ⟨h1, h2⟩ := qHH hy;rw [Ty.cells_one h2];simp [qA, h1]
   ·cases e
theorem qAL : ∀ {t : Ty} {l l' : List SV} {x : t.sem}, t.decL l = some (x, l') -> qA l = (t.cells x).map .f ++ qA l'
 | .int k, l, l', x, e => nZ e
 | .bool, l, l', x, e => nZ e
 | .str, l, l', x, e => nZ e
 | .raw, l, l', x, e => nZ e
 | .list el t, l, l', x, e => nZ e
 | .unit, l, l', x, e => by cases e; simp [Ty.cells]
 | .pair a b, l, l', x, e => by
   unfold Ty.decL at e;split at e
   ·rename_i x1 l1 h1;split at e
    ·rename_i y l2 h2;cases e;show qA l = (a.cells x1 ++ b.cells y).map .f ++ qA l';rw [qAL h1, qAL h2, List.map_append, List.append_assoc]
    ·cases e
   ·cases e
def Ty.decA (t : Ty) (l : List SV) : Option t.sem := match t.decL l with
 | some (x, []) => some x
 | _ => none
theorem qFY {t : Ty} {l : List SV} {x : t.sem} (e : t.decA l = some x) : qA l = (t.cells x).map .f := by
 unfold Ty.decA at e;split at e
 ·rename_i y hy;cases e;rw [qAL hy]; simp [qA]
 ·cases e
def qH4 (P : Program) (t : TypeId) (l : List SV) (off : Nat) : Option SV := match qKY P t with
 | some true => (match szT P t with
   | some n => cond (Nat.ble (off + n) l.length) (some (.agg ((l.drop off).take n))) none
   | none => none)
 | some false => zM l off
 | none => none
omit [Yl] in
theorem qME {a b : List SV} (x : okL h a) (hs : ∀ z ∈ b, z ∈ a) : okL h b := xA.2 fun z hz => xA.1 x z (hs z hz)
theorem tX {t : TypeId} {l : List SV} {off : Nat} {v : SV} (e : qH4 P t l off = some v) : pJ P t (qA l) off = some v.enc ∧ (okL h l -> v.ok h) := by
 unfold qH4 at e;unfold pJ;split at e
 ·rename_i ha;rw [ha];simp only;split at e
  ·rename_i n hn;rw [hn];simp only
   cases hc : Nat.ble (off + n) l.length with
   | false => rw [hc] at e; cases e
   | true =>
     rw [hc] at e;cases e;refine ⟨by rw [qZ, List.length_map, hc]; simp [SV.enc, qZ, List.map_drop, List.map_take], fun ho => ?_⟩;simp only [SV.ok];exact qME ho fun z hz => List.mem_of_mem_drop (List.mem_of_mem_take hz)
  ·cases e
 ·rename_i ha;rw [ha];simp only;rw [xO, e];exact ⟨rfl, fun ho => qBF ho e⟩
 ·cases e
theorem qH5 {t : TypeId} {t' : Ty} {xs : List t'.sem} {j off : Nat} {x : t'.sem} {v : SV} (hx : xs[j]? = some x) (e : qH4 P t (t'.svs x) off = some v) :
 pJ P t ((xs.flatMap t'.cells).map .f) (j * t'.w + off) = some v.enc ∧ qMR P t (xs.flatMap t'.cells) (j * t'.w + off) = some v.enc ∧ v.ok h := by
 have h0 := tX (h := h) e;refine ⟨?_, ?_, h0.2 (qKJ t' x)⟩
 all_goals
  have h1 := h0.1;rw [rW] at h1;unfold pJ at h1
 ·unfold pJ;split at h1
  ·rename_i ha;split at h1
   ·rename_i n hn
    cases hc : Nat.ble (off + n) ((t'.cells x).map PV.f).length with
    | false => rw [hc] at h1; cases h1
    | true =>
      rw [hc] at h1
      have hle : off + n <= t'.w := by
       have := Nat.le_of_ble_eq_true hc;rw [List.length_map, t'.cells_len] at this;exact this
      rw [show Nat.ble (j * t'.w + off + n) ((xs.flatMap t'.cells).map PV.f).length = true from Nat.ble_eq_true_of_le (by rw [List.length_map]; exact qM1 hx hle)];simp only [cond_true] at h1 ⊢;rw [<- h1, <- List.map_drop, <- List.map_take, qI7 hx hle, <- List.map_drop, <- List.map_take]
   ·cases h1
  ·rename_i ha;rw [qH, List.getElem?_map] at h1 ⊢
   have hlt : off < t'.w := by
    rw [<- t'.cells_len x]
    cases hq : (t'.cells x)[off]? with
    | none => rw [hq] at h1; cases h1
    | some y => exact (List.getElem?_eq_some_iff.1 hq).1
   rw [Go.Sv.flat_get hx hlt]; exact h1
  ·cases h1
 ·unfold qMR;split at h1
  ·rename_i ha;split at h1
   ·rename_i n hn
    cases hc : Nat.ble (off + n) ((t'.cells x).map PV.f).length with
    | false => rw [hc] at h1; cases h1
    | true =>
      rw [hc] at h1
      have hle : off + n <= t'.w := by
       have := Nat.le_of_ble_eq_true hc;rw [List.length_map, t'.cells_len] at this;exact this
      rw [show Nat.ble (j * t'.w + off + n) (xs.flatMap t'.cells).length = true from Nat.ble_eq_true_of_le (qM1 hx hle)];simp only [cond_true] at h1 ⊢;rw [<- h1, qI7 hx hle, <- List.map_drop, <- List.map_take]
   ·cases h1
  ·rename_i ha;rw [qH, List.getElem?_map] at h1
   cases hq : (t'.cells x)[off]? with
   | none => rw [hq] at h1; cases h1
   | some y =>
     rw [hq] at h1
     have hlt : off < t'.w := by
      rw [<- t'.cells_len x];exact (List.getElem?_eq_some_iff.1 hq).1
     rw [Go.Sv.flat_get hx hlt, hq];exact h1
  ·cases h1
def q1Q (P : Program) (t : TypeId) (a : SV) (h : SH) (K : SV -> Tree R) : Tree R := match a with
 | .ref k off w => (match slk k h.l with
   | some (.cells el _ l) => (match qH4 P t l off with
     | some v => cond (!(spec P el) && Nat.beq w l.length) (K v) .fail
     | none => .fail)
   | _ => .fail)
 | .elt k g n w j off => (match slk k h.l with
   | some (.list _ _ g' _ t' xs) => cond (Nat.beq g g' && Nat.beq w t'.w) (.bind (xs[j]?) fun x => match qH4 P t (t'.svs x) off with
     | some v => K v
     | none => .fail) .fail
   | _ => .fail)
 | .lp t' xs j off => .bind (xs[j]?) fun x => match qH4 P t (t'.svs x) off with
   | some v => K v
   | none => .fail
 | _ => .fail
theorem zF (l : List SV) : (qA l).length = l.length := by rw [qZ, List.length_map]
theorem xY {k : Nat} {ob : SO} {l : List (Nat × SO)} (e : slk k l = some ob) : qC k (qD l) = some ob.enc := by rw [oO, e]; rfl
theorem qV {el : TypeId} {gr : Bool} {g w : Nat} {t : Ty} {xs : List t.sem} : (SO.list el gr g w t xs).enc.cs.length = xs.length * t.w := by
 show ((xs.flatMap t.cells).map PV.f).length = _;rw [List.length_map, xC]
theorem qYS {t : TypeId} {a : SV} {K : SV -> Tree R} (ho : OkH P h) (ha : a.ok h) (e : (q1Q P t a h K).run = some r) : ∃ v, oQ P t a.enc (qD h.l) = some v.enc ∧ v.ok h ∧ (K v).run = some r := by
 unfold q1Q at e;split at e
 ·rename_i k off w;split at e
  ·rename_i el w' l hk;split at e
   ·rename_i v hv;obtain ⟨h1, h2⟩ := qF e;rw [Bool.and_eq_true, Bool.not_eq_true'] at h1;obtain ⟨hsp, h1⟩ := h1;obtain ⟨h3, h4⟩ := tX (h := h) hv;refine ⟨v, ?_, h4 (ho.cells _ _ _ _ hk), h2⟩;simp only [SV.enc, oQ, xY hk];show cond (spec P el) none (cond (Nat.beq w (qA l).length) (pJ P t (qA l) off) none) = _;rw [zF, h1, hsp];exact h3
   ·cases e
  ·cases e
 ·rename_i k g n w j off;split at e
  ·rename_i el gr g' w' t' xs hk;obtain ⟨h1, h2⟩ := qF e;rw [Bool.and_eq_true] at h1;have hg : g = g' := Nat.eq_of_beq_eq_true h1.1;have hw : w = t'.w := Nat.eq_of_beq_eq_true h1.2;subst hg hw;obtain ⟨x, hx, h3⟩ := run_bind h2;split at h3
   ·rename_i v hv;have h5 := qH5 (h := h) hx hv;refine ⟨v, ?_, h5.2.2, h3⟩;simp only [SV.ok] at ha;have hn : n = xs.length := ha.2 _ _ _ _ _ hk;simp only [SV.enc, oQ, xY hk];rw [qV, hn, show spec P (SO.list el gr g w' t' xs).enc.el = false from jS (ho.list _ _ _ _ _ _ _ hk).2.1];simp only [qCK, cond_true, cond_false];exact h5.1
   ·cases h3
  ·cases e
 ·rename_i t' xs j off;obtain ⟨x, hx, h3⟩ := run_bind e;split at h3
  ·rename_i v hv;have h5 := qH5 (h := h) hx hv;exact ⟨v, by simp only [SV.enc, oQ]; exact h5.2.1, h5.2.2, h3⟩
  ·cases h3
 ·cases e
def Post (P : Program) (h h' : SH) (v : SV) : Prop := Keep h h' ∧ OkH P h' ∧ v.ok h'
def yM : SV -> List SV
 | .agg l => l
 | v => [v]
theorem dA (v : SV) : zK v.enc = qA (yM v) := by
 cases v <;> simp [SV.enc, zK, yM, qA, fvv];rename_i b _ _ _;cases b <;> rfl
omit [Yl] in
theorem qBG {v : SV} (hv : v.ok h) : okL h (yM v) := by
 cases v <;> simp only [yM, okL, SV.ok, and_true] at hv ⊢ <;> exact hv
def qCB (l : List SV) (i : Nat) (vs : List SV) : List SV := l.take i ++ vs ++ l.drop (i + vs.length)
theorem qCM (l vs : List SV) (i : Nat) : qA (qCB l i vs) = kE (qA l) i (qA vs) := by
 simp [qCB, kE, qZ, List.map_take, List.map_drop]
omit [Yl] in
theorem qPM {l vs : List SV} {i : Nat} (a : okL h l) (b : okL h vs) : okL h (qCB l i vs) :=
 mV (mV (qME a fun z hz => List.mem_of_mem_take hz) b) (qME a fun z hz => List.mem_of_mem_drop hz)
omit [Yl] in
theorem qXT {α : Type} (A B C : List α) (c : List α) {off : Nat} (hle : off + c.length <= B.length) :
 (A ++ B ++ C).take (A.length + off) ++ c ++ (A ++ B ++ C).drop (A.length + off + c.length) = A ++ (B.take off ++ c ++ B.drop (off + c.length)) ++ C := by
 rw [List.append_assoc A B C, List.take_append, List.take_of_length_le (by omega), Nat.add_sub_cancel_left, List.take_append_of_le_length (by omega)];rw [Nat.add_assoc, List.drop_append, List.drop_of_length_le (by omega), Nat.add_sub_cancel_left, List.nil_append, List.drop_append_of_le_length (by omega)];simp [List.append_assoc]
omit [Yl] in
theorem qE1 {t : Ty} {xs : List t.sem} {j : Nat} {x : t.sem} (hx : xs[j]? = some x) (y : t.sem) : (xs.set j y).flatMap t.cells = (xs.take j).flatMap t.cells ++ t.cells y ++ (xs.drop (j + 1)).flatMap t.cells := by
 have hl := (List.getElem?_eq_some_iff.1 hx).1;rw [List.set_eq_take_append_cons_drop, if_pos hl, List.flatMap_append, List.flatMap_cons, List.append_assoc]
omit [Yl] in
theorem qP6 {t : Ty} {xs : List t.sem} {j : Nat} {x y : t.sem} (hx : xs[j]? = some x) {off : Nat} {c : List PV} (hle : off + c.length <= t.w) (hy : kE ((t.cells x).map .f) off c = (t.cells y).map .f) :
 kE ((xs.flatMap t.cells).map .f) (j * t.w + off) c = ((xs.set j y).flatMap t.cells).map .f := by
 have hl := (List.getElem?_eq_some_iff.1 hx).1
 have e0 : xs.set j x = xs := by
  apply List.ext_getElem?;intro i;rw [List.getElem?_set];by_cases e : j = i
  ·subst e; rw [if_pos rfl, if_pos hl, hx]
  ·rw [if_neg e]
 have e1 := qE1 hx x;rw [e0] at e1;rw [qE1 hx y, e1];simp only [List.map_append];unfold kE;have hA : (((xs.take j).flatMap t.cells).map PV.f).length = j * t.w := by rw [List.length_map, xC, List.length_take, Nat.min_eq_left (by omega)]
 rw [<- hA, qXT _ _ _ _ (by rw [List.length_map, t.cells_len]; exact hle)];unfold kE at hy;rw [hy]
def qUI (P : Program) (t : TypeId) (a x : SV) (h : SH) (K : SV -> SH -> Tree R) : Tree R := match szT P t with
 | some n => (match a with
   | .ref k off w => (match slk k h.l with
     | some (.cells el _ l) => cond (!(spec P el) && (Nat.beq w l.length && (Nat.beq n (yM x).length && (Nat.ble (off + n) l.length && (pnt x.enc && (qA (yM x)).all nH)))))
        (K (.tup []) (h.put k fun v => .cells el v (qCB l off (yM x)))) .fail
     | _ => .fail)
   | .elt k g m w j off => (match slk k h.l with
     | some (.list el gr g' _ t' xs) => cond (Nat.beq g g' && (Nat.beq w t'.w && (Nat.beq n (yM x).length && (Nat.ble (off + n) w && (pnt x.enc && (qA (yM x)).all nH)))))
        (.bind (xs[j]?) fun y => match t'.decA (qCB (t'.svs y) off (yM x)) with
          | some z => K (.tup []) (h.put k fun v => .list el gr g v t' (List.set xs j z))
          | none => .fail) .fail
     | _ => .fail)
   | _ => .fail)
 | none => .fail
theorem qSI {t : TypeId} {a x : SV} {K : SV -> SH -> Tree R} (ho : OkH P h) (ha : a.ok h) (hx : x.ok h) (e : (qUI P t a x h K).run = some r) :
 ∃ h', nR P t a.enc x.enc (qD h.l) = some (qD h'.l) ∧ Keep h h' ∧ OkH P h' ∧ (K (.tup []) h').run = some r := by
 unfold qUI at e;split at e
 ·rename_i n hn;split at e
  ·rename_i k off w;split at e
   ·rename_i el w' l hk;obtain ⟨h1, h2⟩ := qF e;rw [Bool.and_eq_true, Bool.not_eq_true'] at h1;obtain ⟨hsp, h1⟩ := h1;have hp := nA (f := fun v => .cells el v (qCB l off (yM x))) ho hk ⟨rfl, qPM (ho.cells _ _ _ _ hk) (qBG hx)⟩;refine ⟨_, ?_, hp.1, hp.2, h2⟩;simp only [SV.enc, nR, xY hk, hn];show cond (spec P el) none (cond (Nat.beq w (qA l).length && (Nat.beq n (zK x.enc).length && (Nat.ble (off + n) (qA l).length && (pnt x.enc && (zK x.enc).all nH)))) _ _) = _;rw [dA, zF, zF, h1, hsp];simp only [cond_true];rw [show qD (h.put k fun v => .cells el v (qCB l off (yM x))).l = vO k (SO.enc (.cells el h.next (qCB l off (yM x)))) (qD h.l) from uM k _ _];show some (vO k ⟨el, false, kE (qA l) off (qA (yM x))⟩ (qD h.l)) = some (vO k ⟨el, false, qA (qCB l off (yM x))⟩ (qD h.l));rw [qCM]
   ·cases e
  ·rename_i k g m w j off;split at e
   ·rename_i el gr g' w' t' xs hk;obtain ⟨h1, h2⟩ := qF e;simp only [Bool.and_eq_true] at h1;obtain ⟨q1, q2, q3, q4, q5, q6⟩ := h1;have hg : g = g' := Nat.eq_of_beq_eq_true q1;have hw : w = t'.w := Nat.eq_of_beq_eq_true q2;subst hg hw;obtain ⟨y, hy, h3⟩ := run_bind h2;split at h3
    ·rename_i z hz;have hp := nA (f := fun v => .list el gr g v t' (List.set xs j z)) ho hk ⟨_, rfl, by simp⟩;refine ⟨_, ?_, hp.1, hp.2, h3⟩;simp only [SV.ok] at ha;have hm : m = xs.length := ha.2 _ _ _ _ _ hk;have hle : off + n <= t'.w := Nat.le_of_ble_eq_true q4;simp only [SV.enc, nR, xY hk, hn];rw [qV, hm, dA, zF, show spec P (SO.list el gr g w' t' xs).enc.el = false from jS (ho.list _ _ _ _ _ _ _ hk).2.1]
     have hjl : j * t'.w + off + n <= xs.length * t'.w := by
      have := qM1 hy hle
      rwa [xC] at this
     rw [q3, q5, q6, show Nat.ble (j * t'.w + off + n) (xs.length * t'.w) = true from Nat.ble_eq_true_of_le hjl];simp only [qCK, Bool.and_self, cond_true, cond_false];rw [show qD (h.put k fun v => .list el gr g v t' (List.set xs j z)).l = vO k (SO.enc (.list el gr g h.next t' (List.set xs j z))) (qD h.l) from uM k _ _];show some (vO k ⟨el, gr, kE ((xs.flatMap t'.cells).map .f) (j * t'.w + off) (qA (yM x))⟩ (qD h.l)) = some (vO k ⟨el, gr, ((List.set xs j z).flatMap t'.cells).map .f⟩ (qD h.l));have hnl : n = (qA (yM x)).length := by rw [zF]; exact Nat.eq_of_beq_eq_true q3
     rw [qP6 hy (y := z) (by rw [<- hnl]; exact hle) (by rw [<- rW, <- qCM]; exact qFY hz)]
    ·cases h3
   ·cases e
  ·cases e
 ·cases e
end
end Go.Sv
namespace Go.Sv
open Go.Idl
noncomputable section
variable [Gc]
variable [Yl]
variable {P : Program} {h : SH} {R : Type} {r : R}
def tyL : List (Option Ty) -> Option Ty
 | [] => some .unit
 | [t] => t.map fun t => .pair t .unit
 | [a, b] => match a, b with
   | some a, some b => some (.pair a b)
   | _, _ => none
 | a :: l => match a, tyL l with
   | some a, some b => some (.pair a b)
   | _, _ => none
def qLP (P : Program) : Nat -> TypeId -> Option Ty
 | 0, _ => none
 | n + 1, t => match P.underlying t with
   | some (.int k) => some (.int k)
   | some .bool => some .bool
   | some .string => some .str
   | some (.slice el) => (match qLP P n el with
     | some u => some (.list el u)
     | none => none)
   | some (.struct fields) => tyL (fields.toList.map fun f => qLP P n f.type)
   | some (.array k el) => tyL (List.replicate k (qLP P n el))
   | _ => none
def zcS (P : Program) (t : TypeId) : Option (List SV) := match qBL P t with
 | some z => cond (kU okC z.cells.toList) (some (xP .c z.cells.toList)) none
 | none => none
theorem qFE {t : TypeId} {l : List SV} (e : zcS P t = some l) : zc P t = some (qA l) ∧ okL h l := by
 unfold zcS at e;unfold zc;split at e
 ·rename_i z hz
  cases hc : kU okC z.cells.toList with
  | false => rw [hc] at e; cases e
  | true =>
    rw [hc] at e;cases e;rw [hz];simp only [hc, cond_true];exact ⟨by rw [q55], q6E _⟩
 ·cases e
def qT4 (P : Program) (el : TypeId) (k : Nat) (h : SH) (K : SV -> SH -> Tree R) : Tree R := match zcS P el with
 | some l => cond (spec P el) .fail (K (.ref k 0 l.length) (h.new k fun v => .cells el v l))
 | none => .fail
theorem qTL {el : TypeId} {k : Nat} {K : SV -> SH -> Tree R} (ho : OkH P h) (e : (qT4 P el k h K).run = some r) : ∃ v h', qDY P el k (qD h.l) = some (v.enc, qD h'.l) ∧ Post P h h' v ∧ (K v h').run = some r := by
 unfold qT4 at e;split at e
 ·rename_i l hl;obtain ⟨h1, h2⟩ := qFE (h := h) hl;have hp := kW (k := k) (f := fun v => .cells el v l) ho ⟨rfl, h2⟩
  cases hsp : spec P el with
  | true => rw [hsp] at e; cases e
  | false =>
  rw [hsp] at e;refine ⟨_, _, ?_, ⟨hp.1, hp.2, by simp [SV.ok]⟩, e⟩;simp only [qDY, h1, qJ6, SV.enc, zF, hsp, cond_false];rfl
 ·cases e
def q78 (P : Program) (el : TypeId) (v : SV) (k : Nat) (h : SH) (K : SV -> SH -> Tree R) : Tree R :=
 cond (!(spec P el) && (pnt v.enc && (qA (yM v)).all nH)) (K (.ref k 0 (yM v).length) (h.new k fun n => .cells el n (yM v))) .fail
theorem q0W {el : TypeId} {v : SV} {k : Nat} {K : SV -> SH -> Tree R} (ho : OkH P h) (hv : v.ok h) (e : (q78 P el v k h K).run = some r) : ∃ x h', q3N P el v.enc k (qD h.l) = some (x.enc, qD h'.l) ∧ Post P h h' x ∧ (K x h').run = some r := by
 obtain ⟨h1, h2⟩ := qF e;have hp := kW (k := k) (f := fun n => .cells el n (yM v)) ho ⟨rfl, qBG hv⟩;refine ⟨_, _, ?_, ⟨hp.1, hp.2, by simp [SV.ok]⟩, h2⟩;unfold q3N;rw [dA, h1];simp only [cond_true, qJ6, SV.enc, zF];rfl
def qVF (place : Nat -> Option (Nat × Nat)) : List SV -> List (Nat × SV) -> Option (List SV)
 | cells, [] => some cells
 | cells, (i, v) :: rest => match place i with
   | some (off, size) => cond (Nat.beq (yM v).length size && (Nat.ble (off + size) cells.length && (pnt v.enc && (qA (yM v)).all nH))) (qVF place (qCB cells off (yM v)) rest) none
   | none => none
def q3R (l : List (Nat × SV)) : List (Nat × PV) := l.map fun p => (p.1, p.2.enc)
theorem qFM {place : Nat -> Option (Nat × Nat)} : ∀ {l cs : List SV} {parts : List (Nat × SV)}, qVF place l parts = some cs -> qH9 place (qA l) (q3R parts) = some (qA cs) ∧ (okL h l -> (∀ p ∈ parts, p.2.ok h) -> okL h cs)
 | l, cs, [], e => by cases e; exact ⟨rfl, fun a _ => a⟩
 | l, cs, (i, v) :: rest, e => by
   unfold qVF at e;split at e
   ·rename_i off size hpl
    cases hc : (Nat.beq (yM v).length size && (Nat.ble (off + size) l.length && (pnt v.enc && (qA (yM v)).all nH))) with
    | false => rw [hc] at e; cases e
    | true =>
      rw [hc] at e;obtain ⟨h1, h2⟩ := qFM (l := qCB l off (yM v)) e;refine ⟨?_, fun a b => h2 (qPM a (qBG (b _ List.mem_cons_self))) fun p hp => b p (List.mem_cons_of_mem _ hp)⟩
      show (match place i with
       | some (off, size) => cond (Nat.beq (zK v.enc).length size && (Nat.ble (off + size) (qA l).length && (pnt v.enc && (zK v.enc).all nH))) (qH9 place (kE (qA l) off (zK v.enc)) (q3R rest)) none
       | none => none) = some (qA cs)
      rw [hpl];simp only;rw [dA, zF, zF, hc, <- qCM];exact h1
   ·cases e
def qWI (P : Program) (t : TypeId) (parts : List (Nat × SV)) : Option SV := match zcS P t with
 | some z => cond (qB1 P t) (match qVF (qR0 P t) z parts with
   | some cs => some (.agg cs)
   | none => none) none
 | none => none
theorem qWJ {t : TypeId} {parts : List (Nat × SV)} {v : SV} (hp : ∀ p ∈ parts, p.2.ok h) (e : qWI P t parts = some v) : qIF P t (q3R parts) = some v.enc ∧ v.ok h := by
 unfold qWI at e;split at e
 ·rename_i z hz;obtain ⟨h1, h2⟩ := qFE (h := h) hz
  cases hb : qB1 P t with
  | false => rw [hb] at e; cases e
  | true =>
    rw [hb] at e;simp only [cond_true] at e;split at e
    ·rename_i cs hcs;cases e;obtain ⟨h3, h4⟩ := qFM (h := h) hcs;simp only [qIF, h1, hb, cond_true, h3, SV.enc, SV.ok, true_and];exact h4 h2 hp
    ·cases e
 ·cases e
def Ty.decs (t : Ty) : Nat -> List SV -> Option (List t.sem)
 | 0, [] => some []
 | 0, _ :: _ => none
 | n + 1, l => match t.decL l with
   | some (x, l') => (match t.decs n l' with
     | some xs => some (x :: xs)
     | none => none)
   | none => none
theorem qNW {t : Ty} : ∀ {n : Nat} {l : List SV} {xs : List t.sem}, t.decs n l = some xs -> qA l = (xs.flatMap t.cells).map .f ∧ xs.length = n
 | 0, [], xs, e => by cases e; simp [qA]
 | 0, _ :: _, xs, e => by cases e
 | n + 1, l, xs, e => by
   unfold Ty.decs at e;split at e
   ·rename_i x l' hx;split at e
    ·rename_i ys hy;cases e;obtain ⟨h1, h2⟩ := qNW hy;rw [qAL hx, h1, List.flatMap_cons, List.map_append];exact ⟨rfl, by rw [List.length_cons, h2]⟩
    ·cases e
   ·cases e
def q7X (n : Nat) (z : List SV) : List SV := (List.replicate n z).flatten
theorem qY2 (n : Nat) (z : List SV) : qA (q7X n z) = qIP n (qA z) := by simp [q7X, qIP, qZ, List.map_flatten]
def mM (P : Program) (t : TypeId) (len : Nat) (parts : List (Nat × SV)) (k : Nat) (h : SH) (K : SV -> SH -> Tree R) : Tree R := match yS P t with
 | some el => (match szT P el, zcS P el, qLP P 8 el with
   | some (s + 1), some z, some ty => cond (Nat.beq ty.w (s + 1)) (cond (Nat.beq z.length (s + 1) && Nat.ble (len * (s + 1)) 65536) (match qVF (fun i => some (i * (s + 1), s + 1)) (q7X len z) parts with
     | some cs => (match ty.decs len cs with
       | some xs => K (.own k h.next len) (h.new k fun v => .list el false v v ty xs)
       | none => .fail)
     | none => .fail) .fail) .fail
   | _, _, _ => .fail)
 | none => .fail
omit [Yl] in
theorem wK {el : TypeId} {gr : Bool} {k n : Nat} {ty : Ty} {xs : List ty.sem} (hn : n = xs.length) : (SV.own k h.next n).ok (h.new k fun v => .list el gr v v ty xs) := by
 simp only [SV.ok];refine ⟨Nat.lt_succ_self _, fun el' gr' w' t' xs' hk => ?_⟩;rw [show slk k (h.new k fun v => .list el gr v v ty xs).l = some (.list el gr h.next h.next ty xs) from u6] at hk;cases hk;exact hn
theorem qDF {t : TypeId} {len k : Nat} {parts : List (Nat × SV)} {K : SV -> SH -> Tree R} (ho : OkH P h) (hp : ∀ p ∈ parts, p.2.ok h) (e : (mM P t len parts k h K).run = some r) :
 ∃ v h', jQ P t len (q3R parts) k (qD h.l) = some (v.enc, qD h'.l) ∧ Post P h h' v ∧ (K v h').run = some r := by
 unfold mM at e;split at e
 ·rename_i el hel;split at e
  ·rename_i s z ty hs hz hty;obtain ⟨e1, e⟩ := qF e;obtain ⟨e2, e⟩ := qF e;split at e
   ·rename_i cs hcs;split at e
    ·rename_i xs hxs;obtain ⟨z1, z2⟩ := qFE (h := h) hz;obtain ⟨f1, f2⟩ := qFM (h := h) hcs;obtain ⟨d1, d2⟩ := qNW hxs;have hw : ty.w = s + 1 := Nat.eq_of_beq_eq_true e1;have hn := kW (k := k) (f := fun v => .list el false v v ty xs) ho ⟨rfl, rfl, by rw [hs, hw], by omega⟩;refine ⟨_, _, ?_, ⟨hn.1, hn.2, wK d2.symm⟩, e⟩;rw [qY2] at f1;simp only [jQ, hel, hs, z1, zF, e2, cond_true, f1, qJ6, SV.enc, d1];rfl
    ·cases e
   ·cases e
  ·cases e
 ·cases e
def q2S (P : Program) (t : TypeId) (l : SV) (k : Nat) (h : SH) (K : SV -> SH -> Tree R) : Tree R := match yS P t, asI l with
 | some el, some (_, n) => (match szT P el, zcS P el, qLP P 8 el with
   | some (s + 1), some z, some ty => cond (uU P el && (Nat.beq z.length (s + 1) && Nat.beq ty.w (s + 1))) (match ty.decA z with
     | some z0 => .bind (mkN n) fun N => K (.own k h.next N) (h.new k fun v => .list el false v v ty (List.replicate N z0))
     | none => .fail) .fail
   | _, _, _ => .fail)
 | _, _ => .fail
omit [Yl] in
theorem qO6 {t : Ty} {z : t.sem} : ∀ (n : Nat), ((List.replicate n z).flatMap t.cells).map PV.f = qIP n ((t.cells z).map .f)
 | 0 => rfl
 | n + 1 => by
   rw [List.replicate_succ, List.flatMap_cons, List.map_append, qO6 n];simp [qIP, List.replicate_succ]
theorem qYO {t : TypeId} {l : SV} {k : Nat} {K : SV -> SH -> Tree R} (ho : OkH P h) (e : (q2S P t l k h K).run = some r) :
 ∃ v h', wB P t l.enc l.enc k (qD h.l) = some (v.enc, qD h'.l) ∧ Post P h h' v ∧ (K v h').run = some r := by
 unfold q2S at e;split at e
 ·rename_i el ki n hel hl;split at e
  ·rename_i s z ty hs hz hty;obtain ⟨e1, e⟩ := qF e;simp only [Bool.and_eq_true] at e1;obtain ⟨q1, q2, q3⟩ := e1;split at e
   ·rename_i z0 hz0;obtain ⟨N, hN, e⟩ := run_bind e;obtain ⟨z1, z2⟩ := qFE (h := h) hz;have hw : ty.w = s + 1 := Nat.eq_of_beq_eq_true q3;have hn := kW (k := k) (f := fun v => .list el false v v ty (List.replicate N z0)) ho ⟨rfl, rfl, by rw [hs, hw], by omega⟩;refine ⟨_, _, ?_, ⟨hn.1, hn.2, wK (xs := List.replicate N z0) (by simp)⟩, e⟩;rw [xN hl];simp only [wB, fvv, hel, decide_true, cond_true, hN, hs, z1, zF, q1, q2, Bool.and_self, qJ6, SV.enc];show some (PV.own k N 0 N, (k, (⟨el, false, qIP N (qA z)⟩ : PO)) :: qD h.l) = some (PV.own k N 0 N, (k, ⟨el, false, ((List.replicate N z0).flatMap ty.cells).map PV.f⟩) :: qD h.l);rw [qO6, qFY hz0]
   ·cases e
  ·cases e
 ·cases e
def qXE (h : SH) : SV -> Bool
 | .ref k _ w => match slk k h.l with
   | some (.cells _ _ l) => Nat.beq w l.length
   | _ => false
 | .elt k g _ w _ _ => match slk k h.l with
   | some (.list _ _ g' _ t _) => Nat.beq g g' && Nat.beq w t.w
   | _ => false
 | .lp _ _ _ _ => true
 | _ => false
theorem qGP {k off w : Nat} (e : qXE h (.ref k off w) = true) : live? k w (qD h.l) = true := by
 simp only [qXE] at e;split at e
 ·rename_i el w' l hk;unfold live?;rw [xY hk];show Nat.beq w (qA l).length = true;rw [zF]; exact e
 ·cases e
theorem qFZ {k g n w j off : Nat} (ho : (SV.elt k g n w j off).ok h) (e : qXE h (.elt k g n w j off) = true) : live? k (n * w) (qD h.l) = true := by
 simp only [qXE] at e;split at e
 ·rename_i el gr g' w' t xs hk;rw [Bool.and_eq_true] at e;have hg : g = g' := Nat.eq_of_beq_eq_true e.1;have hw : w = t.w := Nat.eq_of_beq_eq_true e.2;subst hg hw;simp only [SV.ok] at ho;unfold live?;rw [xY hk];show Nat.beq (n * t.w) (SO.list el gr g w' t xs).enc.cs.length = true;rw [qV, ho.2 _ _ _ _ _ hk]; exact qCK _
 ·cases e
def qWL (n : Nat) : SV -> SV
 | .ref k off w => .ref k (off + n) w
 | .elt k g m w j off => .elt k g m w j (off + n)
 | .lp t xs j off => .lp t xs j (off + n)
 | v => v
def q9H : SV -> Bool
 | .ref _ _ _ => true
 | .elt _ _ _ _ _ _ => true
 | .lp _ _ _ _ => true
 | _ => false
omit [Yl] in
theorem qSZ {n : Nat} {v : SV} (hv : v.ok h) : (qWL n v).ok h := by
 cases v <;> simp only [qWL, SV.ok] at hv ⊢ <;> exact hv
def rE (P : Program) (t : TypeId) (x : SV) (i : Nat) (h : SH) : Option SV := match q3S P t i with
 | some (off, ft) => (match szT P ft with
   | some (_ + 1) => cond (qXE h x) (some (qWL off x)) none
   | _ => none)
 | none => none
theorem qF8 {t : TypeId} {x v : SV} {i : Nat} (hx : x.ok h) (e : rE P t x i h = some v) : zS P t x.enc i (qD h.l) = some v.enc ∧ v.ok h := by
 unfold rE at e;unfold zS;split at e
 ·rename_i off ft hf;split at e
  ·rename_i s hs
   cases hl : qXE h x with
   | false => rw [hl] at e; cases e
   | true =>
     rw [hl] at e;cases e;refine ⟨?_, qSZ hx⟩;simp only [hf, hs]
     cases x with
     | ref k o w => simp only [SV.enc, qWL, qGP hl, cond_true]
     | elt k g n w j o => simp only [SV.enc, qWL, qFZ hx hl, cond_true, Nat.add_assoc]
     | lp t xs j o => simp only [SV.enc, qWL, Nat.add_assoc]
     | _ => cases hl
  ·cases e
 ·cases e
def qTF (P : Program) (t : TypeId) (x : SV) (i : Nat) : Option SV := match q3S P t i, x with
 | some (off, ft), .agg l => qH4 P ft l off
 | _, _ => none
theorem qS8 {t : TypeId} {x v : SV} {i : Nat} (hx : x.ok h) (e : qTF P t x i = some v) : qDP P t x.enc i = some v.enc ∧ v.ok h := by
 unfold qTF at e;split at e
 ·rename_i off ft l hf;obtain ⟨h1, h2⟩ := tX (h := h) e;simp only [SV.ok] at hx;refine ⟨?_, h2 hx⟩;simp only [qDP, hf, SV.enc];exact h1
 ·cases e
def q57 (n : Nat) (ix : SV) (K : Nat -> Tree R) : Tree R := match ix with
 | .c (.int _ i) => (match idx n i with
   | some j => K j
   | none => .fail)
 | v => (match asI v with
   | some (_, i) => .bind (idx n i) K
   | none => .fail)
theorem qT8 {n : Nat} {ix : SV} {K : Nat -> Tree R} (e : (q57 n ix K).run = some r) : ∃ k i j, ix.enc = fvv (.int k i) ∧ idx n i = some j ∧ (K j).run = some r := by
 unfold q57 at e;split at e
 ·rename_i k i;split at e
  ·rename_i j hj;exact ⟨k, i, j, by simp [SV.enc], hj, e⟩
  ·cases e
 ·split at e
  ·rename_i k i hi;obtain ⟨j, hj, e⟩ := run_bind e;exact ⟨k, i, j, xN hi, hj, e⟩
  ·cases e
def rD (P : Program) (t : TypeId) (x ix : SV) (h : SH) (K : SV -> Tree R) : Tree R := match x with
 | .d (.list el u) xs => (match asI ix, yS P t with
   | some (_, i), some el' => (match szT P el' with
     | some s => cond (Nat.beq s u.w) (.bind (idx (List.length xs) i) fun j => K (.lp u xs j 0)) .fail
     | none => .fail)
   | _, _ => .fail)
 | .own k g n => (match asI ix, yS P t, slk k h.l with
   | some (_, i), some el', some (.list el _ g' _ u _) => cond (Nat.beq el' el && Nat.beq g g') (.bind (idx n i) fun j => K (.elt k g n u.w j 0)) .fail
   | _, _, _ => .fail)
 | .sl k g n o m => (match asI ix, yS P t, slk k h.l with
   | some (_, i), some el', some (.list el _ g' _ u _) => cond (Nat.beq el' el && Nat.beq g g') (.bind (idx m i) fun j => K (.elt k g n u.w (o + j) 0)) .fail
   | _, _, _ => .fail)
 | x => (match qVZ P t with
   | some (n, el) => (match szT P el with
     | some s => cond (q9H x && qXE h x) (q57 n ix fun j => K (qWL (j * s) x)) .fail
     | none => .fail)
   | none => .fail)
theorem qFH {t : TypeId} {x ix : SV} {K : SV -> Tree R} (ho : OkH P h) (hx : x.ok h) (e : (rD P t x ix h K).run = some r) : ∃ v, qW P t x.enc ix.enc (qD h.l) = some v.enc ∧ v.ok h ∧ (K v).run = some r := by
 unfold rD at e;split at e
 ·rename_i el u xs;split at e
  ·rename_i k i el' hi hel;split at e
   ·rename_i s hs;obtain ⟨h1, e1⟩ := qF e;obtain ⟨j, hj, e2⟩ := run_bind e1;have hw : s = u.w := Nat.eq_of_beq_eq_true h1;subst hw;refine ⟨_, ?_, by simp [SV.ok], e2⟩;rw [xN hi];simp only [SV.enc, Ty.fv, fvv, qW, hel, hs, hj, Nat.add_zero]
   ·cases e
  ·cases e
 ·rename_i k g n;split at e
  ·rename_i ki i el' el gr g' w u xs hi hel hk;obtain ⟨h1, e1⟩ := qF e;obtain ⟨j, hj, e2⟩ := run_bind e1;rw [Bool.and_eq_true] at h1;have hg : g = g' := Nat.eq_of_beq_eq_true h1.2;subst hg;simp only [SV.ok] at hx;have hn := hx.2 _ _ _ _ _ hk;have hl := ho.list _ _ _ _ _ _ _ hk;refine ⟨_, ?_, by simp only [SV.ok]; exact hx, e2⟩;rw [xN hi];simp only [SV.enc, fvv, qW, hel, xY hk]
   show (match szT P el with
    | some s => (match idx n i with
      | some j => cond (Nat.beq el' el && Nat.beq (n * s) (SO.list el gr g w u xs).enc.cs.length) (some (PV.ref k (SO.list el gr g w u xs).enc.cs.length ((0 + j) * s))) none
      | none => none)
    | none => none) = _
   rw [hl.2.1, hj];simp only [qV, hn, qCK, h1.1, Bool.and_self, cond_true, Nat.zero_add, Nat.add_zero]
  ·cases e
 ·rename_i k g n o m;split at e
  ·rename_i ki i el' el gr g' w u xs hi hel hk;obtain ⟨h1, e1⟩ := qF e;obtain ⟨j, hj, e2⟩ := run_bind e1;rw [Bool.and_eq_true] at h1;have hg : g = g' := Nat.eq_of_beq_eq_true h1.2;subst hg;simp only [SV.ok] at hx;have hn := hx.1.2 _ _ _ _ _ hk;have hl := ho.list _ _ _ _ _ _ _ hk;refine ⟨_, ?_, by simp only [SV.ok]; exact hx.1, e2⟩;rw [xN hi];simp only [SV.enc, fvv, qW, hel, xY hk]
   show (match szT P el with
    | some s => (match idx m i with
      | some j => cond (Nat.beq el' el && Nat.beq (n * s) (SO.list el gr g w u xs).enc.cs.length) (some (PV.ref k (SO.list el gr g w u xs).enc.cs.length ((o + j) * s))) none
      | none => none)
    | none => none) = _
   rw [hl.2.1];simp only [hj, qV, hn, qCK, h1.1, Bool.and_self, cond_true, Nat.add_zero]
  ·cases e
 ·split at e
  ·rename_i n el ha;split at e
   ·rename_i s hs;obtain ⟨h1, e⟩ := qF e;rw [Bool.and_eq_true] at h1;obtain ⟨ki, i, j, hi, hj, e⟩ := qT8 e;refine ⟨_, ?_, qSZ hx, e⟩;rw [hi]
    cases x with
    | ref k o w => simp only [SV.enc, qWL, fvv, qW, ha, hs, hj, qGP h1.2, cond_true]
    | elt k g n w j o => simp only [SV.enc, qWL, fvv, qW, ha, hs, hj, qFZ hx h1.2, cond_true, Nat.add_assoc]
    | lp t xs j o => simp only [SV.enc, qWL, fvv, qW, ha, hs, hj, Nat.add_assoc]
    | _ => cases h1.1
   ·cases e
  ·cases e
def qRR (P : Program) (t : TypeId) (x ix : SV) (K : SV -> Tree R) : Tree R := match qVZ P t, x with
 | some (n, el), .agg l => (match szT P el with
   | some s => q57 n ix fun j => match qH4 P el l (j * s) with
     | some v => K v
     | none => .fail
   | none => .fail)
 | _, _ => .fail
theorem qWF {t : TypeId} {x ix : SV} {K : SV -> Tree R} (hx : x.ok h) (e : (qRR P t x ix K).run = some r) : ∃ v, qD6 P t x.enc ix.enc = some v.enc ∧ v.ok h ∧ (K v).run = some r ∧ ∃ l, x = .agg l := by
 unfold qRR at e;split at e
 ·rename_i n el l ha;split at e
  ·rename_i s hs;obtain ⟨ki, i, j, hi, hj, e⟩ := qT8 e;split at e
   ·rename_i v hv;obtain ⟨h1, h2⟩ := tX (h := h) hv;simp only [SV.ok] at hx;refine ⟨v, ?_, h2 hx, e, l, rfl⟩;rw [hi];simp only [qD6, ha, SV.enc, fvv, hs, hj];exact h1
   ·cases e
  ·cases e
 ·cases e
def qFB (v : SV) (i : Nat) : Option SV := match v with
 | .tup l => (match zM l i with
   | some x => cond (pnt x.enc) (some x) none
   | none => none)
 | _ => none
theorem qM2 {x v : SV} {i : Nat} (hx : x.ok h) (e : qFB x i = some v) : dS x.enc i = some v.enc ∧ v.ok h := by
 unfold qFB at e;split at e
 ·rename_i l;split at e
  ·rename_i y hy
   cases hp : pnt y.enc with
   | false => rw [hp] at e; cases e
   | true =>
     rw [hp] at e;cases e;simp only [SV.ok] at hx;refine ⟨?_, qBF hx hy⟩;simp only [dS, SV.enc, xO, hy, Option.map_some, hp, cond_true]
  ·cases e
 ·cases e
def qBP (fn : Fn) (first cap : List SV) : Option SV := match fn with
 | .func g => some (match first, cap with
   | [], [] => .c (.func (.func g) #[] #[])
   | _, _ => .fn g first cap)
 | _ => none
theorem qII {fn : Fn} {first cap : List SV} {v : SV} (h1 : okL h first) (h2 : okL h cap) (e : qBP fn first cap = some v) : vB fn (qA first) (qA cap) = some v.enc ∧ v.ok h := by
 unfold qBP at e;split at e
 ·rename_i g;cases e
  cases first with
  | nil => cases cap with
    | nil => exact ⟨by simp [vB, qA, SV.enc], by simp [SV.ok]⟩
    | cons x l => exact ⟨by simp [vB, qA, SV.enc], by simp only [SV.ok]; exact ⟨h1, h2⟩⟩
  | cons y l => exact ⟨by simp [vB, qA, SV.enc], by simp only [SV.ok]; exact ⟨h1, h2⟩⟩
 ·cases e
def qCJ (v : SV) (h : SH) : Option SV := match v with
 | .fn _ _ _ => some v
 | .c (.func (.func _) _ _) => some v
 | v => cond (qXE h v) (some v) none
theorem qIB {x v : SV} (hx : x.ok h) (e : qCJ x h = some v) : yH x.enc (qD h.l) = some v.enc ∧ v.ok h := by
 unfold qCJ at e;split at e
 ·cases e; exact ⟨by simp [yH, SV.enc], hx⟩
 ·cases e; exact ⟨by simp [yH, SV.enc, fvv], hx⟩
 ·cases hl : qXE h x with
  | false => rw [hl] at e; cases e
  | true =>
    rw [hl] at e;cases e;refine ⟨?_, hx⟩
    cases x with
    | ref k o w => simp only [SV.enc, yH, qGP hl, cond_true]
    | elt k g n w j o => simp only [SV.enc, yH, qFZ hx hl, cond_true]
    | lp t xs j o => simp only [SV.enc, yH]
    | _ => cases hl
end
end Go.Sv
namespace Go.Sv
open Go.Idl
noncomputable section
variable [Gc]
variable [Yl]
variable {P : Program} {h : SH} {R : Type} {r : R}
def q6Q (P : Program) (ts : Array TypeId) (x : SV) (h : SH) : Option SV := match ts[0]? with
 | some t => (match yS P t with
   | some _ => (match x with
     | .d (.list _ _) xs => some (.d (.int .i64) ((List.length xs : Nat) : Int))
     | .c (.slice _ n _) => some (.c (.int .i64 (n : Int)))
     | .own k g n => (match slk k h.l with
       | some (.list _ _ g' _ _ _) => cond (Nat.beq g g') (some (.d (.int .i64) (n : Int))) none
       | _ => none)
     | .sl k g _ _ m => (match slk k h.l with
       | some (.list _ _ g' _ _ _) => cond (Nat.beq g g') (some (.d (.int .i64) (m : Int))) none
       | _ => none)
     | _ => none)
   | none => (match qVZ P t with
     | some (n, _) => some (.c (.int .i64 (n : Int)))
     | none => none))
 | none => none
theorem q04 {ts : Array TypeId} {x v : SV} (ho : OkH P h) (hx : x.ok h) (e : q6Q P ts x h = some v) : qYC P ts x.enc (qD h.l) = some v.enc ∧ v.ok h := by
 unfold q6Q at e;unfold qYC;split at e
 ·rename_i t ht;split at e
  ·rename_i el hel;split at e
   ·rename_i el' u xs;cases e;simp [ht, hel, SV.enc, Ty.fv, fvv, SV.ok]
   ·rename_i a n c;cases e;simp [ht, hel, SV.enc, fvv, SV.ok]
   ·rename_i k g n;split at e
    ·rename_i el' gr g' w u xs hk
     obtain ⟨h1, e1⟩ : Nat.beq g g' = true ∧ some (SV.d (.int .i64) (n : Int)) = some v := by
      cases hb : Nat.beq g g' with
      | false => rw [hb] at e; cases e
      | true => rw [hb] at e; exact ⟨rfl, e⟩
     cases e1;have hg : g = g' := Nat.eq_of_beq_eq_true h1;subst hg;simp only [SV.ok] at hx;have hn := hx.2 _ _ _ _ _ hk;have hl := ho.list _ _ _ _ _ _ _ hk;refine ⟨?_, by simp [SV.ok]⟩;simp only [ht, hel, SV.enc, xY hk]
     show (match szT P el' with
      | some s => cond (Nat.beq (n * s) (SO.list el' gr g w u xs).enc.cs.length) (some (fvv (.int .i64 (n : Int)))) none
      | none => none) = _
     rw [hl.2.1];simp only [qV, hn, qCK, cond_true, Ty.fv, fvv]
    ·cases e
   ·rename_i k g n o m;split at e
    ·rename_i el' gr g' w u xs hk
     obtain ⟨h1, e1⟩ : Nat.beq g g' = true ∧ some (SV.d (.int .i64) (m : Int)) = some v := by
      cases hb : Nat.beq g g' with
      | false => rw [hb] at e; cases e
      | true => rw [hb] at e; exact ⟨rfl, e⟩
     cases e1;have hg : g = g' := Nat.eq_of_beq_eq_true h1;subst hg;simp only [SV.ok] at hx;have hn := hx.1.2 _ _ _ _ _ hk;have hl := ho.list _ _ _ _ _ _ _ hk;refine ⟨?_, by simp [SV.ok]⟩;simp only [ht, hel, SV.enc, xY hk]
     show (match szT P el' with
      | some s => cond (Nat.beq (n * s) (SO.list el' gr g w u xs).enc.cs.length) (some (fvv (.int .i64 (m : Int)))) none
      | none => none) = _
     rw [hl.2.1];simp only [qV, hn, qCK, cond_true, Ty.fv, fvv]
    ·cases e
   ·cases e
  ·rename_i hel;split at e
   ·rename_i n el ha;cases e;simp [ht, hel, ha, SV.enc, SV.ok]
   ·cases e
 ·cases e
def qGL (u t : Ty) (xs : List u.sem) : Option (List t.sem) := if e : u = t then some (e ▸ xs) else none
omit [Yl] in
theorem fJ {u t : Ty} {xs : List u.sem} {ys : List t.sem} (e : qGL u t xs = some ys) : (⟨u, xs⟩ : (t : Ty) × List t.sem) = ⟨t, ys⟩ := by
 unfold qGL at e;split at e
 ·rename_i h;subst h;cases e;rfl
 ·cases e
def qXY (t : Ty) (x : SV) (h : SH) : Option (List t.sem) := match x with
 | .d (.list _ u) xs => qGL u t xs
 | .c (.slice none 0 _) => some []
 | .own k g _ => (match slk k h.l with
   | some (.list _ _ g' _ u xs) => cond (Nat.beq g g') (qGL u t xs) none
   | _ => none)
 | .sl k g _ o m => (match slk k h.l with
   | some (.list _ _ g' _ u xs) => cond (Nat.beq g g') (match qGL u t xs with
     | some xs => some ((xs.drop o).take m)
     | none => none) none
   | _ => none)
 | _ => none
theorem qPE {t : Ty} {x : SV} {ys : List t.sem} (ho : OkH P h) (hx : x.ok h) (e : qXY t x h = some ys) : qHI P t.w x.enc (qD h.l) = some (ys.length, (ys.flatMap t.cells).map .f) := by
 unfold qXY at e;unfold qHI;split at e
 ·rename_i el u xs;cases fJ e;simp only [SV.enc, Ty.fv, xC, qCK, cond_true]
 ·cases e;simp [SV.enc, fvv]
 ·rename_i k g n;split at e
  ·rename_i el gr g' w u xs hk
   cases hb : Nat.beq g g' with
   | false => rw [hb] at e; cases e
   | true =>
     rw [hb] at e;have hg : g = g' := Nat.eq_of_beq_eq_true hb;subst hg;cases fJ e;simp only [SV.ok] at hx;have hn := hx.2 _ _ _ _ _ hk;have hl := ho.list _ _ _ _ _ _ _ hk;simp only [SV.enc, xY hk]
     show (match szT P el with
      | some s' => cond (Nat.beq (n * s') (SO.list el gr g w t ys).enc.cs.length && Nat.beq t.w s') (some (n, (((ys.flatMap t.cells).map PV.f).drop (0 * t.w)).take (n * t.w))) none
      | none => none) = _
     rw [hl.2.1];simp only [qV, hn, qCK, Bool.and_self, cond_true, Nat.zero_mul, List.drop_zero];rw [List.take_of_length_le (by rw [List.length_map, xC]; exact Nat.le_refl _)]
  ·cases e
 ·rename_i k g n o m;split at e
  ·rename_i el gr g' w u xs hk
   cases hb : Nat.beq g g' with
   | false => rw [hb] at e; cases e
   | true =>
     rw [hb] at e;have hg : g = g' := Nat.eq_of_beq_eq_true hb;subst hg;simp only [cond_true] at e;split at e
     case h_2 => cases e
     rename_i xs2 hxs2;cases e;cases fJ hxs2;simp only [SV.ok] at hx;have hn := hx.1.2 _ _ _ _ _ hk;have hl := ho.list _ _ _ _ _ _ _ hk;simp only [SV.enc, xY hk]
     show (match szT P el with
      | some s' => cond (Nat.beq (n * s') (SO.list el gr g w t xs2).enc.cs.length && Nat.beq t.w s') (some (m, (((xs2.flatMap t.cells).map PV.f).drop (o * t.w)).take (m * t.w))) none
      | none => none) = _
     rw [hl.2.1];simp only [qV, hn, qCK, Bool.and_self, cond_true];rw [<- List.map_drop, <- List.map_take, gV, gP]
     congr 1
     have := hx.2;rw [List.length_take, List.length_drop, Nat.min_eq_left (by omega)]
  ·cases e
 ·cases e
omit [Yl] in
theorem qJZ {t : Ty} (ys : List t.sem) : ((ys.flatMap t.cells).map PV.f).all nH = true := by
 rw [List.all_eq_true];intro x hx;obtain ⟨y, _, rfl⟩ := List.mem_map.1 hx;rfl
omit [Yl] in
theorem qGU {h0 : SH} {el : TypeId} {gr : Bool} {k n m : Nat} {ty : Ty} {xs ys : List ty.sem} (hn : n = xs.length) (hm : m = ys.length) : (SV.own k h0.next (n + m)).ok (h0.new k fun v => .list el gr v v ty (xs ++ ys)) :=
 wK (by rw [List.length_append, hn, hm])
def qMP (P : Program) (ts : List TypeId) (base x : SV) (k : Nat) (h : SH) (K : SV -> SH -> Tree R) : Tree R := match ts with
 | [st, xt] => (match yS P st, yS P xt with
   | some el, some _ => (match szT P el, qLP P 8 el with
     | some (s + 1), some t => cond (Nat.beq t.w (s + 1) && uU P el) (match qXY t x h with
       | some ys => (match base with
         | .c (.slice none 0 0) => .ite (Nat.beq ys.length 0) (K base h)
            (.ite (Nat.ble (0 + ys.length) 1048576) (K (.own k h.next (0 + ys.length)) (h.new k fun v => .list el true v v t ([] ++ ys))) .fail)
         | .own j g n => (match slk j h.l with
           | some (.list el' gr g' _ u xs) => cond (Nat.beq el' el && Nat.beq g g') (match qGL u t xs with
             | some xs => .ite (Nat.beq ys.length 0) (K base h)
                (.ite (Nat.ble (n + ys.length) 1048576) (cond gr (K (.own j h.next (n + ys.length)) ((h.del j).new j fun v => .list el true v v t (xs ++ ys))) (K (.own k h.next (n + ys.length)) (h.new k fun v => .list el true v v t (xs ++ ys)))) .fail)
             | none => .fail) .fail
           | _ => .fail)
         | _ => .fail)
       | none => .fail) .fail
     | _, _ => .fail)
   | _, _ => .fail)
 | _ => .fail
omit [Yl] in
theorem qHJ {el : TypeId} {t : Ty} {xs ys : List t.sem} {k : Nat} {ph : PHp} (h1 : Nat.ble (xs.length + ys.length) 1048576 = true) (h2 : uU P el = true) :
 qCY P el t.w ((xs.flatMap t.cells).map .f) xs.length ((ys.flatMap t.cells).map .f) ys.length k ph = some (.own k (xs.length + ys.length) 0 (xs.length + ys.length), (k, ⟨el, true, ((xs ++ ys).flatMap t.cells).map .f⟩) :: ph) := by
 unfold qCY;rw [h1, h2, List.length_map, xC, List.length_map, xC, qJZ];simp only [qCK, Bool.and_self, cond_true, qJ6];rw [List.flatMap_append, List.map_append]
theorem qQ9 {ts : List TypeId} {base x : SV} {k : Nat} {K : SV -> SH -> Tree R} (ho : OkH P h) (hb : base.ok h) (hx : x.ok h) (e : (qMP P ts base x k h K).run = some r) :
 ∃ v h', fV P ts base.enc x.enc k (qD h.l) = some (v.enc, qD h'.l) ∧ Post P h h' v ∧ (K v h').run = some r := by
 unfold qMP at e;split at e
 ·rename_i st xt;split at e
  ·rename_i el el2 hel hel2;split at e
   ·rename_i s t hs hty;have e_ := qF e;clear e;obtain ⟨c1, e⟩ := e_;rw [Bool.and_eq_true] at c1;have hw : s + 1 = t.w := (Nat.eq_of_beq_eq_true c1.1).symm;split at e
    ·rename_i ys hys;have hnw := qPE ho hx hys;split at e
     ·have e_ := run_ite e;clear e
      rcases e_ with ⟨z, e⟩ | ⟨z, e⟩
      ·refine ⟨_, _, ?_, ⟨.refl _, ho, hb⟩, e⟩;simp only [fV, hel, hel2, hs, SV.enc, fvv];rw [hw, hnw];simp only [z, cond_true]
      ·have e_ := run_ite e;clear e
       rcases e_ with ⟨z2, e⟩ | ⟨z2, e⟩
       ·have hn := kW (k := k) (f := fun v => .list el true v v t ([] ++ ys)) ho ⟨rfl, rfl, by rw [hs]; exact congrArg some hw, by omega⟩;refine ⟨_, _, ?_, ⟨hn.1, hn.2, qGU (xs := []) rfl rfl⟩, e⟩;simp only [fV, hel, hel2, hs, SV.enc, fvv];rw [hw, hnw];simp only [z, cond_false];exact qHJ (xs := []) z2 c1.2
       ·cases e
     ·rename_i j g n;split at e
      ·rename_i el' gr g' w u xs0 hk;have e_ := qF e;clear e;obtain ⟨c2, e⟩ := e_;rw [Bool.and_eq_true] at c2;have he : el' = el := Nat.eq_of_beq_eq_true c2.1;have hg : g = g' := Nat.eq_of_beq_eq_true c2.2;split at e
       ·rename_i xs hxs;have hcast := fJ hxs
        have hk2 : slk j h.l = some (.list el gr g w t xs) := by
         rw [hk, he, <- hg];cases hcast;rfl
        have hnl : n = xs.length := by
         simp only [SV.ok] at hb;exact hb.2 _ _ _ _ _ hk2
        have pre : ∀ z : PV × PHp, (cond (Nat.beq ys.length 0) (some (PV.own j n 0 n, qD h.l))
         (cond (Nat.ble (n + ys.length) n) (cond (Nat.beq ((ys.flatMap t.cells).map PV.f).length (ys.length * (s + 1)) && ((ys.flatMap t.cells).map PV.f).all nH) (some (PV.own j n 0 (n + ys.length), vO j { (SO.list el gr g w t xs).enc with cs := kE (SO.list el gr g w t xs).enc.cs (n * (s + 1)) ((ys.flatMap t.cells).map PV.f) } (qD h.l))) none)
           (cond gr (qCY P el (s + 1) (SO.list el gr g w t xs).enc.cs n ((ys.flatMap t.cells).map PV.f) ys.length j (pI j (qD h.l))) (qCY P el (s + 1) (SO.list el gr g w t xs).enc.cs n ((ys.flatMap t.cells).map PV.f) ys.length k (qD h.l))))) = some z ->
         fV P [st, xt] (SV.own j g n).enc x.enc k (qD h.l) = some z := fun z hz => by
         simp only [fV, hel, hel2, hs, SV.enc];rw [show qHI P (s + 1) x.enc (qD h.l) = _ from (hw ▸ hnw)];simp only [xY hk2];rw [show (SO.list el gr g w t xs).enc.el = el from rfl, show Nat.beq (n * (s + 1)) (SO.list el gr g w t xs).enc.cs.length = true by rw [qV, hw, hnl]; exact qCK _];simp only [qCK, Bool.and_self, cond_true];exact hz
        have e_ := run_ite e;clear e
        rcases e_ with ⟨z, e⟩ | ⟨z, e⟩
        ·refine ⟨_, _, pre _ ?_, ⟨.refl _, ho, hb⟩, e⟩;rw [z]; simp [SV.enc]
        ·have e_ := run_ite e;clear e
         rcases e_ with ⟨z2, e⟩ | ⟨z2, e⟩
         ·have hpos : Nat.ble (n + ys.length) n = false := by
           cases hq : Nat.ble (n + ys.length) n with
           | false => rfl
           | true =>
             have h0 := Nat.le_of_ble_eq_true hq;have : ys.length = 0 := by omega
             rw [this] at z;cases z
          cases hgr : gr with
          | true =>
            rw [hgr] at e;have hd := nD (k := j) ho;have hn := kW (h := h.del j) (k := j) (f := fun v => .list el true v v t (xs ++ ys)) hd.2 ⟨rfl, rfl, by rw [hs]; exact congrArg some hw, by omega⟩;refine ⟨_, _, pre _ ?_, ⟨hd.1.trans hn.1, hn.2, qGU (h0 := h.del j) hnl rfl⟩, e⟩;rw [z, hpos, hgr];simp only [cond_true, cond_false];rw [hw, hnl];rw [hnl] at z2;rw [show (SO.list el true g w t xs).enc.cs = (xs.flatMap t.cells).map .f from rfl, qHJ z2 c1.2, <- dD];rfl
          | false =>
            rw [hgr] at e;have hn := kW (h := h) (k := k) (f := fun v => .list el true v v t (xs ++ ys)) ho ⟨rfl, rfl, by rw [hs]; exact congrArg some hw, by omega⟩;refine ⟨_, _, pre _ ?_, ⟨hn.1, hn.2, qGU (h0 := h) hnl rfl⟩, e⟩;rw [z, hpos, hgr];simp only [cond_true, cond_false];rw [hw, hnl];rw [hnl] at z2;rw [show (SO.list el false g w t xs).enc.cs = (xs.flatMap t.cells).map .f from rfl, qHJ z2 c1.2];rfl
         ·cases e
       ·cases e
      ·cases e
     ·cases e
    ·cases e
   ·cases e
  ·cases e
 ·cases e
end
end Go.Sv
namespace Go.Sv
open Go.Idl
noncomputable section
variable [Gc]
variable [Yl]
variable {P : Program} {h : SH} {R : Type} {r : R}
def qU2 {α : Type} (xs ys : List α) (o c : Nat) : List α := xs.take o ++ (ys.take c ++ xs.drop (o + c))
omit [Yl] in
theorem qY3 {α : Type} {xs ys : List α} {o c : Nat} (h1 : o + c <= xs.length) (h2 : c <= ys.length) : xs.length = (qU2 xs ys o c).length := by
 simp [qU2]; omega
omit [Yl] in
theorem qR8 {t : Ty} {xs ys : List t.sem} {o c : Nat} (h2 : c <= ys.length) :
 kE ((xs.flatMap t.cells).map PV.f) (o * t.w) (((ys.flatMap t.cells).map PV.f).take (c * t.w)) = ((qU2 xs ys o c).flatMap t.cells).map PV.f := by
 have hl : (((ys.flatMap t.cells).map PV.f).take (c * t.w)).length = c * t.w := by
  rw [List.length_take, List.length_map, xC];exact Nat.min_eq_left (Nat.mul_le_mul_right _ h2)
 unfold kE;rw [hl, <- Nat.add_mul, <- List.map_take, <- List.map_take, <- List.map_drop, gP, gP, gV];unfold qU2;simp [List.flatMap_append, List.append_assoc]
def q2U (P : Program) (ts : List TypeId) (base x : SV) (h : SH) (K : SV -> SH -> Tree R) : Tree R := match ts with
 | [st, xt] => (match yS P st, yS P xt with
   | some el, some _ => (match szT P el, qLP P 8 el with
     | some (s + 1), some t => cond (Nat.beq t.w (s + 1)) (match qXY t x h with
       | some ys => (match base with
         | .own j g n => (match slk j h.l with
           | some (.list el' gr g' _ u xs) => cond (Nat.beq el' el && Nat.beq g g') (match qGL u t xs with
             | some xs => K (.d (.int .i64) ((Nat.min ys.length n : Nat) : Int)) (h.put j fun v => .list el gr g v t (qU2 xs ys 0 (Nat.min ys.length n)))
             | none => .fail) .fail
           | _ => .fail)
         | .sl j g n o m => (match slk j h.l with
           | some (.list el' gr g' _ u xs) => cond (Nat.beq el' el && Nat.beq g g') (match qGL u t xs with
             | some xs => K (.d (.int .i64) ((Nat.min ys.length m : Nat) : Int)) (h.put j fun v => .list el gr g v t (qU2 xs ys o (Nat.min ys.length m)))
             | none => .fail) .fail
           | _ => .fail)
         | .d (.list _ _) xs => .ite (Nat.beq (List.length xs) 0) (K (.d (.int .i64) 0) h) .fail
         | .c (.slice none 0 _) => K (.d (.int .i64) 0) h
         | _ => .fail)
       | none => .fail) .fail
     | _, _ => .fail)
   | _, _ => .fail)
 | _ => .fail
theorem qW6 {ts : List TypeId} {base x : SV} {K : SV -> SH -> Tree R} (ho : OkH P h) (hb : base.ok h) (hx : x.ok h) (e : (q2U P ts base x h K).run = some r) :
 ∃ v h', qF7 P ts base.enc x.enc (qD h.l) = some (v.enc, qD h'.l) ∧ Post P h h' v ∧ (K v h').run = some r := by
 unfold q2U at e;split at e
 ·rename_i st xt;split at e
  ·rename_i el el2 hel hel2;split at e
   ·rename_i s t hs hty;have e_ := qF e;clear e;obtain ⟨c1, e⟩ := e_;have hw : s + 1 = t.w := (Nat.eq_of_beq_eq_true c1).symm;split at e
    ·rename_i ys hys;have hnw : qHI P (s + 1) x.enc (qD h.l) = some (ys.length, (ys.flatMap t.cells).map .f) := hw ▸ qPE ho hx hys;have hlen : ((ys.flatMap t.cells).map PV.f).length = ys.length * (s + 1) := by rw [List.length_map, xC, hw]
     have key : ∀ {j g n o m w : Nat} {gr : Bool} {xs : List t.sem}, slk j h.l = some (.list el gr g w t xs) -> n = xs.length -> o + m <= n ->
      (K (.d (.int .i64) ((Nat.min ys.length m : Nat) : Int)) (h.put j fun v => .list el gr g v t (qU2 xs ys o (Nat.min ys.length m)))).run = some r ->
      ∃ v h', qF7 P [st, xt] (.own j n o m) x.enc (qD h.l) = some (v.enc, qD h'.l) ∧ Post P h h' v ∧ (K v h').run = some r := by
      intro j g n o m w gr xs hk hn hom e;have hc : Nat.min ys.length m <= ys.length := Nat.min_le_left _ _;have hc2 : Nat.min ys.length m <= m := Nat.min_le_right _ _;have hp := nA (f := fun v => .list el gr g v t (qU2 xs ys o (Nat.min ys.length m))) ho hk ⟨_, rfl, qY3 (by omega) hc⟩;refine ⟨_, _, ?_, ⟨hp.1, hp.2, by simp [SV.ok]⟩, e⟩;simp only [qF7, hel, hel2, hs, hnw, xY hk];rw [show (SO.list el gr g w t xs).enc.el = el from rfl, show Nat.beq (n * (s + 1)) (SO.list el gr g w t xs).enc.cs.length = true by rw [qV, hw, hn]; exact qCK _, hlen, qJZ];simp only [qCK, Bool.and_self, cond_true];rw [show qD (h.put j fun v => .list el gr g v t (qU2 xs ys o (Nat.min ys.length m))).l = vO j (SO.list el gr g h.next t (qU2 xs ys o (Nat.min ys.length m))).enc (qD h.l) from uM j _ _];rw [hw];show some (_, vO j ⟨el, gr, kE ((xs.flatMap t.cells).map PV.f) (o * t.w) _⟩ (qD h.l)) = some (_, vO j ⟨el, gr, ((qU2 xs ys o (Nat.min ys.length m)).flatMap t.cells).map PV.f⟩ (qD h.l));rw [qR8 hc];simp [SV.enc, Ty.fv, fvv]
     split at e
     ·rename_i j g n;split at e
      ·rename_i el' gr g' w u xs0 hk;have e_ := qF e;clear e;obtain ⟨c2, e⟩ := e_;rw [Bool.and_eq_true] at c2;have he : el' = el := Nat.eq_of_beq_eq_true c2.1;have hg : g = g' := Nat.eq_of_beq_eq_true c2.2;split at e
       ·rename_i xs hxs;have hcast := fJ hxs
        have hk2 : slk j h.l = some (.list el gr g w t xs) := by
         rw [hk, he, <- hg];cases hcast;rfl
        simp only [SV.ok] at hb;exact key hk2 (hb.2 _ _ _ _ _ hk2) (by omega) e
       ·cases e
      ·cases e
     ·rename_i j g n o m;split at e
      ·rename_i el' gr g' w u xs0 hk;have e_ := qF e;clear e;obtain ⟨c2, e⟩ := e_;rw [Bool.and_eq_true] at c2;have he : el' = el := Nat.eq_of_beq_eq_true c2.1;have hg : g = g' := Nat.eq_of_beq_eq_true c2.2;split at e
       ·rename_i xs hxs;have hcast := fJ hxs
        have hk2 : slk j h.l = some (.list el gr g w t xs) := by
         rw [hk, he, <- hg];cases hcast;rfl
        simp only [SV.ok] at hb;exact key hk2 (hb.1.2 _ _ _ _ _ hk2) hb.2 e
       ·cases e
      ·cases e
     ·rename_i el' u xs
      rcases run_ite e with ⟨z, e⟩ | ⟨z, e⟩
      ·refine ⟨_, _, ?_, ⟨.refl _, ho, by simp [SV.ok]⟩, e⟩;have hz : xs = [] := List.length_eq_zero_iff.1 (Nat.eq_of_beq_eq_true z);subst hz;simp [qF7, hel, hel2, hs, hnw, SV.enc, Ty.fv, fvv]
      ·cases e
     ·refine ⟨_, _, ?_, ⟨.refl _, ho, by simp [SV.ok]⟩, e⟩;simp [qF7, hel, hel2, hs, hnw, SV.enc, Ty.fv, fvv]
     ·cases e
    ·cases e
   ·cases e
  ·cases e
 ·cases e
def qC5 (most : Nat) (i : Int) : Option Nat := if 0 <= i ∧ i <= (most : Int) then some i.toNat else none
def qRG (d most : Nat) (x : Option SV) (K : Nat -> Tree R) : Tree R := match x with
 | none => K d
 | some v => (match asI v with
   | some (_, i) => .bind (qC5 most i) K
   | none => .fail)
theorem gJ {d most : Nat} {x : Option SV} {K : Nat -> Tree R} (e : (qRG d most x K).run = some r) : ∃ n, bnd d most (x.map SV.enc) = some n ∧ (n = d ∨ n <= most) ∧ (K n).run = some r := by
 unfold qRG at e;split at e
 ·exact ⟨d, rfl, .inl rfl, e⟩
 ·rename_i v;split at e
  ·rename_i k i hi;have e_ := run_bind e;clear e;obtain ⟨n, hn, e⟩ := e_;refine ⟨n, ?_, .inr ?_, e⟩
   ·simp only [Option.map_some, xN hi, fvv, bnd]; exact hn
   ·unfold qC5 at hn;split at hn
    ·cases hn; omega
    ·cases hn
  ·cases e
def qVS (P : Program) (t : TypeId) (x : SV) (lo hi : Option SV) (h : SH) (K : SV -> Tree R) : Tree R := match x with
 | .d (.list el u) xs => (match yS P t, szT P el with
   | some el', some s => cond (Nat.beq el' el && Nat.beq s u.w) (qRG (List.length xs) (List.length xs) hi fun b => qRG 0 b lo fun a => K (.d (.list el u) ((List.drop a xs).take (b - a)))) .fail
   | _, _ => .fail)
 | .c (.slice none 0 0) => (match yS P t with
   | some el => cond (szT P el).isSome (qRG 0 0 hi fun _ => qRG 0 0 lo fun _ => K x) .fail
   | none => .fail)
 | .own k g n => (match yS P t, slk k h.l with
   | some el', some (.list el _ g' _ u _) => cond (Nat.beq el' el && Nat.beq g g') (qRG n n hi fun b => qRG 0 b lo fun a =>
      .ite (Nat.beq a 0) (K (.sl k g n 0 b)) (.ite (Nat.beq a b) (K (.d (.list el u) [])) (K (.sl k g n a (b - a))))) .fail
   | _, _ => .fail)
 | .sl k g n o m => (match yS P t, slk k h.l with
   | some el', some (.list el _ g' _ u _) => cond (Nat.beq el' el && Nat.beq g g') (qRG m m hi fun b => qRG 0 b lo fun a =>
      .ite (Nat.beq a 0) (K (.sl k g n o b)) (.ite (Nat.beq a b) (K (.d (.list el u) [])) (K (.sl k g n (o + a) (b - a))))) .fail
   | _, _ => .fail)
 | _ => .fail
theorem qUB {t : TypeId} {x : SV} {lo hi : Option SV} {K : SV -> Tree R} (ho : OkH P h) (hx : x.ok h) (e : (qVS P t x lo hi h K).run = some r) :
 ∃ v, uK P t x.enc (lo.map SV.enc) (hi.map SV.enc) (qD h.l) = some v.enc ∧ v.ok h ∧ (K v).run = some r := by
 unfold qVS at e
 have key : ∀ {k g n o m w : Nat} {gr : Bool} {el el' : TypeId} {u : Ty} {xs : List u.sem}, slk k h.l = some (.list el gr g w u xs) -> n = xs.length -> o + m <= n -> g < h.next -> yS P t = some el' -> Nat.beq el' el = true ->
  ∀ a b, bnd m m (hi.map SV.enc) = some b -> b <= m -> bnd 0 b (lo.map SV.enc) = some a -> a <= b ->
  (Tree.ite (Nat.beq a 0) (K (.sl k g n o b)) (.ite (Nat.beq a b) (K (.d (.list el u) [])) (K (.sl k g n (o + a) (b - a))))).run = some r ->
  ∃ v, uK P t (.own k n o m) (lo.map SV.enc) (hi.map SV.enc) (qD h.l) = some v.enc ∧ v.ok h ∧ (K v).run = some r := by
  intro k g n o m w gr el el' u xs hk hn hom hg hel hbe a b hb hbm ha hab e;have hl := ho.list _ _ _ _ _ _ _ hk
  have pre : uK P t (.own k n o m) (lo.map SV.enc) (hi.map SV.enc) (qD h.l) = some (cond (Nat.beq a 0) (.own k n o b) (cond (Nat.beq a b) (.f (.l el 0 [])) (.own k n (o + a) (b - a)))) := by
   simp only [uK, xY hk, hel];rw [show (SO.list el gr g w u xs).enc.el = el from rfl, hl.2.1, hb];simp only [ha, qV, hn, qCK, hbe, Bool.and_self, cond_true]
  have hsl : qZV h k g n := ⟨hg, fun el2 gr2 w2 t2 xs2 hk2 => by
   rw [hk] at hk2;cases hk2
   exact hn⟩
  rw [pre]
  rcases run_ite e with ⟨z, e⟩ | ⟨z, e⟩
  ·exact ⟨_, by rw [z]; simp [SV.enc], by simp only [SV.ok]; exact ⟨hsl, by omega⟩, e⟩
  ·rcases run_ite e with ⟨z2, e⟩ | ⟨z2, e⟩
   ·exact ⟨_, by rw [z, z2]; simp [SV.enc, Ty.fv], by simp [SV.ok], e⟩
   ·exact ⟨_, by rw [z, z2]; simp [SV.enc], by simp only [SV.ok]; exact ⟨hsl, by omega⟩, e⟩
 split at e
 ·rename_i el u xs;split at e
  ·rename_i el' s hel hs;have e_ := qF e;clear e;obtain ⟨c1, e⟩ := e_;rw [Bool.and_eq_true] at c1;have hw : s = u.w := Nat.eq_of_beq_eq_true c1.2;have he : el' = el := Nat.eq_of_beq_eq_true c1.1;subst hw he;obtain ⟨b, hb, hb2, e1⟩ := gJ e;obtain ⟨a, ha, ha2, e2⟩ := gJ e1;have hbl : b <= xs.length := by rcases hb2 with q | q <;> omega
   have hab : a <= b := by rcases ha2 with q | q <;> omega
   refine ⟨_, ?_, by simp [SV.ok], e2⟩;simp only [SV.enc, Ty.fv, uK, hel, hs, hb, ha, qCK, xC, Bool.and_self, cond_true];rw [gV, gP]
   cases hq : Nat.beq a b with
   | true =>
     have : a = b := Nat.eq_of_beq_eq_true hq;subst this;simp
   | false =>
     simp only [cond_false, List.length_take, List.length_drop];rw [Nat.min_eq_left (by omega)]
  ·cases e
 ·split at e
  ·rename_i el hel;have e_ := qF e;clear e;obtain ⟨c1, e⟩ := e_;obtain ⟨b, hb, hb2, e1⟩ := gJ e;obtain ⟨a, ha, ha2, e2⟩ := gJ e1;refine ⟨_, ?_, by simp [SV.ok], e2⟩;have hb' : bnd 0 0 (hi.map SV.enc) = some b := hb;simp only [SV.enc, fvv, uK, hel, hb', ha, c1, cond_true]
  ·cases e
 ·rename_i k g n;split at e
  ·rename_i el' el gr g' w u xs hel hk;have e_ := qF e;clear e;obtain ⟨c1, e⟩ := e_;rw [Bool.and_eq_true] at c1;have hg : g = g' := Nat.eq_of_beq_eq_true c1.2;subst hg;obtain ⟨b, hb, hb2, e1⟩ := gJ e;obtain ⟨a, ha, ha2, e2⟩ := gJ e1;simp only [SV.ok] at hx;refine key hk (hx.2 _ _ _ _ _ hk) (by omega) hx.1 hel c1.1 a b hb (by rcases hb2 with q | q <;> omega) ha (by rcases ha2 with q | q <;> omega) ?_;rw [Nat.zero_add]; exact e2
  ·cases e
 ·rename_i k g n o m;split at e
  ·rename_i el' el gr g' w u xs hel hk;have e_ := qF e;clear e;obtain ⟨c1, e⟩ := e_;rw [Bool.and_eq_true] at c1;have hg : g = g' := Nat.eq_of_beq_eq_true c1.2;subst hg;obtain ⟨b, hb, hb2, e1⟩ := gJ e;obtain ⟨a, ha, ha2, e2⟩ := gJ e1;simp only [SV.ok] at hx;exact key hk (hx.1.2 _ _ _ _ _ hk) hx.2 hx.1.1 hel c1.1 a b hb (by rcases hb2 with q | q <;> omega) ha (by rcases ha2 with q | q <;> omega) e2
  ·cases e
 ·cases e
end
end Go.Sv
namespace Go.Sv
open Go.Idl
variable [Gc]
variable {P : Program} {t t2 : TypeId} {a b : ByteArray} {ph : PHp}
theorem dK {v : Value} (h3 : qJM v = true) (h4 : ofC v = fvv v) : qVC (qAT H00 v) = some (fvv v) := by
 unfold qAT;rw [h3];show some (ofC v) = _;rw [h4]
theorem qM8 {op : BinOp} {v : Value} (h1 : nilBin P (cop (.binOp op t (.const (.string a)) (.const (.string b)) t2)) op t (.string a) (.string b) [] H00 = xW P (cop (.binOp op t (.const (.string a)) (.const (.string b)) t2)) [] H00)
 (h2 : xK P (execOp (Env.val []) (cop (.binOp op t (.const (.string a)) (.const (.string b)) t2))) = some (.value v)) (h3 : qJM v = true) (h4 : ofC v = fvv v) : bE P op t t2 (fvv (.string a)) (fvv (.string b)) ph = some (fvv v) := by
 unfold bE;simp only [fvv, pl, q6B, cond_false];show qVC (nilBin P _ op t (.string a) (.string b) [] H00) = _;rw [h1];unfold xW;have : zR (xP (Env.val []) (cop (.binOp op t (.const (.string a)) (.const (.string b)) t2)).op.operands.toList) = true := rfl;rw [if_pos this, h2];exact dK h3 h4
theorem q07 (hl : a.size + b.size <= 9223372036854775807) : bE P .add t t2 (fvv (.string a)) (fvv (.string b)) ph = some (fvv (.string (a ++ b))) := by
 refine qM8 rfl ?_ rfl rfl;have hm : IntKind.i64.max = 9223372036854775807 := rfl;have : ¬ (((a.size + b.size : Nat) : Int) > IntKind.i64.max) := by rw [hm]; omega
 show xK P (do eqGuard .add t (.const (.string a)) (.const (.string b)) (.string a) (.string b); let v <- Op.stringOp .add a b; pure (Next.value v)) = _;unfold Op.stringOp;simp only [this, if_false];rfl
theorem q1U : bE P .eql t t2 (fvv (.string a)) (fvv (.string b)) ph = some (fvv (.bool (a.toList == b.toList))) := qM8 rfl rfl rfl rfl
theorem q13 : bE P .neq t t2 (fvv (.string a)) (fvv (.string b)) ph = some (fvv (.bool (!(a.toList == b.toList)))) := qM8 rfl rfl rfl rfl
theorem dB {α β : Type} (s : Sem α) (g : α -> Sem β) : xK P (s >>= g) = (xK P s).bind fun a => xK P (g a) := vL g s
theorem dP {α : Type} (a : α) : xK P (pure a : Sem α) = some a := rfl
theorem qXX {ts : Array TypeId} (hs : qWQ P ts = true) : ∃ t, ts[0]? = some t ∧ P.underlying t = some .string := by
 unfold qWQ at hs
 cases h0 : ts[0]? with
 | none => rw [h0] at hs; cases hs
 | some t =>
   rw [h0] at hs;simp only [Option.bind_some] at hs;split at hs
   ·rename_i hq; exact ⟨t, rfl, hq⟩
   ·cases hs
theorem q5N {t : TypeId} {ts : Array TypeId} {ty : TypeId} (h0 : ts[0]? = some t) (hu : P.underlying t = some .string) : xK P (Go.Builtin.len_ ts ty #[.string a]) = some (goInt a.size) := by
 unfold Go.Builtin.len_;simp only [h0, dB, zY, hu, Option.bind_some, List.getElem?_toArray, List.getElem?_cons_zero];rfl
theorem qO1 {x : Operand} {ts : Array TypeId} {ty : TypeId} {env : Env} (hs : qWQ P ts = true) (hx : env.val x = .string a) :
 qVC (xW P (cop (.call ⟨.builtin .len, #[x], ts⟩) ty) env H00) = some (fvv (.int .i64 (a.size : Int))) := by
 have h2 : xP env.val (cop (.call ⟨.builtin .len, #[x], ts⟩) ty).op.operands.toList = [env.val x] := rfl;unfold xW;rw [h2];obtain ⟨t, h0, hu⟩ := qXX hs;have hp : zR [env.val x] = true := by rw [hx]; rfl
 rw [if_pos hp]
 have he : xK P (execOp env.val (cop (.call ⟨.builtin .len, #[x], ts⟩) ty)) = some (.value (goInt a.size)) := by
  simp only [cop, execOp, resolve, List.map_toArray, List.map_cons, List.map_nil, hx];show xK P (do let v <- Go.Builtin.len_ ts ty #[.string a]; pure (Next.value v)) = _;rw [dB, q5N h0 hu]; rfl
 rw [he];exact dK rfl rfl
def gU (s : ByteArray) (i : Int) : Option Int := if 0 <= i then (s[i.toNat]?).map fun b => (b.toNat : Int) else none
theorem qW3 {t : TypeId} {s : ByteArray} {k : IntKind} {i c : Int} {ty : TypeId} (hu : P.underlying t = some .string) (h : gU s i = some c) : qLB P (.index t (.const (.string s)) (.const (.int k i))) ty = some (fvv (.int .u8 c)) := by
 unfold qLB xW;have hp : zR (xP (Env.val []) (cop (.index t (.const (.string s)) (.const (.int k i))) ty).op.operands.toList) = true := rfl;rw [if_pos hp]
 have he : xK P (execOp (Env.val []) (cop (.index t (.const (.string s)) (.const (.int k i))) ty)) = some (.value (.int .u8 c)) := by
  show xK P (do let v <- Instr.index t (.string s) (.int k i); pure (Next.value v)) = _;unfold gU at h;split at h
  ·rename_i hc;obtain ⟨b, hb, rfl⟩ := Option.map_eq_some_iff.1 h;unfold Instr.index;simp only [dB, zY, hu, Option.bind_some];have h0 : xK P (asIntOf (.int k i)) = some (k, i) := rfl;rw [h0];simp only [Option.bind_some, if_pos hc, hb, dP]
  ·cases h
 rw [he];exact dK rfl rfl
theorem tQ {k : IntKind} {i : Int} {y n : Nat} {code : BoundsCode} (h : (if 0 <= i ∧ i <= (y : Int) then some i.toNat else none) = some n) : xK P (Instr.sliceBound (.int k i) y code) = some n := by
 unfold Instr.sliceBound;rw [dB];have h0 : xK P (asIntOf (.int k i)) = some (k, i) := rfl;rw [h0];simp only [Option.bind_some];split at h
 ·rename_i hc;rw [if_pos hc];cases h; rfl
 ·cases h
theorem qV7 {d most n : Nat} {x : Option PV} (h : bnd d most x = some n) : (x = none ∧ n = d) ∨ ∃ k i, x = some (fvv (.int k i)) ∧ (if 0 <= i ∧ i <= (most : Int) then some i.toNat else none) = some n := by
 unfold bnd at h;split at h
 ·cases h; exact .inl ⟨rfl, rfl⟩
 ·rename_i k i; exact .inr ⟨k, i, rfl, h⟩
 ·cases h
theorem qYJ {t : TypeId} {s : ByteArray} {lo hi : Option Operand} {l u : Nat} {env : List PV} {ty : TypeId} (hu : P.underlying t = some .string) (h1 : bnd s.size s.size (hi.map (qL env)) = some u) (h2 : bnd 0 u (lo.map (qL env)) = some l) :
 qLB P (.slice t (.const (.string s)) (lo.map fun a => .const ((pl (qL env a)).getD undef)) (hi.map fun a => .const ((pl (qL env a)).getD undef)) none) ty = some (fvv (.string (s.extract l u))) := by
 have opt : ∀ {o : Option Operand} {d most n : Nat}, bnd d most (o.map (qL env)) = some n -> (o = none ∧ n = d) ∨ ∃ k i, (o.map fun a => Operand.const ((pl (qL env a)).getD undef)) = some (.const (.int k i)) ∧ (if 0 <= i ∧ i <= (most : Int) then some i.toNat else none) = some n := fun {o d most n} h => by
  rcases qV7 h with ⟨q, e⟩ | ⟨k, i, q, e⟩
  ·cases o with
   | none => exact .inl ⟨rfl, e⟩
   | some a => cases q
  ·cases o with
   | none => cases q
   | some a =>
     have q : qL env a = fvv (.int k i) := by simpa using q
     exact .inr ⟨k, i, by simp [q, fvv, pl], e⟩
 unfold qLB xW
 have hk : ∀ (lo' hi' : Option Operand) (vl vh : Option Value), lo'.map (Env.val []) = vl -> hi'.map (Env.val []) = vh -> zR (xP (Env.val []) (cop (.slice t (.const (.string s)) lo' hi' none) ty).op.operands.toList) = true ->
  xK P (Instr.sliceBounds false s.size s.size vl vh none) = some (l, u, s.size) -> qVC (if zR (xP (Env.val []) (cop (.slice t (.const (.string s)) lo' hi' none) ty).op.operands.toList) = true then qHE H00 (xK P (execOp (Env.val []) (cop (.slice t (.const (.string s)) lo' hi' none) ty))) else none) = some (fvv (.string (s.extract l u))) := by
  intro lo' hi' vl vh e1 e2 hp hb;rw [if_pos hp]
  have he : xK P (execOp (Env.val []) (cop (.slice t (.const (.string s)) lo' hi' none) ty)) = some (.value (.string (s.extract l u))) := by
   show xK P (do let v <- Instr.sliceAt t (.string s) (lo'.map (Env.val [])) (hi'.map (Env.val [])) none; pure (Next.value v)) = _;rw [e1, e2];unfold Instr.sliceAt;simp only [dB, zY, hu, Option.bind_some];unfold Instr.slice;simp only [dB, zY, hu, Option.bind_some];simp only [Option.isSome_none, Bool.false_eq_true, if_false, dB, hb, Option.bind_some, dP]
  rw [he];exact dK rfl rfl
 have hB : ∀ (vl vh : Option Value), (vh = none ∧ u = s.size ∨ ∃ k i, vh = some (.int k i) ∧ (if 0 <= i ∧ i <= (s.size : Int) then some i.toNat else none) = some u) -> (vl = none ∧ l = 0 ∨ ∃ k i, vl = some (.int k i) ∧ (if 0 <= i ∧ i <= (u : Int) then some i.toNat else none) = some l) ->
  xK P (Instr.sliceBounds false s.size s.size vl vh none) = some (l, u, s.size) := by
  intro vl vh a b;unfold Instr.sliceBounds;rcases a with ⟨rfl, rfl⟩ | ⟨k, i, rfl, ha⟩ <;> rcases b with ⟨rfl, rfl⟩ | ⟨k', i', rfl, hb⟩ <;> simp only [dB, dP, Option.bind_some, Option.isSome_none, Bool.false_eq_true, if_false]
  ·rw [tQ hb]; rfl
  ·rw [tQ ha]; rfl
  ·rw [tQ ha]; simp only [Option.bind_some]; rw [tQ hb]; rfl
 rcases opt h1 with ⟨rfl, e1⟩ | ⟨k, i, e1, f1⟩ <;> rcases opt h2 with ⟨rfl, e2⟩ | ⟨k', i', e2, f2⟩
 ·exact hk none none none none rfl rfl rfl (hB _ _ (.inl ⟨rfl, e1⟩) (.inl ⟨rfl, e2⟩))
 ·rw [e2]; exact hk _ none _ none rfl rfl rfl (hB _ _ (.inl ⟨rfl, e1⟩) (.inr ⟨k', i', rfl, f2⟩))
 ·rw [e1]; exact hk none _ none _ rfl rfl rfl (hB _ _ (.inr ⟨k, i, rfl, f1⟩) (.inl ⟨rfl, e2⟩))
 ·rw [e1, e2]; exact hk _ _ _ _ rfl rfl rfl (hB _ _ (.inr ⟨k, i, rfl, f1⟩) (.inr ⟨k', i', rfl, f2⟩))
theorem q1S {s d : TypeId} {k k' : IntKind} {x : Int} {u : TypeDesc} (hs : P.underlying s = some u) (hd : P.underlying d = some (.int k')) : aZ P (fun a => .convert s d a) (fvv (.int k x)) = some (fvv (.int k' (k'.wrap x))) := by
 have hl : pl (fvv (.int k x)) = some (.int k x) := rfl;unfold aZ;rw [hl];unfold qLB xW;have hp : zR (xP (Env.val []) (cop (.convert s d (.const (.int k x)))).op.operands.toList) = true := rfl;simp only [hp, if_true]
 have he : xK P (execOp (Env.val []) (cop (.convert s d (.const (.int k x))))) = some (.value (.int k' (k'.wrap x))) := by
  show xK P (do let v <- convert s d (.int k x); pure (Next.value v)) = _;unfold convert;simp only [dB, zY, hs, hd, Option.bind_some];rfl
 rw [he];exact dK rfl rfl
theorem qYP {s d : TypeId} {x : ByteArray} {u : TypeDesc} (hs : P.underlying s = some u) (hd : P.underlying d = some .string) : aZ P (fun a => .convert s d a) (fvv (.string x)) = some (fvv (.string x)) := by
 have hl : pl (fvv (.string x)) = some (.string x) := rfl;unfold aZ;rw [hl];unfold qLB xW;have hp : zR (xP (Env.val []) (cop (.convert s d (.const (.string x)))).op.operands.toList) = true := rfl;simp only [hp, if_true]
 have he : xK P (execOp (Env.val []) (cop (.convert s d (.const (.string x))))) = some (.value (.string x)) := by
  show xK P (do let v <- convert s d (.string x); pure (Next.value v)) = _;unfold convert;simp only [dB, zY, hs, hd, Option.bind_some];cases u <;> rfl
 rw [he];exact dK rfl rfl
end Go.Sv
namespace Go.Sv
open Go.Idl
noncomputable section
variable [Gc]
variable [Yl]
variable {P : Program} {h : SH} {R : Type} {r : R}
def qDT : SV -> Option Value
 | .d (.int k) x => some (.int k x)
 | .d .bool x => some (.bool x)
 | .d .str x => some (.string x)
 | .c v => some v
 | _ => none
theorem pQ {v : SV} {a : Value} (e : qDT v = some a) : v.enc = fvv a := by
 unfold qDT at e;split at e <;> cases e <;> simp [SV.enc, Ty.fv, fvv]
def qGB : List SV -> Option (List Value)
 | [] => some []
 | v :: l => match qDT v, qGB l with
   | some a, some b => some (a :: b)
   | _, _ => none
def aG : SV -> Option Value
 | .agg l => (match qGB l with
   | some vs => some (.agg vs.toArray)
   | none => none)
 | v => qDT v
theorem qEQ : ∀ {l : List SV} {vs : List Value}, qGB l = some vs -> qVR (qA l) = some vs
 | [], vs, e => by cases e; simp [qA, qVR]
 | v :: l, vs, e => by
   unfold qGB at e;split at e
   ·rename_i a b ha hb;cases e;simp only [qA, pQ ha, fvv, qVR, pl1, qEQ hb]
   ·cases e
theorem jV {v : SV} {a : Value} (e : aG v = some a) : pl v.enc = some a := by
 unfold aG at e;split at e
 ·rename_i l;split at e
  ·rename_i vs hvs;cases e;simp only [SV.enc, pl, qEQ hvs]
  ·cases e
 ·rw [pQ e];rfl
def q8L (op : BinOp) (a b : ByteArray) (K : SV -> Tree R) (F : Tree R) : Tree R := match op with
 | .add => .ite (Nat.ble (a.size + b.size) 9223372036854775807) (K (.d .str (a ++ b))) .fail
 | .eql => K (.d .bool (a.toList == b.toList))
 | .neq => K (.d .bool (!(a.toList == b.toList)))
 | _ => F
def qI5 (P : Program) (t : TypeId) : Bool := match P.underlying t with
 | some .string => true
 | _ => false
omit [Yl] in
theorem pU {t : TypeId} (e : qI5 P t = true) : P.underlying t = some .string := by
 unfold qI5 at e;split at e
 ·assumption
 ·cases e
def qLI (P : Program) (t : TypeId) (s : ByteArray) (ix : SV) (K : SV -> Tree R) : Tree R := match asI ix with
 | some (_, i) => cond (qI5 P t) (.bind (gU s i) fun c => K (.d (.int .u8) c)) .fail
 | none => .fail
def qRM (P : Program) (t : TypeId) (s : ByteArray) (lo hi : Option SV) (K : SV -> Tree R) : Tree R :=
 cond (qI5 P t) (qRG s.size s.size hi fun b => qRG 0 b lo fun a => K (.d .str (s.extract a b))) .fail
def qYK (P : Program) (s d : TypeId) (x : SV) (K : SV -> Tree R) (F : Tree R) : Tree R := match P.underlying s, P.underlying d with
 | some _, some (.int k') => (match asI x with
   | some (_, a) => K (.d (.int k') (k'.wrap a))
   | none => F)
 | some _, some .string => (match asS x with
   | some a => K (.d .str a)
   | none => F)
 | _, _ => F
def Ty.vals : (t : Ty) -> List Value -> Option (t.sem × List Value)
 | .int k, .int k' x :: l => cond (decide (k' = k)) (some (x, l)) none
 | .bool, .bool x :: l => some (x, l)
 | .str, .string x :: l => some (x, l)
 | .unit, l => some ((), l)
 | .pair a b, l => match a.vals l with
   | some (x, l1) => (match b.vals l1 with
     | some (y, l2) => some ((x, y), l2)
     | none => none)
   | none => none
 | _, _ => none
def Ty.ofV (t : Ty) (v : Value) : Option t.sem := cond t.one (match t.vals [v] with
 | some (x, []) => some x
 | _ => none) (match v with
 | .agg a => (match t.vals a.toList with
   | some (x, []) => some x
   | _ => none)
 | _ => none)
def q2P (t : Ty) (x : t.sem) : SV := cond t.one (.d t x) (.agg (t.svs x))
omit [Yl] in
theorem qM4 (t : Ty) (x : t.sem) : (q2P t x).ok h := by
 unfold q2P
 cases t.one with
 | true => simp [SV.ok]
 | false => simp only [cond_false, SV.ok]; exact qKJ t x
omit [Yl] in
theorem qH2 : ∀ {a b : List Value}, kU okC a = true -> kU okC b = true -> kU okC (a ++ b) = true
 | [], _, _, h => h
 | x :: a, b, h1, h2 => by
   rw [vF, Bool.and_eq_true] at h1;rw [List.cons_append, vF, h1.1, qH2 h1.2 h2]; rfl
omit [Yl] in
theorem dQ : ∀ {t : Ty} {l l' : List Value} {x : t.sem}, t.vals l = some (x, l') -> ∃ us, l = us ++ l' ∧ kU okC us = true ∧ xP fvv us = (t.cells x).map PV.f
 | .int k, l, l', x, e => by
   cases l with
   | nil => cases e
   | cons v l =>
     cases v <;> try (cases e; done)
     rename_i k' y;have e : cond (decide (k' = k)) (some ((y : Int), l)) none = some (x, l') := e
     cases hk : decide (k' = k) with
     | false => rw [hk] at e; cases e
     | true =>
       rw [hk] at e;cases e;have : k' = k := by simpa using hk
       subst this;exact ⟨[.int k' x], rfl, rfl, rfl⟩
 | .bool, l, l', x, e => by
   cases l with
   | nil => cases e
   | cons v l =>
     cases v <;> try (cases e; done)
     cases e;exact ⟨[.bool x], rfl, rfl, rfl⟩
 | .str, l, l', x, e => by
   cases l with
   | nil => cases e
   | cons v l =>
     cases v <;> try (cases e; done)
     cases e;exact ⟨[.string x], rfl, rfl, rfl⟩
 | .unit, l, l', x, e => by
   have e : some ((), l) = some ((), l') := by cases l <;> exact e
   cases e;exact ⟨[], rfl, rfl, rfl⟩
 | .list _ _, l, l', x, e => by cases l <;> cases e
 | .raw, l, l', x, e => by cases l <;> cases e
 | .pair a b, l, l', x, e => by
   have e : (match a.vals l with
    | some (x, l1) => (match b.vals l1 with
      | some (y, l2) => some ((x, y), l2)
      | none => none)
    | none => none) = some (x, l') := by cases l <;> exact e
   split at e
   ·rename_i x1 l1 h1;split at e
    ·rename_i y l2 h2;cases e;obtain ⟨us, rfl, u1, u2⟩ := dQ h1;obtain ⟨ws, rfl, w1, w2⟩ := dQ h2;refine ⟨us ++ ws, by rw [List.append_assoc], ?_, ?_⟩
     ·exact qH2 u1 w1
     ·show _ = (a.cells x1 ++ b.cells y).map PV.f;rw [y7] at u2 w2 ⊢;rw [List.map_append, List.map_append, u2, w2]
    ·cases e
   ·cases e
theorem qGE {t : Ty} {v : Value} {x : t.sem} (e : t.ofV v = some x) : ofC v = (q2P t x).enc := by
 unfold Ty.ofV at e;unfold q2P
 cases ht : t.one with
 | true =>
   rw [ht] at e;simp only [cond_true] at e ⊢;split at e
   ·rename_i y hy;cases e;obtain ⟨us, h1, h2, h3⟩ := dQ hy;rw [List.append_nil] at h1;subst h1;rw [Ty.cells_one ht] at h3
    have h3 : fvv v = .f (t.fv x) := by
     have : xP fvv [v] = [fvv v] := rfl;rw [this] at h3;simpa using h3
    have h2 : okC v = true := by
     rw [vF, Bool.and_eq_true] at h2; exact h2.1
    have : ofC v = fvv v := by
     unfold okC at h2;rw [Bool.and_eq_true] at h2
     cases v <;> first | (exact absurd h2.2 (by decide)) | skip
     all_goals first | (show q29 _ = _; unfold q29 okC; simp [h2.1, h2.2]) | (simp [oneCell] at h2)
    rw [this, h3]; simp [SV.enc]
   ·cases e
 | false =>
   rw [ht] at e;simp only [cond_false] at e ⊢;split at e
   ·rename_i a;split at e
    ·rename_i y hy;cases e;obtain ⟨us, h1, h2, h3⟩ := dQ hy;rw [List.append_nil] at h1;show cond (kU okC a.toList) (PV.agg (xP fvv a.toList)) .unk = _;rw [h1, h2, h3];simp only [cond_true, SV.enc, rW]
    ·cases e
   ·cases e
def smp (x : SV) (h : SH) : Option (Nat × List (Value × Value)) := match x with
 | .mp k => (match slk k h.l with
   | some (.spc _ (.map es)) => some (k, es)
   | _ => none)
 | _ => none
omit [Yl] in
theorem fA : ∀ (n : Nat) (es : List (Value × Value)) (i : Nat), (kY n es)[i]? = (es[i]?).map fun p => (⟨p.1, p.2, n + i⟩ : MapEntry)
 | n, [], i => by simp [kY]
 | n, p :: es, 0 => by simp [kY]
 | n, p :: es, i + 1 => by
   show (kY (n + 1) es)[i]? = _;rw [fA (n + 1) es i];have : n + 1 + i = n + (i + 1) := by omega
   rw [this]; simp
omit [Yl] in
theorem qIV : ∀ (n : Nat) (es : List (Value × Value)), (kY n es).length = es.length
 | n, [] => rfl
 | n, p :: es => by
   show (kY (n + 1) es).length + 1 = _;rw [qIV, List.length_cons]
omit [Yl] in
theorem qBW : ∀ (n : Nat) (es : List (Value × Value)) (k v : Value), kY n (es ++ [(k, v)]) = kY n es ++ [⟨k, v, n + es.length⟩]
 | n, [], k, v => rfl
 | n, p :: es, k, v => by
   show _ :: kY (n + 1) (es ++ [(k, v)]) = _;rw [qBW (n + 1) es k v];show _ = _ :: (kY (n + 1) es ++ _);rw [List.length_cons];have : n + 1 + es.length = n + (es.length + 1) := by omega
   rw [this]
omit [Yl] in
theorem qBU (es : List (Value × Value)) (i : Nat) (k v : Value) (f : MapEntry -> MapEntry) (hf : ∀ p, es[i]? = some p -> f ⟨p.1, p.2, i⟩ = ⟨k, v, i⟩) : kY 0 (es.set i (k, v)) = (kY 0 es).modify i f := by
 apply List.ext_getElem?;intro j;rw [fA, List.getElem?_modify, fA, List.getElem?_set, Nat.zero_add];by_cases hij : i = j
 ·subst hij;rw [if_pos rfl];simp only [if_true]
  cases he : es[i]? with
  | none =>
    have : ¬ i < es.length := fun hl => by rw [List.getElem?_eq_getElem hl] at he; cases he
    rw [if_neg this]; rfl
  | some p =>
    have := (List.getElem?_eq_some_iff.1 he).1;rw [if_pos this];simp [hf p he]
 ·rw [if_neg hij];simp only [if_neg hij];cases es[j]? <;> rfl
theorem qZA {x : SV} {k : Nat} {es : List (Value × Value)} (hs : spec P 1000000001 = true) (e : smp x h = some (k, es)) : pO P x.enc (qD h.l) = some (k, (SpO.map es).enc, es.length, kY 0 es) ∧ ∃ w, slk k h.l = some (.spc w (.map es)) := by
 unfold smp at e;split at e
 ·rename_i k';split at e
  ·rename_i w es' hk;cases e;refine ⟨?_, w, hk⟩;simp only [SV.enc, pO, xY hk]
   show cond (spec P 1000000001 && Nat.beq 1000000001 1000000001) (match mapOf (jC es.length (kY 0 es)) with
    | some (c, es') => some (k, (SO.spc w (SpO.map es)).enc, c, es')
    | none => none) none = _
   rw [hs, qOF];rfl
  ·cases e
 ·cases e
def q8P (P : Program) (kt : TypeId) (k : Value) (es : List (Value × Value)) : Option Bool := (aU P kt k (kY 0 es)).map Option.isSome
def q7Q (P : Program) (kt : TypeId) (t : Ty) (k : Value) (es : List (Value × Value)) : Option t.sem := match aU P kt k (kY 0 es) with
 | some (some i) => (match es[i]? with
   | some p => t.ofV p.2
   | none => none)
 | _ => none
def q3G (ok : Bool) (t : Ty) (x : t.sem) (b : Bool) : SV := cond ok (.tup [q2P t x, .c (.bool b)]) (q2P t x)
theorem qO8 {ok b : Bool} {t : Ty} {x : t.sem} {v : Value} (e : t.ofV v = some x) : qZW ok v b = (q3G ok t x b).enc := by
 unfold qZW q3G
 cases ok with
 | true => simp [qGE e, SV.enc, qA]
 | false => exact qGE e
omit [Yl] in
theorem qUA {ok b : Bool} {t : Ty} {x : t.sem} : (q3G ok t x b).ok h := by
 unfold q3G
 cases ok with
 | true => simp only [cond_true, SV.ok, okL, and_true]; exact qM4 t x
 | false => exact qM4 t x
def qLN (P : Program) (t : TypeId) (m kx : SV) (ok : Bool) (h : SH) (K : SV -> Tree R) : Tree R := match P.underlying t, smp m h, aG kx with
 | some (.map kt et), some (_, es), some kv => (match qLP P 8 et, vZ P et with
   | some vt, some z => (match vt.ofV z with
     | some z0 => cond (spec P 1000000001 && zO z) (.bind (q8P P kt kv es) fun b => .ite b (.bind (q7Q P kt vt kv es) fun x => K (q3G ok vt x true)) (K (q3G ok vt z0 false))) .fail
     | none => .fail)
   | _, _ => .fail)
 | _, _, _ => .fail
theorem qQG {t : TypeId} {m kx : SV} {ok : Bool} {K : SV -> Tree R} (e : (qLN P t m kx ok h K).run = some r) : ∃ v, gI P t m.enc kx.enc ok (qD h.l) = some v.enc ∧ v.ok h ∧ (K v).run = some r := by
 unfold qLN at e;split at e
 case h_2 => cases e
 rename_i kt et k es kv hu hm hk;split at e
 case h_2 => cases e
 rename_i vt z hvt hz;split at e
 case h_2 => cases e
 rename_i z0 hz0;obtain ⟨c, e1⟩ := qF e;rw [Bool.and_eq_true] at c;obtain ⟨b, hb, e2⟩ := run_bind e1;obtain ⟨h1, w, h2⟩ := qZA c.1 hm
 have pre : gI P t m.enc kx.enc ok (qD h.l) = (match aU P kt kv (kY 0 es) with
  | some (some i) => (match (kY 0 es)[i]? with
    | some e => some (qZW ok e.val true)
    | none => none)
  | some none => some (qZW ok z false)
  | none => none) := by
  unfold gI;rw [hu, h1, jV hk];simp only [hz, c.2, cond_true];rfl
 rw [pre];unfold q8P at hb
 cases hf : aU P kt kv (kY 0 es) with
 | none => rw [hf] at hb; cases hb
 | some o =>
   rw [hf] at hb
   cases o with
   | none =>
     cases hb;refine ⟨_, by simp only [qO8 hz0], qUA, e2⟩
   | some i =>
     cases hb;obtain ⟨x, hx, e3⟩ := run_bind (show (Tree.bind (q7Q P kt vt kv es) fun x => K (q3G ok vt x true)).run = some r from e2);unfold q7Q at hx;rw [hf] at hx;simp only at hx;split at hx
     ·rename_i p hp;refine ⟨_, ?_, qUA, e3⟩;simp only [fA, hp, Option.map_some, qO8 hx]
     ·cases hx
def q8M (P : Program) (kt : TypeId) (k v : Value) (es : List (Value × Value)) : Option (List (Value × Value)) := match aU P kt k (kY 0 es) with
 | some (some i) => (match es[i]? with
   | some p => cond (Instr.sameBits 10000 p.1 k) (some (es.set i (k, v))) none
   | none => none)
 | some none => some (es ++ [(k, v)])
 | none => none
def cB (P : Program) (t : TypeId) (m kx x : SV) (h : SH) (K : SV -> SH -> Tree R) : Tree R := match P.underlying t, smp m h, aG kx, aG x with
 | some (.map kt _), some (k, es), some kv, some xv => cond (spec P 1000000001 && qR xv) (.bind (q8M P kt kv xv es) fun es' => K (.tup []) (h.put k fun v => .spc v (.map es'))) .fail
 | _, _, _, _ => .fail
theorem fM {k : Nat} {es es' : List (Value × Value)} {w : Nat} (ho : OkH P h) (hk : slk k h.l = some (.spc w (.map es))) : Keep h (h.put k fun v => .spc v (.map es')) ∧ OkH P (h.put k fun v => .spc v (.map es')) ∧
 qD (h.put k fun v => .spc v (.map es')).l = vO k { (SpO.map es).enc with cs := jC es'.length (kY 0 es') } (qD h.l) := by
 have := nA (f := fun v => .spc v (.map es')) ho hk rfl;exact ⟨this.1, this.2, uM k _ _⟩
theorem nK {t : TypeId} {m kx x : SV} {K : SV -> SH -> Tree R} (ho : OkH P h) (e : (cB P t m kx x h K).run = some r) :
 ∃ h', kP P t m.enc kx.enc x.enc (qD h.l) = some (qD h'.l) ∧ Keep h h' ∧ OkH P h' ∧ (K (.tup []) h').run = some r := by
 unfold cB at e;split at e
 case h_2 => cases e
 rename_i kt et k es kv xv hu hm hkv hxv;obtain ⟨c, e1⟩ := qF e;rw [Bool.and_eq_true] at c;obtain ⟨es', hs, e2⟩ := run_bind e1;obtain ⟨h1, w, h2⟩ := qZA c.1 hm;obtain ⟨p1, p2, p3⟩ := fM (es' := es') ho h2;refine ⟨_, ?_, p1, p2, e2⟩;unfold kP;rw [hu, h1, jV hkv, jV hxv, p3];simp only [c.2, cond_true];unfold q8M at hs
 cases hf : aU P kt kv (kY 0 es) with
 | none => rw [hf] at hs; cases hs
 | some o =>
   rw [hf] at hs
   cases o with
   | none =>
     cases hs;simp only [qBW, List.length_append, List.length_cons, List.length_nil, Nat.zero_add]
   | some i =>
     simp only at hs ⊢;split at hs
     ·rename_i p hp
      cases hb : Instr.sameBits 10000 p.1 kv with
      | false => rw [hb] at hs; cases hs
      | true =>
        rw [hb] at hs;cases hs;simp only [fA, hp, Option.map_some, hb, cond_true];rw [qBU es i kv xv (fun e => { e with key := kv, val := xv }) (fun _ _ => rfl), List.length_set]
     ·cases hs
def q75 (P : Program) (kt : TypeId) (t : Ty) (k z : Value) (es : List (Value × Value)) : Option (List (Value × Value) × Nat × t.sem) := match aU P kt k (kY 0 es) with
 | some (some i) => (match es[i]? with
   | some p => cond (Instr.sameBits 10000 p.1 k) (match t.ofV p.2 with
     | some x => some (es.set i (k, p.2), i, x)
     | none => none) none
   | none => none)
 | some none => (match t.ofV z with
   | some x => some (es ++ [(k, z)], es.length, x)
   | none => none)
 | none => none
def qB8 (P : Program) (t : TypeId) (m kx : SV) (h : SH) (K : SV -> SH -> Tree R) : Tree R := match P.underlying t, smp m h, aG kx with
 | some (.map kt et), some (k, es), some kv => (match qLP P 8 et, vZ P et with
   | some vt, some z => cond (spec P 1000000001 && zO z) (.bind (q75 P kt vt kv z es) fun q => K (.tup [q2P vt q.2.2, .d (.int .i64) (q.2.1 : Int)]) (h.put k fun v => .spc v (.map q.1))) .fail
   | _, _ => .fail)
 | _, _, _ => .fail
theorem qHR {t : TypeId} {m kx : SV} {K : SV -> SH -> Tree R} (ho : OkH P h) (e : (qB8 P t m kx h K).run = some r) :
 ∃ v h', wX P t m.enc kx.enc (qD h.l) = some (v.enc, qD h'.l) ∧ Post P h h' v ∧ (K v h').run = some r := by
 unfold qB8 at e;split at e
 case h_2 => cases e
 rename_i kt et k es kv hu hm hkv;split at e
 case h_2 => cases e
 rename_i vt z hvt hz;obtain ⟨c, e1⟩ := qF e;rw [Bool.and_eq_true] at c;obtain ⟨q, hs, e2⟩ := run_bind e1;obtain ⟨h1, w, h2⟩ := qZA c.1 hm;obtain ⟨p1, p2, p3⟩ := fM (es' := q.1) ho h2;refine ⟨_, _, ?_, ⟨p1, p2, ?_⟩, e2⟩
 ·unfold wX;rw [hu, h1, jV hkv, p3];unfold q75 at hs
  cases hf : aU P kt kv (kY 0 es) with
  | none => rw [hf] at hs; cases hs
  | some o =>
    rw [hf] at hs
    cases o with
    | none =>
      simp only at hs ⊢;split at hs
      ·rename_i x hx;cases hs;simp only [hf, hz, c.2, cond_true, qBW, List.length_append, List.length_cons, List.length_nil, Nat.zero_add, SV.enc, qA, qGE hx, Ty.fv, fvv]
      ·cases hs
    | some i =>
      simp only at hs ⊢;split at hs
      ·rename_i p hp
       cases hb : Instr.sameBits 10000 p.1 kv with
       | false => rw [hb] at hs; cases hs
       | true =>
         rw [hb] at hs;simp only [cond_true] at hs;split at hs
         ·rename_i x hx;cases hs;simp only [hf, fA, hp, Option.map_some, hb, cond_true, SV.enc, qA, qGE hx, Ty.fv, fvv, Nat.zero_add];rw [qBU es i kv p.2 (fun e => { e with key := kv }) (fun p' hp' => by rw [hp] at hp'; cases hp'; rfl), List.length_set]
         ·cases hs
      ·cases hs
 ·simp only [SV.ok, okL, and_true]; exact qM4 _ _
def q73 (born : Int) (v : Value) (es : List (Value × Value)) : Option (List (Value × Value)) := match (kY 0 es).findIdx? (fun e => (e.born : Int) == born) with
 | some i => (match es[i]? with
   | some p => some (es.set i (p.1, v))
   | none => none)
 | none => none
def mW (P : Program) (m st x : SV) (h : SH) (K : SV -> SH -> Tree R) : Tree R := match smp m h, asI st, aG x with
 | some (k, es), some (_, b), some xv => cond (spec P 1000000001 && qR xv) (.bind (q73 b xv es) fun es' => K (.tup []) (h.put k fun v => .spc v (.map es'))) .fail
 | _, _, _ => .fail
theorem qDA {m st x : SV} {K : SV -> SH -> Tree R} (ho : OkH P h) (e : (mW P m st x h K).run = some r) :
 ∃ h', xX P m.enc st.enc x.enc (qD h.l) = some (qD h'.l) ∧ Keep h h' ∧ OkH P h' ∧ (K (.tup []) h').run = some r := by
 unfold mW at e;split at e
 case h_2 => cases e
 rename_i k es ki b xv hm hst hxv;obtain ⟨c, e1⟩ := qF e;rw [Bool.and_eq_true] at c;obtain ⟨es', hs, e2⟩ := run_bind e1;obtain ⟨h1, w, h2⟩ := qZA c.1 hm;obtain ⟨p1, p2, p3⟩ := fM (es' := es') ho h2;refine ⟨_, ?_, p1, p2, e2⟩;unfold xX;have hpl : pl (fvv (.int ki b)) = some (.int ki b) := rfl;rw [h1, xN hst, hpl, jV hxv, p3];simp only [c.2, cond_true];unfold q73 at hs;split at hs
 ·rename_i i hi;rw [hi];split at hs
  ·rename_i p hp;cases hs;simp only;rw [qBU es i p.1 xv (fun e => { e with val := xv }) (fun p' hp' => by rw [hp] at hp'; cases hp'; rfl), List.length_set]
  ·cases hs
 ·cases hs
def qN0 (P : Program) (k : Nat) (h : SH) (K : SV -> SH -> Tree R) : Tree R := cond (spec P 1000000001) (K (.mp k) (h.new k fun v => .spc v (.map []))) .fail
theorem qL5 {k : Nat} {K : SV -> SH -> Tree R} (ho : OkH P h) (e : (qN0 P k h K).run = some r) : ∃ v h', dY P k (qD h.l) = some (v.enc, qD h'.l) ∧ Post P h h' v ∧ (K v h').run = some r := by
 obtain ⟨c, e1⟩ := qF e;have hp := kW (k := k) (f := fun v => .spc v (.map [])) ho rfl;refine ⟨_, _, ?_, ⟨hp.1, hp.2, by simp [SV.ok]⟩, e1⟩;unfold dY;rw [c];simp only [cond_true, qJ6, SV.enc];rfl
def q00 (P : Program) (ts : Array TypeId) (x : SV) (h : SH) : Option SV := match smp x h with
 | some (_, es) => cond (spec P 1000000001 && q4C P ts) (some (.d (.int .i64) ((List.length es : Nat) : Int))) none
 | none => none
theorem qZK {ts : Array TypeId} {x v : SV} (e : q00 P ts x h = some v) : qC7 P ts x.enc (qD h.l) = some v.enc ∧ v.ok h := by
 unfold q00 at e;split at e
 case h_2 => cases e
 rename_i k es hm
 cases hc : (spec P 1000000001 && q4C P ts) with
 | false => rw [hc] at e; cases e
 | true =>
   rw [hc] at e;cases e;rw [Bool.and_eq_true] at hc;refine ⟨?_, by simp [SV.ok]⟩;unfold smp at hm;split at hm
   case h_2 => cases hm
   rename_i k';split at hm
   case h_2 => cases hm
   rename_i w es' hk;cases hm
   have h1 : sN P (SV.enc (.mp k)) (qD h.l) = some (jC es.length (kY 0 es)) := by
    simp only [SV.enc, sN, xY hk];show cond (!false && (spec P 1000000001 && Nat.beq 1000000001 1000000001)) (some (jC es.length (kY 0 es))) none = _;rw [hc.1]; rfl
   unfold qC7;rw [h1];simp only [hc.2, cond_true, yY, qIV];have : (3 * es.length + 1) / 3 = es.length := by omega
   rw [this];simp [SV.enc, Ty.fv, fvv]
def qRL (P : Program) (t : TypeId) (x : SV) (k : Nat) (h : SH) (K : SV -> SH -> Tree R) : Tree R := match asS x with
 | some s => cond (qI5 P t && spec P 1000000000) (K (.ref k 0 2) (h.new k fun v => .spc v (.iter s 0))) .fail
 | none => .fail
theorem qU9 {t : TypeId} {x : SV} {k : Nat} {K : SV -> SH -> Tree R} (ho : OkH P h) (e : (qRL P t x k h K).run = some r) : ∃ v h', qED P t x.enc k (qD h.l) = some (v.enc, qD h'.l) ∧ Post P h h' v ∧ (K v h').run = some r := by
 unfold qRL at e;split at e
 case h_2 => cases e
 rename_i s hs;obtain ⟨c, e1⟩ := qF e;rw [Bool.and_eq_true] at c;have hp := kW (k := k) (f := fun v => .spc v (.iter s 0)) ho rfl;refine ⟨_, _, ?_, ⟨hp.1, hp.2, by simp [SV.ok]⟩, e1⟩;unfold qED;have hpl : pl (fvv (.string s)) = some (.string s) := rfl;rw [pU c.1, gL hs, hpl];simp only [c.2, cond_true, qJ6, SV.enc];rfl
def q18 (P : Program) (x : SV) (h : SH) (K : SV -> SH -> Tree R) : Tree R := match x with
 | .ref k off w => (match slk k h.l with
   | some (.spc _ (.iter s pos)) => cond (spec P 1000000000 && (Nat.beq w 2 && Nat.beq off 0)) (.ite (decide (pos < s.size))
      (K (.tup [.c (.bool true), .d (.int .i64) (pos : Int), .d (.int .i32) ((Utf8.decode s pos).1 : Int)]) (h.put k fun v => .spc v (.iter s (pos + (Utf8.decode s pos).2))))
      (K (.tup [.c (.bool false)]) h)) .fail
   | _ => .fail)
 | _ => .fail
theorem qWV {x : SV} {K : SV -> SH -> Tree R} (ho : OkH P h) (e : (q18 P x h K).run = some r) : ∃ v h', qIG P x.enc (qD h.l) = some (v.enc, qD h'.l) ∧ Post P h h' v ∧ (K v h').run = some r := by
 unfold q18 at e;split at e
 case h_2 => cases e
 rename_i k off w;split at e
 case h_2 => cases e
 rename_i w0 s pos hk;obtain ⟨c, e1⟩ := qF e
 have pre : qIG P (SV.enc (.ref k off w)) (qD h.l) = cond (decide (pos < s.size))
  (some (PV.tup [fvv (.bool true), fvv (.int .i64 (pos : Int)), fvv (.int .i32 (Utf8.decode s pos).1)], vO k { (SpO.iter s pos).enc with cs := qAV s (pos + (Utf8.decode s pos).2) } (qD h.l)))
  (some (.tup [fvv (.bool false)], qD h.l)) := by
  simp only [SV.enc, qIG, xY hk];show cond (spec P 1000000000 && (Nat.beq 1000000000 1000000000 && (Nat.beq w 2 && Nat.beq off 0))) _ none = _;have : (Nat.beq 1000000000 1000000000) = true := rfl;rw [this, Bool.true_and, c];rfl
 rw [pre]
 rcases run_ite e1 with ⟨z, e2⟩ | ⟨z, e2⟩
 ·rw [z];have hp := nA (f := fun v => .spc v (.iter s (pos + (Utf8.decode s pos).2))) ho hk rfl;refine ⟨_, _, ?_, ⟨hp.1, hp.2, by simp [SV.ok, okL]⟩, e2⟩;simp only [cond_true, SV.enc, qA, Ty.fv, fvv];rw [show qD (h.put k fun v => .spc v (.iter s (pos + (Utf8.decode s pos).2))).l = _ from uM k _ _];rfl
 ·rw [z];exact ⟨_, _, by simp [SV.enc, qA], ⟨.refl _, ho, by simp [SV.ok, okL]⟩, e2⟩
end
end Go.Sv
namespace Go.Sv
open Go.Idl
noncomputable section
variable [Gc]
variable [Yl]
variable {P : Program} {h : SH} {R : Type} {r : R}
def q1K (k : IntKind) : PV -> Option Int
 | .f (.v (.int k' x)) => cond (decide (k' = k)) (some x) none
 | _ => none
def q2N : PV -> Option Bool
 | .f (.v (.bool x)) => some x
 | _ => none
def q3I : PV -> Option ByteArray
 | .f (.v (.string x)) => some x
 | _ => none
def Ty.decP : (t : Ty) -> PV -> Option t.sem
 | .int k, p => q1K k p
 | .bool, p => q2N p
 | .str, p => q3I p
 | .raw, _ => none
 | .unit, _ => none
 | .list _ _, _ => none
 | .pair _ _, _ => none
omit [Yl] in
theorem q0Y : ∀ {t : Ty} {p : PV} {x : t.sem}, t.decP p = some x -> p = .f (t.fv x)
 | .int k, p, x, e => by
   have e1 : q1K k p = some x := e;clear e;unfold q1K at e1;split at e1
   ·rename_i k' y;have e := e1;clear e1
    cases hk : decide (k' = k) with
    | false => rw [hk] at e; cases e
    | true =>
      rw [hk] at e;cases e;have : k' = k := by simpa using hk
      subst this;rfl
   ·cases e1
 | .bool, p, x, e => by
   have e1 : q2N p = some x := e;clear e;unfold q2N at e1;split at e1
   ·cases e1; rfl
   ·cases e1
 | .str, p, x, e => by
   have e1 : q3I p = some x := e;clear e;unfold q3I at e1;split at e1
   ·cases e1; rfl
   ·cases e1
 | .unit, _, _, e => by cases e
 | .list _ _, _, _, e => by cases e
 | .pair _ _, _, _, e => by cases e
 | .raw, _, _, e => by cases e
def Ty.decPO (t : Ty) (o : Option PV) : Option t.sem := o.bind t.decP
theorem qN5 {t : Ty} {o : Option PV} {x : t.sem} (e : t.decPO o = some x) : o = some (SV.d t x).enc := by
 obtain ⟨p, h1, h2⟩ := Option.bind_eq_some_iff.1 e;rw [h1, q0Y h2]; simp [SV.enc]
def sint (op : BinOp) (k : IntKind) (a b : Int) (K : SV -> Tree R) (F : Tree R) : Tree R := match op with
 | .lss => K (.d .bool (decide (a < b)))
 | .leq => K (.d .bool (decide (a <= b)))
 | .gtr => K (.d .bool (decide (b < a)))
 | .geq => K (.d .bool (decide (b <= a)))
 | .eql => K (.d .bool (a == b))
 | .neq => K (.d .bool (a != b))
 | .add => K (.d (.int k) (k.wrap (a + b)))
 | .sub => K (.d (.int k) (k.wrap (a - b)))
 | .mul => K (.d (.int k) (k.wrap (a * b)))
 | .quo => .bind (q6I k a b) fun c => K (.d (.int k) c)
 | .rem => .bind (q6U a b) fun c => K (.d (.int k) c)
 | _ => F
omit [Yl] in
theorem q2C {op : BinOp} {t t2 : TypeId} {x y : PV} {a b : Value} {ph : PHp} (hx : pl x = some a) (hy : pl y = some b) : bE P op t t2 x y ph = bE P op t t2 (fvv a) (fvv b) [] := by
 unfold bE;rw [hx, hy];rfl
def qQX (P : Program) (op : BinOp) (t t2 ty : TypeId) (x y : SV) (K : SV -> Tree R) : Tree R := match aG x, aG y, qLP P 8 ty with
 | some a, some b, some u => .bind (u.decPO (bE P op t t2 (fvv a) (fvv b) [])) fun z => K (.d u z)
 | _, _, _ => .fail
def q7P (P : Program) (t : TypeId) (x y : SV) (h : SH) : Option Bool := match y with
 | .c (.slice none _ _) => cond (yS P t).isSome (match x with
   | .own k g n => (match slk k h.l with
     | some (.list _ gr g' _ _ _) => cond (Nat.beq g g') (some (gr && Nat.beq n 0)) none
     | _ => none)
   | _ => none) none
 | .c .nilFunc => cond (qSM P t) (match x with
   | .fn _ _ _ => some false
   | _ => none) none
 | _ => none
theorem qUS {t : TypeId} {x y : SV} {b : Bool} (ho : OkH P h) (hx : x.ok h) (e : q7P P t x y h = some b) : qWT P t x.enc y.enc (qD h.l) = some b ∧ pl x.enc = none := by
 unfold q7P at e;split at e
 ·rename_i n c
  cases h1 : (yS P t).isSome with
  | false => rw [h1] at e; cases e
  | true =>
    rw [h1] at e;simp only [cond_true] at e;split at e
    ·rename_i k g n;split at e
     ·rename_i el gr g' w u xs hk
      cases h2 : Nat.beq g g' with
      | false => rw [h2] at e; cases e
      | true =>
        rw [h2] at e;cases e;have hg : g = g' := Nat.eq_of_beq_eq_true h2;subst hg;simp only [SV.ok] at hx;have hn := hx.2 _ _ _ _ _ hk;have hl := ho.list _ _ _ _ _ _ _ hk;refine ⟨?_, by simp [SV.enc, pl]⟩;simp only [SV.enc, fvv, qWT, h1, cond_true, isNil, xY hk];rw [show (SO.list el gr g w u xs).enc.el = el from rfl, hl.2.1];simp only [qV, hn, qCK, cond_true];rfl
     ·cases e
    ·cases e
 ·cases h1 : qSM P t with
  | false => rw [h1] at e; cases e
  | true =>
    rw [h1] at e;simp only [cond_true] at e;split at e
    ·cases e;exact ⟨by simp [SV.enc, fvv, qWT, h1, qPP], by simp [SV.enc, pl]⟩
    ·cases e
 ·cases e
def q63 (P : Program) (op : BinOp) (t t2 ty : TypeId) (x y : SV) (h : SH) (K : SV -> Tree R) : Tree R := match asI x, asI y with
 | some (k, a), some (k', b) => cond (decide (k = k')) (sint op k a b K (qQX P op t t2 ty x y K)) (qQX P op t t2 ty x y K)
 | _, _ => (match asS x, asS y with
   | some a, some b => q8L op a b K (qQX P op t t2 ty x y K)
   | _, _ => (match q7P P t x y h, op with
     | some b, .eql => K (.d .bool b)
     | some b, .neq => K (.d .bool (!b))
     | _, _ => qQX P op t t2 ty x y K))
theorem qAD {op : BinOp} {t t2 ty : TypeId} {x y : SV} {K : SV -> Tree R} (e : (qQX P op t t2 ty x y K).run = some r) : ∃ v, bE P op t t2 x.enc y.enc (qD h.l) = some v.enc ∧ v.ok h ∧ (K v).run = some r := by
 unfold qQX at e;split at e
 ·rename_i a b u ha hb hu;obtain ⟨z, hz, e1⟩ := run_bind e;refine ⟨_, ?_, by simp [SV.ok], e1⟩;rw [q2C (jV ha) (jV hb)];exact qN5 hz
 ·cases e
theorem q20 {op : BinOp} {t t2 ty : TypeId} {x y : SV} {K : SV -> Tree R} (ho : OkH P h) (hx : x.ok h) (e : (q63 P op t t2 ty x y h K).run = some r) : ∃ v, bE P op t t2 x.enc y.enc (qD h.l) = some v.enc ∧ v.ok h ∧ (K v).run = some r := by
 unfold q63 at e;split at e
 ·rename_i k a k' b ha hb
  cases hk : decide (k = k') with
  | false => rw [hk] at e; exact qAD e
  | true =>
    rw [hk] at e;have hkk : k = k' := by simpa using hk
    subst hkk;simp only [cond_true] at e;have ha' := xN ha;have hb' := xN hb
    have fin : ∀ {v : SV}, bE P op t t2 (fvv (.int k a)) (fvv (.int k b)) (qD h.l) = some v.enc -> v.ok h -> (K v).run = some r -> ∃ v, bE P op t t2 x.enc y.enc (qD h.l) = some v.enc ∧ v.ok h ∧ (K v).run = some r := fun h1 h2 h3 => ⟨_, by rw [ha', hb']; exact h1, h2, h3⟩
    unfold sint at e;split at e
    ·exact fin (v := .d .bool (decide (a < b))) q49 (by simp [SV.ok]) e
    ·exact fin (v := .d .bool (decide (a <= b))) q5G (by simp [SV.ok]) e
    ·exact fin (v := .d .bool (decide (b < a))) q5J (by simp [SV.ok]) e
    ·exact fin (v := .d .bool (decide (b <= a))) q5D (by simp [SV.ok]) e
    ·exact fin (v := .d .bool (a == b)) q4E (by simp [SV.ok]) e
    ·exact fin (v := .d .bool (a != b)) q46 (by simp [SV.ok]) e
    ·exact fin (v := .d (.int k) (k.wrap (a + b))) q5P (by simp [SV.ok]) e
    ·exact fin (v := .d (.int k) (k.wrap (a - b))) q52 (by simp [SV.ok]) e
    ·exact fin (v := .d (.int k) (k.wrap (a * b))) q4W (by simp [SV.ok]) e
    ·obtain ⟨c, hc, e1⟩ := run_bind e;exact fin (v := .d (.int k) c) (q4L hc) (by simp [SV.ok]) e1
    ·obtain ⟨c, hc, e1⟩ := run_bind e;exact fin (v := .d (.int k) c) (q4F hc) (by simp [SV.ok]) e1
    ·exact qAD e
 ·split at e
  ·rename_i a b ha hb;have ha' := gL ha;have hb' := gL hb;unfold q8L at e;split at e
   ·rcases run_ite e with ⟨z, e1⟩ | ⟨z, e1⟩
    ·exact ⟨.d .str (a ++ b), by rw [ha', hb', q07 (Nat.le_of_ble_eq_true z)]; simp [SV.enc, Ty.fv, fvv], by simp [SV.ok], e1⟩
    ·cases e1
   ·exact ⟨.d .bool (a.toList == b.toList), by rw [ha', hb', q1U]; simp [SV.enc, Ty.fv, fvv], by simp [SV.ok], e⟩
   ·exact ⟨.d .bool (!(a.toList == b.toList)), by rw [ha', hb', q13]; simp [SV.enc, Ty.fv, fvv], by simp [SV.ok], e⟩
   ·exact qAD e
  split at e
  ·rename_i b hs;obtain ⟨h1, h2⟩ := qUS ho hx hs;refine ⟨_, ?_, by simp [SV.ok], e⟩;unfold bE;rw [h2];simp [h1, SV.enc, Ty.fv, fvv]
  ·rename_i b hs;obtain ⟨h1, h2⟩ := qUS ho hx hs;refine ⟨_, ?_, by simp [SV.ok], e⟩;unfold bE;rw [h2];simp [h1, SV.enc, Ty.fv, fvv]
  ·exact qAD e
def qS2 (P : Program) (mk : Operand -> Op) (ty : TypeId) (x : SV) (K : SV -> Tree R) : Tree R := match qDT x, qLP P 8 ty with
 | some a, some u => .bind (u.decPO (aZ P mk (fvv a))) fun z => K (.d u z)
 | _, _ => .fail
theorem qOH {mk : Operand -> Op} {ty : TypeId} {x : SV} {K : SV -> Tree R} (e : (qS2 P mk ty x K).run = some r) : ∃ v, aZ P mk x.enc = some v.enc ∧ v.ok h ∧ (K v).run = some r ∧ ∃ a, qDT x = some a := by
 unfold qS2 at e;split at e
 ·rename_i a u ha hu;obtain ⟨z, hz, e1⟩ := run_bind e;exact ⟨_, by rw [pQ ha]; exact qN5 hz, by simp [SV.ok], e1, a, ha⟩
 ·cases e
def sun (P : Program) (op : UnOp) (t ty : TypeId) (x : SV) (K : SV -> Tree R) : Tree R := match op, asI x, asB x with
 | .neg, some (k, a), _ => K (.d (.int k) (k.wrap (0 - a)))
 | .not, _, some b => K (.d .bool (!b))
 | _, _, _ => qS2 P (fun a => .unOp op t a) ty x K
omit [Yl] in
theorem q03 {k : IntKind} {x : Int} {t : TypeId} : aZ P (fun a => .unOp .neg t a) (fvv (.int k x)) = some (fvv (.int k (k.wrap (0 - x)))) := rfl
theorem q4V {op : UnOp} {t ty : TypeId} {x : SV} {K : SV -> Tree R} (e : (sun P op t ty x K).run = some r) : ∃ v, aZ P (fun a => .unOp op t a) x.enc = some v.enc ∧ v.ok h ∧ (K v).run = some r := by
 unfold sun at e;split at e
 ·rename_i k a ha;exact ⟨_, by rw [xN ha, q03]; simp [SV.enc, Ty.fv, fvv], by simp [SV.ok], e⟩
 ·rename_i b hb;exact ⟨_, by rw [rH hb, q4B]; simp [SV.enc, Ty.fv, fvv], by simp [SV.ok], e⟩
 ·obtain ⟨v, h1, h2, h3, _⟩ := qOH (h := h) e;exact ⟨v, h1, h2, h3⟩
def oG (env : List SV) (l : Array Operand) : List SV := l.toList.map (xG env)
theorem nP (env : List SV) (l : Array Operand) : l.toList.map (qL (qA env)) = qA (oG env l) := by
 unfold oG;rw [qZ (l.toList.map (xG env)), List.map_map];exact List.map_congr_left fun x _ => qJ env x
omit [Yl] in
theorem nY {env : List SV} (ho : okL h env) (l : Array Operand) : okL h (oG env l) := xA.2 fun x hx => by
 obtain ⟨q, _, rfl⟩ := List.mem_map.1 hx;exact qBV ho _
def smm (lo : Bool) (x y : SV) (K : SV -> Tree R) : Tree R := match asI x, asI y with
 | some (k, a), some (k', b) => cond (decide (k = k')) (K (.d (.int k) (cond lo (cond (decide (b < a)) b a) (cond (decide (a < b)) b a)))) .fail
 | _, _ => .fail
omit [Yl] in
theorem dmin {x y : Operand} {ts : Array TypeId} {ty : TypeId} {k : IntKind} {a b : Int} {env : Env} (hx : env.val x = .int k a) (hy : env.val y = .int k b) :
 qVC (xW P (cop (.call ⟨.builtin .min, #[x, y], ts⟩) ty) env H00) = some (fvv (.int k (if b < a then b else a))) := by
 have h2 : xP env.val (cop (.call ⟨.builtin .min, #[x, y], ts⟩) ty).op.operands.toList = [env.val x, env.val y] := rfl;unfold xW;rw [h2];simp only [cop, execOp, resolve, List.map_toArray, List.map_cons, List.map_nil, hx, hy];rfl
omit [Yl] in
theorem dmax {x y : Operand} {ts : Array TypeId} {ty : TypeId} {k : IntKind} {a b : Int} {env : Env} (hx : env.val x = .int k a) (hy : env.val y = .int k b) :
 qVC (xW P (cop (.call ⟨.builtin .max, #[x, y], ts⟩) ty) env H00) = some (fvv (.int k (if a < b then b else a))) := by
 have h2 : xP env.val (cop (.call ⟨.builtin .max, #[x, y], ts⟩) ty).op.operands.toList = [env.val x, env.val y] := rfl;unfold xW;rw [h2];simp only [cop, execOp, resolve, List.map_toArray, List.map_cons, List.map_nil, hx, hy];rfl
omit [Yl] in
theorem qVP {p : Prop} [Decidable p] {α : Type} {x y : α} : cond (decide p) x y = if p then x else y := by
 by_cases h : p <;> simp [h]
theorem qZ7 {lo : Bool} {c : Call} {x y : SV} {env : List SV} {ty : TypeId} {K : SV -> Tree R} (hl : oG env c.args = [x, y]) (hc : c.callee = .builtin (cond lo .min .max)) (e : (smm lo x y K).run = some r) :
 ∃ v, vS P (cond lo .min .max) c [x.enc, y.enc] (qA env) ty (qD h.l) = some (v.enc, qD h.l) ∧ v.ok h ∧ (K v).run = some r := by
 unfold smm at e;split at e
 ·rename_i k a k' b ha hb
  cases hk : decide (k = k') with
  | false => rw [hk] at e; cases e
  | true =>
    rw [hk] at e;have : k = k' := by simpa using hk
    subst this;have e1 := xN ha;have e2 := xN hb;refine ⟨_, ?_, by simp [SV.ok], e⟩;obtain ⟨cal, args, ts⟩ := c;simp only at hc hl;subst hc;unfold oG at hl
    have hal : ∃ p q, args = #[p, q] ∧ xG env p = x ∧ xG env q = y := by
     obtain ⟨l⟩ := args
     match l, hl with
     | [p, q], hl => simp at hl; exact ⟨p, q, rfl, hl.1, hl.2⟩
    obtain ⟨p, q, rfl, hp, hq⟩ := hal;have vp : (qRC (qA env)).val p = .int k a := cZ P (by rw [qJ, hp, e1]; rfl);have vq : (qRC (qA env)).val q = .int k b := cZ P (by rw [qJ, hq, e2]; rfl);unfold vS;rw [e1, e2];have hpl : plL [fvv (.int k a), fvv (.int k b)] = some [.int k a, .int k b] := rfl;rw [hpl]
    cases lo with
    | true =>
      simp only [cond_true];rw [dmin vp vq, qVP];simp [pp1, SV.enc, Ty.fv, fvv]
    | false =>
      simp only [cond_false];rw [dmax vp vq, qVP];simp [pp1, SV.enc, Ty.fv, fvv]
 ·cases e
def q1P (P : Program) (ts : Array TypeId) (x : SV) (h : SH) : Option SV := match sN P x.enc (qD h.l) with
 | some _ => none
 | none => q6Q P ts x h
theorem qYQ {ts : Array TypeId} {x v : SV} (ho : OkH P h) (hx : x.ok h) (e : q1P P ts x h = some v) : qC7 P ts x.enc (qD h.l) = some v.enc ∧ v.ok h := by
 unfold q1P at e;split at e
 ·cases e
 ·rename_i hn;unfold qC7;rw [hn];exact q04 ho hx e
theorem qQ5 {t : TypeId} {s : ByteArray} {lo hi : Option Operand} {env : List SV} {K : SV -> Tree R} (e : (qRM P t s (lo.map (xG env)) (hi.map (xG env)) K).run = some r) :
 ∃ v, qLB P (.slice t (.const (.string s)) (lo.map fun a => .const ((pl (qL (qA env) a)).getD undef)) (hi.map fun a => .const ((pl (qL (qA env) a)).getD undef)) none) = some v.enc ∧ v.ok h ∧ (K v).run = some r ∧ (plL ((lo.toList ++ hi.toList).map (qL (qA env)))).isSome = true := by
 obtain ⟨c, e1⟩ := qF e;obtain ⟨b, hb, _, e2⟩ := gJ e1;obtain ⟨a, ha, _, e3⟩ := gJ e2;have m : ∀ o : Option Operand, (o.map (xG env)).map SV.enc = o.map (qL (qA env)) := fun o => by cases o <;> simp [qJ]
 rw [m] at hb ha;refine ⟨.d .str (s.extract a b), by rw [qYJ (pU c) hb ha]; simp [SV.enc, Ty.fv, fvv], by simp [SV.ok], e3, ?_⟩
 have one : ∀ {o : Option Operand} {d most n : Nat}, bnd d most (o.map (qL (qA env))) = some n -> o = none ∨ ∃ a k i, o = some a ∧ qL (qA env) a = fvv (.int k i) := fun {o d most n} h => by
  rcases qV7 h with ⟨q, _⟩ | ⟨k, i, q, _⟩
  ·cases o with
   | none => exact .inl rfl
   | some a => cases q
  ·cases o with
   | none => cases q
   | some a => exact .inr ⟨a, k, i, rfl, by simpa using q⟩
 rcases one hb with rfl | ⟨x, k, i, rfl, hx⟩ <;> rcases one ha with rfl | ⟨y, k', i', rfl, hy⟩ <;> simp_all [plL, fvv, pl]
theorem qQW {t : TypeId} {s : ByteArray} {ix : SV} {K : SV -> Tree R} (e : (qLI P t s ix K).run = some r) :
 ∃ v k i, ix.enc = fvv (.int k i) ∧ qLB P (.index t (.const (.string s)) (.const (.int k i))) = some v.enc ∧ v.ok h ∧ (K v).run = some r := by
 unfold qLI at e;split at e
 ·rename_i k i hi;obtain ⟨c, e1⟩ := qF e;obtain ⟨b, hb, e2⟩ := run_bind e1;exact ⟨.d (.int .u8) b, k, i, xN hi, by rw [qW3 (pU c) hb]; simp [SV.enc, Ty.fv, fvv], by simp [SV.ok], e2⟩
 ·cases e
theorem qYV {s d : TypeId} {x : SV} {K : SV -> Tree R} {F : Tree R} (e : (qYK P s d x K F).run = some r) : (∃ v, aZ P (fun a => .convert s d a) x.enc = some v.enc ∧ v.ok h ∧ (K v).run = some r) ∨ F.run = some r := by
 unfold qYK at e;split at e
 ·rename_i u k' hs hd;split at e
  ·rename_i k a ha;exact .inl ⟨_, by rw [xN ha, q1S hs hd]; simp [SV.enc, Ty.fv, fvv], by simp [SV.ok], e⟩
  ·exact .inr e
 ·rename_i u hs hd;split at e
  ·rename_i a ha;exact .inl ⟨_, by rw [gL ha, qYP hs hd]; simp [SV.enc, Ty.fv, fvv], by simp [SV.ok], e⟩
  ·exact .inr e
 ·exact .inr e
def qIZ (env : List SV) (parts : Array (Nat × Operand)) : List (Nat × SV) := parts.toList.map fun p => (p.1, xG env p.2)
theorem qD4 (env : List SV) (parts : Array (Nat × Operand)) : (parts.toList.map fun p => (p.1, qL (qA env) p.2)) = q3R (qIZ env parts) := by
 simp [qIZ, q3R, qJ]
omit [Yl] in
theorem qKQ {env : List SV} (ho : okL h env) (parts : Array (Nat × Operand)) : ∀ p ∈ qIZ env parts, p.2.ok h := fun p hp => by
 obtain ⟨q, _, rfl⟩ := List.mem_map.1 hp;exact qBV ho _
def qUP : Operand -> Operand -> Bool
 | .tmp i, .tmp j => Nat.beq i j
 | .const (.int k a), .const (.int k' b) => decide (k = k') && decide (a = b)
 | _, _ => false
omit [Yl] in
theorem qTG {a b : Operand} (e : qUP a b = true) : a = b := by
 unfold qUP at e;split at e
 ·rw [Nat.eq_of_beq_eq_true e]
 ·rw [Bool.and_eq_true] at e;have h1 := of_decide_eq_true e.1;have h2 := of_decide_eq_true e.2;rw [h1, h2]
 ·cases e
def gv (o : Option SV) (h : SH) (K : SV -> SH -> Tree R) : Tree R := match o with
 | some v => K v h
 | none => .fail
def sop (P : Program) (o : Oper) (env : List SV) (k : Nat) (h : SH) (K : SV -> SH -> Tree R) : Tree R := match o.op with
 | .move x => K (xG env x) h
 | .assign x => K (xG env x) h
 | .pick c a b => (match asB (xG env c) with
   | some t => .ite t (K (xG env a) h) (K (xG env b) h)
   | none => .fail)
 | .alloc el => qT4 P el k h K
 | .box el x => q78 P el (xG env x) k h K
 | .build t parts => gv (qWI P t (qIZ env parts)) h K
 | .buildSlice t len parts => mM P t len (qIZ env parts) k h K
 | .load t a => q1Q P t (xG env a) h fun v => K v h
 | .store t a x => qUI P t (xG env a) (xG env x) h K
 | .nilCheck x => gv (qCJ (xG env x) h) h K
 | .binOp op t x y t2 => q63 P op t t2 o.type (xG env x) (xG env y) h fun v => K v h
 | .unOp op t x => sun P op t o.type (xG env x) fun v => K v h
 | .convert s d x => cond (qQ7 (xG env x).enc) .fail (qYK P s d (xG env x) (fun v => K v h) (qS2 P (fun a => .convert s d a) o.type (xG env x) fun v => K v h))
 | .makeFunc fn first cap => gv (qBP fn (oG env first) (oG env cap)) h K
 | .makeSlice t l c => cond (qUP l c) (q2S P t (xG env l) k h K) .fail
 | .slice t x lo hi none => (match asS (xG env x) with
   | some s => qRM P t s (lo.map (xG env)) (hi.map (xG env)) fun v => K v h
   | none => qVS P t (xG env x) (lo.map (xG env)) (hi.map (xG env)) h fun v => K v h)
 | .fieldAddr t x i => gv (rE P t (xG env x) i h) h K
 | .field t x i => gv (qTF P t (xG env x) i) h K
 | .indexAddr t x ix => rD P t (xG env x) (xG env ix) h fun v => K v h
 | .index t x ix => (match asS (xG env x) with
   | some s => qLI P t s (xG env ix) fun v => K v h
   | none => qRR P t (xG env x) (xG env ix) fun v => K v h)
 | .extract t i => gv (qFB (xG env t) i) h K
 | .makeMap _ none => qN0 P k h K
 | .lookup t m kx ok => qLN P t (xG env m) (xG env kx) ok h fun v => K v h
 | .mapUpdate t m kx x => cB P t (xG env m) (xG env kx) (xG env x) h K
 | .insert t m kx x => cB P t (xG env m) (xG env kx) (xG env x) h K
 | .mapEntry t m kx => qB8 P t (xG env m) (xG env kx) h K
 | .entryStore _ m st x => mW P (xG env m) (xG env st) (xG env x) h K
 | .range t x => qRL P t (xG env x) k h K
 | .next it true => q18 P (xG env it) h K
 | .call c => (match c.callee, oG env c.args with
   | .builtin .append, [x, y] => qMP P c.argTypes.toList x y k h K
   | .builtin .copy, [x, y] => q2U P c.argTypes.toList x y h K
   | .builtin .len, [x] => cond (qWQ P c.argTypes) (match asS x with
     | some s => K (.d (.int .i64) (s.size : Int)) h
     | none => .fail) (match q00 P c.argTypes x h with
     | some v => K v h
     | none => gv (q1P P c.argTypes x h) h K)
   | .builtin .min, [x, y] => smm true x y fun v => K v h
   | .builtin .max, [x, y] => smm false x y fun v => K v h
   | _, _ => .fail)
 | _ => .fail
omit [Yl] in
theorem qLT {o : Option SV} {K : SV -> SH -> Tree R} (e : (gv o h K).run = some r) : ∃ v, o = some v ∧ (K v h).run = some r := by
 unfold gv at e;split at e
 ·exact ⟨_, rfl, e⟩
 ·cases e
theorem q0E {o : Oper} {env : List SV} {k : Nat} {K : SV -> SH -> Tree R} (ho : OkH P h) (he : okL h env) (e : (sop P o env k h K).run = some r) :
 ∃ v h', qHK P o (qA env) k (qD h.l) = some (v.enc, qD h'.l) ∧ Post P h h' v ∧ (K v h').run = some r := by
 have same : ∀ {v : SV}, v.ok h -> Post P h h v := fun hv => ⟨.refl _, ho, hv⟩
 have sv := fun x => qBV (h := h) he x
 unfold sop at e;unfold qHK;split at e
 ·rename_i x ho';exact ⟨_, _, by simp only [ho', qJ], same (sv x), e⟩
 ·rename_i x ho';exact ⟨_, _, by simp only [ho', qJ], same (sv x), e⟩
 ·rename_i c a b ho';split at e
  ·rename_i t ht;have h1 := rH ht
   rcases run_ite e with ⟨z, e1⟩ | ⟨z, e1⟩
   ·exact ⟨_, _, by simp only [ho', qJ, h1, fvv, z, cond_true], same (sv a), e1⟩
   ·exact ⟨_, _, by simp only [ho', qJ, h1, fvv, z, cond_false], same (sv b), e1⟩
  ·cases e
 ·rename_i el ho';rw [ho'];exact qTL ho e
 ·rename_i el x ho';rw [ho'];simp only [qJ];exact q0W ho (sv x) e
 ·rename_i t parts ho';rw [ho'];obtain ⟨v, h1, h2⟩ := qLT e;have h3 := qWJ (qKQ he parts) h1;exact ⟨v, h, by simp only [qD4, h3.1, pp1], same h3.2, h2⟩
 ·rename_i t len parts ho';rw [ho'];simp only [qD4];exact qDF ho (qKQ he parts) e
 ·rename_i t a ho';rw [ho'];obtain ⟨v, h1, h2, h3⟩ := qYS ho (sv a) e;exact ⟨v, h, by simp only [qJ, h1, pp1], same h2, h3⟩
 ·rename_i t a x ho';rw [ho'];obtain ⟨h', h1, h2, h3, h4⟩ := qSI ho (sv a) (sv x) e;exact ⟨_, h', by simp only [qJ, h1, ppS]; simp [SV.enc, qA], ⟨h2, h3, by simp [SV.ok, okL]⟩, h4⟩
 ·rename_i x ho';rw [ho'];obtain ⟨v, h1, h2⟩ := qLT e;have h3 := qIB (sv x) h1;exact ⟨v, h, by simp only [qJ, h3.1, pp1], same h3.2, h2⟩
 ·rename_i op t x y t2 ho';rw [ho'];obtain ⟨v, h1, h2, h3⟩ := q20 ho (sv x) e;exact ⟨v, h, by simp only [qJ, h1, pp1], same h2, h3⟩
 ·rename_i op t x ho';rw [ho'];obtain ⟨v, h1, h2, h3⟩ := q4V (h := h) e;exact ⟨v, h, by simp only [qJ, h1, pp1], same h2, h3⟩
 ·rename_i s d x ho';rw [ho']
  cases hp : qQ7 (xG env x).enc with
  | true => rw [hp] at e; cases e
  | false =>
    rw [hp] at e;have e1 : (qYK P s d (xG env x) (fun v => K v h) (qS2 P (fun a => .convert s d a) o.type (xG env x) fun v => K v h)).run = some r := e;rcases qYV (h := h) e1 with ⟨v, h1, h2, h3⟩ | e1
    ·exact ⟨v, h, by simp only [qJ, hp, cond_false, h1, pp1], same h2, h3⟩
    ·obtain ⟨v, h1, h2, h3, _⟩ := qOH (h := h) e1;exact ⟨v, h, by simp only [qJ, hp, cond_false, h1, pp1], same h2, h3⟩
 ·rename_i fn first cap ho'
  rw [ho'];obtain ⟨v, h1, h2⟩ := qLT e;have h3 := qII (nY he first) (nY he cap) h1;exact ⟨v, h, by simp only [nP, h3.1, pp1], same h3.2, h2⟩
 ·rename_i t l c ho';rw [ho'];obtain ⟨h1, h2⟩ := qF e;have := qTG h1;subst this;simp only [qJ];exact qYO ho h2
 ·rename_i t x lo hi ho';rw [ho'];split at e
  ·rename_i s hs;obtain ⟨v, h1, h2, h3, h4⟩ := qQ5 (h := h) e;obtain ⟨vs, hvs⟩ := Option.isSome_iff_exists.1 h4;refine ⟨v, h, ?_, same h2, h3⟩;have hx : qL (qA env) x = .f (.v (.string s)) := by rw [qJ]; exact gL hs
   simp only [hx, hvs, h1, pp1]
  obtain ⟨v, h1, h2, h3⟩ := qUB ho (sv x) e;refine ⟨v, h, ?_, same h2, h3⟩;have m : ∀ o : Option Operand, o.map (qL (qA env)) = (o.map (xG env)).map SV.enc := fun o => by cases o <;> simp [qJ]
  simp only [qJ, m]
  have ns : ∀ s, (xG env x).enc ≠ .f (.v (.string s)) := fun s hs => by
   rw [hs] at h1;simp only [uK] at h1;cases h1
  split
  ·rename_i s hs; exact absurd hs (ns s)
  ·rw [h1]; rfl
 ·rename_i t x i ho';rw [ho'];obtain ⟨v, h1, h2⟩ := qLT e;have h3 := qF8 (sv x) h1;exact ⟨v, h, by simp only [qJ, h3.1, pp1], same h3.2, h2⟩
 ·rename_i t x i ho';rw [ho'];obtain ⟨v, h1, h2⟩ := qLT e;have h3 := qS8 (sv x) h1;exact ⟨v, h, by simp only [qJ, h3.1, pp1], same h3.2, h2⟩
 ·rename_i t x ix ho';rw [ho'];obtain ⟨v, h1, h2, h3⟩ := qFH ho (sv x) e;exact ⟨v, h, by simp only [qJ, h1, pp1], same h2, h3⟩
 ·rename_i t x ix ho';rw [ho'];split at e
  ·rename_i s hs;obtain ⟨v, k', i, h0, h1, h2, h3⟩ := qQW (h := h) e;refine ⟨v, h, ?_, same h2, h3⟩;have hx := gL hs;have hpl : pl (fvv (.int k' i)) = some (.int k' i) := rfl;simp only [qJ, hx, h0, hpl];simp only [fvv, h1, pp1]
  obtain ⟨v, h1, h2, h3, l, hl⟩ := qWF (sv x) e;refine ⟨v, h, ?_, same h2, h3⟩;simp only [qJ];rw [hl] at h1 ⊢;simp only [SV.enc] at h1 ⊢;rw [h1];rfl
 ·rename_i t i ho';rw [ho'];obtain ⟨v, h1, h2⟩ := qLT e;have h3 := qM2 (sv t) h1;exact ⟨v, h, by simp only [qJ, h3.1, pp1], same h3.2, h2⟩
 ·rename_i ho';rw [ho'];exact qL5 ho e
 ·rename_i t m kx ok ho';rw [ho'];obtain ⟨v, h1, h2, h3⟩ := qQG e;exact ⟨v, h, by simp only [qJ, h1, pp1], same h2, h3⟩
 ·rename_i t m kx x ho';rw [ho'];obtain ⟨h', h1, h2, h3, h4⟩ := nK ho e;exact ⟨_, h', by simp only [qJ, h1, ppS]; simp [SV.enc, qA], ⟨h2, h3, by simp [SV.ok, okL]⟩, h4⟩
 ·rename_i t m kx x ho';rw [ho'];obtain ⟨h', h1, h2, h3, h4⟩ := nK ho e;exact ⟨_, h', by simp only [qJ, h1, ppS]; simp [SV.enc, qA], ⟨h2, h3, by simp [SV.ok, okL]⟩, h4⟩
 ·rename_i t m kx ho';rw [ho'];simp only [qJ];exact qHR ho e
 ·rename_i t m st x ho';rw [ho'];obtain ⟨h', h1, h2, h3, h4⟩ := qDA ho e;exact ⟨_, h', by simp only [qJ, h1, ppS]; simp [SV.enc, qA], ⟨h2, h3, by simp [SV.ok, okL]⟩, h4⟩
 ·rename_i t x ho';rw [ho'];simp only [qJ];exact qU9 ho e
 ·rename_i it ho';rw [ho'];simp only [qJ];exact qWV ho e
 ·rename_i c ho';rw [ho'];have ha := nP env c.args;have hao := nY he c.args;split at e
  ·rename_i x y hc hl;rw [hl] at ha hao;simp only [okL] at hao;simp only [hc, ha, qA, uY];exact qQ9 ho hao.1 hao.2.1 e
  ·rename_i x y hc hl;rw [hl] at ha hao;simp only [okL] at hao;simp only [hc, ha, qA, uY];exact qW6 ho hao.1 hao.2.1 e
  ·rename_i x hc hl;rw [hl] at ha hao;simp only [okL] at hao
   cases hst : qWQ P c.argTypes with
   | true =>
     rw [hst] at e;simp only [cond_true] at e;split at e
     ·rename_i s hs;refine ⟨_, h, ?_, same (by simp [SV.ok]), e⟩;obtain ⟨cal, args, ts⟩ := c;simp only at hc hl hst;subst hc
      obtain ⟨p, rfl, hp⟩ : ∃ p, args = #[p] ∧ xG env p = x := by
       unfold oG at hl;obtain ⟨l⟩ := args
       match l, hl with
       | [p], hl => simp at hl; exact ⟨p, rfl, hl⟩
      have vp : (qRC (qA env)).val p = .string s := cZ P (by rw [qJ, hp, gL hs]; rfl);simp only [uY, ha, qA, hst, cond_true];unfold vS;have hpl : plL [x.enc] = some [.string s] := by rw [gL hs]; rfl
      rw [hpl];simp only;rw [qO1 hst vp];simp [pp1, SV.enc, Ty.fv, fvv]
     ·cases e
   | false =>
     rw [hst] at e;simp only [cond_false] at e;split at e
     ·rename_i v hv;have h3 := qZK hv;refine ⟨v, h, ?_, same h3.2, e⟩;simp only [hc, ha, qA, uY, hst, cond_false, h3.1, pp1]
     obtain ⟨v, h1, h2⟩ := qLT e;have h3 := qYQ ho hao.1 h1;refine ⟨v, h, ?_, same h3.2, h2⟩;simp only [hc, ha, qA, uY, hst, cond_false, h3.1, pp1]
  ·rename_i x y hc hl;rw [hl] at ha;obtain ⟨v, h1, h2, h3⟩ := qZ7 (h := h) (lo := true) (ty := o.type) hl hc e;exact ⟨v, h, by simp only [hc, ha, qA, uY]; exact h1, same h2, h3⟩
  ·rename_i x y hc hl;rw [hl] at ha;obtain ⟨v, h1, h2, h3⟩ := qZ7 (h := h) (lo := false) (ty := o.type) hl hc e;exact ⟨v, h, by simp only [hc, ha, qA, uY]; exact h1, same h2, h3⟩
  ·cases e
 ·cases e
end
end Go.Sv
namespace Go.Sv
open Go.Idl
noncomputable section
variable [Gc]
variable [Yl]
variable {P : Program} {h : SH} {R : Type} {r : R} {tab : aV}
omit [Yl] in
theorem qF4 : ∀ (cs : List FV) (ph : PHp) (n : Nat), qKX (fz1 P n) (cs.map .f) ph = some (cs, ph)
 | [], ph, n => rfl
 | c :: cs, ph, n => by
   have e : fz1 P n ph (.f c) = some (c, ph) := by cases n <;> rfl
   show (match fz1 P n ph (.f c) with
    | some (y, ph1) => (match qKX (fz1 P n) (cs.map .f) ph1 with
      | some (ys, ph2) => some (y :: ys, ph2)
      | none => none)
    | none => none) = _
   rw [e];simp only [qF4 cs ph n]
theorem q3L {k n o m : Nat} {el : TypeId} {gr : Bool} {g w : Nat} {t : Ty} {xs : List t.sem} (ho : OkH P h) (hk : slk k h.l = some (.list el gr g w t xs)) (hn : n = xs.length) (hom : o + m <= n) :
 fz1 P 4 (qD h.l) (.own k n o m) = some (.l el m (((xs.drop o).take m).flatMap t.cells), qD (h.del k).l) := by
 have hl := ho.list _ _ _ _ _ _ _ hk;simp only [fz1, xY hk];rw [show (SO.list el gr g w t xs).enc.el = el from rfl, hl.2.1];simp only [qV, hn, qCK, cond_true];rw [show (SO.list el gr g w t xs).enc.cs = (xs.flatMap t.cells).map .f from rfl, <- List.map_drop, <- List.map_take, gV, gP, qF4];show some _ = some (_, qD (sdl k h.l));rw [dD]
def q56 (el : TypeId) (t : Ty) (k g : Nat) (f : List t.sem -> List t.sem) (h : SH) : Option (List t.sem × SH) := match slk k h.l with
 | some (.list el' _ g' _ u xs) => cond (Nat.beq el' el && Nat.beq g g') (match qGL u t xs with
   | some xs => some (f xs, h.del k)
   | none => none) none
 | _ => none
def q8H (P : Program) (ty el : TypeId) (t : Ty) (h : SH) : Option (List t.sem × SH) := match yS P ty with
 | some el' => cond (Nat.beq el' el) (some ([], h)) none
 | none => none
def qY0 (P : Program) (ty : TypeId) : (t : Ty) -> SV -> SH -> Option (t.sem × SH)
 | .list el t, .own k g _, h => q56 el t k g (fun xs => xs) h
 | .list el t, .sl k g _ o m, h => q56 el t k g (fun xs => (xs.drop o).take m) h
 | .list el t, .c (.slice none 0 0), h => q8H P ty el t h
 | t, v, h => match t.decS v with
   | some x => some (x, h)
   | none => none
omit [Yl] in
theorem qJ3 {ty : TypeId} : ∀ {t : Ty} {x : t.sem}, t.one = true -> rt0 P ty (.f (t.fv x)) = .f (t.fv x)
 | .int _, _, _ => rfl
 | .bool, _, _ => rfl
 | .str, _, _ => rfl
 | .raw, _, _ => rfl
 | .list _ _, _, _ => rfl
 | .unit, _, e => by cases e
 | .pair _ _, _, e => by cases e
theorem qUX {el ty : TypeId} {t : Ty} {k g n o m : Nat} {f : List t.sem -> List t.sem} {x : List t.sem} {h' : SH} (ho : OkH P h) (hs : qZV h k g n) (hom : o + m <= n) (hf : ∀ xs : List t.sem, xs.length = n -> f xs = (xs.drop o).take m) (e : q56 el t k g f h = some (x, h')) :
 fz1 P 4 (qD h.l) (.own k n o m) = some ((Ty.list el t).fv x, qD h'.l) ∧ Keep h h' ∧ OkH P h' := by
 unfold q56 at e;split at e
 ·rename_i el' gr g' w u xs hk
  cases hc : (Nat.beq el' el && Nat.beq g g') with
  | false => rw [hc] at e; cases e
  | true =>
    rw [hc] at e;rw [Bool.and_eq_true] at hc;have he : el' = el := Nat.eq_of_beq_eq_true hc.1;have hg : g = g' := Nat.eq_of_beq_eq_true hc.2;subst he hg;simp only [cond_true] at e;split at e
    ·rename_i ys hys;cases fJ hys;cases e;have hn := hs.2 _ _ _ _ _ hk;have hd := nD (k := k) ho;refine ⟨?_, hd.1, hd.2⟩;rw [q3L ho hk hn hom, hf _ hn.symm];show some (FV.l el' m _, _) = some (FV.l el' _ _, _);rw [List.length_take, List.length_drop, Nat.min_eq_left (by omega)]
    ·cases e
 ·cases e
theorem qPI {ty : TypeId} {t : Ty} {v : SV} {x : t.sem} {h' : SH} (ho : OkH P h) (hv : v.ok h) (e : qY0 P ty t v h = some (x, h')) :
 ∃ y, fz1 P 4 (qD h.l) v.enc = some (y, qD h'.l) ∧ rt0 P ty (.f y) = .f (t.fv x) ∧ t.one = true ∧ Keep h h' ∧ OkH P h' := by
 unfold qY0 at e;split at e
 ·rename_i el t k g n;simp only [SV.ok] at hv;obtain ⟨h1, h2, h3⟩ := qUX (ty := ty) (n := n) (o := 0) (m := n) ho hv (by omega) (fun xs hl => by rw [List.drop_zero, <- hl, List.take_length]) e;exact ⟨_, by simp only [SV.enc]; exact h1, qJ3 rfl, rfl, h2, h3⟩
 ·rename_i el t k g n o m;simp only [SV.ok] at hv;obtain ⟨h1, h2, h3⟩ := qUX (ty := ty) (n := n) (o := o) (m := m) ho hv.1 hv.2 (fun xs hl => rfl) e;exact ⟨_, by simp only [SV.enc]; exact h1, qJ3 rfl, rfl, h2, h3⟩
 ·rename_i el t;unfold q8H at e;split at e
  ·rename_i el' hel
   cases hc : Nat.beq el' el with
   | false => rw [hc] at e; cases e
   | true =>
     rw [hc] at e;cases e;have he : el' = el := Nat.eq_of_beq_eq_true hc;subst he;refine ⟨.v (.slice none 0 0), by simp only [SV.enc, fvv, fz1], ?_, rfl, .refl _, ho⟩
     show (match yS P ty with
      | some el => PV.f (.l el 0 [])
      | none => fvv (.slice none 0 0)) = _
     rw [hel];rfl
  ·cases e
 ·split at e
  ·rename_i y hy;cases e;obtain ⟨h1, h2⟩ := qHH hy;exact ⟨_, by rw [h1]; rfl, qJ3 h2, h2, .refl _, ho⟩
  ·cases e
def qLK (P : Program) (t : Ty) (tys : List TypeId) (l : List SV) (h : SH) : Option (t.sem × List TypeId × List SV × SH) := match tys, l with
 | ty :: tys, v :: l => (match qY0 P ty t v h with
   | some (x, h') => some (x, tys, l, h')
   | none => none)
 | _, _ => none
def Ty.decC (P : Program) : (t : Ty) -> List TypeId -> List SV -> SH -> Option (t.sem × List TypeId × List SV × SH)
 | .unit, tys, l, h => some ((), tys, l, h)
 | .pair a b, tys, l, h => match a.decC P tys l h with
   | some (x, tys1, l1, h1) => (match b.decC P tys1 l1 h1 with
     | some (y, tys2, l2, h2) => some ((x, y), tys2, l2, h2)
     | none => none)
   | none => none
 | .int k, tys, l, h => qLK P (.int k) tys l h
 | .bool, tys, l, h => qLK P .bool tys l h
 | .str, tys, l, h => qLK P .str tys l h
 | .raw, tys, l, h => qLK P .raw tys l h
 | .list el t, tys, l, h => qLK P (.list el t) tys l h
def q8E (P : Program) (t : Ty) (tys : List TypeId) (l : List SV) (h : SH) (x : t.sem) (tys' : List TypeId) (l' : List SV) (h' : SH) : Prop :=
 okL h' l' ∧ Keep h h' ∧ OkH P h' ∧ ∃ ys : List FV, (∀ zs p, qKX (fz1 P 4) (qA l') (qD h'.l) = some (zs, p) -> qKX (fz1 P 4) (qA l) (qD h.l) = some (ys ++ zs, p)) ∧
  ∀ zs : List PV, rtL (rt0 P) tys (ys.map .f ++ zs) = (t.cells x).map .f ++ rtL (rt0 P) tys' zs
theorem nO {t : Ty} {tys tys' : List TypeId} {l l' : List SV} {x : t.sem} {h' : SH} (ho : OkH P h) (hl : okL h l) (e : qLK P t tys l h = some (x, tys', l', h')) : q8E P t tys l h x tys' l' h' := by
 unfold qLK at e;split at e
 ·rename_i ty tys v l;split at e
  ·rename_i y h1 hd;cases e;simp only [okL] at hl;obtain ⟨y, a1, a2, a3, a4, a5⟩ := qPI ho hl.1 hd;refine ⟨qO a4 hl.2, a4, a5, [y], fun zs p hz => ?_, fun zs => ?_⟩
   ·simp only [qA, qKX, a1, hz]; rfl
   ·show rt0 P ty (.f y) :: rtL (rt0 P) _ zs = _;rw [a2, Ty.cells_one a3]; rfl
  ·cases e
 ·cases e
theorem qGG : ∀ {t : Ty} {tys tys' : List TypeId} {l l' : List SV} {h : SH} {x : t.sem} {h' : SH}, OkH P h -> okL h l -> t.decC P tys l h = some (x, tys', l', h') -> q8E P t tys l h x tys' l' h'
 | .unit, tys, tys', l, l', h, x, h', ho, hl, e => by
   cases e;exact ⟨hl, .refl _, ho, [], fun zs p hz => hz, fun zs => rfl⟩
 | .int k, tys, tys', l, l', h, x, h', ho, hl, e => nO ho hl e
 | .bool, tys, tys', l, l', h, x, h', ho, hl, e => nO ho hl e
 | .str, tys, tys', l, l', h, x, h', ho, hl, e => nO ho hl e
 | .raw, tys, tys', l, l', h, x, h', ho, hl, e => nO ho hl e
 | .list el t, tys, tys', l, l', h, x, h', ho, hl, e => nO ho hl e
 | .pair a b, tys, tys', l, l', h, x, h', ho, hl, e => by
   unfold Ty.decC at e;split at e
   ·rename_i x1 tys1 l1 h1 hd1;split at e
    ·rename_i y tys2 l2 h2 hd2;cases e;obtain ⟨a1, a2, a3, ys, a4, a5⟩ := qGG ho hl hd1;obtain ⟨b1, b2, b3, zs, b4, b5⟩ := qGG a3 a1 hd2;refine ⟨b1, a2.trans b2, b3, ys ++ zs, fun us p hu => ?_, fun us => ?_⟩
     ·rw [List.append_assoc];exact a4 _ _ (b4 _ _ hu)
     ·rw [List.map_append, List.append_assoc, a5, b5];show _ = (a.cells x1 ++ b.cells y).map PV.f ++ _;rw [List.map_append, List.append_assoc]
    ·cases e
   ·cases e
def q3O (P : Program) (ty : TypeId) (t : Ty) (v : SV) (h : SH) : Option (t.sem × SH) := cond t.one (match v with
 | .agg _ => none
 | v => qY0 P ty t v h) (match v with
 | .agg l => (match t.decC P (sD P 8 ty) l h with
   | some (x, _, [], h') => some (x, h')
   | _ => none)
 | _ => none)
theorem qG7 {ty : TypeId} {t : Ty} {v : SV} {x : t.sem} {h' : SH} (ho : OkH P h) (hv : v.ok h) (e : q3O P ty t v h = some (x, h')) :
 ∃ y, fzP P (qD h.l) v.enc = some (y, qD h'.l) ∧ rt1 P ty y = t.pv x ∧ Keep h h' ∧ OkH P h' := by
 unfold q3O at e
 cases ht : t.one with
 | true =>
   rw [ht] at e;simp only [cond_true] at e;split at e
   ·cases e
   ·rename_i hna;obtain ⟨y, h1, h2, h3, h4, h5⟩ := qPI ho hv e;refine ⟨.f y, ?_, ?_, h4, h5⟩
    ·cases v with
     | agg l => exact absurd rfl (hna l)
     | opt b k o w => cases b <;> (simp only [SV.enc, fvv, fzP, cond_true, cond_false] at h1 ⊢; rw [h1])
     | _ => simp only [SV.enc, fvv, fzP] at h1 ⊢; rw [h1]
    ·show rt0 P ty (.f y) = _;rw [h2];unfold Ty.pv;rw [ht]; rfl
 | false =>
   rw [ht] at e;simp only [cond_false] at e;split at e
   ·rename_i l;split at e
    ·rename_i x1 tys1 h1 hd;cases e;simp only [SV.ok] at hv;obtain ⟨a1, a2, a3, ys, a4, a5⟩ := qGG ho hv hd;refine ⟨.agg (ys.map .f), ?_, ?_, a2, a3⟩
     ·have := a4 [] (qD h'.l) (by simp [qA, qKX]);simp only [SV.enc, fzP, this, List.append_nil]
     ·show PV.agg (rtL (rt0 P) (sD P 8 ty) (ys.map .f)) = _;have := a5 [];rw [List.append_nil] at this;rw [this];unfold Ty.pv;rw [ht];cases tys1 <;> simp [rtL]
    ·cases e
   ·cases e
def vR (P : Program) : List TypeId -> (ts : List Ty) -> List SV -> SH -> Option (TyL ts × SH)
 | _, [], [], h => some ((), h)
 | ty :: _, [t], [v], h => q3O P ty t v h
 | ty :: tys, t :: u :: ts, v :: vs, h => match q3O P ty t v h with
   | some (x, h1) => (match vR P tys (u :: ts) vs h1 with
     | some (y, h2) => some ((x, y), h2)
     | none => none)
   | none => none
 | _, _, _, _ => none
theorem cK : ∀ {tys : List TypeId} {ts : List Ty} {vs : List SV} {h : SH} {x : TyL ts} {h' : SH}, OkH P h -> okL h vs -> vR P tys ts vs h = some (x, h') ->
 ∃ ys, fzA P (qA vs) (qD h.l) = some (ys, qD h'.l) ∧ rtL (rt1 P) tys ys = pvL ts x ∧ Keep h h' ∧ OkH P h'
 | tys, [], [], h, x, h', ho, hv, e => by
   unfold vR at e;cases e;refine ⟨[], rfl, ?_, .refl _, ho⟩;cases tys <;> rfl
 | ty :: tys, [t], [v], h, x, h', ho, hv, e => by
   unfold vR at e;simp only [okL] at hv;obtain ⟨y, h1, h2, h3, h4⟩ := qG7 ho hv.1 e;refine ⟨[y], ?_, ?_, h3, h4⟩
   ·simp only [qA, fzA, h1]
   ·show rt1 P ty y :: rtL (rt1 P) tys [] = [t.pv x];rw [h2];cases tys <;> rfl
 | ty :: tys, t :: u :: ts, v :: vs, h, x, h', ho, hv, e => by
   unfold vR at e;simp only [okL] at hv;split at e
   ·rename_i x1 h1 hd;split at e
    ·rename_i y1 h2 hd2;cases e;obtain ⟨y, a1, a2, a3, a4⟩ := qG7 ho hv.1 hd;obtain ⟨ys, b1, b2, b3, b4⟩ := cK a4 (qO a3 hv.2) hd2;refine ⟨y :: ys, ?_, ?_, a3.trans b3, b4⟩
     ·simp only [qA, fzA, a1, b1]
     ·show rt1 P ty y :: rtL (rt1 P) tys ys = t.pv x1 :: pvL (u :: ts) y1;rw [a2, b2]
    ·cases e
   ·cases e
 | [], [_], [_], _, _, _, _, _, e => by unfold vR at e; cases e
 | [], _ :: _ :: _, _ :: _, _, _, _, _, _, e => by unfold vR at e; cases e
 | tys, [], _ :: _, _, _, _, _, _, e => by cases tys <;> (unfold vR at e; cases e)
 | tys, _ :: ts, [], _, _, _, _, _, e => by cases tys <;> cases ts <;> (unfold vR at e; cases e)
 | tys, [_], _ :: _ :: _, _, _, _, _, _, e => by cases tys <;> (unfold vR at e; cases e)
def Ty.sv (t : Ty) (x : t.sem) : SV := cond t.one (.d t x) (.agg (t.svs x))
theorem rZ (t : Ty) (x : t.sem) : (t.sv x).enc = t.pv x := by
 unfold Ty.sv Ty.pv;cases t.one <;> simp [SV.enc, rW]
omit [Yl] in
theorem qK1 (t : Ty) (x : t.sem) : (t.sv x).ok h := by
 unfold Ty.sv;cases t.one
 ·simp only [cond_false, SV.ok]; exact qKJ t x
 ·simp [SV.ok]
def svL : (ts : List Ty) -> TyL ts -> List SV
 | [], _ => []
 | [t], x => [t.sv x]
 | t :: u :: ts, x => t.sv x.1 :: svL (u :: ts) x.2
theorem qAU : ∀ (ts : List Ty) (x : TyL ts), qA (svL ts x) = pvL ts x
 | [], _ => by simp [svL, pvL, qA]
 | [t], x => by simp [svL, pvL, qA, rZ]
 | t :: u :: ts, x => by
   show qA (t.sv x.1 :: svL (u :: ts) x.2) = t.pv x.1 :: pvL (u :: ts) x.2;simp only [qA, rZ, qAU (u :: ts)]
omit [Yl] in
theorem qC3 : ∀ (ts : List Ty) (x : TyL ts), okL h (svL ts x)
 | [], _ => by simp [svL, okL]
 | [t], x => by simp [svL, okL, qK1]
 | t :: u :: ts, x => by
   show okL h (t.sv x.1 :: svL (u :: ts) x.2);simp only [okL];exact ⟨qK1 t x.1, qC3 (u :: ts) x.2⟩
def qKI (ts : List Ty) (x : TyL ts) : SV := match svL ts x with
 | [v] => v
 | vs => .tup vs
theorem qKV (ts : List Ty) (x : TyL ts) : (qKI ts x).enc = wG ts x := by
 unfold qKI wG;rw [<- qAU]
 match svL ts x with
 | [] => simp [qA, qDK, SV.enc]
 | [v] => simp [qA, qDK]
 | a :: b :: l => simp [qA, qDK, SV.enc]
omit [Yl] in
theorem qOQ (ts : List Ty) (x : TyL ts) : (qKI ts x).ok h := by
 unfold qKI;have := qC3 (h := h) ts x;split
 ·rename_i v hv;rw [hv] at this;simp only [okL] at this;exact this.1
 ·simp only [SV.ok]; exact this
def qWK (tab : aV) (T : kT) : Prop := ∀ g ent, slT g T = some ent -> ∀ x, tab g (pvL ent.as x) = (ent.F x).map (wG ent.rs)
def qQQ (P : Program) (T : kT) (d : Bool) (g : FuncId) (as : List SV) (h : SH) (K : SV -> SH -> Tree R) : Tree R := match slT g T, P.funcs[g]? with
 | some ent, some fn => (match vR P fn.params.toList ent.as as h with
   | some (x, h1) => .bind (ent.F x) fun y => cond d (cond (wV (wG ent.rs y) || (qA as).all qRE) (K (qKI ent.rs y) h) .fail) (K (qKI ent.rs y) (cond (wV (wG ent.rs y)) h h1))
   | none => .fail)
 | _, _ => .fail
theorem qX2 {T : kT} (ht : qWK tab T) {g : FuncId} {as : List SV} {K : SV -> SH -> Tree R} (ho : OkH P h) (ha : okL h as) (e : (qQQ P T false g as h K).run = some r) :
 ∃ v h', aK P tab g (qA as) (qD h.l) = .ok v.enc (qD h'.l) ∧ Post P h h' v ∧ (K v h').run = some r := by
 unfold qQQ at e;split at e
 ·rename_i ent fn hent hfn;split at e
  ·rename_i x h1 hx;obtain ⟨y, hy, e1⟩ := run_bind e;obtain ⟨ys, a1, a2, a3, a4⟩ := cK ho ha hx;have e2 : (K (qKI ent.rs y) (cond (wV (wG ent.rs y)) h h1)).run = some r := e1;refine ⟨_, _, ?_, ⟨?_, ?_, qOQ _ _⟩, e2⟩
   ·unfold aK;rw [a1];simp only;rw [show rtA P g ys = pvL ent.as x by unfold rtA; rw [hfn]; exact a2, ht g ent hent x, hy];simp only [Option.map_some, qKV];cases wV (wG ent.rs y) <;> rfl
   ·cases wV (wG ent.rs y)
    ·exact a3
    ·exact .refl _
   ·cases wV (wG ent.rs y)
    ·exact a4
    ·exact ho
  ·cases e
 ·cases e
theorem qWD {T : kT} (ht : qWK tab T) {g : FuncId} {as : List SV} {K : SV -> SH -> Tree R} (ho : OkH P h) (ha : okL h as) (e : (qQQ P T true g as h K).run = some r) :
 ∃ v h', qC2 P tab g (qA as) (qD h.l) = .ok v.enc (qD h'.l) ∧ Post P h h' v ∧ (K v h').run = some r := by
 unfold qQQ at e;split at e
 ·rename_i ent fn hent hfn;split at e
  ·rename_i x h1 hx;obtain ⟨y, hy, e1⟩ := run_bind e;obtain ⟨ys, a1, a2, a3, a4⟩ := cK ho ha hx;obtain ⟨c, e2⟩ := qF (show (cond (wV (wG ent.rs y) || (qA as).all qRE) (K (qKI ent.rs y) h) .fail : Tree R).run = some r from e1);refine ⟨_, _, ?_, ⟨.refl _, ho, qOQ _ _⟩, e2⟩;unfold qC2;rw [a1];simp only;rw [show rtA P g ys = pvL ent.as x by unfold rtA; rw [hfn]; exact a2, ht g ent hent x, hy];simp only [Option.map_some, qKV, c, cond_true]
  ·cases e
 ·cases e
def qGZ (fv : SV) (args : List SV) : Option (FuncId × List SV) := match fv with
 | .c (.func (.func g) a c) => cond (a.toList.isEmpty && c.toList.isEmpty) (some (g, args)) none
 | .fn g first cap => some (g, first ++ (args ++ cap))
 | _ => none
theorem qDW {fv : SV} {args as : List SV} {g : FuncId} (hf : fv.ok h) (ha : okL h args) (e : qGZ fv args = some (g, as)) : target fv.enc (qA args) = some (g, qA as) ∧ okL h as := by
 unfold qGZ at e;split at e
 ·rename_i g' a c
  cases hc : (a.toList.isEmpty && c.toList.isEmpty) with
  | false => rw [hc] at e; cases e
  | true =>
    rw [hc] at e;cases e;exact ⟨by simp only [target, SV.enc, fvv, hc, cond_true], ha⟩
 ·rename_i g' first cap
  cases e;simp only [SV.ok] at hf;exact ⟨by simp only [target, SV.enc, qAM], mV hf.1 (mV ha hf.2)⟩
 ·cases e
def q0D (P : Program) (T : kT) (d : Bool) (f : SV) (args : List SV) (h : SH) (K : SV -> SH -> Tree R) : Tree R := match qGZ f args with
 | some (g, as) => qQQ P T d g as h K
 | none => .fail
def q1G (P : Program) (T : kT) (d : Bool) (k : Nat) (o : Oper) (env : List SV) (h : SH) (K : SV -> SH -> Tree R) : Tree R := match o.op with
 | .call ⟨.value f, args, _⟩ => q0D P T d (xG env f) (oG env args) h K
 | _ => sop P o env k h K
def q3Q (P : Program) (G : Nat -> Bool) (CI : CIT) : Prop := ∀ {R : Type} (nm : Nm) (f : FuncId) (as : List SV) (h : SH) (K : SV -> SH -> Tree R) (r : R), OkH P h -> okL h as -> (CI R nm f as h K).run = some r ->
 qG2 P G nm f (qA as) (qD h.l) fun v p => ∃ v' h', v = v'.enc ∧ p = qD h'.l ∧ Post P h h' v' ∧ (K v' h').run = some r
def qOK (p : Nat -> Bool) (env : List SV) : List (Nat × SO) -> Bool
 | [] => true
 | (k, _) :: l => (!p k || yV k (qA env)) && qOK p env l
theorem qHN {p : Nat -> Bool} {env : List SV} : ∀ {l : List (Nat × SO)}, qOK p env l = true -> clean p (qA env) (qD l) = true
 | [], _ => rfl
 | (k, o) :: l, h => by
   have h : ((!p k || yV k (qA env)) && qOK p env l) = true := h;show ((!p k || yV k (qA env)) && clean p (qA env) (qD l)) = true;rw [Bool.and_eq_true] at h ⊢;exact ⟨h.1, qHN h.2⟩
section
variable {Γ : Type}
def q0T (P : Program) (T : kT) (CI : CIT) (Y : YI Γ) (nm : Nm) (f : SV) (args : List SV) (g : Γ) (env : List SV) (h : SH) (K : Γ -> SV -> SH -> Tree R) : Tree R := match f with
 | .yv => (match vR P Y.yt Y.ys args h with
   | some (y, h1) => .bind (Y.stp g y) fun p => K p.1 (.d .bool p.2) h1
   | none => .fail)
 | f => (match qGZ f args with
   | some (t, as) => cond (slT t T).isSome (qQQ P T false t as h (K g)) (CI R (qTM nm t) t as h fun v h2 => cond (qOK (qTM nm t).p env h2.l) (K g v h2) .fail)
   | none => .fail)
def q0M (P : Program) (T : kT) (CI : CIT) (Y : YI Γ) (nm : Nm) (o : Oper) (g : Γ) (env : List SV) (h : SH) (K : Γ -> SV -> SH -> Tree R) : Tree R := match o.op with
 | .call ⟨.value f, args, _⟩ => q0T P T CI Y nm (xG env f) (oG env args) g env h K
 | _ => sop P o env (zH nm o.dst) h (K g)
def YOk (P : Program) (G : Nat -> Bool) (w : Wld Γ) (Y : YI Γ) : Prop := ∀ g y g' b, Y.stp g y = some (g', b) -> qKL P G w Yl.l g (pvL Y.ys y) g' b
end
theorem qTC {T : kT} (ht : qWK tab T) {k : Nat} {o : Oper} {env : List SV} {K : SV -> SH -> Tree R} (ho : OkH P h) (he : okL h env) (e : (q1G P T true k o env h K).run = some r) :
 ∃ v h', yF P tab k o (qA env) (qD h.l) = .ok v.enc (qD h'.l) ∧ Post P h h' v ∧ (K v h').run = some r := by
 unfold q1G at e;unfold yF;split at e
 ·rename_i f args ts hop;unfold q0D at e;split at e
  ·rename_i g as hst;obtain ⟨h1, h2⟩ := qDW (qBV he f) (nY he args) hst;obtain ⟨v, h', a1, a2, a3⟩ := qWD ht ho h2 e;refine ⟨v, h', ?_, a2, a3⟩;simp only [hop, qJ, nP, h1];exact a1
  ·cases e
 ·rename_i hne;obtain ⟨v, h', a1, a2, a3⟩ := q0E ho he e;refine ⟨v, h', ?_, a2, a3⟩;split
  ·rename_i f args ts hop; exact absurd hop (hne f args ts)
  ·rw [a1]; rfl
end
end Go.Sv
namespace Go.Sv
open Go.Idl
noncomputable section
variable [Gc]
variable [Yl]
variable {P : Program} {R : Type} {r : R} {tab : aV} {G : Nat -> Bool} {nm : Nm}
omit [Yl] in
theorem holds_mono {Q Q' : List PV -> PHp -> Prop} (hq : ∀ e p, Q e p -> Q' e p) : ∀ {t : PT}, t.holds P G Q -> t.holds P G Q'
 | .fail, h => h.elim
 | .ret e p, h => hq e p h
 | .chk c t, h => ⟨h.1, holds_mono hq h.2⟩
 | .call nm g args ph k, h => by
   obtain ⟨R, h1, h2⟩ := h;exact ⟨R, h1, fun v p hr => holds_mono hq (h2 v p hr)⟩
 | .rnd _ _ _ _, h => h.elim
omit [Yl] in
theorem q0L (k : Nat) : ∀ (cs : List FV), yV k (cs.map .f) = true
 | [] => by simp [yV]
 | c :: cs => by simp [yV, noK, q0L k cs]
def qXF (k : Nat) : List (Nat × SO) -> Bool
 | [] => true
 | (_, .cells _ _ l) :: r => yV k (qA l) && qXF k r
 | (_, .list _ _ _ _ _ _) :: r => qXF k r
 | (_, .spc _ _) :: r => qXF k r
theorem mU {k : Nat} : ∀ {l : List (Nat × SO)}, qXF k l = true -> pG k (qD l) = true
 | [], _ => rfl
 | (j, .cells el w l) :: r, h => by
   simp only [qXF, Bool.and_eq_true] at h;show (yV k (qA l) && pG k (qD r)) = true;rw [h.1, mU h.2]; rfl
 | (j, .list el gr g w t xs) :: r, h => by
   simp only [qXF] at h;show (yV k ((xs.flatMap t.cells).map .f) && pG k (qD r)) = true;rw [q0L, mU h]; rfl
 | (j, .spc w x) :: r, h => by
   simp only [qXF] at h;show (yV k x.enc.cs && pG k (qD r)) = true
   have : yV k x.enc.cs = true := by
    cases x with
    | map es => exact gT k _ _
    | iter s pos => rfl
   rw [this, mU h]; rfl
def qCF (env : List SV) (d : Option Tmp) (v : SV) : List SV := match d with
 | some t => xU env t v
 | none => env
theorem wM (env : List SV) (t : Nat) (v : SV) : qA (xU env t v) = xU (qA env) t v.enc := by
 rw [zV, zV, qZ, qZ, List.map_set]
theorem nJ (env : List SV) (d : Option Tmp) (v : SV) : qA (qCF env d v) = yR (qA env) d v.enc := by
 cases d with
 | none => rfl
 | some t => exact wM env t v
omit [Yl] in
theorem wT {h : SH} {env : List SV} {t : Nat} {v : SV} (he : okL h env) (hv : v.ok h) : okL h (xU env t v) := by
 rw [zV]
 exact xA.2 fun x hx => by
  rcases List.mem_or_eq_of_mem_set hx with q | q
  ·exact xA.1 he x q
  ·rw [q]; exact hv
omit [Yl] in
theorem tN {h : SH} {env : List SV} {d : Option Tmp} {v : SV} (he : okL h env) (hv : v.ok h) : okL h (qCF env d v) := by
 cases d with
 | none => exact he
 | some t => exact wT he hv
omit [Yl] in
theorem fF (env : List SV) (t : Nat) (v : SV) : (xU env t v).length = env.length := by rw [zV, List.length_set]
omit [Yl] in
theorem qXS (env : List SV) (d : Option Tmp) (v : SV) : (qCF env d v).length = env.length := by
 cases d with
 | none => rfl
 | some t => exact fF env t v
theorem qO2 {env : List SV} {t : Nat} {v w : SV} (h1 : zM env t = some v) (h2 : w.enc = v.enc) : qA (xU env t w) = qA env := by
 rw [wM, zV];rw [qH] at h1;apply List.ext_getElem?;intro i;rw [List.getElem?_set];by_cases e : t = i
 ·subst e;rw [if_pos rfl, qZ, List.getElem?_map, h1, List.length_map, if_pos (List.getElem?_eq_some_iff.1 h1).1, h2];rfl
 ·rw [if_neg e]
def zZ (b w : Bool) : Bool := cond w b (!b)
omit [Yl] in
theorem qOX (b w : Bool) : zZ b w = (b == w) := by cases b <;> cases w <;> rfl
def qFP (ds : List (Option Tmp)) (o : Oper) (env : List SV) (Y N : List SV -> Tree R) : Tree R := match o.guard with
 | none => Y env
 | some (j, w) => (match qBB ds j with
   | none => N env
   | some t => (match zM env t with
     | none => .fail
     | some v => (match asB v with
       | some b => .ite (zZ b w) (Y (xU env t (.c (.bool w)))) (N (xU env t (.c (.bool (!w)))))
       | none => (match v with
         | .tup [] => N env
         | _ => .fail))))
theorem qEA {ds : List (Option Tmp)} {o : Oper} {env : List SV} {Y N : List SV -> Tree R} {h : SH} (he : okL h env) (e : (qFP ds o env Y N).run = some r) :
 ∃ env', qA env' = qA env ∧ okL h env' ∧ env'.length = env.length ∧ ((eG ds o (qA env) = some true ∧ (Y env').run = some r) ∨ (eG ds o (qA env) = some false ∧ (N env').run = some r)) := by
 unfold qFP at e;unfold eG;split at e
 ·rename_i hg;exact ⟨env, rfl, he, rfl, .inl ⟨by rw [hg], e⟩⟩
 ·rename_i j w hg;rw [hg];simp only;split at e
  ·rename_i hd;exact ⟨env, rfl, he, rfl, .inr ⟨by rw [hd]; rfl, e⟩⟩
  ·rename_i t hd;rw [hd];simp only [qLE, xO];split at e
   ·cases e
   ·rename_i v hv;rw [hv];split at e
    ·rename_i b hb;have hbe := rH hb
     rcases run_ite e with ⟨z, e1⟩ | ⟨z, e1⟩
     ·rw [qOX] at z;have : b = w := by simpa using z
      subst this;refine ⟨_, qO2 hv (by rw [hbe]; simp [SV.enc]), wT he (by simp [SV.ok]), fF _ _ _, .inl ⟨?_, e1⟩⟩;simp only [Option.map_some, hbe, qCC, z]
     ·rw [qOX] at z
      have : b = !w := by cases b <;> cases w <;> first | rfl | cases z
      refine ⟨_, qO2 hv (by rw [hbe, this]; simp [SV.enc]), wT he (by simp [SV.ok]), fF _ _ _, .inr ⟨?_, e1⟩⟩;simp only [Option.map_some, hbe, qCC, z]
    ·split at e
     ·exact ⟨env, rfl, he, rfl, .inr ⟨by simp only [Option.map_some, SV.enc, qA]; exact qQT, e⟩⟩
     ·cases e
def qEU (nm : Nm) (k : Nat) (env : List SV) (h : SH) : Bool := inP nm k && (yV k (qA env) && qXF k h.l)
section
variable {Γ : Type}
def qWR (P : Program) (T : kT) (CI : CIT) (Y : YI Γ) (nm : Nm) (ds : List (Option Tmp)) : List Oper -> Γ -> List SV -> SH -> (Γ -> List SV -> SH -> Tree R) -> Tree R
 | [], g, env, h, K => K g env h
 | o :: l, g, env, h, K => qFP ds o env
    (fun env => cond (cond (needs o.op) (qEU nm (zH nm o.dst) env h) true) (q0M P T CI Y nm o g env h fun g v h' => qWR P T CI Y nm ds l g (qCF env o.dst v) h' K) .fail)
    (fun env => qWR P T CI Y nm ds l g (qCF env o.dst (.tup [])) h K)
end
def Ends (P : Program) (w : List (Option Tmp)) (env : List SV) (h : SH) (env' : List SV) (h' : SH) : Prop :=
 okL h' env' ∧ OkH P h' ∧ Keep h h' ∧ (∀ i, some i ∉ w -> zM (qA env') i = zM (qA env) i) ∧ env'.length = env.length
theorem q2M {env : List SV} {d : Option Tmp} {v : SV} {i : Nat} (h : d ≠ some i) : zM (qA (qCF env d v)) i = zM (qA env) i := by
 cases d with
 | none => rfl
 | some t =>
   show zM (qA (xU env t v)) i = _;rw [wM, zV, qH, qH, List.getElem?_set, if_neg (fun e => h (by rw [e]))]
theorem Ends.step {o : Oper} {w : List (Option Tmp)} {env env0 : List SV} {h h1 : SH} {v : SV} {env' : List SV} {h' : SH} (he : qA env = qA env0) (hl : env.length = env0.length) (hk : Keep h h1) (x : Ends P w (qCF env o.dst v) h1 env' h') : Ends P (o.dst :: w) env0 h env' h' :=
 ⟨x.1, x.2.1, hk.trans x.2.2.1, fun i hi => by
   rw [List.mem_cons, not_or] at hi
   rw [x.2.2.2.1 i hi.2, q2M (fun e => hi.1 e.symm), he], by rw [x.2.2.2.2, qXS, hl]⟩
omit [Yl] in
theorem xZ {Γ : Type} {w : Wld Γ} {Q Q' : Γ -> List PV -> PHp -> Prop} (hq : ∀ g e p, Q g e p -> Q' g e p) : ∀ {t : PT} {g : Γ}, t.holdsY P G w Q g -> t.holdsY P G w Q' g
 | .fail, _, h => h.elim
 | .ret e p, g, h => hq g e p h
 | .chk c t, g, h => ⟨h.1, xZ hq h.2⟩
 | .call nm f args ph k, g, h => by
   obtain ⟨R, h1, h2⟩ := h;exact ⟨R, h1, fun v p hr => xZ hq (h2 v p hr)⟩
 | .rnd l args ph k, g, h => by
   obtain ⟨fargs, tys, ph1, g', b, h1, h2, h3⟩ := h;exact ⟨fargs, tys, ph1, g', b, h1, h2, xZ hq h3⟩
def qXQ (T : kT) (f : FuncId) : Bool := !(slT f T).isSome
theorem qFR {Γ : Type} {w : Wld Γ} {T : kT} {CI : CIT} {Y : YI Γ} (ht : qWK tab T) (hci : q3Q P G CI) (hy : YOk P G w Y) {ds : List (Option Tmp)} : ∀ {l : List Oper} {g : Γ} {env : List SV} {h : SH} {K : Γ -> List SV -> SH -> Tree R}, OkH P h -> okL h env -> (qWR P T CI Y nm ds l g env h K).run = some r ->
 (pops P tab (qXQ T) nm ds l (qA env) (qD h.l)).holdsY P G w (fun g e p => ∃ env' h', e = qA env' ∧ p = qD h'.l ∧ Ends P (l.map (·.dst)) env h env' h' ∧ (K g env' h').run = some r) g
 | [], g, env, h, K, ho, he, e => ⟨env, h, rfl, rfl, ⟨he, ho, .refl _, fun _ _ => rfl, rfl⟩, e⟩
 | o :: l, g, env, h, K, ho, he, e => by
   unfold qWR at e;obtain ⟨env1, q1, q2, q3, q4⟩ := qEA he e;rw [qUU]
   rcases q4 with ⟨hw, e1⟩ | ⟨hw, e1⟩
   ·rw [hw, qW8];obtain ⟨c, e2⟩ := qF e1
    have next : ∀ {g' : Γ} {v : SV} {h' : SH}, Post P h h' v -> (qWR P T CI Y nm ds l g' (qCF env1 o.dst v) h' K).run = some r -> (pops P tab (qXQ T) nm ds l (yR (qA env) o.dst v.enc) (qD h'.l)).holdsY P G w (fun g e p => ∃ env' h', e = qA env' ∧ p = qD h'.l ∧ Ends P ((o :: l).map (·.dst)) env h env' h' ∧ (K g env' h').run = some r) g' := fun {g' v h'} a2 a3 => by
     have ih := qFR ht hci hy a2.2.1 (tN (d := o.dst) (qO a2.1 q2) a2.2.2) a3;rw [nJ, q1] at ih;exact xZ (fun g e p ⟨env', h', b1, b2, b3, b4⟩ => ⟨env', h', b1, b2, Ends.step q1 q3 a2.1 b3, b4⟩) ih
    have chk : ∀ {g' : Γ} {v : SV} {h' : SH}, Post P h h' v -> (qWR P T CI Y nm ds l g' (qCF env1 o.dst v) h' K).run = some r -> (q1M (needs o.op) (zH nm o.dst) nm (qA env) (qD h.l) (pops P tab (qXQ T) nm ds l (yR (qA env) o.dst v.enc) (qD h'.l))).holdsY P G w (fun g e p => ∃ env' h', e = qA env' ∧ p = qD h'.l ∧ Ends P ((o :: l).map (·.dst)) env h env' h' ∧ (K g env' h').run = some r) g' := fun {g' v h'} a2 a3 => by
     unfold q1M
     cases hn : needs o.op with
     | false => exact next a2 a3
     | true =>
       rw [hn] at c;simp only [cond_true] at c ⊢;refine ⟨?_, next a2 a3⟩;unfold qEU at c;rw [q1] at c;simp only [Bool.and_eq_true] at c;unfold fresh;rw [c.1, c.2.1, mU c.2.2]; rfl
    unfold q0M at e2;split at e2
    ·rename_i f args ts hop
     have hpe : bA P tab (qXQ T) (zH nm o.dst) o (qA env) (qD h.l) = o8 P tab (qXQ T) (xG env1 f).enc (qA (oG env1 args)) (qD h.l) := by
      unfold bA;rw [<- q1];simp only [hop, qJ, nP]
     rw [hpe];have hfv := qBV q2 f;have has := nY q2 args
     revert e2 hfv
     generalize xG env1 f = fv;intro e2 hfv;unfold q0T at e2;split at e2
     ·split at e2
      ·rename_i y h1 hd;obtain ⟨p, hp, e3⟩ := run_bind e2;obtain ⟨g', b⟩ := p;obtain ⟨ys, a1, a2, a3, a4⟩ := cK ho has hd
       have : o8 P tab (qXQ T) (SV.enc .yv) (qA (oG env1 args)) (qD h.l) = .rnd Yl.l (qA (oG env1 args)) (qD h.l) := by
        simp only [SV.enc, o8]
       rw [this, qSX];refine ⟨ys, Y.yt, qD h1.l, g', b, a1, ?_, ?_⟩
       ·rw [a2]; exact hy _ _ _ _ hp
       ·have := next (v := .d .bool b) ⟨a3, a4, by simp [SV.ok]⟩ e3;simpa [SV.enc, Ty.fv, fvv] using this
      ·cases e2
     ·split at e2
      ·rename_i t as hst;obtain ⟨h1, h2⟩ := qDW hfv has hst;rw [qJ9 h1];unfold eY qXQ
       cases hsl : (slT t T).isSome with
       | true =>
         rw [hsl] at e2;simp only [cond_true] at e2;obtain ⟨v, h', a1, a2, a3⟩ := qX2 ht ho h2 e2;simp only [Bool.not_true, cond_false];rw [a1, qNJ];exact chk a2 a3
       | false =>
         rw [hsl] at e2;simp only [cond_false] at e2;simp only [Bool.not_false, cond_true];rw [qP1];refine ⟨_, hci _ _ _ _ _ _ ho h2 e2, ?_⟩;rintro v p ⟨v', h', rfl, rfl, a2, a3⟩;obtain ⟨c2, a4⟩ := qF a3;have := qHN c2;rw [q1] at this;exact ⟨this, next a2 a4⟩
      ·cases e2
    ·rename_i hne;obtain ⟨v, h', a1, a2, a3⟩ := q0E ho q2 e2;rw [q1] at a1
     have hpe : bA P tab (qXQ T) (zH nm o.dst) o (qA env) (qD h.l) = .ok v.enc (qD h'.l) := by
      unfold bA;split
      ·rename_i f args ts hop; exact absurd hop (hne f args ts)
      ·rw [a1]; rfl
     rw [hpe, qNJ];exact chk a2 a3
   ·rw [hw, qRU];have ih := qFR ht hci hy ho (tN (d := o.dst) (v := .tup []) q2 (by simp [SV.ok, okL])) e1;rw [nJ, q1] at ih;simp only [SV.enc, qA] at ih;exact xZ (fun g e p ⟨env', h', b1, b2, b3, b4⟩ => ⟨env', h', b1, b2, Ends.step q1 q3 (.refl _) b3, b4⟩) ih
def qWB (P : Program) (T : kT) (nm : Nm) (ds : List (Option Tmp)) (b : Array Nat) (env0 : List SV) : Nat -> List Oper -> List SV -> SH -> List (Nat × List Nat) -> List (Nat × List Nat) -> List (Nat × Nat) -> List (Nat × PV) -> (List SV -> SH -> Tree R) -> Tree R
 | i, [], env, h, E, F, N, V, K => cond (mY b (qA env0) E F N V) (K env h) .fail
 | i, o :: l, env, h, E, F, N, V, K => qFP ds o env
    (fun env => cond (cond (needs o.op) (inP nm (zH nm o.dst) && qXF (zH nm o.dst) h.l) true) (q1G P T true (zH nm o.dst) o env h fun v h' =>
      qWB P T nm ds b env0 (i + 1) l (qCF env o.dst v) h' (cond (zA o) ((i, wlT nm o (qA env)) :: E) E) (cond (zA o) F ((i, dlT o (qA env)) :: F)) (cond (needs o.op) ((i, zH nm o.dst) :: N) N) ((i, v.enc) :: V) K) .fail)
    (fun env => qWB P T nm ds b env0 (i + 1) l (qCF env o.dst (.tup [])) h E F N ((i, .tup []) :: V) K)
theorem qFL {T : kT} (ht : qWK tab T) {ds : List (Option Tmp)} {b : Array Nat} {env0 : List SV} : ∀ {l : List Oper} {i : Nat} {env : List SV} {h : SH} {E F : List (Nat × List Nat)} {N : List (Nat × Nat)} {V : List (Nat × PV)} {K : List SV -> SH -> Tree R}, OkH P h -> okL h env -> (qWB P T nm ds b env0 i l env h E F N V K).run = some r ->
 (qJ1 P tab nm ds b (qA env0) i l (qA env) (qD h.l) E F N V).holds P G fun e p => ∃ env' h', e = qA env' ∧ p = qD h'.l ∧ Ends P (l.map (·.dst)) env h env' h' ∧ (K env' h').run = some r
 | [], i, env, h, E, F, N, V, K, ho, he, e => by
   unfold qWB at e;obtain ⟨c, e1⟩ := qF e;rw [qYG];exact ⟨c, env, h, rfl, rfl, ⟨he, ho, .refl _, fun _ _ => rfl, rfl⟩, e1⟩
 | o :: l, i, env, h, E, F, N, V, K, ho, he, e => by
   unfold qWB at e;obtain ⟨env1, q1, q2, q3, q4⟩ := qEA he e;rw [qS1]
   rcases q4 with ⟨hw, e1⟩ | ⟨hw, e1⟩
   ·rw [hw, qT2];obtain ⟨c, e2⟩ := qF e1;obtain ⟨v, h', a1, a2, a3⟩ := qTC ht ho q2 e2;rw [q1] at a1;rw [a1, qTK];have ih := qFL ht a2.2.1 (tN (d := o.dst) (qO a2.1 q2) a2.2.2) a3;rw [nJ, q1] at ih;have ih2 := holds_mono (Q' := fun e p => ∃ env' h', e = qA env' ∧ p = qD h'.l ∧ Ends P ((o :: l).map (·.dst)) env h env' h' ∧ (K env' h').run = some r) (fun e p ⟨env', h', b1, b2, b3, b4⟩ => ⟨env', h', b1, b2, Ends.step q1 q3 a2.1 b3, b4⟩) ih;unfold qWE
    cases hn : needs o.op with
    | false => rw [hn] at ih2; exact ih2
    | true =>
      rw [hn] at c ih2;simp only [cond_true] at c ⊢;refine ⟨?_, ih2⟩;rw [Bool.and_eq_true] at c;rw [c.1, mU c.2]; rfl
   ·rw [hw, qRA];have ih := qFL ht ho (tN (d := o.dst) (v := .tup []) q2 (by simp [SV.ok, okL])) e1;rw [nJ, q1] at ih;simp only [SV.enc, qA] at ih;exact holds_mono (fun e p ⟨env', h', b1, b2, b3, b4⟩ => ⟨env', h', b1, b2, Ends.step q1 q3 (.refl _) b3, b4⟩) ih
def qOR (ops : Array Oper) : Bool := match ops[ops.size - 1]? with
 | some o => (match o.op with
   | .call ⟨.value _, _, _⟩ => (List.range (ops.size - 1)).all fun i => gF (Region.before ops) i (ops.size - 1)
   | _ => false)
 | none => false
def q7S {Γ : Type} (P : Program) (G : Nat -> Bool) (T : kT) (CI : CIT) (Y : YI Γ) (nm : Nm) (ops : Array Oper) (d : Bool) (g : Γ) (env : List SV) (h : SH) (K : Γ -> List SV -> SH -> Tree R) : Tree R :=
 cond (jB G ops) (cond d (cond (wR ops && gN ops) (cond (qOR ops)
  (qWB P T nm (ops.toList.map (·.dst)) (Region.before ops) env 0 (ops.toList.take (ops.size - 1)) env h [] [] [] [] fun env h => qWR P T CI Y nm (ops.toList.map (·.dst)) (ops.toList.drop (ops.size - 1)) g env h K)
  (qWB P T nm (ops.toList.map (·.dst)) (Region.before ops) env 0 ops.toList env h [] [] [] [] (K g))) .fail) (qWR P T CI Y nm (ops.toList.map (·.dst)) ops.toList g env h K)) .fail
variable {nat : yU} {good : FuncId -> Bool} {rd : Bool}
theorem q3A {Γ : Type} {w : Wld Γ} {T : kT} {CI : CIT} {Y : YI Γ} (s : PSet P good nat G tab) (ht : qWK tab T) (hci : q3Q P G CI) (hy : YOk P G w Y) {id : Nat} {ops : Array Oper} {d : Bool} {g : Γ} {env : List SV} {h : SH} {K : Γ -> List SV -> SH -> Tree R} (ho : OkH P h) (he : okL h env) (e : (q7S P G T CI Y nm ops d g env h K).run = some r) :
 zC P G rd nm w (.region id ops d) g (qA env) (qD h.l) fun x g' pe ph => x = .normal ∧ ∃ env' h', pe = qA env' ∧ ph = qD h'.l ∧ Ends P (ops.toList.map (·.dst)) env h env' h' ∧ (K g' env' h').run = some r := by
 unfold q7S at e;obtain ⟨c1, e1⟩ := qF e
 cases d with
 | true =>
   obtain ⟨c2, e2⟩ := qF (show (cond (wR ops && gN ops) (cond (qOR ops)
    (qWB P T nm (ops.toList.map (·.dst)) (Region.before ops) env 0 (ops.toList.take (ops.size - 1)) env h [] [] [] [] fun env h => qWR P T CI Y nm (ops.toList.map (·.dst)) (ops.toList.drop (ops.size - 1)) g env h K)
    (qWB P T nm (ops.toList.map (·.dst)) (Region.before ops) env 0 ops.toList env h [] [] [] [] (K g))) .fail : Tree R).run = some r from e1)
   rw [Bool.and_eq_true] at c2
   cases hlo : qOR ops with
   | false =>
     rw [hlo] at e2;have e2 : (qWB P T nm (ops.toList.map (·.dst)) (Region.before ops) env 0 ops.toList env h [] [] [] [] (K g)).run = some r := e2;refine (zC.of (s.drwZ (Q := fun x pe ph => x = .normal ∧ ∃ env' h', pe = qA env' ∧ ph = qD h'.l ∧ Ends P (ops.toList.map (·.dst)) env h env' h' ∧ (K g env' h').run = some r) c1 c2.1 c2.2 rfl rfl ?_)).mono ?_
     ·exact holds_mono (fun e p hq => ⟨rfl, hq⟩) (qFL (G := G) ht ho he e2)
     ·rintro x g' pe ph ⟨rfl, hq⟩;exact hq
   | true =>
     rw [hlo] at e2;have e2 : (qWB P T nm (ops.toList.map (·.dst)) (Region.before ops) env 0 (ops.toList.take (ops.size - 1)) env h [] [] [] [] fun env h => qWR P T CI Y nm (ops.toList.map (·.dst)) (ops.toList.drop (ops.size - 1)) g env h K).run = some r := e2;unfold qOR at hlo;split at hlo
     ·rename_i o hop;split at hlo
      ·have hlt := (Array.getElem?_eq_some_iff.1 hop).1
       have hdrop : ops.toList.drop (ops.size - 1) = [o] := by
        have h1 : ops.toList[ops.size - 1]? = some o := by simpa using hop
        obtain ⟨h2, h3⟩ := List.getElem?_eq_some_iff.1 h1;rw [List.drop_eq_getElem_cons h2, h3, List.drop_eq_nil_of_le (by simp; omega)]
       have hmap : (ops.toList.take (ops.size - 1)).map (·.dst) ++ [o.dst] = ops.toList.map (·.dst) := by
        rw [show [o.dst] = [o].map (·.dst) from rfl, <- List.map_append, <- hdrop, List.take_append_drop]
       refine s.drwY (inl := qXQ T) (n0 := ops.size - 1) c1 c2.1 c2.2 hop (by omega) (fun i hi => List.all_eq_true.1 hlo i (List.mem_range.2 hi)) ?_;refine holds_mono (fun e p hq => ?_) (qFL (G := G) ht ho he e2);obtain ⟨env1, h1, rfl, rfl, a3, a4⟩ := hq;rw [hdrop] at a4;refine xZ (fun g2 e p hq => ?_) (qFR (G := G) ht hci hy a3.2.1 a3.1 a4);obtain ⟨env2, h2, rfl, rfl, b3, b4⟩ := hq;refine ⟨rfl, env2, h2, rfl, rfl, ⟨b3.1, b3.2.1, a3.2.2.1.trans b3.2.2.1, fun i hi => ?_, b3.2.2.2.2.trans a3.2.2.2.2⟩, b4⟩;rw [<- hmap, List.mem_append, not_or] at hi;exact (b3.2.2.2.1 i hi.2).trans (a3.2.2.2.1 i hi.1)
      ·cases hlo
     ·cases hlo
 | false => exact s.regY c1 (xZ (fun g e p hq => ⟨rfl, hq⟩) (qFR (G := G) ht hci hy ho he e1))
end
end Go.Sv
