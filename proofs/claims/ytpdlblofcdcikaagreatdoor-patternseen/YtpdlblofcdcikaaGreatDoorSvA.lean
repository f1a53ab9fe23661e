/- A symbolic run, part one. Conditions: none. -/
import Derived.Test.YtpdlblofcdcikaaGreatDoorPur19
set_option linter.all false
namespace Go.Sv
open Go.Idl
variable {j n off : Nat}
class Yl where
 l : Nat
variable [Gc]
variable {P : Program} {Z Z' : Nat -> Prop} {H : IH} {M : Nat -> Option (Nat × PO)}
inductive Ty where
 | int (k : IntKind)
 | bool
 | str
 | unit
 | list (el : TypeId) (t : Ty)
 | pair (a b : Ty)
 | raw deriving DecidableEq
@[reducible] def Ty.sem : Ty -> Type
  | .int _ => Int
  | .bool => Bool
  | .str => ByteArray
  | .unit => Unit
  | .list _ t => List t.sem
  | .pair a b => a.sem × b.sem
  | .raw => List (Value × Value)
def bP (l : List (Value × Value)) : List FV := List.flatMap (fun p => [.v p.1, .v p.2]) l
def Ty.cells : (t : Ty) -> t.sem -> List FV
 | .int k, x => [.v (.int k x)]
 | .bool, x => [.v (.bool x)]
 | .str, x => [.v (.string x)]
 | .unit, _ => []
 | .list el t, xs => [.l el (List.length xs) (List.flatMap t.cells xs)]
 | .pair a b, x => a.cells x.1 ++ b.cells x.2
 | .raw, xs => [.l 1000000001 (List.length xs) (bP xs)]
def Ty.w : Ty -> Nat
 | .int _ | .bool | .str | .list _ _ | .raw => 1
 | .unit => 0
 | .pair a b => a.w + b.w
def Ty.one : Ty -> Bool
 | .unit => false
 | .pair _ _ => false
 | _ => true
def Ty.fv : (t : Ty) -> t.sem -> FV
 | .int k, x => .v (.int k x)
 | .bool, x => .v (.bool x)
 | .str, x => .v (.string x)
 | .list el t, xs => .l el (List.length xs) (List.flatMap t.cells xs)
 | .raw, xs => .l 1000000001 (List.length xs) (bP xs)
 | _, _ => .v undef
theorem Ty.cells_one : ∀ {t : Ty} {x : t.sem}, t.one = true -> t.cells x = [t.fv x]
 | .int _, _, _ => rfl
 | .bool, _, _ => rfl
 | .str, _, _ => rfl
 | .list _ _, _, _ => rfl
 | .raw, _, _ => rfl
 | .unit, _, h => by cases h
 | .pair _ _, _, h => by cases h
theorem Ty.cells_len : ∀ (t : Ty) (x : t.sem), (t.cells x).length = t.w
 | .int _, _ => rfl
 | .bool, _ => rfl
 | .str, _ => rfl
 | .list _ _, _ => rfl
 | .raw, _ => rfl
 | .unit, _ => rfl
 | .pair a b, x => by
   show (a.cells x.1 ++ b.cells x.2).length = a.w + b.w
   rw [List.length_append, a.cells_len, b.cells_len]
theorem xO {t : Ty} : ∀ (xs : List t.sem), (xs.flatMap t.cells).length = xs.length * t.w
 | [] => by simp
 | x :: xs => by rw [List.flatMap_cons, List.length_append, t.cells_len, xO xs, List.length_cons, Nat.succ_mul, Nat.add_comm]
theorem fJ {t : Ty} : ∀ (xs : List t.sem) (j : Nat), (xs.flatMap t.cells).drop (j * t.w) = (xs.drop j).flatMap t.cells
 | xs, 0 => by simp
 | [], j + 1 => by simp
 | x :: xs, j + 1 => by
   rw [List.flatMap_cons, List.drop_succ_cons, <- fJ xs j, Nat.succ_mul, Nat.add_comm, <- List.drop_drop]
   congr 1
   rw [List.drop_append_of_le_length (by rw [t.cells_len]; exact Nat.le_refl _), List.drop_of_length_le (by rw [t.cells_len]; exact Nat.le_refl _), List.nil_append]
theorem eG {t : Ty} : ∀ (xs : List t.sem) (j : Nat), (xs.flatMap t.cells).take (j * t.w) = (xs.take j).flatMap t.cells
 | xs, 0 => by simp
 | [], j + 1 => by simp
 | x :: xs, j + 1 => by
   rw [List.flatMap_cons, List.take_succ_cons, List.flatMap_cons, <- eG xs j, Nat.succ_mul, Nat.add_comm, List.take_append, t.cells_len, Nat.add_sub_cancel_left, List.take_of_length_le (by rw [t.cells_len]; omega)]
theorem qUN {t : Ty} {xs : List t.sem} {x : t.sem} (h : xs[j]? = some x) : ((xs.flatMap t.cells).drop (j * t.w)).take t.w = t.cells x := by
 rw [fJ]
 have hj := (List.getElem?_eq_some_iff.1 h)
 obtain ⟨hl, hx⟩ := hj
 rw [List.drop_eq_getElem_cons hl, hx, List.flatMap_cons, List.take_append_of_le_length (by rw [t.cells_len]; exact Nat.le_refl _), List.take_of_length_le (by rw [t.cells_len]; exact Nat.le_refl _)]
theorem qII {t : Ty} {xs : List t.sem} {x : t.sem} (h : xs[j]? = some x) (hn : off + n <= t.w) : ((xs.flatMap t.cells).drop (j * t.w + off)).take n = ((t.cells x).drop off).take n := by
 rw [<- qUN h, List.drop_take, List.drop_drop, List.take_take, Nat.min_eq_left (by omega)]
theorem flat_get {t : Ty} {xs : List t.sem} {x : t.sem} (h : xs[j]? = some x) (hn : off < t.w) : (xs.flatMap t.cells)[j * t.w + off]? = (t.cells x)[off]? := by
 rw [<- qUN h, List.getElem?_take, if_pos hn, List.getElem?_drop]
theorem qKM {t : Ty} {xs : List t.sem} {x : t.sem} (h : xs[j]? = some x) (hn : off + n <= t.w) : j * t.w + off + n <= (xs.flatMap t.cells).length := by
 have hl := (List.getElem?_eq_some_iff.1 h).1
 rw [xO]
 have : (j + 1) * t.w <= xs.length * t.w := Nat.mul_le_mul_right _ hl
 rw [Nat.succ_mul] at this
 omega
theorem qH0 : ∀ (xs ys : List (Value × Value)), bP xs = bP ys -> xs = ys
 | [], [], _ => rfl
 | [], y :: ys, h => by cases h
 | x :: xs, [], h => by cases h
 | x :: xs, y :: ys, h => by
   have h : FV.v x.1 :: FV.v x.2 :: bP xs = FV.v y.1 :: FV.v y.2 :: bP ys := h
   injection h with h1 h2
   injection h2 with h2 h3
   injection h1 with h1
   injection h2 with h2
   rw [qH0 xs ys h3, Prod.ext h1 h2]
theorem tJ : ∀ (xs : List (Value × Value)), (bP xs).length = 2 * xs.length
 | [] => rfl
 | x :: xs => by
   show (bP xs).length + 2 = _
   rw [tJ xs, List.length_cons]; omega
theorem qOO : ∀ (xs ys : List (Value × Value)) (vs : List Value), FRL Z H (bP xs) vs -> FRL Z' H (bP ys) vs -> xs = ys
 | [], [], _, _, _ => rfl
 | [], y :: ys, vs, a, b => by have := a.len; have := b.len; simp [bP] at *; omega
 | x :: xs, [], vs, a, b => by have := a.len; have := b.len; simp [bP] at *; omega
 | x :: xs, y :: ys, vs, a, b => by
   have a : FRL Z H (FV.v x.1 :: FV.v x.2 :: bP xs) vs := a
   have b : FRL Z' H (FV.v y.1 :: FV.v y.2 :: bP ys) vs := b
   obtain ⟨v, vs', rfl, a1, a2⟩ := a.uncons
   obtain ⟨v', vs2, e, b1, b2⟩ := b.uncons
   cases e
   obtain ⟨w, vs3, rfl, a3, a4⟩ := a2.uncons
   obtain ⟨w', vs4, e, b3, b4⟩ := b2.uncons
   cases e
   have e1 := (qQ7 a1).symm.trans (qQ7 b1)
   have e2 := (qQ7 a3).symm.trans (qQ7 b3)
   rw [qOO xs ys _ a4 b4, Prod.ext e1 e2]
theorem Ty.inj : ∀ (t : Ty) (x y : t.sem), t.cells x = t.cells y -> x = y
 | .int _, x, y, h => by injection h with h; injection h with h; injection h
 | .bool, x, y, h => by injection h with h; injection h with h; injection h
 | .str, x, y, h => by injection h with h; injection h with h; injection h
 | .unit, _, _, _ => rfl
 | .raw, xs, ys, h => by
   injection h with h
   injection h with _ h1 h2
   exact qH0 _ _ h2
 | .pair a b, x, y, h => by
   have := List.append_inj (show a.cells x.1 ++ b.cells x.2 = a.cells y.1 ++ b.cells y.2 from h) (by rw [a.cells_len, a.cells_len])
   exact Prod.ext (a.inj _ _ this.1) (b.inj _ _ this.2)
 | .list el t, xs, ys, h => by
   injection h with h
   injection h with _ h1 h2
   exact go t xs ys h1 h2
where
 go (t : Ty) : ∀ (xs ys : List t.sem), xs.length = ys.length -> xs.flatMap t.cells = ys.flatMap t.cells -> xs = ys
 | [], [], _, _ => rfl
 | [], y :: ys, e, h => by cases e
 | x :: xs, [], e, h => by cases e
 | x :: xs, y :: ys, e, h => by
   rw [List.flatMap_cons, List.flatMap_cons] at h
   have := List.append_inj h (by rw [t.cells_len, t.cells_len])
   rw [t.inj x y this.1, go t xs ys (by simpa using e) this.2]
theorem Ty.uniq : ∀ (t : Ty) {x y : t.sem} {vs : List Value}, FRL Z H (t.cells x) vs -> FRL Z' H (t.cells y) vs -> x = y
 | .int k, x, y, vs, a, b => by
   obtain ⟨v, vs', rfl, a1, _⟩ := a.uncons
   obtain ⟨v', vs2, e, b1, _⟩ := b.uncons
   cases e
   have := (qQ7 a1).symm.trans (qQ7 b1)
   injection this
 | .bool, x, y, vs, a, b => by
   obtain ⟨v, vs', rfl, a1, _⟩ := a.uncons
   obtain ⟨v', vs2, e, b1, _⟩ := b.uncons
   cases e
   have := (qQ7 a1).symm.trans (qQ7 b1)
   injection this
 | .str, x, y, vs, a, b => by
   obtain ⟨v, vs', rfl, a1, _⟩ := a.uncons
   obtain ⟨v', vs2, e, b1, _⟩ := b.uncons
   cases e
   have := (qQ7 a1).symm.trans (qQ7 b1)
   injection this
 | .unit, _, _, _, _, _ => rfl
 | .raw, xs, ys, vs, a, b => by
   obtain ⟨v, vs', rfl, a1, _⟩ := a.uncons
   obtain ⟨v', vs2, e, b1, _⟩ := b.uncons
   cases e
   obtain ⟨h1, ws, ws', h2, h3, h4⟩ := tO a1 b1
   have := h4 (by rw [tJ, tJ, h1])
   subst this
   exact qOO xs ys ws h2 h3
 | .pair s t, x, y, vs, a, b => by
   obtain ⟨a1, a2⟩ := FRL.split (xs := s.cells x.1) (ys := t.cells x.2) a
   obtain ⟨b1, b2⟩ := FRL.split (xs := s.cells y.1) (ys := t.cells y.2) b
   rw [s.cells_len] at a1 a2 b1 b2
   exact Prod.ext (s.uniq a1 b1) (t.uniq a2 b2)
 | .list el t, xs, ys, vs, a, b => by
   obtain ⟨v, vs', rfl, a1, _⟩ := a.uncons
   obtain ⟨v', vs2, e, b1, _⟩ := b.uncons
   cases e
   obtain ⟨h1, ws, ws', h2, h3, h4⟩ := tO a1 b1
   have := h4 (by rw [xO, xO, h1])
   subst this
   exact go t xs ys ws h1 h2 h3
where
 go (t : Ty) : ∀ (xs ys : List t.sem) (vs : List Value), xs.length = ys.length -> FRL Z H (xs.flatMap t.cells) vs -> FRL Z' H (ys.flatMap t.cells) vs -> xs = ys
 | [], [], _, _, _, _ => rfl
 | [], y :: ys, vs, e, a, b => by cases e
 | x :: xs, [], vs, e, a, b => by cases e
 | x :: xs, y :: ys, vs, e, a, b => by
   rw [List.flatMap_cons] at a b
   obtain ⟨a1, a2⟩ := a.split
   obtain ⟨b1, b2⟩ := b.split
   rw [t.cells_len] at a1 a2 b1 b2
   rw [t.uniq a1 b1, go t xs ys _ (by simpa using e) a2 b2]
def Ty.pv (t : Ty) (x : t.sem) : PV := cond t.one (.f (t.fv x)) (.agg ((t.cells x).map .f))
def Ty.en (t : Ty) : PEn t.sem := ⟨t.pv, fun x y h => by
 unfold Ty.pv at h
 cases ht : t.one with
 | true =>
   rw [ht] at h
   injection h with h
   exact t.inj x y (by rw [Ty.cells_one ht, Ty.cells_one ht, h])
 | false =>
   rw [ht] at h
   injection h with h
   exact t.inj x y (q1W _ _ h), fun P Z Z' H x y v a b => by
 unfold Ty.pv at a b
 cases ht : t.one with
 | true =>
   rw [ht] at a b
   cases a with
   | f a => cases b with
     | f b => exact t.uniq (vs := [v]) (by rw [Ty.cells_one ht]; exact .cons a ⟨rfl, fun i x v h => by simp at h⟩) (by rw [Ty.cells_one ht]; exact .cons b ⟨rfl, fun i x v h => by simp at h⟩)
 | false =>
   rw [ht] at a b
   obtain ⟨vs, rfl, h1⟩ := VR.aggL a
   obtain ⟨vs', e, h2⟩ := VR.aggL b
   cases e
   exact t.uniq (qBP h1) (qBP h2)⟩
@[reducible] def TyL : List Ty -> Type
  | [] => Unit
  | [t] => t.sem
  | t :: u :: ts => t.sem × TyL (u :: ts)
def pvL : (ts : List Ty) -> TyL ts -> List PV
 | [], _ => []
 | [t], x => [t.pv x]
 | t :: u :: ts, x => t.pv x.1 :: pvL (u :: ts) x.2
theorem qVT : ∀ (ts : List Ty) (x y : TyL ts), pvL ts x = pvL ts y -> x = y
 | [], _, _, _ => rfl
 | [t], x, y, h => by injection h with h; exact t.en.inj x y h
 | t :: u :: ts, x, y, h => by
   injection h with h1 h2
   exact Prod.ext (t.en.inj _ _ h1) (qVT (u :: ts) _ _ h2)
theorem qNE : ∀ (ts : List Ty) (x y : TyL ts) (vs : List Value), VRL P Z H (fun _ => none) (pvL ts x) vs -> VRL P Z' H (fun _ => none) (pvL ts y) vs -> x = y
 | [], _, _, _, _, _ => rfl
 | [t], x, y, vs, a, b => by
   obtain ⟨v, vs', rfl, a1, _⟩ := a.uncons
   obtain ⟨v', vs2, e, b1, _⟩ := b.uncons
   cases e
   exact t.en.uniq P Z Z' H x y v a1 b1
 | t :: u :: ts, x, y, vs, a, b => by
   obtain ⟨v, vs', rfl, a1, a2⟩ := a.uncons
   obtain ⟨v', vs2, e, b1, b2⟩ := b.uncons
   cases e
   exact Prod.ext (t.en.uniq P Z Z' H _ _ v a1 b1) (qNE (u :: ts) _ _ _ a2 b2)
def enL (ts : List Ty) : AEn (TyL ts) := ⟨pvL ts, qVT ts, fun P Z Z' H x y vs a b => qNE ts x y vs a b⟩
def jY : (ts : List Ty) -> TyL ts -> PV := fun ts x => qB8 (pvL ts x)
end Go.Sv
namespace Go.Sv
open Go.Idl
variable [Gc]
variable {P : Program}
variable {b : Bool} {k : Nat}
def Tree (R : Type) : Type := Option R
section
variable {R α σ ρ : Type}
def Tree.run (t : Tree R) : Option R := t
def Tree.fail : Tree R := (none : Option R)
def Tree.ret (r : R) : Tree R := some r
def Tree.ite (b : Bool) (x y : Tree R) : Tree R := cond b x y
noncomputable def Tree.bind (o : Option α) (k : α -> Tree R) : Tree R := Option.rec Tree.fail k o
noncomputable def Tree.loop (f : σ -> Tree (σ ⊕ ρ)) (s : σ) (k : ρ -> Tree R) : Tree R := Tree.bind (qL (fun s => (f s).run) s) k
end
theorem run_ite {R : Type} {x y : Tree R} {r : R} (h : (Tree.ite b x y).run = some r) : (b = true ∧ x.run = some r) ∨ (b = false ∧ y.run = some r) := by
 cases b with
 | true => exact .inl ⟨rfl, h⟩
 | false => exact .inr ⟨rfl, h⟩
theorem run_bind {R α : Type} {o : Option α} {k : α -> Tree R} {r : R} (h : (Tree.bind o k).run = some r) : ∃ a, o = some a ∧ (k a).run = some r := by
 cases o with
 | none => cases h
 | some a => exact ⟨a, rfl, h⟩
theorem qYX {R σ ρ : Type} {f : σ -> Tree (σ ⊕ ρ)} {s : σ} {k : ρ -> Tree R} {r : R} (h : (Tree.loop f s k).run = some r) : ∃ a, qL (fun s => (f s).run) s = some a ∧ (k a).run = some r := run_bind h
theorem qO {R : Type} {x : Tree R} {r : R} (h : (cond b x .fail).run = some r) : b = true ∧ x.run = some r := by
 cases b with
 | true => exact ⟨rfl, h⟩
 | false => cases h
inductive SV where
 | d (t : Ty) (x : t.sem)
 | c (v : Value)
 | agg (l : List SV)
 | tup (l : List SV)
 | own (k g n : Nat)
 | sl (k g n o m : Nat)
 | ref (k off w : Nat)
 | elt (k g n w j off : Nat)
 | lp (t : Ty) (xs : List t.sem) (j off : Nat)
 | fn (f : FuncId) (first cap : List SV)
 | unk
 | yv
 | mp (k : Nat)
section
variable [Yl]
mutual
def SV.enc : SV -> PV
 | .d t x => .f (t.fv x)
 | .c v => fvv v
 | .agg l => .agg (qC l)
 | .tup l => .tup (qC l)
 | .own k _ n => .own k n 0 n
 | .sl k _ n o m => .own k n o m
 | .ref k off w => .ref k w off
 | .elt k _ n w j off => .ref k (n * w) (j * w + off)
 | .lp t xs j off => .lp (List.flatMap t.cells xs) (j * t.w + off)
 | .fn f a b => .fn f (qC a) (qC b)
 | .unk => .unk
 | .yv => .yl Yl.l
 | .mp k => .mp k
def qC : List SV -> List PV
 | [] => []
 | x :: l => x.enc :: qC l
end
theorem zB : ∀ (l : List SV), qC l = l.map SV.enc
 | [] => by simp [qC]
 | x :: l => by simp [qC, zB l]
end
inductive SpO where
 | map (es : List (Value × Value))
 | iter (s : ByteArray) (pos : Nat)
def qKI : Nat -> List (Value × Value) -> List MapEntry
 | _, [] => []
 | i, p :: l => ⟨p.1, p.2, i⟩ :: qKI (i + 1) l
def SpO.enc : SpO -> PO
 | .map es => ⟨1000000001, false, qMF (List.length es) (qKI 0 es)⟩
 | .iter s pos => ⟨1000000000, false, q4R s pos⟩
inductive SO where
 | spc (w : Nat) (x : SpO)
 | cells (el : TypeId) (w : Nat) (l : List SV)
 | list (el : TypeId) (gr : Bool) (g w : Nat) (t : Ty) (xs : List t.sem)
section
variable [Yl]
def SO.enc : SO -> PO
 | .cells el _ l => ⟨el, false, qC l⟩
 | .list el gr _ _ t xs => ⟨el, gr, (List.flatMap t.cells xs).map .f⟩
 | .spc _ x => x.enc
def SO.w : SO -> Nat
 | .cells _ w _ => w
 | .list _ _ _ w _ _ => w
 | .spc w _ => w
structure SH where
 next : Nat
 l : List (Nat × SO)
def slk (k : Nat) : List (Nat × SO) -> Option SO
 | [] => none
 | (j, o) :: l => cond (k == j) (some o) (slk k l)
def sst (k : Nat) (o : SO) : List (Nat × SO) -> List (Nat × SO)
 | [] => []
 | (j, p) :: l => cond (k == j) ((j, o) :: l) ((j, p) :: sst k o l)
def sdl (k : Nat) : List (Nat × SO) -> List (Nat × SO)
 | [] => []
 | (j, p) :: l => cond (k == j) (sdl k l) ((j, p) :: sdl k l)
def qH : List (Nat × SO) -> PHp
 | [] => []
 | (j, o) :: l => (j, o.enc) :: qH l
theorem mU (k : Nat) : ∀ (l : List (Nat × SO)), qD k (qH l) = (slk k l).map SO.enc
 | [] => rfl
 | (j, o) :: l => by
   show cond (k == j) (some o.enc) (qD k (qH l)) = (cond (k == j) (some o) (slk k l)).map SO.enc
   cases k == j
   ·exact mU k l
   ·rfl
theorem nM (k : Nat) (o : SO) : ∀ (l : List (Nat × SO)), qH (sst k o l) = nU k o.enc (qH l)
 | [] => rfl
 | (j, p) :: l => by
   show qH (cond (k == j) ((j, o) :: l) ((j, p) :: sst k o l)) = cond (k == j) ((j, o.enc) :: qH l) ((j, p.enc) :: nU k o.enc (qH l))
   cases k == j
   ·show (j, p.enc) :: qH (sst k o l) = _
    rw [nM k o l]; rfl
   ·rfl
theorem dQ (k : Nat) : ∀ (l : List (Nat × SO)), qH (sdl k l) = qF1 k (qH l)
 | [] => rfl
 | (j, p) :: l => by
   show qH (cond (k == j) (sdl k l) ((j, p) :: sdl k l)) = cond (k == j) (qF1 k (qH l)) ((j, p.enc) :: qF1 k (qH l))
   cases k == j
   ·show (j, p.enc) :: qH (sdl k l) = _
    rw [dQ k l]; rfl
   ·exact dQ k l
end
theorem qCP {k j : Nat} {o : SO} (hj : j ≠ k) : ∀ (l : List (Nat × SO)), slk j (sst k o l) = slk j l
 | [] => rfl
 | (i, p) :: l => by
   show slk j (cond (k == i) ((i, o) :: l) ((i, p) :: sst k o l)) = cond (j == i) (some p) (slk j l)
   cases h : k == i with
   | true =>
     have : k = i := by simpa using h
     subst this
     show cond (j == k) (some o) (slk j l) = _
     rw [show (j == k) = false by simpa using hj]; rfl
   | false =>
     show cond (j == i) (some p) (slk j (sst k o l)) = _
     rw [qCP hj l]
theorem qV3 {k : Nat} {o p : SO} : ∀ {l : List (Nat × SO)}, slk k l = some p -> slk k (sst k o l) = some o
 | (i, q) :: l, h => by
   have h : cond (k == i) (some q) (slk k l) = some p := h
   show slk k (cond (k == i) ((i, o) :: l) ((i, q) :: sst k o l)) = some o
   cases hi : k == i with
   | true =>
     show cond (k == i) (some o) (slk k l) = some o
     rw [hi]; rfl
   | false =>
     rw [hi] at h
     show cond (k == i) (some q) (slk k (sst k o l)) = some o
     rw [hi]; exact qV3 (l := l) h
theorem kP {k j : Nat} (hj : j ≠ k) : ∀ (l : List (Nat × SO)), slk j (sdl k l) = slk j l
 | [] => rfl
 | (i, p) :: l => by
   show slk j (cond (k == i) (sdl k l) ((i, p) :: sdl k l)) = cond (j == i) (some p) (slk j l)
   cases h : k == i with
   | true =>
     have : k = i := by simpa using h
     subst this
     rw [show (j == k) = false by simpa using hj]
     exact kP hj l
   | false =>
     show cond (j == i) (some p) (slk j (sdl k l)) = _
     rw [kP hj l]
theorem qLZ (k : Nat) : ∀ (l : List (Nat × SO)), slk k (sdl k l) = none
 | [] => rfl
 | (i, p) :: l => by
   show slk k (cond (k == i) (sdl k l) ((i, p) :: sdl k l)) = none
   cases h : k == i with
   | true => exact qLZ k l
   | false =>
     show cond (k == i) (some p) (slk k (sdl k l)) = none
     rw [h]; exact qLZ k l
theorem yE {j : Nat} {o : SO} {l : List (Nat × SO)} (hj : j ≠ k) : slk j ((k, o) :: l) = slk j l := by
 show cond (j == k) (some o) (slk j l) = _
 rw [show (j == k) = false by simpa using hj]; rfl
theorem wD {o : SO} {l : List (Nat × SO)} : slk k ((k, o) :: l) = some o := by
 show cond (k == k) (some o) (slk k l) = _
 simp
def q0P (h : SH) (k g n : Nat) : Prop := g < h.next ∧ ∀ el gr w t xs, slk k h.l = some (.list el gr g w t xs) -> n = xs.length
mutual
def SV.ok (h : SH) : SV -> Prop
 | .agg l => okL h l
 | .tup l => okL h l
 | .own k g n => q0P h k g n
 | .sl k g n o m => q0P h k g n ∧ o + m <= n
 | .elt k g n _ _ _ => q0P h k g n
 | .fn _ a b => okL h a ∧ okL h b
 | _ => True
def okL (h : SH) : List SV -> Prop
 | [] => True
 | x :: l => x.ok h ∧ okL h l
end
theorem yT {h : SH} : ∀ {l : List SV}, okL h l ↔ ∀ x ∈ l, x.ok h
 | [] => by simp [okL]
 | x :: l => by simp [okL, yT (l := l)]
structure OkH (P : Program) (h : SH) : Prop where
 ver : ∀ k ob, slk k h.l = some ob -> ob.w < h.next
 cells : ∀ k el w l, slk k h.l = some (.cells el w l) -> okL h l
 list : ∀ k el gr g w t xs, slk k h.l = some (.list el gr g w t xs) -> g < h.next ∧ szT P el = some t.w ∧ 0 < t.w
structure Keep (h h' : SH) : Prop where
 next : h.next <= h'.next
 same : ∀ k ob, slk k h'.l = some ob -> ob.w < h.next -> slk k h.l = some ob
 len : ∀ k el gr g w t xs, slk k h'.l = some (.list el gr g w t xs) -> g < h.next -> ∃ w0, ∃ xs0 : List t.sem, slk k h.l = some (.list el gr g w0 t xs0) ∧ xs0.length = xs.length
theorem Keep.refl (h : SH) : Keep h h := ⟨Nat.le_refl _, fun _ _ h _ => h, fun k el gr g w t xs h _ => ⟨w, xs, h, rfl⟩⟩
theorem Keep.trans {a b c : SH} (x : Keep a b) (y : Keep b c) : Keep a c :=
 ⟨Nat.le_trans x.next y.next, fun k ob h hw => x.same k ob (y.same k ob h (Nat.lt_of_lt_of_le hw x.next)) hw, fun k el gr g w t xs h hg => by
   obtain ⟨w1, xs1, h1, e1⟩ := y.len k el gr g w t xs h (Nat.lt_of_lt_of_le hg x.next)
   obtain ⟨w2, xs2, h2, e2⟩ := x.len k el gr g w1 t xs1 h1 hg
   exact ⟨w2, xs2, h2, e2.trans e1⟩⟩
theorem q0P.keep {h h' : SH} {g n : Nat} (a : q0P h k g n) (b : Keep h h') : q0P h' k g n :=
 ⟨Nat.lt_of_lt_of_le a.1 b.next, fun el gr w t xs hk => by
   obtain ⟨w0, xs0, h0, e0⟩ := b.len k el gr g w t xs hk a.1
   rw [<- e0]; exact a.2 el gr w0 t xs0 h0⟩
mutual
theorem SV.ok.keep {h h' : SH} (b : Keep h h') : ∀ {x : SV}, x.ok h -> x.ok h'
 | .agg l, a => by simp only [SV.ok] at a ⊢; exact qQ b a
 | .tup l, a => by simp only [SV.ok] at a ⊢; exact qQ b a
 | .own k g n, a => by simp only [SV.ok] at a ⊢; exact a.keep b
 | .sl k g n o m, a => by simp only [SV.ok] at a ⊢; exact ⟨a.1.keep b, a.2⟩
 | .elt k g n w j off, a => by simp only [SV.ok] at a ⊢; exact a.keep b
 | .fn f x y, a => by simp only [SV.ok] at a ⊢; exact ⟨qQ b a.1, qQ b a.2⟩
 | .d _ _, _ => by simp [SV.ok]
 | .c _, _ => by simp [SV.ok]
 | .ref _ _ _, _ => by simp [SV.ok]
 | .lp _ _ _ _, _ => by simp [SV.ok]
 | .unk, _ => by simp [SV.ok]
 | .yv, _ => by simp [SV.ok]
 | .mp _, _ => by simp [SV.ok]
theorem qQ {h h' : SH} (b : Keep h h') : ∀ {l : List SV}, okL h l -> okL h' l
 | [], _ => by simp [okL]
 | x :: l, a => by simp only [okL] at a ⊢; exact ⟨SV.ok.keep b a.1, qQ b a.2⟩
end
def SH.new (h : SH) (k : Nat) (f : Nat -> SO) : SH := ⟨h.next + 1, (k, f h.next) :: h.l⟩
def SH.put (h : SH) (k : Nat) (f : Nat -> SO) : SH := ⟨h.next + 1, sst k (f h.next) h.l⟩
def SH.del (h : SH) (k : Nat) : SH := ⟨h.next, sdl k h.l⟩
def q4U (P : Program) (h : SH) (n : Nat) : SO -> Prop
 | .cells _ w l => w = n ∧ okL h l
 | .list el _ g w t _ => w = n ∧ g = n ∧ szT P el = some t.w ∧ 0 < t.w
 | .spc w _ => w = n
theorem qX6 {h : SH} {f : Nat -> SO} (hw : (f h.next).w = h.next) (hg : ∀ el gr g w t xs, f h.next = .list el gr g w t xs -> g = h.next) : Keep h (h.new k f) :=
 ⟨Nat.le_succ _, fun j ob hj hlt => by
   by_cases e : j = k
   ·subst e; rw [show slk j (h.new j f).l = some (f h.next) from wD] at hj
    cases hj; omega
   ·rwa [show slk j (h.new k f).l = slk j h.l from yE e] at hj, fun j el gr g w t xs hj hlt => by
   by_cases e : j = k
   ·subst e; rw [show slk j (h.new j f).l = some (f h.next) from wD] at hj
    have := hg _ _ _ _ _ _ (Option.some.inj hj)
    omega
   ·rw [show slk j (h.new k f).l = slk j h.l from yE e] at hj
    exact ⟨w, xs, hj, rfl⟩⟩
theorem jK {h : SH} {f : Nat -> SO} (a : OkH P h) (hf : q4U P h h.next (f h.next)) : Keep h (h.new k f) ∧ OkH P (h.new k f) := by
 have hw : (f h.next).w = h.next := by
  cases hq : f h.next with
  | cells el w l => rw [hq] at hf; exact hf.1
  | list el gr g w t xs => rw [hq] at hf; exact hf.1
  | spc w x => rw [hq] at hf; exact hf
 have hk : Keep h (h.new k f) := qX6 hw fun el gr g w t xs e => by rw [e] at hf; exact hf.2.1
 refine ⟨hk, ⟨fun j ob hj => ?_, fun j el w l hj => ?_, fun j el gr g w t xs hj => ?_⟩⟩
 ·by_cases e : j = k
  ·subst e; rw [show slk j (h.new j f).l = some (f h.next) from wD] at hj
   cases hj; rw [hw]; exact Nat.lt_succ_self _
  ·rw [show slk j (h.new k f).l = slk j h.l from yE e] at hj
   exact Nat.lt_succ_of_lt (a.ver j ob hj)
 ·by_cases e : j = k
  ·subst e; rw [show slk j (h.new j f).l = some (f h.next) from wD] at hj
   rw [Option.some.inj hj] at hf
   exact qQ hk hf.2
  ·rw [show slk j (h.new k f).l = slk j h.l from yE e] at hj
   exact qQ hk (a.cells j el w l hj)
 ·by_cases e : j = k
  ·subst e; rw [show slk j (h.new j f).l = some (f h.next) from wD] at hj
   rw [Option.some.inj hj] at hf
   exact ⟨by rw [hf.2.1]; exact Nat.lt_succ_self _, hf.2.2⟩
  ·rw [show slk j (h.new k f).l = slk j h.l from yE e] at hj
   have := a.list j el gr g w t xs hj
   exact ⟨Nat.lt_succ_of_lt this.1, this.2⟩
def q8B (h : SH) (n : Nat) : SO -> SO -> Prop
 | .cells _ _ _, .cells _ w' l' => w' = n ∧ okL h l'
 | .list el gr g _ t xs, ob' => ∃ xs' : List t.sem, ob' = .list el gr g n t xs' ∧ xs.length = xs'.length
 | .spc _ _, .spc w' _ => w' = n
 | _, _ => False
theorem qFA {h : SH} {f : Nat -> SO} {ob : SO} (a : OkH P h) (hk : slk k h.l = some ob) (hf : q8B h h.next ob (f h.next)) : Keep h (h.put k f) ∧ OkH P (h.put k f) := by
 have hs : slk k (h.put k f).l = some (f h.next) := qV3 hk
 have hn : ∀ j, j ≠ k -> slk j (h.put k f).l = slk j h.l := fun j hj => qCP hj _
 have hw : (f h.next).w = h.next := by
  cases ob with
  | cells el w l =>
    cases hq : f h.next with
    | cells el' w' l' => rw [hq] at hf; exact hf.1
    | list => rw [hq] at hf; exact hf.elim
    | spc => rw [hq] at hf; exact hf.elim
  | spc w0 x0 =>
    cases hq : f h.next with
    | spc w' x' => rw [hq] at hf; exact hf
    | list => rw [hq] at hf; exact hf.elim
    | cells => rw [hq] at hf; exact hf.elim
  | list el gr g w t xs =>
    obtain ⟨xs', e, _⟩ := hf
    rw [e]; rfl
 have hkp : Keep h (h.put k f) := by
  refine ⟨Nat.le_succ _, fun j o hj hlt => ?_, fun j el gr g w t xs hj hlt => ?_⟩
  ·by_cases e : j = k
   ·subst e; rw [hs] at hj; cases hj; omega
   ·rwa [hn j e] at hj
  ·by_cases e : j = k
   ·subst e
    rw [hs] at hj
    have hj := Option.some.inj hj
    cases ob with
    | cells el0 w0 l0 =>
      rw [hj] at hf
      exact hf.elim
    | spc w0 x0 =>
      rw [hj] at hf
      exact hf.elim
    | list el0 gr0 g0 w0 t0 xs0 =>
      obtain ⟨xs', e2, e3⟩ := hf
      rw [e2] at hj
      injection hj with a1 a2 a3 a4 a5 a6
      subst a1 a2 a3 a5
      cases a6
      exact ⟨w0, xs0, hk, e3⟩
   ·rw [hn j e] at hj; exact ⟨w, xs, hj, rfl⟩
 refine ⟨hkp, ⟨fun j o hj => ?_, fun j el w l hj => ?_, fun j el gr g w t xs hj => ?_⟩⟩
 ·by_cases e : j = k
  ·subst e; rw [hs] at hj; cases hj; rw [hw]; exact Nat.lt_succ_self _
  ·rw [hn j e] at hj; exact Nat.lt_succ_of_lt (a.ver j o hj)
 ·by_cases e : j = k
  ·subst e
   rw [hs] at hj
   have hj := Option.some.inj hj
   cases ob with
   | cells el0 w0 l0 => rw [hj] at hf; exact qQ hkp hf.2
   | spc w0 x0 => rw [hj] at hf; exact hf.elim
   | list el0 gr0 g0 w0 t0 xs0 =>
     obtain ⟨xs', e2, e3⟩ := hf
     rw [e2] at hj; cases hj
  ·rw [hn j e] at hj; exact qQ hkp (a.cells j el w l hj)
 ·by_cases e : j = k
  ·subst e
   rw [hs] at hj
   have hj := Option.some.inj hj
   cases ob with
   | cells el0 w0 l0 => rw [hj] at hf; exact hf.elim
   | spc w0 x0 => rw [hj] at hf; exact hf.elim
   | list el0 gr0 g0 w0 t0 xs0 =>
     obtain ⟨xs', e2, e3⟩ := hf
     rw [e2] at hj
     injection hj with a1 a2 a3 a4 a5 a6
     subst a1 a2 a3 a5
     have := a.list j _ _ _ _ _ _ hk
     exact ⟨Nat.lt_succ_of_lt this.1, this.2⟩
  ·rw [hn j e] at hj
   have := a.list j el gr g w t xs hj
   exact ⟨Nat.lt_succ_of_lt this.1, this.2⟩
theorem oL {h : SH} (a : OkH P h) : Keep h (h.del k) ∧ OkH P (h.del k) := by
 have hl : ∀ j ob, slk j (h.del k).l = some ob -> slk j h.l = some ob := fun j ob hj => by
  by_cases e : j = k
  ·subst e; rw [show slk j (h.del j).l = none from qLZ j _] at hj; cases hj
  ·rwa [show slk j (h.del k).l = slk j h.l from kP e _] at hj
 have hkp : Keep h (h.del k) := ⟨Nat.le_refl _, fun j ob hj _ => hl j ob hj, fun j el gr g w t xs hj _ => ⟨w, xs, hl _ _ hj, rfl⟩⟩
 exact ⟨hkp, ⟨fun j ob hj => a.ver j ob (hl j ob hj), fun j el w l hj => qQ hkp (a.cells j el w l (hl _ _ hj)), fun j el gr g w t xs hj => a.list j el gr g w t xs (hl _ _ hj)⟩⟩
def GV (Γ : Option Type) : Type := match Γ with
 | none => Unit
 | some γ => γ
def GS (Γ : Option Type) (S : Type) : Type := match Γ with
 | none => S
 | some γ => γ × S
def gj : {Γ : Option Type} -> {S : Type} -> GV Γ -> S -> GS Γ S
 | none, _, _, s => s
 | some _, _, g, s => (g, s)
def g1 : {Γ : Option Type} -> {S : Type} -> GS Γ S -> GV Γ
 | none, _, _ => ()
 | some _, _, p => p.1
def g2 : {Γ : Option Type} -> {S : Type} -> GS Γ S -> S
 | none, _, s => s
 | some _, _, p => p.2
theorem q2Y {Γ : Option Type} {S : Type} {g : GV Γ} {s : S} : g1 (gj g s) = g := by cases Γ <;> rfl
theorem q0O {Γ : Option Type} {S : Type} {g : GV Γ} {s : S} : g2 (gj g s) = s := by cases Γ <;> rfl
structure Ent where
 as : List Ty
 rs : List Ty
 F : TyL as -> Option (TyL rs)
abbrev zS := List (FuncId × Ent)
def slT (g : FuncId) : zS -> Option Ent
 | [] => none
 | (k, e) :: l => cond (Nat.beq g k) (some e) (slT g l)
structure Sh where
 d : List Nat
 o : List Nat
 s : List (Nat × Nat)
 v : List (Nat × TypeId)
 ex : List Nat
 b : List (Nat × List (Option Nat)) := []
 bv : List (Nat × Nat × TypeId × Nat) := []
structure An where
 fz : List (Nat × List (Nat × TypeId))
 lp : List (Nat × Sh)
 rg : List (Nat × Sh) := []
def lkA {α : Type} (i : Nat) : List (Nat × α) -> Option α
 | [] => none
 | (j, x) :: l => cond (Nat.beq i j) (some x) (lkA i l)
structure IEnt where
 as : List Ty
 ys : List Ty
 yt : List TypeId
 F : TyL as -> (γ : Type) -> (γ -> TyL ys -> Option (γ × Bool)) -> γ -> Option γ
def slI (g : FuncId) : List (FuncId × IEnt) -> Option IEnt
 | [] => none
 | (k, e) :: l => cond (Nat.beq g k) (some e) (slI g l)
structure YI (Γ : Type) where
 ys : List Ty
 yt : List TypeId
 stp : Γ -> TyL ys -> Option (Γ × Bool)
def yi0 : YI Unit := ⟨[], [], fun _ _ => none⟩
abbrev CIT : Type 1 := (R : Type) -> Nm -> FuncId -> List SV -> SH -> (SV -> SH -> Tree R) -> Tree R
end Go.Sv
namespace Go.Sv
open Go.Idl
variable {a b env l : List SV} {el t : TypeId} {j off : Nat} {k : IntKind} {v x : SV}
noncomputable section
variable [Gc]
variable [Yl]
variable {P : Program} {h : SH} {R : Type} {r : R}
def q4M : Value -> SV
 | .agg cs => cond (jO okC cs.toList) (.agg (kJ .c cs.toList)) .unk
 | .tuple cs => cond (jO okC cs.toList) (.tup (kJ .c cs.toList)) .unk
 | v => cond (okC v) (.c v) .unk
def kG (env : List SV) : Operand -> SV
 | .tmp t => (zU env t).getD .unk
 | .const v => q4M v
 | .global _ => .unk
 | .func g => .c (.func (.func g) #[] #[])
theorem q6P : ∀ (l : List Value), qC (kJ .c l) = kJ fvv l
 | [] => by simp [kJ, qC]
 | v :: l => by
   show qC (.c v :: kJ .c l) = fvv v :: kJ fvv l
   simp [qC, q6P l, SV.enc]
omit [Yl] in
theorem q6T : ∀ (l : List Value), okL h (kJ .c l)
 | [] => by simp [kJ, okL]
 | v :: l => by
   show okL h (.c v :: kJ .c l)
   simp [okL, q6T l, SV.ok]
theorem qYZ (v : Value) : ofC v = (q4M v).enc := by
 cases v with
 | agg cs =>
   show cond _ _ _ = (cond (jO okC cs.toList) (SV.agg (kJ .c cs.toList)) SV.unk).enc
   cases jO okC cs.toList
   ·simp [SV.enc]
   ·simp [SV.enc, q6P]
 | tuple cs =>
   show cond _ _ _ = (cond (jO okC cs.toList) (SV.tup (kJ .c cs.toList)) SV.unk).enc
   cases jO okC cs.toList
   ·simp [SV.enc]
   ·simp [SV.enc, q6P]
 | _ =>
   simp only [ofC, q49, q4M]
   cases okC _ <;> simp [SV.enc]
omit [Yl] in
theorem q0W (v : Value) : (q4M v).ok h := by
 cases v with
 | agg cs =>
   show (cond (jO okC cs.toList) (.agg (kJ .c cs.toList)) .unk : SV).ok h
   cases jO okC cs.toList
   ·simp [SV.ok]
   ·simp [SV.ok, q6T]
 | tuple cs =>
   show (cond (jO okC cs.toList) (.tup (kJ .c cs.toList)) .unk : SV).ok h
   cases jO okC cs.toList
   ·simp [SV.ok]
   ·simp [SV.ok, q6T]
 | _ =>
   simp only [q4M]
   cases okC _ <;> simp [SV.ok]
theorem xJ (env : List SV) (t : Nat) : zU (qC env) t = (zU env t).map SV.enc := by
 rw [qJ, qJ, zB, List.getElem?_map]
omit [Yl] in
theorem qBN {t : Nat} (ho : okL h env) (hx : zU env t = some x) : x.ok h := by
 rw [qJ] at hx
 exact yT.1 ho x (List.mem_of_getElem? hx)
theorem qV (env : List SV) (x : Operand) : qP (qC env) x = (kG env x).enc := by
 cases x with
 | tmp t =>
   show (zU (qC env) t).getD .unk = ((zU env t).getD .unk).enc
   rw [xJ]
   cases zU env t <;> simp [SV.enc]
 | const v => exact qYZ v
 | global g => simp [qP, kG, SV.enc]
 | func g => simp [qP, kG, SV.enc]
omit [Yl] in
theorem qA4 (ho : okL h env) (x : Operand) : (kG env x).ok h := by
 cases x with
 | tmp t =>
   show ((zU env t).getD .unk).ok h
   cases hx : zU env t with
   | none => simp [SV.ok]
   | some y => exact qBN ho hx
 | const v => exact q0W v
 | global g => simp [kG, SV.ok]
 | func g => simp [kG, SV.ok]
def asI : SV -> Option (IntKind × Int)
 | .d (.int k) x => some (k, x)
 | .c (.int k x) => some (k, x)
 | _ => none
def asB : SV -> Option Bool
 | .d .bool x => some x
 | .c (.bool x) => some x
 | _ => none
def asS : SV -> Option ByteArray
 | .d .str x => some x
 | .c (.string x) => some x
 | _ => none
theorem kC {x : Int} (e : asI v = some (k, x)) : v.enc = fvv (.int k x) := by
 unfold asI at e
 split at e
 ·cases e; simp [SV.enc, Ty.fv, fvv]
 ·cases e; simp [SV.enc]
 ·cases e
theorem qAA {x : Bool} (e : asB v = some x) : v.enc = fvv (.bool x) := by
 unfold asB at e
 split at e
 ·cases e; simp [SV.enc, Ty.fv, fvv]
 ·cases e; simp [SV.enc]
 ·cases e
theorem gX {x : ByteArray} (e : asS v = some x) : v.enc = fvv (.string x) := by
 unfold asS at e
 split at e
 ·cases e; simp [SV.enc, Ty.fv, fvv]
 ·cases e; simp [SV.enc]
 ·cases e
def Ty.svs : (t : Ty) -> t.sem -> List SV
 | .int k, x => [.d (.int k) x]
 | .bool, x => [.d .bool x]
 | .str, x => [.d .str x]
 | .unit, _ => []
 | .list el t, x => [.d (.list el t) x]
 | .pair a b, x => a.svs x.1 ++ b.svs x.2
 | .raw, x => [.d .raw x]
theorem mI (a b : List SV) : qC (a ++ b) = qC a ++ qC b := by simp [zB]
theorem tK : ∀ (t : Ty) (x : t.sem), qC (t.svs x) = (t.cells x).map .f
 | .int k, x => by simp [Ty.svs, Ty.cells, qC, SV.enc, Ty.fv]
 | .bool, x => by simp [Ty.svs, Ty.cells, qC, SV.enc, Ty.fv]
 | .str, x => by simp [Ty.svs, Ty.cells, qC, SV.enc, Ty.fv]
 | .unit, x => by simp [Ty.svs, Ty.cells, qC]
 | .list el t, x => by simp [Ty.svs, Ty.cells, qC, SV.enc, Ty.fv]
 | .raw, x => by simp [Ty.svs, Ty.cells, qC, SV.enc, Ty.fv]
 | .pair a b, x => by
   show qC (a.svs x.1 ++ b.svs x.2) = (a.cells x.1 ++ b.cells x.2).map .f
   rw [mI, tK a, tK b, List.map_append]
omit [Yl] in
theorem fM (x : okL h a) (y : okL h b) : okL h (a ++ b) := yT.2 fun z hz => by
 rcases List.mem_append.1 hz with q | q
 ·exact yT.1 x z q
 ·exact yT.1 y z q
omit [Yl] in
theorem qNW : ∀ (t : Ty) (x : t.sem), okL h (t.svs x)
 | .int k, x => by simp [Ty.svs, okL, SV.ok]
 | .bool, x => by simp [Ty.svs, okL, SV.ok]
 | .str, x => by simp [Ty.svs, okL, SV.ok]
 | .unit, x => by simp [Ty.svs, okL]
 | .list el t, x => by simp [Ty.svs, okL, SV.ok]
 | .raw, x => by simp [Ty.svs, okL, SV.ok]
 | .pair a b, x => fM (qNW a x.1) (qNW b x.2)
def q7F (k : IntKind) (v : SV) : Option Int := match asI v with
 | some (k', x) => cond (decide (k' = k)) (some x) none
 | none => none
def q7S (el : TypeId) (t : Ty) : SV -> Option (List t.sem)
 | .d (.list el' t') xs => if e : t' = t then cond (Nat.beq el' el) (some (e ▸ xs)) none else none
 | _ => none
def asR : SV -> Option (List (Value × Value))
 | .d .raw x => some x
 | _ => none
def Ty.decS : (t : Ty) -> SV -> Option t.sem
 | .int k, v => q7F k v
 | .bool, v => asB v
 | .str, v => asS v
 | .list el t, v => q7S el t v
 | .unit, _ => none
 | .pair _ _, _ => none
 | .raw, v => asR v
theorem qZQ {x : Int} (e : q7F k v = some x) : v.enc = fvv (.int k x) := by
 unfold q7F at e
 split at e
 ·rename_i k' x' hx
  cases hk : decide (k' = k) with
  | false => rw [hk] at e; cases e
  | true =>
    rw [hk] at e
    cases e
    have : k' = k := by simpa using hk
    subst this
    exact kC hx
 ·cases e
omit [Yl] in
theorem qXG {t : Ty} {x : List t.sem} (e : q7S el t v = some x) : v = .d (.list el t) x := by
 unfold q7S at e
 split at e
 ·rename_i el' t' xs
  split at e
  ·rename_i ht
   subst ht
   cases hk : Nat.beq el' el with
   | false => rw [hk] at e; cases e
   | true =>
     rw [hk] at e
     cases e
     have : el' = el := Nat.eq_of_beq_eq_true hk
     subst this
     rfl
  ·cases e
 ·cases e
theorem qFJ : ∀ {t : Ty} {v : SV} {x : t.sem}, t.decS v = some x -> v.enc = .f (t.fv x) ∧ t.one = true
 | .int k, v, x, e => ⟨qZQ e, rfl⟩
 | .bool, v, x, e => ⟨qAA e, rfl⟩
 | .str, v, x, e => ⟨gX e, rfl⟩
 | .list el t, v, x, e => ⟨by rw [qXG e]; simp [SV.enc], rfl⟩
 | .raw, v, x, e => by
   have e : asR v = some x := e
   refine ⟨?_, rfl⟩
   unfold asR at e
   split at e
   ·cases e; simp [SV.enc]
   ·cases e
 | .unit, v, x, e => by cases e
 | .pair a b, v, x, e => by cases e
def q3I (t : Ty) : List SV -> Option (t.sem × List SV)
 | v :: l => match t.decS v with
   | some x => some (x, l)
   | none => none
 | [] => none
def Ty.decL : (t : Ty) -> List SV -> Option (t.sem × List SV)
 | .int k, l => q3I (.int k) l
 | .bool, l => q3I .bool l
 | .str, l => q3I .str l
 | .raw, l => q3I .raw l
 | .list el t, l => q3I (.list el t) l
 | .unit, l => some ((), l)
 | .pair a b, l => match a.decL l with
   | some (x, l1) => (match b.decL l1 with
     | some (y, l2) => some ((x, y), l2)
     | none => none)
   | none => none
theorem eZ {t : Ty} {l' : List SV} {x : t.sem} (e : q3I t l = some (x, l')) : qC l = (t.cells x).map .f ++ qC l' := by
 cases l with
 | nil => cases e
 | cons v l =>
   unfold q3I at e
   simp only at e
   split at e
   ·rename_i y hy
    cases e
    obtain ⟨h1, h2⟩ := qFJ hy
    rw [Ty.cells_one h2]
    simp [qC, h1]
   ·cases e
theorem sG : ∀ {t : Ty} {l l' : List SV} {x : t.sem}, t.decL l = some (x, l') -> qC l = (t.cells x).map .f ++ qC l'
 | .int k, l, l', x, e => eZ e
 | .bool, l, l', x, e => eZ e
 | .str, l, l', x, e => eZ e
 | .raw, l, l', x, e => eZ e
 | .list el t, l, l', x, e => eZ e
 | .unit, l, l', x, e => by cases e; simp [Ty.cells]
 | .pair a b, l, l', x, e => by
   unfold Ty.decL at e
   split at e
   ·rename_i x1 l1 h1
    split at e
    ·rename_i y l2 h2
     cases e
     show qC l = (a.cells x1 ++ b.cells y).map .f ++ qC l'
     rw [sG h1, sG h2, List.map_append, List.append_assoc]
    ·cases e
   ·cases e
def Ty.decA (t : Ty) (l : List SV) : Option t.sem := match t.decL l with
 | some (x, []) => some x
 | _ => none
theorem qF6 {t : Ty} {x : t.sem} (e : t.decA l = some x) : qC l = (t.cells x).map .f := by
 unfold Ty.decA at e
 split at e
 ·rename_i y hy
  cases e
  rw [sG hy]; simp [qC]
 ·cases e
def qI6 (P : Program) (t : TypeId) (l : List SV) (off : Nat) : Option SV := match qQJ P t with
 | some true => (match szT P t with
   | some n => cond (Nat.ble (off + n) l.length) (some (.agg ((l.drop off).take n))) none
   | none => none)
 | some false => zU l off
 | none => none
omit [Yl] in
theorem qKL {b : List SV} (x : okL h a) (hs : ∀ z ∈ b, z ∈ a) : okL h b := yT.2 fun z hz => yT.1 x z (hs z hz)
theorem sF (e : qI6 P t l off = some v) : oH P t (qC l) off = some v.enc ∧ (okL h l -> v.ok h) := by
 unfold qI6 at e
 unfold oH
 split at e
 ·rename_i ha
  rw [ha]
  simp only
  split at e
  ·rename_i n hn
   rw [hn]
   simp only
   cases hc : Nat.ble (off + n) l.length with
   | false => rw [hc] at e; cases e
   | true =>
     rw [hc] at e
     cases e
     refine ⟨by rw [zB, List.length_map, hc]; simp [SV.enc, zB, List.map_drop, List.map_take], fun ho => ?_⟩
     simp only [SV.ok]
     exact qKL ho fun z hz => List.mem_of_mem_drop (List.mem_of_mem_take hz)
  ·cases e
 ·rename_i ha
  rw [ha]
  simp only
  rw [xJ, e]
  exact ⟨rfl, fun ho => qBN ho e⟩
 ·cases e
theorem qIW {t' : Ty} {xs : List t'.sem} {x : t'.sem} (hx : xs[j]? = some x) (e : qI6 P t (t'.svs x) off = some v) :
 oH P t ((xs.flatMap t'.cells).map .f) (j * t'.w + off) = some v.enc ∧ qL9 P t (xs.flatMap t'.cells) (j * t'.w + off) = some v.enc ∧ v.ok h := by
 have h0 := sF (h := h) e
 refine ⟨?_, ?_, h0.2 (qNW t' x)⟩
 all_goals
  have h1 := h0.1
  rw [tK] at h1
  unfold oH at h1
 ·unfold oH
  split at h1
  ·rename_i ha
   split at h1
   ·rename_i n hn
    cases hc : Nat.ble (off + n) ((t'.cells x).map PV.f).length with
    | false => rw [hc] at h1; cases h1
    | true =>
      rw [hc] at h1
      have hle : off + n <= t'.w := by
       have := Nat.le_of_ble_eq_true hc
       rw [List.length_map, t'.cells_len] at this
       exact this
      rw [show Nat.ble (j * t'.w + off + n) ((xs.flatMap t'.cells).map PV.f).length = true from Nat.ble_eq_true_of_le (by rw [List.length_map]; exact qKM hx hle)]
      simp only [cond_true] at h1 ⊢
      rw [<- h1, <- List.map_drop, <- List.map_take, qII hx hle, <- List.map_drop, <- List.map_take]
   ·cases h1
  ·rename_i ha
   rw [qJ, List.getElem?_map] at h1 ⊢
   have hlt : off < t'.w := by
    rw [<- t'.cells_len x]
    cases hq : (t'.cells x)[off]? with
    | none => rw [hq] at h1; cases h1
    | some y => exact (List.getElem?_eq_some_iff.1 hq).1
   rw [Go.Sv.flat_get hx hlt]; exact h1
  ·cases h1
 ·unfold qL9
  split at h1
  ·rename_i ha
   split at h1
   ·rename_i n hn
    cases hc : Nat.ble (off + n) ((t'.cells x).map PV.f).length with
    | false => rw [hc] at h1; cases h1
    | true =>
      rw [hc] at h1
      have hle : off + n <= t'.w := by
       have := Nat.le_of_ble_eq_true hc
       rw [List.length_map, t'.cells_len] at this
       exact this
      rw [show Nat.ble (j * t'.w + off + n) (xs.flatMap t'.cells).length = true from Nat.ble_eq_true_of_le (qKM hx hle)]
      simp only [cond_true] at h1 ⊢
      rw [<- h1, qII hx hle, <- List.map_drop, <- List.map_take]
   ·cases h1
  ·rename_i ha
   rw [qJ, List.getElem?_map] at h1
   cases hq : (t'.cells x)[off]? with
   | none => rw [hq] at h1; cases h1
   | some y =>
     rw [hq] at h1
     have hlt : off < t'.w := by
      rw [<- t'.cells_len x]
      exact (List.getElem?_eq_some_iff.1 hq).1
     rw [Go.Sv.flat_get hx hlt, hq]
     exact h1
  ·cases h1
def q2B (P : Program) (t : TypeId) (a : SV) (h : SH) (K : SV -> Tree R) : Tree R := match a with
 | .ref k off w => (match slk k h.l with
   | some (.cells el _ l) => (match qI6 P t l off with
     | some v => cond (!(spec P el) && Nat.beq w l.length) (K v) .fail
     | none => .fail)
   | _ => .fail)
 | .elt k g n w j off => (match slk k h.l with
   | some (.list _ _ g' _ t' xs) => cond (Nat.beq g g' && Nat.beq w t'.w) (.bind (xs[j]?) fun x => match qI6 P t (t'.svs x) off with
     | some v => K v
     | none => .fail) .fail
   | _ => .fail)
 | .lp t' xs j off => .bind (xs[j]?) fun x => match qI6 P t (t'.svs x) off with
   | some v => K v
   | none => .fail
 | _ => .fail
theorem zP (l : List SV) : (qC l).length = l.length := by rw [zB, List.length_map]
theorem jM {k : Nat} {ob : SO} {l : List (Nat × SO)} (e : slk k l = some ob) : qD k (qH l) = some ob.enc := by rw [mU, e]; rfl
theorem zF {gr : Bool} {g w : Nat} {t : Ty} {xs : List t.sem} : (SO.list el gr g w t xs).enc.cs.length = xs.length * t.w := by
 show ((xs.flatMap t.cells).map PV.f).length = _
 rw [List.length_map, xO]
theorem qXT {a : SV} {K : SV -> Tree R} (ho : OkH P h) (ha : a.ok h) (e : (q2B P t a h K).run = some r) : ∃ v, dS P t a.enc (qH h.l) = some v.enc ∧ v.ok h ∧ (K v).run = some r := by
 unfold q2B at e
 split at e
 ·rename_i k off w
  split at e
  ·rename_i el w' l hk
   split at e
   ·rename_i v hv
    obtain ⟨h1, h2⟩ := qO e
    rw [Bool.and_eq_true, Bool.not_eq_true'] at h1
    obtain ⟨hsp, h1⟩ := h1
    obtain ⟨h3, h4⟩ := sF (h := h) hv
    refine ⟨v, ?_, h4 (ho.cells _ _ _ _ hk), h2⟩
    simp only [SV.enc, dS, jM hk]
    show cond (spec P el) none (cond (Nat.beq w (qC l).length) (oH P t (qC l) off) none) = _
    rw [zP, h1, hsp]
    exact h3
   ·cases e
  ·cases e
 ·rename_i k g n w j off
  split at e
  ·rename_i el gr g' w' t' xs hk
   obtain ⟨h1, h2⟩ := qO e
   rw [Bool.and_eq_true] at h1
   have hg : g = g' := Nat.eq_of_beq_eq_true h1.1
   have hw : w = t'.w := Nat.eq_of_beq_eq_true h1.2
   subst hg hw
   obtain ⟨x, hx, h3⟩ := run_bind h2
   split at h3
   ·rename_i v hv
    have h5 := qIW (h := h) hx hv
    refine ⟨v, ?_, h5.2.2, h3⟩
    simp only [SV.ok] at ha
    have hn : n = xs.length := ha.2 _ _ _ _ _ hk
    simp only [SV.enc, dS, jM hk]
    rw [zF, hn, show spec P (SO.list el gr g w' t' xs).enc.el = false from vM (ho.list _ _ _ _ _ _ _ hk).2.1]
    simp only [qCB, cond_true, cond_false]
    exact h5.1
   ·cases h3
  ·cases e
 ·rename_i t' xs j off
  obtain ⟨x, hx, h3⟩ := run_bind e
  split at h3
  ·rename_i v hv
   have h5 := qIW (h := h) hx hv
   exact ⟨v, by simp only [SV.enc, dS]; exact h5.2.1, h5.2.2, h3⟩
  ·cases h3
 ·cases e
def Post (P : Program) (h h' : SH) (v : SV) : Prop := Keep h h' ∧ OkH P h' ∧ v.ok h'
def yJ : SV -> List SV
 | .agg l => l
 | v => [v]
theorem aR (v : SV) : zO v.enc = qC (yJ v) := by
 cases v <;> simp [SV.enc, zO, yJ, qC, fvv]
omit [Yl] in
theorem qAG (hv : v.ok h) : okL h (yJ v) := by
 cases v <;> simp only [yJ, okL, SV.ok, and_true] at hv ⊢ <;> exact hv
def qAU (l : List SV) (i : Nat) (vs : List SV) : List SV := l.take i ++ vs ++ l.drop (i + vs.length)
theorem qAP (l vs : List SV) (i : Nat) : qC (qAU l i vs) = vO (qC l) i (qC vs) := by
 simp [qAU, vO, zB, List.map_take, List.map_drop]
omit [Yl] in
theorem qOT {vs : List SV} {i : Nat} (a : okL h l) (b : okL h vs) : okL h (qAU l i vs) :=
 fM (fM (qKL a fun z hz => List.mem_of_mem_take hz) b) (qKL a fun z hz => List.mem_of_mem_drop hz)
omit [Yl] in
theorem qXN {α : Type} (A B C : List α) (c : List α) (hle : off + c.length <= B.length) :
 (A ++ B ++ C).take (A.length + off) ++ c ++ (A ++ B ++ C).drop (A.length + off + c.length) = A ++ (B.take off ++ c ++ B.drop (off + c.length)) ++ C := by
 rw [List.append_assoc A B C, List.take_append, List.take_of_length_le (by omega), Nat.add_sub_cancel_left, List.take_append_of_le_length (by omega)]
 rw [Nat.add_assoc, List.drop_append, List.drop_of_length_le (by omega), Nat.add_sub_cancel_left, List.nil_append, List.drop_append_of_le_length (by omega)]
 simp [List.append_assoc]
omit [Yl] in
theorem qDU {t : Ty} {xs : List t.sem} {x : t.sem} (hx : xs[j]? = some x) (y : t.sem) : (xs.set j y).flatMap t.cells = (xs.take j).flatMap t.cells ++ t.cells y ++ (xs.drop (j + 1)).flatMap t.cells := by
 have hl := (List.getElem?_eq_some_iff.1 hx).1
 rw [List.set_eq_take_append_cons_drop, if_pos hl, List.flatMap_append, List.flatMap_cons, List.append_assoc]
omit [Yl] in
theorem qQB {t : Ty} {xs : List t.sem} {x y : t.sem} (hx : xs[j]? = some x) {c : List PV} (hle : off + c.length <= t.w) (hy : vO ((t.cells x).map .f) off c = (t.cells y).map .f) :
 vO ((xs.flatMap t.cells).map .f) (j * t.w + off) c = ((xs.set j y).flatMap t.cells).map .f := by
 have hl := (List.getElem?_eq_some_iff.1 hx).1
 have e0 : xs.set j x = xs := by
  apply List.ext_getElem?
  intro i
  rw [List.getElem?_set]
  by_cases e : j = i
  ·subst e; rw [if_pos rfl, if_pos hl, hx]
  ·rw [if_neg e]
 have e1 := qDU hx x
 rw [e0] at e1
 rw [qDU hx y, e1]
 simp only [List.map_append]
 unfold vO
 have hA : (((xs.take j).flatMap t.cells).map PV.f).length = j * t.w := by rw [List.length_map, xO, List.length_take, Nat.min_eq_left (by omega)]
 rw [<- hA, qXN _ _ _ _ (by rw [List.length_map, t.cells_len]; exact hle)]
 unfold vO at hy
 rw [hy]
def qTQ (P : Program) (t : TypeId) (a x : SV) (h : SH) (K : SV -> SH -> Tree R) : Tree R := match szT P t with
 | some n => (match a with
   | .ref k off w => (match slk k h.l with
     | some (.cells el _ l) => cond (!(spec P el) && (Nat.beq w l.length && (Nat.beq n (yJ x).length && (Nat.ble (off + n) l.length && (pnt x.enc && (qC (yJ x)).all oG)))))
        (K (.tup []) (h.put k fun v => .cells el v (qAU l off (yJ x)))) .fail
     | _ => .fail)
   | .elt k g m w j off => (match slk k h.l with
     | some (.list el gr g' _ t' xs) => cond (Nat.beq g g' && (Nat.beq w t'.w && (Nat.beq n (yJ x).length && (Nat.ble (off + n) w && (pnt x.enc && (qC (yJ x)).all oG)))))
        (.bind (xs[j]?) fun y => match t'.decA (qAU (t'.svs y) off (yJ x)) with
          | some z => K (.tup []) (h.put k fun v => .list el gr g v t' (List.set xs j z))
          | none => .fail) .fail
     | _ => .fail)
   | _ => .fail)
 | none => .fail
theorem qV7 {a : SV} {K : SV -> SH -> Tree R} (ho : OkH P h) (ha : a.ok h) (hx : x.ok h) (e : (qTQ P t a x h K).run = some r) :
 ∃ h', mP P t a.enc x.enc (qH h.l) = some (qH h'.l) ∧ Keep h h' ∧ OkH P h' ∧ (K (.tup []) h').run = some r := by
 unfold qTQ at e
 split at e
 ·rename_i n hn
  split at e
  ·rename_i k off w
   split at e
   ·rename_i el w' l hk
    obtain ⟨h1, h2⟩ := qO e
    rw [Bool.and_eq_true, Bool.not_eq_true'] at h1
    obtain ⟨hsp, h1⟩ := h1
    have hp := qFA (f := fun v => .cells el v (qAU l off (yJ x))) ho hk ⟨rfl, qOT (ho.cells _ _ _ _ hk) (qAG hx)⟩
    refine ⟨_, ?_, hp.1, hp.2, h2⟩
    simp only [SV.enc, mP, jM hk, hn]
    show cond (spec P el) none (cond (Nat.beq w (qC l).length && (Nat.beq n (zO x.enc).length && (Nat.ble (off + n) (qC l).length && (pnt x.enc && (zO x.enc).all oG)))) _ _) = _
    rw [aR, zP, zP, h1, hsp]
    simp only [cond_true]
    rw [show qH (h.put k fun v => .cells el v (qAU l off (yJ x))).l = nU k (SO.enc (.cells el h.next (qAU l off (yJ x)))) (qH h.l) from nM k _ _]
    show some (nU k ⟨el, false, vO (qC l) off (qC (yJ x))⟩ (qH h.l)) = some (nU k ⟨el, false, qC (qAU l off (yJ x))⟩ (qH h.l))
    rw [qAP]
   ·cases e
  ·rename_i k g m w j off
   split at e
   ·rename_i el gr g' w' t' xs hk
    obtain ⟨h1, h2⟩ := qO e
    simp only [Bool.and_eq_true] at h1
    obtain ⟨q1, q2, q3, q4, q5, q6⟩ := h1
    have hg : g = g' := Nat.eq_of_beq_eq_true q1
    have hw : w = t'.w := Nat.eq_of_beq_eq_true q2
    subst hg hw
    obtain ⟨y, hy, h3⟩ := run_bind h2
    split at h3
    ·rename_i z hz
     have hp := qFA (f := fun v => .list el gr g v t' (List.set xs j z)) ho hk ⟨_, rfl, by simp⟩
     refine ⟨_, ?_, hp.1, hp.2, h3⟩
     simp only [SV.ok] at ha
     have hm : m = xs.length := ha.2 _ _ _ _ _ hk
     have hle : off + n <= t'.w := Nat.le_of_ble_eq_true q4
     simp only [SV.enc, mP, jM hk, hn]
     rw [zF, hm, aR, zP, show spec P (SO.list el gr g w' t' xs).enc.el = false from vM (ho.list _ _ _ _ _ _ _ hk).2.1]
     have hjl : j * t'.w + off + n <= xs.length * t'.w := by
      have := qKM hy hle
      rwa [xO] at this
     rw [q3, q5, q6, show Nat.ble (j * t'.w + off + n) (xs.length * t'.w) = true from Nat.ble_eq_true_of_le hjl]
     simp only [qCB, Bool.and_self, cond_true, cond_false]
     rw [show qH (h.put k fun v => .list el gr g v t' (List.set xs j z)).l = nU k (SO.enc (.list el gr g h.next t' (List.set xs j z))) (qH h.l) from nM k _ _]
     show some (nU k ⟨el, gr, vO ((xs.flatMap t'.cells).map .f) (j * t'.w + off) (qC (yJ x))⟩ (qH h.l)) = some (nU k ⟨el, gr, ((List.set xs j z).flatMap t'.cells).map .f⟩ (qH h.l))
     have hnl : n = (qC (yJ x)).length := by rw [zP]; exact Nat.eq_of_beq_eq_true q3
     rw [qQB hy (y := z) (by rw [<- hnl]; exact hle) (by rw [<- tK, <- qAP]; exact qF6 hz)]
    ·cases h3
   ·cases e
  ·cases e
 ·cases e
end
end Go.Sv
namespace Go.Sv
open Go.Idl
variable {el t : TypeId} {i k n off w : Nat} {ix v x : SV}
noncomputable section
variable [Gc]
variable [Yl]
variable {P : Program} {h : SH} {R : Type} {r : R}
def tyL : List (Option Ty) -> Option Ty
 | [] => some .unit
 | [t] => t.map fun t => .pair t .unit
 | [a, b] => match a, b with
   | some a, some b => some (.pair a b)
   | _, _ => none
 | a :: l => match a, tyL l with
   | some a, some b => some (.pair a b)
   | _, _ => none
def qRD (P : Program) : Nat -> TypeId -> Option Ty
 | 0, _ => none
 | n + 1, t => match P.underlying t with
   | some (.int k) => some (.int k)
   | some .bool => some .bool
   | some .string => some .str
   | some (.slice el) => (match qRD P n el with
     | some u => some (.list el u)
     | none => none)
   | some (.struct fields) => tyL (fields.toList.map fun f => qRD P n f.type)
   | some (.array k el) => tyL (List.replicate k (qRD P n el))
   | _ => none
def zcS (P : Program) (t : TypeId) : Option (List SV) := match qAT P t with
 | some z => cond (jO okC z.cells.toList) (some (kJ .c z.cells.toList)) none
 | none => none
theorem qEF {l : List SV} (e : zcS P t = some l) : zc P t = some (qC l) ∧ okL h l := by
 unfold zcS at e
 unfold zc
 split at e
 ·rename_i z hz
  cases hc : jO okC z.cells.toList with
  | false => rw [hc] at e; cases e
  | true =>
    rw [hc] at e
    cases e
    rw [hz]
    simp only [hc, cond_true]
    exact ⟨by rw [q6P], q6T _⟩
 ·cases e
def qTX (P : Program) (el : TypeId) (k : Nat) (h : SH) (K : SV -> SH -> Tree R) : Tree R := match zcS P el with
 | some l => cond (spec P el) .fail (K (.ref k 0 l.length) (h.new k fun v => .cells el v l))
 | none => .fail
theorem qV9 {K : SV -> SH -> Tree R} (ho : OkH P h) (e : (qTX P el k h K).run = some r) : ∃ v h', qC2 P el k (qH h.l) = some (v.enc, qH h'.l) ∧ Post P h h' v ∧ (K v h').run = some r := by
 unfold qTX at e
 split at e
 ·rename_i l hl
  obtain ⟨h1, h2⟩ := qEF (h := h) hl
  have hp := jK (k := k) (f := fun v => .cells el v l) ho ⟨rfl, h2⟩
  cases hsp : spec P el with
  | true => rw [hsp] at e; cases e
  | false =>
  rw [hsp] at e
  refine ⟨_, _, ?_, ⟨hp.1, hp.2, by simp [SV.ok]⟩, e⟩
  simp only [qC2, h1, qPX, SV.enc, zP, hsp, cond_false]
  rfl
 ·cases e
def q8Y (P : Program) (el : TypeId) (v : SV) (k : Nat) (h : SH) (K : SV -> SH -> Tree R) : Tree R :=
 cond (!(spec P el) && (pnt v.enc && (qC (yJ v)).all oG)) (K (.ref k 0 (yJ v).length) (h.new k fun n => .cells el n (yJ v))) .fail
theorem q27 {K : SV -> SH -> Tree R} (ho : OkH P h) (hv : v.ok h) (e : (q8Y P el v k h K).run = some r) : ∃ x h', q38 P el v.enc k (qH h.l) = some (x.enc, qH h'.l) ∧ Post P h h' x ∧ (K x h').run = some r := by
 obtain ⟨h1, h2⟩ := qO e
 have hp := jK (k := k) (f := fun n => .cells el n (yJ v)) ho ⟨rfl, qAG hv⟩
 refine ⟨_, _, ?_, ⟨hp.1, hp.2, by simp [SV.ok]⟩, h2⟩
 unfold q38
 rw [aR, h1]
 simp only [cond_true, qPX, SV.enc, zP]
 rfl
def qR9 (place : Nat -> Option (Nat × Nat)) : List SV -> List (Nat × SV) -> Option (List SV)
 | cells, [] => some cells
 | cells, (i, v) :: rest => match place i with
   | some (off, size) => cond (Nat.beq (yJ v).length size && (Nat.ble (off + size) cells.length && (pnt v.enc && (qC (yJ v)).all oG))) (qR9 place (qAU cells off (yJ v)) rest) none
   | none => none
def q35 (l : List (Nat × SV)) : List (Nat × PV) := l.map fun p => (p.1, p.2.enc)
theorem qGH {place : Nat -> Option (Nat × Nat)} : ∀ {l cs : List SV} {parts : List (Nat × SV)}, qR9 place l parts = some cs -> qGL place (qC l) (q35 parts) = some (qC cs) ∧ (okL h l -> (∀ p ∈ parts, p.2.ok h) -> okL h cs)
 | l, cs, [], e => by cases e; exact ⟨rfl, fun a _ => a⟩
 | l, cs, (i, v) :: rest, e => by
   unfold qR9 at e
   split at e
   ·rename_i off size hpl
    cases hc : (Nat.beq (yJ v).length size && (Nat.ble (off + size) l.length && (pnt v.enc && (qC (yJ v)).all oG))) with
    | false => rw [hc] at e; cases e
    | true =>
      rw [hc] at e
      obtain ⟨h1, h2⟩ := qGH (l := qAU l off (yJ v)) e
      refine ⟨?_, fun a b => h2 (qOT a (qAG (b _ List.mem_cons_self))) fun p hp => b p (List.mem_cons_of_mem _ hp)⟩
      show (match place i with
       | some (off, size) => cond (Nat.beq (zO v.enc).length size && (Nat.ble (off + size) (qC l).length && (pnt v.enc && (zO v.enc).all oG))) (qGL place (vO (qC l) off (zO v.enc)) (q35 rest)) none
       | none => none) = some (qC cs)
      rw [hpl]
      simp only
      rw [aR, zP, zP, hc, <- qAP]
      exact h1
   ·cases e
def qTE (P : Program) (t : TypeId) (parts : List (Nat × SV)) : Option SV := match zcS P t with
 | some z => cond (sS P t) (match qR9 (qT3 P t) z parts with
   | some cs => some (.agg cs)
   | none => none) none
 | none => none
theorem qS9 {parts : List (Nat × SV)} (hp : ∀ p ∈ parts, p.2.ok h) (e : qTE P t parts = some v) : qIS P t (q35 parts) = some v.enc ∧ v.ok h := by
 unfold qTE at e
 split at e
 ·rename_i z hz
  obtain ⟨h1, h2⟩ := qEF (h := h) hz
  cases hb : sS P t with
  | false => rw [hb] at e; cases e
  | true =>
    rw [hb] at e
    simp only [cond_true] at e
    split at e
    ·rename_i cs hcs
     cases e
     obtain ⟨h3, h4⟩ := qGH (h := h) hcs
     simp only [qIS, h1, hb, cond_true, h3, SV.enc, SV.ok, true_and]
     exact h4 h2 hp
    ·cases e
 ·cases e
def Ty.decs (t : Ty) : Nat -> List SV -> Option (List t.sem)
 | 0, [] => some []
 | 0, _ :: _ => none
 | n + 1, l => match t.decL l with
   | some (x, l') => (match t.decs n l' with
     | some xs => some (x :: xs)
     | none => none)
   | none => none
theorem qOP {t : Ty} : ∀ {n : Nat} {l : List SV} {xs : List t.sem}, t.decs n l = some xs -> qC l = (xs.flatMap t.cells).map .f ∧ xs.length = n
 | 0, [], xs, e => by cases e; simp [qC]
 | 0, _ :: _, xs, e => by cases e
 | n + 1, l, xs, e => by
   unfold Ty.decs at e
   split at e
   ·rename_i x l' hx
    split at e
    ·rename_i ys hy
     cases e
     obtain ⟨h1, h2⟩ := qOP hy
     rw [sG hx, h1, List.flatMap_cons, List.map_append]
     exact ⟨rfl, by rw [List.length_cons, h2]⟩
    ·cases e
   ·cases e
def q8S (n : Nat) (z : List SV) : List SV := (List.replicate n z).flatten
theorem qZR (n : Nat) (z : List SV) : qC (q8S n z) = qJL n (qC z) := by simp [q8S, qJL, zB, List.map_flatten]
def cO (P : Program) (t : TypeId) (len : Nat) (parts : List (Nat × SV)) (k : Nat) (h : SH) (K : SV -> SH -> Tree R) : Tree R := match xC P t with
 | some el => (match szT P el, zcS P el, qRD P 8 el with
   | some (s + 1), some z, some ty => cond (Nat.beq ty.w (s + 1)) (cond (Nat.beq z.length (s + 1) && Nat.ble (len * (s + 1)) 65536) (match qR9 (fun i => some (i * (s + 1), s + 1)) (q8S len z) parts with
     | some cs => (match ty.decs len cs with
       | some xs => K (.own k h.next len) (h.new k fun v => .list el false v v ty xs)
       | none => .fail)
     | none => .fail) .fail) .fail
   | _, _, _ => .fail)
 | none => .fail
omit [Yl] in
theorem fA {gr : Bool} {ty : Ty} {xs : List ty.sem} (hn : n = xs.length) : (SV.own k h.next n).ok (h.new k fun v => .list el gr v v ty xs) := by
 simp only [SV.ok]
 refine ⟨Nat.lt_succ_self _, fun el' gr' w' t' xs' hk => ?_⟩
 rw [show slk k (h.new k fun v => .list el gr v v ty xs).l = some (.list el gr h.next h.next ty xs) from wD] at hk
 cases hk
 exact hn
theorem qCF {len : Nat} {parts : List (Nat × SV)} {K : SV -> SH -> Tree R} (ho : OkH P h) (hp : ∀ p ∈ parts, p.2.ok h) (e : (cO P t len parts k h K).run = some r) :
 ∃ v h', kM P t len (q35 parts) k (qH h.l) = some (v.enc, qH h'.l) ∧ Post P h h' v ∧ (K v h').run = some r := by
 unfold cO at e
 split at e
 ·rename_i el hel
  split at e
  ·rename_i s z ty hs hz hty
   obtain ⟨e1, e⟩ := qO e
   obtain ⟨e2, e⟩ := qO e
   split at e
   ·rename_i cs hcs
    split at e
    ·rename_i xs hxs
     obtain ⟨z1, z2⟩ := qEF (h := h) hz
     obtain ⟨f1, f2⟩ := qGH (h := h) hcs
     obtain ⟨d1, d2⟩ := qOP hxs
     have hw : ty.w = s + 1 := Nat.eq_of_beq_eq_true e1
     have hn := jK (k := k) (f := fun v => .list el false v v ty xs) ho ⟨rfl, rfl, by rw [hs, hw], by omega⟩
     refine ⟨_, _, ?_, ⟨hn.1, hn.2, fA d2.symm⟩, e⟩
     rw [qZR] at f1
     simp only [kM, hel, hs, z1, zP, e2, cond_true, f1, qPX, SV.enc, d1]
     rfl
    ·cases e
   ·cases e
  ·cases e
 ·cases e
def q15 (P : Program) (t : TypeId) (l : SV) (k : Nat) (h : SH) (K : SV -> SH -> Tree R) : Tree R := match xC P t, asI l with
 | some el, some (_, n) => (match szT P el, zcS P el, qRD P 8 el with
   | some (s + 1), some z, some ty => cond (vS P el && (Nat.beq z.length (s + 1) && Nat.beq ty.w (s + 1))) (match ty.decA z with
     | some z0 => .bind (mkN n) fun N => K (.own k h.next N) (h.new k fun v => .list el false v v ty (List.replicate N z0))
     | none => .fail) .fail
   | _, _, _ => .fail)
 | _, _ => .fail
omit [Yl] in
theorem qOD {t : Ty} {z : t.sem} : ∀ (n : Nat), ((List.replicate n z).flatMap t.cells).map PV.f = qJL n ((t.cells z).map .f)
 | 0 => rfl
 | n + 1 => by
   rw [List.replicate_succ, List.flatMap_cons, List.map_append, qOD n]
   simp [qJL, List.replicate_succ]
theorem qX4 {l : SV} {K : SV -> SH -> Tree R} (ho : OkH P h) (e : (q15 P t l k h K).run = some r) :
 ∃ v h', jV P t l.enc l.enc k (qH h.l) = some (v.enc, qH h'.l) ∧ Post P h h' v ∧ (K v h').run = some r := by
 unfold q15 at e
 split at e
 ·rename_i el ki n hel hl
  split at e
  ·rename_i s z ty hs hz hty
   obtain ⟨e1, e⟩ := qO e
   simp only [Bool.and_eq_true] at e1
   obtain ⟨q1, q2, q3⟩ := e1
   split at e
   ·rename_i z0 hz0
    obtain ⟨N, hN, e⟩ := run_bind e
    obtain ⟨z1, z2⟩ := qEF (h := h) hz
    have hw : ty.w = s + 1 := Nat.eq_of_beq_eq_true q3
    have hn := jK (k := k) (f := fun v => .list el false v v ty (List.replicate N z0)) ho ⟨rfl, rfl, by rw [hs, hw], by omega⟩
    refine ⟨_, _, ?_, ⟨hn.1, hn.2, fA (xs := List.replicate N z0) (by simp)⟩, e⟩
    rw [kC hl]
    simp only [jV, fvv, hel, decide_true, cond_true, hN, hs, z1, zP, q1, q2, Bool.and_self, qPX, SV.enc]
    show some (PV.own k N 0 N, (k, (⟨el, false, qJL N (qC z)⟩ : PO)) :: qH h.l) = some (PV.own k N 0 N, (k, ⟨el, false, ((List.replicate N z0).flatMap ty.cells).map PV.f⟩) :: qH h.l)
    rw [qOD, qF6 hz0]
   ·cases e
  ·cases e
 ·cases e
def qXP (h : SH) : SV -> Bool
 | .ref k _ w => match slk k h.l with
   | some (.cells _ _ l) => Nat.beq w l.length
   | _ => false
 | .elt k g _ w _ _ => match slk k h.l with
   | some (.list _ _ g' _ t _) => Nat.beq g g' && Nat.beq w t.w
   | _ => false
 | .lp _ _ _ _ => true
 | _ => false
theorem qFZ (e : qXP h (.ref k off w) = true) : live? k w (qH h.l) = true := by
 simp only [qXP] at e
 split at e
 ·rename_i el w' l hk
  unfold live?
  rw [jM hk]
  show Nat.beq w (qC l).length = true
  rw [zP]; exact e
 ·cases e
theorem qFK {g j : Nat} (ho : (SV.elt k g n w j off).ok h) (e : qXP h (.elt k g n w j off) = true) : live? k (n * w) (qH h.l) = true := by
 simp only [qXP] at e
 split at e
 ·rename_i el gr g' w' t xs hk
  rw [Bool.and_eq_true] at e
  have hg : g = g' := Nat.eq_of_beq_eq_true e.1
  have hw : w = t.w := Nat.eq_of_beq_eq_true e.2
  subst hg hw
  simp only [SV.ok] at ho
  unfold live?
  rw [jM hk]
  show Nat.beq (n * t.w) (SO.list el gr g w' t xs).enc.cs.length = true
  rw [zF, ho.2 _ _ _ _ _ hk]; exact qCB _
 ·cases e
def qWU (n : Nat) : SV -> SV
 | .ref k off w => .ref k (off + n) w
 | .elt k g m w j off => .elt k g m w j (off + n)
 | .lp t xs j off => .lp t xs j (off + n)
 | v => v
def q9B : SV -> Bool
 | .ref _ _ _ => true
 | .elt _ _ _ _ _ _ => true
 | .lp _ _ _ _ => true
 | _ => false
omit [Yl] in
theorem qSS (hv : v.ok h) : (qWU n v).ok h := by
 cases v <;> simp only [qWU, SV.ok] at hv ⊢ <;> exact hv
def oZ (P : Program) (t : TypeId) (x : SV) (i : Nat) (h : SH) : Option SV := match q3Y P t i with
 | some (off, ft) => (match szT P ft with
   | some (_ + 1) => cond (qXP h x) (some (qWU off x)) none
   | _ => none)
 | none => none
theorem qFF (hx : x.ok h) (e : oZ P t x i h = some v) : zT P t x.enc i (qH h.l) = some v.enc ∧ v.ok h := by
 unfold oZ at e
 unfold zT
 split at e
 ·rename_i off ft hf
  split at e
  ·rename_i s hs
   cases hl : qXP h x with
   | false => rw [hl] at e; cases e
   | true =>
     rw [hl] at e
     cases e
     refine ⟨?_, qSS hx⟩
     simp only [hf, hs]
     cases x with
     | ref k o w => simp only [SV.enc, qWU, qFZ hl, cond_true]
     | elt k g n w j o => simp only [SV.enc, qWU, qFK hx hl, cond_true, Nat.add_assoc]
     | lp t xs j o => simp only [SV.enc, qWU, Nat.add_assoc]
     | _ => cases hl
  ·cases e
 ·cases e
def qSK (P : Program) (t : TypeId) (x : SV) (i : Nat) : Option SV := match q3Y P t i, x with
 | some (off, ft), .agg l => qI6 P ft l off
 | _, _ => none
theorem qSD (hx : x.ok h) (e : qSK P t x i = some v) : qCR P t x.enc i = some v.enc ∧ v.ok h := by
 unfold qSK at e
 split at e
 ·rename_i off ft l hf
  obtain ⟨h1, h2⟩ := sF (h := h) e
  simp only [SV.ok] at hx
  refine ⟨?_, h2 hx⟩
  simp only [qCR, hf, SV.enc]
  exact h1
 ·cases e
def q6R (n : Nat) (ix : SV) (K : Nat -> Tree R) : Tree R := match ix with
 | .c (.int _ i) => (match idx n i with
   | some j => K j
   | none => .fail)
 | v => (match asI v with
   | some (_, i) => .bind (idx n i) K
   | none => .fail)
theorem qU9 {K : Nat -> Tree R} (e : (q6R n ix K).run = some r) : ∃ k i j, ix.enc = fvv (.int k i) ∧ idx n i = some j ∧ (K j).run = some r := by
 unfold q6R at e
 split at e
 ·rename_i k i
  split at e
  ·rename_i j hj
   exact ⟨k, i, j, by simp [SV.enc], hj, e⟩
  ·cases e
 ·split at e
  ·rename_i k i hi
   obtain ⟨j, hj, e⟩ := run_bind e
   exact ⟨k, i, j, kC hi, hj, e⟩
  ·cases e
def nV (P : Program) (t : TypeId) (x ix : SV) (h : SH) (K : SV -> Tree R) : Tree R := match x with
 | .d (.list el u) xs => (match asI ix, xC P t with
   | some (_, i), some el' => (match szT P el' with
     | some s => cond (Nat.beq s u.w) (.bind (idx (List.length xs) i) fun j => K (.lp u xs j 0)) .fail
     | none => .fail)
   | _, _ => .fail)
 | .own k g n => (match asI ix, xC P t, slk k h.l with
   | some (_, i), some el', some (.list el _ g' _ u _) => cond (Nat.beq el' el && Nat.beq g g') (.bind (idx n i) fun j => K (.elt k g n u.w j 0)) .fail
   | _, _, _ => .fail)
 | .sl k g n o m => (match asI ix, xC P t, slk k h.l with
   | some (_, i), some el', some (.list el _ g' _ u _) => cond (Nat.beq el' el && Nat.beq g g') (.bind (idx m i) fun j => K (.elt k g n u.w (o + j) 0)) .fail
   | _, _, _ => .fail)
 | x => (match qUK P t with
   | some (n, el) => (match szT P el with
     | some s => cond (q9B x && qXP h x) (q6R n ix fun j => K (qWU (j * s) x)) .fail
     | none => .fail)
   | none => .fail)
theorem qFH {K : SV -> Tree R} (ho : OkH P h) (hx : x.ok h) (e : (nV P t x ix h K).run = some r) : ∃ v, qY P t x.enc ix.enc (qH h.l) = some v.enc ∧ v.ok h ∧ (K v).run = some r := by
 unfold nV at e
 split at e
 ·rename_i el u xs
  split at e
  ·rename_i k i el' hi hel
   split at e
   ·rename_i s hs
    obtain ⟨h1, e1⟩ := qO e
    obtain ⟨j, hj, e2⟩ := run_bind e1
    have hw : s = u.w := Nat.eq_of_beq_eq_true h1
    subst hw
    refine ⟨_, ?_, by simp [SV.ok], e2⟩
    rw [kC hi]
    simp only [SV.enc, Ty.fv, fvv, qY, hel, hs, hj, Nat.add_zero]
   ·cases e
  ·cases e
 ·rename_i k g n
  split at e
  ·rename_i ki i el' el gr g' w u xs hi hel hk
   obtain ⟨h1, e1⟩ := qO e
   obtain ⟨j, hj, e2⟩ := run_bind e1
   rw [Bool.and_eq_true] at h1
   have hg : g = g' := Nat.eq_of_beq_eq_true h1.2
   subst hg
   simp only [SV.ok] at hx
   have hn := hx.2 _ _ _ _ _ hk
   have hl := ho.list _ _ _ _ _ _ _ hk
   refine ⟨_, ?_, by simp only [SV.ok]; exact hx, e2⟩
   rw [kC hi]
   simp only [SV.enc, fvv, qY, hel, jM hk]
   show (match szT P el with
    | some s => (match idx n i with
      | some j => cond (Nat.beq el' el && Nat.beq (n * s) (SO.list el gr g w u xs).enc.cs.length) (some (PV.ref k (SO.list el gr g w u xs).enc.cs.length ((0 + j) * s))) none
      | none => none)
    | none => none) = _
   rw [hl.2.1, hj]
   simp only [zF, hn, qCB, h1.1, Bool.and_self, cond_true, Nat.zero_add, Nat.add_zero]
  ·cases e
 ·rename_i k g n o m
  split at e
  ·rename_i ki i el' el gr g' w u xs hi hel hk
   obtain ⟨h1, e1⟩ := qO e
   obtain ⟨j, hj, e2⟩ := run_bind e1
   rw [Bool.and_eq_true] at h1
   have hg : g = g' := Nat.eq_of_beq_eq_true h1.2
   subst hg
   simp only [SV.ok] at hx
   have hn := hx.1.2 _ _ _ _ _ hk
   have hl := ho.list _ _ _ _ _ _ _ hk
   refine ⟨_, ?_, by simp only [SV.ok]; exact hx.1, e2⟩
   rw [kC hi]
   simp only [SV.enc, fvv, qY, hel, jM hk]
   show (match szT P el with
    | some s => (match idx m i with
      | some j => cond (Nat.beq el' el && Nat.beq (n * s) (SO.list el gr g w u xs).enc.cs.length) (some (PV.ref k (SO.list el gr g w u xs).enc.cs.length ((o + j) * s))) none
      | none => none)
    | none => none) = _
   rw [hl.2.1]
   simp only [hj, zF, hn, qCB, h1.1, Bool.and_self, cond_true, Nat.add_zero]
  ·cases e
 ·split at e
  ·rename_i n el ha
   split at e
   ·rename_i s hs
    obtain ⟨h1, e⟩ := qO e
    rw [Bool.and_eq_true] at h1
    obtain ⟨ki, i, j, hi, hj, e⟩ := qU9 e
    refine ⟨_, ?_, qSS hx, e⟩
    rw [hi]
    cases x with
    | ref k o w => simp only [SV.enc, qWU, fvv, qY, ha, hs, hj, qFZ h1.2, cond_true]
    | elt k g n w j o => simp only [SV.enc, qWU, fvv, qY, ha, hs, hj, qFK hx h1.2, cond_true, Nat.add_assoc]
    | lp t xs j o => simp only [SV.enc, qWU, fvv, qY, ha, hs, hj, Nat.add_assoc]
    | _ => cases h1.1
   ·cases e
  ·cases e
def qS3 (P : Program) (t : TypeId) (x ix : SV) (K : SV -> Tree R) : Tree R := match qUK P t, x with
 | some (n, el), .agg l => (match szT P el with
   | some s => q6R n ix fun j => match qI6 P el l (j * s) with
     | some v => K v
     | none => .fail
   | none => .fail)
 | _, _ => .fail
theorem qU7 {K : SV -> Tree R} (hx : x.ok h) (e : (qS3 P t x ix K).run = some r) : ∃ v, qDL P t x.enc ix.enc = some v.enc ∧ v.ok h ∧ (K v).run = some r ∧ ∃ l, x = .agg l := by
 unfold qS3 at e
 split at e
 ·rename_i n el l ha
  split at e
  ·rename_i s hs
   obtain ⟨ki, i, j, hi, hj, e⟩ := qU9 e
   split at e
   ·rename_i v hv
    obtain ⟨h1, h2⟩ := sF (h := h) hv
    simp only [SV.ok] at hx
    refine ⟨v, ?_, h2 hx, e, l, rfl⟩
    rw [hi]
    simp only [qDL, ha, SV.enc, fvv, hs, hj]
    exact h1
   ·cases e
  ·cases e
 ·cases e
def qE3 (v : SV) (i : Nat) : Option SV := match v with
 | .tup l => (match zU l i with
   | some x => cond (pnt x.enc) (some x) none
   | none => none)
 | _ => none
theorem qLC (hx : x.ok h) (e : qE3 x i = some v) : aT x.enc i = some v.enc ∧ v.ok h := by
 unfold qE3 at e
 split at e
 ·rename_i l
  split at e
  ·rename_i y hy
   cases hp : pnt y.enc with
   | false => rw [hp] at e; cases e
   | true =>
     rw [hp] at e
     cases e
     simp only [SV.ok] at hx
     refine ⟨?_, qBN hx hy⟩
     simp only [aT, SV.enc, xJ, hy, Option.map_some, hp, cond_true]
  ·cases e
 ·cases e
def qA9 (fn : Fn) (first cap : List SV) : Option SV := match fn with
 | .func g => some (match first, cap with
   | [], [] => .c (.func (.func g) #[] #[])
   | _, _ => .fn g first cap)
 | _ => none
theorem qH9 {fn : Fn} {first cap : List SV} (h1 : okL h first) (h2 : okL h cap) (e : qA9 fn first cap = some v) : jF fn (qC first) (qC cap) = some v.enc ∧ v.ok h := by
 unfold qA9 at e
 split at e
 ·rename_i g
  cases e
  cases first with
  | nil => cases cap with
    | nil => exact ⟨by simp [jF, qC, SV.enc], by simp [SV.ok]⟩
    | cons x l => exact ⟨by simp [jF, qC, SV.enc], by simp only [SV.ok]; exact ⟨h1, h2⟩⟩
  | cons y l => exact ⟨by simp [jF, qC, SV.enc], by simp only [SV.ok]; exact ⟨h1, h2⟩⟩
 ·cases e
def qBQ (v : SV) (h : SH) : Option SV := match v with
 | .fn _ _ _ => some v
 | .c (.func (.func _) _ _) => some v
 | v => cond (qXP h v) (some v) none
theorem qJD {x v : SV} (hx : x.ok h) (e : qBQ x h = some v) : yG x.enc (qH h.l) = some v.enc ∧ v.ok h := by
 unfold qBQ at e
 split at e
 ·cases e; exact ⟨by simp [yG, SV.enc], hx⟩
 ·cases e; exact ⟨by simp [yG, SV.enc, fvv], hx⟩
 ·cases hl : qXP h x with
  | false => rw [hl] at e; cases e
  | true =>
    rw [hl] at e
    cases e
    refine ⟨?_, hx⟩
    cases x with
    | ref k o w => simp only [SV.enc, yG, qFZ hl, cond_true]
    | elt k g n w j o => simp only [SV.enc, yG, qFK hx hl, cond_true]
    | lp t xs j o => simp only [SV.enc, yG]
    | _ => cases hl
end
end Go.Sv
namespace Go.Sv
open Go.Idl
variable {el : TypeId} {k : Nat} {t : Ty} {x : SV}
noncomputable section
variable [Gc]
variable [Yl]
variable {P : Program} {h : SH} {R : Type} {r : R}
def q65 (P : Program) (ts : Array TypeId) (x : SV) (h : SH) : Option SV := match ts[0]? with
 | some t => (match xC P t with
   | some _ => (match x with
     | .d (.list _ _) xs => some (.d (.int .i64) ((List.length xs : Nat) : Int))
     | .c (.slice _ n _) => some (.c (.int .i64 (n : Int)))
     | .own k g n => (match slk k h.l with
       | some (.list _ _ g' _ _ _) => cond (Nat.beq g g') (some (.d (.int .i64) (n : Int))) none
       | _ => none)
     | .sl k g _ _ m => (match slk k h.l with
       | some (.list _ _ g' _ _ _) => cond (Nat.beq g g') (some (.d (.int .i64) (m : Int))) none
       | _ => none)
     | _ => none)
   | none => (match qUK P t with
     | some (n, _) => some (.c (.int .i64 (n : Int)))
     | none => none))
 | none => none
theorem q26 {ts : Array TypeId} {v : SV} (ho : OkH P h) (hx : x.ok h) (e : q65 P ts x h = some v) : qX0 P ts x.enc (qH h.l) = some v.enc ∧ v.ok h := by
 unfold q65 at e
 unfold qX0
 split at e
 ·rename_i t ht
  split at e
  ·rename_i el hel
   split at e
   ·rename_i el' u xs
    cases e
    simp [ht, hel, SV.enc, Ty.fv, fvv, SV.ok]
   ·rename_i a n c
    cases e
    simp [ht, hel, SV.enc, fvv, SV.ok]
   ·rename_i k g n
    split at e
    ·rename_i el' gr g' w u xs hk
     obtain ⟨h1, e1⟩ : Nat.beq g g' = true ∧ some (SV.d (.int .i64) (n : Int)) = some v := by
      cases hb : Nat.beq g g' with
      | false => rw [hb] at e; cases e
      | true => rw [hb] at e; exact ⟨rfl, e⟩
     cases e1
     have hg : g = g' := Nat.eq_of_beq_eq_true h1
     subst hg
     simp only [SV.ok] at hx
     have hn := hx.2 _ _ _ _ _ hk
     have hl := ho.list _ _ _ _ _ _ _ hk
     refine ⟨?_, by simp [SV.ok]⟩
     simp only [ht, hel, SV.enc, jM hk]
     show (match szT P el' with
      | some s => cond (Nat.beq (n * s) (SO.list el' gr g w u xs).enc.cs.length) (some (fvv (.int .i64 (n : Int)))) none
      | none => none) = _
     rw [hl.2.1]
     simp only [zF, hn, qCB, cond_true, Ty.fv, fvv]
    ·cases e
   ·rename_i k g n o m
    split at e
    ·rename_i el' gr g' w u xs hk
     obtain ⟨h1, e1⟩ : Nat.beq g g' = true ∧ some (SV.d (.int .i64) (m : Int)) = some v := by
      cases hb : Nat.beq g g' with
      | false => rw [hb] at e; cases e
      | true => rw [hb] at e; exact ⟨rfl, e⟩
     cases e1
     have hg : g = g' := Nat.eq_of_beq_eq_true h1
     subst hg
     simp only [SV.ok] at hx
     have hn := hx.1.2 _ _ _ _ _ hk
     have hl := ho.list _ _ _ _ _ _ _ hk
     refine ⟨?_, by simp [SV.ok]⟩
     simp only [ht, hel, SV.enc, jM hk]
     show (match szT P el' with
      | some s => cond (Nat.beq (n * s) (SO.list el' gr g w u xs).enc.cs.length) (some (fvv (.int .i64 (m : Int)))) none
      | none => none) = _
     rw [hl.2.1]
     simp only [zF, hn, qCB, cond_true, Ty.fv, fvv]
    ·cases e
   ·cases e
  ·rename_i hel
   split at e
   ·rename_i n el ha
    cases e
    simp [ht, hel, ha, SV.enc, SV.ok]
   ·cases e
 ·cases e
def qJZ (u t : Ty) (xs : List u.sem) : Option (List t.sem) := if e : u = t then some (e ▸ xs) else none
omit [Yl] in
theorem mX {u : Ty} {xs : List u.sem} {ys : List t.sem} (e : qJZ u t xs = some ys) : (⟨u, xs⟩ : (t : Ty) × List t.sem) = ⟨t, ys⟩ := by
 unfold qJZ at e
 split at e
 ·rename_i h
  subst h
  cases e
  rfl
 ·cases e
def q03 (t : Ty) (x : SV) (h : SH) : Option (List t.sem) := match x with
 | .d (.list _ u) xs => qJZ u t xs
 | .c (.slice none 0 _) => some []
 | .own k g _ => (match slk k h.l with
   | some (.list _ _ g' _ u xs) => cond (Nat.beq g g') (qJZ u t xs) none
   | _ => none)
 | .sl k g _ o m => (match slk k h.l with
   | some (.list _ _ g' _ u xs) => cond (Nat.beq g g') (match qJZ u t xs with
     | some xs => some ((xs.drop o).take m)
     | none => none) none
   | _ => none)
 | _ => none
theorem qX5 {ys : List t.sem} (ho : OkH P h) (hx : x.ok h) (e : q03 t x h = some ys) : qMA P t.w x.enc (qH h.l) = some (ys.length, (ys.flatMap t.cells).map .f) := by
 unfold q03 at e
 unfold qMA
 split at e
 ·rename_i el u xs
  cases mX e
  simp only [SV.enc, Ty.fv, xO, qCB, cond_true]
 ·cases e
  simp [SV.enc, fvv]
 ·rename_i k g n
  split at e
  ·rename_i el gr g' w u xs hk
   cases hb : Nat.beq g g' with
   | false => rw [hb] at e; cases e
   | true =>
     rw [hb] at e
     have hg : g = g' := Nat.eq_of_beq_eq_true hb
     subst hg
     cases mX e
     simp only [SV.ok] at hx
     have hn := hx.2 _ _ _ _ _ hk
     have hl := ho.list _ _ _ _ _ _ _ hk
     simp only [SV.enc, jM hk]
     show (match szT P el with
      | some s' => cond (Nat.beq (n * s') (SO.list el gr g w t ys).enc.cs.length && Nat.beq t.w s') (some (n, (((ys.flatMap t.cells).map PV.f).drop (0 * t.w)).take (n * t.w))) none
      | none => none) = _
     rw [hl.2.1]
     simp only [zF, hn, qCB, Bool.and_self, cond_true, Nat.zero_mul, List.drop_zero]
     rw [List.take_of_length_le (by rw [List.length_map, xO]; exact Nat.le_refl _)]
  ·cases e
 ·rename_i k g n o m
  split at e
  ·rename_i el gr g' w u xs hk
   cases hb : Nat.beq g g' with
   | false => rw [hb] at e; cases e
   | true =>
     rw [hb] at e
     have hg : g = g' := Nat.eq_of_beq_eq_true hb
     subst hg
     simp only [cond_true] at e
     split at e
     case h_2 => cases e
     rename_i xs2 hxs2
     cases e
     cases mX hxs2
     simp only [SV.ok] at hx
     have hn := hx.1.2 _ _ _ _ _ hk
     have hl := ho.list _ _ _ _ _ _ _ hk
     simp only [SV.enc, jM hk]
     show (match szT P el with
      | some s' => cond (Nat.beq (n * s') (SO.list el gr g w t xs2).enc.cs.length && Nat.beq t.w s') (some (m, (((xs2.flatMap t.cells).map PV.f).drop (o * t.w)).take (m * t.w))) none
      | none => none) = _
     rw [hl.2.1]
     simp only [zF, hn, qCB, Bool.and_self, cond_true]
     rw [<- List.map_drop, <- List.map_take, fJ, eG]
     congr 1
     have := hx.2
     rw [List.length_take, List.length_drop, Nat.min_eq_left (by omega)]
  ·cases e
 ·cases e
omit [Yl] in
theorem qS5 (ys : List t.sem) : ((ys.flatMap t.cells).map PV.f).all oG = true := by
 rw [List.all_eq_true]
 intro x hx
 obtain ⟨y, _, rfl⟩ := List.mem_map.1 hx
 rfl
omit [Yl] in
theorem qF8 {h0 : SH} {gr : Bool} {n m : Nat} {ty : Ty} {xs ys : List ty.sem} (hn : n = xs.length) (hm : m = ys.length) : (SV.own k h0.next (n + m)).ok (h0.new k fun v => .list el gr v v ty (xs ++ ys)) :=
 fA (by rw [List.length_append, hn, hm])
def qMD (P : Program) (ts : List TypeId) (base x : SV) (k : Nat) (h : SH) (K : SV -> SH -> Tree R) : Tree R := match ts with
 | [st, xt] => (match xC P st, xC P xt with
   | some el, some _ => (match szT P el, qRD P 8 el with
     | some (s + 1), some t => cond (Nat.beq t.w (s + 1) && vS P el) (match q03 t x h with
       | some ys => (match base with
         | .c (.slice none 0 0) => .ite (Nat.beq ys.length 0) (K base h)
            (.ite (Nat.ble (0 + ys.length) 1048576) (K (.own k h.next (0 + ys.length)) (h.new k fun v => .list el true v v t ([] ++ ys))) .fail)
         | .own j g n => (match slk j h.l with
           | some (.list el' gr g' _ u xs) => cond (Nat.beq el' el && Nat.beq g g') (match qJZ u t xs with
             | some xs => .ite (Nat.beq ys.length 0) (K base h)
                (.ite (Nat.ble (n + ys.length) 1048576) (cond gr (K (.own j h.next (n + ys.length)) ((h.del j).new j fun v => .list el true v v t (xs ++ ys))) (K (.own k h.next (n + ys.length)) (h.new k fun v => .list el true v v t (xs ++ ys)))) .fail)
             | none => .fail) .fail
           | _ => .fail)
         | _ => .fail)
       | none => .fail) .fail
     | _, _ => .fail)
   | _, _ => .fail)
 | _ => .fail
omit [Yl] in
theorem qEE {xs ys : List t.sem} {ph : PHp} (h1 : Nat.ble (xs.length + ys.length) 1048576 = true) (h2 : vS P el = true) :
 tQ P el t.w ((xs.flatMap t.cells).map .f) xs.length ((ys.flatMap t.cells).map .f) ys.length k ph = some (.own k (xs.length + ys.length) 0 (xs.length + ys.length), (k, ⟨el, true, ((xs ++ ys).flatMap t.cells).map .f⟩) :: ph) := by
 unfold tQ
 rw [h1, h2, List.length_map, xO, List.length_map, xO, qS5]
 simp only [qCB, Bool.and_self, cond_true, qPX]
 rw [List.flatMap_append, List.map_append]
theorem qQ3 {ts : List TypeId} {base : SV} {K : SV -> SH -> Tree R} (ho : OkH P h) (hb : base.ok h) (hx : x.ok h) (e : (qMD P ts base x k h K).run = some r) :
 ∃ v h', uX P ts base.enc x.enc k (qH h.l) = some (v.enc, qH h'.l) ∧ Post P h h' v ∧ (K v h').run = some r := by
 unfold qMD at e
 split at e
 ·rename_i st xt
  split at e
  ·rename_i el el2 hel hel2
   split at e
   ·rename_i s t hs hty
    have e_ := qO e
    clear e
    obtain ⟨c1, e⟩ := e_
    rw [Bool.and_eq_true] at c1
    have hw : s + 1 = t.w := (Nat.eq_of_beq_eq_true c1.1).symm
    split at e
    ·rename_i ys hys
     have hnw := qX5 ho hx hys
     split at e
     ·have e_ := run_ite e
      clear e
      rcases e_ with ⟨z, e⟩ | ⟨z, e⟩
      ·refine ⟨_, _, ?_, ⟨.refl _, ho, hb⟩, e⟩
       simp only [uX, hel, hel2, hs, SV.enc, fvv]
       rw [hw, hnw]
       simp only [z, cond_true]
      ·have e_ := run_ite e
       clear e
       rcases e_ with ⟨z2, e⟩ | ⟨z2, e⟩
       ·have hn := jK (k := k) (f := fun v => .list el true v v t ([] ++ ys)) ho ⟨rfl, rfl, by rw [hs]; exact congrArg some hw, by omega⟩
        refine ⟨_, _, ?_, ⟨hn.1, hn.2, qF8 (xs := []) rfl rfl⟩, e⟩
        simp only [uX, hel, hel2, hs, SV.enc, fvv]
        rw [hw, hnw]
        simp only [z, cond_false]
        exact qEE (xs := []) z2 c1.2
       ·cases e
     ·rename_i j g n
      split at e
      ·rename_i el' gr g' w u xs0 hk
       have e_ := qO e
       clear e
       obtain ⟨c2, e⟩ := e_
       rw [Bool.and_eq_true] at c2
       have he : el' = el := Nat.eq_of_beq_eq_true c2.1
       have hg : g = g' := Nat.eq_of_beq_eq_true c2.2
       split at e
       ·rename_i xs hxs
        have hcast := mX hxs
        have hk2 : slk j h.l = some (.list el gr g w t xs) := by
         rw [hk, he, <- hg]
         cases hcast
         rfl
        have hnl : n = xs.length := by
         simp only [SV.ok] at hb
         exact hb.2 _ _ _ _ _ hk2
        have pre : ∀ z : PV × PHp, (cond (Nat.beq ys.length 0) (some (PV.own j n 0 n, qH h.l))
         (cond (Nat.ble (n + ys.length) n) (cond (Nat.beq ((ys.flatMap t.cells).map PV.f).length (ys.length * (s + 1)) && ((ys.flatMap t.cells).map PV.f).all oG) (some (PV.own j n 0 (n + ys.length), nU j { (SO.list el gr g w t xs).enc with cs := vO (SO.list el gr g w t xs).enc.cs (n * (s + 1)) ((ys.flatMap t.cells).map PV.f) } (qH h.l))) none)
           (cond gr (tQ P el (s + 1) (SO.list el gr g w t xs).enc.cs n ((ys.flatMap t.cells).map PV.f) ys.length j (qF1 j (qH h.l))) (tQ P el (s + 1) (SO.list el gr g w t xs).enc.cs n ((ys.flatMap t.cells).map PV.f) ys.length k (qH h.l))))) = some z ->
         uX P [st, xt] (SV.own j g n).enc x.enc k (qH h.l) = some z := fun z hz => by
         simp only [uX, hel, hel2, hs, SV.enc]
         rw [show qMA P (s + 1) x.enc (qH h.l) = _ from (hw ▸ hnw)]
         simp only [jM hk2]
         rw [show (SO.list el gr g w t xs).enc.el = el from rfl, show Nat.beq (n * (s + 1)) (SO.list el gr g w t xs).enc.cs.length = true by rw [zF, hw, hnl]; exact qCB _]
         simp only [qCB, Bool.and_self, cond_true]
         exact hz
        have e_ := run_ite e
        clear e
        rcases e_ with ⟨z, e⟩ | ⟨z, e⟩
        ·refine ⟨_, _, pre _ ?_, ⟨.refl _, ho, hb⟩, e⟩
         rw [z]; simp [SV.enc]
        ·have e_ := run_ite e
         clear e
         rcases e_ with ⟨z2, e⟩ | ⟨z2, e⟩
         ·have hpos : Nat.ble (n + ys.length) n = false := by
           cases hq : Nat.ble (n + ys.length) n with
           | false => rfl
           | true =>
             have h0 := Nat.le_of_ble_eq_true hq
             have : ys.length = 0 := by omega
             rw [this] at z
             cases z
          cases hgr : gr with
          | true =>
            rw [hgr] at e
            have hd := oL (k := j) ho
            have hn := jK (h := h.del j) (k := j) (f := fun v => .list el true v v t (xs ++ ys)) hd.2 ⟨rfl, rfl, by rw [hs]; exact congrArg some hw, by omega⟩
            refine ⟨_, _, pre _ ?_, ⟨hd.1.trans hn.1, hn.2, qF8 (h0 := h.del j) hnl rfl⟩, e⟩
            rw [z, hpos, hgr]
            simp only [cond_true, cond_false]
            rw [hw, hnl]
            rw [hnl] at z2
            rw [show (SO.list el true g w t xs).enc.cs = (xs.flatMap t.cells).map .f from rfl, qEE z2 c1.2, <- dQ]
            rfl
          | false =>
            rw [hgr] at e
            have hn := jK (h := h) (k := k) (f := fun v => .list el true v v t (xs ++ ys)) ho ⟨rfl, rfl, by rw [hs]; exact congrArg some hw, by omega⟩
            refine ⟨_, _, pre _ ?_, ⟨hn.1, hn.2, qF8 (h0 := h) hnl rfl⟩, e⟩
            rw [z, hpos, hgr]
            simp only [cond_true, cond_false]
            rw [hw, hnl]
            rw [hnl] at z2
            rw [show (SO.list el false g w t xs).enc.cs = (xs.flatMap t.cells).map .f from rfl, qEE z2 c1.2]
            rfl
         ·cases e
       ·cases e
      ·cases e
     ·cases e
    ·cases e
   ·cases e
  ·cases e
 ·cases e
end
end Go.Sv
namespace Go.Sv
open Go.Idl
noncomputable section
variable [Gc]
variable [Yl]
variable {P : Program} {h : SH} {R : Type} {r : R}
def kK (most : Nat) (i : Int) : Option Nat := if 0 <= i ∧ i <= (most : Int) then some i.toNat else none
def qRB (d most : Nat) (x : Option SV) (K : Nat -> Tree R) : Tree R := match x with
 | none => K d
 | some v => (match asI v with
   | some (_, i) => .bind (kK most i) K
   | none => .fail)
theorem wP {d most : Nat} {x : Option SV} {K : Nat -> Tree R} (e : (qRB d most x K).run = some r) : ∃ n, bnd d most (x.map SV.enc) = some n ∧ (n = d ∨ n <= most) ∧ (K n).run = some r := by
 unfold qRB at e
 split at e
 ·exact ⟨d, rfl, .inl rfl, e⟩
 ·rename_i v
  split at e
  ·rename_i k i hi
   have e_ := run_bind e
   clear e
   obtain ⟨n, hn, e⟩ := e_
   refine ⟨n, ?_, .inr ?_, e⟩
   ·simp only [Option.map_some, kC hi, fvv, bnd]; exact hn
   ·unfold kK at hn
    split at hn
    ·cases hn; omega
    ·cases hn
  ·cases e
def qVX (P : Program) (t : TypeId) (x : SV) (lo hi : Option SV) (h : SH) (K : SV -> Tree R) : Tree R := match x with
 | .d (.list el u) xs => (match xC P t, szT P el with
   | some el', some s => cond (Nat.beq el' el && Nat.beq s u.w) (qRB (List.length xs) (List.length xs) hi fun b => qRB 0 b lo fun a => K (.d (.list el u) ((List.drop a xs).take (b - a)))) .fail
   | _, _ => .fail)
 | .c (.slice none 0 0) => (match xC P t with
   | some el => cond (szT P el).isSome (qRB 0 0 hi fun _ => qRB 0 0 lo fun _ => K x) .fail
   | none => .fail)
 | .own k g n => (match xC P t, slk k h.l with
   | some el', some (.list el _ g' _ u _) => cond (Nat.beq el' el && Nat.beq g g') (qRB n n hi fun b => qRB 0 b lo fun a =>
      .ite (Nat.beq a 0) (K (.sl k g n 0 b)) (.ite (Nat.beq a b) (K (.d (.list el u) [])) (K (.sl k g n a (b - a))))) .fail
   | _, _ => .fail)
 | .sl k g n o m => (match xC P t, slk k h.l with
   | some el', some (.list el _ g' _ u _) => cond (Nat.beq el' el && Nat.beq g g') (qRB m m hi fun b => qRB 0 b lo fun a =>
      .ite (Nat.beq a 0) (K (.sl k g n o b)) (.ite (Nat.beq a b) (K (.d (.list el u) [])) (K (.sl k g n (o + a) (b - a))))) .fail
   | _, _ => .fail)
 | _ => .fail
theorem qU4 {t : TypeId} {x : SV} {lo hi : Option SV} {K : SV -> Tree R} (ho : OkH P h) (hx : x.ok h) (e : (qVX P t x lo hi h K).run = some r) :
 ∃ v, wI P t x.enc (lo.map SV.enc) (hi.map SV.enc) (qH h.l) = some v.enc ∧ v.ok h ∧ (K v).run = some r := by
 unfold qVX at e
 have key : ∀ {k g n o m w : Nat} {gr : Bool} {el el' : TypeId} {u : Ty} {xs : List u.sem}, slk k h.l = some (.list el gr g w u xs) -> n = xs.length -> o + m <= n -> g < h.next -> xC P t = some el' -> Nat.beq el' el = true ->
  ∀ a b, bnd m m (hi.map SV.enc) = some b -> b <= m -> bnd 0 b (lo.map SV.enc) = some a -> a <= b ->
  (Tree.ite (Nat.beq a 0) (K (.sl k g n o b)) (.ite (Nat.beq a b) (K (.d (.list el u) [])) (K (.sl k g n (o + a) (b - a))))).run = some r ->
  ∃ v, wI P t (.own k n o m) (lo.map SV.enc) (hi.map SV.enc) (qH h.l) = some v.enc ∧ v.ok h ∧ (K v).run = some r := by
  intro k g n o m w gr el el' u xs hk hn hom hg hel hbe a b hb hbm ha hab e
  have hl := ho.list _ _ _ _ _ _ _ hk
  have pre : wI P t (.own k n o m) (lo.map SV.enc) (hi.map SV.enc) (qH h.l) = some (cond (Nat.beq a 0) (.own k n o b) (cond (Nat.beq a b) (.f (.l el 0 [])) (.own k n (o + a) (b - a)))) := by
   simp only [wI, jM hk, hel]
   rw [show (SO.list el gr g w u xs).enc.el = el from rfl, hl.2.1, hb]
   simp only [ha, zF, hn, qCB, hbe, Bool.and_self, cond_true]
  have hsl : q0P h k g n := ⟨hg, fun el2 gr2 w2 t2 xs2 hk2 => by
   rw [hk] at hk2
   cases hk2
   exact hn⟩
  rw [pre]
  rcases run_ite e with ⟨z, e⟩ | ⟨z, e⟩
  ·exact ⟨_, by rw [z]; simp [SV.enc], by simp only [SV.ok]; exact ⟨hsl, by omega⟩, e⟩
  ·rcases run_ite e with ⟨z2, e⟩ | ⟨z2, e⟩
   ·exact ⟨_, by rw [z, z2]; simp [SV.enc, Ty.fv], by simp [SV.ok], e⟩
   ·exact ⟨_, by rw [z, z2]; simp [SV.enc], by simp only [SV.ok]; exact ⟨hsl, by omega⟩, e⟩
 split at e
 ·rename_i el u xs
  split at e
  ·rename_i el' s hel hs
   have e_ := qO e
   clear e
   obtain ⟨c1, e⟩ := e_
   rw [Bool.and_eq_true] at c1
   have hw : s = u.w := Nat.eq_of_beq_eq_true c1.2
   have he : el' = el := Nat.eq_of_beq_eq_true c1.1
   subst hw he
   obtain ⟨b, hb, hb2, e1⟩ := wP e
   obtain ⟨a, ha, ha2, e2⟩ := wP e1
   have hbl : b <= xs.length := by rcases hb2 with q | q <;> omega
   have hab : a <= b := by rcases ha2 with q | q <;> omega
   refine ⟨_, ?_, by simp [SV.ok], e2⟩
   simp only [SV.enc, Ty.fv, wI, hel, hs, hb, ha, qCB, xO, Bool.and_self, cond_true]
   rw [fJ, eG]
   cases hq : Nat.beq a b with
   | true =>
     have : a = b := Nat.eq_of_beq_eq_true hq
     subst this
     simp
   | false =>
     simp only [cond_false, List.length_take, List.length_drop]
     rw [Nat.min_eq_left (by omega)]
  ·cases e
 ·split at e
  ·rename_i el hel
   have e_ := qO e
   clear e
   obtain ⟨c1, e⟩ := e_
   obtain ⟨b, hb, hb2, e1⟩ := wP e
   obtain ⟨a, ha, ha2, e2⟩ := wP e1
   refine ⟨_, ?_, by simp [SV.ok], e2⟩
   have hb' : bnd 0 0 (hi.map SV.enc) = some b := hb
   simp only [SV.enc, fvv, wI, hel, hb', ha, c1, cond_true]
  ·cases e
 ·rename_i k g n
  split at e
  ·rename_i el' el gr g' w u xs hel hk
   have e_ := qO e
   clear e
   obtain ⟨c1, e⟩ := e_
   rw [Bool.and_eq_true] at c1
   have hg : g = g' := Nat.eq_of_beq_eq_true c1.2
   subst hg
   obtain ⟨b, hb, hb2, e1⟩ := wP e
   obtain ⟨a, ha, ha2, e2⟩ := wP e1
   simp only [SV.ok] at hx
   refine key hk (hx.2 _ _ _ _ _ hk) (by omega) hx.1 hel c1.1 a b hb (by rcases hb2 with q | q <;> omega) ha (by rcases ha2 with q | q <;> omega) ?_
   rw [Nat.zero_add]; exact e2
  ·cases e
 ·rename_i k g n o m
  split at e
  ·rename_i el' el gr g' w u xs hel hk
   have e_ := qO e
   clear e
   obtain ⟨c1, e⟩ := e_
   rw [Bool.and_eq_true] at c1
   have hg : g = g' := Nat.eq_of_beq_eq_true c1.2
   subst hg
   obtain ⟨b, hb, hb2, e1⟩ := wP e
   obtain ⟨a, ha, ha2, e2⟩ := wP e1
   simp only [SV.ok] at hx
   exact key hk (hx.1.2 _ _ _ _ _ hk) hx.2 hx.1.1 hel c1.1 a b hb (by rcases hb2 with q | q <;> omega) ha (by rcases ha2 with q | q <;> omega) e2
  ·cases e
 ·cases e
end
end Go.Sv
namespace Go.Sv
open Go.Idl
variable [Gc]
variable {P : Program} {t t2 : TypeId} {a b : ByteArray} {ph : PHp}
theorem bJ {v : Value} (h3 : qPO v = true) (h4 : ofC v = fvv v) : qT6 (qH2 H00 v) = some (fvv v) := by
 unfold qH2
 rw [h3]
 show some (ofC v) = _
 rw [h4]
theorem qKS {op : BinOp} {v : Value} (h1 : nilBin P (cop (.binOp op t (.const (.string a)) (.const (.string b)) t2)) op t (.string a) (.string b) [] H00 = kH P (cop (.binOp op t (.const (.string a)) (.const (.string b)) t2)) [] H00)
 (h2 : jH P (execOp (Env.val []) (cop (.binOp op t (.const (.string a)) (.const (.string b)) t2))) = some (.value v)) (h3 : qPO v = true) (h4 : ofC v = fvv v) : fH P op t t2 (fvv (.string a)) (fvv (.string b)) ph = some (fvv v) := by
 unfold fH
 simp only [fvv, pl, q6L, cond_false]
 show qT6 (nilBin P _ op t (.string a) (.string b) [] H00) = _
 rw [h1]
 unfold kH
 have : yL (kJ (Env.val []) (cop (.binOp op t (.const (.string a)) (.const (.string b)) t2)).op.operands.toList) = true := rfl
 rw [if_pos this, h2]
 exact bJ h3 h4
theorem q13 (hl : a.size + b.size <= 9223372036854775807) : fH P .add t t2 (fvv (.string a)) (fvv (.string b)) ph = some (fvv (.string (a ++ b))) := by
 refine qKS rfl ?_ rfl rfl
 have hm : IntKind.i64.max = 9223372036854775807 := rfl
 have : ¬ (((a.size + b.size : Nat) : Int) > IntKind.i64.max) := by rw [hm]; omega
 show jH P (do eqGuard .add t (.const (.string a)) (.const (.string b)) (.string a) (.string b); let v <- Op.stringOp .add a b; pure (Next.value v)) = _
 unfold Op.stringOp
 simp only [this, if_false]
 rfl
theorem q21 : fH P .eql t t2 (fvv (.string a)) (fvv (.string b)) ph = some (fvv (.bool (a.toList == b.toList))) := qKS rfl rfl rfl rfl
theorem q2F : fH P .neq t t2 (fvv (.string a)) (fvv (.string b)) ph = some (fvv (.bool (!(a.toList == b.toList)))) := qKS rfl rfl rfl rfl
theorem dB {α β : Type} (s : Sem α) (g : α -> Sem β) : jH P (s >>= g) = (jH P s).bind fun a => jH P (g a) := vP g s
theorem dP {α : Type} (a : α) : jH P (pure a : Sem α) = some a := rfl
theorem qYH {ts : Array TypeId} (hs : qWO P ts = true) : ∃ t, ts[0]? = some t ∧ P.underlying t = some .string := by
 unfold qWO at hs
 cases h0 : ts[0]? with
 | none => rw [h0] at hs; cases hs
 | some t =>
   rw [h0] at hs
   simp only [Option.bind_some] at hs
   split at hs
   ·rename_i hq; exact ⟨t, rfl, hq⟩
   ·cases hs
theorem q5B {t : TypeId} {ts : Array TypeId} {ty : TypeId} (h0 : ts[0]? = some t) (hu : P.underlying t = some .string) : jH P (Go.Builtin.len_ ts ty #[.string a]) = some (goInt a.size) := by
 unfold Go.Builtin.len_
 simp only [h0, dB, zW, hu, Option.bind_some, List.getElem?_toArray, List.getElem?_cons_zero]
 rfl
theorem qNA {x : Operand} {ts : Array TypeId} {ty : TypeId} {env : Env} (hs : qWO P ts = true) (hx : env.val x = .string a) :
 qT6 (kH P (cop (.call ⟨.builtin .len, #[x], ts⟩) ty) env H00) = some (fvv (.int .i64 (a.size : Int))) := by
 have h2 : kJ env.val (cop (.call ⟨.builtin .len, #[x], ts⟩) ty).op.operands.toList = [env.val x] := rfl
 unfold kH
 rw [h2]
 obtain ⟨t, h0, hu⟩ := qYH hs
 have hp : yL [env.val x] = true := by rw [hx]; rfl
 rw [if_pos hp]
 have he : jH P (execOp env.val (cop (.call ⟨.builtin .len, #[x], ts⟩) ty)) = some (.value (goInt a.size)) := by
  simp only [cop, execOp, resolve, List.map_toArray, List.map_cons, List.map_nil, hx]
  show jH P (do let v <- Go.Builtin.len_ ts ty #[.string a]; pure (Next.value v)) = _
  rw [dB, q5B h0 hu]; rfl
 rw [he]
 exact bJ rfl rfl
def qB3 (s : ByteArray) (i : Int) : Option Int := if 0 <= i then (s[i.toNat]?).map fun b => (b.toNat : Int) else none
theorem qXA {t : TypeId} {s : ByteArray} {k : IntKind} {i c : Int} {ty : TypeId} (hu : P.underlying t = some .string) (h : qB3 s i = some c) : qKD P (.index t (.const (.string s)) (.const (.int k i))) ty = some (fvv (.int .u8 c)) := by
 unfold qKD kH
 have hp : yL (kJ (Env.val []) (cop (.index t (.const (.string s)) (.const (.int k i))) ty).op.operands.toList) = true := rfl
 rw [if_pos hp]
 have he : jH P (execOp (Env.val []) (cop (.index t (.const (.string s)) (.const (.int k i))) ty)) = some (.value (.int .u8 c)) := by
  show jH P (do let v <- Instr.index t (.string s) (.int k i); pure (Next.value v)) = _
  unfold qB3 at h
  split at h
  ·rename_i hc
   obtain ⟨b, hb, rfl⟩ := Option.map_eq_some_iff.1 h
   unfold Instr.index
   simp only [dB, zW, hu, Option.bind_some]
   have h0 : jH P (asIntOf (.int k i)) = some (k, i) := rfl
   rw [h0]
   simp only [Option.bind_some, if_pos hc, hb, dP]
  ·cases h
 rw [he]
 exact bJ rfl rfl
theorem rQ {k : IntKind} {i : Int} {y n : Nat} {code : BoundsCode} (h : (if 0 <= i ∧ i <= (y : Int) then some i.toNat else none) = some n) : jH P (Instr.sliceBound (.int k i) y code) = some n := by
 unfold Instr.sliceBound
 rw [dB]
 have h0 : jH P (asIntOf (.int k i)) = some (k, i) := rfl
 rw [h0]
 simp only [Option.bind_some]
 split at h
 ·rename_i hc
  rw [if_pos hc]
  cases h; rfl
 ·cases h
theorem qTT {d most n : Nat} {x : Option PV} (h : bnd d most x = some n) : (x = none ∧ n = d) ∨ ∃ k i, x = some (fvv (.int k i)) ∧ (if 0 <= i ∧ i <= (most : Int) then some i.toNat else none) = some n := by
 unfold bnd at h
 split at h
 ·cases h; exact .inl ⟨rfl, rfl⟩
 ·rename_i k i; exact .inr ⟨k, i, rfl, h⟩
 ·cases h
theorem qYR {t : TypeId} {s : ByteArray} {lo hi : Option Operand} {l u : Nat} {env : List PV} {ty : TypeId} (hu : P.underlying t = some .string) (h1 : bnd s.size s.size (hi.map (qP env)) = some u) (h2 : bnd 0 u (lo.map (qP env)) = some l) :
 qKD P (.slice t (.const (.string s)) (lo.map fun a => .const ((pl (qP env a)).getD undef)) (hi.map fun a => .const ((pl (qP env a)).getD undef)) none) ty = some (fvv (.string (s.extract l u))) := by
 have opt : ∀ {o : Option Operand} {d most n : Nat}, bnd d most (o.map (qP env)) = some n -> (o = none ∧ n = d) ∨ ∃ k i, (o.map fun a => Operand.const ((pl (qP env a)).getD undef)) = some (.const (.int k i)) ∧ (if 0 <= i ∧ i <= (most : Int) then some i.toNat else none) = some n := fun {o d most n} h => by
  rcases qTT h with ⟨q, e⟩ | ⟨k, i, q, e⟩
  ·cases o with
   | none => exact .inl ⟨rfl, e⟩
   | some a => cases q
  ·cases o with
   | none => cases q
   | some a =>
     have q : qP env a = fvv (.int k i) := by simpa using q
     exact .inr ⟨k, i, by simp [q, fvv, pl], e⟩
 unfold qKD kH
 have hk : ∀ (lo' hi' : Option Operand) (vl vh : Option Value), lo'.map (Env.val []) = vl -> hi'.map (Env.val []) = vh -> yL (kJ (Env.val []) (cop (.slice t (.const (.string s)) lo' hi' none) ty).op.operands.toList) = true ->
  jH P (Instr.sliceBounds false s.size s.size vl vh none) = some (l, u, s.size) -> qT6 (if yL (kJ (Env.val []) (cop (.slice t (.const (.string s)) lo' hi' none) ty).op.operands.toList) = true then qEB H00 (jH P (execOp (Env.val []) (cop (.slice t (.const (.string s)) lo' hi' none) ty))) else none) = some (fvv (.string (s.extract l u))) := by
  intro lo' hi' vl vh e1 e2 hp hb
  rw [if_pos hp]
  have he : jH P (execOp (Env.val []) (cop (.slice t (.const (.string s)) lo' hi' none) ty)) = some (.value (.string (s.extract l u))) := by
   show jH P (do let v <- Instr.sliceAt t (.string s) (lo'.map (Env.val [])) (hi'.map (Env.val [])) none; pure (Next.value v)) = _
   rw [e1, e2]
   unfold Instr.sliceAt
   simp only [dB, zW, hu, Option.bind_some]
   unfold Instr.slice
   simp only [dB, zW, hu, Option.bind_some]
   simp only [Option.isSome_none, Bool.false_eq_true, if_false, dB, hb, Option.bind_some, dP]
  rw [he]
  exact bJ rfl rfl
 have hB : ∀ (vl vh : Option Value), (vh = none ∧ u = s.size ∨ ∃ k i, vh = some (.int k i) ∧ (if 0 <= i ∧ i <= (s.size : Int) then some i.toNat else none) = some u) -> (vl = none ∧ l = 0 ∨ ∃ k i, vl = some (.int k i) ∧ (if 0 <= i ∧ i <= (u : Int) then some i.toNat else none) = some l) ->
  jH P (Instr.sliceBounds false s.size s.size vl vh none) = some (l, u, s.size) := by
  intro vl vh a b
  unfold Instr.sliceBounds
  rcases a with ⟨rfl, rfl⟩ | ⟨k, i, rfl, ha⟩ <;> rcases b with ⟨rfl, rfl⟩ | ⟨k', i', rfl, hb⟩ <;> simp only [dB, dP, Option.bind_some, Option.isSome_none, Bool.false_eq_true, if_false]
  ·rw [rQ hb]; rfl
  ·rw [rQ ha]; rfl
  ·rw [rQ ha]; simp only [Option.bind_some]; rw [rQ hb]; rfl
 rcases opt h1 with ⟨rfl, e1⟩ | ⟨k, i, e1, f1⟩ <;> rcases opt h2 with ⟨rfl, e2⟩ | ⟨k', i', e2, f2⟩
 ·exact hk none none none none rfl rfl rfl (hB _ _ (.inl ⟨rfl, e1⟩) (.inl ⟨rfl, e2⟩))
 ·rw [e2]; exact hk _ none _ none rfl rfl rfl (hB _ _ (.inl ⟨rfl, e1⟩) (.inr ⟨k', i', rfl, f2⟩))
 ·rw [e1]; exact hk none _ none _ rfl rfl rfl (hB _ _ (.inr ⟨k, i, rfl, f1⟩) (.inl ⟨rfl, e2⟩))
 ·rw [e1, e2]; exact hk _ _ _ _ rfl rfl rfl (hB _ _ (.inr ⟨k, i, rfl, f1⟩) (.inr ⟨k', i', rfl, f2⟩))
theorem q20 {s d : TypeId} {k k' : IntKind} {x : Int} {u : TypeDesc} (hs : P.underlying s = some u) (hd : P.underlying d = some (.int k')) : fP P (fun a => .convert s d a) (fvv (.int k x)) = some (fvv (.int k' (k'.wrap x))) := by
 have hl : pl (fvv (.int k x)) = some (.int k x) := rfl
 unfold fP
 rw [hl]
 unfold qKD kH
 have hp : yL (kJ (Env.val []) (cop (.convert s d (.const (.int k x)))).op.operands.toList) = true := rfl
 simp only [hp, if_true]
 have he : jH P (execOp (Env.val []) (cop (.convert s d (.const (.int k x))))) = some (.value (.int k' (k'.wrap x))) := by
  show jH P (do let v <- convert s d (.int k x); pure (Next.value v)) = _
  unfold convert
  simp only [dB, zW, hs, hd, Option.bind_some]
  rfl
 rw [he]
 exact bJ rfl rfl
theorem qYI {s d : TypeId} {x : ByteArray} {u : TypeDesc} (hs : P.underlying s = some u) (hd : P.underlying d = some .string) : fP P (fun a => .convert s d a) (fvv (.string x)) = some (fvv (.string x)) := by
 have hl : pl (fvv (.string x)) = some (.string x) := rfl
 unfold fP
 rw [hl]
 unfold qKD kH
 have hp : yL (kJ (Env.val []) (cop (.convert s d (.const (.string x)))).op.operands.toList) = true := rfl
 simp only [hp, if_true]
 have he : jH P (execOp (Env.val []) (cop (.convert s d (.const (.string x))))) = some (.value (.string x)) := by
  show jH P (do let v <- convert s d (.string x); pure (Next.value v)) = _
  unfold convert
  simp only [dB, zW, hs, hd, Option.bind_some]
  cases u <;> rfl
 rw [he]
 exact bJ rfl rfl
end Go.Sv
namespace Go.Sv
open Go.Idl
noncomputable section
variable [Gc]
variable [Yl]
variable {P : Program} {h : SH} {R : Type} {r : R}
def qDS : SV -> Option Value
 | .d (.int k) x => some (.int k x)
 | .d .bool x => some (.bool x)
 | .d .str x => some (.string x)
 | .c v => some v
 | _ => none
theorem o8 {v : SV} {a : Value} (e : qDS v = some a) : v.enc = fvv a := by
 unfold qDS at e
 split at e <;> cases e <;> simp [SV.enc, Ty.fv, fvv]
def qER : List SV -> Option (List Value)
 | [] => some []
 | v :: l => match qDS v, qER l with
   | some a, some b => some (a :: b)
   | _, _ => none
def qFL : SV -> Option Value
 | .agg l => (match qER l with
   | some vs => some (.agg vs.toArray)
   | none => none)
 | v => qDS v
theorem qC9 : ∀ {l : List SV} {vs : List Value}, qER l = some vs -> qR2 (qC l) = some vs
 | [], vs, e => by cases e; simp [qC, qR2]
 | v :: l, vs, e => by
   unfold qER at e
   split at e
   ·rename_i a b ha hb
    cases e
    simp only [qC, o8 ha, fvv, qR2, pl1, qC9 hb]
   ·cases e
theorem qCX {v : SV} {a : Value} (e : qFL v = some a) : pl v.enc = some a := by
 unfold qFL at e
 split at e
 ·rename_i l
  split at e
  ·rename_i vs hvs
   cases e
   simp only [SV.enc, pl, qC9 hvs]
  ·cases e
 ·rw [o8 e]
  rfl
def q84 (op : BinOp) (a b : ByteArray) (K : SV -> Tree R) (F : Tree R) : Tree R := match op with
 | .add => .ite (Nat.ble (a.size + b.size) 9223372036854775807) (K (.d .str (a ++ b))) .fail
 | .eql => K (.d .bool (a.toList == b.toList))
 | .neq => K (.d .bool (!(a.toList == b.toList)))
 | _ => F
def qMQ (P : Program) (t : TypeId) : Bool := match P.underlying t with
 | some .string => true
 | _ => false
omit [Yl] in
theorem qCZ {t : TypeId} (e : qMQ P t = true) : P.underlying t = some .string := by
 unfold qMQ at e
 split at e
 ·assumption
 ·cases e
def qLB (P : Program) (t : TypeId) (s : ByteArray) (ix : SV) (K : SV -> Tree R) : Tree R := match asI ix with
 | some (_, i) => cond (qMQ P t) (.bind (qB3 s i) fun c => K (.d (.int .u8) c)) .fail
 | none => .fail
def qVH (P : Program) (t : TypeId) (s : ByteArray) (lo hi : Option SV) (K : SV -> Tree R) : Tree R :=
 cond (qMQ P t) (qRB s.size s.size hi fun b => qRB 0 b lo fun a => K (.d .str (s.extract a b))) .fail
def qZU (P : Program) (s d : TypeId) (x : SV) (K : SV -> Tree R) (F : Tree R) : Tree R := match P.underlying s, P.underlying d with
 | some _, some (.int k') => (match asI x with
   | some (_, a) => K (.d (.int k') (k'.wrap a))
   | none => F)
 | some _, some .string => (match asS x with
   | some a => K (.d .str a)
   | none => F)
 | _, _ => F
def Ty.vals : (t : Ty) -> List Value -> Option (t.sem × List Value)
 | .int k, .int k' x :: l => cond (decide (k' = k)) (some (x, l)) none
 | .bool, .bool x :: l => some (x, l)
 | .str, .string x :: l => some (x, l)
 | .unit, l => some ((), l)
 | .pair a b, l => match a.vals l with
   | some (x, l1) => (match b.vals l1 with
     | some (y, l2) => some ((x, y), l2)
     | none => none)
   | none => none
 | _, _ => none
def smp (x : SV) (h : SH) : Option (Nat × List (Value × Value)) := match x with
 | .mp k => (match slk k h.l with
   | some (.spc _ (.map es)) => some (k, es)
   | _ => none)
 | _ => none
omit [Yl] in
theorem qGU : ∀ (n : Nat) (es : List (Value × Value)), (qKI n es).length = es.length
 | n, [] => rfl
 | n, p :: es => by
   show (qKI (n + 1) es).length + 1 = _
   rw [qGU, List.length_cons]
theorem oD {k : Nat} {es es' : List (Value × Value)} {w : Nat} (ho : OkH P h) (hk : slk k h.l = some (.spc w (.map es))) : Keep h (h.put k fun v => .spc v (.map es')) ∧ OkH P (h.put k fun v => .spc v (.map es')) ∧
 qH (h.put k fun v => .spc v (.map es')).l = nU k { (SpO.map es).enc with cs := qMF es'.length (qKI 0 es') } (qH h.l) := by
 have := qFA (f := fun v => .spc v (.map es')) ho hk rfl
 exact ⟨this.1, this.2, nM k _ _⟩
def q1U (P : Program) (ts : Array TypeId) (x : SV) (h : SH) : Option SV := match smp x h with
 | some (_, es) => cond (spec P 1000000001 && q5I P ts) (some (.d (.int .i64) ((List.length es : Nat) : Int))) none
 | none => none
theorem qXJ {ts : Array TypeId} {x v : SV} (e : q1U P ts x h = some v) : qB9 P ts x.enc (qH h.l) = some v.enc ∧ v.ok h := by
 unfold q1U at e
 split at e
 case h_2 => cases e
 rename_i k es hm
 cases hc : (spec P 1000000001 && q5I P ts) with
 | false => rw [hc] at e; cases e
 | true =>
   rw [hc] at e
   cases e
   rw [Bool.and_eq_true] at hc
   refine ⟨?_, by simp [SV.ok]⟩
   unfold smp at hm
   split at hm
   case h_2 => cases hm
   rename_i k'
   split at hm
   case h_2 => cases hm
   rename_i w es' hk
   cases hm
   have h1 : pK P (SV.enc (.mp k)) (qH h.l) = some (qMF es.length (qKI 0 es)) := by
    simp only [SV.enc, pK, jM hk]
    show cond (!false && (spec P 1000000001 && Nat.beq 1000000001 1000000001)) (some (qMF es.length (qKI 0 es))) none = _
    rw [hc.1]; rfl
   unfold qB9
   rw [h1]
   simp only [hc.2, cond_true, qG3, qGU]
   have : (3 * es.length + 1) / 3 = es.length := by omega
   rw [this]
   simp [SV.enc, Ty.fv, fvv]
end
end Go.Sv
namespace Go.Sv
open Go.Idl
variable {a b : Int} {env : List SV} {k : IntKind} {op : BinOp} {s : ByteArray} {t t2 ty : TypeId} {ts : Array TypeId} {x y : SV}
noncomputable section
variable [Gc]
variable [Yl]
variable {P : Program} {h : SH} {R : Type} {r : R}
def q3M (k : IntKind) : PV -> Option Int
 | .f (.v (.int k' x)) => cond (decide (k' = k)) (some x) none
 | _ => none
def q1Z : PV -> Option Bool
 | .f (.v (.bool x)) => some x
 | _ => none
def q1N : PV -> Option ByteArray
 | .f (.v (.string x)) => some x
 | _ => none
def Ty.decP : (t : Ty) -> PV -> Option t.sem
 | .int k, p => q3M k p
 | .bool, p => q1Z p
 | .str, p => q1N p
 | .raw, _ => none
 | .unit, _ => none
 | .list _ _, _ => none
 | .pair _ _, _ => none
omit [Yl] in
theorem q06 : ∀ {t : Ty} {p : PV} {x : t.sem}, t.decP p = some x -> p = .f (t.fv x)
 | .int k, p, x, e => by
   have e1 : q3M k p = some x := e
   clear e
   unfold q3M at e1
   split at e1
   ·rename_i k' y
    have e := e1
    clear e1
    cases hk : decide (k' = k) with
    | false => rw [hk] at e; cases e
    | true =>
      rw [hk] at e
      cases e
      have : k' = k := by simpa using hk
      subst this
      rfl
   ·cases e1
 | .bool, p, x, e => by
   have e1 : q1Z p = some x := e
   clear e
   unfold q1Z at e1
   split at e1
   ·cases e1; rfl
   ·cases e1
 | .str, p, x, e => by
   have e1 : q1N p = some x := e
   clear e
   unfold q1N at e1
   split at e1
   ·cases e1; rfl
   ·cases e1
 | .unit, _, _, e => by cases e
 | .list _ _, _, _, e => by cases e
 | .pair _ _, _, _, e => by cases e
 | .raw, _, _, e => by cases e
def Ty.decPO (t : Ty) (o : Option PV) : Option t.sem := o.bind t.decP
theorem qN4 {t : Ty} {o : Option PV} {x : t.sem} (e : t.decPO o = some x) : o = some (SV.d t x).enc := by
 obtain ⟨p, h1, h2⟩ := Option.bind_eq_some_iff.1 e
 rw [h1, q06 h2]; simp [SV.enc]
def sint (op : BinOp) (k : IntKind) (a b : Int) (K : SV -> Tree R) (F : Tree R) : Tree R := match op with
 | .lss => K (.d .bool (decide (a < b)))
 | .leq => K (.d .bool (decide (a <= b)))
 | .gtr => K (.d .bool (decide (b < a)))
 | .geq => K (.d .bool (decide (b <= a)))
 | .eql => K (.d .bool (a == b))
 | .neq => K (.d .bool (a != b))
 | .add => K (.d (.int k) (k.wrap (a + b)))
 | .sub => K (.d (.int k) (k.wrap (a - b)))
 | .mul => K (.d (.int k) (k.wrap (a * b)))
 | .quo => .bind (qKO k a b) fun c => K (.d (.int k) c)
 | .rem => .bind (qVG a b) fun c => K (.d (.int k) c)
 | _ => F
omit [Yl] in
theorem q1L {x y : PV} {a b : Value} {ph : PHp} (hx : pl x = some a) (hy : pl y = some b) : fH P op t t2 x y ph = fH P op t t2 (fvv a) (fvv b) [] := by
 unfold fH
 rw [hx, hy]
 rfl
def qPW (P : Program) (op : BinOp) (t t2 ty : TypeId) (x y : SV) (K : SV -> Tree R) : Tree R := match qFL x, qFL y, qRD P 8 ty with
 | some a, some b, some u => .bind (u.decPO (fH P op t t2 (fvv a) (fvv b) [])) fun z => K (.d u z)
 | _, _, _ => .fail
def q7A (P : Program) (t : TypeId) (x y : SV) (h : SH) : Option Bool := match y with
 | .c (.slice none _ _) => cond (xC P t).isSome (match x with
   | .own k g n => (match slk k h.l with
     | some (.list _ gr g' _ _ _) => cond (Nat.beq g g') (some (gr && Nat.beq n 0)) none
     | _ => none)
   | _ => none) none
 | .c .nilFunc => cond (qRJ P t) (match x with
   | .fn _ _ _ => some false
   | _ => none) none
 | _ => none
theorem qRQ {b : Bool} (ho : OkH P h) (hx : x.ok h) (e : q7A P t x y h = some b) : qWQ P t x.enc y.enc (qH h.l) = some b ∧ pl x.enc = none := by
 unfold q7A at e
 split at e
 ·rename_i n c
  cases h1 : (xC P t).isSome with
  | false => rw [h1] at e; cases e
  | true =>
    rw [h1] at e
    simp only [cond_true] at e
    split at e
    ·rename_i k g n
     split at e
     ·rename_i el gr g' w u xs hk
      cases h2 : Nat.beq g g' with
      | false => rw [h2] at e; cases e
      | true =>
        rw [h2] at e
        cases e
        have hg : g = g' := Nat.eq_of_beq_eq_true h2
        subst hg
        simp only [SV.ok] at hx
        have hn := hx.2 _ _ _ _ _ hk
        have hl := ho.list _ _ _ _ _ _ _ hk
        refine ⟨?_, by simp [SV.enc, pl]⟩
        simp only [SV.enc, fvv, qWQ, h1, cond_true, isNil, jM hk]
        rw [show (SO.list el gr g w u xs).enc.el = el from rfl, hl.2.1]
        simp only [zF, hn, qCB, cond_true]
        rfl
     ·cases e
    ·cases e
 ·cases h1 : qRJ P t with
  | false => rw [h1] at e; cases e
  | true =>
    rw [h1] at e
    simp only [cond_true] at e
    split at e
    ·cases e
     exact ⟨by simp [SV.enc, fvv, qWQ, h1, qND], by simp [SV.enc, pl]⟩
    ·cases e
 ·cases e
def q8J (P : Program) (op : BinOp) (t t2 ty : TypeId) (x y : SV) (h : SH) (K : SV -> Tree R) : Tree R := match asI x, asI y with
 | some (k, a), some (k', b) => cond (decide (k = k')) (sint op k a b K (qPW P op t t2 ty x y K)) (qPW P op t t2 ty x y K)
 | _, _ => (match asS x, asS y with
   | some a, some b => q84 op a b K (qPW P op t t2 ty x y K)
   | _, _ => (match q7A P t x y h, op with
     | some b, .eql => K (.d .bool b)
     | some b, .neq => K (.d .bool (!b))
     | _, _ => qPW P op t t2 ty x y K))
theorem rR {K : SV -> Tree R} (e : (qPW P op t t2 ty x y K).run = some r) : ∃ v, fH P op t t2 x.enc y.enc (qH h.l) = some v.enc ∧ v.ok h ∧ (K v).run = some r := by
 unfold qPW at e
 split at e
 ·rename_i a b u ha hb hu
  obtain ⟨z, hz, e1⟩ := run_bind e
  refine ⟨_, ?_, by simp [SV.ok], e1⟩
  rw [q1L (qCX ha) (qCX hb)]
  exact qN4 hz
 ·cases e
theorem q2R {K : SV -> Tree R} (ho : OkH P h) (hx : x.ok h) (e : (q8J P op t t2 ty x y h K).run = some r) : ∃ v, fH P op t t2 x.enc y.enc (qH h.l) = some v.enc ∧ v.ok h ∧ (K v).run = some r := by
 unfold q8J at e
 split at e
 ·rename_i k a k' b ha hb
  cases hk : decide (k = k') with
  | false => rw [hk] at e; exact rR e
  | true =>
    rw [hk] at e
    have hkk : k = k' := by simpa using hk
    subst hkk
    simp only [cond_true] at e
    have ha' := kC ha
    have hb' := kC hb
    have fin : ∀ {v : SV}, fH P op t t2 (fvv (.int k a)) (fvv (.int k b)) (qH h.l) = some v.enc -> v.ok h -> (K v).run = some r -> ∃ v, fH P op t t2 x.enc y.enc (qH h.l) = some v.enc ∧ v.ok h ∧ (K v).run = some r := fun h1 h2 h3 => ⟨_, by rw [ha', hb']; exact h1, h2, h3⟩
    unfold sint at e
    split at e
    ·exact fin (v := .d .bool (decide (a < b))) q6B (by simp [SV.ok]) e
    ·exact fin (v := .d .bool (decide (a <= b))) q43 (by simp [SV.ok]) e
    ·exact fin (v := .d .bool (decide (b < a))) q48 (by simp [SV.ok]) e
    ·exact fin (v := .d .bool (decide (b <= a))) q5M (by simp [SV.ok]) e
    ·exact fin (v := .d .bool (a == b)) q4Q (by simp [SV.ok]) e
    ·exact fin (v := .d .bool (a != b)) q5Y (by simp [SV.ok]) e
    ·exact fin (v := .d (.int k) (k.wrap (a + b))) q6I (by simp [SV.ok]) e
    ·exact fin (v := .d (.int k) (k.wrap (a - b))) q4E (by simp [SV.ok]) e
    ·exact fin (v := .d (.int k) (k.wrap (a * b))) q5V (by simp [SV.ok]) e
    ·obtain ⟨c, hc, e1⟩ := run_bind e
     exact fin (v := .d (.int k) c) (q4T hc) (by simp [SV.ok]) e1
    ·obtain ⟨c, hc, e1⟩ := run_bind e
     exact fin (v := .d (.int k) c) (q5E hc) (by simp [SV.ok]) e1
    ·exact rR e
 ·split at e
  ·rename_i a b ha hb
   have ha' := gX ha
   have hb' := gX hb
   unfold q84 at e
   split at e
   ·rcases run_ite e with ⟨z, e1⟩ | ⟨z, e1⟩
    ·exact ⟨.d .str (a ++ b), by rw [ha', hb', q13 (Nat.le_of_ble_eq_true z)]; simp [SV.enc, Ty.fv, fvv], by simp [SV.ok], e1⟩
    ·cases e1
   ·exact ⟨.d .bool (a.toList == b.toList), by rw [ha', hb', q21]; simp [SV.enc, Ty.fv, fvv], by simp [SV.ok], e⟩
   ·exact ⟨.d .bool (!(a.toList == b.toList)), by rw [ha', hb', q2F]; simp [SV.enc, Ty.fv, fvv], by simp [SV.ok], e⟩
   ·exact rR e
  split at e
  ·rename_i b hs
   obtain ⟨h1, h2⟩ := qRQ ho hx hs
   refine ⟨_, ?_, by simp [SV.ok], e⟩
   unfold fH
   rw [h2]
   simp [h1, SV.enc, Ty.fv, fvv]
  ·rename_i b hs
   obtain ⟨h1, h2⟩ := qRQ ho hx hs
   refine ⟨_, ?_, by simp [SV.ok], e⟩
   unfold fH
   rw [h2]
   simp [h1, SV.enc, Ty.fv, fvv]
  ·exact rR e
def qTG (P : Program) (mk : Operand -> Op) (ty : TypeId) (x : SV) (K : SV -> Tree R) : Tree R := match qDS x, qRD P 8 ty with
 | some a, some u => .bind (u.decPO (fP P mk (fvv a))) fun z => K (.d u z)
 | _, _ => .fail
theorem qM9 {mk : Operand -> Op} {K : SV -> Tree R} (e : (qTG P mk ty x K).run = some r) : ∃ v, fP P mk x.enc = some v.enc ∧ v.ok h ∧ (K v).run = some r ∧ ∃ a, qDS x = some a := by
 unfold qTG at e
 split at e
 ·rename_i a u ha hu
  obtain ⟨z, hz, e1⟩ := run_bind e
  exact ⟨_, by rw [o8 ha]; exact qN4 hz, by simp [SV.ok], e1, a, ha⟩
 ·cases e
def sun (P : Program) (op : UnOp) (t ty : TypeId) (x : SV) (K : SV -> Tree R) : Tree R := match op, asI x, asB x with
 | .neg, some (k, a), _ => K (.d (.int k) (k.wrap (0 - a)))
 | .not, _, some b => K (.d .bool (!b))
 | _, _, _ => qTG P (fun a => .unOp op t a) ty x K
omit [Yl] in
theorem q2E {x : Int} : fP P (fun a => .unOp .neg t a) (fvv (.int k x)) = some (fvv (.int k (k.wrap (0 - x)))) := rfl
theorem q6G {op : UnOp} {K : SV -> Tree R} (e : (sun P op t ty x K).run = some r) : ∃ v, fP P (fun a => .unOp op t a) x.enc = some v.enc ∧ v.ok h ∧ (K v).run = some r := by
 unfold sun at e
 split at e
 ·rename_i k a ha
  exact ⟨_, by rw [kC ha, q2E]; simp [SV.enc, Ty.fv, fvv], by simp [SV.ok], e⟩
 ·rename_i b hb
  exact ⟨_, by rw [qAA hb, q4X]; simp [SV.enc, Ty.fv, fvv], by simp [SV.ok], e⟩
 ·obtain ⟨v, h1, h2, h3, _⟩ := qM9 (h := h) e
  exact ⟨v, h1, h2, h3⟩
def mK (env : List SV) (l : Array Operand) : List SV := l.toList.map (kG env)
theorem dY (env : List SV) (l : Array Operand) : l.toList.map (qP (qC env)) = qC (mK env l) := by
 unfold mK
 rw [zB (l.toList.map (kG env)), List.map_map]
 exact List.map_congr_left fun x _ => qV env x
omit [Yl] in
theorem eY (ho : okL h env) (l : Array Operand) : okL h (mK env l) := yT.2 fun x hx => by
 obtain ⟨q, _, rfl⟩ := List.mem_map.1 hx
 exact qA4 ho _
def smm (lo : Bool) (x y : SV) (K : SV -> Tree R) : Tree R := match asI x, asI y with
 | some (k, a), some (k', b) => cond (decide (k = k')) (K (.d (.int k) (cond lo (cond (decide (b < a)) b a) (cond (decide (a < b)) b a)))) .fail
 | _, _ => .fail
omit [Yl] in
theorem dmin {x y : Operand} {env : Env} (hx : env.val x = .int k a) (hy : env.val y = .int k b) :
 qT6 (kH P (cop (.call ⟨.builtin .min, #[x, y], ts⟩) ty) env H00) = some (fvv (.int k (if b < a then b else a))) := by
 have h2 : kJ env.val (cop (.call ⟨.builtin .min, #[x, y], ts⟩) ty).op.operands.toList = [env.val x, env.val y] := rfl
 unfold kH
 rw [h2]
 simp only [cop, execOp, resolve, List.map_toArray, List.map_cons, List.map_nil, hx, hy]
 rfl
omit [Yl] in
theorem dmax {x y : Operand} {env : Env} (hx : env.val x = .int k a) (hy : env.val y = .int k b) :
 qT6 (kH P (cop (.call ⟨.builtin .max, #[x, y], ts⟩) ty) env H00) = some (fvv (.int k (if a < b then b else a))) := by
 have h2 : kJ env.val (cop (.call ⟨.builtin .max, #[x, y], ts⟩) ty).op.operands.toList = [env.val x, env.val y] := rfl
 unfold kH
 rw [h2]
 simp only [cop, execOp, resolve, List.map_toArray, List.map_cons, List.map_nil, hx, hy]
 rfl
omit [Yl] in
theorem qWD {p : Prop} [Decidable p] {α : Type} {x y : α} : cond (decide p) x y = if p then x else y := by
 by_cases h : p <;> simp [h]
theorem q0B {lo : Bool} {c : Call} {K : SV -> Tree R} (hl : mK env c.args = [x, y]) (hc : c.callee = .builtin (cond lo .min .max)) (e : (smm lo x y K).run = some r) :
 ∃ v, jP P (cond lo .min .max) c [x.enc, y.enc] (qC env) ty (qH h.l) = some (v.enc, qH h.l) ∧ v.ok h ∧ (K v).run = some r := by
 unfold smm at e
 split at e
 ·rename_i k a k' b ha hb
  cases hk : decide (k = k') with
  | false => rw [hk] at e; cases e
  | true =>
    rw [hk] at e
    have : k = k' := by simpa using hk
    subst this
    have e1 := kC ha
    have e2 := kC hb
    refine ⟨_, ?_, by simp [SV.ok], e⟩
    obtain ⟨cal, args, ts⟩ := c
    simp only at hc hl
    subst hc
    unfold mK at hl
    have hal : ∃ p q, args = #[p, q] ∧ kG env p = x ∧ kG env q = y := by
     obtain ⟨l⟩ := args
     match l, hl with
     | [p, q], hl => simp at hl; exact ⟨p, q, rfl, hl.1, hl.2⟩
    obtain ⟨p, q, rfl, hp, hq⟩ := hal
    have vp : (qP2 (qC env)).val p = .int k a := aX P (by rw [qV, hp, e1]; rfl)
    have vq : (qP2 (qC env)).val q = .int k b := aX P (by rw [qV, hq, e2]; rfl)
    unfold jP
    rw [e1, e2]
    have hpl : plL [fvv (.int k a), fvv (.int k b)] = some [.int k a, .int k b] := rfl
    rw [hpl]
    cases lo with
    | true =>
      simp only [cond_true]
      rw [dmin vp vq, qWD]
      simp [pp1, SV.enc, Ty.fv, fvv]
    | false =>
      simp only [cond_false]
      rw [dmax vp vq, qWD]
      simp [pp1, SV.enc, Ty.fv, fvv]
 ·cases e
def q2D (P : Program) (ts : Array TypeId) (x : SV) (h : SH) : Option SV := match pK P x.enc (qH h.l) with
 | some _ => none
 | none => q65 P ts x h
theorem qX1 {v : SV} (ho : OkH P h) (hx : x.ok h) (e : q2D P ts x h = some v) : qB9 P ts x.enc (qH h.l) = some v.enc ∧ v.ok h := by
 unfold q2D at e
 split at e
 ·cases e
 ·rename_i hn
  unfold qB9
  rw [hn]
  exact q26 ho hx e
theorem qP3 {lo hi : Option Operand} {K : SV -> Tree R} (e : (qVH P t s (lo.map (kG env)) (hi.map (kG env)) K).run = some r) :
 ∃ v, qKD P (.slice t (.const (.string s)) (lo.map fun a => .const ((pl (qP (qC env) a)).getD undef)) (hi.map fun a => .const ((pl (qP (qC env) a)).getD undef)) none) = some v.enc ∧ v.ok h ∧ (K v).run = some r ∧ (plL ((lo.toList ++ hi.toList).map (qP (qC env)))).isSome = true := by
 obtain ⟨c, e1⟩ := qO e
 obtain ⟨b, hb, _, e2⟩ := wP e1
 obtain ⟨a, ha, _, e3⟩ := wP e2
 have m : ∀ o : Option Operand, (o.map (kG env)).map SV.enc = o.map (qP (qC env)) := fun o => by cases o <;> simp [qV]
 rw [m] at hb ha
 refine ⟨.d .str (s.extract a b), by rw [qYR (qCZ c) hb ha]; simp [SV.enc, Ty.fv, fvv], by simp [SV.ok], e3, ?_⟩
 have one : ∀ {o : Option Operand} {d most n : Nat}, bnd d most (o.map (qP (qC env))) = some n -> o = none ∨ ∃ a k i, o = some a ∧ qP (qC env) a = fvv (.int k i) := fun {o d most n} h => by
  rcases qTT h with ⟨q, _⟩ | ⟨k, i, q, _⟩
  ·cases o with
   | none => exact .inl rfl
   | some a => cases q
  ·cases o with
   | none => cases q
   | some a => exact .inr ⟨a, k, i, rfl, by simpa using q⟩
 rcases one hb with rfl | ⟨x, k, i, rfl, hx⟩ <;> rcases one ha with rfl | ⟨y, k', i', rfl, hy⟩ <;> simp_all [plL, fvv, pl]
theorem qPT {ix : SV} {K : SV -> Tree R} (e : (qLB P t s ix K).run = some r) :
 ∃ v k i, ix.enc = fvv (.int k i) ∧ qKD P (.index t (.const (.string s)) (.const (.int k i))) = some v.enc ∧ v.ok h ∧ (K v).run = some r := by
 unfold qLB at e
 split at e
 ·rename_i k i hi
  obtain ⟨c, e1⟩ := qO e
  obtain ⟨b, hb, e2⟩ := run_bind e1
  exact ⟨.d (.int .u8) b, k, i, kC hi, by rw [qXA (qCZ c) hb]; simp [SV.enc, Ty.fv, fvv], by simp [SV.ok], e2⟩
 ·cases e
theorem qYA {s d : TypeId} {K : SV -> Tree R} {F : Tree R} (e : (qZU P s d x K F).run = some r) : (∃ v, fP P (fun a => .convert s d a) x.enc = some v.enc ∧ v.ok h ∧ (K v).run = some r) ∨ F.run = some r := by
 unfold qZU at e
 split at e
 ·rename_i u k' hs hd
  split at e
  ·rename_i k a ha
   exact .inl ⟨_, by rw [kC ha, q20 hs hd]; simp [SV.enc, Ty.fv, fvv], by simp [SV.ok], e⟩
  ·exact .inr e
 ·rename_i u hs hd
  split at e
  ·rename_i a ha
   exact .inl ⟨_, by rw [gX ha, qYI hs hd]; simp [SV.enc, Ty.fv, fvv], by simp [SV.ok], e⟩
  ·exact .inr e
 ·exact .inr e
def qHS (env : List SV) (parts : Array (Nat × Operand)) : List (Nat × SV) := parts.toList.map fun p => (p.1, kG env p.2)
theorem qDX (env : List SV) (parts : Array (Nat × Operand)) : (parts.toList.map fun p => (p.1, qP (qC env) p.2)) = q35 (qHS env parts) := by
 simp [qHS, q35, qV]
omit [Yl] in
theorem qIR {env : List SV} (ho : okL h env) (parts : Array (Nat × Operand)) : ∀ p ∈ qHS env parts, p.2.ok h := fun p hp => by
 obtain ⟨q, _, rfl⟩ := List.mem_map.1 hp
 exact qA4 ho _
def qSJ : Operand -> Operand -> Bool
 | .tmp i, .tmp j => Nat.beq i j
 | .const (.int k a), .const (.int k' b) => decide (k = k') && decide (a = b)
 | _, _ => false
omit [Yl] in
theorem qR6 {a b : Operand} (e : qSJ a b = true) : a = b := by
 unfold qSJ at e
 split at e
 ·rw [Nat.eq_of_beq_eq_true e]
 ·rw [Bool.and_eq_true] at e
  have h1 := of_decide_eq_true e.1
  have h2 := of_decide_eq_true e.2
  rw [h1, h2]
 ·cases e
def gv (o : Option SV) (h : SH) (K : SV -> SH -> Tree R) : Tree R := match o with
 | some v => K v h
 | none => .fail
def sop (P : Program) (o : Oper) (env : List SV) (k : Nat) (h : SH) (K : SV -> SH -> Tree R) : Tree R := match o.op with
 | .move x => K (kG env x) h
 | .assign x => K (kG env x) h
 | .pick c a b => (match asB (kG env c) with
   | some t => .ite t (K (kG env a) h) (K (kG env b) h)
   | none => .fail)
 | .alloc el => qTX P el k h K
 | .box el x => q8Y P el (kG env x) k h K
 | .build t parts => gv (qTE P t (qHS env parts)) h K
 | .buildSlice t len parts => cO P t len (qHS env parts) k h K
 | .load t a => q2B P t (kG env a) h fun v => K v h
 | .store t a x => qTQ P t (kG env a) (kG env x) h K
 | .nilCheck x => gv (qBQ (kG env x) h) h K
 | .binOp op t x y t2 => q8J P op t t2 o.type (kG env x) (kG env y) h fun v => K v h
 | .unOp op t x => sun P op t o.type (kG env x) fun v => K v h
 | .convert s d x => cond (qQ2 (kG env x).enc) .fail (qZU P s d (kG env x) (fun v => K v h) (qTG P (fun a => .convert s d a) o.type (kG env x) fun v => K v h))
 | .makeFunc fn first cap => gv (qA9 fn (mK env first) (mK env cap)) h K
 | .makeSlice t l c => cond (qSJ l c) (q15 P t (kG env l) k h K) .fail
 | .slice t x lo hi none => (match asS (kG env x) with
   | some s => qVH P t s (lo.map (kG env)) (hi.map (kG env)) fun v => K v h
   | none => qVX P t (kG env x) (lo.map (kG env)) (hi.map (kG env)) h fun v => K v h)
 | .fieldAddr t x i => gv (oZ P t (kG env x) i h) h K
 | .field t x i => gv (qSK P t (kG env x) i) h K
 | .indexAddr t x ix => nV P t (kG env x) (kG env ix) h fun v => K v h
 | .index t x ix => (match asS (kG env x) with
   | some s => qLB P t s (kG env ix) fun v => K v h
   | none => qS3 P t (kG env x) (kG env ix) fun v => K v h)
 | .extract t i => gv (qE3 (kG env t) i) h K
 | .call c => (match c.callee, mK env c.args with
   | .builtin .append, [x, y] => qMD P c.argTypes.toList x y k h K
   | .builtin .len, [x] => cond (qWO P c.argTypes) (match asS x with
     | some s => K (.d (.int .i64) (s.size : Int)) h
     | none => .fail) (match q1U P c.argTypes x h with
     | some v => K v h
     | none => gv (q2D P c.argTypes x h) h K)
   | .builtin .min, [x, y] => smm true x y fun v => K v h
   | .builtin .max, [x, y] => smm false x y fun v => K v h
   | _, _ => .fail)
 | _ => .fail
omit [Yl] in
theorem qL8 {o : Option SV} {K : SV -> SH -> Tree R} (e : (gv o h K).run = some r) : ∃ v, o = some v ∧ (K v h).run = some r := by
 unfold gv at e
 split at e
 ·exact ⟨_, rfl, e⟩
 ·cases e
theorem qZ0 {o : Oper} {k : Nat} {K : SV -> SH -> Tree R} (ho : OkH P h) (he : okL h env) (e : (sop P o env k h K).run = some r) :
 ∃ v h', qGJ P o (qC env) k (qH h.l) = some (v.enc, qH h'.l) ∧ Post P h h' v ∧ (K v h').run = some r := by
 have same : ∀ {v : SV}, v.ok h -> Post P h h v := fun hv => ⟨.refl _, ho, hv⟩
 have sv := fun x => qA4 (h := h) he x
 unfold sop at e
 unfold qGJ
 split at e
 ·rename_i x ho'
  exact ⟨_, _, by simp only [ho', qV], same (sv x), e⟩
 ·rename_i x ho'
  exact ⟨_, _, by simp only [ho', qV], same (sv x), e⟩
 ·rename_i c a b ho'
  split at e
  ·rename_i t ht
   have h1 := qAA ht
   rcases run_ite e with ⟨z, e1⟩ | ⟨z, e1⟩
   ·exact ⟨_, _, by simp only [ho', qV, h1, fvv, z, cond_true], same (sv a), e1⟩
   ·exact ⟨_, _, by simp only [ho', qV, h1, fvv, z, cond_false], same (sv b), e1⟩
  ·cases e
 ·rename_i el ho'
  rw [ho']
  exact qV9 ho e
 ·rename_i el x ho'
  rw [ho']
  simp only [qV]
  exact q27 ho (sv x) e
 ·rename_i t parts ho'
  rw [ho']
  obtain ⟨v, h1, h2⟩ := qL8 e
  have h3 := qS9 (qIR he parts) h1
  exact ⟨v, h, by simp only [qDX, h3.1, pp1], same h3.2, h2⟩
 ·rename_i t len parts ho'
  rw [ho']
  simp only [qDX]
  exact qCF ho (qIR he parts) e
 ·rename_i t a ho'
  rw [ho']
  obtain ⟨v, h1, h2, h3⟩ := qXT ho (sv a) e
  exact ⟨v, h, by simp only [qV, h1, pp1], same h2, h3⟩
 ·rename_i t a x ho'
  rw [ho']
  obtain ⟨h', h1, h2, h3, h4⟩ := qV7 ho (sv a) (sv x) e
  exact ⟨_, h', by simp only [qV, h1, ppS]; simp [SV.enc, qC], ⟨h2, h3, by simp [SV.ok, okL]⟩, h4⟩
 ·rename_i x ho'
  rw [ho']
  obtain ⟨v, h1, h2⟩ := qL8 e
  have h3 := qJD (sv x) h1
  exact ⟨v, h, by simp only [qV, h3.1, pp1], same h3.2, h2⟩
 ·rename_i op t x y t2 ho'
  rw [ho']
  obtain ⟨v, h1, h2, h3⟩ := q2R ho (sv x) e
  exact ⟨v, h, by simp only [qV, h1, pp1], same h2, h3⟩
 ·rename_i op t x ho'
  rw [ho']
  obtain ⟨v, h1, h2, h3⟩ := q6G (h := h) e
  exact ⟨v, h, by simp only [qV, h1, pp1], same h2, h3⟩
 ·rename_i s d x ho'
  rw [ho']
  cases hp : qQ2 (kG env x).enc with
  | true => rw [hp] at e; cases e
  | false =>
    rw [hp] at e
    have e1 : (qZU P s d (kG env x) (fun v => K v h) (qTG P (fun a => .convert s d a) o.type (kG env x) fun v => K v h)).run = some r := e
    rcases qYA (h := h) e1 with ⟨v, h1, h2, h3⟩ | e1
    ·exact ⟨v, h, by simp only [qV, hp, cond_false, h1, pp1], same h2, h3⟩
    ·obtain ⟨v, h1, h2, h3, _⟩ := qM9 (h := h) e1
     exact ⟨v, h, by simp only [qV, hp, cond_false, h1, pp1], same h2, h3⟩
 ·rename_i fn first cap ho'
  rw [ho']
  obtain ⟨v, h1, h2⟩ := qL8 e
  have h3 := qH9 (eY he first) (eY he cap) h1
  exact ⟨v, h, by simp only [dY, h3.1, pp1], same h3.2, h2⟩
 ·rename_i t l c ho'
  rw [ho']
  obtain ⟨h1, h2⟩ := qO e
  have := qR6 h1
  subst this
  simp only [qV]
  exact qX4 ho h2
 ·rename_i t x lo hi ho'
  rw [ho']
  split at e
  ·rename_i s hs
   obtain ⟨v, h1, h2, h3, h4⟩ := qP3 (h := h) e
   obtain ⟨vs, hvs⟩ := Option.isSome_iff_exists.1 h4
   refine ⟨v, h, ?_, same h2, h3⟩
   have hx : qP (qC env) x = .f (.v (.string s)) := by rw [qV]; exact gX hs
   simp only [hx, hvs, h1, pp1]
  obtain ⟨v, h1, h2, h3⟩ := qU4 ho (sv x) e
  refine ⟨v, h, ?_, same h2, h3⟩
  have m : ∀ o : Option Operand, o.map (qP (qC env)) = (o.map (kG env)).map SV.enc := fun o => by cases o <;> simp [qV]
  simp only [qV, m]
  have ns : ∀ s, (kG env x).enc ≠ .f (.v (.string s)) := fun s hs => by
   rw [hs] at h1
   simp only [wI] at h1
   cases h1
  split
  ·rename_i s hs; exact absurd hs (ns s)
  ·rw [h1]; rfl
 ·rename_i t x i ho'
  rw [ho']
  obtain ⟨v, h1, h2⟩ := qL8 e
  have h3 := qFF (sv x) h1
  exact ⟨v, h, by simp only [qV, h3.1, pp1], same h3.2, h2⟩
 ·rename_i t x i ho'
  rw [ho']
  obtain ⟨v, h1, h2⟩ := qL8 e
  have h3 := qSD (sv x) h1
  exact ⟨v, h, by simp only [qV, h3.1, pp1], same h3.2, h2⟩
 ·rename_i t x ix ho'
  rw [ho']
  obtain ⟨v, h1, h2, h3⟩ := qFH ho (sv x) e
  exact ⟨v, h, by simp only [qV, h1, pp1], same h2, h3⟩
 ·rename_i t x ix ho'
  rw [ho']
  split at e
  ·rename_i s hs
   obtain ⟨v, k', i, h0, h1, h2, h3⟩ := qPT (h := h) e
   refine ⟨v, h, ?_, same h2, h3⟩
   have hx := gX hs
   have hpl : pl (fvv (.int k' i)) = some (.int k' i) := rfl
   simp only [qV, hx, h0, hpl]
   simp only [fvv, h1, pp1]
  obtain ⟨v, h1, h2, h3, l, hl⟩ := qU7 (sv x) e
  refine ⟨v, h, ?_, same h2, h3⟩
  simp only [qV]
  rw [hl] at h1 ⊢
  simp only [SV.enc] at h1 ⊢
  rw [h1]
  rfl
 ·rename_i t i ho'
  rw [ho']
  obtain ⟨v, h1, h2⟩ := qL8 e
  have h3 := qLC (sv t) h1
  exact ⟨v, h, by simp only [qV, h3.1, pp1], same h3.2, h2⟩
 ·rename_i c ho'
  rw [ho']
  have ha := dY env c.args
  have hao := eY he c.args
  split at e
  ·rename_i x y hc hl
   rw [hl] at ha hao
   simp only [okL] at hao
   simp only [hc, ha, qC, uH]
   exact qQ3 ho hao.1 hao.2.1 e
  ·rename_i x hc hl
   rw [hl] at ha hao
   simp only [okL] at hao
   cases hst : qWO P c.argTypes with
   | true =>
     rw [hst] at e
     simp only [cond_true] at e
     split at e
     ·rename_i s hs
      refine ⟨_, h, ?_, same (by simp [SV.ok]), e⟩
      obtain ⟨cal, args, ts⟩ := c
      simp only at hc hl hst
      subst hc
      obtain ⟨p, rfl, hp⟩ : ∃ p, args = #[p] ∧ kG env p = x := by
       unfold mK at hl
       obtain ⟨l⟩ := args
       match l, hl with
       | [p], hl => simp at hl; exact ⟨p, rfl, hl⟩
      have vp : (qP2 (qC env)).val p = .string s := aX P (by rw [qV, hp, gX hs]; rfl)
      simp only [uH, ha, qC, hst, cond_true]
      unfold jP
      have hpl : plL [x.enc] = some [.string s] := by rw [gX hs]; rfl
      rw [hpl]
      simp only
      rw [qNA hst vp]
      simp [pp1, SV.enc, Ty.fv, fvv]
     ·cases e
   | false =>
     rw [hst] at e
     simp only [cond_false] at e
     split at e
     ·rename_i v hv
      have h3 := qXJ hv
      refine ⟨v, h, ?_, same h3.2, e⟩
      simp only [hc, ha, qC, uH, hst, cond_false, h3.1, pp1]
     obtain ⟨v, h1, h2⟩ := qL8 e
     have h3 := qX1 ho hao.1 h1
     refine ⟨v, h, ?_, same h3.2, h2⟩
     simp only [hc, ha, qC, uH, hst, cond_false, h3.1, pp1]
  ·rename_i x y hc hl
   rw [hl] at ha
   obtain ⟨v, h1, h2, h3⟩ := q0B (h := h) (lo := true) (ty := o.type) hl hc e
   exact ⟨v, h, by simp only [hc, ha, qC, uH]; exact h1, same h2, h3⟩
  ·rename_i x y hc hl
   rw [hl] at ha
   obtain ⟨v, h1, h2, h3⟩ := q0B (h := h) (lo := false) (ty := o.type) hl hc e
   exact ⟨v, h, by simp only [hc, ha, qC, uH]; exact h1, same h2, h3⟩
  ·cases e
 ·cases e
end
end Go.Sv
namespace Go.Sv
open Go.Idl
variable {as : List SV} {el ty : TypeId} {g : FuncId} {h' : SH} {k m n o : Nat} {v : SV}
noncomputable section
variable [Gc]
variable [Yl]
variable {P : Program} {h : SH} {R : Type} {r : R} {tab : fG}
omit [Yl] in
theorem qF7 : ∀ (cs : List FV) (ph : PHp) (n : Nat), qJR (fz1 P n) (cs.map .f) ph = some (cs, ph)
 | [], ph, n => rfl
 | c :: cs, ph, n => by
   have e : fz1 P n ph (.f c) = some (c, ph) := by cases n <;> rfl
   show (match fz1 P n ph (.f c) with
    | some (y, ph1) => (match qJR (fz1 P n) (cs.map .f) ph1 with
      | some (ys, ph2) => some (y :: ys, ph2)
      | none => none)
    | none => none) = _
   rw [e]
   simp only [qF7 cs ph n]
theorem q3L {gr : Bool} {g w : Nat} {t : Ty} {xs : List t.sem} (ho : OkH P h) (hk : slk k h.l = some (.list el gr g w t xs)) (hn : n = xs.length) (hom : o + m <= n) :
 fz1 P 4 (qH h.l) (.own k n o m) = some (.l el m (((xs.drop o).take m).flatMap t.cells), qH (h.del k).l) := by
 have hl := ho.list _ _ _ _ _ _ _ hk
 simp only [fz1, jM hk]
 rw [show (SO.list el gr g w t xs).enc.el = el from rfl, hl.2.1]
 simp only [zF, hn, qCB, cond_true]
 rw [show (SO.list el gr g w t xs).enc.cs = (xs.flatMap t.cells).map .f from rfl, <- List.map_drop, <- List.map_take, fJ, eG, qF7]
 show some _ = some (_, qH (sdl k h.l))
 rw [dQ]
def q6K (el : TypeId) (t : Ty) (k g : Nat) (f : List t.sem -> List t.sem) (h : SH) : Option (List t.sem × SH) := match slk k h.l with
 | some (.list el' _ g' _ u xs) => cond (Nat.beq el' el && Nat.beq g g') (match qJZ u t xs with
   | some xs => some (f xs, h.del k)
   | none => none) none
 | _ => none
def q8U (P : Program) (ty el : TypeId) (t : Ty) (h : SH) : Option (List t.sem × SH) := match xC P ty with
 | some el' => cond (Nat.beq el' el) (some ([], h)) none
 | none => none
def qXV (P : Program) (ty : TypeId) : (t : Ty) -> SV -> SH -> Option (t.sem × SH)
 | .list el t, .own k g _, h => q6K el t k g (fun xs => xs) h
 | .list el t, .sl k g _ o m, h => q6K el t k g (fun xs => (xs.drop o).take m) h
 | .list el t, .c (.slice none 0 0), h => q8U P ty el t h
 | t, v, h => match t.decS v with
   | some x => some (x, h)
   | none => none
omit [Yl] in
theorem qH5 : ∀ {t : Ty} {x : t.sem}, t.one = true -> rt0 P ty (.f (t.fv x)) = .f (t.fv x)
 | .int _, _, _ => rfl
 | .bool, _, _ => rfl
 | .str, _, _ => rfl
 | .raw, _, _ => rfl
 | .list _ _, _, _ => rfl
 | .unit, _, e => by cases e
 | .pair _ _, _, e => by cases e
theorem qTV {ty : TypeId} {t : Ty} {g : Nat} {f : List t.sem -> List t.sem} {x : List t.sem} (ho : OkH P h) (hs : q0P h k g n) (hom : o + m <= n) (hf : ∀ xs : List t.sem, xs.length = n -> f xs = (xs.drop o).take m) (e : q6K el t k g f h = some (x, h')) :
 fz1 P 4 (qH h.l) (.own k n o m) = some ((Ty.list el t).fv x, qH h'.l) ∧ Keep h h' ∧ OkH P h' := by
 unfold q6K at e
 split at e
 ·rename_i el' gr g' w u xs hk
  cases hc : (Nat.beq el' el && Nat.beq g g') with
  | false => rw [hc] at e; cases e
  | true =>
    rw [hc] at e
    rw [Bool.and_eq_true] at hc
    have he : el' = el := Nat.eq_of_beq_eq_true hc.1
    have hg : g = g' := Nat.eq_of_beq_eq_true hc.2
    subst he hg
    simp only [cond_true] at e
    split at e
    ·rename_i ys hys
     cases mX hys
     cases e
     have hn := hs.2 _ _ _ _ _ hk
     have hd := oL (k := k) ho
     refine ⟨?_, hd.1, hd.2⟩
     rw [q3L ho hk hn hom, hf _ hn.symm]
     show some (FV.l el' m _, _) = some (FV.l el' _ _, _)
     rw [List.length_take, List.length_drop, Nat.min_eq_left (by omega)]
    ·cases e
 ·cases e
theorem qMS {t : Ty} {x : t.sem} (ho : OkH P h) (hv : v.ok h) (e : qXV P ty t v h = some (x, h')) :
 ∃ y, fz1 P 4 (qH h.l) v.enc = some (y, qH h'.l) ∧ rt0 P ty (.f y) = .f (t.fv x) ∧ t.one = true ∧ Keep h h' ∧ OkH P h' := by
 unfold qXV at e
 split at e
 ·rename_i el t k g n
  simp only [SV.ok] at hv
  obtain ⟨h1, h2, h3⟩ := qTV (ty := ty) (n := n) (o := 0) (m := n) ho hv (by omega) (fun xs hl => by rw [List.drop_zero, <- hl, List.take_length]) e
  exact ⟨_, by simp only [SV.enc]; exact h1, qH5 rfl, rfl, h2, h3⟩
 ·rename_i el t k g n o m
  simp only [SV.ok] at hv
  obtain ⟨h1, h2, h3⟩ := qTV (ty := ty) (n := n) (o := o) (m := m) ho hv.1 hv.2 (fun xs hl => rfl) e
  exact ⟨_, by simp only [SV.enc]; exact h1, qH5 rfl, rfl, h2, h3⟩
 ·rename_i el t
  unfold q8U at e
  split at e
  ·rename_i el' hel
   cases hc : Nat.beq el' el with
   | false => rw [hc] at e; cases e
   | true =>
     rw [hc] at e
     cases e
     have he : el' = el := Nat.eq_of_beq_eq_true hc
     subst he
     refine ⟨.v (.slice none 0 0), by simp only [SV.enc, fvv, fz1], ?_, rfl, .refl _, ho⟩
     show (match xC P ty with
      | some el => PV.f (.l el 0 [])
      | none => fvv (.slice none 0 0)) = _
     rw [hel]
     rfl
  ·cases e
 ·split at e
  ·rename_i y hy
   cases e
   obtain ⟨h1, h2⟩ := qFJ hy
   exact ⟨_, by rw [h1]; rfl, qH5 h2, h2, .refl _, ho⟩
  ·cases e
def qKG (P : Program) (t : Ty) (tys : List TypeId) (l : List SV) (h : SH) : Option (t.sem × List TypeId × List SV × SH) := match tys, l with
 | ty :: tys, v :: l => (match qXV P ty t v h with
   | some (x, h') => some (x, tys, l, h')
   | none => none)
 | _, _ => none
def Ty.decC (P : Program) : (t : Ty) -> List TypeId -> List SV -> SH -> Option (t.sem × List TypeId × List SV × SH)
 | .unit, tys, l, h => some ((), tys, l, h)
 | .pair a b, tys, l, h => match a.decC P tys l h with
   | some (x, tys1, l1, h1) => (match b.decC P tys1 l1 h1 with
     | some (y, tys2, l2, h2) => some ((x, y), tys2, l2, h2)
     | none => none)
   | none => none
 | .int k, tys, l, h => qKG P (.int k) tys l h
 | .bool, tys, l, h => qKG P .bool tys l h
 | .str, tys, l, h => qKG P .str tys l h
 | .raw, tys, l, h => qKG P .raw tys l h
 | .list el t, tys, l, h => qKG P (.list el t) tys l h
def q80 (P : Program) (t : Ty) (tys : List TypeId) (l : List SV) (h : SH) (x : t.sem) (tys' : List TypeId) (l' : List SV) (h' : SH) : Prop :=
 okL h' l' ∧ Keep h h' ∧ OkH P h' ∧ ∃ ys : List FV, (∀ zs p, qJR (fz1 P 4) (qC l') (qH h'.l) = some (zs, p) -> qJR (fz1 P 4) (qC l) (qH h.l) = some (ys ++ zs, p)) ∧
  ∀ zs : List PV, rtL (rt0 P) tys (ys.map .f ++ zs) = (t.cells x).map .f ++ rtL (rt0 P) tys' zs
theorem dX {t : Ty} {tys tys' : List TypeId} {l l' : List SV} {x : t.sem} (ho : OkH P h) (hl : okL h l) (e : qKG P t tys l h = some (x, tys', l', h')) : q80 P t tys l h x tys' l' h' := by
 unfold qKG at e
 split at e
 ·rename_i ty tys v l
  split at e
  ·rename_i y h1 hd
   cases e
   simp only [okL] at hl
   obtain ⟨y, a1, a2, a3, a4, a5⟩ := qMS ho hl.1 hd
   refine ⟨qQ a4 hl.2, a4, a5, [y], fun zs p hz => ?_, fun zs => ?_⟩
   ·simp only [qC, qJR, a1, hz]; rfl
   ·show rt0 P ty (.f y) :: rtL (rt0 P) _ zs = _
    rw [a2, Ty.cells_one a3]; rfl
  ·cases e
 ·cases e
theorem qD6 : ∀ {t : Ty} {tys tys' : List TypeId} {l l' : List SV} {h : SH} {x : t.sem} {h' : SH}, OkH P h -> okL h l -> t.decC P tys l h = some (x, tys', l', h') -> q80 P t tys l h x tys' l' h'
 | .unit, tys, tys', l, l', h, x, h', ho, hl, e => by
   cases e
   exact ⟨hl, .refl _, ho, [], fun zs p hz => hz, fun zs => rfl⟩
 | .int k, tys, tys', l, l', h, x, h', ho, hl, e => dX ho hl e
 | .bool, tys, tys', l, l', h, x, h', ho, hl, e => dX ho hl e
 | .str, tys, tys', l, l', h, x, h', ho, hl, e => dX ho hl e
 | .raw, tys, tys', l, l', h, x, h', ho, hl, e => dX ho hl e
 | .list el t, tys, tys', l, l', h, x, h', ho, hl, e => dX ho hl e
 | .pair a b, tys, tys', l, l', h, x, h', ho, hl, e => by
   unfold Ty.decC at e
   split at e
   ·rename_i x1 tys1 l1 h1 hd1
    split at e
    ·rename_i y tys2 l2 h2 hd2
     cases e
     obtain ⟨a1, a2, a3, ys, a4, a5⟩ := qD6 ho hl hd1
     obtain ⟨b1, b2, b3, zs, b4, b5⟩ := qD6 a3 a1 hd2
     refine ⟨b1, a2.trans b2, b3, ys ++ zs, fun us p hu => ?_, fun us => ?_⟩
     ·rw [List.append_assoc]
      exact a4 _ _ (b4 _ _ hu)
     ·rw [List.map_append, List.append_assoc, a5, b5]
      show _ = (a.cells x1 ++ b.cells y).map PV.f ++ _
      rw [List.map_append, List.append_assoc]
    ·cases e
   ·cases e
def q34 (P : Program) (ty : TypeId) (t : Ty) (v : SV) (h : SH) : Option (t.sem × SH) := cond t.one (match v with
 | .agg _ => none
 | v => qXV P ty t v h) (match v with
 | .agg l => (match t.decC P (pU P 8 ty) l h with
   | some (x, _, [], h') => some (x, h')
   | _ => none)
 | _ => none)
theorem qE2 {t : Ty} {x : t.sem} (ho : OkH P h) (hv : v.ok h) (e : q34 P ty t v h = some (x, h')) :
 ∃ y, fzP P (qH h.l) v.enc = some (y, qH h'.l) ∧ rt1 P ty y = t.pv x ∧ Keep h h' ∧ OkH P h' := by
 unfold q34 at e
 cases ht : t.one with
 | true =>
   rw [ht] at e
   simp only [cond_true] at e
   split at e
   ·cases e
   ·rename_i hna
    obtain ⟨y, h1, h2, h3, h4, h5⟩ := qMS ho hv e
    refine ⟨.f y, ?_, ?_, h4, h5⟩
    ·cases v with
     | agg l => exact absurd rfl (hna l)
     | _ => simp only [SV.enc, fvv, fzP] at h1 ⊢; rw [h1]
    ·show rt0 P ty (.f y) = _
     rw [h2]
     unfold Ty.pv
     rw [ht]; rfl
 | false =>
   rw [ht] at e
   simp only [cond_false] at e
   split at e
   ·rename_i l
    split at e
    ·rename_i x1 tys1 h1 hd
     cases e
     simp only [SV.ok] at hv
     obtain ⟨a1, a2, a3, ys, a4, a5⟩ := qD6 ho hv hd
     refine ⟨.agg (ys.map .f), ?_, ?_, a2, a3⟩
     ·have := a4 [] (qH h'.l) (by simp [qC, qJR])
      simp only [SV.enc, fzP, this, List.append_nil]
     ·show PV.agg (rtL (rt0 P) (pU P 8 ty) (ys.map .f)) = _
      have := a5 []
      rw [List.append_nil] at this
      rw [this]
      unfold Ty.pv
      rw [ht]
      cases tys1 <;> simp [rtL]
    ·cases e
   ·cases e
def jL (P : Program) : List TypeId -> (ts : List Ty) -> List SV -> SH -> Option (TyL ts × SH)
 | _, [], [], h => some ((), h)
 | ty :: _, [t], [v], h => q34 P ty t v h
 | ty :: tys, t :: u :: ts, v :: vs, h => match q34 P ty t v h with
   | some (x, h1) => (match jL P tys (u :: ts) vs h1 with
     | some (y, h2) => some ((x, y), h2)
     | none => none)
   | none => none
 | _, _, _, _ => none
theorem bI : ∀ {tys : List TypeId} {ts : List Ty} {vs : List SV} {h : SH} {x : TyL ts} {h' : SH}, OkH P h -> okL h vs -> jL P tys ts vs h = some (x, h') ->
 ∃ ys, fzA P (qC vs) (qH h.l) = some (ys, qH h'.l) ∧ rtL (rt1 P) tys ys = pvL ts x ∧ Keep h h' ∧ OkH P h'
 | tys, [], [], h, x, h', ho, hv, e => by
   unfold jL at e
   cases e
   refine ⟨[], rfl, ?_, .refl _, ho⟩
   cases tys <;> rfl
 | ty :: tys, [t], [v], h, x, h', ho, hv, e => by
   unfold jL at e
   simp only [okL] at hv
   obtain ⟨y, h1, h2, h3, h4⟩ := qE2 ho hv.1 e
   refine ⟨[y], ?_, ?_, h3, h4⟩
   ·simp only [qC, fzA, h1]
   ·show rt1 P ty y :: rtL (rt1 P) tys [] = [t.pv x]
    rw [h2]
    cases tys <;> rfl
 | ty :: tys, t :: u :: ts, v :: vs, h, x, h', ho, hv, e => by
   unfold jL at e
   simp only [okL] at hv
   split at e
   ·rename_i x1 h1 hd
    split at e
    ·rename_i y1 h2 hd2
     cases e
     obtain ⟨y, a1, a2, a3, a4⟩ := qE2 ho hv.1 hd
     obtain ⟨ys, b1, b2, b3, b4⟩ := bI a4 (qQ a3 hv.2) hd2
     refine ⟨y :: ys, ?_, ?_, a3.trans b3, b4⟩
     ·simp only [qC, fzA, a1, b1]
     ·show rt1 P ty y :: rtL (rt1 P) tys ys = t.pv x1 :: pvL (u :: ts) y1
      rw [a2, b2]
    ·cases e
   ·cases e
 | [], [_], [_], _, _, _, _, _, e => by unfold jL at e; cases e
 | [], _ :: _ :: _, _ :: _, _, _, _, _, _, e => by unfold jL at e; cases e
 | tys, [], _ :: _, _, _, _, _, _, e => by cases tys <;> (unfold jL at e; cases e)
 | tys, _ :: ts, [], _, _, _, _, _, e => by cases tys <;> cases ts <;> (unfold jL at e; cases e)
 | tys, [_], _ :: _ :: _, _, _, _, _, _, e => by cases tys <;> (unfold jL at e; cases e)
def Ty.sv (t : Ty) (x : t.sem) : SV := cond t.one (.d t x) (.agg (t.svs x))
theorem pF (t : Ty) (x : t.sem) : (t.sv x).enc = t.pv x := by
 unfold Ty.sv Ty.pv
 cases t.one <;> simp [SV.enc, tK]
omit [Yl] in
theorem qLA (t : Ty) (x : t.sem) : (t.sv x).ok h := by
 unfold Ty.sv
 cases t.one
 ·simp only [cond_false, SV.ok]; exact qNW t x
 ·simp [SV.ok]
def svL : (ts : List Ty) -> TyL ts -> List SV
 | [], _ => []
 | [t], x => [t.sv x]
 | t :: u :: ts, x => t.sv x.1 :: svL (u :: ts) x.2
theorem qAM : ∀ (ts : List Ty) (x : TyL ts), qC (svL ts x) = pvL ts x
 | [], _ => by simp [svL, pvL, qC]
 | [t], x => by simp [svL, pvL, qC, pF]
 | t :: u :: ts, x => by
   show qC (t.sv x.1 :: svL (u :: ts) x.2) = t.pv x.1 :: pvL (u :: ts) x.2
   simp only [qC, pF, qAM (u :: ts)]
omit [Yl] in
theorem qBZ : ∀ (ts : List Ty) (x : TyL ts), okL h (svL ts x)
 | [], _ => by simp [svL, okL]
 | [t], x => by simp [svL, okL, qLA]
 | t :: u :: ts, x => by
   show okL h (t.sv x.1 :: svL (u :: ts) x.2)
   simp only [okL]
   exact ⟨qLA t x.1, qBZ (u :: ts) x.2⟩
def qGZ (ts : List Ty) (x : TyL ts) : SV := match svL ts x with
 | [v] => v
 | vs => .tup vs
theorem qI9 (ts : List Ty) (x : TyL ts) : (qGZ ts x).enc = jY ts x := by
 unfold qGZ jY
 rw [<- qAM]
 match svL ts x with
 | [] => simp [qC, qB8, SV.enc]
 | [v] => simp [qC, qB8]
 | a :: b :: l => simp [qC, qB8, SV.enc]
omit [Yl] in
theorem qM5 (ts : List Ty) (x : TyL ts) : (qGZ ts x).ok h := by
 unfold qGZ
 have := qBZ (h := h) ts x
 split
 ·rename_i v hv
  rw [hv] at this
  simp only [okL] at this
  exact this.1
 ·simp only [SV.ok]; exact this
def qVP (tab : fG) (T : zS) : Prop := ∀ g ent, slT g T = some ent -> ∀ x, tab g (pvL ent.as x) = (ent.F x).map (jY ent.rs)
def qQF (P : Program) (T : zS) (d : Bool) (g : FuncId) (as : List SV) (h : SH) (K : SV -> SH -> Tree R) : Tree R := match slT g T, P.funcs[g]? with
 | some ent, some fn => (match jL P fn.params.toList ent.as as h with
   | some (x, h1) => .bind (ent.F x) fun y => cond d (cond (vJ (jY ent.rs y) || (qC as).all qRC) (K (qGZ ent.rs y) h) .fail) (K (qGZ ent.rs y) (cond (vJ (jY ent.rs y)) h h1))
   | none => .fail)
 | _, _ => .fail
theorem qY5 {T : zS} (ht : qVP tab T) {K : SV -> SH -> Tree R} (ho : OkH P h) (ha : okL h as) (e : (qQF P T false g as h K).run = some r) :
 ∃ v h', gQ P tab g (qC as) (qH h.l) = .ok v.enc (qH h'.l) ∧ Post P h h' v ∧ (K v h').run = some r := by
 unfold qQF at e
 split at e
 ·rename_i ent fn hent hfn
  split at e
  ·rename_i x h1 hx
   obtain ⟨y, hy, e1⟩ := run_bind e
   obtain ⟨ys, a1, a2, a3, a4⟩ := bI ho ha hx
   have e2 : (K (qGZ ent.rs y) (cond (vJ (jY ent.rs y)) h h1)).run = some r := e1
   refine ⟨_, _, ?_, ⟨?_, ?_, qM5 _ _⟩, e2⟩
   ·unfold gQ
    rw [a1]
    simp only
    rw [show rtA P g ys = pvL ent.as x by unfold rtA; rw [hfn]; exact a2, ht g ent hent x, hy]
    simp only [Option.map_some, qI9]
    cases vJ (jY ent.rs y) <;> rfl
   ·cases vJ (jY ent.rs y)
    ·exact a3
    ·exact .refl _
   ·cases vJ (jY ent.rs y)
    ·exact a4
    ·exact ho
  ·cases e
 ·cases e
theorem qRG {T : zS} (ht : qVP tab T) {K : SV -> SH -> Tree R} (ho : OkH P h) (ha : okL h as) (e : (qQF P T true g as h K).run = some r) :
 ∃ v h', sP P tab g (qC as) (qH h.l) = .ok v.enc (qH h'.l) ∧ Post P h h' v ∧ (K v h').run = some r := by
 unfold qQF at e
 split at e
 ·rename_i ent fn hent hfn
  split at e
  ·rename_i x h1 hx
   obtain ⟨y, hy, e1⟩ := run_bind e
   obtain ⟨ys, a1, a2, a3, a4⟩ := bI ho ha hx
   obtain ⟨c, e2⟩ := qO (show (cond (vJ (jY ent.rs y) || (qC as).all qRC) (K (qGZ ent.rs y) h) .fail : Tree R).run = some r from e1)
   refine ⟨_, _, ?_, ⟨.refl _, ho, qM5 _ _⟩, e2⟩
   unfold sP
   rw [a1]
   simp only
   rw [show rtA P g ys = pvL ent.as x by unfold rtA; rw [hfn]; exact a2, ht g ent hent x, hy]
   simp only [Option.map_some, qI9, c, cond_true]
  ·cases e
 ·cases e
def qEI (fv : SV) (args : List SV) : Option (FuncId × List SV) := match fv with
 | .c (.func (.func g) a c) => cond (a.toList.isEmpty && c.toList.isEmpty) (some (g, args)) none
 | .fn g first cap => some (g, first ++ (args ++ cap))
 | _ => none
theorem qCS {fv : SV} {args : List SV} (hf : fv.ok h) (ha : okL h args) (e : qEI fv args = some (g, as)) : target fv.enc (qC args) = some (g, qC as) ∧ okL h as := by
 unfold qEI at e
 split at e
 ·rename_i g' a c
  cases hc : (a.toList.isEmpty && c.toList.isEmpty) with
  | false => rw [hc] at e; cases e
  | true =>
    rw [hc] at e
    cases e
    exact ⟨by simp only [target, SV.enc, fvv, hc, cond_true], ha⟩
 ·rename_i g' first cap
  cases e
  simp only [SV.ok] at hf
  exact ⟨by simp only [target, SV.enc, mI], fM hf.1 (fM ha hf.2)⟩
 ·cases e
def q0L (P : Program) (T : zS) (d : Bool) (f : SV) (args : List SV) (h : SH) (K : SV -> SH -> Tree R) : Tree R := match qEI f args with
 | some (g, as) => qQF P T d g as h K
 | none => .fail
def q09 (P : Program) (T : zS) (d : Bool) (k : Nat) (o : Oper) (env : List SV) (h : SH) (K : SV -> SH -> Tree R) : Tree R := match o.op with
 | .call ⟨.value f, args, _⟩ => q0L P T d (kG env f) (mK env args) h K
 | _ => sop P o env k h K
def q3Z (P : Program) (G : Nat -> Bool) (CI : CIT) : Prop := ∀ {R : Type} (nm : Nm) (f : FuncId) (as : List SV) (h : SH) (K : SV -> SH -> Tree R) (r : R), OkH P h -> okL h as -> (CI R nm f as h K).run = some r ->
 qV0 P G nm f (qC as) (qH h.l) fun v p => ∃ v' h', v = v'.enc ∧ p = qH h'.l ∧ Post P h h' v' ∧ (K v' h').run = some r
def qMT (p : Nat -> Bool) (env : List SV) : List (Nat × SO) -> Bool
 | [] => true
 | (k, _) :: l => (!p k || yX k (qC env)) && qMT p env l
theorem qJB {p : Nat -> Bool} {env : List SV} : ∀ {l : List (Nat × SO)}, qMT p env l = true -> clean p (qC env) (qH l) = true
 | [], _ => rfl
 | (k, o) :: l, h => by
   have h : ((!p k || yX k (qC env)) && qMT p env l) = true := h
   show ((!p k || yX k (qC env)) && clean p (qC env) (qH l)) = true
   rw [Bool.and_eq_true] at h ⊢
   exact ⟨h.1, qJB h.2⟩
section
variable {Γ : Type}
def qZ2 (P : Program) (T : zS) (CI : CIT) (Y : YI Γ) (nm : Nm) (f : SV) (args : List SV) (g : Γ) (env : List SV) (h : SH) (K : Γ -> SV -> SH -> Tree R) : Tree R := match f with
 | .yv => (match jL P Y.yt Y.ys args h with
   | some (y, h1) => .bind (Y.stp g y) fun p => K p.1 (.d .bool p.2) h1
   | none => .fail)
 | f => (match qEI f args with
   | some (t, as) => cond (slT t T).isSome (qQF P T false t as h (K g)) (CI R (qVE nm t) t as h fun v h2 => cond (qMT (qVE nm t).p env h2.l) (K g v h2) .fail)
   | none => .fail)
def q0R (P : Program) (T : zS) (CI : CIT) (Y : YI Γ) (nm : Nm) (o : Oper) (g : Γ) (env : List SV) (h : SH) (K : Γ -> SV -> SH -> Tree R) : Tree R := match o.op with
 | .call ⟨.value f, args, _⟩ => qZ2 P T CI Y nm (kG env f) (mK env args) g env h K
 | _ => sop P o env (zJ nm o.dst) h (K g)
def YOk (P : Program) (G : Nat -> Bool) (w : Wld Γ) (Y : YI Γ) : Prop := ∀ g y g' b, Y.stp g y = some (g', b) -> qHW P G w Yl.l g (pvL Y.ys y) g' b
end
theorem qSC {T : zS} (ht : qVP tab T) {o : Oper} {env : List SV} {K : SV -> SH -> Tree R} (ho : OkH P h) (he : okL h env) (e : (q09 P T true k o env h K).run = some r) :
 ∃ v h', yF P tab k o (qC env) (qH h.l) = .ok v.enc (qH h'.l) ∧ Post P h h' v ∧ (K v h').run = some r := by
 unfold q09 at e
 unfold yF
 split at e
 ·rename_i f args ts hop
  unfold q0L at e
  split at e
  ·rename_i g as hst
   obtain ⟨h1, h2⟩ := qCS (qA4 he f) (eY he args) hst
   obtain ⟨v, h', a1, a2, a3⟩ := qRG ht ho h2 e
   refine ⟨v, h', ?_, a2, a3⟩
   simp only [hop, qV, dY, h1]
   exact a1
  ·cases e
 ·rename_i hne
  obtain ⟨v, h', a1, a2, a3⟩ := qZ0 ho he e
  refine ⟨v, h', ?_, a2, a3⟩
  split
  ·rename_i f args ts hop; exact absurd hop (hne f args ts)
  ·rw [a1]; rfl
end
end Go.Sv
namespace Go.Sv
open Go.Idl
variable {d : Option Tmp} {env : List SV} {h : SH} {o : Oper} {t : Nat} {v : SV}
noncomputable section
variable [Gc]
variable [Yl]
variable {P : Program} {R : Type} {r : R} {tab : fG} {G : Nat -> Bool} {nm : Nm}
omit [Yl] in
theorem holds_mono {Q Q' : List PV -> PHp -> Prop} (hq : ∀ e p, Q e p -> Q' e p) : ∀ {t : PT}, t.holds P G Q -> t.holds P G Q'
 | .fail, h => h.elim
 | .ret e p, h => hq e p h
 | .chk c t, h => ⟨h.1, holds_mono hq h.2⟩
 | .call nm g args ph k, h => by
   obtain ⟨R, h1, h2⟩ := h
   exact ⟨R, h1, fun v p hr => holds_mono hq (h2 v p hr)⟩
 | .rnd _ _ _ _, h => h.elim
omit [Yl] in
theorem q0C (k : Nat) : ∀ (cs : List FV), yX k (cs.map .f) = true
 | [] => by simp [yX]
 | c :: cs => by simp [yX, noK, q0C k cs]
def qYK (k : Nat) : List (Nat × SO) -> Bool
 | [] => true
 | (_, .cells _ _ l) :: r => yX k (qC l) && qYK k r
 | (_, .list _ _ _ _ _ _) :: r => qYK k r
 | (_, .spc _ _) :: r => qYK k r
theorem dA {k : Nat} : ∀ {l : List (Nat × SO)}, qYK k l = true -> rJ k (qH l) = true
 | [], _ => rfl
 | (j, .cells el w l) :: r, h => by
   simp only [qYK, Bool.and_eq_true] at h
   show (yX k (qC l) && rJ k (qH r)) = true
   rw [h.1, dA h.2]; rfl
 | (j, .list el gr g w t xs) :: r, h => by
   simp only [qYK] at h
   show (yX k ((xs.flatMap t.cells).map .f) && rJ k (qH r)) = true
   rw [q0C, dA h]; rfl
 | (j, .spc w x) :: r, h => by
   simp only [qYK] at h
   show (yX k x.enc.cs && rJ k (qH r)) = true
   have : yX k x.enc.cs = true := by
    cases x with
    | map es => exact qSI k _ _
    | iter s pos => rfl
   rw [this, dA h]; rfl
def qBD (env : List SV) (d : Option Tmp) (v : SV) : List SV := match d with
 | some t => xX env t v
 | none => env
theorem j4 (env : List SV) (t : Nat) (v : SV) : qC (xX env t v) = xX (qC env) t v.enc := by
 rw [zX, zX, zB, zB, List.map_set]
theorem mJ (env : List SV) (d : Option Tmp) (v : SV) : qC (qBD env d v) = xD (qC env) d v.enc := by
 cases d with
 | none => rfl
 | some t => exact j4 env t v
omit [Yl] in
theorem jZ (he : okL h env) (hv : v.ok h) : okL h (xX env t v) := by
 rw [zX]
 exact yT.2 fun x hx => by
  rcases List.mem_or_eq_of_mem_set hx with q | q
  ·exact yT.1 he x q
  ·rw [q]; exact hv
omit [Yl] in
theorem sM (he : okL h env) (hv : v.ok h) : okL h (qBD env d v) := by
 cases d with
 | none => exact he
 | some t => exact jZ he hv
omit [Yl] in
theorem uT (env : List SV) (t : Nat) (v : SV) : (xX env t v).length = env.length := by rw [zX, List.length_set]
omit [Yl] in
theorem qZV (env : List SV) (d : Option Tmp) (v : SV) : (qBD env d v).length = env.length := by
 cases d with
 | none => rfl
 | some t => exact uT env t v
theorem qOR {w : SV} (h1 : zU env t = some v) (h2 : w.enc = v.enc) : qC (xX env t w) = qC env := by
 rw [j4, zX]
 rw [qJ] at h1
 apply List.ext_getElem?
 intro i
 rw [List.getElem?_set]
 by_cases e : t = i
 ·subst e
  rw [if_pos rfl, zB, List.getElem?_map, h1, List.length_map, if_pos (List.getElem?_eq_some_iff.1 h1).1, h2]
  rfl
 ·rw [if_neg e]
def qG (b w : Bool) : Bool := cond w b (!b)
omit [Yl] in
theorem qOU (b w : Bool) : qG b w = (b == w) := by cases b <;> cases w <;> rfl
def qEN (ds : List (Option Tmp)) (o : Oper) (env : List SV) (Y N : List SV -> Tree R) : Tree R := match o.guard with
 | none => Y env
 | some (j, w) => (match qQ5 ds j with
   | none => N env
   | some t => (match zU env t with
     | none => .fail
     | some v => (match asB v with
       | some b => .ite (qG b w) (Y (xX env t (.c (.bool w)))) (N (xX env t (.c (.bool (!w)))))
       | none => (match v with
         | .tup [] => N env
         | _ => .fail))))
theorem qCL {ds : List (Option Tmp)} {Y N : List SV -> Tree R} (he : okL h env) (e : (qEN ds o env Y N).run = some r) :
 ∃ env', qC env' = qC env ∧ okL h env' ∧ env'.length = env.length ∧ ((bN ds o (qC env) = some true ∧ (Y env').run = some r) ∨ (bN ds o (qC env) = some false ∧ (N env').run = some r)) := by
 unfold qEN at e
 unfold bN
 split at e
 ·rename_i hg
  exact ⟨env, rfl, he, rfl, .inl ⟨by rw [hg], e⟩⟩
 ·rename_i j w hg
  rw [hg]
  simp only
  split at e
  ·rename_i hd
   exact ⟨env, rfl, he, rfl, .inr ⟨by rw [hd]; rfl, e⟩⟩
  ·rename_i t hd
   rw [hd]
   simp only [qK2, xJ]
   split at e
   ·cases e
   ·rename_i v hv
    rw [hv]
    split at e
    ·rename_i b hb
     have hbe := qAA hb
     rcases run_ite e with ⟨z, e1⟩ | ⟨z, e1⟩
     ·rw [qOU] at z
      have : b = w := by simpa using z
      subst this
      refine ⟨_, qOR hv (by rw [hbe]; simp [SV.enc]), jZ he (by simp [SV.ok]), uT _ _ _, .inl ⟨?_, e1⟩⟩
      simp only [Option.map_some, hbe, qAJ, z]
     ·rw [qOU] at z
      have : b = !w := by cases b <;> cases w <;> first | rfl | cases z
      refine ⟨_, qOR hv (by rw [hbe, this]; simp [SV.enc]), jZ he (by simp [SV.ok]), uT _ _ _, .inr ⟨?_, e1⟩⟩
      simp only [Option.map_some, hbe, qAJ, z]
    ·split at e
     ·exact ⟨env, rfl, he, rfl, .inr ⟨by simp only [Option.map_some, SV.enc, qC]; exact qPM, e⟩⟩
     ·cases e
def qDT (nm : Nm) (k : Nat) (env : List SV) (h : SH) : Bool := inP nm k && (yX k (qC env) && qYK k h.l)
section
variable {Γ : Type}
def qWS (P : Program) (T : zS) (CI : CIT) (Y : YI Γ) (nm : Nm) (ds : List (Option Tmp)) : List Oper -> Γ -> List SV -> SH -> (Γ -> List SV -> SH -> Tree R) -> Tree R
 | [], g, env, h, K => K g env h
 | o :: l, g, env, h, K => qEN ds o env
    (fun env => cond (cond (needs o.op) (qDT nm (zJ nm o.dst) env h) true) (q0R P T CI Y nm o g env h fun g v h' => qWS P T CI Y nm ds l g (qBD env o.dst v) h' K) .fail)
    (fun env => qWS P T CI Y nm ds l g (qBD env o.dst (.tup [])) h K)
end
def Ends (P : Program) (w : List (Option Tmp)) (env : List SV) (h : SH) (env' : List SV) (h' : SH) : Prop :=
 okL h' env' ∧ OkH P h' ∧ Keep h h' ∧ (∀ i, some i ∉ w -> zU (qC env') i = zU (qC env) i) ∧ env'.length = env.length
theorem q3B {i : Nat} (h : d ≠ some i) : zU (qC (qBD env d v)) i = zU (qC env) i := by
 cases d with
 | none => rfl
 | some t =>
   show zU (qC (xX env t v)) i = _
   rw [j4, zX, qJ, qJ, List.getElem?_set, if_neg (fun e => h (by rw [e]))]
theorem Ends.step {w : List (Option Tmp)} {env0 : List SV} {h1 : SH} {env' : List SV} {h' : SH} (he : qC env = qC env0) (hl : env.length = env0.length) (hk : Keep h h1) (x : Ends P w (qBD env o.dst v) h1 env' h') : Ends P (o.dst :: w) env0 h env' h' :=
 ⟨x.1, x.2.1, hk.trans x.2.2.1, fun i hi => by
   rw [List.mem_cons, not_or] at hi
   rw [x.2.2.2.1 i hi.2, q3B (fun e => hi.1 e.symm), he], by rw [x.2.2.2.2, qZV, hl]⟩
omit [Yl] in
theorem xS {Γ : Type} {w : Wld Γ} {Q Q' : Γ -> List PV -> PHp -> Prop} (hq : ∀ g e p, Q g e p -> Q' g e p) : ∀ {t : PT} {g : Γ}, t.holdsY P G w Q g -> t.holdsY P G w Q' g
 | .fail, _, h => h.elim
 | .ret e p, g, h => hq g e p h
 | .chk c t, g, h => ⟨h.1, xS hq h.2⟩
 | .call nm f args ph k, g, h => by
   obtain ⟨R, h1, h2⟩ := h
   exact ⟨R, h1, fun v p hr => xS hq (h2 v p hr)⟩
 | .rnd l args ph k, g, h => by
   obtain ⟨fargs, tys, ph1, g', b, h1, h2, h3⟩ := h
   exact ⟨fargs, tys, ph1, g', b, h1, h2, xS hq h3⟩
def qW7 (T : zS) (f : FuncId) : Bool := !(slT f T).isSome
theorem qEM {Γ : Type} {w : Wld Γ} {T : zS} {CI : CIT} {Y : YI Γ} (ht : qVP tab T) (hci : q3Z P G CI) (hy : YOk P G w Y) {ds : List (Option Tmp)} : ∀ {l : List Oper} {g : Γ} {env : List SV} {h : SH} {K : Γ -> List SV -> SH -> Tree R}, OkH P h -> okL h env -> (qWS P T CI Y nm ds l g env h K).run = some r ->
 (pops P tab (qW7 T) nm ds l (qC env) (qH h.l)).holdsY P G w (fun g e p => ∃ env' h', e = qC env' ∧ p = qH h'.l ∧ Ends P (l.map (·.dst)) env h env' h' ∧ (K g env' h').run = some r) g
 | [], g, env, h, K, ho, he, e => ⟨env, h, rfl, rfl, ⟨he, ho, .refl _, fun _ _ => rfl, rfl⟩, e⟩
 | o :: l, g, env, h, K, ho, he, e => by
   unfold qWS at e
   obtain ⟨env1, q1, q2, q3, q4⟩ := qCL he e
   rw [qUF]
   rcases q4 with ⟨hw, e1⟩ | ⟨hw, e1⟩
   ·rw [hw, qYG]
    obtain ⟨c, e2⟩ := qO e1
    have next : ∀ {g' : Γ} {v : SV} {h' : SH}, Post P h h' v -> (qWS P T CI Y nm ds l g' (qBD env1 o.dst v) h' K).run = some r -> (pops P tab (qW7 T) nm ds l (xD (qC env) o.dst v.enc) (qH h'.l)).holdsY P G w (fun g e p => ∃ env' h', e = qC env' ∧ p = qH h'.l ∧ Ends P ((o :: l).map (·.dst)) env h env' h' ∧ (K g env' h').run = some r) g' := fun {g' v h'} a2 a3 => by
     have ih := qEM ht hci hy a2.2.1 (sM (d := o.dst) (qQ a2.1 q2) a2.2.2) a3
     rw [mJ, q1] at ih
     exact xS (fun g e p ⟨env', h', b1, b2, b3, b4⟩ => ⟨env', h', b1, b2, Ends.step q1 q3 a2.1 b3, b4⟩) ih
    have chk : ∀ {g' : Γ} {v : SV} {h' : SH}, Post P h h' v -> (qWS P T CI Y nm ds l g' (qBD env1 o.dst v) h' K).run = some r -> (q31 (needs o.op) (zJ nm o.dst) nm (qC env) (qH h.l) (pops P tab (qW7 T) nm ds l (xD (qC env) o.dst v.enc) (qH h'.l))).holdsY P G w (fun g e p => ∃ env' h', e = qC env' ∧ p = qH h'.l ∧ Ends P ((o :: l).map (·.dst)) env h env' h' ∧ (K g env' h').run = some r) g' := fun {g' v h'} a2 a3 => by
     unfold q31
     cases hn : needs o.op with
     | false => exact next a2 a3
     | true =>
       rw [hn] at c
       simp only [cond_true] at c ⊢
       refine ⟨?_, next a2 a3⟩
       unfold qDT at c
       rw [q1] at c
       simp only [Bool.and_eq_true] at c
       unfold fresh
       rw [c.1, c.2.1, dA c.2.2]; rfl
    unfold q0R at e2
    split at e2
    ·rename_i f args ts hop
     have hpe : fO P tab (qW7 T) (zJ nm o.dst) o (qC env) (qH h.l) = nP P tab (qW7 T) (kG env1 f).enc (qC (mK env1 args)) (qH h.l) := by
      unfold fO
      rw [<- q1]
      simp only [hop, qV, dY]
     rw [hpe]
     have hfv := qA4 q2 f
     have has := eY q2 args
     revert e2 hfv
     generalize kG env1 f = fv
     intro e2 hfv
     unfold qZ2 at e2
     split at e2
     ·split at e2
      ·rename_i y h1 hd
       obtain ⟨p, hp, e3⟩ := run_bind e2
       obtain ⟨g', b⟩ := p
       obtain ⟨ys, a1, a2, a3, a4⟩ := bI ho has hd
       have : nP P tab (qW7 T) (SV.enc .yv) (qC (mK env1 args)) (qH h.l) = .rnd Yl.l (qC (mK env1 args)) (qH h.l) := by
        simp only [SV.enc, nP]
       rw [this, qUG]
       refine ⟨ys, Y.yt, qH h1.l, g', b, a1, ?_, ?_⟩
       ·rw [a2]; exact hy _ _ _ _ hp
       ·have := next (v := .d .bool b) ⟨a3, a4, by simp [SV.ok]⟩ e3
        simpa [SV.enc, Ty.fv, fvv] using this
      ·cases e2
     ·split at e2
      ·rename_i t as hst
       obtain ⟨h1, h2⟩ := qCS hfv has hst
       rw [qHM h1]
       unfold bU qW7
       cases hsl : (slT t T).isSome with
       | true =>
         rw [hsl] at e2
         simp only [cond_true] at e2
         obtain ⟨v, h', a1, a2, a3⟩ := qY5 ht ho h2 e2
         simp only [Bool.not_true, cond_false]
         rw [a1, qOE]
         exact chk a2 a3
       | false =>
         rw [hsl] at e2
         simp only [cond_false] at e2
         simp only [Bool.not_false, cond_true]
         rw [qP1]
         refine ⟨_, hci _ _ _ _ _ _ ho h2 e2, ?_⟩
         rintro v p ⟨v', h', rfl, rfl, a2, a3⟩
         obtain ⟨c2, a4⟩ := qO a3
         have := qJB c2
         rw [q1] at this
         exact ⟨this, next a2 a4⟩
      ·cases e2
    ·rename_i hne
     obtain ⟨v, h', a1, a2, a3⟩ := qZ0 ho q2 e2
     rw [q1] at a1
     have hpe : fO P tab (qW7 T) (zJ nm o.dst) o (qC env) (qH h.l) = .ok v.enc (qH h'.l) := by
      unfold fO
      split
      ·rename_i f args ts hop; exact absurd hop (hne f args ts)
      ·rw [a1]; rfl
     rw [hpe, qOE]
     exact chk a2 a3
   ·rw [hw, qR8]
    have ih := qEM ht hci hy ho (sM (d := o.dst) (v := .tup []) q2 (by simp [SV.ok, okL])) e1
    rw [mJ, q1] at ih
    simp only [SV.enc, qC] at ih
    exact xS (fun g e p ⟨env', h', b1, b2, b3, b4⟩ => ⟨env', h', b1, b2, Ends.step q1 q3 (.refl _) b3, b4⟩) ih
def qWH (P : Program) (T : zS) (nm : Nm) (ds : List (Option Tmp)) (b : Array Nat) (env0 : List SV) : Nat -> List Oper -> List SV -> SH -> List (Nat × List Nat) -> List (Nat × List Nat) -> List (Nat × Nat) -> List (Nat × PV) -> (List SV -> SH -> Tree R) -> Tree R
 | i, [], env, h, E, F, N, V, K => cond (dK b (qC env0) E F N V) (K env h) .fail
 | i, o :: l, env, h, E, F, N, V, K => qEN ds o env
    (fun env => cond (cond (needs o.op) (inP nm (zJ nm o.dst) && qYK (zJ nm o.dst) h.l) true) (q09 P T true (zJ nm o.dst) o env h fun v h' =>
      qWH P T nm ds b env0 (i + 1) l (qBD env o.dst v) h' (cond (zC o) ((i, wlT nm o (qC env)) :: E) E) (cond (zC o) F ((i, dlT o (qC env)) :: F)) (cond (needs o.op) ((i, zJ nm o.dst) :: N) N) ((i, v.enc) :: V) K) .fail)
    (fun env => qWH P T nm ds b env0 (i + 1) l (qBD env o.dst (.tup [])) h E F N ((i, .tup []) :: V) K)
theorem qEX {T : zS} (ht : qVP tab T) {ds : List (Option Tmp)} {b : Array Nat} {env0 : List SV} : ∀ {l : List Oper} {i : Nat} {env : List SV} {h : SH} {E F : List (Nat × List Nat)} {N : List (Nat × Nat)} {V : List (Nat × PV)} {K : List SV -> SH -> Tree R}, OkH P h -> okL h env -> (qWH P T nm ds b env0 i l env h E F N V K).run = some r ->
 (qGT P tab nm ds b (qC env0) i l (qC env) (qH h.l) E F N V).holds P G fun e p => ∃ env' h', e = qC env' ∧ p = qH h'.l ∧ Ends P (l.map (·.dst)) env h env' h' ∧ (K env' h').run = some r
 | [], i, env, h, E, F, N, V, K, ho, he, e => by
   unfold qWH at e
   obtain ⟨c, e1⟩ := qO e
   rw [qXH]
   exact ⟨c, env, h, rfl, rfl, ⟨he, ho, .refl _, fun _ _ => rfl, rfl⟩, e1⟩
 | o :: l, i, env, h, E, F, N, V, K, ho, he, e => by
   unfold qWH at e
   obtain ⟨env1, q1, q2, q3, q4⟩ := qCL he e
   rw [qSW]
   rcases q4 with ⟨hw, e1⟩ | ⟨hw, e1⟩
   ·rw [hw, qT0]
    obtain ⟨c, e2⟩ := qO e1
    obtain ⟨v, h', a1, a2, a3⟩ := qSC ht ho q2 e2
    rw [q1] at a1
    rw [a1, qUO]
    have ih := qEX ht a2.2.1 (sM (d := o.dst) (qQ a2.1 q2) a2.2.2) a3
    rw [mJ, q1] at ih
    have ih2 := holds_mono (Q' := fun e p => ∃ env' h', e = qC env' ∧ p = qH h'.l ∧ Ends P ((o :: l).map (·.dst)) env h env' h' ∧ (K env' h').run = some r) (fun e p ⟨env', h', b1, b2, b3, b4⟩ => ⟨env', h', b1, b2, Ends.step q1 q3 a2.1 b3, b4⟩) ih
    unfold qWF
    cases hn : needs o.op with
    | false => rw [hn] at ih2; exact ih2
    | true =>
      rw [hn] at c ih2
      simp only [cond_true] at c ⊢
      refine ⟨?_, ih2⟩
      rw [Bool.and_eq_true] at c
      rw [c.1, dA c.2]; rfl
   ·rw [hw, qQ0]
    have ih := qEX ht ho (sM (d := o.dst) (v := .tup []) q2 (by simp [SV.ok, okL])) e1
    rw [mJ, q1] at ih
    simp only [SV.enc, qC] at ih
    exact holds_mono (fun e p ⟨env', h', b1, b2, b3, b4⟩ => ⟨env', h', b1, b2, Ends.step q1 q3 (.refl _) b3, b4⟩) ih
def qMX (ops : Array Oper) : Bool := match ops[ops.size - 1]? with
 | some o => (match o.op with
   | .call ⟨.value _, _, _⟩ => (List.range (ops.size - 1)).all fun i => wO (Region.before ops) i (ops.size - 1)
   | _ => false)
 | none => false
def q7K {Γ : Type} (P : Program) (G : Nat -> Bool) (T : zS) (CI : CIT) (Y : YI Γ) (nm : Nm) (ops : Array Oper) (d : Bool) (g : Γ) (env : List SV) (h : SH) (K : Γ -> List SV -> SH -> Tree R) : Tree R :=
 cond (gF G ops) (cond d (cond (wT ops && wX ops) (cond (qMX ops)
  (qWH P T nm (ops.toList.map (·.dst)) (Region.before ops) env 0 (ops.toList.take (ops.size - 1)) env h [] [] [] [] fun env h => qWS P T CI Y nm (ops.toList.map (·.dst)) (ops.toList.drop (ops.size - 1)) g env h K)
  (qWH P T nm (ops.toList.map (·.dst)) (Region.before ops) env 0 ops.toList env h [] [] [] [] (K g))) .fail) (qWS P T CI Y nm (ops.toList.map (·.dst)) ops.toList g env h K)) .fail
variable {nat : xA} {good : FuncId -> Bool} {rd : Bool}
theorem q1Y {Γ : Type} {w : Wld Γ} {T : zS} {CI : CIT} {Y : YI Γ} (s : PSet P good nat G tab) (ht : qVP tab T) (hci : q3Z P G CI) (hy : YOk P G w Y) {id : Nat} {ops : Array Oper} {d : Bool} {g : Γ} {K : Γ -> List SV -> SH -> Tree R} (ho : OkH P h) (he : okL h env) (e : (q7K P G T CI Y nm ops d g env h K).run = some r) :
 zG P G rd nm w (.region id ops d) g (qC env) (qH h.l) fun x g' pe ph => x = .normal ∧ ∃ env' h', pe = qC env' ∧ ph = qH h'.l ∧ Ends P (ops.toList.map (·.dst)) env h env' h' ∧ (K g' env' h').run = some r := by
 unfold q7K at e
 obtain ⟨c1, e1⟩ := qO e
 cases d with
 | true =>
   obtain ⟨c2, e2⟩ := qO (show (cond (wT ops && wX ops) (cond (qMX ops)
    (qWH P T nm (ops.toList.map (·.dst)) (Region.before ops) env 0 (ops.toList.take (ops.size - 1)) env h [] [] [] [] fun env h => qWS P T CI Y nm (ops.toList.map (·.dst)) (ops.toList.drop (ops.size - 1)) g env h K)
    (qWH P T nm (ops.toList.map (·.dst)) (Region.before ops) env 0 ops.toList env h [] [] [] [] (K g))) .fail : Tree R).run = some r from e1)
   rw [Bool.and_eq_true] at c2
   cases hlo : qMX ops with
   | false =>
     rw [hlo] at e2
     have e2 : (qWH P T nm (ops.toList.map (·.dst)) (Region.before ops) env 0 ops.toList env h [] [] [] [] (K g)).run = some r := e2
     refine (zG.of (s.drwZ (Q := fun x pe ph => x = .normal ∧ ∃ env' h', pe = qC env' ∧ ph = qH h'.l ∧ Ends P (ops.toList.map (·.dst)) env h env' h' ∧ (K g env' h').run = some r) c1 c2.1 c2.2 rfl rfl ?_)).mono ?_
     ·exact holds_mono (fun e p hq => ⟨rfl, hq⟩) (qEX (G := G) ht ho he e2)
     ·rintro x g' pe ph ⟨rfl, hq⟩
      exact hq
   | true =>
     rw [hlo] at e2
     have e2 : (qWH P T nm (ops.toList.map (·.dst)) (Region.before ops) env 0 (ops.toList.take (ops.size - 1)) env h [] [] [] [] fun env h => qWS P T CI Y nm (ops.toList.map (·.dst)) (ops.toList.drop (ops.size - 1)) g env h K).run = some r := e2
     unfold qMX at hlo
     split at hlo
     ·rename_i o hop
      split at hlo
      ·have hlt := (Array.getElem?_eq_some_iff.1 hop).1
       have hdrop : ops.toList.drop (ops.size - 1) = [o] := by
        have h1 : ops.toList[ops.size - 1]? = some o := by simpa using hop
        obtain ⟨h2, h3⟩ := List.getElem?_eq_some_iff.1 h1
        rw [List.drop_eq_getElem_cons h2, h3, List.drop_eq_nil_of_le (by simp; omega)]
       have hmap : (ops.toList.take (ops.size - 1)).map (·.dst) ++ [o.dst] = ops.toList.map (·.dst) := by
        rw [show [o.dst] = [o].map (·.dst) from rfl, <- List.map_append, <- hdrop, List.take_append_drop]
       refine s.drwY (inl := qW7 T) (n0 := ops.size - 1) c1 c2.1 c2.2 hop (by omega) (fun i hi => List.all_eq_true.1 hlo i (List.mem_range.2 hi)) ?_
       refine holds_mono (fun e p hq => ?_) (qEX (G := G) ht ho he e2)
       obtain ⟨env1, h1, rfl, rfl, a3, a4⟩ := hq
       rw [hdrop] at a4
       refine xS (fun g2 e p hq => ?_) (qEM (G := G) ht hci hy a3.2.1 a3.1 a4)
       obtain ⟨env2, h2, rfl, rfl, b3, b4⟩ := hq
       refine ⟨rfl, env2, h2, rfl, rfl, ⟨b3.1, b3.2.1, a3.2.2.1.trans b3.2.2.1, fun i hi => ?_, b3.2.2.2.2.trans a3.2.2.2.2⟩, b4⟩
       rw [<- hmap, List.mem_append, not_or] at hi
       exact (b3.2.2.2.1 i hi.2).trans (a3.2.2.2.1 i hi.1)
      ·cases hlo
     ·cases hlo
 | false => exact s.regY c1 (xS (fun g e p hq => ⟨rfl, hq⟩) (qEM (G := G) ht hci hy ho he e1))
end
end Go.Sv
