/- A symbolic run, part one. Conditions: none. -/
import Derived.Test.YtpdlblofcdcikaaGreatDoorPur19
set_option linter.all false
namespace Go.Sv
open Go.Idl
variable {j n off : Nat}
class Yl where
 l : Nat
variable [Gc]
variable {P : Program} {Z Z' : Nat -> Prop} {H : IH} {M : Nat -> Option (Nat × PO)}
inductive Ty where
 | int (k : IntKind)
 | bool
 | str
 | unit
 | list (el : TypeId) (t : Ty)
 | pair (a b : Ty)
 | raw deriving DecidableEq
@[reducible] def Ty.sem : Ty -> Type
  | .int _ => Int
  | .bool => Bool
  | .str => ByteArray
  | .unit => Unit
  | .list _ t => List t.sem
  | .pair a b => a.sem × b.sem
  | .raw => List (Value × Value)
def bW (l : List (Value × Value)) : List FV := List.flatMap (fun p => [.v p.1, .v p.2]) l
def Ty.cells : (t : Ty) -> t.sem -> List FV
 | .int k, x => [.v (.int k x)]
 | .bool, x => [.v (.bool x)]
 | .str, x => [.v (.string x)]
 | .unit, _ => []
 | .list el t, xs => [.l el (List.length xs) (List.flatMap t.cells xs)]
 | .pair a b, x => a.cells x.1 ++ b.cells x.2
 | .raw, xs => [.l 1000000001 (List.length xs) (bW xs)]
def Ty.w : Ty -> Nat
 | .int _ | .bool | .str | .list _ _ | .raw => 1
 | .unit => 0
 | .pair a b => a.w + b.w
def Ty.one : Ty -> Bool
 | .unit => false
 | .pair _ _ => false
 | _ => true
def Ty.fv : (t : Ty) -> t.sem -> FV
 | .int k, x => .v (.int k x)
 | .bool, x => .v (.bool x)
 | .str, x => .v (.string x)
 | .list el t, xs => .l el (List.length xs) (List.flatMap t.cells xs)
 | .raw, xs => .l 1000000001 (List.length xs) (bW xs)
 | _, _ => .v undef
theorem Ty.cells_one : ∀ {t : Ty} {x : t.sem}, t.one = true -> t.cells x = [t.fv x]
 | .int _, _, _ => rfl
 | .bool, _, _ => rfl
 | .str, _, _ => rfl
 | .list _ _, _, _ => rfl
 | .raw, _, _ => rfl
 | .unit, _, h => by cases h
 | .pair _ _, _, h => by cases h
theorem Ty.cells_len : ∀ (t : Ty) (x : t.sem), (t.cells x).length = t.w
 | .int _, _ => rfl
 | .bool, _ => rfl
 | .str, _ => rfl
 | .list _ _, _ => rfl
 | .raw, _ => rfl
 | .unit, _ => rfl
 | .pair a b, x => by
   show (a.cells x.1 ++ b.cells x.2).length = a.w + b.w;rw [List.length_append, a.cells_len, b.cells_len]
theorem xW {t : Ty} : ∀ (xs : List t.sem), (xs.flatMap t.cells).length = xs.length * t.w
 | [] => by simp
 | x :: xs => by rw [List.flatMap_cons, List.length_append, t.cells_len, xW xs, List.length_cons, Nat.succ_mul, Nat.add_comm]
theorem uR {t : Ty} : ∀ (xs : List t.sem) (j : Nat), (xs.flatMap t.cells).drop (j * t.w) = (xs.drop j).flatMap t.cells
 | xs, 0 => by simp
 | [], j + 1 => by simp
 | x :: xs, j + 1 => by
   rw [List.flatMap_cons, List.drop_succ_cons, <- uR xs j, Nat.succ_mul, Nat.add_comm, <- List.drop_drop]
   congr 1
   rw [List.drop_append_of_le_length (by rw [t.cells_len]; exact Nat.le_refl _), List.drop_of_length_le (by rw [t.cells_len]; exact Nat.le_refl _), List.nil_append]
theorem uY {t : Ty} : ∀ (xs : List t.sem) (j : Nat), (xs.flatMap t.cells).take (j * t.w) = (xs.take j).flatMap t.cells
 | xs, 0 => by simp
 | [], j + 1 => by simp
 | x :: xs, j + 1 => by
   rw [List.flatMap_cons, List.take_succ_cons, List.flatMap_cons, <- uY xs j, Nat.succ_mul, Nat.add_comm, List.take_append, t.cells_len, Nat.add_sub_cancel_left, List.take_of_length_le (by rw [t.cells_len]; omega)]
theorem qV3 {t : Ty} {xs : List t.sem} {x : t.sem} (h : xs[j]? = some x) : ((xs.flatMap t.cells).drop (j * t.w)).take t.w = t.cells x := by
 rw [uR]
 have hj := (List.getElem?_eq_some_iff.1 h)
 obtain ⟨hl, hx⟩ := hj;rw [List.drop_eq_getElem_cons hl, hx, List.flatMap_cons, List.take_append_of_le_length (by rw [t.cells_len]; exact Nat.le_refl _), List.take_of_length_le (by rw [t.cells_len]; exact Nat.le_refl _)]
theorem qKB {t : Ty} {xs : List t.sem} {x : t.sem} (h : xs[j]? = some x) (hn : off + n <= t.w) : ((xs.flatMap t.cells).drop (j * t.w + off)).take n = ((t.cells x).drop off).take n := by
 rw [<- qV3 h, List.drop_take, List.drop_drop, List.take_take, Nat.min_eq_left (by omega)]
theorem flat_get {t : Ty} {xs : List t.sem} {x : t.sem} (h : xs[j]? = some x) (hn : off < t.w) : (xs.flatMap t.cells)[j * t.w + off]? = (t.cells x)[off]? := by
 rw [<- qV3 h, List.getElem?_take, if_pos hn, List.getElem?_drop]
theorem qLD {t : Ty} {xs : List t.sem} {x : t.sem} (h : xs[j]? = some x) (hn : off + n <= t.w) : j * t.w + off + n <= (xs.flatMap t.cells).length := by
 have hl := (List.getElem?_eq_some_iff.1 h).1;rw [xW];have : (j + 1) * t.w <= xs.length * t.w := Nat.mul_le_mul_right _ hl;rw [Nat.succ_mul] at this;omega
theorem qHB : ∀ (xs ys : List (Value × Value)), bW xs = bW ys -> xs = ys
 | [], [], _ => rfl
 | [], y :: ys, h => by cases h
 | x :: xs, [], h => by cases h
 | x :: xs, y :: ys, h => by
   have h : FV.v x.1 :: FV.v x.2 :: bW xs = FV.v y.1 :: FV.v y.2 :: bW ys := h;injection h with h1 h2;injection h2 with h2 h3;injection h1 with h1;injection h2 with h2;rw [qHB xs ys h3, Prod.ext h1 h2]
theorem qB5 : ∀ (xs : List (Value × Value)), (bW xs).length = 2 * xs.length
 | [] => rfl
 | x :: xs => by
   show (bW xs).length + 2 = _;rw [qB5 xs, List.length_cons]; omega
theorem qOL : ∀ (xs ys : List (Value × Value)) (vs : List Value), FRL Z H (bW xs) vs -> FRL Z' H (bW ys) vs -> xs = ys
 | [], [], _, _, _ => rfl
 | [], y :: ys, vs, a, b => by have := a.len; have := b.len; simp [bW] at *; omega
 | x :: xs, [], vs, a, b => by have := a.len; have := b.len; simp [bW] at *; omega
 | x :: xs, y :: ys, vs, a, b => by
   have a : FRL Z H (FV.v x.1 :: FV.v x.2 :: bW xs) vs := a;have b : FRL Z' H (FV.v y.1 :: FV.v y.2 :: bW ys) vs := b;obtain ⟨v, vs', rfl, a1, a2⟩ := a.uncons;obtain ⟨v', vs2, e, b1, b2⟩ := b.uncons;cases e;obtain ⟨w, vs3, rfl, a3, a4⟩ := a2.uncons;obtain ⟨w', vs4, e, b3, b4⟩ := b2.uncons;cases e;have e1 := (qRP a1).symm.trans (qRP b1);have e2 := (qRP a3).symm.trans (qRP b3);rw [qOL xs ys _ a4 b4, Prod.ext e1 e2]
theorem Ty.inj : ∀ (t : Ty) (x y : t.sem), t.cells x = t.cells y -> x = y
 | .int _, x, y, h => by injection h with h; injection h with h; injection h
 | .bool, x, y, h => by injection h with h; injection h with h; injection h
 | .str, x, y, h => by injection h with h; injection h with h; injection h
 | .unit, _, _, _ => rfl
 | .raw, xs, ys, h => by
   injection h with h;injection h with _ h1 h2;exact qHB _ _ h2
 | .pair a b, x, y, h => by
   have := List.append_inj (show a.cells x.1 ++ b.cells x.2 = a.cells y.1 ++ b.cells y.2 from h) (by rw [a.cells_len, a.cells_len]);exact Prod.ext (a.inj _ _ this.1) (b.inj _ _ this.2)
 | .list el t, xs, ys, h => by
   injection h with h;injection h with _ h1 h2;exact go t xs ys h1 h2
where
 go (t : Ty) : ∀ (xs ys : List t.sem), xs.length = ys.length -> xs.flatMap t.cells = ys.flatMap t.cells -> xs = ys
 | [], [], _, _ => rfl
 | [], y :: ys, e, h => by cases e
 | x :: xs, [], e, h => by cases e
 | x :: xs, y :: ys, e, h => by
   rw [List.flatMap_cons, List.flatMap_cons] at h;have := List.append_inj h (by rw [t.cells_len, t.cells_len]);rw [t.inj x y this.1, go t xs ys (by simpa using e) this.2]
theorem Ty.uniq : ∀ (t : Ty) {x y : t.sem} {vs : List Value}, FRL Z H (t.cells x) vs -> FRL Z' H (t.cells y) vs -> x = y
 | .int k, x, y, vs, a, b => by
   obtain ⟨v, vs', rfl, a1, _⟩ := a.uncons;obtain ⟨v', vs2, e, b1, _⟩ := b.uncons;cases e;have := (qRP a1).symm.trans (qRP b1);injection this
 | .bool, x, y, vs, a, b => by
   obtain ⟨v, vs', rfl, a1, _⟩ := a.uncons;obtain ⟨v', vs2, e, b1, _⟩ := b.uncons;cases e;have := (qRP a1).symm.trans (qRP b1);injection this
 | .str, x, y, vs, a, b => by
   obtain ⟨v, vs', rfl, a1, _⟩ := a.uncons;obtain ⟨v', vs2, e, b1, _⟩ := b.uncons;cases e;have := (qRP a1).symm.trans (qRP b1);injection this
 | .unit, _, _, _, _, _ => rfl
 | .raw, xs, ys, vs, a, b => by
   obtain ⟨v, vs', rfl, a1, _⟩ := a.uncons;obtain ⟨v', vs2, e, b1, _⟩ := b.uncons;cases e;obtain ⟨h1, ws, ws', h2, h3, h4⟩ := qBC a1 b1;have := h4 (by rw [qB5, qB5, h1]);subst this;exact qOL xs ys ws h2 h3
 | .pair s t, x, y, vs, a, b => by
   obtain ⟨a1, a2⟩ := FRL.split (xs := s.cells x.1) (ys := t.cells x.2) a;obtain ⟨b1, b2⟩ := FRL.split (xs := s.cells y.1) (ys := t.cells y.2) b;rw [s.cells_len] at a1 a2 b1 b2;exact Prod.ext (s.uniq a1 b1) (t.uniq a2 b2)
 | .list el t, xs, ys, vs, a, b => by
   obtain ⟨v, vs', rfl, a1, _⟩ := a.uncons;obtain ⟨v', vs2, e, b1, _⟩ := b.uncons;cases e;obtain ⟨h1, ws, ws', h2, h3, h4⟩ := qBC a1 b1;have := h4 (by rw [xW, xW, h1]);subst this;exact go t xs ys ws h1 h2 h3
where
 go (t : Ty) : ∀ (xs ys : List t.sem) (vs : List Value), xs.length = ys.length -> FRL Z H (xs.flatMap t.cells) vs -> FRL Z' H (ys.flatMap t.cells) vs -> xs = ys
 | [], [], _, _, _, _ => rfl
 | [], y :: ys, vs, e, a, b => by cases e
 | x :: xs, [], vs, e, a, b => by cases e
 | x :: xs, y :: ys, vs, e, a, b => by
   rw [List.flatMap_cons] at a b;obtain ⟨a1, a2⟩ := a.split;obtain ⟨b1, b2⟩ := b.split;rw [t.cells_len] at a1 a2 b1 b2;rw [t.uniq a1 b1, go t xs ys _ (by simpa using e) a2 b2]
def Ty.pv (t : Ty) (x : t.sem) : PV := cond t.one (.f (t.fv x)) (.agg ((t.cells x).map .f))
def Ty.en (t : Ty) : PEn t.sem := ⟨t.pv, fun x y h => by
 unfold Ty.pv at h
 cases ht : t.one with
 | true =>
   rw [ht] at h;injection h with h;exact t.inj x y (by rw [Ty.cells_one ht, Ty.cells_one ht, h])
 | false =>
   rw [ht] at h;injection h with h
   exact t.inj x y (q17 _ _ h), fun P Z Z' H x y v a b => by
 unfold Ty.pv at a b
 cases ht : t.one with
 | true =>
   rw [ht] at a b
   cases a with
   | f a => cases b with
     | f b => exact t.uniq (vs := [v]) (by rw [Ty.cells_one ht]; exact .cons a ⟨rfl, fun i x v h => by simp at h⟩) (by rw [Ty.cells_one ht]; exact .cons b ⟨rfl, fun i x v h => by simp at h⟩)
 | false =>
   rw [ht] at a b;obtain ⟨vs, rfl, h1⟩ := VR.aggL a;obtain ⟨vs', e, h2⟩ := VR.aggL b;cases e
   exact t.uniq (qA5 h1) (qA5 h2)⟩
@[reducible] def TyL : List Ty -> Type
  | [] => Unit
  | [t] => t.sem
  | t :: u :: ts => t.sem × TyL (u :: ts)
def pvL : (ts : List Ty) -> TyL ts -> List PV
 | [], _ => []
 | [t], x => [t.pv x]
 | t :: u :: ts, x => t.pv x.1 :: pvL (u :: ts) x.2
theorem qWJ : ∀ (ts : List Ty) (x y : TyL ts), pvL ts x = pvL ts y -> x = y
 | [], _, _, _ => rfl
 | [t], x, y, h => by injection h with h; exact t.en.inj x y h
 | t :: u :: ts, x, y, h => by
   injection h with h1 h2;exact Prod.ext (t.en.inj _ _ h1) (qWJ (u :: ts) _ _ h2)
theorem qOZ : ∀ (ts : List Ty) (x y : TyL ts) (vs : List Value), VRL P Z H (fun _ => none) (pvL ts x) vs -> VRL P Z' H (fun _ => none) (pvL ts y) vs -> x = y
 | [], _, _, _, _, _ => rfl
 | [t], x, y, vs, a, b => by
   obtain ⟨v, vs', rfl, a1, _⟩ := a.uncons;obtain ⟨v', vs2, e, b1, _⟩ := b.uncons;cases e;exact t.en.uniq P Z Z' H x y v a1 b1
 | t :: u :: ts, x, y, vs, a, b => by
   obtain ⟨v, vs', rfl, a1, a2⟩ := a.uncons;obtain ⟨v', vs2, e, b1, b2⟩ := b.uncons;cases e;exact Prod.ext (t.en.uniq P Z Z' H _ _ v a1 b1) (qOZ (u :: ts) _ _ _ a2 b2)
def enL (ts : List Ty) : AEn (TyL ts) := ⟨pvL ts, qWJ ts, fun P Z Z' H x y vs a b => qOZ ts x y vs a b⟩
def wI : (ts : List Ty) -> TyL ts -> PV := fun ts x => qCX (pvL ts x)
end Go.Sv
namespace Go.Sv
open Go.Idl
variable [Gc]
variable {P : Program}
variable {b : Bool} {k : Nat}
def Tree (R : Type) : Type := Option R
section
variable {R α σ ρ : Type}
def Tree.run (t : Tree R) : Option R := t
def Tree.fail : Tree R := (none : Option R)
def Tree.ret (r : R) : Tree R := some r
def Tree.ite (b : Bool) (x y : Tree R) : Tree R := cond b x y
noncomputable def Tree.bind (o : Option α) (k : α -> Tree R) : Tree R := Option.rec Tree.fail k o
noncomputable def Tree.loop (f : σ -> Tree (σ ⊕ ρ)) (s : σ) (k : ρ -> Tree R) : Tree R := Tree.bind (zC (fun s => (f s).run) s) k
end
theorem run_ite {R : Type} {x y : Tree R} {r : R} (h : (Tree.ite b x y).run = some r) : (b = true ∧ x.run = some r) ∨ (b = false ∧ y.run = some r) := by
 cases b with
 | true => exact .inl ⟨rfl, h⟩
 | false => exact .inr ⟨rfl, h⟩
theorem run_bind {R α : Type} {o : Option α} {k : α -> Tree R} {r : R} (h : (Tree.bind o k).run = some r) : ∃ a, o = some a ∧ (k a).run = some r := by
 cases o with
 | none => cases h
 | some a => exact ⟨a, rfl, h⟩
theorem qX8 {R σ ρ : Type} {f : σ -> Tree (σ ⊕ ρ)} {s : σ} {k : ρ -> Tree R} {r : R} (h : (Tree.loop f s k).run = some r) : ∃ a, zC (fun s => (f s).run) s = some a ∧ (k a).run = some r := run_bind h
theorem qJ {R : Type} {x : Tree R} {r : R} (h : (cond b x .fail).run = some r) : b = true ∧ x.run = some r := by
 cases b with
 | true => exact ⟨rfl, h⟩
 | false => cases h
inductive SV where
 | d (t : Ty) (x : t.sem)
 | c (v : Value)
 | agg (l : List SV)
 | tup (l : List SV)
 | own (k g n : Nat)
 | sl (k g n o m : Nat)
 | ref (k off w : Nat)
 | elt (k g n w j off : Nat)
 | lp (t : Ty) (xs : List t.sem) (j off : Nat)
 | fn (f : FuncId) (first cap : List SV)
 | unk
 | yv
 | mp (k : Nat)
section
variable [Yl]
mutual
def SV.enc : SV -> PV
 | .d t x => .f (t.fv x)
 | .c v => fvv v
 | .agg l => .agg (qC l)
 | .tup l => .tup (qC l)
 | .own k _ n => .own k n 0 n
 | .sl k _ n o m => .own k n o m
 | .ref k off w => .ref k w off
 | .elt k _ n w j off => .ref k (n * w) (j * w + off)
 | .lp t xs j off => .lp (List.flatMap t.cells xs) (j * t.w + off)
 | .fn f a b => .fn f (qC a) (qC b)
 | .unk => .unk
 | .yv => .yl Yl.l
 | .mp k => .mp k
def qC : List SV -> List PV
 | [] => []
 | x :: l => x.enc :: qC l
end
theorem zK : ∀ (l : List SV), qC l = l.map SV.enc
 | [] => by simp [qC]
 | x :: l => by simp [qC, zK l]
end
inductive SpO where
 | map (es : List (Value × Value))
 | iter (s : ByteArray) (pos : Nat)
def qKG : Nat -> List (Value × Value) -> List MapEntry
 | _, [] => []
 | i, p :: l => ⟨p.1, p.2, i⟩ :: qKG (i + 1) l
def SpO.enc : SpO -> PO
 | .map es => ⟨1000000001, false, qLQ (List.length es) (qKG 0 es)⟩
 | .iter s pos => ⟨1000000000, false, q7Z s pos⟩
inductive SO where
 | spc (w : Nat) (x : SpO)
 | cells (el : TypeId) (w : Nat) (l : List SV)
 | list (el : TypeId) (gr : Bool) (g w : Nat) (t : Ty) (xs : List t.sem)
section
variable [Yl]
def SO.enc : SO -> PO
 | .cells el _ l => ⟨el, false, qC l⟩
 | .list el gr _ _ t xs => ⟨el, gr, (List.flatMap t.cells xs).map .f⟩
 | .spc _ x => x.enc
def SO.w : SO -> Nat
 | .cells _ w _ => w
 | .list _ _ _ w _ _ => w
 | .spc w _ => w
structure SH where
 next : Nat
 l : List (Nat × SO)
def slk (k : Nat) : List (Nat × SO) -> Option SO
 | [] => none
 | (j, o) :: l => cond (k == j) (some o) (slk k l)
def sst (k : Nat) (o : SO) : List (Nat × SO) -> List (Nat × SO)
 | [] => []
 | (j, p) :: l => cond (k == j) ((j, o) :: l) ((j, p) :: sst k o l)
def sdl (k : Nat) : List (Nat × SO) -> List (Nat × SO)
 | [] => []
 | (j, p) :: l => cond (k == j) (sdl k l) ((j, p) :: sdl k l)
def qF : List (Nat × SO) -> PHp
 | [] => []
 | (j, o) :: l => (j, o.enc) :: qF l
theorem mH (k : Nat) : ∀ (l : List (Nat × SO)), qE k (qF l) = (slk k l).map SO.enc
 | [] => rfl
 | (j, o) :: l => by
   show cond (k == j) (some o.enc) (qE k (qF l)) = (cond (k == j) (some o) (slk k l)).map SO.enc;cases k == j
   ·exact mH k l
   ·rfl
theorem bC (k : Nat) (o : SO) : ∀ (l : List (Nat × SO)), qF (sst k o l) = fK k o.enc (qF l)
 | [] => rfl
 | (j, p) :: l => by
   show qF (cond (k == j) ((j, o) :: l) ((j, p) :: sst k o l)) = cond (k == j) ((j, o.enc) :: qF l) ((j, p.enc) :: fK k o.enc (qF l));cases k == j
   ·show (j, p.enc) :: qF (sst k o l) = _;rw [bC k o l]; rfl
   ·rfl
theorem nX (k : Nat) : ∀ (l : List (Nat × SO)), qF (sdl k l) = qES k (qF l)
 | [] => rfl
 | (j, p) :: l => by
   show qF (cond (k == j) (sdl k l) ((j, p) :: sdl k l)) = cond (k == j) (qES k (qF l)) ((j, p.enc) :: qES k (qF l));cases k == j
   ·show (j, p.enc) :: qF (sdl k l) = _;rw [nX k l]; rfl
   ·exact nX k l
end
theorem qEF {k j : Nat} {o : SO} (hj : j ≠ k) : ∀ (l : List (Nat × SO)), slk j (sst k o l) = slk j l
 | [] => rfl
 | (i, p) :: l => by
   show slk j (cond (k == i) ((i, o) :: l) ((i, p) :: sst k o l)) = cond (j == i) (some p) (slk j l)
   cases h : k == i with
   | true =>
     have : k = i := by simpa using h
     subst this;show cond (j == k) (some o) (slk j l) = _;rw [show (j == k) = false by simpa using hj]; rfl
   | false =>
     show cond (j == i) (some p) (slk j (sst k o l)) = _;rw [qEF hj l]
theorem qTB {k : Nat} {o p : SO} : ∀ {l : List (Nat × SO)}, slk k l = some p -> slk k (sst k o l) = some o
 | (i, q) :: l, h => by
   have h : cond (k == i) (some q) (slk k l) = some p := h;show slk k (cond (k == i) ((i, o) :: l) ((i, q) :: sst k o l)) = some o
   cases hi : k == i with
   | true =>
     show cond (k == i) (some o) (slk k l) = some o;rw [hi]; rfl
   | false =>
     rw [hi] at h;show cond (k == i) (some q) (slk k (sst k o l)) = some o;rw [hi]; exact qTB (l := l) h
theorem jN {k j : Nat} (hj : j ≠ k) : ∀ (l : List (Nat × SO)), slk j (sdl k l) = slk j l
 | [] => rfl
 | (i, p) :: l => by
   show slk j (cond (k == i) (sdl k l) ((i, p) :: sdl k l)) = cond (j == i) (some p) (slk j l)
   cases h : k == i with
   | true =>
     have : k = i := by simpa using h
     subst this;rw [show (j == k) = false by simpa using hj];exact jN hj l
   | false =>
     show cond (j == i) (some p) (slk j (sdl k l)) = _;rw [jN hj l]
theorem qMM (k : Nat) : ∀ (l : List (Nat × SO)), slk k (sdl k l) = none
 | [] => rfl
 | (i, p) :: l => by
   show slk k (cond (k == i) (sdl k l) ((i, p) :: sdl k l)) = none
   cases h : k == i with
   | true => exact qMM k l
   | false =>
     show cond (k == i) (some p) (slk k (sdl k l)) = none;rw [h]; exact qMM k l
theorem yQ {j : Nat} {o : SO} {l : List (Nat × SO)} (hj : j ≠ k) : slk j ((k, o) :: l) = slk j l := by
 show cond (j == k) (some o) (slk j l) = _;rw [show (j == k) = false by simpa using hj]; rfl
theorem wU {o : SO} {l : List (Nat × SO)} : slk k ((k, o) :: l) = some o := by
 show cond (k == k) (some o) (slk k l) = _;simp
def q1S (h : SH) (k g n : Nat) : Prop := g < h.next ∧ ∀ el gr w t xs, slk k h.l = some (.list el gr g w t xs) -> n = xs.length
mutual
def SV.ok (h : SH) : SV -> Prop
 | .agg l => okL h l
 | .tup l => okL h l
 | .own k g n => q1S h k g n
 | .sl k g n o m => q1S h k g n ∧ o + m <= n
 | .elt k g n _ _ _ => q1S h k g n
 | .fn _ a b => okL h a ∧ okL h b
 | _ => True
def okL (h : SH) : List SV -> Prop
 | [] => True
 | x :: l => x.ok h ∧ okL h l
end
theorem xU {h : SH} : ∀ {l : List SV}, okL h l ↔ ∀ x ∈ l, x.ok h
 | [] => by simp [okL]
 | x :: l => by simp [okL, xU (l := l)]
structure OkH (P : Program) (h : SH) : Prop where
 ver : ∀ k ob, slk k h.l = some ob -> ob.w < h.next
 cells : ∀ k el w l, slk k h.l = some (.cells el w l) -> okL h l
 list : ∀ k el gr g w t xs, slk k h.l = some (.list el gr g w t xs) -> g < h.next ∧ szT P el = some t.w ∧ 0 < t.w
structure Keep (h h' : SH) : Prop where
 next : h.next <= h'.next
 same : ∀ k ob, slk k h'.l = some ob -> ob.w < h.next -> slk k h.l = some ob
 len : ∀ k el gr g w t xs, slk k h'.l = some (.list el gr g w t xs) -> g < h.next -> ∃ w0, ∃ xs0 : List t.sem, slk k h.l = some (.list el gr g w0 t xs0) ∧ xs0.length = xs.length
theorem Keep.refl (h : SH) : Keep h h := ⟨Nat.le_refl _, fun _ _ h _ => h, fun k el gr g w t xs h _ => ⟨w, xs, h, rfl⟩⟩
theorem Keep.trans {a b c : SH} (x : Keep a b) (y : Keep b c) : Keep a c :=
 ⟨Nat.le_trans x.next y.next, fun k ob h hw => x.same k ob (y.same k ob h (Nat.lt_of_lt_of_le hw x.next)) hw, fun k el gr g w t xs h hg => by
   obtain ⟨w1, xs1, h1, e1⟩ := y.len k el gr g w t xs h (Nat.lt_of_lt_of_le hg x.next);obtain ⟨w2, xs2, h2, e2⟩ := x.len k el gr g w1 t xs1 h1 hg
   exact ⟨w2, xs2, h2, e2.trans e1⟩⟩
theorem q1S.keep {h h' : SH} {g n : Nat} (a : q1S h k g n) (b : Keep h h') : q1S h' k g n :=
 ⟨Nat.lt_of_lt_of_le a.1 b.next, fun el gr w t xs hk => by
   obtain ⟨w0, xs0, h0, e0⟩ := b.len k el gr g w t xs hk a.1
   rw [<- e0]; exact a.2 el gr w0 t xs0 h0⟩
mutual
theorem SV.ok.keep {h h' : SH} (b : Keep h h') : ∀ {x : SV}, x.ok h -> x.ok h'
 | .agg l, a => by simp only [SV.ok] at a ⊢; exact qQ b a
 | .tup l, a => by simp only [SV.ok] at a ⊢; exact qQ b a
 | .own k g n, a => by simp only [SV.ok] at a ⊢; exact a.keep b
 | .sl k g n o m, a => by simp only [SV.ok] at a ⊢; exact ⟨a.1.keep b, a.2⟩
 | .elt k g n w j off, a => by simp only [SV.ok] at a ⊢; exact a.keep b
 | .fn f x y, a => by simp only [SV.ok] at a ⊢; exact ⟨qQ b a.1, qQ b a.2⟩
 | .d _ _, _ => by simp [SV.ok]
 | .c _, _ => by simp [SV.ok]
 | .ref _ _ _, _ => by simp [SV.ok]
 | .lp _ _ _ _, _ => by simp [SV.ok]
 | .unk, _ => by simp [SV.ok]
 | .yv, _ => by simp [SV.ok]
 | .mp _, _ => by simp [SV.ok]
theorem qQ {h h' : SH} (b : Keep h h') : ∀ {l : List SV}, okL h l -> okL h' l
 | [], _ => by simp [okL]
 | x :: l, a => by simp only [okL] at a ⊢; exact ⟨SV.ok.keep b a.1, qQ b a.2⟩
end
def SH.new (h : SH) (k : Nat) (f : Nat -> SO) : SH := ⟨h.next + 1, (k, f h.next) :: h.l⟩
def SH.put (h : SH) (k : Nat) (f : Nat -> SO) : SH := ⟨h.next + 1, sst k (f h.next) h.l⟩
def SH.del (h : SH) (k : Nat) : SH := ⟨h.next, sdl k h.l⟩
def q6I (P : Program) (h : SH) (n : Nat) : SO -> Prop
 | .cells _ w l => w = n ∧ okL h l
 | .list el _ g w t _ => w = n ∧ g = n ∧ szT P el = some t.w ∧ 0 < t.w
 | .spc w _ => w = n
theorem qZ4 {h : SH} {f : Nat -> SO} (hw : (f h.next).w = h.next) (hg : ∀ el gr g w t xs, f h.next = .list el gr g w t xs -> g = h.next) : Keep h (h.new k f) :=
 ⟨Nat.le_succ _, fun j ob hj hlt => by
   by_cases e : j = k
   ·subst e; rw [show slk j (h.new j f).l = some (f h.next) from wU] at hj;cases hj; omega
   ·rwa [show slk j (h.new k f).l = slk j h.l from yQ e] at hj, fun j el gr g w t xs hj hlt => by
   by_cases e : j = k
   ·subst e; rw [show slk j (h.new j f).l = some (f h.next) from wU] at hj;have := hg _ _ _ _ _ _ (Option.some.inj hj);omega
   ·rw [show slk j (h.new k f).l = slk j h.l from yQ e] at hj
    exact ⟨w, xs, hj, rfl⟩⟩
theorem vJ {h : SH} {f : Nat -> SO} (a : OkH P h) (hf : q6I P h h.next (f h.next)) : Keep h (h.new k f) ∧ OkH P (h.new k f) := by
 have hw : (f h.next).w = h.next := by
  cases hq : f h.next with
  | cells el w l => rw [hq] at hf; exact hf.1
  | list el gr g w t xs => rw [hq] at hf; exact hf.1
  | spc w x => rw [hq] at hf; exact hf
 have hk : Keep h (h.new k f) := qZ4 hw fun el gr g w t xs e => by rw [e] at hf; exact hf.2.1
 refine ⟨hk, ⟨fun j ob hj => ?_, fun j el w l hj => ?_, fun j el gr g w t xs hj => ?_⟩⟩
 ·by_cases e : j = k
  ·subst e; rw [show slk j (h.new j f).l = some (f h.next) from wU] at hj;cases hj; rw [hw]; exact Nat.lt_succ_self _
  ·rw [show slk j (h.new k f).l = slk j h.l from yQ e] at hj;exact Nat.lt_succ_of_lt (a.ver j ob hj)
 ·by_cases e : j = k
  ·subst e; rw [show slk j (h.new j f).l = some (f h.next) from wU] at hj;rw [Option.some.inj hj] at hf;exact qQ hk hf.2
  ·rw [show slk j (h.new k f).l = slk j h.l from yQ e] at hj;exact qQ hk (a.cells j el w l hj)
 ·by_cases e : j = k
  ·subst e; rw [show slk j (h.new j f).l = some (f h.next) from wU] at hj;rw [Option.some.inj hj] at hf;exact ⟨by rw [hf.2.1]; exact Nat.lt_succ_self _, hf.2.2⟩
  ·rw [show slk j (h.new k f).l = slk j h.l from yQ e] at hj;have := a.list j el gr g w t xs hj;exact ⟨Nat.lt_succ_of_lt this.1, this.2⟩
def q9Y (h : SH) (n : Nat) : SO -> SO -> Prop
 | .cells _ _ _, .cells _ w' l' => w' = n ∧ okL h l'
 | .list el gr g _ t xs, ob' => ∃ xs' : List t.sem, ob' = .list el gr g n t xs' ∧ xs.length = xs'.length
 | .spc _ _, .spc w' _ => w' = n
 | _, _ => False
theorem qAD {h : SH} {f : Nat -> SO} {ob : SO} (a : OkH P h) (hk : slk k h.l = some ob) (hf : q9Y h h.next ob (f h.next)) : Keep h (h.put k f) ∧ OkH P (h.put k f) := by
 have hs : slk k (h.put k f).l = some (f h.next) := qTB hk;have hn : ∀ j, j ≠ k -> slk j (h.put k f).l = slk j h.l := fun j hj => qEF hj _
 have hw : (f h.next).w = h.next := by
  cases ob with
  | cells el w l =>
    cases hq : f h.next with
    | cells el' w' l' => rw [hq] at hf; exact hf.1
    | list => rw [hq] at hf; exact hf.elim
    | spc => rw [hq] at hf; exact hf.elim
  | spc w0 x0 =>
    cases hq : f h.next with
    | spc w' x' => rw [hq] at hf; exact hf
    | list => rw [hq] at hf; exact hf.elim
    | cells => rw [hq] at hf; exact hf.elim
  | list el gr g w t xs =>
    obtain ⟨xs', e, _⟩ := hf;rw [e]; rfl
 have hkp : Keep h (h.put k f) := by
  refine ⟨Nat.le_succ _, fun j o hj hlt => ?_, fun j el gr g w t xs hj hlt => ?_⟩
  ·by_cases e : j = k
   ·subst e; rw [hs] at hj; cases hj; omega
   ·rwa [hn j e] at hj
  ·by_cases e : j = k
   ·subst e;rw [hs] at hj;have hj := Option.some.inj hj
    cases ob with
    | cells el0 w0 l0 =>
      rw [hj] at hf;exact hf.elim
    | spc w0 x0 =>
      rw [hj] at hf;exact hf.elim
    | list el0 gr0 g0 w0 t0 xs0 =>
      obtain ⟨xs', e2, e3⟩ := hf;rw [e2] at hj;injection hj with a1 a2 a3 a4 a5 a6;subst a1 a2 a3 a5;cases a6;exact ⟨w0, xs0, hk, e3⟩
   ·rw [hn j e] at hj; exact ⟨w, xs, hj, rfl⟩
 refine ⟨hkp, ⟨fun j o hj => ?_, fun j el w l hj => ?_, fun j el gr g w t xs hj => ?_⟩⟩
 ·by_cases e : j = k
  ·subst e; rw [hs] at hj; cases hj; rw [hw]; exact Nat.lt_succ_self _
  ·rw [hn j e] at hj; exact Nat.lt_succ_of_lt (a.ver j o hj)
 ·by_cases e : j = k
  ·subst e;rw [hs] at hj;have hj := Option.some.inj hj
   cases ob with
   | cells el0 w0 l0 => rw [hj] at hf; exact qQ hkp hf.2
   | spc w0 x0 => rw [hj] at hf; exact hf.elim
   | list el0 gr0 g0 w0 t0 xs0 =>
     obtain ⟨xs', e2, e3⟩ := hf;rw [e2] at hj; cases hj
  ·rw [hn j e] at hj; exact qQ hkp (a.cells j el w l hj)
 ·by_cases e : j = k
  ·subst e;rw [hs] at hj;have hj := Option.some.inj hj
   cases ob with
   | cells el0 w0 l0 => rw [hj] at hf; exact hf.elim
   | spc w0 x0 => rw [hj] at hf; exact hf.elim
   | list el0 gr0 g0 w0 t0 xs0 =>
     obtain ⟨xs', e2, e3⟩ := hf;rw [e2] at hj;injection hj with a1 a2 a3 a4 a5 a6;subst a1 a2 a3 a5;have := a.list j _ _ _ _ _ _ hk;exact ⟨Nat.lt_succ_of_lt this.1, this.2⟩
  ·rw [hn j e] at hj;have := a.list j el gr g w t xs hj;exact ⟨Nat.lt_succ_of_lt this.1, this.2⟩
theorem pG {h : SH} (a : OkH P h) : Keep h (h.del k) ∧ OkH P (h.del k) := by
 have hl : ∀ j ob, slk j (h.del k).l = some ob -> slk j h.l = some ob := fun j ob hj => by
  by_cases e : j = k
  ·subst e; rw [show slk j (h.del j).l = none from qMM j _] at hj; cases hj
  ·rwa [show slk j (h.del k).l = slk j h.l from jN e _] at hj
 have hkp : Keep h (h.del k) := ⟨Nat.le_refl _, fun j ob hj _ => hl j ob hj, fun j el gr g w t xs hj _ => ⟨w, xs, hl _ _ hj, rfl⟩⟩
 exact ⟨hkp, ⟨fun j ob hj => a.ver j ob (hl j ob hj), fun j el w l hj => qQ hkp (a.cells j el w l (hl _ _ hj)), fun j el gr g w t xs hj => a.list j el gr g w t xs (hl _ _ hj)⟩⟩
def GV (Γ : Option Type) : Type := match Γ with
 | none => Unit
 | some γ => γ
def GS (Γ : Option Type) (S : Type) : Type := match Γ with
 | none => S
 | some γ => γ × S
def gj : {Γ : Option Type} -> {S : Type} -> GV Γ -> S -> GS Γ S
 | none, _, _, s => s
 | some _, _, g, s => (g, s)
def g1 : {Γ : Option Type} -> {S : Type} -> GS Γ S -> GV Γ
 | none, _, _ => ()
 | some _, _, p => p.1
def g2 : {Γ : Option Type} -> {S : Type} -> GS Γ S -> S
 | none, _, s => s
 | some _, _, p => p.2
theorem q3S {Γ : Option Type} {S : Type} {g : GV Γ} {s : S} : g1 (gj g s) = g := by cases Γ <;> rfl
theorem q0X {Γ : Option Type} {S : Type} {g : GV Γ} {s : S} : g2 (gj g s) = s := by cases Γ <;> rfl
structure Ent where
 as : List Ty
 rs : List Ty
 F : TyL as -> Option (TyL rs)
abbrev xD := List (FuncId × Ent)
def slT (g : FuncId) : xD -> Option Ent
 | [] => none
 | (k, e) :: l => cond (Nat.beq g k) (some e) (slT g l)
structure Sh where
 d : List Nat
 o : List Nat
 s : List (Nat × Nat)
 v : List (Nat × TypeId)
 ex : List Nat
 b : List (Nat × List (Option Nat)) := []
 bv : List (Nat × Nat × TypeId × Nat) := []
structure An where
 fz : List (Nat × List (Nat × TypeId))
 lp : List (Nat × Sh)
 rg : List (Nat × Sh) := []
def lkA {α : Type} (i : Nat) : List (Nat × α) -> Option α
 | [] => none
 | (j, x) :: l => cond (Nat.beq i j) (some x) (lkA i l)
structure IEnt where
 as : List Ty
 ys : List Ty
 yt : List TypeId
 F : TyL as -> (γ : Type) -> (γ -> TyL ys -> Option (γ × Bool)) -> γ -> Option γ
def slI (g : FuncId) : List (FuncId × IEnt) -> Option IEnt
 | [] => none
 | (k, e) :: l => cond (Nat.beq g k) (some e) (slI g l)
structure YI (Γ : Type) where
 ys : List Ty
 yt : List TypeId
 stp : Γ -> TyL ys -> Option (Γ × Bool)
def yi0 : YI Unit := ⟨[], [], fun _ _ => none⟩
abbrev CIT : Type 1 := (R : Type) -> Nm -> FuncId -> List SV -> SH -> (SV -> SH -> Tree R) -> Tree R
end Go.Sv
namespace Go.Sv
open Go.Idl
variable {a b env l : List SV} {el t : TypeId} {j off : Nat} {k : IntKind} {v x : SV}
noncomputable section
variable [Gc]
variable [Yl]
variable {P : Program} {h : SH} {R : Type} {r : R}
def q7N : Value -> SV
 | .agg cs => cond (vQ okC cs.toList) (.agg (kZ .c cs.toList)) .unk
 | .tuple cs => cond (vQ okC cs.toList) (.tup (kZ .c cs.toList)) .unk
 | v => cond (okC v) (.c v) .unk
def jI (env : List SV) : Operand -> SV
 | .tmp t => (z8 env t).getD .unk
 | .const v => q7N v
 | .global _ => .unk
 | .func g => .c (.func (.func g) #[] #[])
theorem q8J : ∀ (l : List Value), qC (kZ .c l) = kZ fvv l
 | [] => by simp [kZ, qC]
 | v :: l => by
   show qC (.c v :: kZ .c l) = fvv v :: kZ fvv l;simp [qC, q8J l, SV.enc]
omit [Yl] in
theorem q8G : ∀ (l : List Value), okL h (kZ .c l)
 | [] => by simp [kZ, okL]
 | v :: l => by
   show okL h (.c v :: kZ .c l);simp [okL, q8G l, SV.ok]
theorem qYX (v : Value) : ofC v = (q7N v).enc := by
 cases v with
 | agg cs =>
   show cond _ _ _ = (cond (vQ okC cs.toList) (SV.agg (kZ .c cs.toList)) SV.unk).enc;cases vQ okC cs.toList
   ·simp [SV.enc]
   ·simp [SV.enc, q8J]
 | tuple cs =>
   show cond _ _ _ = (cond (vQ okC cs.toList) (SV.tup (kZ .c cs.toList)) SV.unk).enc;cases vQ okC cs.toList
   ·simp [SV.enc]
   ·simp [SV.enc, q8J]
 | _ =>
   simp only [ofC, q72, q7N];cases okC _ <;> simp [SV.enc]
omit [Yl] in
theorem q4B (v : Value) : (q7N v).ok h := by
 cases v with
 | agg cs =>
   show (cond (vQ okC cs.toList) (.agg (kZ .c cs.toList)) .unk : SV).ok h;cases vQ okC cs.toList
   ·simp [SV.ok]
   ·simp [SV.ok, q8G]
 | tuple cs =>
   show (cond (vQ okC cs.toList) (.tup (kZ .c cs.toList)) .unk : SV).ok h;cases vQ okC cs.toList
   ·simp [SV.ok]
   ·simp [SV.ok, q8G]
 | _ =>
   simp only [q7N];cases okC _ <;> simp [SV.ok]
theorem kK (env : List SV) (t : Nat) : z8 (qC env) t = (z8 env t).map SV.enc := by
 rw [qG, qG, zK, List.getElem?_map]
omit [Yl] in
theorem qBM {t : Nat} (ho : okL h env) (hx : z8 env t = some x) : x.ok h := by
 rw [qG] at hx;exact xU.1 ho x (List.mem_of_getElem? hx)
theorem qU (env : List SV) (x : Operand) : qP (qC env) x = (jI env x).enc := by
 cases x with
 | tmp t =>
   show (z8 (qC env) t).getD .unk = ((z8 env t).getD .unk).enc;rw [kK];cases z8 env t <;> simp [SV.enc]
 | const v => exact qYX v
 | global g => simp [qP, jI, SV.enc]
 | func g => simp [qP, jI, SV.enc]
omit [Yl] in
theorem qAT (ho : okL h env) (x : Operand) : (jI env x).ok h := by
 cases x with
 | tmp t =>
   show ((z8 env t).getD .unk).ok h
   cases hx : z8 env t with
   | none => simp [SV.ok]
   | some y => exact qBM ho hx
 | const v => exact q4B v
 | global g => simp [jI, SV.ok]
 | func g => simp [jI, SV.ok]
def asI : SV -> Option (IntKind × Int)
 | .d (.int k) x => some (k, x)
 | .c (.int k x) => some (k, x)
 | _ => none
def asB : SV -> Option Bool
 | .d .bool x => some x
 | .c (.bool x) => some x
 | _ => none
def asS : SV -> Option ByteArray
 | .d .str x => some x
 | .c (.string x) => some x
 | _ => none
theorem jG {x : Int} (e : asI v = some (k, x)) : v.enc = fvv (.int k x) := by
 unfold asI at e;split at e
 ·cases e; simp [SV.enc, Ty.fv, fvv]
 ·cases e; simp [SV.enc]
 ·cases e
theorem qAA {x : Bool} (e : asB v = some x) : v.enc = fvv (.bool x) := by
 unfold asB at e;split at e
 ·cases e; simp [SV.enc, Ty.fv, fvv]
 ·cases e; simp [SV.enc]
 ·cases e
theorem aT {x : ByteArray} (e : asS v = some x) : v.enc = fvv (.string x) := by
 unfold asS at e;split at e
 ·cases e; simp [SV.enc, Ty.fv, fvv]
 ·cases e; simp [SV.enc]
 ·cases e
def Ty.svs : (t : Ty) -> t.sem -> List SV
 | .int k, x => [.d (.int k) x]
 | .bool, x => [.d .bool x]
 | .str, x => [.d .str x]
 | .unit, _ => []
 | .list el t, x => [.d (.list el t) x]
 | .pair a b, x => a.svs x.1 ++ b.svs x.2
 | .raw, x => [.d .raw x]
theorem nH (a b : List SV) : qC (a ++ b) = qC a ++ qC b := by simp [zK]
theorem tV : ∀ (t : Ty) (x : t.sem), qC (t.svs x) = (t.cells x).map .f
 | .int k, x => by simp [Ty.svs, Ty.cells, qC, SV.enc, Ty.fv]
 | .bool, x => by simp [Ty.svs, Ty.cells, qC, SV.enc, Ty.fv]
 | .str, x => by simp [Ty.svs, Ty.cells, qC, SV.enc, Ty.fv]
 | .unit, x => by simp [Ty.svs, Ty.cells, qC]
 | .list el t, x => by simp [Ty.svs, Ty.cells, qC, SV.enc, Ty.fv]
 | .raw, x => by simp [Ty.svs, Ty.cells, qC, SV.enc, Ty.fv]
 | .pair a b, x => by
   show qC (a.svs x.1 ++ b.svs x.2) = (a.cells x.1 ++ b.cells x.2).map .f;rw [nH, tV a, tV b, List.map_append]
omit [Yl] in
theorem fQ (x : okL h a) (y : okL h b) : okL h (a ++ b) := xU.2 fun z hz => by
 rcases List.mem_append.1 hz with q | q
 ·exact xU.1 x z q
 ·exact xU.1 y z q
omit [Yl] in
theorem qOQ : ∀ (t : Ty) (x : t.sem), okL h (t.svs x)
 | .int k, x => by simp [Ty.svs, okL, SV.ok]
 | .bool, x => by simp [Ty.svs, okL, SV.ok]
 | .str, x => by simp [Ty.svs, okL, SV.ok]
 | .unit, x => by simp [Ty.svs, okL]
 | .list el t, x => by simp [Ty.svs, okL, SV.ok]
 | .raw, x => by simp [Ty.svs, okL, SV.ok]
 | .pair a b, x => fQ (qOQ a x.1) (qOQ b x.2)
def q9L (k : IntKind) (v : SV) : Option Int := match asI v with
 | some (k', x) => cond (decide (k' = k)) (some x) none
 | none => none
def q9T (el : TypeId) (t : Ty) : SV -> Option (List t.sem)
 | .d (.list el' t') xs => if e : t' = t then cond (Nat.beq el' el) (some (e ▸ xs)) none else none
 | _ => none
def asR : SV -> Option (List (Value × Value))
 | .d .raw x => some x
 | _ => none
def Ty.decS : (t : Ty) -> SV -> Option t.sem
 | .int k, v => q9L k v
 | .bool, v => asB v
 | .str, v => asS v
 | .list el t, v => q9T el t v
 | .unit, _ => none
 | .pair _ _, _ => none
 | .raw, v => asR v
theorem qZZ {x : Int} (e : q9L k v = some x) : v.enc = fvv (.int k x) := by
 unfold q9L at e;split at e
 ·rename_i k' x' hx
  cases hk : decide (k' = k) with
  | false => rw [hk] at e; cases e
  | true =>
    rw [hk] at e;cases e;have : k' = k := by simpa using hk
    subst this;exact jG hx
 ·cases e
omit [Yl] in
theorem qZY {t : Ty} {x : List t.sem} (e : q9T el t v = some x) : v = .d (.list el t) x := by
 unfold q9T at e;split at e
 ·rename_i el' t' xs;split at e
  ·rename_i ht;subst ht
   cases hk : Nat.beq el' el with
   | false => rw [hk] at e; cases e
   | true =>
     rw [hk] at e;cases e;have : el' = el := Nat.eq_of_beq_eq_true hk;subst this;rfl
  ·cases e
 ·cases e
theorem qG2 : ∀ {t : Ty} {v : SV} {x : t.sem}, t.decS v = some x -> v.enc = .f (t.fv x) ∧ t.one = true
 | .int k, v, x, e => ⟨qZZ e, rfl⟩
 | .bool, v, x, e => ⟨qAA e, rfl⟩
 | .str, v, x, e => ⟨aT e, rfl⟩
 | .list el t, v, x, e => ⟨by rw [qZY e]; simp [SV.enc], rfl⟩
 | .raw, v, x, e => by
   have e : asR v = some x := e;refine ⟨?_, rfl⟩;unfold asR at e;split at e
   ·cases e; simp [SV.enc]
   ·cases e
 | .unit, v, x, e => by cases e
 | .pair a b, v, x, e => by cases e
def q3N (t : Ty) : List SV -> Option (t.sem × List SV)
 | v :: l => match t.decS v with
   | some x => some (x, l)
   | none => none
 | [] => none
def Ty.decL : (t : Ty) -> List SV -> Option (t.sem × List SV)
 | .int k, l => q3N (.int k) l
 | .bool, l => q3N .bool l
 | .str, l => q3N .str l
 | .raw, l => q3N .raw l
 | .list el t, l => q3N (.list el t) l
 | .unit, l => some ((), l)
 | .pair a b, l => match a.decL l with
   | some (x, l1) => (match b.decL l1 with
     | some (y, l2) => some ((x, y), l2)
     | none => none)
   | none => none
theorem nM {t : Ty} {l' : List SV} {x : t.sem} (e : q3N t l = some (x, l')) : qC l = (t.cells x).map .f ++ qC l' := by
 cases l with
 | nil => cases e
 | cons v l =>
   unfold q3N at e;simp only at e;split at e
   ·rename_i y hy;cases e;obtain ⟨h1, h2⟩ := qG2 hy;rw [Ty.cells_one h2];simp [qC, h1]
   ·cases e
theorem sZ : ∀ {t : Ty} {l l' : List SV} {x : t.sem}, t.decL l = some (x, l') -> qC l = (t.cells x).map .f ++ qC l'
 | .int k, l, l', x, e => nM e
 | .bool, l, l', x, e => nM e
 | .str, l, l', x, e => nM e
 | .raw, l, l', x, e => nM e
 | .list el t, l, l', x, e => nM e
 | .unit, l, l', x, e => by cases e; simp [Ty.cells]
 | .pair a b, l, l', x, e => by
   unfold Ty.decL at e;split at e
   ·rename_i x1 l1 h1;split at e
    ·rename_i y l2 h2;cases e;show qC l = (a.cells x1 ++ b.cells y).map .f ++ qC l';rw [sZ h1, sZ h2, List.map_append, List.append_assoc]
    ·cases e
   ·cases e
def Ty.decA (t : Ty) (l : List SV) : Option t.sem := match t.decL l with
 | some (x, []) => some x
 | _ => none
theorem qGE {t : Ty} {x : t.sem} (e : t.decA l = some x) : qC l = (t.cells x).map .f := by
 unfold Ty.decA at e;split at e
 ·rename_i y hy;cases e;rw [sZ hy]; simp [qC]
 ·cases e
def qJO (P : Program) (t : TypeId) (l : List SV) (off : Nat) : Option SV := match qPZ P t with
 | some true => (match szT P t with
   | some n => cond (Nat.ble (off + n) l.length) (some (.agg ((l.drop off).take n))) none
   | none => none)
 | some false => z8 l off
 | none => none
omit [Yl] in
theorem qKP {b : List SV} (x : okL h a) (hs : ∀ z ∈ b, z ∈ a) : okL h b := xU.2 fun z hz => xU.1 x z (hs z hz)
theorem tO (e : qJO P t l off = some v) : oI P t (qC l) off = some v.enc ∧ (okL h l -> v.ok h) := by
 unfold qJO at e;unfold oI;split at e
 ·rename_i ha;rw [ha];simp only;split at e
  ·rename_i n hn;rw [hn];simp only
   cases hc : Nat.ble (off + n) l.length with
   | false => rw [hc] at e; cases e
   | true =>
     rw [hc] at e;cases e;refine ⟨by rw [zK, List.length_map, hc]; simp [SV.enc, zK, List.map_drop, List.map_take], fun ho => ?_⟩;simp only [SV.ok];exact qKP ho fun z hz => List.mem_of_mem_drop (List.mem_of_mem_take hz)
  ·cases e
 ·rename_i ha;rw [ha];simp only;rw [kK, e];exact ⟨rfl, fun ho => qBM ho e⟩
 ·cases e
theorem qIN {t' : Ty} {xs : List t'.sem} {x : t'.sem} (hx : xs[j]? = some x) (e : qJO P t (t'.svs x) off = some v) :
 oI P t ((xs.flatMap t'.cells).map .f) (j * t'.w + off) = some v.enc ∧ qLO P t (xs.flatMap t'.cells) (j * t'.w + off) = some v.enc ∧ v.ok h := by
 have h0 := tO (h := h) e;refine ⟨?_, ?_, h0.2 (qOQ t' x)⟩
 all_goals
  have h1 := h0.1;rw [tV] at h1;unfold oI at h1
 ·unfold oI;split at h1
  ·rename_i ha;split at h1
   ·rename_i n hn
    cases hc : Nat.ble (off + n) ((t'.cells x).map PV.f).length with
    | false => rw [hc] at h1; cases h1
    | true =>
      rw [hc] at h1
      have hle : off + n <= t'.w := by
       have := Nat.le_of_ble_eq_true hc;rw [List.length_map, t'.cells_len] at this;exact this
      rw [show Nat.ble (j * t'.w + off + n) ((xs.flatMap t'.cells).map PV.f).length = true from Nat.ble_eq_true_of_le (by rw [List.length_map]; exact qLD hx hle)];simp only [cond_true] at h1 ⊢;rw [<- h1, <- List.map_drop, <- List.map_take, qKB hx hle, <- List.map_drop, <- List.map_take]
   ·cases h1
  ·rename_i ha;rw [qG, List.getElem?_map] at h1 ⊢
   have hlt : off < t'.w := by
    rw [<- t'.cells_len x]
    cases hq : (t'.cells x)[off]? with
    | none => rw [hq] at h1; cases h1
    | some y => exact (List.getElem?_eq_some_iff.1 hq).1
   rw [Go.Sv.flat_get hx hlt]; exact h1
  ·cases h1
 ·unfold qLO;split at h1
  ·rename_i ha;split at h1
   ·rename_i n hn
    cases hc : Nat.ble (off + n) ((t'.cells x).map PV.f).length with
    | false => rw [hc] at h1; cases h1
    | true =>
      rw [hc] at h1
      have hle : off + n <= t'.w := by
       have := Nat.le_of_ble_eq_true hc;rw [List.length_map, t'.cells_len] at this;exact this
      rw [show Nat.ble (j * t'.w + off + n) (xs.flatMap t'.cells).length = true from Nat.ble_eq_true_of_le (qLD hx hle)];simp only [cond_true] at h1 ⊢;rw [<- h1, qKB hx hle, <- List.map_drop, <- List.map_take]
   ·cases h1
  ·rename_i ha;rw [qG, List.getElem?_map] at h1
   cases hq : (t'.cells x)[off]? with
   | none => rw [hq] at h1; cases h1
   | some y =>
     rw [hq] at h1
     have hlt : off < t'.w := by
      rw [<- t'.cells_len x];exact (List.getElem?_eq_some_iff.1 hq).1
     rw [Go.Sv.flat_get hx hlt, hq];exact h1
  ·cases h1
def q4D (P : Program) (t : TypeId) (a : SV) (h : SH) (K : SV -> Tree R) : Tree R := match a with
 | .ref k off w => (match slk k h.l with
   | some (.cells el _ l) => (match qJO P t l off with
     | some v => cond (!(spec P el) && Nat.beq w l.length) (K v) .fail
     | none => .fail)
   | _ => .fail)
 | .elt k g n w j off => (match slk k h.l with
   | some (.list _ _ g' _ t' xs) => cond (Nat.beq g g' && Nat.beq w t'.w) (.bind (xs[j]?) fun x => match qJO P t (t'.svs x) off with
     | some v => K v
     | none => .fail) .fail
   | _ => .fail)
 | .lp t' xs j off => .bind (xs[j]?) fun x => match qJO P t (t'.svs x) off with
   | some v => K v
   | none => .fail
 | _ => .fail
theorem zY (l : List SV) : (qC l).length = l.length := by rw [zK, List.length_map]
theorem vG {k : Nat} {ob : SO} {l : List (Nat × SO)} (e : slk k l = some ob) : qE k (qF l) = some ob.enc := by rw [mH, e]; rfl
theorem zH {gr : Bool} {g w : Nat} {t : Ty} {xs : List t.sem} : (SO.list el gr g w t xs).enc.cs.length = xs.length * t.w := by
 show ((xs.flatMap t.cells).map PV.f).length = _;rw [List.length_map, xW]
theorem qYM {a : SV} {K : SV -> Tree R} (ho : OkH P h) (ha : a.ok h) (e : (q4D P t a h K).run = some r) : ∃ v, nE P t a.enc (qF h.l) = some v.enc ∧ v.ok h ∧ (K v).run = some r := by
 unfold q4D at e;split at e
 ·rename_i k off w;split at e
  ·rename_i el w' l hk;split at e
   ·rename_i v hv;obtain ⟨h1, h2⟩ := qJ e;rw [Bool.and_eq_true, Bool.not_eq_true'] at h1;obtain ⟨hsp, h1⟩ := h1;obtain ⟨h3, h4⟩ := tO (h := h) hv;refine ⟨v, ?_, h4 (ho.cells _ _ _ _ hk), h2⟩;simp only [SV.enc, nE, vG hk];show cond (spec P el) none (cond (Nat.beq w (qC l).length) (oI P t (qC l) off) none) = _;rw [zY, h1, hsp];exact h3
   ·cases e
  ·cases e
 ·rename_i k g n w j off;split at e
  ·rename_i el gr g' w' t' xs hk;obtain ⟨h1, h2⟩ := qJ e;rw [Bool.and_eq_true] at h1;have hg : g = g' := Nat.eq_of_beq_eq_true h1.1;have hw : w = t'.w := Nat.eq_of_beq_eq_true h1.2;subst hg hw;obtain ⟨x, hx, h3⟩ := run_bind h2;split at h3
   ·rename_i v hv;have h5 := qIN (h := h) hx hv;refine ⟨v, ?_, h5.2.2, h3⟩;simp only [SV.ok] at ha;have hn : n = xs.length := ha.2 _ _ _ _ _ hk;simp only [SV.enc, nE, vG hk];rw [zH, hn, show spec P (SO.list el gr g w' t' xs).enc.el = false from jW (ho.list _ _ _ _ _ _ _ hk).2.1];simp only [qAF, cond_true, cond_false];exact h5.1
   ·cases h3
  ·cases e
 ·rename_i t' xs j off;obtain ⟨x, hx, h3⟩ := run_bind e;split at h3
  ·rename_i v hv;have h5 := qIN (h := h) hx hv;exact ⟨v, by simp only [SV.enc, nE]; exact h5.2.1, h5.2.2, h3⟩
  ·cases h3
 ·cases e
def Post (P : Program) (h h' : SH) (v : SV) : Prop := Keep h h' ∧ OkH P h' ∧ v.ok h'
def yT : SV -> List SV
 | .agg l => l
 | v => [v]
theorem bQ (v : SV) : zX v.enc = qC (yT v) := by
 cases v <;> simp [SV.enc, zX, yT, qC, fvv]
omit [Yl] in
theorem qB6 (hv : v.ok h) : okL h (yT v) := by
 cases v <;> simp only [yT, okL, SV.ok, and_true] at hv ⊢ <;> exact hv
def qBU (l : List SV) (i : Nat) (vs : List SV) : List SV := l.take i ++ vs ++ l.drop (i + vs.length)
theorem qAN (l vs : List SV) (i : Nat) : qC (qBU l i vs) = kV (qC l) i (qC vs) := by
 simp [qBU, kV, zK, List.map_take, List.map_drop]
omit [Yl] in
theorem qOO {vs : List SV} {i : Nat} (a : okL h l) (b : okL h vs) : okL h (qBU l i vs) :=
 fQ (fQ (qKP a fun z hz => List.mem_of_mem_take hz) b) (qKP a fun z hz => List.mem_of_mem_drop hz)
omit [Yl] in
theorem qZ6 {α : Type} (A B C : List α) (c : List α) (hle : off + c.length <= B.length) :
 (A ++ B ++ C).take (A.length + off) ++ c ++ (A ++ B ++ C).drop (A.length + off + c.length) = A ++ (B.take off ++ c ++ B.drop (off + c.length)) ++ C := by
 rw [List.append_assoc A B C, List.take_append, List.take_of_length_le (by omega), Nat.add_sub_cancel_left, List.take_append_of_le_length (by omega)];rw [Nat.add_assoc, List.drop_append, List.drop_of_length_le (by omega), Nat.add_sub_cancel_left, List.nil_append, List.drop_append_of_le_length (by omega)];simp [List.append_assoc]
omit [Yl] in
theorem qD8 {t : Ty} {xs : List t.sem} {x : t.sem} (hx : xs[j]? = some x) (y : t.sem) : (xs.set j y).flatMap t.cells = (xs.take j).flatMap t.cells ++ t.cells y ++ (xs.drop (j + 1)).flatMap t.cells := by
 have hl := (List.getElem?_eq_some_iff.1 hx).1;rw [List.set_eq_take_append_cons_drop, if_pos hl, List.flatMap_append, List.flatMap_cons, List.append_assoc]
omit [Yl] in
theorem qQ6 {t : Ty} {xs : List t.sem} {x y : t.sem} (hx : xs[j]? = some x) {c : List PV} (hle : off + c.length <= t.w) (hy : kV ((t.cells x).map .f) off c = (t.cells y).map .f) :
 kV ((xs.flatMap t.cells).map .f) (j * t.w + off) c = ((xs.set j y).flatMap t.cells).map .f := by
 have hl := (List.getElem?_eq_some_iff.1 hx).1
 have e0 : xs.set j x = xs := by
  apply List.ext_getElem?;intro i;rw [List.getElem?_set];by_cases e : j = i
  ·subst e; rw [if_pos rfl, if_pos hl, hx]
  ·rw [if_neg e]
 have e1 := qD8 hx x;rw [e0] at e1;rw [qD8 hx y, e1];simp only [List.map_append];unfold kV;have hA : (((xs.take j).flatMap t.cells).map PV.f).length = j * t.w := by rw [List.length_map, xW, List.length_take, Nat.min_eq_left (by omega)]
 rw [<- hA, qZ6 _ _ _ _ (by rw [List.length_map, t.cells_len]; exact hle)];unfold kV at hy;rw [hy]
def qTP (P : Program) (t : TypeId) (a x : SV) (h : SH) (K : SV -> SH -> Tree R) : Tree R := match szT P t with
 | some n => (match a with
   | .ref k off w => (match slk k h.l with
     | some (.cells el _ l) => cond (!(spec P el) && (Nat.beq w l.length && (Nat.beq n (yT x).length && (Nat.ble (off + n) l.length && (pnt x.enc && (qC (yT x)).all eP)))))
        (K (.tup []) (h.put k fun v => .cells el v (qBU l off (yT x)))) .fail
     | _ => .fail)
   | .elt k g m w j off => (match slk k h.l with
     | some (.list el gr g' _ t' xs) => cond (Nat.beq g g' && (Nat.beq w t'.w && (Nat.beq n (yT x).length && (Nat.ble (off + n) w && (pnt x.enc && (qC (yT x)).all eP)))))
        (.bind (xs[j]?) fun y => match t'.decA (qBU (t'.svs y) off (yT x)) with
          | some z => K (.tup []) (h.put k fun v => .list el gr g v t' (List.set xs j z))
          | none => .fail) .fail
     | _ => .fail)
   | _ => .fail)
 | none => .fail
theorem qSC {a : SV} {K : SV -> SH -> Tree R} (ho : OkH P h) (ha : a.ok h) (hx : x.ok h) (e : (qTP P t a x h K).run = some r) :
 ∃ h', nY P t a.enc x.enc (qF h.l) = some (qF h'.l) ∧ Keep h h' ∧ OkH P h' ∧ (K (.tup []) h').run = some r := by
 unfold qTP at e;split at e
 ·rename_i n hn;split at e
  ·rename_i k off w;split at e
   ·rename_i el w' l hk;obtain ⟨h1, h2⟩ := qJ e;rw [Bool.and_eq_true, Bool.not_eq_true'] at h1;obtain ⟨hsp, h1⟩ := h1;have hp := qAD (f := fun v => .cells el v (qBU l off (yT x))) ho hk ⟨rfl, qOO (ho.cells _ _ _ _ hk) (qB6 hx)⟩;refine ⟨_, ?_, hp.1, hp.2, h2⟩;simp only [SV.enc, nY, vG hk, hn];show cond (spec P el) none (cond (Nat.beq w (qC l).length && (Nat.beq n (zX x.enc).length && (Nat.ble (off + n) (qC l).length && (pnt x.enc && (zX x.enc).all eP)))) _ _) = _;rw [bQ, zY, zY, h1, hsp];simp only [cond_true];rw [show qF (h.put k fun v => .cells el v (qBU l off (yT x))).l = fK k (SO.enc (.cells el h.next (qBU l off (yT x)))) (qF h.l) from bC k _ _];show some (fK k ⟨el, false, kV (qC l) off (qC (yT x))⟩ (qF h.l)) = some (fK k ⟨el, false, qC (qBU l off (yT x))⟩ (qF h.l));rw [qAN]
   ·cases e
  ·rename_i k g m w j off;split at e
   ·rename_i el gr g' w' t' xs hk;obtain ⟨h1, h2⟩ := qJ e;simp only [Bool.and_eq_true] at h1;obtain ⟨q1, q2, q3, q4, q5, q6⟩ := h1;have hg : g = g' := Nat.eq_of_beq_eq_true q1;have hw : w = t'.w := Nat.eq_of_beq_eq_true q2;subst hg hw;obtain ⟨y, hy, h3⟩ := run_bind h2;split at h3
    ·rename_i z hz;have hp := qAD (f := fun v => .list el gr g v t' (List.set xs j z)) ho hk ⟨_, rfl, by simp⟩;refine ⟨_, ?_, hp.1, hp.2, h3⟩;simp only [SV.ok] at ha;have hm : m = xs.length := ha.2 _ _ _ _ _ hk;have hle : off + n <= t'.w := Nat.le_of_ble_eq_true q4;simp only [SV.enc, nY, vG hk, hn];rw [zH, hm, bQ, zY, show spec P (SO.list el gr g w' t' xs).enc.el = false from jW (ho.list _ _ _ _ _ _ _ hk).2.1]
     have hjl : j * t'.w + off + n <= xs.length * t'.w := by
      have := qLD hy hle
      rwa [xW] at this
     rw [q3, q5, q6, show Nat.ble (j * t'.w + off + n) (xs.length * t'.w) = true from Nat.ble_eq_true_of_le hjl];simp only [qAF, Bool.and_self, cond_true, cond_false];rw [show qF (h.put k fun v => .list el gr g v t' (List.set xs j z)).l = fK k (SO.enc (.list el gr g h.next t' (List.set xs j z))) (qF h.l) from bC k _ _];show some (fK k ⟨el, gr, kV ((xs.flatMap t'.cells).map .f) (j * t'.w + off) (qC (yT x))⟩ (qF h.l)) = some (fK k ⟨el, gr, ((List.set xs j z).flatMap t'.cells).map .f⟩ (qF h.l));have hnl : n = (qC (yT x)).length := by rw [zY]; exact Nat.eq_of_beq_eq_true q3
     rw [qQ6 hy (y := z) (by rw [<- hnl]; exact hle) (by rw [<- tV, <- qAN]; exact qGE hz)]
    ·cases h3
   ·cases e
  ·cases e
 ·cases e
end
end Go.Sv
namespace Go.Sv
open Go.Idl
variable {el t : TypeId} {i k n off w : Nat} {ix v x : SV}
noncomputable section
variable [Gc]
variable [Yl]
variable {P : Program} {h : SH} {R : Type} {r : R}
def tyL : List (Option Ty) -> Option Ty
 | [] => some .unit
 | [t] => t.map fun t => .pair t .unit
 | [a, b] => match a, b with
   | some a, some b => some (.pair a b)
   | _, _ => none
 | a :: l => match a, tyL l with
   | some a, some b => some (.pair a b)
   | _, _ => none
def qQO (P : Program) : Nat -> TypeId -> Option Ty
 | 0, _ => none
 | n + 1, t => match P.underlying t with
   | some (.int k) => some (.int k)
   | some .bool => some .bool
   | some .string => some .str
   | some (.slice el) => (match qQO P n el with
     | some u => some (.list el u)
     | none => none)
   | some (.struct fields) => tyL (fields.toList.map fun f => qQO P n f.type)
   | some (.array k el) => tyL (List.replicate k (qQO P n el))
   | _ => none
def zcS (P : Program) (t : TypeId) : Option (List SV) := match pK P t with
 | some z => cond (vQ okC z.cells.toList) (some (kZ .c z.cells.toList)) none
 | none => none
theorem qFC {l : List SV} (e : zcS P t = some l) : zc P t = some (qC l) ∧ okL h l := by
 unfold zcS at e;unfold zc;split at e
 ·rename_i z hz
  cases hc : vQ okC z.cells.toList with
  | false => rw [hc] at e; cases e
  | true =>
    rw [hc] at e;cases e;rw [hz];simp only [hc, cond_true];exact ⟨by rw [q8J], q8G _⟩
 ·cases e
def qWA (P : Program) (el : TypeId) (k : Nat) (h : SH) (K : SV -> SH -> Tree R) : Tree R := match zcS P el with
 | some l => cond (spec P el) .fail (K (.ref k 0 l.length) (h.new k fun v => .cells el v l))
 | none => .fail
theorem qSG {K : SV -> SH -> Tree R} (ho : OkH P h) (e : (qWA P el k h K).run = some r) : ∃ v h', qDB P el k (qF h.l) = some (v.enc, qF h'.l) ∧ Post P h h' v ∧ (K v h').run = some r := by
 unfold qWA at e;split at e
 ·rename_i l hl;obtain ⟨h1, h2⟩ := qFC (h := h) hl;have hp := vJ (k := k) (f := fun v => .cells el v l) ho ⟨rfl, h2⟩
  cases hsp : spec P el with
  | true => rw [hsp] at e; cases e
  | false =>
  rw [hsp] at e;refine ⟨_, _, ?_, ⟨hp.1, hp.2, by simp [SV.ok]⟩, e⟩;simp only [qDB, h1, qQU, SV.enc, zY, hsp, cond_false];rfl
 ·cases e
def zA6 (P : Program) (el : TypeId) (v : SV) (k : Nat) (h : SH) (K : SV -> SH -> Tree R) : Tree R :=
 cond (!(spec P el) && (pnt v.enc && (qC (yT v)).all eP)) (K (.ref k 0 (yT v).length) (h.new k fun n => .cells el n (yT v))) .fail
theorem q18 {K : SV -> SH -> Tree R} (ho : OkH P h) (hv : v.ok h) (e : (zA6 P el v k h K).run = some r) : ∃ x h', q5N P el v.enc k (qF h.l) = some (x.enc, qF h'.l) ∧ Post P h h' x ∧ (K x h').run = some r := by
 obtain ⟨h1, h2⟩ := qJ e;have hp := vJ (k := k) (f := fun n => .cells el n (yT v)) ho ⟨rfl, qB6 hv⟩;refine ⟨_, _, ?_, ⟨hp.1, hp.2, by simp [SV.ok]⟩, h2⟩;unfold q5N;rw [bQ, h1];simp only [cond_true, qQU, SV.enc, zY];rfl
def qS4 (place : Nat -> Option (Nat × Nat)) : List SV -> List (Nat × SV) -> Option (List SV)
 | cells, [] => some cells
 | cells, (i, v) :: rest => match place i with
   | some (off, size) => cond (Nat.beq (yT v).length size && (Nat.ble (off + size) cells.length && (pnt v.enc && (qC (yT v)).all eP))) (qS4 place (qBU cells off (yT v)) rest) none
   | none => none
def q5T (l : List (Nat × SV)) : List (Nat × PV) := l.map fun p => (p.1, p.2.enc)
theorem qFM {place : Nat -> Option (Nat × Nat)} : ∀ {l cs : List SV} {parts : List (Nat × SV)}, qS4 place l parts = some cs -> qJ5 place (qC l) (q5T parts) = some (qC cs) ∧ (okL h l -> (∀ p ∈ parts, p.2.ok h) -> okL h cs)
 | l, cs, [], e => by cases e; exact ⟨rfl, fun a _ => a⟩
 | l, cs, (i, v) :: rest, e => by
   unfold qS4 at e;split at e
   ·rename_i off size hpl
    cases hc : (Nat.beq (yT v).length size && (Nat.ble (off + size) l.length && (pnt v.enc && (qC (yT v)).all eP))) with
    | false => rw [hc] at e; cases e
    | true =>
      rw [hc] at e;obtain ⟨h1, h2⟩ := qFM (l := qBU l off (yT v)) e;refine ⟨?_, fun a b => h2 (qOO a (qB6 (b _ List.mem_cons_self))) fun p hp => b p (List.mem_cons_of_mem _ hp)⟩
      show (match place i with
       | some (off, size) => cond (Nat.beq (zX v.enc).length size && (Nat.ble (off + size) (qC l).length && (pnt v.enc && (zX v.enc).all eP))) (qJ5 place (kV (qC l) off (zX v.enc)) (q5T rest)) none
       | none => none) = some (qC cs)
      rw [hpl];simp only;rw [bQ, zY, zY, hc, <- qAN];exact h1
   ·cases e
def qW6 (P : Program) (t : TypeId) (parts : List (Nat × SV)) : Option SV := match zcS P t with
 | some z => cond (qAS P t) (match qS4 (qU1 P t) z parts with
   | some cs => some (.agg cs)
   | none => none) none
 | none => none
theorem qS6 {parts : List (Nat × SV)} (hp : ∀ p ∈ parts, p.2.ok h) (e : qW6 P t parts = some v) : qJQ P t (q5T parts) = some v.enc ∧ v.ok h := by
 unfold qW6 at e;split at e
 ·rename_i z hz;obtain ⟨h1, h2⟩ := qFC (h := h) hz
  cases hb : qAS P t with
  | false => rw [hb] at e; cases e
  | true =>
    rw [hb] at e;simp only [cond_true] at e;split at e
    ·rename_i cs hcs;cases e;obtain ⟨h3, h4⟩ := qFM (h := h) hcs;simp only [qJQ, h1, hb, cond_true, h3, SV.enc, SV.ok, true_and];exact h4 h2 hp
    ·cases e
 ·cases e
def Ty.decs (t : Ty) : Nat -> List SV -> Option (List t.sem)
 | 0, [] => some []
 | 0, _ :: _ => none
 | n + 1, l => match t.decL l with
   | some (x, l') => (match t.decs n l' with
     | some xs => some (x :: xs)
     | none => none)
   | none => none
theorem qNH {t : Ty} : ∀ {n : Nat} {l : List SV} {xs : List t.sem}, t.decs n l = some xs -> qC l = (xs.flatMap t.cells).map .f ∧ xs.length = n
 | 0, [], xs, e => by cases e; simp [qC]
 | 0, _ :: _, xs, e => by cases e
 | n + 1, l, xs, e => by
   unfold Ty.decs at e;split at e
   ·rename_i x l' hx;split at e
    ·rename_i ys hy;cases e;obtain ⟨h1, h2⟩ := qNH hy;rw [sZ hx, h1, List.flatMap_cons, List.map_append];exact ⟨rfl, by rw [List.length_cons, h2]⟩
    ·cases e
   ·cases e
def q8Y (n : Nat) (z : List SV) : List SV := (List.replicate n z).flatten
theorem q0O (n : Nat) (z : List SV) : qC (q8Y n z) = qHX n (qC z) := by simp [q8Y, qHX, zK, List.map_flatten]
def dW (P : Program) (t : TypeId) (len : Nat) (parts : List (Nat × SV)) (k : Nat) (h : SH) (K : SV -> SH -> Tree R) : Tree R := match xH P t with
 | some el => (match szT P el, zcS P el, qQO P 8 el with
   | some (s + 1), some z, some ty => cond (Nat.beq ty.w (s + 1)) (cond (Nat.beq z.length (s + 1) && Nat.ble (len * (s + 1)) 65536) (match qS4 (fun i => some (i * (s + 1), s + 1)) (q8Y len z) parts with
     | some cs => (match ty.decs len cs with
       | some xs => K (.own k h.next len) (h.new k fun v => .list el false v v ty xs)
       | none => .fail)
     | none => .fail) .fail) .fail
   | _, _, _ => .fail)
 | none => .fail
omit [Yl] in
theorem fZ {gr : Bool} {ty : Ty} {xs : List ty.sem} (hn : n = xs.length) : (SV.own k h.next n).ok (h.new k fun v => .list el gr v v ty xs) := by
 simp only [SV.ok];refine ⟨Nat.lt_succ_self _, fun el' gr' w' t' xs' hk => ?_⟩;rw [show slk k (h.new k fun v => .list el gr v v ty xs).l = some (.list el gr h.next h.next ty xs) from wU] at hk;cases hk;exact hn
theorem qCT {len : Nat} {parts : List (Nat × SV)} {K : SV -> SH -> Tree R} (ho : OkH P h) (hp : ∀ p ∈ parts, p.2.ok h) (e : (dW P t len parts k h K).run = some r) :
 ∃ v h', jV P t len (q5T parts) k (qF h.l) = some (v.enc, qF h'.l) ∧ Post P h h' v ∧ (K v h').run = some r := by
 unfold dW at e;split at e
 ·rename_i el hel;split at e
  ·rename_i s z ty hs hz hty;obtain ⟨e1, e⟩ := qJ e;obtain ⟨e2, e⟩ := qJ e;split at e
   ·rename_i cs hcs;split at e
    ·rename_i xs hxs;obtain ⟨z1, z2⟩ := qFC (h := h) hz;obtain ⟨f1, f2⟩ := qFM (h := h) hcs;obtain ⟨d1, d2⟩ := qNH hxs;have hw : ty.w = s + 1 := Nat.eq_of_beq_eq_true e1;have hn := vJ (k := k) (f := fun v => .list el false v v ty xs) ho ⟨rfl, rfl, by rw [hs, hw], by omega⟩;refine ⟨_, _, ?_, ⟨hn.1, hn.2, fZ d2.symm⟩, e⟩;rw [q0O] at f1;simp only [jV, hel, hs, z1, zY, e2, cond_true, f1, qQU, SV.enc, d1];rfl
    ·cases e
   ·cases e
  ·cases e
 ·cases e
def q3L (P : Program) (t : TypeId) (l : SV) (k : Nat) (h : SH) (K : SV -> SH -> Tree R) : Tree R := match xH P t, asI l with
 | some el, some (_, n) => (match szT P el, zcS P el, qQO P 8 el with
   | some (s + 1), some z, some ty => cond (wS P el && (Nat.beq z.length (s + 1) && Nat.beq ty.w (s + 1))) (match ty.decA z with
     | some z0 => .bind (mkN n) fun N => K (.own k h.next N) (h.new k fun v => .list el false v v ty (List.replicate N z0))
     | none => .fail) .fail
   | _, _, _ => .fail)
 | _, _ => .fail
omit [Yl] in
theorem qNX {t : Ty} {z : t.sem} : ∀ (n : Nat), ((List.replicate n z).flatMap t.cells).map PV.f = qHX n ((t.cells z).map .f)
 | 0 => rfl
 | n + 1 => by
   rw [List.replicate_succ, List.flatMap_cons, List.map_append, qNX n];simp [qHX, List.replicate_succ]
theorem qZC {l : SV} {K : SV -> SH -> Tree R} (ho : OkH P h) (e : (q3L P t l k h K).run = some r) :
 ∃ v h', vW P t l.enc l.enc k (qF h.l) = some (v.enc, qF h'.l) ∧ Post P h h' v ∧ (K v h').run = some r := by
 unfold q3L at e;split at e
 ·rename_i el ki n hel hl;split at e
  ·rename_i s z ty hs hz hty;obtain ⟨e1, e⟩ := qJ e;simp only [Bool.and_eq_true] at e1;obtain ⟨q1, q2, q3⟩ := e1;split at e
   ·rename_i z0 hz0;obtain ⟨N, hN, e⟩ := run_bind e;obtain ⟨z1, z2⟩ := qFC (h := h) hz;have hw : ty.w = s + 1 := Nat.eq_of_beq_eq_true q3;have hn := vJ (k := k) (f := fun v => .list el false v v ty (List.replicate N z0)) ho ⟨rfl, rfl, by rw [hs, hw], by omega⟩;refine ⟨_, _, ?_, ⟨hn.1, hn.2, fZ (xs := List.replicate N z0) (by simp)⟩, e⟩;rw [jG hl];simp only [vW, fvv, hel, decide_true, cond_true, hN, hs, z1, zY, q1, q2, Bool.and_self, qQU, SV.enc];show some (PV.own k N 0 N, (k, (⟨el, false, qHX N (qC z)⟩ : PO)) :: qF h.l) = some (PV.own k N 0 N, (k, ⟨el, false, ((List.replicate N z0).flatMap ty.cells).map PV.f⟩) :: qF h.l);rw [qNX, qGE hz0]
   ·cases e
  ·cases e
 ·cases e
def qXL (h : SH) : SV -> Bool
 | .ref k _ w => match slk k h.l with
   | some (.cells _ _ l) => Nat.beq w l.length
   | _ => false
 | .elt k g _ w _ _ => match slk k h.l with
   | some (.list _ _ g' _ t _) => Nat.beq g g' && Nat.beq w t.w
   | _ => false
 | .lp _ _ _ _ => true
 | _ => false
theorem qF5 (e : qXL h (.ref k off w) = true) : live? k w (qF h.l) = true := by
 simp only [qXL] at e;split at e
 ·rename_i el w' l hk;unfold live?;rw [vG hk];show Nat.beq w (qC l).length = true;rw [zY]; exact e
 ·cases e
theorem qE2 {g j : Nat} (ho : (SV.elt k g n w j off).ok h) (e : qXL h (.elt k g n w j off) = true) : live? k (n * w) (qF h.l) = true := by
 simp only [qXL] at e;split at e
 ·rename_i el gr g' w' t xs hk;rw [Bool.and_eq_true] at e;have hg : g = g' := Nat.eq_of_beq_eq_true e.1;have hw : w = t.w := Nat.eq_of_beq_eq_true e.2;subst hg hw;simp only [SV.ok] at ho;unfold live?;rw [vG hk];show Nat.beq (n * t.w) (SO.list el gr g w' t xs).enc.cs.length = true;rw [zH, ho.2 _ _ _ _ _ hk]; exact qAF _
 ·cases e
def qXF (n : Nat) : SV -> SV
 | .ref k off w => .ref k (off + n) w
 | .elt k g m w j off => .elt k g m w j (off + n)
 | .lp t xs j off => .lp t xs j (off + n)
 | v => v
def zBZ : SV -> Bool
 | .ref _ _ _ => true
 | .elt _ _ _ _ _ _ => true
 | .lp _ _ _ _ => true
 | _ => false
omit [Yl] in
theorem qUK (hv : v.ok h) : (qXF n v).ok h := by
 cases v <;> simp only [qXF, SV.ok] at hv ⊢ <;> exact hv
def oG (P : Program) (t : TypeId) (x : SV) (i : Nat) (h : SH) : Option SV := match q5S P t i with
 | some (off, ft) => (match szT P ft with
   | some (_ + 1) => cond (qXL h x) (some (qXF off x)) none
   | _ => none)
 | none => none
theorem qFY (hx : x.ok h) (e : oG P t x i h = some v) : yG P t x.enc i (qF h.l) = some v.enc ∧ v.ok h := by
 unfold oG at e;unfold yG;split at e
 ·rename_i off ft hf;split at e
  ·rename_i s hs
   cases hl : qXL h x with
   | false => rw [hl] at e; cases e
   | true =>
     rw [hl] at e;cases e;refine ⟨?_, qUK hx⟩;simp only [hf, hs]
     cases x with
     | ref k o w => simp only [SV.enc, qXF, qF5 hl, cond_true]
     | elt k g n w j o => simp only [SV.enc, qXF, qE2 hx hl, cond_true, Nat.add_assoc]
     | lp t xs j o => simp only [SV.enc, qXF, Nat.add_assoc]
     | _ => cases hl
  ·cases e
 ·cases e
def qR8 (P : Program) (t : TypeId) (x : SV) (i : Nat) : Option SV := match q5S P t i, x with
 | some (off, ft), .agg l => qJO P ft l off
 | _, _ => none
theorem qTJ (hx : x.ok h) (e : qR8 P t x i = some v) : qC4 P t x.enc i = some v.enc ∧ v.ok h := by
 unfold qR8 at e;split at e
 ·rename_i off ft l hf;obtain ⟨h1, h2⟩ := tO (h := h) e;simp only [SV.ok] at hx;refine ⟨?_, h2 hx⟩;simp only [qC4, hf, SV.enc];exact h1
 ·cases e
def q8L (n : Nat) (ix : SV) (K : Nat -> Tree R) : Tree R := match ix with
 | .c (.int _ i) => (match idx n i with
   | some j => K j
   | none => .fail)
 | v => (match asI v with
   | some (_, i) => .bind (idx n i) K
   | none => .fail)
theorem qVR {K : Nat -> Tree R} (e : (q8L n ix K).run = some r) : ∃ k i j, ix.enc = fvv (.int k i) ∧ idx n i = some j ∧ (K j).run = some r := by
 unfold q8L at e;split at e
 ·rename_i k i;split at e
  ·rename_i j hj;exact ⟨k, i, j, by simp [SV.enc], hj, e⟩
  ·cases e
 ·split at e
  ·rename_i k i hi;obtain ⟨j, hj, e⟩ := run_bind e;exact ⟨k, i, j, jG hi, hj, e⟩
  ·cases e
def pV (P : Program) (t : TypeId) (x ix : SV) (h : SH) (K : SV -> Tree R) : Tree R := match x with
 | .d (.list el u) xs => (match asI ix, xH P t with
   | some (_, i), some el' => (match szT P el' with
     | some s => cond (Nat.beq s u.w) (.bind (idx (List.length xs) i) fun j => K (.lp u xs j 0)) .fail
     | none => .fail)
   | _, _ => .fail)
 | .own k g n => (match asI ix, xH P t, slk k h.l with
   | some (_, i), some el', some (.list el _ g' _ u _) => cond (Nat.beq el' el && Nat.beq g g') (.bind (idx n i) fun j => K (.elt k g n u.w j 0)) .fail
   | _, _, _ => .fail)
 | .sl k g n o m => (match asI ix, xH P t, slk k h.l with
   | some (_, i), some el', some (.list el _ g' _ u _) => cond (Nat.beq el' el && Nat.beq g g') (.bind (idx m i) fun j => K (.elt k g n u.w (o + j) 0)) .fail
   | _, _, _ => .fail)
 | x => (match qSU P t with
   | some (n, el) => (match szT P el with
     | some s => cond (zBZ x && qXL h x) (q8L n ix fun j => K (qXF (j * s) x)) .fail
     | none => .fail)
   | none => .fail)
theorem qEW {K : SV -> Tree R} (ho : OkH P h) (hx : x.ok h) (e : (pV P t x ix h K).run = some r) : ∃ v, zF P t x.enc ix.enc (qF h.l) = some v.enc ∧ v.ok h ∧ (K v).run = some r := by
 unfold pV at e;split at e
 ·rename_i el u xs;split at e
  ·rename_i k i el' hi hel;split at e
   ·rename_i s hs;obtain ⟨h1, e1⟩ := qJ e;obtain ⟨j, hj, e2⟩ := run_bind e1;have hw : s = u.w := Nat.eq_of_beq_eq_true h1;subst hw;refine ⟨_, ?_, by simp [SV.ok], e2⟩;rw [jG hi];simp only [SV.enc, Ty.fv, fvv, zF, hel, hs, hj, Nat.add_zero]
   ·cases e
  ·cases e
 ·rename_i k g n;split at e
  ·rename_i ki i el' el gr g' w u xs hi hel hk;obtain ⟨h1, e1⟩ := qJ e;obtain ⟨j, hj, e2⟩ := run_bind e1;rw [Bool.and_eq_true] at h1;have hg : g = g' := Nat.eq_of_beq_eq_true h1.2;subst hg;simp only [SV.ok] at hx;have hn := hx.2 _ _ _ _ _ hk;have hl := ho.list _ _ _ _ _ _ _ hk;refine ⟨_, ?_, by simp only [SV.ok]; exact hx, e2⟩;rw [jG hi];simp only [SV.enc, fvv, zF, hel, vG hk]
   show (match szT P el with
    | some s => (match idx n i with
      | some j => cond (Nat.beq el' el && Nat.beq (n * s) (SO.list el gr g w u xs).enc.cs.length) (some (PV.ref k (SO.list el gr g w u xs).enc.cs.length ((0 + j) * s))) none
      | none => none)
    | none => none) = _
   rw [hl.2.1, hj];simp only [zH, hn, qAF, h1.1, Bool.and_self, cond_true, Nat.zero_add, Nat.add_zero]
  ·cases e
 ·rename_i k g n o m;split at e
  ·rename_i ki i el' el gr g' w u xs hi hel hk;obtain ⟨h1, e1⟩ := qJ e;obtain ⟨j, hj, e2⟩ := run_bind e1;rw [Bool.and_eq_true] at h1;have hg : g = g' := Nat.eq_of_beq_eq_true h1.2;subst hg;simp only [SV.ok] at hx;have hn := hx.1.2 _ _ _ _ _ hk;have hl := ho.list _ _ _ _ _ _ _ hk;refine ⟨_, ?_, by simp only [SV.ok]; exact hx.1, e2⟩;rw [jG hi];simp only [SV.enc, fvv, zF, hel, vG hk]
   show (match szT P el with
    | some s => (match idx m i with
      | some j => cond (Nat.beq el' el && Nat.beq (n * s) (SO.list el gr g w u xs).enc.cs.length) (some (PV.ref k (SO.list el gr g w u xs).enc.cs.length ((o + j) * s))) none
      | none => none)
    | none => none) = _
   rw [hl.2.1];simp only [hj, zH, hn, qAF, h1.1, Bool.and_self, cond_true, Nat.add_zero]
  ·cases e
 ·split at e
  ·rename_i n el ha;split at e
   ·rename_i s hs;obtain ⟨h1, e⟩ := qJ e;rw [Bool.and_eq_true] at h1;obtain ⟨ki, i, j, hi, hj, e⟩ := qVR e;refine ⟨_, ?_, qUK hx, e⟩;rw [hi]
    cases x with
    | ref k o w => simp only [SV.enc, qXF, fvv, zF, ha, hs, hj, qF5 h1.2, cond_true]
    | elt k g n w j o => simp only [SV.enc, qXF, fvv, zF, ha, hs, hj, qE2 hx h1.2, cond_true, Nat.add_assoc]
    | lp t xs j o => simp only [SV.enc, qXF, fvv, zF, ha, hs, hj, Nat.add_assoc]
    | _ => cases h1.1
   ·cases e
  ·cases e
def qUG (P : Program) (t : TypeId) (x ix : SV) (K : SV -> Tree R) : Tree R := match qSU P t, x with
 | some (n, el), .agg l => (match szT P el with
   | some s => q8L n ix fun j => match qJO P el l (j * s) with
     | some v => K v
     | none => .fail
   | none => .fail)
 | _, _ => .fail
theorem qR6 {K : SV -> Tree R} (hx : x.ok h) (e : (qUG P t x ix K).run = some r) : ∃ v, qD3 P t x.enc ix.enc = some v.enc ∧ v.ok h ∧ (K v).run = some r ∧ ∃ l, x = .agg l := by
 unfold qUG at e;split at e
 ·rename_i n el l ha;split at e
  ·rename_i s hs;obtain ⟨ki, i, j, hi, hj, e⟩ := qVR e;split at e
   ·rename_i v hv;obtain ⟨h1, h2⟩ := tO (h := h) hv;simp only [SV.ok] at hx;refine ⟨v, ?_, h2 hx, e, l, rfl⟩;rw [hi];simp only [qD3, ha, SV.enc, fvv, hs, hj];exact h1
   ·cases e
  ·cases e
 ·cases e
def qGR (v : SV) (i : Nat) : Option SV := match v with
 | .tup l => (match z8 l i with
   | some x => cond (pnt x.enc) (some x) none
   | none => none)
 | _ => none
theorem qKI (hx : x.ok h) (e : qGR x i = some v) : bK x.enc i = some v.enc ∧ v.ok h := by
 unfold qGR at e;split at e
 ·rename_i l;split at e
  ·rename_i y hy
   cases hp : pnt y.enc with
   | false => rw [hp] at e; cases e
   | true =>
     rw [hp] at e;cases e;simp only [SV.ok] at hx;refine ⟨?_, qBM hx hy⟩;simp only [bK, SV.enc, kK, hy, Option.map_some, hp, cond_true]
  ·cases e
 ·cases e
def qAI (fn : Fn) (first cap : List SV) : Option SV := match fn with
 | .func g => some (match first, cap with
   | [], [] => .c (.func (.func g) #[] #[])
   | _, _ => .fn g first cap)
 | _ => none
theorem qI0 {fn : Fn} {first cap : List SV} (h1 : okL h first) (h2 : okL h cap) (e : qAI fn first cap = some v) : j6 fn (qC first) (qC cap) = some v.enc ∧ v.ok h := by
 unfold qAI at e;split at e
 ·rename_i g;cases e
  cases first with
  | nil => cases cap with
    | nil => exact ⟨by simp [j6, qC, SV.enc], by simp [SV.ok]⟩
    | cons x l => exact ⟨by simp [j6, qC, SV.enc], by simp only [SV.ok]; exact ⟨h1, h2⟩⟩
  | cons y l => exact ⟨by simp [j6, qC, SV.enc], by simp only [SV.ok]; exact ⟨h1, h2⟩⟩
 ·cases e
def qAJ (v : SV) (h : SH) : Option SV := match v with
 | .fn _ _ _ => some v
 | .c (.func (.func _) _ _) => some v
 | v => cond (qXL h v) (some v) none
theorem qIH {x v : SV} (hx : x.ok h) (e : qAJ x h = some v) : yZ x.enc (qF h.l) = some v.enc ∧ v.ok h := by
 unfold qAJ at e;split at e
 ·cases e; exact ⟨by simp [yZ, SV.enc], hx⟩
 ·cases e; exact ⟨by simp [yZ, SV.enc, fvv], hx⟩
 ·cases hl : qXL h x with
  | false => rw [hl] at e; cases e
  | true =>
    rw [hl] at e;cases e;refine ⟨?_, hx⟩
    cases x with
    | ref k o w => simp only [SV.enc, yZ, qF5 hl, cond_true]
    | elt k g n w j o => simp only [SV.enc, yZ, qE2 hx hl, cond_true]
    | lp t xs j o => simp only [SV.enc, yZ]
    | _ => cases hl
end
end Go.Sv
namespace Go.Sv
open Go.Idl
variable {el : TypeId} {k : Nat} {t : Ty} {x : SV}
noncomputable section
variable [Gc]
variable [Yl]
variable {P : Program} {h : SH} {R : Type} {r : R}
def q82 (P : Program) (ts : Array TypeId) (x : SV) (h : SH) : Option SV := match ts[0]? with
 | some t => (match xH P t with
   | some _ => (match x with
     | .d (.list _ _) xs => some (.d (.int .i64) ((List.length xs : Nat) : Int))
     | .c (.slice _ n _) => some (.c (.int .i64 (n : Int)))
     | .own k g n => (match slk k h.l with
       | some (.list _ _ g' _ _ _) => cond (Nat.beq g g') (some (.d (.int .i64) (n : Int))) none
       | _ => none)
     | .sl k g _ _ m => (match slk k h.l with
       | some (.list _ _ g' _ _ _) => cond (Nat.beq g g') (some (.d (.int .i64) (m : Int))) none
       | _ => none)
     | _ => none)
   | none => (match qSU P t with
     | some (n, _) => some (.c (.int .i64 (n : Int)))
     | none => none))
 | none => none
theorem q3O {ts : Array TypeId} {v : SV} (ho : OkH P h) (hx : x.ok h) (e : q82 P ts x h = some v) : qY7 P ts x.enc (qF h.l) = some v.enc ∧ v.ok h := by
 unfold q82 at e;unfold qY7;split at e
 ·rename_i t ht;split at e
  ·rename_i el hel;split at e
   ·rename_i el' u xs;cases e;simp [ht, hel, SV.enc, Ty.fv, fvv, SV.ok]
   ·rename_i a n c;cases e;simp [ht, hel, SV.enc, fvv, SV.ok]
   ·rename_i k g n;split at e
    ·rename_i el' gr g' w u xs hk
     obtain ⟨h1, e1⟩ : Nat.beq g g' = true ∧ some (SV.d (.int .i64) (n : Int)) = some v := by
      cases hb : Nat.beq g g' with
      | false => rw [hb] at e; cases e
      | true => rw [hb] at e; exact ⟨rfl, e⟩
     cases e1;have hg : g = g' := Nat.eq_of_beq_eq_true h1;subst hg;simp only [SV.ok] at hx;have hn := hx.2 _ _ _ _ _ hk;have hl := ho.list _ _ _ _ _ _ _ hk;refine ⟨?_, by simp [SV.ok]⟩;simp only [ht, hel, SV.enc, vG hk]
     show (match szT P el' with
      | some s => cond (Nat.beq (n * s) (SO.list el' gr g w u xs).enc.cs.length) (some (fvv (.int .i64 (n : Int)))) none
      | none => none) = _
     rw [hl.2.1];simp only [zH, hn, qAF, cond_true, Ty.fv, fvv]
    ·cases e
   ·rename_i k g n o m;split at e
    ·rename_i el' gr g' w u xs hk
     obtain ⟨h1, e1⟩ : Nat.beq g g' = true ∧ some (SV.d (.int .i64) (m : Int)) = some v := by
      cases hb : Nat.beq g g' with
      | false => rw [hb] at e; cases e
      | true => rw [hb] at e; exact ⟨rfl, e⟩
     cases e1;have hg : g = g' := Nat.eq_of_beq_eq_true h1;subst hg;simp only [SV.ok] at hx;have hn := hx.1.2 _ _ _ _ _ hk;have hl := ho.list _ _ _ _ _ _ _ hk;refine ⟨?_, by simp [SV.ok]⟩;simp only [ht, hel, SV.enc, vG hk]
     show (match szT P el' with
      | some s => cond (Nat.beq (n * s) (SO.list el' gr g w u xs).enc.cs.length) (some (fvv (.int .i64 (m : Int)))) none
      | none => none) = _
     rw [hl.2.1];simp only [zH, hn, qAF, cond_true, Ty.fv, fvv]
    ·cases e
   ·cases e
  ·rename_i hel;split at e
   ·rename_i n el ha;cases e;simp [ht, hel, ha, SV.enc, SV.ok]
   ·cases e
 ·cases e
def qEL (u t : Ty) (xs : List u.sem) : Option (List t.sem) := if e : u = t then some (e ▸ xs) else none
omit [Yl] in
theorem gZ {u : Ty} {xs : List u.sem} {ys : List t.sem} (e : qEL u t xs = some ys) : (⟨u, xs⟩ : (t : Ty) × List t.sem) = ⟨t, ys⟩ := by
 unfold qEL at e;split at e
 ·rename_i h;subst h;cases e;rfl
 ·cases e
def qYD (t : Ty) (x : SV) (h : SH) : Option (List t.sem) := match x with
 | .d (.list _ u) xs => qEL u t xs
 | .c (.slice none 0 _) => some []
 | .own k g _ => (match slk k h.l with
   | some (.list _ _ g' _ u xs) => cond (Nat.beq g g') (qEL u t xs) none
   | _ => none)
 | .sl k g _ o m => (match slk k h.l with
   | some (.list _ _ g' _ u xs) => cond (Nat.beq g g') (match qEL u t xs with
     | some xs => some ((xs.drop o).take m)
     | none => none) none
   | _ => none)
 | _ => none
theorem qN8 {ys : List t.sem} (ho : OkH P h) (hx : x.ok h) (e : qYD t x h = some ys) : qE5 P t.w x.enc (qF h.l) = some (ys.length, (ys.flatMap t.cells).map .f) := by
 unfold qYD at e;unfold qE5;split at e
 ·rename_i el u xs;cases gZ e;simp only [SV.enc, Ty.fv, xW, qAF, cond_true]
 ·cases e;simp [SV.enc, fvv]
 ·rename_i k g n;split at e
  ·rename_i el gr g' w u xs hk
   cases hb : Nat.beq g g' with
   | false => rw [hb] at e; cases e
   | true =>
     rw [hb] at e;have hg : g = g' := Nat.eq_of_beq_eq_true hb;subst hg;cases gZ e;simp only [SV.ok] at hx;have hn := hx.2 _ _ _ _ _ hk;have hl := ho.list _ _ _ _ _ _ _ hk;simp only [SV.enc, vG hk]
     show (match szT P el with
      | some s' => cond (Nat.beq (n * s') (SO.list el gr g w t ys).enc.cs.length && Nat.beq t.w s') (some (n, (((ys.flatMap t.cells).map PV.f).drop (0 * t.w)).take (n * t.w))) none
      | none => none) = _
     rw [hl.2.1];simp only [zH, hn, qAF, Bool.and_self, cond_true, Nat.zero_mul, List.drop_zero];rw [List.take_of_length_le (by rw [List.length_map, xW]; exact Nat.le_refl _)]
  ·cases e
 ·rename_i k g n o m;split at e
  ·rename_i el gr g' w u xs hk
   cases hb : Nat.beq g g' with
   | false => rw [hb] at e; cases e
   | true =>
     rw [hb] at e;have hg : g = g' := Nat.eq_of_beq_eq_true hb;subst hg;simp only [cond_true] at e;split at e
     case h_2 => cases e
     rename_i xs2 hxs2;cases e;cases gZ hxs2;simp only [SV.ok] at hx;have hn := hx.1.2 _ _ _ _ _ hk;have hl := ho.list _ _ _ _ _ _ _ hk;simp only [SV.enc, vG hk]
     show (match szT P el with
      | some s' => cond (Nat.beq (n * s') (SO.list el gr g w t xs2).enc.cs.length && Nat.beq t.w s') (some (m, (((xs2.flatMap t.cells).map PV.f).drop (o * t.w)).take (m * t.w))) none
      | none => none) = _
     rw [hl.2.1];simp only [zH, hn, qAF, Bool.and_self, cond_true];rw [<- List.map_drop, <- List.map_take, uR, uY]
     congr 1
     have := hx.2;rw [List.length_take, List.length_drop, Nat.min_eq_left (by omega)]
  ·cases e
 ·cases e
omit [Yl] in
theorem qG5 (ys : List t.sem) : ((ys.flatMap t.cells).map PV.f).all eP = true := by
 rw [List.all_eq_true];intro x hx;obtain ⟨y, _, rfl⟩ := List.mem_map.1 hx;rfl
omit [Yl] in
theorem qF1 {h0 : SH} {gr : Bool} {n m : Nat} {ty : Ty} {xs ys : List ty.sem} (hn : n = xs.length) (hm : m = ys.length) : (SV.own k h0.next (n + m)).ok (h0.new k fun v => .list el gr v v ty (xs ++ ys)) :=
 fZ (by rw [List.length_append, hn, hm])
def qMG (P : Program) (ts : List TypeId) (base x : SV) (k : Nat) (h : SH) (K : SV -> SH -> Tree R) : Tree R := match ts with
 | [st, xt] => (match xH P st, xH P xt with
   | some el, some _ => (match szT P el, qQO P 8 el with
     | some (s + 1), some t => cond (Nat.beq t.w (s + 1) && wS P el) (match qYD t x h with
       | some ys => (match base with
         | .c (.slice none 0 0) => .ite (Nat.beq ys.length 0) (K base h)
            (.ite (Nat.ble (0 + ys.length) 1048576) (K (.own k h.next (0 + ys.length)) (h.new k fun v => .list el true v v t ([] ++ ys))) .fail)
         | .own j g n => (match slk j h.l with
           | some (.list el' gr g' _ u xs) => cond (Nat.beq el' el && Nat.beq g g') (match qEL u t xs with
             | some xs => .ite (Nat.beq ys.length 0) (K base h)
                (.ite (Nat.ble (n + ys.length) 1048576) (cond gr (K (.own j h.next (n + ys.length)) ((h.del j).new j fun v => .list el true v v t (xs ++ ys))) (K (.own k h.next (n + ys.length)) (h.new k fun v => .list el true v v t (xs ++ ys)))) .fail)
             | none => .fail) .fail
           | _ => .fail)
         | _ => .fail)
       | none => .fail) .fail
     | _, _ => .fail)
   | _, _ => .fail)
 | _ => .fail
omit [Yl] in
theorem qF4 {xs ys : List t.sem} {ph : PHp} (h1 : Nat.ble (xs.length + ys.length) 1048576 = true) (h2 : wS P el = true) :
 qAU P el t.w ((xs.flatMap t.cells).map .f) xs.length ((ys.flatMap t.cells).map .f) ys.length k ph = some (.own k (xs.length + ys.length) 0 (xs.length + ys.length), (k, ⟨el, true, ((xs ++ ys).flatMap t.cells).map .f⟩) :: ph) := by
 unfold qAU;rw [h1, h2, List.length_map, xW, List.length_map, xW, qG5];simp only [qAF, Bool.and_self, cond_true, qQU];rw [List.flatMap_append, List.map_append]
theorem qP2 {ts : List TypeId} {base : SV} {K : SV -> SH -> Tree R} (ho : OkH P h) (hb : base.ok h) (hx : x.ok h) (e : (qMG P ts base x k h K).run = some r) :
 ∃ v h', gL P ts base.enc x.enc k (qF h.l) = some (v.enc, qF h'.l) ∧ Post P h h' v ∧ (K v h').run = some r := by
 unfold qMG at e;split at e
 ·rename_i st xt;split at e
  ·rename_i el el2 hel hel2;split at e
   ·rename_i s t hs hty;have e_ := qJ e;clear e;obtain ⟨c1, e⟩ := e_;rw [Bool.and_eq_true] at c1;have hw : s + 1 = t.w := (Nat.eq_of_beq_eq_true c1.1).symm;split at e
    ·rename_i ys hys;have hnw := qN8 ho hx hys;split at e
     ·have e_ := run_ite e;clear e
      rcases e_ with ⟨z, e⟩ | ⟨z, e⟩
      ·refine ⟨_, _, ?_, ⟨.refl _, ho, hb⟩, e⟩;simp only [gL, hel, hel2, hs, SV.enc, fvv];rw [hw, hnw];simp only [z, cond_true]
      ·have e_ := run_ite e;clear e
       rcases e_ with ⟨z2, e⟩ | ⟨z2, e⟩
       ·have hn := vJ (k := k) (f := fun v => .list el true v v t ([] ++ ys)) ho ⟨rfl, rfl, by rw [hs]; exact congrArg some hw, by omega⟩;refine ⟨_, _, ?_, ⟨hn.1, hn.2, qF1 (xs := []) rfl rfl⟩, e⟩;simp only [gL, hel, hel2, hs, SV.enc, fvv];rw [hw, hnw];simp only [z, cond_false];exact qF4 (xs := []) z2 c1.2
       ·cases e
     ·rename_i j g n;split at e
      ·rename_i el' gr g' w u xs0 hk;have e_ := qJ e;clear e;obtain ⟨c2, e⟩ := e_;rw [Bool.and_eq_true] at c2;have he : el' = el := Nat.eq_of_beq_eq_true c2.1;have hg : g = g' := Nat.eq_of_beq_eq_true c2.2;split at e
       ·rename_i xs hxs;have hcast := gZ hxs
        have hk2 : slk j h.l = some (.list el gr g w t xs) := by
         rw [hk, he, <- hg];cases hcast;rfl
        have hnl : n = xs.length := by
         simp only [SV.ok] at hb;exact hb.2 _ _ _ _ _ hk2
        have pre : ∀ z : PV × PHp, (cond (Nat.beq ys.length 0) (some (PV.own j n 0 n, qF h.l))
         (cond (Nat.ble (n + ys.length) n) (cond (Nat.beq ((ys.flatMap t.cells).map PV.f).length (ys.length * (s + 1)) && ((ys.flatMap t.cells).map PV.f).all eP) (some (PV.own j n 0 (n + ys.length), fK j { (SO.list el gr g w t xs).enc with cs := kV (SO.list el gr g w t xs).enc.cs (n * (s + 1)) ((ys.flatMap t.cells).map PV.f) } (qF h.l))) none)
           (cond gr (qAU P el (s + 1) (SO.list el gr g w t xs).enc.cs n ((ys.flatMap t.cells).map PV.f) ys.length j (qES j (qF h.l))) (qAU P el (s + 1) (SO.list el gr g w t xs).enc.cs n ((ys.flatMap t.cells).map PV.f) ys.length k (qF h.l))))) = some z ->
         gL P [st, xt] (SV.own j g n).enc x.enc k (qF h.l) = some z := fun z hz => by
         simp only [gL, hel, hel2, hs, SV.enc];rw [show qE5 P (s + 1) x.enc (qF h.l) = _ from (hw ▸ hnw)];simp only [vG hk2];rw [show (SO.list el gr g w t xs).enc.el = el from rfl, show Nat.beq (n * (s + 1)) (SO.list el gr g w t xs).enc.cs.length = true by rw [zH, hw, hnl]; exact qAF _];simp only [qAF, Bool.and_self, cond_true];exact hz
        have e_ := run_ite e;clear e
        rcases e_ with ⟨z, e⟩ | ⟨z, e⟩
        ·refine ⟨_, _, pre _ ?_, ⟨.refl _, ho, hb⟩, e⟩;rw [z]; simp [SV.enc]
        ·have e_ := run_ite e;clear e
         rcases e_ with ⟨z2, e⟩ | ⟨z2, e⟩
         ·have hpos : Nat.ble (n + ys.length) n = false := by
           cases hq : Nat.ble (n + ys.length) n with
           | false => rfl
           | true =>
             have h0 := Nat.le_of_ble_eq_true hq;have : ys.length = 0 := by omega
             rw [this] at z;cases z
          cases hgr : gr with
          | true =>
            rw [hgr] at e;have hd := pG (k := j) ho;have hn := vJ (h := h.del j) (k := j) (f := fun v => .list el true v v t (xs ++ ys)) hd.2 ⟨rfl, rfl, by rw [hs]; exact congrArg some hw, by omega⟩;refine ⟨_, _, pre _ ?_, ⟨hd.1.trans hn.1, hn.2, qF1 (h0 := h.del j) hnl rfl⟩, e⟩;rw [z, hpos, hgr];simp only [cond_true, cond_false];rw [hw, hnl];rw [hnl] at z2;rw [show (SO.list el true g w t xs).enc.cs = (xs.flatMap t.cells).map .f from rfl, qF4 z2 c1.2, <- nX];rfl
          | false =>
            rw [hgr] at e;have hn := vJ (h := h) (k := k) (f := fun v => .list el true v v t (xs ++ ys)) ho ⟨rfl, rfl, by rw [hs]; exact congrArg some hw, by omega⟩;refine ⟨_, _, pre _ ?_, ⟨hn.1, hn.2, qF1 (h0 := h) hnl rfl⟩, e⟩;rw [z, hpos, hgr];simp only [cond_true, cond_false];rw [hw, hnl];rw [hnl] at z2;rw [show (SO.list el false g w t xs).enc.cs = (xs.flatMap t.cells).map .f from rfl, qF4 z2 c1.2];rfl
         ·cases e
       ·cases e
      ·cases e
     ·cases e
    ·cases e
   ·cases e
  ·cases e
 ·cases e
end
end Go.Sv
namespace Go.Sv
open Go.Idl
noncomputable section
variable [Gc]
variable [Yl]
variable {P : Program} {h : SH} {R : Type} {r : R}
def sS {α : Type} (xs ys : List α) (o c : Nat) : List α := xs.take o ++ (ys.take c ++ xs.drop (o + c))
omit [Yl] in
theorem qXM {α : Type} {xs ys : List α} {o c : Nat} (h1 : o + c <= xs.length) (h2 : c <= ys.length) : xs.length = (sS xs ys o c).length := by
 simp [sS]; omega
omit [Yl] in
theorem qUI {t : Ty} {xs ys : List t.sem} {o c : Nat} (h2 : c <= ys.length) :
 kV ((xs.flatMap t.cells).map PV.f) (o * t.w) (((ys.flatMap t.cells).map PV.f).take (c * t.w)) = ((sS xs ys o c).flatMap t.cells).map PV.f := by
 have hl : (((ys.flatMap t.cells).map PV.f).take (c * t.w)).length = c * t.w := by
  rw [List.length_take, List.length_map, xW];exact Nat.min_eq_left (Nat.mul_le_mul_right _ h2)
 unfold kV;rw [hl, <- Nat.add_mul, <- List.map_take, <- List.map_take, <- List.map_drop, uY, uY, uR];unfold sS;simp [List.flatMap_append, List.append_assoc]
def q3P (P : Program) (ts : List TypeId) (base x : SV) (h : SH) (K : SV -> SH -> Tree R) : Tree R := match ts with
 | [st, xt] => (match xH P st, xH P xt with
   | some el, some _ => (match szT P el, qQO P 8 el with
     | some (s + 1), some t => cond (Nat.beq t.w (s + 1)) (match qYD t x h with
       | some ys => (match base with
         | .own j g n => (match slk j h.l with
           | some (.list el' gr g' _ u xs) => cond (Nat.beq el' el && Nat.beq g g') (match qEL u t xs with
             | some xs => K (.d (.int .i64) ((Nat.min ys.length n : Nat) : Int)) (h.put j fun v => .list el gr g v t (sS xs ys 0 (Nat.min ys.length n)))
             | none => .fail) .fail
           | _ => .fail)
         | .sl j g n o m => (match slk j h.l with
           | some (.list el' gr g' _ u xs) => cond (Nat.beq el' el && Nat.beq g g') (match qEL u t xs with
             | some xs => K (.d (.int .i64) ((Nat.min ys.length m : Nat) : Int)) (h.put j fun v => .list el gr g v t (sS xs ys o (Nat.min ys.length m)))
             | none => .fail) .fail
           | _ => .fail)
         | .d (.list _ _) xs => .ite (Nat.beq (List.length xs) 0) (K (.d (.int .i64) 0) h) .fail
         | .c (.slice none 0 _) => K (.d (.int .i64) 0) h
         | _ => .fail)
       | none => .fail) .fail
     | _, _ => .fail)
   | _, _ => .fail)
 | _ => .fail
theorem qXN {ts : List TypeId} {base x : SV} {K : SV -> SH -> Tree R} (ho : OkH P h) (hb : base.ok h) (hx : x.ok h) (e : (q3P P ts base x h K).run = some r) :
 ∃ v h', qFZ P ts base.enc x.enc (qF h.l) = some (v.enc, qF h'.l) ∧ Post P h h' v ∧ (K v h').run = some r := by
 unfold q3P at e;split at e
 ·rename_i st xt;split at e
  ·rename_i el el2 hel hel2;split at e
   ·rename_i s t hs hty;have e_ := qJ e;clear e;obtain ⟨c1, e⟩ := e_;have hw : s + 1 = t.w := (Nat.eq_of_beq_eq_true c1).symm;split at e
    ·rename_i ys hys;have hnw : qE5 P (s + 1) x.enc (qF h.l) = some (ys.length, (ys.flatMap t.cells).map .f) := hw ▸ qN8 ho hx hys;have hlen : ((ys.flatMap t.cells).map PV.f).length = ys.length * (s + 1) := by rw [List.length_map, xW, hw]
     have key : ∀ {j g n o m w : Nat} {gr : Bool} {xs : List t.sem}, slk j h.l = some (.list el gr g w t xs) -> n = xs.length -> o + m <= n ->
      (K (.d (.int .i64) ((Nat.min ys.length m : Nat) : Int)) (h.put j fun v => .list el gr g v t (sS xs ys o (Nat.min ys.length m)))).run = some r ->
      ∃ v h', qFZ P [st, xt] (.own j n o m) x.enc (qF h.l) = some (v.enc, qF h'.l) ∧ Post P h h' v ∧ (K v h').run = some r := by
      intro j g n o m w gr xs hk hn hom e;have hc : Nat.min ys.length m <= ys.length := Nat.min_le_left _ _;have hc2 : Nat.min ys.length m <= m := Nat.min_le_right _ _;have hp := qAD (f := fun v => .list el gr g v t (sS xs ys o (Nat.min ys.length m))) ho hk ⟨_, rfl, qXM (by omega) hc⟩;refine ⟨_, _, ?_, ⟨hp.1, hp.2, by simp [SV.ok]⟩, e⟩;simp only [qFZ, hel, hel2, hs, hnw, vG hk];rw [show (SO.list el gr g w t xs).enc.el = el from rfl, show Nat.beq (n * (s + 1)) (SO.list el gr g w t xs).enc.cs.length = true by rw [zH, hw, hn]; exact qAF _, hlen, qG5];simp only [qAF, Bool.and_self, cond_true];rw [show qF (h.put j fun v => .list el gr g v t (sS xs ys o (Nat.min ys.length m))).l = fK j (SO.list el gr g h.next t (sS xs ys o (Nat.min ys.length m))).enc (qF h.l) from bC j _ _];rw [hw];show some (_, fK j ⟨el, gr, kV ((xs.flatMap t.cells).map PV.f) (o * t.w) _⟩ (qF h.l)) = some (_, fK j ⟨el, gr, ((sS xs ys o (Nat.min ys.length m)).flatMap t.cells).map PV.f⟩ (qF h.l));rw [qUI hc];simp [SV.enc, Ty.fv, fvv]
     split at e
     ·rename_i j g n;split at e
      ·rename_i el' gr g' w u xs0 hk;have e_ := qJ e;clear e;obtain ⟨c2, e⟩ := e_;rw [Bool.and_eq_true] at c2;have he : el' = el := Nat.eq_of_beq_eq_true c2.1;have hg : g = g' := Nat.eq_of_beq_eq_true c2.2;split at e
       ·rename_i xs hxs;have hcast := gZ hxs
        have hk2 : slk j h.l = some (.list el gr g w t xs) := by
         rw [hk, he, <- hg];cases hcast;rfl
        simp only [SV.ok] at hb;exact key hk2 (hb.2 _ _ _ _ _ hk2) (by omega) e
       ·cases e
      ·cases e
     ·rename_i j g n o m;split at e
      ·rename_i el' gr g' w u xs0 hk;have e_ := qJ e;clear e;obtain ⟨c2, e⟩ := e_;rw [Bool.and_eq_true] at c2;have he : el' = el := Nat.eq_of_beq_eq_true c2.1;have hg : g = g' := Nat.eq_of_beq_eq_true c2.2;split at e
       ·rename_i xs hxs;have hcast := gZ hxs
        have hk2 : slk j h.l = some (.list el gr g w t xs) := by
         rw [hk, he, <- hg];cases hcast;rfl
        simp only [SV.ok] at hb;exact key hk2 (hb.1.2 _ _ _ _ _ hk2) hb.2 e
       ·cases e
      ·cases e
     ·rename_i el' u xs
      rcases run_ite e with ⟨z, e⟩ | ⟨z, e⟩
      ·refine ⟨_, _, ?_, ⟨.refl _, ho, by simp [SV.ok]⟩, e⟩;have hz : xs = [] := List.length_eq_zero_iff.1 (Nat.eq_of_beq_eq_true z);subst hz;simp [qFZ, hel, hel2, hs, hnw, SV.enc, Ty.fv, fvv]
      ·cases e
     ·refine ⟨_, _, ?_, ⟨.refl _, ho, by simp [SV.ok]⟩, e⟩;simp [qFZ, hel, hel2, hs, hnw, SV.enc, Ty.fv, fvv]
     ·cases e
    ·cases e
   ·cases e
  ·cases e
 ·cases e
def qOR (most : Nat) (i : Int) : Option Nat := if 0 <= i ∧ i <= (most : Int) then some i.toNat else none
def qRO (d most : Nat) (x : Option SV) (K : Nat -> Tree R) : Tree R := match x with
 | none => K d
 | some v => (match asI v with
   | some (_, i) => .bind (qOR most i) K
   | none => .fail)
theorem uL {d most : Nat} {x : Option SV} {K : Nat -> Tree R} (e : (qRO d most x K).run = some r) : ∃ n, bnd d most (x.map SV.enc) = some n ∧ (n = d ∨ n <= most) ∧ (K n).run = some r := by
 unfold qRO at e;split at e
 ·exact ⟨d, rfl, .inl rfl, e⟩
 ·rename_i v;split at e
  ·rename_i k i hi;have e_ := run_bind e;clear e;obtain ⟨n, hn, e⟩ := e_;refine ⟨n, ?_, .inr ?_, e⟩
   ·simp only [Option.map_some, jG hi, fvv, bnd]; exact hn
   ·unfold qOR at hn;split at hn
    ·cases hn; omega
    ·cases hn
  ·cases e
def qTZ (P : Program) (t : TypeId) (x : SV) (lo hi : Option SV) (h : SH) (K : SV -> Tree R) : Tree R := match x with
 | .d (.list el u) xs => (match xH P t, szT P el with
   | some el', some s => cond (Nat.beq el' el && Nat.beq s u.w) (qRO (List.length xs) (List.length xs) hi fun b => qRO 0 b lo fun a => K (.d (.list el u) ((List.drop a xs).take (b - a)))) .fail
   | _, _ => .fail)
 | .c (.slice none 0 0) => (match xH P t with
   | some el => cond (szT P el).isSome (qRO 0 0 hi fun _ => qRO 0 0 lo fun _ => K x) .fail
   | none => .fail)
 | .own k g n => (match xH P t, slk k h.l with
   | some el', some (.list el _ g' _ u _) => cond (Nat.beq el' el && Nat.beq g g') (qRO n n hi fun b => qRO 0 b lo fun a =>
      .ite (Nat.beq a 0) (K (.sl k g n 0 b)) (.ite (Nat.beq a b) (K (.d (.list el u) [])) (K (.sl k g n a (b - a))))) .fail
   | _, _ => .fail)
 | .sl k g n o m => (match xH P t, slk k h.l with
   | some el', some (.list el _ g' _ u _) => cond (Nat.beq el' el && Nat.beq g g') (qRO m m hi fun b => qRO 0 b lo fun a =>
      .ite (Nat.beq a 0) (K (.sl k g n o b)) (.ite (Nat.beq a b) (K (.d (.list el u) [])) (K (.sl k g n (o + a) (b - a))))) .fail
   | _, _ => .fail)
 | _ => .fail
theorem qRW {t : TypeId} {x : SV} {lo hi : Option SV} {K : SV -> Tree R} (ho : OkH P h) (hx : x.ok h) (e : (qTZ P t x lo hi h K).run = some r) :
 ∃ v, wX P t x.enc (lo.map SV.enc) (hi.map SV.enc) (qF h.l) = some v.enc ∧ v.ok h ∧ (K v).run = some r := by
 unfold qTZ at e
 have key : ∀ {k g n o m w : Nat} {gr : Bool} {el el' : TypeId} {u : Ty} {xs : List u.sem}, slk k h.l = some (.list el gr g w u xs) -> n = xs.length -> o + m <= n -> g < h.next -> xH P t = some el' -> Nat.beq el' el = true ->
  ∀ a b, bnd m m (hi.map SV.enc) = some b -> b <= m -> bnd 0 b (lo.map SV.enc) = some a -> a <= b ->
  (Tree.ite (Nat.beq a 0) (K (.sl k g n o b)) (.ite (Nat.beq a b) (K (.d (.list el u) [])) (K (.sl k g n (o + a) (b - a))))).run = some r ->
  ∃ v, wX P t (.own k n o m) (lo.map SV.enc) (hi.map SV.enc) (qF h.l) = some v.enc ∧ v.ok h ∧ (K v).run = some r := by
  intro k g n o m w gr el el' u xs hk hn hom hg hel hbe a b hb hbm ha hab e;have hl := ho.list _ _ _ _ _ _ _ hk
  have pre : wX P t (.own k n o m) (lo.map SV.enc) (hi.map SV.enc) (qF h.l) = some (cond (Nat.beq a 0) (.own k n o b) (cond (Nat.beq a b) (.f (.l el 0 [])) (.own k n (o + a) (b - a)))) := by
   simp only [wX, vG hk, hel];rw [show (SO.list el gr g w u xs).enc.el = el from rfl, hl.2.1, hb];simp only [ha, zH, hn, qAF, hbe, Bool.and_self, cond_true]
  have hsl : q1S h k g n := ⟨hg, fun el2 gr2 w2 t2 xs2 hk2 => by
   rw [hk] at hk2;cases hk2
   exact hn⟩
  rw [pre]
  rcases run_ite e with ⟨z, e⟩ | ⟨z, e⟩
  ·exact ⟨_, by rw [z]; simp [SV.enc], by simp only [SV.ok]; exact ⟨hsl, by omega⟩, e⟩
  ·rcases run_ite e with ⟨z2, e⟩ | ⟨z2, e⟩
   ·exact ⟨_, by rw [z, z2]; simp [SV.enc, Ty.fv], by simp [SV.ok], e⟩
   ·exact ⟨_, by rw [z, z2]; simp [SV.enc], by simp only [SV.ok]; exact ⟨hsl, by omega⟩, e⟩
 split at e
 ·rename_i el u xs;split at e
  ·rename_i el' s hel hs;have e_ := qJ e;clear e;obtain ⟨c1, e⟩ := e_;rw [Bool.and_eq_true] at c1;have hw : s = u.w := Nat.eq_of_beq_eq_true c1.2;have he : el' = el := Nat.eq_of_beq_eq_true c1.1;subst hw he;obtain ⟨b, hb, hb2, e1⟩ := uL e;obtain ⟨a, ha, ha2, e2⟩ := uL e1;have hbl : b <= xs.length := by rcases hb2 with q | q <;> omega
   have hab : a <= b := by rcases ha2 with q | q <;> omega
   refine ⟨_, ?_, by simp [SV.ok], e2⟩;simp only [SV.enc, Ty.fv, wX, hel, hs, hb, ha, qAF, xW, Bool.and_self, cond_true];rw [uR, uY]
   cases hq : Nat.beq a b with
   | true =>
     have : a = b := Nat.eq_of_beq_eq_true hq;subst this;simp
   | false =>
     simp only [cond_false, List.length_take, List.length_drop];rw [Nat.min_eq_left (by omega)]
  ·cases e
 ·split at e
  ·rename_i el hel;have e_ := qJ e;clear e;obtain ⟨c1, e⟩ := e_;obtain ⟨b, hb, hb2, e1⟩ := uL e;obtain ⟨a, ha, ha2, e2⟩ := uL e1;refine ⟨_, ?_, by simp [SV.ok], e2⟩;have hb' : bnd 0 0 (hi.map SV.enc) = some b := hb;simp only [SV.enc, fvv, wX, hel, hb', ha, c1, cond_true]
  ·cases e
 ·rename_i k g n;split at e
  ·rename_i el' el gr g' w u xs hel hk;have e_ := qJ e;clear e;obtain ⟨c1, e⟩ := e_;rw [Bool.and_eq_true] at c1;have hg : g = g' := Nat.eq_of_beq_eq_true c1.2;subst hg;obtain ⟨b, hb, hb2, e1⟩ := uL e;obtain ⟨a, ha, ha2, e2⟩ := uL e1;simp only [SV.ok] at hx;refine key hk (hx.2 _ _ _ _ _ hk) (by omega) hx.1 hel c1.1 a b hb (by rcases hb2 with q | q <;> omega) ha (by rcases ha2 with q | q <;> omega) ?_;rw [Nat.zero_add]; exact e2
  ·cases e
 ·rename_i k g n o m;split at e
  ·rename_i el' el gr g' w u xs hel hk;have e_ := qJ e;clear e;obtain ⟨c1, e⟩ := e_;rw [Bool.and_eq_true] at c1;have hg : g = g' := Nat.eq_of_beq_eq_true c1.2;subst hg;obtain ⟨b, hb, hb2, e1⟩ := uL e;obtain ⟨a, ha, ha2, e2⟩ := uL e1;simp only [SV.ok] at hx;exact key hk (hx.1.2 _ _ _ _ _ hk) hx.2 hx.1.1 hel c1.1 a b hb (by rcases hb2 with q | q <;> omega) ha (by rcases ha2 with q | q <;> omega) e2
  ·cases e
 ·cases e
end
end Go.Sv
namespace Go.Sv
open Go.Idl
variable [Gc]
variable {P : Program} {t t2 : TypeId} {a b : ByteArray} {ph : PHp}
theorem bN {v : Value} (h3 : qQ3 v = true) (h4 : ofC v = fvv v) : qRK (qJL H00 v) = some (fvv v) := by
 unfold qJL;rw [h3];show some (ofC v) = _;rw [h4]
theorem qKU {op : BinOp} {v : Value} (h1 : nilBin P (cop (.binOp op t (.const (.string a)) (.const (.string b)) t2)) op t (.string a) (.string b) [] H00 = kS P (cop (.binOp op t (.const (.string a)) (.const (.string b)) t2)) [] H00)
 (h2 : kL P (execOp (Env.val []) (cop (.binOp op t (.const (.string a)) (.const (.string b)) t2))) = some (.value v)) (h3 : qQ3 v = true) (h4 : ofC v = fvv v) : gF P op t t2 (fvv (.string a)) (fvv (.string b)) ph = some (fvv v) := by
 unfold gF;simp only [fvv, pl, q60, cond_false];show qRK (nilBin P _ op t (.string a) (.string b) [] H00) = _;rw [h1];unfold kS;have : yY (kZ (Env.val []) (cop (.binOp op t (.const (.string a)) (.const (.string b)) t2)).op.operands.toList) = true := rfl;rw [if_pos this, h2];exact bN h3 h4
theorem q33 (hl : a.size + b.size <= 9223372036854775807) : gF P .add t t2 (fvv (.string a)) (fvv (.string b)) ph = some (fvv (.string (a ++ b))) := by
 refine qKU rfl ?_ rfl rfl;have hm : IntKind.i64.max = 9223372036854775807 := rfl;have : ¬ (((a.size + b.size : Nat) : Int) > IntKind.i64.max) := by rw [hm]; omega
 show kL P (do eqGuard .add t (.const (.string a)) (.const (.string b)) (.string a) (.string b); let v <- Op.stringOp .add a b; pure (Next.value v)) = _;unfold Op.stringOp;simp only [this, if_false];rfl
theorem q4A : gF P .eql t t2 (fvv (.string a)) (fvv (.string b)) ph = some (fvv (.bool (a.toList == b.toList))) := qKU rfl rfl rfl rfl
theorem q4Q : gF P .neq t t2 (fvv (.string a)) (fvv (.string b)) ph = some (fvv (.bool (!(a.toList == b.toList)))) := qKU rfl rfl rfl rfl
theorem dB {α β : Type} (s : Sem α) (g : α -> Sem β) : kL P (s >>= g) = (kL P s).bind fun a => kL P (g a) := vB g s
theorem dP {α : Type} (a : α) : kL P (pure a : Sem α) = some a := rfl
theorem qZN {ts : Array TypeId} (hs : qXE P ts = true) : ∃ t, ts[0]? = some t ∧ P.underlying t = some .string := by
 unfold qXE at hs
 cases h0 : ts[0]? with
 | none => rw [h0] at hs; cases hs
 | some t =>
   rw [h0] at hs;simp only [Option.bind_some] at hs;split at hs
   ·rename_i hq; exact ⟨t, rfl, hq⟩
   ·cases hs
theorem q8C {t : TypeId} {ts : Array TypeId} {ty : TypeId} (h0 : ts[0]? = some t) (hu : P.underlying t = some .string) : kL P (Go.Builtin.len_ ts ty #[.string a]) = some (goInt a.size) := by
 unfold Go.Builtin.len_;simp only [h0, dB, yI, hu, Option.bind_some, List.getElem?_toArray, List.getElem?_cons_zero];rfl
theorem qPJ {x : Operand} {ts : Array TypeId} {ty : TypeId} {env : Env} (hs : qXE P ts = true) (hx : env.val x = .string a) :
 qRK (kS P (cop (.call ⟨.builtin .len, #[x], ts⟩) ty) env H00) = some (fvv (.int .i64 (a.size : Int))) := by
 have h2 : kZ env.val (cop (.call ⟨.builtin .len, #[x], ts⟩) ty).op.operands.toList = [env.val x] := rfl;unfold kS;rw [h2];obtain ⟨t, h0, hu⟩ := qZN hs;have hp : yY [env.val x] = true := by rw [hx]; rfl
 rw [if_pos hp]
 have he : kL P (execOp env.val (cop (.call ⟨.builtin .len, #[x], ts⟩) ty)) = some (.value (goInt a.size)) := by
  simp only [cop, execOp, resolve, List.map_toArray, List.map_cons, List.map_nil, hx];show kL P (do let v <- Go.Builtin.len_ ts ty #[.string a]; pure (Next.value v)) = _;rw [dB, q8C h0 hu]; rfl
 rw [he];exact bN rfl rfl
def q2Y (s : ByteArray) (i : Int) : Option Int := if 0 <= i then (s[i.toNat]?).map fun b => (b.toNat : Int) else none
theorem q0F {t : TypeId} {s : ByteArray} {k : IntKind} {i c : Int} {ty : TypeId} (hu : P.underlying t = some .string) (h : q2Y s i = some c) : qLT P (.index t (.const (.string s)) (.const (.int k i))) ty = some (fvv (.int .u8 c)) := by
 unfold qLT kS;have hp : yY (kZ (Env.val []) (cop (.index t (.const (.string s)) (.const (.int k i))) ty).op.operands.toList) = true := rfl;rw [if_pos hp]
 have he : kL P (execOp (Env.val []) (cop (.index t (.const (.string s)) (.const (.int k i))) ty)) = some (.value (.int .u8 c)) := by
  show kL P (do let v <- Instr.index t (.string s) (.int k i); pure (Next.value v)) = _;unfold q2Y at h;split at h
  ·rename_i hc;obtain ⟨b, hb, rfl⟩ := Option.map_eq_some_iff.1 h;unfold Instr.index;simp only [dB, yI, hu, Option.bind_some];have h0 : kL P (asIntOf (.int k i)) = some (k, i) := rfl;rw [h0];simp only [Option.bind_some, if_pos hc, hb, dP]
  ·cases h
 rw [he];exact bN rfl rfl
theorem sW {k : IntKind} {i : Int} {y n : Nat} {code : BoundsCode} (h : (if 0 <= i ∧ i <= (y : Int) then some i.toNat else none) = some n) : kL P (Instr.sliceBound (.int k i) y code) = some n := by
 unfold Instr.sliceBound;rw [dB];have h0 : kL P (asIntOf (.int k i)) = some (k, i) := rfl;rw [h0];simp only [Option.bind_some];split at h
 ·rename_i hc;rw [if_pos hc];cases h; rfl
 ·cases h
theorem qST {d most n : Nat} {x : Option PV} (h : bnd d most x = some n) : (x = none ∧ n = d) ∨ ∃ k i, x = some (fvv (.int k i)) ∧ (if 0 <= i ∧ i <= (most : Int) then some i.toNat else none) = some n := by
 unfold bnd at h;split at h
 ·cases h; exact .inl ⟨rfl, rfl⟩
 ·rename_i k i; exact .inr ⟨k, i, rfl, h⟩
 ·cases h
theorem qX9 {t : TypeId} {s : ByteArray} {lo hi : Option Operand} {l u : Nat} {env : List PV} {ty : TypeId} (hu : P.underlying t = some .string) (h1 : bnd s.size s.size (hi.map (qP env)) = some u) (h2 : bnd 0 u (lo.map (qP env)) = some l) :
 qLT P (.slice t (.const (.string s)) (lo.map fun a => .const ((pl (qP env a)).getD undef)) (hi.map fun a => .const ((pl (qP env a)).getD undef)) none) ty = some (fvv (.string (s.extract l u))) := by
 have opt : ∀ {o : Option Operand} {d most n : Nat}, bnd d most (o.map (qP env)) = some n -> (o = none ∧ n = d) ∨ ∃ k i, (o.map fun a => Operand.const ((pl (qP env a)).getD undef)) = some (.const (.int k i)) ∧ (if 0 <= i ∧ i <= (most : Int) then some i.toNat else none) = some n := fun {o d most n} h => by
  rcases qST h with ⟨q, e⟩ | ⟨k, i, q, e⟩
  ·cases o with
   | none => exact .inl ⟨rfl, e⟩
   | some a => cases q
  ·cases o with
   | none => cases q
   | some a =>
     have q : qP env a = fvv (.int k i) := by simpa using q
     exact .inr ⟨k, i, by simp [q, fvv, pl], e⟩
 unfold qLT kS
 have hk : ∀ (lo' hi' : Option Operand) (vl vh : Option Value), lo'.map (Env.val []) = vl -> hi'.map (Env.val []) = vh -> yY (kZ (Env.val []) (cop (.slice t (.const (.string s)) lo' hi' none) ty).op.operands.toList) = true ->
  kL P (Instr.sliceBounds false s.size s.size vl vh none) = some (l, u, s.size) -> qRK (if yY (kZ (Env.val []) (cop (.slice t (.const (.string s)) lo' hi' none) ty).op.operands.toList) = true then tX H00 (kL P (execOp (Env.val []) (cop (.slice t (.const (.string s)) lo' hi' none) ty))) else none) = some (fvv (.string (s.extract l u))) := by
  intro lo' hi' vl vh e1 e2 hp hb;rw [if_pos hp]
  have he : kL P (execOp (Env.val []) (cop (.slice t (.const (.string s)) lo' hi' none) ty)) = some (.value (.string (s.extract l u))) := by
   show kL P (do let v <- Instr.sliceAt t (.string s) (lo'.map (Env.val [])) (hi'.map (Env.val [])) none; pure (Next.value v)) = _;rw [e1, e2];unfold Instr.sliceAt;simp only [dB, yI, hu, Option.bind_some];unfold Instr.slice;simp only [dB, yI, hu, Option.bind_some];simp only [Option.isSome_none, Bool.false_eq_true, if_false, dB, hb, Option.bind_some, dP]
  rw [he];exact bN rfl rfl
 have hB : ∀ (vl vh : Option Value), (vh = none ∧ u = s.size ∨ ∃ k i, vh = some (.int k i) ∧ (if 0 <= i ∧ i <= (s.size : Int) then some i.toNat else none) = some u) -> (vl = none ∧ l = 0 ∨ ∃ k i, vl = some (.int k i) ∧ (if 0 <= i ∧ i <= (u : Int) then some i.toNat else none) = some l) ->
  kL P (Instr.sliceBounds false s.size s.size vl vh none) = some (l, u, s.size) := by
  intro vl vh a b;unfold Instr.sliceBounds;rcases a with ⟨rfl, rfl⟩ | ⟨k, i, rfl, ha⟩ <;> rcases b with ⟨rfl, rfl⟩ | ⟨k', i', rfl, hb⟩ <;> simp only [dB, dP, Option.bind_some, Option.isSome_none, Bool.false_eq_true, if_false]
  ·rw [sW hb]; rfl
  ·rw [sW ha]; rfl
  ·rw [sW ha]; simp only [Option.bind_some]; rw [sW hb]; rfl
 rcases opt h1 with ⟨rfl, e1⟩ | ⟨k, i, e1, f1⟩ <;> rcases opt h2 with ⟨rfl, e2⟩ | ⟨k', i', e2, f2⟩
 ·exact hk none none none none rfl rfl rfl (hB _ _ (.inl ⟨rfl, e1⟩) (.inl ⟨rfl, e2⟩))
 ·rw [e2]; exact hk _ none _ none rfl rfl rfl (hB _ _ (.inl ⟨rfl, e1⟩) (.inr ⟨k', i', rfl, f2⟩))
 ·rw [e1]; exact hk none _ none _ rfl rfl rfl (hB _ _ (.inr ⟨k, i, rfl, f1⟩) (.inl ⟨rfl, e2⟩))
 ·rw [e1, e2]; exact hk _ _ _ _ rfl rfl rfl (hB _ _ (.inr ⟨k, i, rfl, f1⟩) (.inr ⟨k', i', rfl, f2⟩))
theorem q2X {s d : TypeId} {k k' : IntKind} {x : Int} {u : TypeDesc} (hs : P.underlying s = some u) (hd : P.underlying d = some (.int k')) : aI P (fun a => .convert s d a) (fvv (.int k x)) = some (fvv (.int k' (k'.wrap x))) := by
 have hl : pl (fvv (.int k x)) = some (.int k x) := rfl;unfold aI;rw [hl];unfold qLT kS;have hp : yY (kZ (Env.val []) (cop (.convert s d (.const (.int k x)))).op.operands.toList) = true := rfl;simp only [hp, if_true]
 have he : kL P (execOp (Env.val []) (cop (.convert s d (.const (.int k x))))) = some (.value (.int k' (k'.wrap x))) := by
  show kL P (do let v <- convert s d (.int k x); pure (Next.value v)) = _;unfold convert;simp only [dB, yI, hs, hd, Option.bind_some];rfl
 rw [he];exact bN rfl rfl
theorem qYC {s d : TypeId} {x : ByteArray} {u : TypeDesc} (hs : P.underlying s = some u) (hd : P.underlying d = some .string) : aI P (fun a => .convert s d a) (fvv (.string x)) = some (fvv (.string x)) := by
 have hl : pl (fvv (.string x)) = some (.string x) := rfl;unfold aI;rw [hl];unfold qLT kS;have hp : yY (kZ (Env.val []) (cop (.convert s d (.const (.string x)))).op.operands.toList) = true := rfl;simp only [hp, if_true]
 have he : kL P (execOp (Env.val []) (cop (.convert s d (.const (.string x))))) = some (.value (.string x)) := by
  show kL P (do let v <- convert s d (.string x); pure (Next.value v)) = _;unfold convert;simp only [dB, yI, hs, hd, Option.bind_some];cases u <;> rfl
 rw [he];exact bN rfl rfl
end Go.Sv
namespace Go.Sv
open Go.Idl
noncomputable section
variable [Gc]
variable [Yl]
variable {P : Program} {h : SH} {R : Type} {r : R}
def qD1 : SV -> Option Value
 | .d (.int k) x => some (.int k x)
 | .d .bool x => some (.bool x)
 | .d .str x => some (.string x)
 | .c v => some v
 | _ => none
theorem oP {v : SV} {a : Value} (e : qD1 v = some a) : v.enc = fvv a := by
 unfold qD1 at e;split at e <;> cases e <;> simp [SV.enc, Ty.fv, fvv]
def qGU : List SV -> Option (List Value)
 | [] => some []
 | v :: l => match qD1 v, qGU l with
   | some a, some b => some (a :: b)
   | _, _ => none
def qEY : SV -> Option Value
 | .agg l => (match qGU l with
   | some vs => some (.agg vs.toArray)
   | none => none)
 | v => qD1 v
theorem qC1 : ∀ {l : List SV} {vs : List Value}, qGU l = some vs -> qTY (qC l) = some vs
 | [], vs, e => by cases e; simp [qC, qTY]
 | v :: l, vs, e => by
   unfold qGU at e;split at e
   ·rename_i a b ha hb;cases e;simp only [qC, oP ha, fvv, qTY, pl1, qC1 hb]
   ·cases e
theorem qEE {v : SV} {a : Value} (e : qEY v = some a) : pl v.enc = some a := by
 unfold qEY at e;split at e
 ·rename_i l;split at e
  ·rename_i vs hvs;cases e;simp only [SV.enc, pl, qC1 hvs]
  ·cases e
 ·rw [oP e];rfl
def zAU (op : BinOp) (a b : ByteArray) (K : SV -> Tree R) (F : Tree R) : Tree R := match op with
 | .add => .ite (Nat.ble (a.size + b.size) 9223372036854775807) (K (.d .str (a ++ b))) .fail
 | .eql => K (.d .bool (a.toList == b.toList))
 | .neq => K (.d .bool (!(a.toList == b.toList)))
 | _ => F
def qO8 (P : Program) (t : TypeId) : Bool := match P.underlying t with
 | some .string => true
 | _ => false
omit [Yl] in
theorem qD7 {t : TypeId} (e : qO8 P t = true) : P.underlying t = some .string := by
 unfold qO8 at e;split at e
 ·assumption
 ·cases e
def qMR (P : Program) (t : TypeId) (s : ByteArray) (ix : SV) (K : SV -> Tree R) : Tree R := match asI ix with
 | some (_, i) => cond (qO8 P t) (.bind (q2Y s i) fun c => K (.d (.int .u8) c)) .fail
 | none => .fail
def qUP (P : Program) (t : TypeId) (s : ByteArray) (lo hi : Option SV) (K : SV -> Tree R) : Tree R :=
 cond (qO8 P t) (qRO s.size s.size hi fun b => qRO 0 b lo fun a => K (.d .str (s.extract a b))) .fail
def qZ5 (P : Program) (s d : TypeId) (x : SV) (K : SV -> Tree R) (F : Tree R) : Tree R := match P.underlying s, P.underlying d with
 | some _, some (.int k') => (match asI x with
   | some (_, a) => K (.d (.int k') (k'.wrap a))
   | none => F)
 | some _, some .string => (match asS x with
   | some a => K (.d .str a)
   | none => F)
 | _, _ => F
def Ty.vals : (t : Ty) -> List Value -> Option (t.sem × List Value)
 | .int k, .int k' x :: l => cond (decide (k' = k)) (some (x, l)) none
 | .bool, .bool x :: l => some (x, l)
 | .str, .string x :: l => some (x, l)
 | .unit, l => some ((), l)
 | .pair a b, l => match a.vals l with
   | some (x, l1) => (match b.vals l1 with
     | some (y, l2) => some ((x, y), l2)
     | none => none)
   | none => none
 | _, _ => none
def smp (x : SV) (h : SH) : Option (Nat × List (Value × Value)) := match x with
 | .mp k => (match slk k h.l with
   | some (.spc _ (.map es)) => some (k, es)
   | _ => none)
 | _ => none
omit [Yl] in
theorem qJF : ∀ (n : Nat) (es : List (Value × Value)), (qKG n es).length = es.length
 | n, [] => rfl
 | n, p :: es => by
   show (qKG (n + 1) es).length + 1 = _;rw [qJF, List.length_cons]
theorem oM {k : Nat} {es es' : List (Value × Value)} {w : Nat} (ho : OkH P h) (hk : slk k h.l = some (.spc w (.map es))) : Keep h (h.put k fun v => .spc v (.map es')) ∧ OkH P (h.put k fun v => .spc v (.map es')) ∧
 qF (h.put k fun v => .spc v (.map es')).l = fK k { (SpO.map es).enc with cs := qLQ es'.length (qKG 0 es') } (qF h.l) := by
 have := qAD (f := fun v => .spc v (.map es')) ho hk rfl;exact ⟨this.1, this.2, bC k _ _⟩
def q4P (P : Program) (ts : Array TypeId) (x : SV) (h : SH) : Option SV := match smp x h with
 | some (_, es) => cond (spec P 1000000001 && q6B P ts) (some (.d (.int .i64) ((List.length es : Nat) : Int))) none
 | none => none
theorem qZG {ts : Array TypeId} {x v : SV} (e : q4P P ts x h = some v) : qCV P ts x.enc (qF h.l) = some v.enc ∧ v.ok h := by
 unfold q4P at e;split at e
 case h_2 => cases e
 rename_i k es hm
 cases hc : (spec P 1000000001 && q6B P ts) with
 | false => rw [hc] at e; cases e
 | true =>
   rw [hc] at e;cases e;rw [Bool.and_eq_true] at hc;refine ⟨?_, by simp [SV.ok]⟩;unfold smp at hm;split at hm
   case h_2 => cases hm
   rename_i k';split at hm
   case h_2 => cases hm
   rename_i w es' hk;cases hm
   have h1 : rC P (SV.enc (.mp k)) (qF h.l) = some (qLQ es.length (qKG 0 es)) := by
    simp only [SV.enc, rC, vG hk];show cond (!false && (spec P 1000000001 && Nat.beq 1000000001 1000000001)) (some (qLQ es.length (qKG 0 es))) none = _;rw [hc.1]; rfl
   unfold qCV;rw [h1];simp only [hc.2, cond_true, qIJ, qJF];have : (3 * es.length + 1) / 3 = es.length := by omega
   rw [this];simp [SV.enc, Ty.fv, fvv]
end
end Go.Sv
namespace Go.Sv
open Go.Idl
variable {a b : Int} {env : List SV} {k : IntKind} {op : BinOp} {s : ByteArray} {t t2 ty : TypeId} {ts : Array TypeId} {x y : SV}
noncomputable section
variable [Gc]
variable [Yl]
variable {P : Program} {h : SH} {R : Type} {r : R}
def q46 (k : IntKind) : PV -> Option Int
 | .f (.v (.int k' x)) => cond (decide (k' = k)) (some x) none
 | _ => none
def q2C : PV -> Option Bool
 | .f (.v (.bool x)) => some x
 | _ => none
def q5D : PV -> Option ByteArray
 | .f (.v (.string x)) => some x
 | _ => none
def Ty.decP : (t : Ty) -> PV -> Option t.sem
 | .int k, p => q46 k p
 | .bool, p => q2C p
 | .str, p => q5D p
 | .raw, _ => none
 | .unit, _ => none
 | .list _ _, _ => none
 | .pair _ _, _ => none
omit [Yl] in
theorem q3C : ∀ {t : Ty} {p : PV} {x : t.sem}, t.decP p = some x -> p = .f (t.fv x)
 | .int k, p, x, e => by
   have e1 : q46 k p = some x := e;clear e;unfold q46 at e1;split at e1
   ·rename_i k' y;have e := e1;clear e1
    cases hk : decide (k' = k) with
    | false => rw [hk] at e; cases e
    | true =>
      rw [hk] at e;cases e;have : k' = k := by simpa using hk
      subst this;rfl
   ·cases e1
 | .bool, p, x, e => by
   have e1 : q2C p = some x := e;clear e;unfold q2C at e1;split at e1
   ·cases e1; rfl
   ·cases e1
 | .str, p, x, e => by
   have e1 : q5D p = some x := e;clear e;unfold q5D at e1;split at e1
   ·cases e1; rfl
   ·cases e1
 | .unit, _, _, e => by cases e
 | .list _ _, _, _, e => by cases e
 | .pair _ _, _, _, e => by cases e
 | .raw, _, _, e => by cases e
def Ty.decPO (t : Ty) (o : Option PV) : Option t.sem := o.bind t.decP
theorem qN0 {t : Ty} {o : Option PV} {x : t.sem} (e : t.decPO o = some x) : o = some (SV.d t x).enc := by
 obtain ⟨p, h1, h2⟩ := Option.bind_eq_some_iff.1 e;rw [h1, q3C h2]; simp [SV.enc]
def sint (op : BinOp) (k : IntKind) (a b : Int) (K : SV -> Tree R) (F : Tree R) : Tree R := match op with
 | .lss => K (.d .bool (decide (a < b)))
 | .leq => K (.d .bool (decide (a <= b)))
 | .gtr => K (.d .bool (decide (b < a)))
 | .geq => K (.d .bool (decide (b <= a)))
 | .eql => K (.d .bool (a == b))
 | .neq => K (.d .bool (a != b))
 | .add => K (.d (.int k) (k.wrap (a + b)))
 | .sub => K (.d (.int k) (k.wrap (a - b)))
 | .mul => K (.d (.int k) (k.wrap (a * b)))
 | .quo => .bind (q5O k a b) fun c => K (.d (.int k) c)
 | .rem => .bind (qDK a b) fun c => K (.d (.int k) c)
 | _ => F
omit [Yl] in
theorem q2V {x y : PV} {a b : Value} {ph : PHp} (hx : pl x = some a) (hy : pl y = some b) : gF P op t t2 x y ph = gF P op t t2 (fvv a) (fvv b) [] := by
 unfold gF;rw [hx, hy];rfl
def qQV (P : Program) (op : BinOp) (t t2 ty : TypeId) (x y : SV) (K : SV -> Tree R) : Tree R := match qEY x, qEY y, qQO P 8 ty with
 | some a, some b, some u => .bind (u.decPO (gF P op t t2 (fvv a) (fvv b) [])) fun z => K (.d u z)
 | _, _, _ => .fail
def q98 (P : Program) (t : TypeId) (x y : SV) (h : SH) : Option Bool := match y with
 | .c (.slice none _ _) => cond (xH P t).isSome (match x with
   | .own k g n => (match slk k h.l with
     | some (.list _ gr g' _ _ _) => cond (Nat.beq g g') (some (gr && Nat.beq n 0)) none
     | _ => none)
   | _ => none) none
 | .c .nilFunc => cond (qXB P t) (match x with
   | .fn _ _ _ => some false
   | _ => none) none
 | _ => none
theorem qR4 {b : Bool} (ho : OkH P h) (hx : x.ok h) (e : q98 P t x y h = some b) : qXD P t x.enc y.enc (qF h.l) = some b ∧ pl x.enc = none := by
 unfold q98 at e;split at e
 ·rename_i n c
  cases h1 : (xH P t).isSome with
  | false => rw [h1] at e; cases e
  | true =>
    rw [h1] at e;simp only [cond_true] at e;split at e
    ·rename_i k g n;split at e
     ·rename_i el gr g' w u xs hk
      cases h2 : Nat.beq g g' with
      | false => rw [h2] at e; cases e
      | true =>
        rw [h2] at e;cases e;have hg : g = g' := Nat.eq_of_beq_eq_true h2;subst hg;simp only [SV.ok] at hx;have hn := hx.2 _ _ _ _ _ hk;have hl := ho.list _ _ _ _ _ _ _ hk;refine ⟨?_, by simp [SV.enc, pl]⟩;simp only [SV.enc, fvv, qXD, h1, cond_true, isNil, vG hk];rw [show (SO.list el gr g w u xs).enc.el = el from rfl, hl.2.1];simp only [zH, hn, qAF, cond_true];rfl
     ·cases e
    ·cases e
 ·cases h1 : qXB P t with
  | false => rw [h1] at e; cases e
  | true =>
    rw [h1] at e;simp only [cond_true] at e;split at e
    ·cases e;exact ⟨by simp [SV.enc, fvv, qXD, h1, qN3], by simp [SV.enc, pl]⟩
    ·cases e
 ·cases e
def q9G (P : Program) (op : BinOp) (t t2 ty : TypeId) (x y : SV) (h : SH) (K : SV -> Tree R) : Tree R := match asI x, asI y with
 | some (k, a), some (k', b) => cond (decide (k = k')) (sint op k a b K (qQV P op t t2 ty x y K)) (qQV P op t t2 ty x y K)
 | _, _ => (match asS x, asS y with
   | some a, some b => zAU op a b K (qQV P op t t2 ty x y K)
   | _, _ => (match q98 P t x y h, op with
     | some b, .eql => K (.d .bool b)
     | some b, .neq => K (.d .bool (!b))
     | _, _ => qQV P op t t2 ty x y K))
theorem sM {K : SV -> Tree R} (e : (qQV P op t t2 ty x y K).run = some r) : ∃ v, gF P op t t2 x.enc y.enc (qF h.l) = some v.enc ∧ v.ok h ∧ (K v).run = some r := by
 unfold qQV at e;split at e
 ·rename_i a b u ha hb hu;obtain ⟨z, hz, e1⟩ := run_bind e;refine ⟨_, ?_, by simp [SV.ok], e1⟩;rw [q2V (qEE ha) (qEE hb)];exact qN0 hz
 ·cases e
theorem q41 {K : SV -> Tree R} (ho : OkH P h) (hx : x.ok h) (e : (q9G P op t t2 ty x y h K).run = some r) : ∃ v, gF P op t t2 x.enc y.enc (qF h.l) = some v.enc ∧ v.ok h ∧ (K v).run = some r := by
 unfold q9G at e;split at e
 ·rename_i k a k' b ha hb
  cases hk : decide (k = k') with
  | false => rw [hk] at e; exact sM e
  | true =>
    rw [hk] at e;have hkk : k = k' := by simpa using hk
    subst hkk;simp only [cond_true] at e;have ha' := jG ha;have hb' := jG hb
    have fin : ∀ {v : SV}, gF P op t t2 (fvv (.int k a)) (fvv (.int k b)) (qF h.l) = some v.enc -> v.ok h -> (K v).run = some r -> ∃ v, gF P op t t2 x.enc y.enc (qF h.l) = some v.enc ∧ v.ok h ∧ (K v).run = some r := fun h1 h2 h3 => ⟨_, by rw [ha', hb']; exact h1, h2, h3⟩
    unfold sint at e;split at e
    ·exact fin (v := .d .bool (decide (a < b))) q6Y (by simp [SV.ok]) e
    ·exact fin (v := .d .bool (decide (a <= b))) q68 (by simp [SV.ok]) e
    ·exact fin (v := .d .bool (decide (b < a))) q6N (by simp [SV.ok]) e
    ·exact fin (v := .d .bool (decide (b <= a))) q7I (by simp [SV.ok]) e
    ·exact fin (v := .d .bool (a == b)) q6L (by simp [SV.ok]) e
    ·exact fin (v := .d .bool (a != b)) q6K (by simp [SV.ok]) e
    ·exact fin (v := .d (.int k) (k.wrap (a + b))) q79 (by simp [SV.ok]) e
    ·exact fin (v := .d (.int k) (k.wrap (a - b))) q7X (by simp [SV.ok]) e
    ·exact fin (v := .d (.int k) (k.wrap (a * b))) q69 (by simp [SV.ok]) e
    ·obtain ⟨c, hc, e1⟩ := run_bind e;exact fin (v := .d (.int k) c) (q6R hc) (by simp [SV.ok]) e1
    ·obtain ⟨c, hc, e1⟩ := run_bind e;exact fin (v := .d (.int k) c) (q71 hc) (by simp [SV.ok]) e1
    ·exact sM e
 ·split at e
  ·rename_i a b ha hb;have ha' := aT ha;have hb' := aT hb;unfold zAU at e;split at e
   ·rcases run_ite e with ⟨z, e1⟩ | ⟨z, e1⟩
    ·exact ⟨.d .str (a ++ b), by rw [ha', hb', q33 (Nat.le_of_ble_eq_true z)]; simp [SV.enc, Ty.fv, fvv], by simp [SV.ok], e1⟩
    ·cases e1
   ·exact ⟨.d .bool (a.toList == b.toList), by rw [ha', hb', q4A]; simp [SV.enc, Ty.fv, fvv], by simp [SV.ok], e⟩
   ·exact ⟨.d .bool (!(a.toList == b.toList)), by rw [ha', hb', q4Q]; simp [SV.enc, Ty.fv, fvv], by simp [SV.ok], e⟩
   ·exact sM e
  split at e
  ·rename_i b hs;obtain ⟨h1, h2⟩ := qR4 ho hx hs;refine ⟨_, ?_, by simp [SV.ok], e⟩;unfold gF;rw [h2];simp [h1, SV.enc, Ty.fv, fvv]
  ·rename_i b hs;obtain ⟨h1, h2⟩ := qR4 ho hx hs;refine ⟨_, ?_, by simp [SV.ok], e⟩;unfold gF;rw [h2];simp [h1, SV.enc, Ty.fv, fvv]
  ·exact sM e
def qUB (P : Program) (mk : Operand -> Op) (ty : TypeId) (x : SV) (K : SV -> Tree R) : Tree R := match qD1 x, qQO P 8 ty with
 | some a, some u => .bind (u.decPO (aI P mk (fvv a))) fun z => K (.d u z)
 | _, _ => .fail
theorem qN9 {mk : Operand -> Op} {K : SV -> Tree R} (e : (qUB P mk ty x K).run = some r) : ∃ v, aI P mk x.enc = some v.enc ∧ v.ok h ∧ (K v).run = some r ∧ ∃ a, qD1 x = some a := by
 unfold qUB at e;split at e
 ·rename_i a u ha hu;obtain ⟨z, hz, e1⟩ := run_bind e;exact ⟨_, by rw [oP ha]; exact qN0 hz, by simp [SV.ok], e1, a, ha⟩
 ·cases e
def sun (P : Program) (op : UnOp) (t ty : TypeId) (x : SV) (K : SV -> Tree R) : Tree R := match op, asI x, asB x with
 | .neg, some (k, a), _ => K (.d (.int k) (k.wrap (0 - a)))
 | .not, _, some b => K (.d .bool (!b))
 | _, _, _ => qUB P (fun a => .unOp op t a) ty x K
omit [Yl] in
theorem q23 {x : Int} : aI P (fun a => .unOp .neg t a) (fvv (.int k x)) = some (fvv (.int k (k.wrap (0 - x)))) := rfl
theorem q7G {op : UnOp} {K : SV -> Tree R} (e : (sun P op t ty x K).run = some r) : ∃ v, aI P (fun a => .unOp op t a) x.enc = some v.enc ∧ v.ok h ∧ (K v).run = some r := by
 unfold sun at e;split at e
 ·rename_i k a ha;exact ⟨_, by rw [jG ha, q23]; simp [SV.enc, Ty.fv, fvv], by simp [SV.ok], e⟩
 ·rename_i b hb;exact ⟨_, by rw [qAA hb, q6X]; simp [SV.enc, Ty.fv, fvv], by simp [SV.ok], e⟩
 ·obtain ⟨v, h1, h2, h3, _⟩ := qN9 (h := h) e;exact ⟨v, h1, h2, h3⟩
def mX (env : List SV) (l : Array Operand) : List SV := l.toList.map (jI env)
theorem mD (env : List SV) (l : Array Operand) : l.toList.map (qP (qC env)) = qC (mX env l) := by
 unfold mX;rw [zK (l.toList.map (jI env)), List.map_map];exact List.map_congr_left fun x _ => qU env x
omit [Yl] in
theorem nK (ho : okL h env) (l : Array Operand) : okL h (mX env l) := xU.2 fun x hx => by
 obtain ⟨q, _, rfl⟩ := List.mem_map.1 hx;exact qAT ho _
def smm (lo : Bool) (x y : SV) (K : SV -> Tree R) : Tree R := match asI x, asI y with
 | some (k, a), some (k', b) => cond (decide (k = k')) (K (.d (.int k) (cond lo (cond (decide (b < a)) b a) (cond (decide (a < b)) b a)))) .fail
 | _, _ => .fail
omit [Yl] in
theorem dmin {x y : Operand} {env : Env} (hx : env.val x = .int k a) (hy : env.val y = .int k b) :
 qRK (kS P (cop (.call ⟨.builtin .min, #[x, y], ts⟩) ty) env H00) = some (fvv (.int k (if b < a then b else a))) := by
 have h2 : kZ env.val (cop (.call ⟨.builtin .min, #[x, y], ts⟩) ty).op.operands.toList = [env.val x, env.val y] := rfl;unfold kS;rw [h2];simp only [cop, execOp, resolve, List.map_toArray, List.map_cons, List.map_nil, hx, hy];rfl
omit [Yl] in
theorem dmax {x y : Operand} {env : Env} (hx : env.val x = .int k a) (hy : env.val y = .int k b) :
 qRK (kS P (cop (.call ⟨.builtin .max, #[x, y], ts⟩) ty) env H00) = some (fvv (.int k (if a < b then b else a))) := by
 have h2 : kZ env.val (cop (.call ⟨.builtin .max, #[x, y], ts⟩) ty).op.operands.toList = [env.val x, env.val y] := rfl;unfold kS;rw [h2];simp only [cop, execOp, resolve, List.map_toArray, List.map_cons, List.map_nil, hx, hy];rfl
omit [Yl] in
theorem qUM {p : Prop} [Decidable p] {α : Type} {x y : α} : cond (decide p) x y = if p then x else y := by
 by_cases h : p <;> simp [h]
theorem q08 {lo : Bool} {c : Call} {K : SV -> Tree R} (hl : mX env c.args = [x, y]) (hc : c.callee = .builtin (cond lo .min .max)) (e : (smm lo x y K).run = some r) :
 ∃ v, vP P (cond lo .min .max) c [x.enc, y.enc] (qC env) ty (qF h.l) = some (v.enc, qF h.l) ∧ v.ok h ∧ (K v).run = some r := by
 unfold smm at e;split at e
 ·rename_i k a k' b ha hb
  cases hk : decide (k = k') with
  | false => rw [hk] at e; cases e
  | true =>
    rw [hk] at e;have : k = k' := by simpa using hk
    subst this;have e1 := jG ha;have e2 := jG hb;refine ⟨_, ?_, by simp [SV.ok], e⟩;obtain ⟨cal, args, ts⟩ := c;simp only at hc hl;subst hc;unfold mX at hl
    have hal : ∃ p q, args = #[p, q] ∧ jI env p = x ∧ jI env q = y := by
     obtain ⟨l⟩ := args
     match l, hl with
     | [p, q], hl => simp at hl; exact ⟨p, q, rfl, hl.1, hl.2⟩
    obtain ⟨p, q, rfl, hp, hq⟩ := hal;have vp : (qRG (qC env)).val p = .int k a := bB P (by rw [qU, hp, e1]; rfl);have vq : (qRG (qC env)).val q = .int k b := bB P (by rw [qU, hq, e2]; rfl);unfold vP;rw [e1, e2];have hpl : plL [fvv (.int k a), fvv (.int k b)] = some [.int k a, .int k b] := rfl;rw [hpl]
    cases lo with
    | true =>
      simp only [cond_true];rw [dmin vp vq, qUM];simp [pp1, SV.enc, Ty.fv, fvv]
    | false =>
      simp only [cond_false];rw [dmax vp vq, qUM];simp [pp1, SV.enc, Ty.fv, fvv]
 ·cases e
def q4Z (P : Program) (ts : Array TypeId) (x : SV) (h : SH) : Option SV := match rC P x.enc (qF h.l) with
 | some _ => none
 | none => q82 P ts x h
theorem qX4 {v : SV} (ho : OkH P h) (hx : x.ok h) (e : q4Z P ts x h = some v) : qCV P ts x.enc (qF h.l) = some v.enc ∧ v.ok h := by
 unfold q4Z at e;split at e
 ·cases e
 ·rename_i hn;unfold qCV;rw [hn];exact q3O ho hx e
theorem qQ8 {lo hi : Option Operand} {K : SV -> Tree R} (e : (qUP P t s (lo.map (jI env)) (hi.map (jI env)) K).run = some r) :
 ∃ v, qLT P (.slice t (.const (.string s)) (lo.map fun a => .const ((pl (qP (qC env) a)).getD undef)) (hi.map fun a => .const ((pl (qP (qC env) a)).getD undef)) none) = some v.enc ∧ v.ok h ∧ (K v).run = some r ∧ (plL ((lo.toList ++ hi.toList).map (qP (qC env)))).isSome = true := by
 obtain ⟨c, e1⟩ := qJ e;obtain ⟨b, hb, _, e2⟩ := uL e1;obtain ⟨a, ha, _, e3⟩ := uL e2;have m : ∀ o : Option Operand, (o.map (jI env)).map SV.enc = o.map (qP (qC env)) := fun o => by cases o <;> simp [qU]
 rw [m] at hb ha;refine ⟨.d .str (s.extract a b), by rw [qX9 (qD7 c) hb ha]; simp [SV.enc, Ty.fv, fvv], by simp [SV.ok], e3, ?_⟩
 have one : ∀ {o : Option Operand} {d most n : Nat}, bnd d most (o.map (qP (qC env))) = some n -> o = none ∨ ∃ a k i, o = some a ∧ qP (qC env) a = fvv (.int k i) := fun {o d most n} h => by
  rcases qST h with ⟨q, _⟩ | ⟨k, i, q, _⟩
  ·cases o with
   | none => exact .inl rfl
   | some a => cases q
  ·cases o with
   | none => cases q
   | some a => exact .inr ⟨a, k, i, rfl, by simpa using q⟩
 rcases one hb with rfl | ⟨x, k, i, rfl, hx⟩ <;> rcases one ha with rfl | ⟨y, k', i', rfl, hy⟩ <;> simp_all [plL, fvv, pl]
theorem qQ9 {ix : SV} {K : SV -> Tree R} (e : (qMR P t s ix K).run = some r) :
 ∃ v k i, ix.enc = fvv (.int k i) ∧ qLT P (.index t (.const (.string s)) (.const (.int k i))) = some v.enc ∧ v.ok h ∧ (K v).run = some r := by
 unfold qMR at e;split at e
 ·rename_i k i hi;obtain ⟨c, e1⟩ := qJ e;obtain ⟨b, hb, e2⟩ := run_bind e1;exact ⟨.d (.int .u8) b, k, i, jG hi, by rw [q0F (qD7 c) hb]; simp [SV.enc, Ty.fv, fvv], by simp [SV.ok], e2⟩
 ·cases e
theorem qYO {s d : TypeId} {K : SV -> Tree R} {F : Tree R} (e : (qZ5 P s d x K F).run = some r) : (∃ v, aI P (fun a => .convert s d a) x.enc = some v.enc ∧ v.ok h ∧ (K v).run = some r) ∨ F.run = some r := by
 unfold qZ5 at e;split at e
 ·rename_i u k' hs hd;split at e
  ·rename_i k a ha;exact .inl ⟨_, by rw [jG ha, q2X hs hd]; simp [SV.enc, Ty.fv, fvv], by simp [SV.ok], e⟩
  ·exact .inr e
 ·rename_i u hs hd;split at e
  ·rename_i a ha;exact .inl ⟨_, by rw [aT ha, qYC hs hd]; simp [SV.enc, Ty.fv, fvv], by simp [SV.ok], e⟩
  ·exact .inr e
 ·exact .inr e
def qIA (env : List SV) (parts : Array (Nat × Operand)) : List (Nat × SV) := parts.toList.map fun p => (p.1, jI env p.2)
theorem qDT (env : List SV) (parts : Array (Nat × Operand)) : (parts.toList.map fun p => (p.1, qP (qC env) p.2)) = q5T (qIA env parts) := by
 simp [qIA, q5T, qU]
omit [Yl] in
theorem qIM {env : List SV} (ho : okL h env) (parts : Array (Nat × Operand)) : ∀ p ∈ qIA env parts, p.2.ok h := fun p hp => by
 obtain ⟨q, _, rfl⟩ := List.mem_map.1 hp;exact qAT ho _
def qUW : Operand -> Operand -> Bool
 | .tmp i, .tmp j => Nat.beq i j
 | .const (.int k a), .const (.int k' b) => decide (k = k') && decide (a = b)
 | _, _ => false
omit [Yl] in
theorem qVH {a b : Operand} (e : qUW a b = true) : a = b := by
 unfold qUW at e;split at e
 ·rw [Nat.eq_of_beq_eq_true e]
 ·rw [Bool.and_eq_true] at e;have h1 := of_decide_eq_true e.1;have h2 := of_decide_eq_true e.2;rw [h1, h2]
 ·cases e
def gv (o : Option SV) (h : SH) (K : SV -> SH -> Tree R) : Tree R := match o with
 | some v => K v h
 | none => .fail
def sop (P : Program) (o : Oper) (env : List SV) (k : Nat) (h : SH) (K : SV -> SH -> Tree R) : Tree R := match o.op with
 | .move x => K (jI env x) h
 | .assign x => K (jI env x) h
 | .pick c a b => (match asB (jI env c) with
   | some t => .ite t (K (jI env a) h) (K (jI env b) h)
   | none => .fail)
 | .alloc el => qWA P el k h K
 | .box el x => zA6 P el (jI env x) k h K
 | .build t parts => gv (qW6 P t (qIA env parts)) h K
 | .buildSlice t len parts => dW P t len (qIA env parts) k h K
 | .load t a => q4D P t (jI env a) h fun v => K v h
 | .store t a x => qTP P t (jI env a) (jI env x) h K
 | .nilCheck x => gv (qAJ (jI env x) h) h K
 | .binOp op t x y t2 => q9G P op t t2 o.type (jI env x) (jI env y) h fun v => K v h
 | .unOp op t x => sun P op t o.type (jI env x) fun v => K v h
 | .convert s d x => cond (qQD (jI env x).enc) .fail (qZ5 P s d (jI env x) (fun v => K v h) (qUB P (fun a => .convert s d a) o.type (jI env x) fun v => K v h))
 | .makeFunc fn first cap => gv (qAI fn (mX env first) (mX env cap)) h K
 | .makeSlice t l c => cond (qUW l c) (q3L P t (jI env l) k h K) .fail
 | .slice t x lo hi none => (match asS (jI env x) with
   | some s => qUP P t s (lo.map (jI env)) (hi.map (jI env)) fun v => K v h
   | none => qTZ P t (jI env x) (lo.map (jI env)) (hi.map (jI env)) h fun v => K v h)
 | .fieldAddr t x i => gv (oG P t (jI env x) i h) h K
 | .field t x i => gv (qR8 P t (jI env x) i) h K
 | .indexAddr t x ix => pV P t (jI env x) (jI env ix) h fun v => K v h
 | .index t x ix => (match asS (jI env x) with
   | some s => qMR P t s (jI env ix) fun v => K v h
   | none => qUG P t (jI env x) (jI env ix) fun v => K v h)
 | .extract t i => gv (qGR (jI env t) i) h K
 | .call c => (match c.callee, mX env c.args with
   | .builtin .append, [x, y] => qMG P c.argTypes.toList x y k h K
   | .builtin .copy, [x, y] => q3P P c.argTypes.toList x y h K
   | .builtin .len, [x] => cond (qXE P c.argTypes) (match asS x with
     | some s => K (.d (.int .i64) (s.size : Int)) h
     | none => .fail) (match q4P P c.argTypes x h with
     | some v => K v h
     | none => gv (q4Z P c.argTypes x h) h K)
   | .builtin .min, [x, y] => smm true x y fun v => K v h
   | .builtin .max, [x, y] => smm false x y fun v => K v h
   | _, _ => .fail)
 | _ => .fail
omit [Yl] in
theorem qML {o : Option SV} {K : SV -> SH -> Tree R} (e : (gv o h K).run = some r) : ∃ v, o = some v ∧ (K v h).run = some r := by
 unfold gv at e;split at e
 ·exact ⟨_, rfl, e⟩
 ·cases e
theorem q13 {o : Oper} {k : Nat} {K : SV -> SH -> Tree R} (ho : OkH P h) (he : okL h env) (e : (sop P o env k h K).run = some r) :
 ∃ v h', qG3 P o (qC env) k (qF h.l) = some (v.enc, qF h'.l) ∧ Post P h h' v ∧ (K v h').run = some r := by
 have same : ∀ {v : SV}, v.ok h -> Post P h h v := fun hv => ⟨.refl _, ho, hv⟩
 have sv := fun x => qAT (h := h) he x
 unfold sop at e;unfold qG3;split at e
 ·rename_i x ho';exact ⟨_, _, by simp only [ho', qU], same (sv x), e⟩
 ·rename_i x ho';exact ⟨_, _, by simp only [ho', qU], same (sv x), e⟩
 ·rename_i c a b ho';split at e
  ·rename_i t ht;have h1 := qAA ht
   rcases run_ite e with ⟨z, e1⟩ | ⟨z, e1⟩
   ·exact ⟨_, _, by simp only [ho', qU, h1, fvv, z, cond_true], same (sv a), e1⟩
   ·exact ⟨_, _, by simp only [ho', qU, h1, fvv, z, cond_false], same (sv b), e1⟩
  ·cases e
 ·rename_i el ho';rw [ho'];exact qSG ho e
 ·rename_i el x ho';rw [ho'];simp only [qU];exact q18 ho (sv x) e
 ·rename_i t parts ho';rw [ho'];obtain ⟨v, h1, h2⟩ := qML e;have h3 := qS6 (qIM he parts) h1;exact ⟨v, h, by simp only [qDT, h3.1, pp1], same h3.2, h2⟩
 ·rename_i t len parts ho';rw [ho'];simp only [qDT];exact qCT ho (qIM he parts) e
 ·rename_i t a ho';rw [ho'];obtain ⟨v, h1, h2, h3⟩ := qYM ho (sv a) e;exact ⟨v, h, by simp only [qU, h1, pp1], same h2, h3⟩
 ·rename_i t a x ho';rw [ho'];obtain ⟨h', h1, h2, h3, h4⟩ := qSC ho (sv a) (sv x) e;exact ⟨_, h', by simp only [qU, h1, ppS]; simp [SV.enc, qC], ⟨h2, h3, by simp [SV.ok, okL]⟩, h4⟩
 ·rename_i x ho';rw [ho'];obtain ⟨v, h1, h2⟩ := qML e;have h3 := qIH (sv x) h1;exact ⟨v, h, by simp only [qU, h3.1, pp1], same h3.2, h2⟩
 ·rename_i op t x y t2 ho';rw [ho'];obtain ⟨v, h1, h2, h3⟩ := q41 ho (sv x) e;exact ⟨v, h, by simp only [qU, h1, pp1], same h2, h3⟩
 ·rename_i op t x ho';rw [ho'];obtain ⟨v, h1, h2, h3⟩ := q7G (h := h) e;exact ⟨v, h, by simp only [qU, h1, pp1], same h2, h3⟩
 ·rename_i s d x ho';rw [ho']
  cases hp : qQD (jI env x).enc with
  | true => rw [hp] at e; cases e
  | false =>
    rw [hp] at e;have e1 : (qZ5 P s d (jI env x) (fun v => K v h) (qUB P (fun a => .convert s d a) o.type (jI env x) fun v => K v h)).run = some r := e;rcases qYO (h := h) e1 with ⟨v, h1, h2, h3⟩ | e1
    ·exact ⟨v, h, by simp only [qU, hp, cond_false, h1, pp1], same h2, h3⟩
    ·obtain ⟨v, h1, h2, h3, _⟩ := qN9 (h := h) e1;exact ⟨v, h, by simp only [qU, hp, cond_false, h1, pp1], same h2, h3⟩
 ·rename_i fn first cap ho'
  rw [ho'];obtain ⟨v, h1, h2⟩ := qML e;have h3 := qI0 (nK he first) (nK he cap) h1;exact ⟨v, h, by simp only [mD, h3.1, pp1], same h3.2, h2⟩
 ·rename_i t l c ho';rw [ho'];obtain ⟨h1, h2⟩ := qJ e;have := qVH h1;subst this;simp only [qU];exact qZC ho h2
 ·rename_i t x lo hi ho';rw [ho'];split at e
  ·rename_i s hs;obtain ⟨v, h1, h2, h3, h4⟩ := qQ8 (h := h) e;obtain ⟨vs, hvs⟩ := Option.isSome_iff_exists.1 h4;refine ⟨v, h, ?_, same h2, h3⟩;have hx : qP (qC env) x = .f (.v (.string s)) := by rw [qU]; exact aT hs
   simp only [hx, hvs, h1, pp1]
  obtain ⟨v, h1, h2, h3⟩ := qRW ho (sv x) e;refine ⟨v, h, ?_, same h2, h3⟩;have m : ∀ o : Option Operand, o.map (qP (qC env)) = (o.map (jI env)).map SV.enc := fun o => by cases o <;> simp [qU]
  simp only [qU, m]
  have ns : ∀ s, (jI env x).enc ≠ .f (.v (.string s)) := fun s hs => by
   rw [hs] at h1;simp only [wX] at h1;cases h1
  split
  ·rename_i s hs; exact absurd hs (ns s)
  ·rw [h1]; rfl
 ·rename_i t x i ho';rw [ho'];obtain ⟨v, h1, h2⟩ := qML e;have h3 := qFY (sv x) h1;exact ⟨v, h, by simp only [qU, h3.1, pp1], same h3.2, h2⟩
 ·rename_i t x i ho';rw [ho'];obtain ⟨v, h1, h2⟩ := qML e;have h3 := qTJ (sv x) h1;exact ⟨v, h, by simp only [qU, h3.1, pp1], same h3.2, h2⟩
 ·rename_i t x ix ho';rw [ho'];obtain ⟨v, h1, h2, h3⟩ := qEW ho (sv x) e;exact ⟨v, h, by simp only [qU, h1, pp1], same h2, h3⟩
 ·rename_i t x ix ho';rw [ho'];split at e
  ·rename_i s hs;obtain ⟨v, k', i, h0, h1, h2, h3⟩ := qQ9 (h := h) e;refine ⟨v, h, ?_, same h2, h3⟩;have hx := aT hs;have hpl : pl (fvv (.int k' i)) = some (.int k' i) := rfl;simp only [qU, hx, h0, hpl];simp only [fvv, h1, pp1]
  obtain ⟨v, h1, h2, h3, l, hl⟩ := qR6 (sv x) e;refine ⟨v, h, ?_, same h2, h3⟩;simp only [qU];rw [hl] at h1 ⊢;simp only [SV.enc] at h1 ⊢;rw [h1];rfl
 ·rename_i t i ho';rw [ho'];obtain ⟨v, h1, h2⟩ := qML e;have h3 := qKI (sv t) h1;exact ⟨v, h, by simp only [qU, h3.1, pp1], same h3.2, h2⟩
 ·rename_i c ho';rw [ho'];have ha := mD env c.args;have hao := nK he c.args;split at e
  ·rename_i x y hc hl;rw [hl] at ha hao;simp only [okL] at hao;simp only [hc, ha, qC, wW];exact qP2 ho hao.1 hao.2.1 e
  ·rename_i x y hc hl;rw [hl] at ha hao;simp only [okL] at hao;simp only [hc, ha, qC, wW];exact qXN ho hao.1 hao.2.1 e
  ·rename_i x hc hl;rw [hl] at ha hao;simp only [okL] at hao
   cases hst : qXE P c.argTypes with
   | true =>
     rw [hst] at e;simp only [cond_true] at e;split at e
     ·rename_i s hs;refine ⟨_, h, ?_, same (by simp [SV.ok]), e⟩;obtain ⟨cal, args, ts⟩ := c;simp only at hc hl hst;subst hc
      obtain ⟨p, rfl, hp⟩ : ∃ p, args = #[p] ∧ jI env p = x := by
       unfold mX at hl;obtain ⟨l⟩ := args
       match l, hl with
       | [p], hl => simp at hl; exact ⟨p, rfl, hl⟩
      have vp : (qRG (qC env)).val p = .string s := bB P (by rw [qU, hp, aT hs]; rfl);simp only [wW, ha, qC, hst, cond_true];unfold vP;have hpl : plL [x.enc] = some [.string s] := by rw [aT hs]; rfl
      rw [hpl];simp only;rw [qPJ hst vp];simp [pp1, SV.enc, Ty.fv, fvv]
     ·cases e
   | false =>
     rw [hst] at e;simp only [cond_false] at e;split at e
     ·rename_i v hv;have h3 := qZG hv;refine ⟨v, h, ?_, same h3.2, e⟩;simp only [hc, ha, qC, wW, hst, cond_false, h3.1, pp1]
     obtain ⟨v, h1, h2⟩ := qML e;have h3 := qX4 ho hao.1 h1;refine ⟨v, h, ?_, same h3.2, h2⟩;simp only [hc, ha, qC, wW, hst, cond_false, h3.1, pp1]
  ·rename_i x y hc hl;rw [hl] at ha;obtain ⟨v, h1, h2, h3⟩ := q08 (h := h) (lo := true) (ty := o.type) hl hc e;exact ⟨v, h, by simp only [hc, ha, qC, wW]; exact h1, same h2, h3⟩
  ·rename_i x y hc hl;rw [hl] at ha;obtain ⟨v, h1, h2, h3⟩ := q08 (h := h) (lo := false) (ty := o.type) hl hc e;exact ⟨v, h, by simp only [hc, ha, qC, wW]; exact h1, same h2, h3⟩
  ·cases e
 ·cases e
end
end Go.Sv
namespace Go.Sv
open Go.Idl
variable {as : List SV} {el ty : TypeId} {g : FuncId} {h' : SH} {k m n o : Nat} {v : SV}
noncomputable section
variable [Gc]
variable [Yl]
variable {P : Program} {h : SH} {R : Type} {r : R} {tab : fT}
omit [Yl] in
theorem qE9 : ∀ (cs : List FV) (ph : PHp) (n : Nat), qKD (fz1 P n) (cs.map .f) ph = some (cs, ph)
 | [], ph, n => rfl
 | c :: cs, ph, n => by
   have e : fz1 P n ph (.f c) = some (c, ph) := by cases n <;> rfl
   show (match fz1 P n ph (.f c) with
    | some (y, ph1) => (match qKD (fz1 P n) (cs.map .f) ph1 with
      | some (ys, ph2) => some (y :: ys, ph2)
      | none => none)
    | none => none) = _
   rw [e];simp only [qE9 cs ph n]
theorem q4M {gr : Bool} {g w : Nat} {t : Ty} {xs : List t.sem} (ho : OkH P h) (hk : slk k h.l = some (.list el gr g w t xs)) (hn : n = xs.length) (hom : o + m <= n) :
 fz1 P 4 (qF h.l) (.own k n o m) = some (.l el m (((xs.drop o).take m).flatMap t.cells), qF (h.del k).l) := by
 have hl := ho.list _ _ _ _ _ _ _ hk;simp only [fz1, vG hk];rw [show (SO.list el gr g w t xs).enc.el = el from rfl, hl.2.1];simp only [zH, hn, qAF, cond_true];rw [show (SO.list el gr g w t xs).enc.cs = (xs.flatMap t.cells).map .f from rfl, <- List.map_drop, <- List.map_take, uR, uY, qE9];show some _ = some (_, qF (sdl k h.l));rw [nX]
def q8M (el : TypeId) (t : Ty) (k g : Nat) (f : List t.sem -> List t.sem) (h : SH) : Option (List t.sem × SH) := match slk k h.l with
 | some (.list el' _ g' _ u xs) => cond (Nat.beq el' el && Nat.beq g g') (match qEL u t xs with
   | some xs => some (f xs, h.del k)
   | none => none) none
 | _ => none
def zAN (P : Program) (ty el : TypeId) (t : Ty) (h : SH) : Option (List t.sem × SH) := match xH P ty with
 | some el' => cond (Nat.beq el' el) (some ([], h)) none
 | none => none
def qZK (P : Program) (ty : TypeId) : (t : Ty) -> SV -> SH -> Option (t.sem × SH)
 | .list el t, .own k g _, h => q8M el t k g (fun xs => xs) h
 | .list el t, .sl k g _ o m, h => q8M el t k g (fun xs => (xs.drop o).take m) h
 | .list el t, .c (.slice none 0 0), h => zAN P ty el t h
 | t, v, h => match t.decS v with
   | some x => some (x, h)
   | none => none
omit [Yl] in
theorem qIW : ∀ {t : Ty} {x : t.sem}, t.one = true -> rt0 P ty (.f (t.fv x)) = .f (t.fv x)
 | .int _, _, _ => rfl
 | .bool, _, _ => rfl
 | .str, _, _ => rfl
 | .raw, _, _ => rfl
 | .list _ _, _, _ => rfl
 | .unit, _, e => by cases e
 | .pair _ _, _, e => by cases e
theorem qWG {ty : TypeId} {t : Ty} {g : Nat} {f : List t.sem -> List t.sem} {x : List t.sem} (ho : OkH P h) (hs : q1S h k g n) (hom : o + m <= n) (hf : ∀ xs : List t.sem, xs.length = n -> f xs = (xs.drop o).take m) (e : q8M el t k g f h = some (x, h')) :
 fz1 P 4 (qF h.l) (.own k n o m) = some ((Ty.list el t).fv x, qF h'.l) ∧ Keep h h' ∧ OkH P h' := by
 unfold q8M at e;split at e
 ·rename_i el' gr g' w u xs hk
  cases hc : (Nat.beq el' el && Nat.beq g g') with
  | false => rw [hc] at e; cases e
  | true =>
    rw [hc] at e;rw [Bool.and_eq_true] at hc;have he : el' = el := Nat.eq_of_beq_eq_true hc.1;have hg : g = g' := Nat.eq_of_beq_eq_true hc.2;subst he hg;simp only [cond_true] at e;split at e
    ·rename_i ys hys;cases gZ hys;cases e;have hn := hs.2 _ _ _ _ _ hk;have hd := pG (k := k) ho;refine ⟨?_, hd.1, hd.2⟩;rw [q4M ho hk hn hom, hf _ hn.symm];show some (FV.l el' m _, _) = some (FV.l el' _ _, _);rw [List.length_take, List.length_drop, Nat.min_eq_left (by omega)]
    ·cases e
 ·cases e
theorem qPQ {t : Ty} {x : t.sem} (ho : OkH P h) (hv : v.ok h) (e : qZK P ty t v h = some (x, h')) :
 ∃ y, fz1 P 4 (qF h.l) v.enc = some (y, qF h'.l) ∧ rt0 P ty (.f y) = .f (t.fv x) ∧ t.one = true ∧ Keep h h' ∧ OkH P h' := by
 unfold qZK at e;split at e
 ·rename_i el t k g n;simp only [SV.ok] at hv;obtain ⟨h1, h2, h3⟩ := qWG (ty := ty) (n := n) (o := 0) (m := n) ho hv (by omega) (fun xs hl => by rw [List.drop_zero, <- hl, List.take_length]) e;exact ⟨_, by simp only [SV.enc]; exact h1, qIW rfl, rfl, h2, h3⟩
 ·rename_i el t k g n o m;simp only [SV.ok] at hv;obtain ⟨h1, h2, h3⟩ := qWG (ty := ty) (n := n) (o := o) (m := m) ho hv.1 hv.2 (fun xs hl => rfl) e;exact ⟨_, by simp only [SV.enc]; exact h1, qIW rfl, rfl, h2, h3⟩
 ·rename_i el t;unfold zAN at e;split at e
  ·rename_i el' hel
   cases hc : Nat.beq el' el with
   | false => rw [hc] at e; cases e
   | true =>
     rw [hc] at e;cases e;have he : el' = el := Nat.eq_of_beq_eq_true hc;subst he;refine ⟨.v (.slice none 0 0), by simp only [SV.enc, fvv, fz1], ?_, rfl, .refl _, ho⟩
     show (match xH P ty with
      | some el => PV.f (.l el 0 [])
      | none => fvv (.slice none 0 0)) = _
     rw [hel];rfl
  ·cases e
 ·split at e
  ·rename_i y hy;cases e;obtain ⟨h1, h2⟩ := qG2 hy;exact ⟨_, by rw [h1]; rfl, qIW h2, h2, .refl _, ho⟩
  ·cases e
def qLM (P : Program) (t : Ty) (tys : List TypeId) (l : List SV) (h : SH) : Option (t.sem × List TypeId × List SV × SH) := match tys, l with
 | ty :: tys, v :: l => (match qZK P ty t v h with
   | some (x, h') => some (x, tys, l, h')
   | none => none)
 | _, _ => none
def Ty.decC (P : Program) : (t : Ty) -> List TypeId -> List SV -> SH -> Option (t.sem × List TypeId × List SV × SH)
 | .unit, tys, l, h => some ((), tys, l, h)
 | .pair a b, tys, l, h => match a.decC P tys l h with
   | some (x, tys1, l1, h1) => (match b.decC P tys1 l1 h1 with
     | some (y, tys2, l2, h2) => some ((x, y), tys2, l2, h2)
     | none => none)
   | none => none
 | .int k, tys, l, h => qLM P (.int k) tys l h
 | .bool, tys, l, h => qLM P .bool tys l h
 | .str, tys, l, h => qLM P .str tys l h
 | .raw, tys, l, h => qLM P .raw tys l h
 | .list el t, tys, l, h => qLM P (.list el t) tys l h
def zAQ (P : Program) (t : Ty) (tys : List TypeId) (l : List SV) (h : SH) (x : t.sem) (tys' : List TypeId) (l' : List SV) (h' : SH) : Prop :=
 okL h' l' ∧ Keep h h' ∧ OkH P h' ∧ ∃ ys : List FV, (∀ zs p, qKD (fz1 P 4) (qC l') (qF h'.l) = some (zs, p) -> qKD (fz1 P 4) (qC l) (qF h.l) = some (ys ++ zs, p)) ∧
  ∀ zs : List PV, rtL (rt0 P) tys (ys.map .f ++ zs) = (t.cells x).map .f ++ rtL (rt0 P) tys' zs
theorem mU {t : Ty} {tys tys' : List TypeId} {l l' : List SV} {x : t.sem} (ho : OkH P h) (hl : okL h l) (e : qLM P t tys l h = some (x, tys', l', h')) : zAQ P t tys l h x tys' l' h' := by
 unfold qLM at e;split at e
 ·rename_i ty tys v l;split at e
  ·rename_i y h1 hd;cases e;simp only [okL] at hl;obtain ⟨y, a1, a2, a3, a4, a5⟩ := qPQ ho hl.1 hd;refine ⟨qQ a4 hl.2, a4, a5, [y], fun zs p hz => ?_, fun zs => ?_⟩
   ·simp only [qC, qKD, a1, hz]; rfl
   ·show rt0 P ty (.f y) :: rtL (rt0 P) _ zs = _;rw [a2, Ty.cells_one a3]; rfl
  ·cases e
 ·cases e
theorem qEU : ∀ {t : Ty} {tys tys' : List TypeId} {l l' : List SV} {h : SH} {x : t.sem} {h' : SH}, OkH P h -> okL h l -> t.decC P tys l h = some (x, tys', l', h') -> zAQ P t tys l h x tys' l' h'
 | .unit, tys, tys', l, l', h, x, h', ho, hl, e => by
   cases e;exact ⟨hl, .refl _, ho, [], fun zs p hz => hz, fun zs => rfl⟩
 | .int k, tys, tys', l, l', h, x, h', ho, hl, e => mU ho hl e
 | .bool, tys, tys', l, l', h, x, h', ho, hl, e => mU ho hl e
 | .str, tys, tys', l, l', h, x, h', ho, hl, e => mU ho hl e
 | .raw, tys, tys', l, l', h, x, h', ho, hl, e => mU ho hl e
 | .list el t, tys, tys', l, l', h, x, h', ho, hl, e => mU ho hl e
 | .pair a b, tys, tys', l, l', h, x, h', ho, hl, e => by
   unfold Ty.decC at e;split at e
   ·rename_i x1 tys1 l1 h1 hd1;split at e
    ·rename_i y tys2 l2 h2 hd2;cases e;obtain ⟨a1, a2, a3, ys, a4, a5⟩ := qEU ho hl hd1;obtain ⟨b1, b2, b3, zs, b4, b5⟩ := qEU a3 a1 hd2;refine ⟨b1, a2.trans b2, b3, ys ++ zs, fun us p hu => ?_, fun us => ?_⟩
     ·rw [List.append_assoc];exact a4 _ _ (b4 _ _ hu)
     ·rw [List.map_append, List.append_assoc, a5, b5];show _ = (a.cells x1 ++ b.cells y).map PV.f ++ _;rw [List.map_append, List.append_assoc]
    ·cases e
   ·cases e
def q53 (P : Program) (ty : TypeId) (t : Ty) (v : SV) (h : SH) : Option (t.sem × SH) := cond t.one (match v with
 | .agg _ => none
 | v => qZK P ty t v h) (match v with
 | .agg l => (match t.decC P (rF P 8 ty) l h with
   | some (x, _, [], h') => some (x, h')
   | _ => none)
 | _ => none)
theorem qGP {t : Ty} {x : t.sem} (ho : OkH P h) (hv : v.ok h) (e : q53 P ty t v h = some (x, h')) :
 ∃ y, fzP P (qF h.l) v.enc = some (y, qF h'.l) ∧ rt1 P ty y = t.pv x ∧ Keep h h' ∧ OkH P h' := by
 unfold q53 at e
 cases ht : t.one with
 | true =>
   rw [ht] at e;simp only [cond_true] at e;split at e
   ·cases e
   ·rename_i hna;obtain ⟨y, h1, h2, h3, h4, h5⟩ := qPQ ho hv e;refine ⟨.f y, ?_, ?_, h4, h5⟩
    ·cases v with
     | agg l => exact absurd rfl (hna l)
     | _ => simp only [SV.enc, fvv, fzP] at h1 ⊢; rw [h1]
    ·show rt0 P ty (.f y) = _;rw [h2];unfold Ty.pv;rw [ht]; rfl
 | false =>
   rw [ht] at e;simp only [cond_false] at e;split at e
   ·rename_i l;split at e
    ·rename_i x1 tys1 h1 hd;cases e;simp only [SV.ok] at hv;obtain ⟨a1, a2, a3, ys, a4, a5⟩ := qEU ho hv hd;refine ⟨.agg (ys.map .f), ?_, ?_, a2, a3⟩
     ·have := a4 [] (qF h'.l) (by simp [qC, qKD]);simp only [SV.enc, fzP, this, List.append_nil]
     ·show PV.agg (rtL (rt0 P) (rF P 8 ty) (ys.map .f)) = _;have := a5 [];rw [List.append_nil] at this;rw [this];unfold Ty.pv;rw [ht];cases tys1 <;> simp [rtL]
    ·cases e
   ·cases e
def vK (P : Program) : List TypeId -> (ts : List Ty) -> List SV -> SH -> Option (TyL ts × SH)
 | _, [], [], h => some ((), h)
 | ty :: _, [t], [v], h => q53 P ty t v h
 | ty :: tys, t :: u :: ts, v :: vs, h => match q53 P ty t v h with
   | some (x, h1) => (match vK P tys (u :: ts) vs h1 with
     | some (y, h2) => some ((x, y), h2)
     | none => none)
   | none => none
 | _, _, _, _ => none
theorem aU : ∀ {tys : List TypeId} {ts : List Ty} {vs : List SV} {h : SH} {x : TyL ts} {h' : SH}, OkH P h -> okL h vs -> vK P tys ts vs h = some (x, h') ->
 ∃ ys, fzA P (qC vs) (qF h.l) = some (ys, qF h'.l) ∧ rtL (rt1 P) tys ys = pvL ts x ∧ Keep h h' ∧ OkH P h'
 | tys, [], [], h, x, h', ho, hv, e => by
   unfold vK at e;cases e;refine ⟨[], rfl, ?_, .refl _, ho⟩;cases tys <;> rfl
 | ty :: tys, [t], [v], h, x, h', ho, hv, e => by
   unfold vK at e;simp only [okL] at hv;obtain ⟨y, h1, h2, h3, h4⟩ := qGP ho hv.1 e;refine ⟨[y], ?_, ?_, h3, h4⟩
   ·simp only [qC, fzA, h1]
   ·show rt1 P ty y :: rtL (rt1 P) tys [] = [t.pv x];rw [h2];cases tys <;> rfl
 | ty :: tys, t :: u :: ts, v :: vs, h, x, h', ho, hv, e => by
   unfold vK at e;simp only [okL] at hv;split at e
   ·rename_i x1 h1 hd;split at e
    ·rename_i y1 h2 hd2;cases e;obtain ⟨y, a1, a2, a3, a4⟩ := qGP ho hv.1 hd;obtain ⟨ys, b1, b2, b3, b4⟩ := aU a4 (qQ a3 hv.2) hd2;refine ⟨y :: ys, ?_, ?_, a3.trans b3, b4⟩
     ·simp only [qC, fzA, a1, b1]
     ·show rt1 P ty y :: rtL (rt1 P) tys ys = t.pv x1 :: pvL (u :: ts) y1;rw [a2, b2]
    ·cases e
   ·cases e
 | [], [_], [_], _, _, _, _, _, e => by unfold vK at e; cases e
 | [], _ :: _ :: _, _ :: _, _, _, _, _, _, e => by unfold vK at e; cases e
 | tys, [], _ :: _, _, _, _, _, _, e => by cases tys <;> (unfold vK at e; cases e)
 | tys, _ :: ts, [], _, _, _, _, _, e => by cases tys <;> cases ts <;> (unfold vK at e; cases e)
 | tys, [_], _ :: _ :: _, _, _, _, _, _, e => by cases tys <;> (unfold vK at e; cases e)
def Ty.sv (t : Ty) (x : t.sem) : SV := cond t.one (.d t x) (.agg (t.svs x))
theorem pX (t : Ty) (x : t.sem) : (t.sv x).enc = t.pv x := by
 unfold Ty.sv Ty.pv;cases t.one <;> simp [SV.enc, tV]
omit [Yl] in
theorem qL5 (t : Ty) (x : t.sem) : (t.sv x).ok h := by
 unfold Ty.sv;cases t.one
 ·simp only [cond_false, SV.ok]; exact qOQ t x
 ·simp [SV.ok]
def svL : (ts : List Ty) -> TyL ts -> List SV
 | [], _ => []
 | [t], x => [t.sv x]
 | t :: u :: ts, x => t.sv x.1 :: svL (u :: ts) x.2
theorem qBJ : ∀ (ts : List Ty) (x : TyL ts), qC (svL ts x) = pvL ts x
 | [], _ => by simp [svL, pvL, qC]
 | [t], x => by simp [svL, pvL, qC, pX]
 | t :: u :: ts, x => by
   show qC (t.sv x.1 :: svL (u :: ts) x.2) = t.pv x.1 :: pvL (u :: ts) x.2;simp only [qC, pX, qBJ (u :: ts)]
omit [Yl] in
theorem tT : ∀ (ts : List Ty) (x : TyL ts), okL h (svL ts x)
 | [], _ => by simp [svL, okL]
 | [t], x => by simp [svL, okL, qL5]
 | t :: u :: ts, x => by
   show okL h (t.sv x.1 :: svL (u :: ts) x.2);simp only [okL];exact ⟨qL5 t x.1, tT (u :: ts) x.2⟩
def qJH (ts : List Ty) (x : TyL ts) : SV := match svL ts x with
 | [v] => v
 | vs => .tup vs
theorem qHV (ts : List Ty) (x : TyL ts) : (qJH ts x).enc = wI ts x := by
 unfold qJH wI;rw [<- qBJ]
 match svL ts x with
 | [] => simp [qC, qCX, SV.enc]
 | [v] => simp [qC, qCX]
 | a :: b :: l => simp [qC, qCX, SV.enc]
omit [Yl] in
theorem qNO (ts : List Ty) (x : TyL ts) : (qJH ts x).ok h := by
 unfold qJH;have := tT (h := h) ts x;split
 ·rename_i v hv;rw [hv] at this;simp only [okL] at this;exact this.1
 ·simp only [SV.ok]; exact this
def qTL (tab : fT) (T : xD) : Prop := ∀ g ent, slT g T = some ent -> ∀ x, tab g (pvL ent.as x) = (ent.F x).map (wI ent.rs)
def qPY (P : Program) (T : xD) (d : Bool) (g : FuncId) (as : List SV) (h : SH) (K : SV -> SH -> Tree R) : Tree R := match slT g T, P.funcs[g]? with
 | some ent, some fn => (match vK P fn.params.toList ent.as as h with
   | some (x, h1) => .bind (ent.F x) fun y => cond d (cond (wK (wI ent.rs y) || (qC as).all qRL) (K (qJH ent.rs y) h) .fail) (K (qJH ent.rs y) (cond (wK (wI ent.rs y)) h h1))
   | none => .fail)
 | _, _ => .fail
theorem qY5 {T : xD} (ht : qTL tab T) {K : SV -> SH -> Tree R} (ho : OkH P h) (ha : okL h as) (e : (qPY P T false g as h K).run = some r) :
 ∃ v h', fA P tab g (qC as) (qF h.l) = .ok v.enc (qF h'.l) ∧ Post P h h' v ∧ (K v h').run = some r := by
 unfold qPY at e;split at e
 ·rename_i ent fn hent hfn;split at e
  ·rename_i x h1 hx;obtain ⟨y, hy, e1⟩ := run_bind e;obtain ⟨ys, a1, a2, a3, a4⟩ := aU ho ha hx;have e2 : (K (qJH ent.rs y) (cond (wK (wI ent.rs y)) h h1)).run = some r := e1;refine ⟨_, _, ?_, ⟨?_, ?_, qNO _ _⟩, e2⟩
   ·unfold fA;rw [a1];simp only;rw [show rtA P g ys = pvL ent.as x by unfold rtA; rw [hfn]; exact a2, ht g ent hent x, hy];simp only [Option.map_some, qHV];cases wK (wI ent.rs y) <;> rfl
   ·cases wK (wI ent.rs y)
    ·exact a3
    ·exact .refl _
   ·cases wK (wI ent.rs y)
    ·exact a4
    ·exact ho
  ·cases e
 ·cases e
theorem qRU {T : xD} (ht : qTL tab T) {K : SV -> SH -> Tree R} (ho : OkH P h) (ha : okL h as) (e : (qPY P T true g as h K).run = some r) :
 ∃ v h', tY P tab g (qC as) (qF h.l) = .ok v.enc (qF h'.l) ∧ Post P h h' v ∧ (K v h').run = some r := by
 unfold qPY at e;split at e
 ·rename_i ent fn hent hfn;split at e
  ·rename_i x h1 hx;obtain ⟨y, hy, e1⟩ := run_bind e;obtain ⟨ys, a1, a2, a3, a4⟩ := aU ho ha hx;obtain ⟨c, e2⟩ := qJ (show (cond (wK (wI ent.rs y) || (qC as).all qRL) (K (qJH ent.rs y) h) .fail : Tree R).run = some r from e1);refine ⟨_, _, ?_, ⟨.refl _, ho, qNO _ _⟩, e2⟩;unfold tY;rw [a1];simp only;rw [show rtA P g ys = pvL ent.as x by unfold rtA; rw [hfn]; exact a2, ht g ent hent x, hy];simp only [Option.map_some, qHV, c, cond_true]
  ·cases e
 ·cases e
def qE0 (fv : SV) (args : List SV) : Option (FuncId × List SV) := match fv with
 | .c (.func (.func g) a c) => cond (a.toList.isEmpty && c.toList.isEmpty) (some (g, args)) none
 | .fn g first cap => some (g, first ++ (args ++ cap))
 | _ => none
theorem qDV {fv : SV} {args : List SV} (hf : fv.ok h) (ha : okL h args) (e : qE0 fv args = some (g, as)) : target fv.enc (qC args) = some (g, qC as) ∧ okL h as := by
 unfold qE0 at e;split at e
 ·rename_i g' a c
  cases hc : (a.toList.isEmpty && c.toList.isEmpty) with
  | false => rw [hc] at e; cases e
  | true =>
    rw [hc] at e;cases e;exact ⟨by simp only [target, SV.enc, fvv, hc, cond_true], ha⟩
 ·rename_i g' first cap
  cases e;simp only [SV.ok] at hf;exact ⟨by simp only [target, SV.enc, nH], fQ hf.1 (fQ ha hf.2)⟩
 ·cases e
def q14 (P : Program) (T : xD) (d : Bool) (f : SV) (args : List SV) (h : SH) (K : SV -> SH -> Tree R) : Tree R := match qE0 f args with
 | some (g, as) => qPY P T d g as h K
 | none => .fail
def q2D (P : Program) (T : xD) (d : Bool) (k : Nat) (o : Oper) (env : List SV) (h : SH) (K : SV -> SH -> Tree R) : Tree R := match o.op with
 | .call ⟨.value f, args, _⟩ => q14 P T d (jI env f) (mX env args) h K
 | _ => sop P o env k h K
def q5U (P : Program) (G : Nat -> Bool) (CI : CIT) : Prop := ∀ {R : Type} (nm : Nm) (f : FuncId) (as : List SV) (h : SH) (K : SV -> SH -> Tree R) (r : R), OkH P h -> okL h as -> (CI R nm f as h K).run = some r ->
 qS9 P G nm f (qC as) (qF h.l) fun v p => ∃ v' h', v = v'.enc ∧ p = qF h'.l ∧ Post P h h' v' ∧ (K v' h').run = some r
def qO4 (p : Nat -> Bool) (env : List SV) : List (Nat × SO) -> Bool
 | [] => true
 | (k, _) :: l => (!p k || xR k (qC env)) && qO4 p env l
theorem qIX {p : Nat -> Bool} {env : List SV} : ∀ {l : List (Nat × SO)}, qO4 p env l = true -> clean p (qC env) (qF l) = true
 | [], _ => rfl
 | (k, o) :: l, h => by
   have h : ((!p k || xR k (qC env)) && qO4 p env l) = true := h;show ((!p k || xR k (qC env)) && clean p (qC env) (qF l)) = true;rw [Bool.and_eq_true] at h ⊢;exact ⟨h.1, qIX h.2⟩
section
variable {Γ : Type}
def q1G (P : Program) (T : xD) (CI : CIT) (Y : YI Γ) (nm : Nm) (f : SV) (args : List SV) (g : Γ) (env : List SV) (h : SH) (K : Γ -> SV -> SH -> Tree R) : Tree R := match f with
 | .yv => (match vK P Y.yt Y.ys args h with
   | some (y, h1) => .bind (Y.stp g y) fun p => K p.1 (.d .bool p.2) h1
   | none => .fail)
 | f => (match qE0 f args with
   | some (t, as) => cond (slT t T).isSome (qPY P T false t as h (K g)) (CI R (qSA nm t) t as h fun v h2 => cond (qO4 (qSA nm t).p env h2.l) (K g v h2) .fail)
   | none => .fail)
def q1A (P : Program) (T : xD) (CI : CIT) (Y : YI Γ) (nm : Nm) (o : Oper) (g : Γ) (env : List SV) (h : SH) (K : Γ -> SV -> SH -> Tree R) : Tree R := match o.op with
 | .call ⟨.value f, args, _⟩ => q1G P T CI Y nm (jI env f) (mX env args) g env h K
 | _ => sop P o env (zQ nm o.dst) h (K g)
def YOk (P : Program) (G : Nat -> Bool) (w : Wld Γ) (Y : YI Γ) : Prop := ∀ g y g' b, Y.stp g y = some (g', b) -> qJ8 P G w Yl.l g (pvL Y.ys y) g' b
end
theorem qV8 {T : xD} (ht : qTL tab T) {o : Oper} {env : List SV} {K : SV -> SH -> Tree R} (ho : OkH P h) (he : okL h env) (e : (q2D P T true k o env h K).run = some r) :
 ∃ v h', yS P tab k o (qC env) (qF h.l) = .ok v.enc (qF h'.l) ∧ Post P h h' v ∧ (K v h').run = some r := by
 unfold q2D at e;unfold yS;split at e
 ·rename_i f args ts hop;unfold q14 at e;split at e
  ·rename_i g as hst;obtain ⟨h1, h2⟩ := qDV (qAT he f) (nK he args) hst;obtain ⟨v, h', a1, a2, a3⟩ := qRU ht ho h2 e;refine ⟨v, h', ?_, a2, a3⟩;simp only [hop, qU, mD, h1];exact a1
  ·cases e
 ·rename_i hne;obtain ⟨v, h', a1, a2, a3⟩ := q13 ho he e;refine ⟨v, h', ?_, a2, a3⟩;split
  ·rename_i f args ts hop; exact absurd hop (hne f args ts)
  ·rw [a1]; rfl
end
end Go.Sv
namespace Go.Sv
open Go.Idl
variable {d : Option Tmp} {env : List SV} {h : SH} {o : Oper} {t : Nat} {v : SV}
noncomputable section
variable [Gc]
variable [Yl]
variable {P : Program} {R : Type} {r : R} {tab : fT} {G : Nat -> Bool} {nm : Nm}
omit [Yl] in
theorem holds_mono {Q Q' : List PV -> PHp -> Prop} (hq : ∀ e p, Q e p -> Q' e p) : ∀ {t : PT}, t.holds P G Q -> t.holds P G Q'
 | .fail, h => h.elim
 | .ret e p, h => hq e p h
 | .chk c t, h => ⟨h.1, holds_mono hq h.2⟩
 | .call nm g args ph k, h => by
   obtain ⟨R, h1, h2⟩ := h;exact ⟨R, h1, fun v p hr => holds_mono hq (h2 v p hr)⟩
 | .rnd _ _ _ _, h => h.elim
omit [Yl] in
theorem q03 (k : Nat) : ∀ (cs : List FV), xR k (cs.map .f) = true
 | [] => by simp [xR]
 | c :: cs => by simp [xR, noK, q03 k cs]
def qZB (k : Nat) : List (Nat × SO) -> Bool
 | [] => true
 | (_, .cells _ _ l) :: r => xR k (qC l) && qZB k r
 | (_, .list _ _ _ _ _ _) :: r => qZB k r
 | (_, .spc _ _) :: r => qZB k r
theorem eD {k : Nat} : ∀ {l : List (Nat × SO)}, qZB k l = true -> rV k (qF l) = true
 | [], _ => rfl
 | (j, .cells el w l) :: r, h => by
   simp only [qZB, Bool.and_eq_true] at h;show (xR k (qC l) && rV k (qF r)) = true;rw [h.1, eD h.2]; rfl
 | (j, .list el gr g w t xs) :: r, h => by
   simp only [qZB] at h;show (xR k ((xs.flatMap t.cells).map .f) && rV k (qF r)) = true;rw [q03, eD h]; rfl
 | (j, .spc w x) :: r, h => by
   simp only [qZB] at h;show (xR k x.enc.cs && rV k (qF r)) = true
   have : xR k x.enc.cs = true := by
    cases x with
    | map es => exact qW7 k _ _
    | iter s pos => rfl
   rw [this, eD h]; rfl
def qBV (env : List SV) (d : Option Tmp) (v : SV) : List SV := match d with
 | some t => kN env t v
 | none => env
theorem vY (env : List SV) (t : Nat) (v : SV) : qC (kN env t v) = kN (qC env) t v.enc := by
 rw [yJ, yJ, zK, zK, List.map_set]
theorem nL (env : List SV) (d : Option Tmp) (v : SV) : qC (qBV env d v) = xE (qC env) d v.enc := by
 cases d with
 | none => rfl
 | some t => exact vY env t v
omit [Yl] in
theorem wH (he : okL h env) (hv : v.ok h) : okL h (kN env t v) := by
 rw [yJ]
 exact xU.2 fun x hx => by
  rcases List.mem_or_eq_of_mem_set hx with q | q
  ·exact xU.1 he x q
  ·rw [q]; exact hv
omit [Yl] in
theorem tC (he : okL h env) (hv : v.ok h) : okL h (qBV env d v) := by
 cases d with
 | none => exact he
 | some t => exact wH he hv
omit [Yl] in
theorem gM (env : List SV) (t : Nat) (v : SV) : (kN env t v).length = env.length := by rw [yJ, List.length_set]
omit [Yl] in
theorem qX3 (env : List SV) (d : Option Tmp) (v : SV) : (qBV env d v).length = env.length := by
 cases d with
 | none => rfl
 | some t => exact gM env t v
theorem qPM {w : SV} (h1 : z8 env t = some v) (h2 : w.enc = v.enc) : qC (kN env t w) = qC env := by
 rw [vY, yJ];rw [qG] at h1;apply List.ext_getElem?;intro i;rw [List.getElem?_set];by_cases e : t = i
 ·subst e;rw [if_pos rfl, zK, List.getElem?_map, h1, List.length_map, if_pos (List.getElem?_eq_some_iff.1 h1).1, h2];rfl
 ·rw [if_neg e]
def zZ (b w : Bool) : Bool := cond w b (!b)
omit [Yl] in
theorem qNW (b w : Bool) : zZ b w = (b == w) := by cases b <;> cases w <;> rfl
def qFS (ds : List (Option Tmp)) (o : Oper) (env : List SV) (Y N : List SV -> Tree R) : Tree R := match o.guard with
 | none => Y env
 | some (j, w) => (match qQC ds j with
   | none => N env
   | some t => (match z8 env t with
     | none => .fail
     | some v => (match asB v with
       | some b => .ite (zZ b w) (Y (kN env t (.c (.bool w)))) (N (kN env t (.c (.bool (!w)))))
       | none => (match v with
         | .tup [] => N env
         | _ => .fail))))
theorem qC0 {ds : List (Option Tmp)} {Y N : List SV -> Tree R} (he : okL h env) (e : (qFS ds o env Y N).run = some r) :
 ∃ env', qC env' = qC env ∧ okL h env' ∧ env'.length = env.length ∧ ((cK ds o (qC env) = some true ∧ (Y env').run = some r) ∨ (cK ds o (qC env) = some false ∧ (N env').run = some r)) := by
 unfold qFS at e;unfold cK;split at e
 ·rename_i hg;exact ⟨env, rfl, he, rfl, .inl ⟨by rw [hg], e⟩⟩
 ·rename_i j w hg;rw [hg];simp only;split at e
  ·rename_i hd;exact ⟨env, rfl, he, rfl, .inr ⟨by rw [hd]; rfl, e⟩⟩
  ·rename_i t hd;rw [hd];simp only [qKN, kK];split at e
   ·cases e
   ·rename_i v hv;rw [hv];split at e
    ·rename_i b hb;have hbe := qAA hb
     rcases run_ite e with ⟨z, e1⟩ | ⟨z, e1⟩
     ·rw [qNW] at z;have : b = w := by simpa using z
      subst this;refine ⟨_, qPM hv (by rw [hbe]; simp [SV.enc]), wH he (by simp [SV.ok]), gM _ _ _, .inl ⟨?_, e1⟩⟩;simp only [Option.map_some, hbe, qBD, z]
     ·rw [qNW] at z
      have : b = !w := by cases b <;> cases w <;> first | rfl | cases z
      refine ⟨_, qPM hv (by rw [hbe, this]; simp [SV.enc]), wH he (by simp [SV.ok]), gM _ _ _, .inr ⟨?_, e1⟩⟩;simp only [Option.map_some, hbe, qBD, z]
    ·split at e
     ·exact ⟨env, rfl, he, rfl, .inr ⟨by simp only [Option.map_some, SV.enc, qC]; exact qRF, e⟩⟩
     ·cases e
def qC6 (nm : Nm) (k : Nat) (env : List SV) (h : SH) : Bool := inP nm k && (xR k (qC env) && qZB k h.l)
section
variable {Γ : Type}
def qXJ (P : Program) (T : xD) (CI : CIT) (Y : YI Γ) (nm : Nm) (ds : List (Option Tmp)) : List Oper -> Γ -> List SV -> SH -> (Γ -> List SV -> SH -> Tree R) -> Tree R
 | [], g, env, h, K => K g env h
 | o :: l, g, env, h, K => qFS ds o env
    (fun env => cond (cond (needs o.op) (qC6 nm (zQ nm o.dst) env h) true) (q1A P T CI Y nm o g env h fun g v h' => qXJ P T CI Y nm ds l g (qBV env o.dst v) h' K) .fail)
    (fun env => qXJ P T CI Y nm ds l g (qBV env o.dst (.tup [])) h K)
end
def Ends (P : Program) (w : List (Option Tmp)) (env : List SV) (h : SH) (env' : List SV) (h' : SH) : Prop :=
 okL h' env' ∧ OkH P h' ∧ Keep h h' ∧ (∀ i, some i ∉ w -> z8 (qC env') i = z8 (qC env) i) ∧ env'.length = env.length
theorem q5H {i : Nat} (h : d ≠ some i) : z8 (qC (qBV env d v)) i = z8 (qC env) i := by
 cases d with
 | none => rfl
 | some t =>
   show z8 (qC (kN env t v)) i = _;rw [vY, yJ, qG, qG, List.getElem?_set, if_neg (fun e => h (by rw [e]))]
theorem Ends.step {w : List (Option Tmp)} {env0 : List SV} {h1 : SH} {env' : List SV} {h' : SH} (he : qC env = qC env0) (hl : env.length = env0.length) (hk : Keep h h1) (x : Ends P w (qBV env o.dst v) h1 env' h') : Ends P (o.dst :: w) env0 h env' h' :=
 ⟨x.1, x.2.1, hk.trans x.2.2.1, fun i hi => by
   rw [List.mem_cons, not_or] at hi
   rw [x.2.2.2.1 i hi.2, q5H (fun e => hi.1 e.symm), he], by rw [x.2.2.2.2, qX3, hl]⟩
omit [Yl] in
theorem kU {Γ : Type} {w : Wld Γ} {Q Q' : Γ -> List PV -> PHp -> Prop} (hq : ∀ g e p, Q g e p -> Q' g e p) : ∀ {t : PT} {g : Γ}, t.holdsY P G w Q g -> t.holdsY P G w Q' g
 | .fail, _, h => h.elim
 | .ret e p, g, h => hq g e p h
 | .chk c t, g, h => ⟨h.1, kU hq h.2⟩
 | .call nm f args ph k, g, h => by
   obtain ⟨R, h1, h2⟩ := h;exact ⟨R, h1, fun v p hr => kU hq (h2 v p hr)⟩
 | .rnd l args ph k, g, h => by
   obtain ⟨fargs, tys, ph1, g', b, h1, h2, h3⟩ := h;exact ⟨fargs, tys, ph1, g', b, h1, h2, kU hq h3⟩
def qYS (T : xD) (f : FuncId) : Bool := !(slT f T).isSome
theorem qER {Γ : Type} {w : Wld Γ} {T : xD} {CI : CIT} {Y : YI Γ} (ht : qTL tab T) (hci : q5U P G CI) (hy : YOk P G w Y) {ds : List (Option Tmp)} : ∀ {l : List Oper} {g : Γ} {env : List SV} {h : SH} {K : Γ -> List SV -> SH -> Tree R}, OkH P h -> okL h env -> (qXJ P T CI Y nm ds l g env h K).run = some r ->
 (pops P tab (qYS T) nm ds l (qC env) (qF h.l)).holdsY P G w (fun g e p => ∃ env' h', e = qC env' ∧ p = qF h'.l ∧ Ends P (l.map (·.dst)) env h env' h' ∧ (K g env' h').run = some r) g
 | [], g, env, h, K, ho, he, e => ⟨env, h, rfl, rfl, ⟨he, ho, .refl _, fun _ _ => rfl, rfl⟩, e⟩
 | o :: l, g, env, h, K, ho, he, e => by
   unfold qXJ at e;obtain ⟨env1, q1, q2, q3, q4⟩ := qC0 he e;rw [qT9]
   rcases q4 with ⟨hw, e1⟩ | ⟨hw, e1⟩
   ·rw [hw, q0E];obtain ⟨c, e2⟩ := qJ e1
    have next : ∀ {g' : Γ} {v : SV} {h' : SH}, Post P h h' v -> (qXJ P T CI Y nm ds l g' (qBV env1 o.dst v) h' K).run = some r -> (pops P tab (qYS T) nm ds l (xE (qC env) o.dst v.enc) (qF h'.l)).holdsY P G w (fun g e p => ∃ env' h', e = qC env' ∧ p = qF h'.l ∧ Ends P ((o :: l).map (·.dst)) env h env' h' ∧ (K g env' h').run = some r) g' := fun {g' v h'} a2 a3 => by
     have ih := qER ht hci hy a2.2.1 (tC (d := o.dst) (qQ a2.1 q2) a2.2.2) a3;rw [nL, q1] at ih;exact kU (fun g e p ⟨env', h', b1, b2, b3, b4⟩ => ⟨env', h', b1, b2, Ends.step q1 q3 a2.1 b3, b4⟩) ih
    have chk : ∀ {g' : Γ} {v : SV} {h' : SH}, Post P h h' v -> (qXJ P T CI Y nm ds l g' (qBV env1 o.dst v) h' K).run = some r -> (q31 (needs o.op) (zQ nm o.dst) nm (qC env) (qF h.l) (pops P tab (qYS T) nm ds l (xE (qC env) o.dst v.enc) (qF h'.l))).holdsY P G w (fun g e p => ∃ env' h', e = qC env' ∧ p = qF h'.l ∧ Ends P ((o :: l).map (·.dst)) env h env' h' ∧ (K g env' h').run = some r) g' := fun {g' v h'} a2 a3 => by
     unfold q31
     cases hn : needs o.op with
     | false => exact next a2 a3
     | true =>
       rw [hn] at c;simp only [cond_true] at c ⊢;refine ⟨?_, next a2 a3⟩;unfold qC6 at c;rw [q1] at c;simp only [Bool.and_eq_true] at c;unfold fresh;rw [c.1, c.2.1, eD c.2.2]; rfl
    unfold q1A at e2;split at e2
    ·rename_i f args ts hop
     have hpe : fI P tab (qYS T) (zQ nm o.dst) o (qC env) (qF h.l) = mY P tab (qYS T) (jI env1 f).enc (qC (mX env1 args)) (qF h.l) := by
      unfold fI;rw [<- q1];simp only [hop, qU, mD]
     rw [hpe];have hfv := qAT q2 f;have has := nK q2 args
     revert e2 hfv
     generalize jI env1 f = fv;intro e2 hfv;unfold q1G at e2;split at e2
     ·split at e2
      ·rename_i y h1 hd;obtain ⟨p, hp, e3⟩ := run_bind e2;obtain ⟨g', b⟩ := p;obtain ⟨ys, a1, a2, a3, a4⟩ := aU ho has hd
       have : mY P tab (qYS T) (SV.enc .yv) (qC (mX env1 args)) (qF h.l) = .rnd Yl.l (qC (mX env1 args)) (qF h.l) := by
        simp only [SV.enc, mY]
       rw [this, qSJ];refine ⟨ys, Y.yt, qF h1.l, g', b, a1, ?_, ?_⟩
       ·rw [a2]; exact hy _ _ _ _ hp
       ·have := next (v := .d .bool b) ⟨a3, a4, by simp [SV.ok]⟩ e3;simpa [SV.enc, Ty.fv, fvv] using this
      ·cases e2
     ·split at e2
      ·rename_i t as hst;obtain ⟨h1, h2⟩ := qDV hfv has hst;rw [qIB h1];unfold dJ qYS
       cases hsl : (slT t T).isSome with
       | true =>
         rw [hsl] at e2;simp only [cond_true] at e2;obtain ⟨v, h', a1, a2, a3⟩ := qY5 ht ho h2 e2;simp only [Bool.not_true, cond_false];rw [a1, qN7];exact chk a2 a3
       | false =>
         rw [hsl] at e2;simp only [cond_false] at e2;simp only [Bool.not_false, cond_true];rw [qQ1];refine ⟨_, hci _ _ _ _ _ _ ho h2 e2, ?_⟩;rintro v p ⟨v', h', rfl, rfl, a2, a3⟩;obtain ⟨c2, a4⟩ := qJ a3;have := qIX c2;rw [q1] at this;exact ⟨this, next a2 a4⟩
      ·cases e2
    ·rename_i hne;obtain ⟨v, h', a1, a2, a3⟩ := q13 ho q2 e2;rw [q1] at a1
     have hpe : fI P tab (qYS T) (zQ nm o.dst) o (qC env) (qF h.l) = .ok v.enc (qF h'.l) := by
      unfold fI;split
      ·rename_i f args ts hop; exact absurd hop (hne f args ts)
      ·rw [a1]; rfl
     rw [hpe, qN7];exact chk a2 a3
   ·rw [hw, qW2];have ih := qER ht hci hy ho (tC (d := o.dst) (v := .tup []) q2 (by simp [SV.ok, okL])) e1;rw [nL, q1] at ih;simp only [SV.enc, qC] at ih;exact kU (fun g e p ⟨env', h', b1, b2, b3, b4⟩ => ⟨env', h', b1, b2, Ends.step q1 q3 (.refl _) b3, b4⟩) ih
def qR2 (P : Program) (T : xD) (nm : Nm) (ds : List (Option Tmp)) (b : Array Nat) (env0 : List SV) : Nat -> List Oper -> List SV -> SH -> List (Nat × List Nat) -> List (Nat × List Nat) -> List (Nat × Nat) -> List (Nat × PV) -> (List SV -> SH -> Tree R) -> Tree R
 | i, [], env, h, E, F, N, V, K => cond (dN b (qC env0) E F N V) (K env h) .fail
 | i, o :: l, env, h, E, F, N, V, K => qFS ds o env
    (fun env => cond (cond (needs o.op) (inP nm (zQ nm o.dst) && qZB (zQ nm o.dst) h.l) true) (q2D P T true (zQ nm o.dst) o env h fun v h' =>
      qR2 P T nm ds b env0 (i + 1) l (qBV env o.dst v) h' (cond (zM o) ((i, wlT nm o (qC env)) :: E) E) (cond (zM o) F ((i, dlT o (qC env)) :: F)) (cond (needs o.op) ((i, zQ nm o.dst) :: N) N) ((i, v.enc) :: V) K) .fail)
    (fun env => qR2 P T nm ds b env0 (i + 1) l (qBV env o.dst (.tup [])) h E F N ((i, .tup []) :: V) K)
theorem qE6 {T : xD} (ht : qTL tab T) {ds : List (Option Tmp)} {b : Array Nat} {env0 : List SV} : ∀ {l : List Oper} {i : Nat} {env : List SV} {h : SH} {E F : List (Nat × List Nat)} {N : List (Nat × Nat)} {V : List (Nat × PV)} {K : List SV -> SH -> Tree R}, OkH P h -> okL h env -> (qR2 P T nm ds b env0 i l env h E F N V K).run = some r ->
 (qJN P tab nm ds b (qC env0) i l (qC env) (qF h.l) E F N V).holds P G fun e p => ∃ env' h', e = qC env' ∧ p = qF h'.l ∧ Ends P (l.map (·.dst)) env h env' h' ∧ (K env' h').run = some r
 | [], i, env, h, E, F, N, V, K, ho, he, e => by
   unfold qR2 at e;obtain ⟨c, e1⟩ := qJ e;rw [qXS];exact ⟨c, env, h, rfl, rfl, ⟨he, ho, .refl _, fun _ _ => rfl, rfl⟩, e1⟩
 | o :: l, i, env, h, E, F, N, V, K, ho, he, e => by
   unfold qR2 at e;obtain ⟨env1, q1, q2, q3, q4⟩ := qC0 he e;rw [qWK]
   rcases q4 with ⟨hw, e1⟩ | ⟨hw, e1⟩
   ·rw [hw, qVO];obtain ⟨c, e2⟩ := qJ e1;obtain ⟨v, h', a1, a2, a3⟩ := qV8 ht ho q2 e2;rw [q1] at a1;rw [a1, qTU];have ih := qE6 ht a2.2.1 (tC (d := o.dst) (qQ a2.1 q2) a2.2.2) a3;rw [nL, q1] at ih;have ih2 := holds_mono (Q' := fun e p => ∃ env' h', e = qC env' ∧ p = qF h'.l ∧ Ends P ((o :: l).map (·.dst)) env h env' h' ∧ (K env' h').run = some r) (fun e p ⟨env', h', b1, b2, b3, b4⟩ => ⟨env', h', b1, b2, Ends.step q1 q3 a2.1 b3, b4⟩) ih;unfold qU5
    cases hn : needs o.op with
    | false => rw [hn] at ih2; exact ih2
    | true =>
      rw [hn] at c ih2;simp only [cond_true] at c ⊢;refine ⟨?_, ih2⟩;rw [Bool.and_eq_true] at c;rw [c.1, eD c.2]; rfl
   ·rw [hw, qPV];have ih := qE6 ht ho (tC (d := o.dst) (v := .tup []) q2 (by simp [SV.ok, okL])) e1;rw [nL, q1] at ih;simp only [SV.enc, qC] at ih;exact holds_mono (fun e p ⟨env', h', b1, b2, b3, b4⟩ => ⟨env', h', b1, b2, Ends.step q1 q3 (.refl _) b3, b4⟩) ih
def qM8 (ops : Array Oper) : Bool := match ops[ops.size - 1]? with
 | some o => (match o.op with
   | .call ⟨.value _, _, _⟩ => (List.range (ops.size - 1)).all fun i => uN (Region.before ops) i (ops.size - 1)
   | _ => false)
 | none => false
def q9C {Γ : Type} (P : Program) (G : Nat -> Bool) (T : xD) (CI : CIT) (Y : YI Γ) (nm : Nm) (ops : Array Oper) (d : Bool) (g : Γ) (env : List SV) (h : SH) (K : Γ -> List SV -> SH -> Tree R) : Tree R :=
 cond (kW G ops) (cond d (cond (uX ops && uU ops) (cond (qM8 ops)
  (qR2 P T nm (ops.toList.map (·.dst)) (Region.before ops) env 0 (ops.toList.take (ops.size - 1)) env h [] [] [] [] fun env h => qXJ P T CI Y nm (ops.toList.map (·.dst)) (ops.toList.drop (ops.size - 1)) g env h K)
  (qR2 P T nm (ops.toList.map (·.dst)) (Region.before ops) env 0 ops.toList env h [] [] [] [] (K g))) .fail) (qXJ P T CI Y nm (ops.toList.map (·.dst)) ops.toList g env h K)) .fail
variable {nat : xJ} {good : FuncId -> Bool} {rd : Bool}
theorem q4E {Γ : Type} {w : Wld Γ} {T : xD} {CI : CIT} {Y : YI Γ} (s : PSet P good nat G tab) (ht : qTL tab T) (hci : q5U P G CI) (hy : YOk P G w Y) {id : Nat} {ops : Array Oper} {d : Bool} {g : Γ} {K : Γ -> List SV -> SH -> Tree R} (ho : OkH P h) (he : okL h env) (e : (q9C P G T CI Y nm ops d g env h K).run = some r) :
 zO P G rd nm w (.region id ops d) g (qC env) (qF h.l) fun x g' pe ph => x = .normal ∧ ∃ env' h', pe = qC env' ∧ ph = qF h'.l ∧ Ends P (ops.toList.map (·.dst)) env h env' h' ∧ (K g' env' h').run = some r := by
 unfold q9C at e;obtain ⟨c1, e1⟩ := qJ e
 cases d with
 | true =>
   obtain ⟨c2, e2⟩ := qJ (show (cond (uX ops && uU ops) (cond (qM8 ops)
    (qR2 P T nm (ops.toList.map (·.dst)) (Region.before ops) env 0 (ops.toList.take (ops.size - 1)) env h [] [] [] [] fun env h => qXJ P T CI Y nm (ops.toList.map (·.dst)) (ops.toList.drop (ops.size - 1)) g env h K)
    (qR2 P T nm (ops.toList.map (·.dst)) (Region.before ops) env 0 ops.toList env h [] [] [] [] (K g))) .fail : Tree R).run = some r from e1)
   rw [Bool.and_eq_true] at c2
   cases hlo : qM8 ops with
   | false =>
     rw [hlo] at e2;have e2 : (qR2 P T nm (ops.toList.map (·.dst)) (Region.before ops) env 0 ops.toList env h [] [] [] [] (K g)).run = some r := e2;refine (zO.of (s.drwZ (Q := fun x pe ph => x = .normal ∧ ∃ env' h', pe = qC env' ∧ ph = qF h'.l ∧ Ends P (ops.toList.map (·.dst)) env h env' h' ∧ (K g env' h').run = some r) c1 c2.1 c2.2 rfl rfl ?_)).mono ?_
     ·exact holds_mono (fun e p hq => ⟨rfl, hq⟩) (qE6 (G := G) ht ho he e2)
     ·rintro x g' pe ph ⟨rfl, hq⟩;exact hq
   | true =>
     rw [hlo] at e2;have e2 : (qR2 P T nm (ops.toList.map (·.dst)) (Region.before ops) env 0 (ops.toList.take (ops.size - 1)) env h [] [] [] [] fun env h => qXJ P T CI Y nm (ops.toList.map (·.dst)) (ops.toList.drop (ops.size - 1)) g env h K).run = some r := e2;unfold qM8 at hlo;split at hlo
     ·rename_i o hop;split at hlo
      ·have hlt := (Array.getElem?_eq_some_iff.1 hop).1
       have hdrop : ops.toList.drop (ops.size - 1) = [o] := by
        have h1 : ops.toList[ops.size - 1]? = some o := by simpa using hop
        obtain ⟨h2, h3⟩ := List.getElem?_eq_some_iff.1 h1;rw [List.drop_eq_getElem_cons h2, h3, List.drop_eq_nil_of_le (by simp; omega)]
       have hmap : (ops.toList.take (ops.size - 1)).map (·.dst) ++ [o.dst] = ops.toList.map (·.dst) := by
        rw [show [o.dst] = [o].map (·.dst) from rfl, <- List.map_append, <- hdrop, List.take_append_drop]
       refine s.drwY (inl := qYS T) (n0 := ops.size - 1) c1 c2.1 c2.2 hop (by omega) (fun i hi => List.all_eq_true.1 hlo i (List.mem_range.2 hi)) ?_;refine holds_mono (fun e p hq => ?_) (qE6 (G := G) ht ho he e2);obtain ⟨env1, h1, rfl, rfl, a3, a4⟩ := hq;rw [hdrop] at a4;refine kU (fun g2 e p hq => ?_) (qER (G := G) ht hci hy a3.2.1 a3.1 a4);obtain ⟨env2, h2, rfl, rfl, b3, b4⟩ := hq;refine ⟨rfl, env2, h2, rfl, rfl, ⟨b3.1, b3.2.1, a3.2.2.1.trans b3.2.2.1, fun i hi => ?_, b3.2.2.2.2.trans a3.2.2.2.2⟩, b4⟩;rw [<- hmap, List.mem_append, not_or] at hi;exact (b3.2.2.2.1 i hi.2).trans (a3.2.2.2.1 i hi.1)
      ·cases hlo
     ·cases hlo
 | false => exact s.regY c1 (kU (fun g e p hq => ⟨rfl, hq⟩) (qER (G := G) ht hci hy ho he e1))
end
end Go.Sv
