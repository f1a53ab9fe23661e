/- A symbolic run, part one. Conditions: none. -/
import Derived.Test.YtjgfemghlhmlbaaGreatDoorPur19
set_option linter.all false
namespace Go.Sv
open Go.Idl
variable {j n off : Nat}
class Yl where
 l : Nat
variable [Gc]
variable {P : Program} {Z Z' : Nat -> Prop} {H : IH} {M : Nat -> Option (Nat × PO)}
inductive Ty where
 | int (k : IntKind)
 | bool
 | str
 | unit
 | list (el : TypeId) (t : Ty)
 | pair (a b : Ty)
 | raw deriving DecidableEq
@[reducible] def Ty.sem : Ty -> Type
  | .int _ => Int
  | .bool => Bool
  | .str => ByteArray
  | .unit => Unit
  | .list _ t => List t.sem
  | .pair a b => a.sem × b.sem
  | .raw => List (Value × Value)
def dU (l : List (Value × Value)) : List FV := List.flatMap (fun p => [.v p.1, .v p.2]) l
def Ty.cells : (t : Ty) -> t.sem -> List FV
 | .int k, x => [.v (.int k x)]
 | .bool, x => [.v (.bool x)]
 | .str, x => [.v (.string x)]
 | .unit, _ => []
 | .list el t, xs => [.l el (List.length xs) (List.flatMap t.cells xs)]
 | .pair a b, x => a.cells x.1 ++ b.cells x.2
 | .raw, xs => [.l 1000000001 (List.length xs) (dU xs)]
def Ty.w : Ty -> Nat
 | .int _ | .bool | .str | .list _ _ | .raw => 1
 | .unit => 0
 | .pair a b => a.w + b.w
def Ty.one : Ty -> Bool
 | .unit => false
 | .pair _ _ => false
 | _ => true
def Ty.fv : (t : Ty) -> t.sem -> FV
 | .int k, x => .v (.int k x)
 | .bool, x => .v (.bool x)
 | .str, x => .v (.string x)
 | .list el t, xs => .l el (List.length xs) (List.flatMap t.cells xs)
 | .raw, xs => .l 1000000001 (List.length xs) (dU xs)
 | _, _ => .v undef
theorem Ty.cells_one : ∀ {t : Ty} {x : t.sem}, t.one = true -> t.cells x = [t.fv x]
 | .int _, _, _ => rfl
 | .bool, _, _ => rfl
 | .str, _, _ => rfl
 | .list _ _, _, _ => rfl
 | .raw, _, _ => rfl
 | .unit, _, h => by cases h
 | .pair _ _, _, h => by cases h
theorem Ty.zIL : ∀ (t : Ty) (x : t.sem), (t.cells x).length = t.w
 | .int _, _ => rfl
 | .bool, _ => rfl
 | .str, _ => rfl
 | .list _ _, _ => rfl
 | .raw, _ => rfl
 | .unit, _ => rfl
 | .pair a b, x => by
   show (a.cells x.1 ++ b.cells x.2).length = a.w + b.w;rw [zQ8, a.zIL, b.zIL]
theorem xP {t : Ty} : ∀ (xs : List t.sem), (xs.flatMap t.cells).length = xs.length * t.w
 | [] => by simp
 | x :: xs => by rw [zSD, zQ8, t.zIL, xP xs, zRB, zTX, zTA]
theorem bE {t : Ty} : ∀ (xs : List t.sem) (j : Nat), (xs.flatMap t.cells).drop (j * t.w) = (xs.drop j).flatMap t.cells
 | xs, 0 => by simp
 | [], j + 1 => by simp
 | x :: xs, j + 1 => by
   rw [zSD, List.drop_succ_cons, <- bE xs j, zTX, zTA, <- zUO]
   congr 1
   rw [List.drop_append_of_le_length (by rw [t.zIL]; exact zQO _), zUV (by rw [t.zIL]; exact zQO _), List.nil_append]
theorem mV {t : Ty} : ∀ (xs : List t.sem) (j : Nat), (xs.flatMap t.cells).take (j * t.w) = (xs.take j).flatMap t.cells
 | xs, 0 => by simp
 | [], j + 1 => by simp
 | x :: xs, j + 1 => by
   rw [zSD, zSL, zSD, <- mV xs j, zTX, zTA, List.take_append, t.zIL, zUR, zRU (by rw [t.zIL]; omega)]
theorem qZJ {t : Ty} {xs : List t.sem} {x : t.sem} (h : xs[j]? = some x) : ((xs.flatMap t.cells).drop (j * t.w)).take t.w = t.cells x := by
 rw [bE]
 have hj := (zQQ.1 h)
 obtain ⟨hl, hx⟩ := hj;rw [zRQ hl, hx, zSD, List.take_append_of_le_length (by rw [t.zIL]; exact zQO _), zRU (by rw [t.zIL]; exact zQO _)]
theorem qJG {t : Ty} {xs : List t.sem} {x : t.sem} (h : xs[j]? = some x) (hn : off + n <= t.w) : ((xs.flatMap t.cells).drop (j * t.w + off)).take n = ((t.cells x).drop off).take n := by
 rw [<- qZJ h, List.drop_take, zUO, zVG, zT2 (by omega)]
theorem flat_get {t : Ty} {xs : List t.sem} {x : t.sem} (h : xs[j]? = some x) (hn : off < t.w) : (xs.flatMap t.cells)[j * t.w + off]? = (t.cells x)[off]? := by
 rw [<- qZJ h, zRZ, if_pos hn, zSH]
theorem qHV {t : Ty} {xs : List t.sem} {x : t.sem} (h : xs[j]? = some x) (hn : off + n <= t.w) : j * t.w + off + n <= (xs.flatMap t.cells).length := by
 have hl := (zQQ.1 h).1;rw [xP];have : (j + 1) * t.w <= xs.length * t.w := zRV _ hl;rw [zTX] at this;omega
theorem qJN : ∀ (xs ys : List (Value × Value)), dU xs = dU ys -> xs = ys
 | [], [], _ => rfl
 | [], y :: ys, h => by cases h
 | x :: xs, [], h => by cases h
 | x :: xs, y :: ys, h => by
   have h : FV.v x.1 :: FV.v x.2 :: dU xs = FV.v y.1 :: FV.v y.2 :: dU ys := h;injection h with h1 h2;injection h2 with h2 h3;injection h1 with h1;injection h2 with h2;rw [qJN xs ys h3, Prod.ext h1 h2]
theorem qBE : ∀ (xs : List (Value × Value)), (dU xs).length = 2 * xs.length
 | [] => rfl
 | x :: xs => by
   show (dU xs).length + 2 = _;rw [qBE xs, zRB]; omega
theorem qQ8 : ∀ (xs ys : List (Value × Value)) (vs : List Value), FRL Z H (dU xs) vs -> FRL Z' H (dU ys) vs -> xs = ys
 | [], [], _, _, _ => rfl
 | [], y :: ys, vs, a, b => by have := a.len; have := b.len; simp [dU] at *; omega
 | x :: xs, [], vs, a, b => by have := a.len; have := b.len; simp [dU] at *; omega
 | x :: xs, y :: ys, vs, a, b => by
   have a : FRL Z H (FV.v x.1 :: FV.v x.2 :: dU xs) vs := a;have b : FRL Z' H (FV.v y.1 :: FV.v y.2 :: dU ys) vs := b;obtain ⟨v, vs', rfl, a1, a2⟩ := a.zIF;obtain ⟨v', vs2, e, b1, b2⟩ := b.zIF;cases e;obtain ⟨w, vs3, rfl, a3, a4⟩ := a2.zIF;obtain ⟨w', vs4, e, b3, b4⟩ := b2.zIF;cases e;have e1 := (q0U a1).symm.trans (q0U b1);have e2 := (q0U a3).symm.trans (q0U b3);rw [qQ8 xs ys _ a4 b4, Prod.ext e1 e2]
theorem Ty.inj : ∀ (t : Ty) (x y : t.sem), t.cells x = t.cells y -> x = y
 | .int _, x, y, h => by injection h with h; injection h with h; injection h
 | .bool, x, y, h => by injection h with h; injection h with h; injection h
 | .str, x, y, h => by injection h with h; injection h with h; injection h
 | .unit, _, _, _ => rfl
 | .raw, xs, ys, h => by
   injection h with h;injection h with _ h1 h2;exact qJN _ _ h2
 | .pair a b, x, y, h => by
   have := List.append_inj (show a.cells x.1 ++ b.cells x.2 = a.cells y.1 ++ b.cells y.2 from h) (by rw [a.zIL, a.zIL]);exact Prod.ext (a.inj _ _ this.1) (b.inj _ _ this.2)
 | .list el t, xs, ys, h => by
   injection h with h;injection h with _ h1 h2;exact go t xs ys h1 h2
where
 go (t : Ty) : ∀ (xs ys : List t.sem), xs.length = ys.length -> xs.flatMap t.cells = ys.flatMap t.cells -> xs = ys
 | [], [], _, _ => rfl
 | [], y :: ys, e, h => by cases e
 | x :: xs, [], e, h => by cases e
 | x :: xs, y :: ys, e, h => by
   rw [zSD, zSD] at h;have := List.append_inj h (by rw [t.zIL, t.zIL]);rw [t.inj x y this.1, go t xs ys (by simpa using e) this.2]
theorem Ty.uniq : ∀ (t : Ty) {x y : t.sem} {vs : List Value}, FRL Z H (t.cells x) vs -> FRL Z' H (t.cells y) vs -> x = y
 | .int k, x, y, vs, a, b => by
   obtain ⟨v, vs', rfl, a1, _⟩ := a.zIF;obtain ⟨v', vs2, e, b1, _⟩ := b.zIF;cases e;have := (q0U a1).symm.trans (q0U b1);injection this
 | .bool, x, y, vs, a, b => by
   obtain ⟨v, vs', rfl, a1, _⟩ := a.zIF;obtain ⟨v', vs2, e, b1, _⟩ := b.zIF;cases e;have := (q0U a1).symm.trans (q0U b1);injection this
 | .str, x, y, vs, a, b => by
   obtain ⟨v, vs', rfl, a1, _⟩ := a.zIF;obtain ⟨v', vs2, e, b1, _⟩ := b.zIF;cases e;have := (q0U a1).symm.trans (q0U b1);injection this
 | .unit, _, _, _, _, _ => rfl
 | .raw, xs, ys, vs, a, b => by
   obtain ⟨v, vs', rfl, a1, _⟩ := a.zIF;obtain ⟨v', vs2, e, b1, _⟩ := b.zIF;cases e;obtain ⟨h1, ws, ws', h2, h3, h4⟩ := qJZ a1 b1;have := h4 (by rw [qBE, qBE, h1]);subst this;exact qQ8 xs ys ws h2 h3
 | .pair s t, x, y, vs, a, b => by
   obtain ⟨a1, a2⟩ := FRL.split (xs := s.cells x.1) (ys := t.cells x.2) a;obtain ⟨b1, b2⟩ := FRL.split (xs := s.cells y.1) (ys := t.cells y.2) b;rw [s.zIL] at a1 a2 b1 b2;exact Prod.ext (s.uniq a1 b1) (t.uniq a2 b2)
 | .list el t, xs, ys, vs, a, b => by
   obtain ⟨v, vs', rfl, a1, _⟩ := a.zIF;obtain ⟨v', vs2, e, b1, _⟩ := b.zIF;cases e;obtain ⟨h1, ws, ws', h2, h3, h4⟩ := qJZ a1 b1;have := h4 (by rw [xP, xP, h1]);subst this;exact go t xs ys ws h1 h2 h3
where
 go (t : Ty) : ∀ (xs ys : List t.sem) (vs : List Value), xs.length = ys.length -> FRL Z H (xs.flatMap t.cells) vs -> FRL Z' H (ys.flatMap t.cells) vs -> xs = ys
 | [], [], _, _, _, _ => rfl
 | [], y :: ys, vs, e, a, b => by cases e
 | x :: xs, [], vs, e, a, b => by cases e
 | x :: xs, y :: ys, vs, e, a, b => by
   rw [zSD] at a b;obtain ⟨a1, a2⟩ := a.split;obtain ⟨b1, b2⟩ := b.split;rw [t.zIL] at a1 a2 b1 b2;rw [t.uniq a1 b1, go t xs ys _ (by simpa using e) a2 b2]
def Ty.pv (t : Ty) (x : t.sem) : PV := cond t.one (.f (t.fv x)) (.agg ((t.cells x).map .f))
def Ty.en (t : Ty) : PEn t.sem := ⟨t.pv, fun x y h => by
 unfold Ty.pv at h
 cases ht : t.one with
 | true =>
   rw [ht] at h;injection h with h;exact t.inj x y (by rw [Ty.cells_one ht, Ty.cells_one ht, h])
 | false =>
   rw [ht] at h;injection h with h
   exact t.inj x y (zBK _ _ h), fun P Z Z' H x y v a b => by
 unfold Ty.pv at a b
 cases ht : t.one with
 | true =>
   rw [ht] at a b
   cases a with
   | f a => cases b with
     | f b => exact t.uniq (vs := [v]) (by rw [Ty.cells_one ht]; exact .cons a ⟨rfl, fun i x v h => by simp at h⟩) (by rw [Ty.cells_one ht]; exact .cons b ⟨rfl, fun i x v h => by simp at h⟩)
 | false =>
   rw [ht] at a b;obtain ⟨vs, rfl, h1⟩ := VR.zKJ a;obtain ⟨vs', e, h2⟩ := VR.zKJ b;cases e
   exact t.uniq (qMN h1) (qMN h2)⟩
@[reducible] def TyL : List Ty -> Type
  | [] => Unit
  | [t] => t.sem
  | t :: u :: ts => t.sem × TyL (u :: ts)
def pvL : (ts : List Ty) -> TyL ts -> List PV
 | [], _ => []
 | [t], x => [t.pv x]
 | t :: u :: ts, x => t.pv x.1 :: pvL (u :: ts) x.2
theorem qZR : ∀ (ts : List Ty) (x y : TyL ts), pvL ts x = pvL ts y -> x = y
 | [], _, _, _ => rfl
 | [t], x, y, h => by injection h with h; exact t.en.inj x y h
 | t :: u :: ts, x, y, h => by
   injection h with h1 h2;exact Prod.ext (t.en.inj _ _ h1) (qZR (u :: ts) _ _ h2)
theorem qRC : ∀ (ts : List Ty) (x y : TyL ts) (vs : List Value), VRL P Z H (fun _ => none) (pvL ts x) vs -> VRL P Z' H (fun _ => none) (pvL ts y) vs -> x = y
 | [], _, _, _, _, _ => rfl
 | [t], x, y, vs, a, b => by
   obtain ⟨v, vs', rfl, a1, _⟩ := a.zIF;obtain ⟨v', vs2, e, b1, _⟩ := b.zIF;cases e;exact t.en.uniq P Z Z' H x y v a1 b1
 | t :: u :: ts, x, y, vs, a, b => by
   obtain ⟨v, vs', rfl, a1, a2⟩ := a.zIF;obtain ⟨v', vs2, e, b1, b2⟩ := b.zIF;cases e;exact Prod.ext (t.en.uniq P Z Z' H _ _ v a1 b1) (qRC (u :: ts) _ _ _ a2 b2)
def enL (ts : List Ty) : AEn (TyL ts) := ⟨pvL ts, qZR ts, fun P Z Z' H x y vs a b => qRC ts x y vs a b⟩
def uR : (ts : List Ty) -> TyL ts -> PV := fun ts x => qDN (pvL ts x)
end Go.Sv
namespace Go.Sv
open Go.Idl
variable [Gc]
variable {P : Program}
variable {b : Bool} {k : Nat}
def zIA (R : Type) : Type := Option R
section
variable {R α σ ρ : Type}
def zIA.run (t : zIA R) : Option R := t
def zIA.fail : zIA R := (none : Option R)
def zIA.ret (r : R) : zIA R := some r
def zIA.ite (b : Bool) (x y : zIA R) : zIA R := cond b x y
noncomputable def zIA.bind (o : Option α) (k : α -> zIA R) : zIA R := Option.rec zIA.fail k o
noncomputable def zIA.loop (f : σ -> zIA (σ ⊕ ρ)) (s : σ) (k : ρ -> zIA R) : zIA R := zIA.bind (qQ (fun s => (f s).run) s) k
end
theorem run_ite {R : Type} {x y : zIA R} {r : R} (h : (zIA.ite b x y).run = some r) : (b = true ∧ x.run = some r) ∨ (b = false ∧ y.run = some r) := by
 cases b with
 | true => exact .inl ⟨rfl, h⟩
 | false => exact .inr ⟨rfl, h⟩
theorem run_bind {R α : Type} {o : Option α} {k : α -> zIA R} {r : R} (h : (zIA.bind o k).run = some r) : ∃ a, o = some a ∧ (k a).run = some r := by
 cases o with
 | none => cases h
 | some a => exact ⟨a, rfl, h⟩
theorem q38 {R σ ρ : Type} {f : σ -> zIA (σ ⊕ ρ)} {s : σ} {k : ρ -> zIA R} {r : R} (h : (zIA.loop f s k).run = some r) : ∃ a, qQ (fun s => (f s).run) s = some a ∧ (k a).run = some r := run_bind h
theorem qG {R : Type} {x : zIA R} {r : R} (h : (cond b x .fail).run = some r) : b = true ∧ x.run = some r := by
 cases b with
 | true => exact ⟨rfl, h⟩
 | false => cases h
inductive SV where
 | d (t : Ty) (x : t.sem)
 | c (v : Value)
 | agg (l : List SV)
 | tup (l : List SV)
 | own (k g n : Nat)
 | sl (k g n o m : Nat)
 | ref (k off w : Nat)
 | elt (k g n w j off : Nat)
 | lp (t : Ty) (xs : List t.sem) (j off : Nat)
 | fn (f : FuncId) (first cap : List SV)
 | unk
 | yv
 | mp (k : Nat)
 | opt (b : Bool) (k off w : Nat)
 | rfx (k off w : Nat)
 | etx (k g n w j off : Nat)
section
variable [Yl]
mutual
def SV.enc : SV -> PV
 | .d t x => .f (t.fv x)
 | .c v => fvv v
 | .agg l => .agg (qA l)
 | .tup l => .tup (qA l)
 | .own k _ n => .own k n 0 n
 | .sl k _ n o m => .own k n o m
 | .ref k off w => .ref k w off
 | .elt k _ n w j off => .ref k (n * w) (j * w + off)
 | .lp t xs j off => .lp (List.flatMap t.cells xs) (j * t.w + off)
 | .fn f a b => .fn f (qA a) (qA b)
 | .unk => .unk
 | .yv => .yl Yl.l
 | .mp k => .mp k
 | .opt b k off w => cond b (.ref k w off) (fvv (.pointer none))
 | .rfx k off w => .ref k w off
 | .etx k _ n w j off => .ref k (n * w) (j * w + off)
def qA : List SV -> List PV
 | [] => []
 | x :: l => x.enc :: qA l
end
theorem zC : ∀ (l : List SV), qA l = l.map SV.enc
 | [] => by simp [qA]
 | x :: l => by simp [qA, zC l]
end
inductive SpO where
 | map (es : List (Value × Value))
 | iter (s : ByteArray) (pos : Nat)
 | mit (t : TypeId) (k since last : Nat) (seen : List Nat)
def zP : Nat -> List (Value × Value) -> List MapEntry
 | _, [] => []
 | i, p :: l => ⟨p.1, p.2, i⟩ :: zP (i + 1) l
def SpO.enc : SpO -> PO
 | .map es => ⟨1000000001, false, kQ (List.length es) (zP 0 es)⟩
 | .iter s pos => ⟨1000000000, false, qSD s pos⟩
 | .mit _ k since last seen => ⟨1000000002, false, qBW (.mp k) since last seen⟩
inductive SO where
 | spc (w : Nat) (x : SpO)
 | cells (el : TypeId) (w : Nat) (l : List SV)
 | list (el : TypeId) (gr : Bool) (g w : Nat) (t : Ty) (xs : List t.sem)
section
variable [Yl]
def SO.enc : SO -> PO
 | .cells el _ l => ⟨el, false, qA l⟩
 | .list el gr _ _ t xs => ⟨el, gr, (List.flatMap t.cells xs).map .f⟩
 | .spc _ x => x.enc
def SO.w : SO -> Nat
 | .cells _ w _ => w
 | .list _ _ _ w _ _ => w
 | .spc w _ => w
structure SH where
 next : Nat
 l : List (Nat × SO)
def slk (k : Nat) : List (Nat × SO) -> Option SO
 | [] => none
 | (j, o) :: l => cond (k == j) (some o) (slk k l)
def sst (k : Nat) (o : SO) : List (Nat × SO) -> List (Nat × SO)
 | [] => []
 | (j, p) :: l => cond (k == j) ((j, o) :: l) ((j, p) :: sst k o l)
def sdl (k : Nat) : List (Nat × SO) -> List (Nat × SO)
 | [] => []
 | (j, p) :: l => cond (k == j) (sdl k l) ((j, p) :: sdl k l)
def qH : List (Nat × SO) -> PHp
 | [] => []
 | (j, o) :: l => (j, o.enc) :: qH l
theorem pI (k : Nat) : ∀ (l : List (Nat × SO)), qB k (qH l) = (slk k l).map SO.enc
 | [] => rfl
 | (j, o) :: l => by
   show cond (k == j) (some o.enc) (qB k (qH l)) = (cond (k == j) (some o) (slk k l)).map SO.enc;cases k == j
   ·exact pI k l
   ·rfl
theorem jD (k : Nat) (o : SO) : ∀ (l : List (Nat × SO)), qH (sst k o l) = xN k o.enc (qH l)
 | [] => rfl
 | (j, p) :: l => by
   show qH (cond (k == j) ((j, o) :: l) ((j, p) :: sst k o l)) = cond (k == j) ((j, o.enc) :: qH l) ((j, p.enc) :: xN k o.enc (qH l));cases k == j
   ·show (j, p.enc) :: qH (sst k o l) = _;rw [jD k o l]; rfl
   ·rfl
theorem pM (k : Nat) : ∀ (l : List (Nat × SO)), qH (sdl k l) = qG7 k (qH l)
 | [] => rfl
 | (j, p) :: l => by
   show qH (cond (k == j) (sdl k l) ((j, p) :: sdl k l)) = cond (k == j) (qG7 k (qH l)) ((j, p.enc) :: qG7 k (qH l));cases k == j
   ·show (j, p.enc) :: qH (sdl k l) = _;rw [pM k l]; rfl
   ·exact pM k l
end
theorem vS {k j : Nat} {o : SO} (hj : j ≠ k) : ∀ (l : List (Nat × SO)), slk j (sst k o l) = slk j l
 | [] => rfl
 | (i, p) :: l => by
   show slk j (cond (k == i) ((i, o) :: l) ((i, p) :: sst k o l)) = cond (j == i) (some p) (slk j l)
   cases h : k == i with
   | true =>
     have : k = i := by simpa using h
     subst this;show cond (j == k) (some o) (slk j l) = _;rw [show (j == k) = false by simpa using hj]; rfl
   | false =>
     show cond (j == i) (some p) (slk j (sst k o l)) = _;rw [vS hj l]
theorem qBA {k : Nat} {o p : SO} : ∀ {l : List (Nat × SO)}, slk k l = some p -> slk k (sst k o l) = some o
 | (i, q) :: l, h => by
   have h : cond (k == i) (some q) (slk k l) = some p := h;show slk k (cond (k == i) ((i, o) :: l) ((i, q) :: sst k o l)) = some o
   cases hi : k == i with
   | true =>
     show cond (k == i) (some o) (slk k l) = some o;rw [hi]; rfl
   | false =>
     rw [hi] at h;show cond (k == i) (some q) (slk k (sst k o l)) = some o;rw [hi]; exact qBA (l := l) h
theorem yK {k j : Nat} (hj : j ≠ k) : ∀ (l : List (Nat × SO)), slk j (sdl k l) = slk j l
 | [] => rfl
 | (i, p) :: l => by
   show slk j (cond (k == i) (sdl k l) ((i, p) :: sdl k l)) = cond (j == i) (some p) (slk j l)
   cases h : k == i with
   | true =>
     have : k = i := by simpa using h
     subst this;rw [show (j == k) = false by simpa using hj];exact yK hj l
   | false =>
     show cond (j == i) (some p) (slk j (sdl k l)) = _;rw [yK hj l]
theorem qNP (k : Nat) : ∀ (l : List (Nat × SO)), slk k (sdl k l) = none
 | [] => rfl
 | (i, p) :: l => by
   show slk k (cond (k == i) (sdl k l) ((i, p) :: sdl k l)) = none
   cases h : k == i with
   | true => exact qNP k l
   | false =>
     show cond (k == i) (some p) (slk k (sdl k l)) = none;rw [h]; exact qNP k l
theorem zK {j : Nat} {o : SO} {l : List (Nat × SO)} (hj : j ≠ k) : slk j ((k, o) :: l) = slk j l := by
 show cond (j == k) (some o) (slk j l) = _;rw [show (j == k) = false by simpa using hj]; rfl
theorem wU {o : SO} {l : List (Nat × SO)} : slk k ((k, o) :: l) = some o := by
 show cond (k == k) (some o) (slk k l) = _;simp
def q3B (h : SH) (k g n : Nat) : Prop := g < h.next ∧ ∀ el gr w t xs, slk k h.l = some (.list el gr g w t xs) -> n = xs.length
mutual
def SV.ok (h : SH) : SV -> Prop
 | .agg l => okL h l
 | .tup l => okL h l
 | .own k g n => q3B h k g n
 | .sl k g n o m => q3B h k g n ∧ o + m <= n
 | .elt k g n _ _ _ => q3B h k g n
 | .etx k g n _ _ _ => q3B h k g n
 | .fn _ a b => okL h a ∧ okL h b
 | _ => True
def okL (h : SH) : List SV -> Prop
 | [] => True
 | x :: l => x.ok h ∧ okL h l
end
theorem yS {h : SH} : ∀ {l : List SV}, okL h l ↔ ∀ x ∈ l, x.ok h
 | [] => by simp [okL]
 | x :: l => by simp [okL, yS (l := l)]
structure OkH (P : Program) (h : SH) : Prop where
 ver : ∀ k ob, slk k h.l = some ob -> ob.w < h.next
 cells : ∀ k el w l, slk k h.l = some (.cells el w l) -> okL h l
 list : ∀ k el gr g w t xs, slk k h.l = some (.list el gr g w t xs) -> g < h.next ∧ szT P el = some t.w ∧ 0 < t.w
structure Keep (h h' : SH) : Prop where
 next : h.next <= h'.next
 same : ∀ k ob, slk k h'.l = some ob -> ob.w < h.next -> slk k h.l = some ob
 len : ∀ k el gr g w t xs, slk k h'.l = some (.list el gr g w t xs) -> g < h.next -> ∃ w0, ∃ xs0 : List t.sem, slk k h.l = some (.list el gr g w0 t xs0) ∧ xs0.length = xs.length
theorem Keep.refl (h : SH) : Keep h h := ⟨zQO _, fun _ _ h _ => h, fun k el gr g w t xs h _ => ⟨w, xs, h, rfl⟩⟩
theorem Keep.trans {a b c : SH} (x : Keep a b) (y : Keep b c) : Keep a c :=
 ⟨zQ6 x.next y.next, fun k ob h hw => x.same k ob (y.same k ob h (zQZ hw x.next)) hw, fun k el gr g w t xs h hg => by
   obtain ⟨w1, xs1, h1, e1⟩ := y.len k el gr g w t xs h (zQZ hg x.next);obtain ⟨w2, xs2, h2, e2⟩ := x.len k el gr g w1 t xs1 h1 hg
   exact ⟨w2, xs2, h2, e2.trans e1⟩⟩
theorem q3B.keep {h h' : SH} {g n : Nat} (a : q3B h k g n) (b : Keep h h') : q3B h' k g n :=
 ⟨zQZ a.1 b.next, fun el gr w t xs hk => by
   obtain ⟨w0, xs0, h0, e0⟩ := b.len k el gr g w t xs hk a.1
   rw [<- e0]; exact a.2 el gr w0 t xs0 h0⟩
mutual
theorem SV.ok.keep {h h' : SH} (b : Keep h h') : ∀ {x : SV}, x.ok h -> x.ok h'
 | .agg l, a => by simp only [SV.ok] at a ⊢; exact qL b a
 | .tup l, a => by simp only [SV.ok] at a ⊢; exact qL b a
 | .own k g n, a => by simp only [SV.ok] at a ⊢; exact a.keep b
 | .sl k g n o m, a => by simp only [SV.ok] at a ⊢; exact ⟨a.1.keep b, a.2⟩
 | .elt k g n w j off, a => by simp only [SV.ok] at a ⊢; exact a.keep b
 | .etx k g n w j off, a => by simp only [SV.ok] at a ⊢; exact a.keep b
 | .fn f x y, a => by simp only [SV.ok] at a ⊢; exact ⟨qL b a.1, qL b a.2⟩
 | .d _ _, _ => by simp [SV.ok]
 | .c _, _ => by simp [SV.ok]
 | .ref _ _ _, _ => by simp [SV.ok]
 | .lp _ _ _ _, _ => by simp [SV.ok]
 | .unk, _ => by simp [SV.ok]
 | .yv, _ => by simp [SV.ok]
 | .mp _, _ => by simp [SV.ok]
 | .opt _ _ _ _, _ => by simp [SV.ok]
 | .rfx _ _ _, _ => by simp [SV.ok]
theorem qL {h h' : SH} (b : Keep h h') : ∀ {l : List SV}, okL h l -> okL h' l
 | [], _ => by simp [okL]
 | x :: l, a => by simp only [okL] at a ⊢; exact ⟨SV.ok.keep b a.1, qL b a.2⟩
end
def SH.new (h : SH) (k : Nat) (f : Nat -> SO) : SH := ⟨h.next + 1, (k, f h.next) :: h.l⟩
def SH.put (h : SH) (k : Nat) (f : Nat -> SO) : SH := ⟨h.next + 1, sst k (f h.next) h.l⟩
def SH.del (h : SH) (k : Nat) : SH := ⟨h.next, sdl k h.l⟩
def zAN (P : Program) (h : SH) (n : Nat) : SO -> Prop
 | .cells _ w l => w = n ∧ okL h l
 | .list el _ g w t _ => w = n ∧ g = n ∧ szT P el = some t.w ∧ 0 < t.w
 | .spc w _ => w = n
theorem q09 {h : SH} {f : Nat -> SO} (hw : (f h.next).w = h.next) (hg : ∀ el gr g w t xs, f h.next = .list el gr g w t xs -> g = h.next) : Keep h (h.new k f) :=
 ⟨Nat.le_succ _, fun j ob hj hlt => by
   by_cases e : j = k
   ·subst e; rw [show slk j (h.new j f).l = some (f h.next) from wU] at hj;cases hj; omega
   ·rwa [show slk j (h.new k f).l = slk j h.l from zK e] at hj, fun j el gr g w t xs hj hlt => by
   by_cases e : j = k
   ·subst e; rw [show slk j (h.new j f).l = some (f h.next) from wU] at hj;have := hg _ _ _ _ _ _ (zSJ hj);omega
   ·rw [show slk j (h.new k f).l = slk j h.l from zK e] at hj
    exact ⟨w, xs, hj, rfl⟩⟩
theorem kX {h : SH} {f : Nat -> SO} (a : OkH P h) (hf : zAN P h h.next (f h.next)) : Keep h (h.new k f) ∧ OkH P (h.new k f) := by
 have hw : (f h.next).w = h.next := by
  cases hq : f h.next with
  | cells el w l => rw [hq] at hf; exact hf.1
  | list el gr g w t xs => rw [hq] at hf; exact hf.1
  | spc w x => rw [hq] at hf; exact hf
 have hk : Keep h (h.new k f) := q09 hw fun el gr g w t xs e => by rw [e] at hf; exact hf.2.1
 refine ⟨hk, ⟨fun j ob hj => ?_, fun j el w l hj => ?_, fun j el gr g w t xs hj => ?_⟩⟩
 ·by_cases e : j = k
  ·subst e; rw [show slk j (h.new j f).l = some (f h.next) from wU] at hj;cases hj; rw [hw]; exact zR5 _
  ·rw [show slk j (h.new k f).l = slk j h.l from zK e] at hj;exact zTE (a.ver j ob hj)
 ·by_cases e : j = k
  ·subst e; rw [show slk j (h.new j f).l = some (f h.next) from wU] at hj;rw [zSJ hj] at hf;exact qL hk hf.2
  ·rw [show slk j (h.new k f).l = slk j h.l from zK e] at hj;exact qL hk (a.cells j el w l hj)
 ·by_cases e : j = k
  ·subst e; rw [show slk j (h.new j f).l = some (f h.next) from wU] at hj;rw [zSJ hj] at hf;exact ⟨by rw [hf.2.1]; exact zR5 _, hf.2.2⟩
  ·rw [show slk j (h.new k f).l = slk j h.l from zK e] at hj;have := a.list j el gr g w t xs hj;exact ⟨zTE this.1, this.2⟩
def zEU (h : SH) (n : Nat) : SO -> SO -> Prop
 | .cells _ _ _, .cells _ w' l' => w' = n ∧ okL h l'
 | .list el gr g _ t xs, ob' => ∃ xs' : List t.sem, ob' = .list el gr g n t xs' ∧ xs.length = xs'.length
 | .spc _ _, .spc w' _ => w' = n
 | _, _ => False
theorem bD {h : SH} {f : Nat -> SO} {ob : SO} (a : OkH P h) (hk : slk k h.l = some ob) (hf : zEU h h.next ob (f h.next)) : Keep h (h.put k f) ∧ OkH P (h.put k f) := by
 have hs : slk k (h.put k f).l = some (f h.next) := qBA hk;have hn : ∀ j, j ≠ k -> slk j (h.put k f).l = slk j h.l := fun j hj => vS hj _
 have hw : (f h.next).w = h.next := by
  cases ob with
  | cells el w l =>
    cases hq : f h.next with
    | cells el' w' l' => rw [hq] at hf; exact hf.1
    | list => rw [hq] at hf; exact hf.elim
    | spc => rw [hq] at hf; exact hf.elim
  | spc w0 x0 =>
    cases hq : f h.next with
    | spc w' x' => rw [hq] at hf; exact hf
    | list => rw [hq] at hf; exact hf.elim
    | cells => rw [hq] at hf; exact hf.elim
  | list el gr g w t xs =>
    obtain ⟨xs', e, _⟩ := hf;rw [e]; rfl
 have hkp : Keep h (h.put k f) := by
  refine ⟨Nat.le_succ _, fun j o hj hlt => ?_, fun j el gr g w t xs hj hlt => ?_⟩
  ·by_cases e : j = k
   ·subst e; rw [hs] at hj; cases hj; omega
   ·rwa [hn j e] at hj
  ·by_cases e : j = k
   ·subst e;rw [hs] at hj;have hj := zSJ hj
    cases ob with
    | cells el0 w0 l0 =>
      rw [hj] at hf;exact hf.elim
    | spc w0 x0 =>
      rw [hj] at hf;exact hf.elim
    | list el0 gr0 g0 w0 t0 xs0 =>
      obtain ⟨xs', e2, e3⟩ := hf;rw [e2] at hj;injection hj with a1 a2 a3 a4 a5 a6;subst a1 a2 a3 a5;cases a6;exact ⟨w0, xs0, hk, e3⟩
   ·rw [hn j e] at hj; exact ⟨w, xs, hj, rfl⟩
 refine ⟨hkp, ⟨fun j o hj => ?_, fun j el w l hj => ?_, fun j el gr g w t xs hj => ?_⟩⟩
 ·by_cases e : j = k
  ·subst e; rw [hs] at hj; cases hj; rw [hw]; exact zR5 _
  ·rw [hn j e] at hj; exact zTE (a.ver j o hj)
 ·by_cases e : j = k
  ·subst e;rw [hs] at hj;have hj := zSJ hj
   cases ob with
   | cells el0 w0 l0 => rw [hj] at hf; exact qL hkp hf.2
   | spc w0 x0 => rw [hj] at hf; exact hf.elim
   | list el0 gr0 g0 w0 t0 xs0 =>
     obtain ⟨xs', e2, e3⟩ := hf;rw [e2] at hj; cases hj
  ·rw [hn j e] at hj; exact qL hkp (a.cells j el w l hj)
 ·by_cases e : j = k
  ·subst e;rw [hs] at hj;have hj := zSJ hj
   cases ob with
   | cells el0 w0 l0 => rw [hj] at hf; exact hf.elim
   | spc w0 x0 => rw [hj] at hf; exact hf.elim
   | list el0 gr0 g0 w0 t0 xs0 =>
     obtain ⟨xs', e2, e3⟩ := hf;rw [e2] at hj;injection hj with a1 a2 a3 a4 a5 a6;subst a1 a2 a3 a5;have := a.list j _ _ _ _ _ _ hk;exact ⟨zTE this.1, this.2⟩
  ·rw [hn j e] at hj;have := a.list j el gr g w t xs hj;exact ⟨zTE this.1, this.2⟩
theorem rE {h : SH} (a : OkH P h) : Keep h (h.del k) ∧ OkH P (h.del k) := by
 have hl : ∀ j ob, slk j (h.del k).l = some ob -> slk j h.l = some ob := fun j ob hj => by
  by_cases e : j = k
  ·subst e; rw [show slk j (h.del j).l = none from qNP j _] at hj; cases hj
  ·rwa [show slk j (h.del k).l = slk j h.l from yK e _] at hj
 have hkp : Keep h (h.del k) := ⟨zQO _, fun j ob hj _ => hl j ob hj, fun j el gr g w t xs hj _ => ⟨w, xs, hl _ _ hj, rfl⟩⟩
 exact ⟨hkp, ⟨fun j ob hj => a.ver j ob (hl j ob hj), fun j el w l hj => qL hkp (a.cells j el w l (hl _ _ hj)), fun j el gr g w t xs hj => a.list j el gr g w t xs (hl _ _ hj)⟩⟩
def GV (Γ : Option Type) : Type := match Γ with
 | none => Unit
 | some γ => γ
def GS (Γ : Option Type) (S : Type) : Type := match Γ with
 | none => S
 | some γ => γ × S
def gj : {Γ : Option Type} -> {S : Type} -> GV Γ -> S -> GS Γ S
 | none, _, _, s => s
 | some _, _, g, s => (g, s)
def g1 : {Γ : Option Type} -> {S : Type} -> GS Γ S -> GV Γ
 | none, _, _ => ()
 | some _, _, p => p.1
def g2 : {Γ : Option Type} -> {S : Type} -> GS Γ S -> S
 | none, _, s => s
 | some _, _, p => p.2
theorem qL6 {Γ : Option Type} {S : Type} {g : GV Γ} {s : S} : g1 (gj g s) = g := by cases Γ <;> rfl
theorem qKC {Γ : Option Type} {S : Type} {g : GV Γ} {s : S} : g2 (gj g s) = s := by cases Γ <;> rfl
structure Ent where
 as : List Ty
 rs : List Ty
 F : TyL as -> Option (TyL rs)
abbrev xW := List (FuncId × Ent)
def slT (g : FuncId) : xW -> Option Ent
 | [] => none
 | (k, e) :: l => cond (Nat.beq g k) (some e) (slT g l)
structure Sh where
 d : List Nat
 o : List Nat
 s : List (Nat × Nat)
 v : List (Nat × TypeId)
 ex : List Nat
 b : List (Nat × List (Option Nat)) := []
 bv : List (Nat × Nat × TypeId × Nat) := []
structure Ab where
 A : List Ty -> Type
 f : ∀ ts, TyL ts -> A ts
structure An where
 fz : List (Nat × List (Nat × TypeId))
 lp : List (Nat × Sh)
 rg : List (Nat × Sh) := []
 ab : List (Nat × Ab) := []
def lkA.{u} {α : Type u} (i : Nat) : List (Nat × α) -> Option α
 | [] => none
 | (j, x) :: l => cond (Nat.beq i j) (some x) (lkA i l)
structure zJE where
 as : List Ty
 ys : List Ty
 yt : List TypeId
 F : TyL as -> (γ : Type) -> (γ -> TyL ys -> Option (γ × Bool)) -> γ -> Option γ
def slI (g : FuncId) : List (FuncId × zJE) -> Option zJE
 | [] => none
 | (k, e) :: l => cond (Nat.beq g k) (some e) (slI g l)
structure YI (Γ : Type) where
 ys : List Ty
 yt : List TypeId
 stp : Γ -> TyL ys -> Option (Γ × Bool)
def yi0 : YI Unit := ⟨[], [], fun _ _ => none⟩
abbrev CIT : Type 1 := (R : Type) -> Nm -> FuncId -> List SV -> SH -> (SV -> SH -> zIA R) -> zIA R
end Go.Sv
namespace Go.Sv
open Go.Idl
variable {a b env l : List SV} {el t : TypeId} {ik k : IntKind} {j n off : Nat} {v x : SV} {ys : List Int}
noncomputable section
variable [Gc]
variable [Yl]
variable {P : Program} {h : SH} {R : Type} {r : R}
def zAZ : Value -> SV
 | .agg cs => cond (yY okC cs.toList) (.agg (kV .c cs.toList)) .unk
 | .tuple cs => cond (yY okC cs.toList) (.tup (kV .c cs.toList)) .unk
 | v => cond (okC v) (.c v) .unk
def xM (env : List SV) : Operand -> SV
 | .tmp t => (zM env t).getD .unk
 | .const v => zAZ v
 | .global _ => .unk
 | .func g => .c (.func (.func g) #[] #[])
theorem zDS : ∀ (l : List Value), qA (kV .c l) = kV fvv l
 | [] => by simp [kV, qA]
 | v :: l => by
   show qA (.c v :: kV .c l) = fvv v :: kV fvv l;simp [qA, zDS l, SV.enc]
omit [Yl] in
theorem zDO : ∀ (l : List Value), okL h (kV .c l)
 | [] => by simp [kV, okL]
 | v :: l => by
   show okL h (.c v :: kV .c l);simp [okL, zDO l, SV.ok]
theorem q1S (v : Value) : ofC v = (zAZ v).enc := by
 cases v with
 | agg cs =>
   show cond _ _ _ = (cond (yY okC cs.toList) (SV.agg (kV .c cs.toList)) SV.unk).enc;cases yY okC cs.toList
   ·simp [SV.enc]
   ·simp [SV.enc, zDS]
 | tuple cs =>
   show cond _ _ _ = (cond (yY okC cs.toList) (SV.tup (kV .c cs.toList)) SV.unk).enc;cases yY okC cs.toList
   ·simp [SV.enc]
   ·simp [SV.enc, zDS]
 | _ =>
   simp only [ofC, q83, zAZ];cases okC _ <;> simp [SV.enc]
omit [Yl] in
theorem q7T (v : Value) : (zAZ v).ok h := by
 cases v with
 | agg cs =>
   show (cond (yY okC cs.toList) (.agg (kV .c cs.toList)) .unk : SV).ok h;cases yY okC cs.toList
   ·simp [SV.ok]
   ·simp [SV.ok, zDO]
 | tuple cs =>
   show (cond (yY okC cs.toList) (.tup (kV .c cs.toList)) .unk : SV).ok h;cases yY okC cs.toList
   ·simp [SV.ok]
   ·simp [SV.ok, zDO]
 | _ =>
   simp only [zAZ];cases okC _ <;> simp [SV.ok]
theorem zF (env : List SV) (t : Nat) : zM (qA env) t = (zM env t).map SV.enc := by
 rw [qD, qD, zC, zQU]
omit [Yl] in
theorem p8 {t : Nat} (ho : okL h env) (hx : zM env t = some x) : x.ok h := by
 rw [qD] at hx;exact yS.1 ho x (zRL hx)
theorem qO (env : List SV) (x : Operand) : qN (qA env) x = (xM env x).enc := by
 cases x with
 | tmp t =>
   show (zM (qA env) t).getD .unk = ((zM env t).getD .unk).enc;rw [zF];cases zM env t <;> simp [SV.enc]
 | const v => exact q1S v
 | global g => simp [qN, xM, SV.enc]
 | func g => simp [qN, xM, SV.enc]
omit [Yl] in
theorem qDK (ho : okL h env) (x : Operand) : (xM env x).ok h := by
 cases x with
 | tmp t =>
   show ((zM env t).getD .unk).ok h
   cases hx : zM env t with
   | none => simp [SV.ok]
   | some y => exact p8 ho hx
 | const v => exact q7T v
 | global g => simp [xM, SV.ok]
 | func g => simp [xM, SV.ok]
def asI : SV -> Option (IntKind × Int)
 | .d (.int k) x => some (k, x)
 | .c (.int k x) => some (k, x)
 | _ => none
def asB : SV -> Option Bool
 | .d .bool x => some x
 | .c (.bool x) => some x
 | _ => none
def asS : SV -> Option ByteArray
 | .d .str x => some x
 | .c (.string x) => some x
 | _ => none
theorem xX {x : Int} (e : asI v = some (k, x)) : v.enc = fvv (.int k x) := by
 unfold asI at e;split at e
 ·cases e; simp [SV.enc, Ty.fv, fvv]
 ·cases e; simp [SV.enc]
 ·cases e
theorem rG {x : Bool} (e : asB v = some x) : v.enc = fvv (.bool x) := by
 unfold asB at e;split at e
 ·cases e; simp [SV.enc, Ty.fv, fvv]
 ·cases e; simp [SV.enc]
 ·cases e
theorem aY {x : ByteArray} (e : asS v = some x) : v.enc = fvv (.string x) := by
 unfold asS at e;split at e
 ·cases e; simp [SV.enc, Ty.fv, fvv]
 ·cases e; simp [SV.enc]
 ·cases e
def Ty.svs : (t : Ty) -> t.sem -> List SV
 | .int k, x => [.d (.int k) x]
 | .bool, x => [.d .bool x]
 | .str, x => [.d .str x]
 | .unit, _ => []
 | .list el t, x => [.d (.list el t) x]
 | .pair a b, x => a.svs x.1 ++ b.svs x.2
 | .raw, x => [.d .raw x]
theorem qAV (a b : List SV) : qA (a ++ b) = qA a ++ qA b := by simp [zC]
theorem bH : ∀ (t : Ty) (x : t.sem), qA (t.svs x) = (t.cells x).map .f
 | .int k, x => by simp [Ty.svs, Ty.cells, qA, SV.enc, Ty.fv]
 | .bool, x => by simp [Ty.svs, Ty.cells, qA, SV.enc, Ty.fv]
 | .str, x => by simp [Ty.svs, Ty.cells, qA, SV.enc, Ty.fv]
 | .unit, x => by simp [Ty.svs, Ty.cells, qA]
 | .list el t, x => by simp [Ty.svs, Ty.cells, qA, SV.enc, Ty.fv]
 | .raw, x => by simp [Ty.svs, Ty.cells, qA, SV.enc, Ty.fv]
 | .pair a b, x => by
   show qA (a.svs x.1 ++ b.svs x.2) = (a.cells x.1 ++ b.cells x.2).map .f;rw [qAV, bH a, bH b, zRI]
omit [Yl] in
theorem mQ (x : okL h a) (y : okL h b) : okL h (a ++ b) := yS.2 fun z hz => by
 rcases zRA.1 hz with q | q
 ·exact yS.1 x z q
 ·exact yS.1 y z q
omit [Yl] in
theorem qK8 : ∀ (t : Ty) (x : t.sem), okL h (t.svs x)
 | .int k, x => by simp [Ty.svs, okL, SV.ok]
 | .bool, x => by simp [Ty.svs, okL, SV.ok]
 | .str, x => by simp [Ty.svs, okL, SV.ok]
 | .unit, x => by simp [Ty.svs, okL]
 | .list el t, x => by simp [Ty.svs, okL, SV.ok]
 | .raw, x => by simp [Ty.svs, okL, SV.ok]
 | .pair a b, x => mQ (qK8 a x.1) (qK8 b x.2)
def q9V (k : IntKind) (v : SV) : Option Int := match asI v with
 | some (k', x) => cond (decide (k' = k)) (some x) none
 | none => none
def zE5 (el : TypeId) (t : Ty) : SV -> Option (List t.sem)
 | .d (.list el' t') xs => if e : t' = t then cond (Nat.beq el' el) (some (e ▸ xs)) none else none
 | _ => none
def asR : SV -> Option (List (Value × Value))
 | .d .raw x => some x
 | _ => none
def Ty.zL0 : (t : Ty) -> SV -> Option t.sem
 | .int k, v => q9V k v
 | .bool, v => asB v
 | .str, v => asS v
 | .list el t, v => zE5 el t v
 | .unit, _ => none
 | .pair _ _, _ => none
 | .raw, v => asR v
theorem qAJ {x : Int} (e : q9V k v = some x) : v.enc = fvv (.int k x) := by
 unfold q9V at e;split at e
 ·rename_i k' x' hx
  cases hk : decide (k' = k) with
  | false => rw [hk] at e; cases e
  | true =>
    rw [hk] at e;cases e;have : k' = k := by simpa using hk
    subst this;exact xX hx
 ·cases e
omit [Yl] in
theorem q3I {t : Ty} {x : List t.sem} (e : zE5 el t v = some x) : v = .d (.list el t) x := by
 unfold zE5 at e;split at e
 ·rename_i el' t' xs;split at e
  ·rename_i ht;subst ht
   cases hk : Nat.beq el' el with
   | false => rw [hk] at e; cases e
   | true =>
     rw [hk] at e;cases e;have : el' = el := zQN hk;subst this;rfl
  ·cases e
 ·cases e
theorem qHP : ∀ {t : Ty} {v : SV} {x : t.sem}, t.zL0 v = some x -> v.enc = .f (t.fv x) ∧ t.one = true
 | .int k, v, x, e => ⟨qAJ e, rfl⟩
 | .bool, v, x, e => ⟨rG e, rfl⟩
 | .str, v, x, e => ⟨aY e, rfl⟩
 | .list el t, v, x, e => ⟨by rw [q3I e]; simp [SV.enc], rfl⟩
 | .raw, v, x, e => by
   have e : asR v = some x := e;refine ⟨?_, rfl⟩;unfold asR at e;split at e
   ·cases e; simp [SV.enc]
   ·cases e
 | .unit, v, x, e => by cases e
 | .pair a b, v, x, e => by cases e
def q78 (t : Ty) : List SV -> Option (t.sem × List SV)
 | v :: l => match t.zL0 v with
   | some x => some (x, l)
   | none => none
 | [] => none
def Ty.zK0 : (t : Ty) -> List SV -> Option (t.sem × List SV)
 | .int k, l => q78 (.int k) l
 | .bool, l => q78 .bool l
 | .str, l => q78 .str l
 | .raw, l => q78 .raw l
 | .list el t, l => q78 (.list el t) l
 | .unit, l => some ((), l)
 | .pair a b, l => match a.zK0 l with
   | some (x, l1) => (match b.zK0 l1 with
     | some (y, l2) => some ((x, y), l2)
     | none => none)
   | none => none
theorem pO {t : Ty} {l' : List SV} {x : t.sem} (e : q78 t l = some (x, l')) : qA l = (t.cells x).map .f ++ qA l' := by
 cases l with
 | nil => cases e
 | cons v l =>
   unfold q78 at e;simp only at e;split at e
   ·rename_i y hy;cases e;obtain ⟨h1, h2⟩ := qHP hy;rw [Ty.cells_one h2];simp [qA, h1]
   ·cases e
theorem qAU : ∀ {t : Ty} {l l' : List SV} {x : t.sem}, t.zK0 l = some (x, l') -> qA l = (t.cells x).map .f ++ qA l'
 | .int k, l, l', x, e => pO e
 | .bool, l, l', x, e => pO e
 | .str, l, l', x, e => pO e
 | .raw, l, l', x, e => pO e
 | .list el t, l, l', x, e => pO e
 | .unit, l, l', x, e => by cases e; simp [Ty.cells]
 | .pair a b, l, l', x, e => by
   unfold Ty.zK0 at e;split at e
   ·rename_i x1 l1 h1;split at e
    ·rename_i y l2 h2;cases e;show qA l = (a.cells x1 ++ b.cells y).map .f ++ qA l';rw [qAU h1, qAU h2, zRI, zRW]
    ·cases e
   ·cases e
def Ty.zK1 (t : Ty) (l : List SV) : Option t.sem := match t.zK0 l with
 | some (x, []) => some x
 | _ => none
theorem qAK {t : Ty} {x : t.sem} (e : t.zK1 l = some x) : qA l = (t.cells x).map .f := by
 unfold Ty.zK1 at e;split at e
 ·rename_i y hy;cases e;rw [qAU hy]; simp [qA]
 ·cases e
def qHG (P : Program) (t : TypeId) (l : List SV) (off : Nat) : Option SV := match qSK P t with
 | some true => (match szT P t with
   | some n => cond (Nat.ble (off + n) l.length) (some (.agg ((l.drop off).take n))) none
   | none => none)
 | some false => zM l off
 | none => none
omit [Yl] in
theorem qOG {b : List SV} (x : okL h a) (hs : ∀ z ∈ b, z ∈ a) : okL h b := yS.2 fun z hz => yS.1 x z (hs z hz)
theorem qHQ (e : qHG P t l off = some v) : mX P t (qA l) off = some v.enc ∧ (okL h l -> v.ok h) := by
 unfold qHG at e;unfold mX;split at e
 ·rename_i ha;rw [ha];simp only;split at e
  ·rename_i n hn;rw [hn];simp only
   cases hc : Nat.ble (off + n) l.length with
   | false => rw [hc] at e; cases e
   | true =>
     rw [hc] at e;cases e;refine ⟨by rw [zC, zQ7, hc]; simp [SV.enc, zC, zTF, zTG], fun ho => ?_⟩;simp only [SV.ok];exact qOG ho fun z hz => zUB (zU6 hz)
  ·cases e
 ·rename_i ha;rw [ha];simp only;rw [zF, e];exact ⟨rfl, fun ho => p8 ho e⟩
 ·cases e
theorem qCB {t' : Ty} {xs : List t'.sem} {x : t'.sem} (hx : xs[j]? = some x) (e : qHG P t (t'.svs x) off = some v) :
 mX P t ((xs.flatMap t'.cells).map .f) (j * t'.w + off) = some v.enc ∧ qN7 P t (xs.flatMap t'.cells) (j * t'.w + off) = some v.enc ∧ v.ok h := by
 have h0 := qHQ (h := h) e;refine ⟨?_, ?_, h0.2 (qK8 t' x)⟩
 all_goals
  have h1 := h0.1;rw [bH] at h1;unfold mX at h1
 ·unfold mX;split at h1
  ·rename_i ha;split at h1
   ·rename_i n hn
    cases hc : Nat.ble (off + n) ((t'.cells x).map PV.f).length with
    | false => rw [hc] at h1; cases h1
    | true =>
      rw [hc] at h1
      have hle : off + n <= t'.w := by
       have := zQ4 hc;rw [zQ7, t'.zIL] at this;exact this
      rw [show Nat.ble (j * t'.w + off + n) ((xs.flatMap t'.cells).map PV.f).length = true from zRM (by rw [zQ7]; exact qHV hx hle)];simp only [cond_true] at h1 ⊢;rw [<- h1, <- zTF, <- zTG, qJG hx hle, <- zTF, <- zTG]
   ·cases h1
  ·rename_i ha;rw [qD, zQU] at h1 ⊢
   have hlt : off < t'.w := by
    rw [<- t'.zIL x]
    cases hq : (t'.cells x)[off]? with
    | none => rw [hq] at h1; cases h1
    | some y => exact (zQQ.1 hq).1
   rw [Go.Sv.flat_get hx hlt]; exact h1
  ·cases h1
 ·unfold qN7;split at h1
  ·rename_i ha;split at h1
   ·rename_i n hn
    cases hc : Nat.ble (off + n) ((t'.cells x).map PV.f).length with
    | false => rw [hc] at h1; cases h1
    | true =>
      rw [hc] at h1
      have hle : off + n <= t'.w := by
       have := zQ4 hc;rw [zQ7, t'.zIL] at this;exact this
      rw [show Nat.ble (j * t'.w + off + n) (xs.flatMap t'.cells).length = true from zRM (qHV hx hle)];simp only [cond_true] at h1 ⊢;rw [<- h1, qJG hx hle, <- zTF, <- zTG]
   ·cases h1
  ·rename_i ha;rw [qD, zQU] at h1
   cases hq : (t'.cells x)[off]? with
   | none => rw [hq] at h1; cases h1
   | some y =>
     rw [hq] at h1
     have hlt : off < t'.w := by
      rw [<- t'.zIL x];exact (zQQ.1 hq).1
     rw [Go.Sv.flat_get hx hlt, hq];exact h1
  ·cases h1
def zDR : List SV -> Option IntKind
 | v :: _ => (asI v).map Prod.fst
 | [] => none
def qO3 (ik : IntKind) : List SV -> Option (List Int)
 | [] => some []
 | v :: l => match q9V ik v, qO3 ik l with
   | some x, some xs => some (x :: xs)
   | _, _ => none
def qUC (off : Nat) (v : Int) (xs : List Int) : Option (List Int) := if off < xs.length then some (xs.set off v) else none
def spread (ik : IntKind) (n : Nat) (ys : List Int) : List SV := (List.range n).map fun i => SV.d (.int ik) (ys.getD i 0 : Int)
theorem aU {ik : IntKind} : ∀ {l : List SV} {xs : List Int}, qO3 ik l = some xs -> qA l = xs.map fun x => fvv (.int ik x)
 | [], xs, e => by cases e; simp [qA]
 | v :: l, xs, e => by
   unfold qO3 at e;split at e
   ·rename_i x ys hx hy;cases e;simp only [qA, zQ0, qAJ hx, aU hy]
   ·cases e
theorem qFO (h : ys.length = n) : qA (spread ik n ys) = ys.map fun x => fvv (.int ik x) := by
 rw [zC];unfold spread;rw [zT4];apply zRC;intro i;rw [zQU, zQU];by_cases hi : i < n
 ·rw [zS1 hi, zQP (by omega : i < ys.length)];simp only [zQW, Function.comp, zQV];rw [List.getD_eq_getElem?_getD, zQP (by omega : i < ys.length)];simp [SV.enc, Ty.fv, fvv]
 ·rw [zQX (by simp; omega), zQX (by omega)];rfl
theorem qX4 : okL h (spread ik n ys) := yS.2 fun x hx => by
 unfold spread at hx;obtain ⟨i, _, rfl⟩ := zQ9.1 hx;simp [SV.ok]
def q7U (P : Program) (t : TypeId) (a : SV) (h : SH) (K : SV -> zIA R) : zIA R := match a with
 | .ref k off w => (match slk k h.l with
   | some (.cells el _ l) => (match qHG P t l off with
     | some v => cond (!(spec P el) && Nat.beq w l.length) (K v) .fail
     | none => .fail)
   | _ => .fail)
 | .elt k g n w j off => (match slk k h.l with
   | some (.list _ _ g' _ t' xs) => cond (Nat.beq g g' && Nat.beq w t'.w) (.bind (xs[j]?) fun x => match qHG P t (t'.svs x) off with
     | some v => K v
     | none => .fail) .fail
   | _ => .fail)
 | .lp t' xs j off => .bind (xs[j]?) fun x => match qHG P t (t'.svs x) off with
   | some v => K v
   | none => .fail
 | .rfx k off w => (match slk k h.l with
   | some (.cells el _ l) => (match zDR l with
     | some ik => (match qO3 ik l, qSK P t with
       | some xs, some false => cond (!(spec P el) && Nat.beq w l.length) (.bind (xs[off]?) fun x => K (.d (.int ik) (x : Int))) .fail
       | _, _ => .fail)
     | none => .fail)
   | _ => .fail)
 | .etx k g n w j off => (match slk k h.l with
   | some (.list _ _ g' _ t' xs) => cond (Nat.beq g g' && Nat.beq w t'.w) (.bind (xs[j]?) fun x => match zDR (t'.svs x) with
     | some ik => (match qO3 ik (t'.svs x), qSK P t with
       | some ys, some false => .bind (ys[off]?) fun z => K (.d (.int ik) (z : Int))
       | _, _ => .fail)
     | none => .fail) .fail
   | _ => .fail)
 | _ => .fail
theorem zI (l : List SV) : (qA l).length = l.length := by rw [zC, zQ7]
theorem yI {k : Nat} {ob : SO} {l : List (Nat × SO)} (e : slk k l = some ob) : qB k (qH l) = some ob.enc := by rw [pI, e]; rfl
theorem qZ {gr : Bool} {g w : Nat} {t : Ty} {xs : List t.sem} : (SO.list el gr g w t xs).enc.cs.length = xs.length * t.w := by
 show ((xs.flatMap t.cells).map PV.f).length = _;rw [zQ7, xP]
theorem q03 {a : SV} {K : SV -> zIA R} (ho : OkH P h) (ha : a.ok h) (e : (q7U P t a h K).run = some r) : ∃ v, dS P t a.enc (qH h.l) = some v.enc ∧ v.ok h ∧ (K v).run = some r := by
 unfold q7U at e;split at e
 ·rename_i k off w;split at e
  ·rename_i el w' l hk;split at e
   ·rename_i v hv;obtain ⟨h1, h2⟩ := qG e;rw [zQM, zRN] at h1;obtain ⟨hsp, h1⟩ := h1;obtain ⟨h3, h4⟩ := qHQ (h := h) hv;refine ⟨v, ?_, h4 (ho.cells _ _ _ _ hk), h2⟩;simp only [SV.enc, dS, yI hk];show cond (spec P el) none (cond (Nat.beq w (qA l).length) (mX P t (qA l) off) none) = _;rw [zI, h1, hsp];exact h3
   ·cases e
  ·cases e
 ·rename_i k g n w j off;split at e
  ·rename_i el gr g' w' t' xs hk;obtain ⟨h1, h2⟩ := qG e;rw [zQM] at h1;have hg : g = g' := zQN h1.1;have hw : w = t'.w := zQN h1.2;subst hg hw;obtain ⟨x, hx, h3⟩ := run_bind h2;split at h3
   ·rename_i v hv;have h5 := qCB (h := h) hx hv;refine ⟨v, ?_, h5.2.2, h3⟩;simp only [SV.ok] at ha;have hn : n = xs.length := ha.2 _ _ _ _ _ hk;simp only [SV.enc, dS, yI hk];rw [qZ, hn, show spec P (SO.list el gr g w' t' xs).enc.el = false from jP (ho.list _ _ _ _ _ _ _ hk).2.1];simp only [nG, cond_true, cond_false];exact h5.1
   ·cases h3
  ·cases e
 ·rename_i t' xs j off;obtain ⟨x, hx, h3⟩ := run_bind e;split at h3
  ·rename_i v hv;have h5 := qCB (h := h) hx hv;exact ⟨v, by simp only [SV.enc, dS]; exact h5.2.1, h5.2.2, h3⟩
  ·cases h3
 ·rename_i k off w;split at e
  ·rename_i el w' l hk;split at e
   ·rename_i ik hik;split at e
    ·rename_i xs hxs hag;obtain ⟨h1, h2⟩ := qG e;rw [zQM, zRN] at h1;obtain ⟨hsp, h1⟩ := h1;obtain ⟨x, hx, h3⟩ := run_bind h2;refine ⟨_, ?_, by simp [SV.ok], h3⟩;simp only [SV.enc, dS, yI hk];show cond (spec P el) none (cond (Nat.beq w (qA l).length) (mX P t (qA l) off) none) = _;rw [zI, h1, hsp];simp only [cond_true, cond_false];unfold mX;rw [hag];show zM (qA l) off = _;rw [qD, aU hxs, zQU, hx];simp [Ty.fv, fvv]
    ·cases e
   ·cases e
  ·cases e
 ·rename_i k g n w j off;split at e
  ·rename_i el gr g' w' t' xs hk;obtain ⟨h1, h2⟩ := qG e;rw [zQM] at h1;have hg : g = g' := zQN h1.1;have hw : w = t'.w := zQN h1.2;subst hg hw;obtain ⟨x, hx, h3⟩ := run_bind h2;split at h3
   ·rename_i ik hik;split at h3
    ·rename_i ys hys hag;obtain ⟨z, hz, h4⟩ := run_bind h3;refine ⟨_, ?_, by simp [SV.ok], h4⟩;have hn1 : zM (qA (t'.svs x)) off = some (fvv (.int ik z)) := by rw [qD, aU hys, zQU, hz]; rfl
     rw [zF] at hn1;obtain ⟨v0, hv0, hv1⟩ := zQY.1 hn1;have hsp : qHG P t (t'.svs x) off = some v0 := by unfold qHG; rw [hag]; exact hv0
     have h5 := qCB (h := h) hx hsp;simp only [SV.ok] at ha;have hn : n = xs.length := ha.2 _ _ _ _ _ hk;simp only [SV.enc, dS, yI hk];rw [qZ, hn, show spec P (SO.list el gr g w' t' xs).enc.el = false from jP (ho.list _ _ _ _ _ _ _ hk).2.1];simp only [nG, cond_true, cond_false];have h6 := h5.1;rw [hv1] at h6;rw [show (SO.list el gr g w' t' xs).enc.cs = (xs.flatMap t'.cells).map .f from rfl, h6];simp [Ty.fv, fvv]
    ·cases h3
   ·cases h3
  ·cases e
 ·cases e
def Post (P : Program) (h h' : SH) (v : SV) : Prop := Keep h h' ∧ OkH P h' ∧ v.ok h'
def yL : SV -> List SV
 | .agg l => l
 | v => [v]
theorem bP (v : SV) : zU v.enc = qA (yL v) := by
 cases v <;> simp [SV.enc, zU, yL, qA, fvv];rename_i b _ _ _;cases b <;> rfl
omit [Yl] in
theorem qB7 (hv : v.ok h) : okL h (yL v) := by
 cases v <;> simp only [yL, okL, SV.ok, and_true] at hv ⊢ <;> exact hv
def qBJ (l : List SV) (i : Nat) (vs : List SV) : List SV := l.take i ++ vs ++ l.drop (i + vs.length)
theorem qDL (l vs : List SV) (i : Nat) : qA (qBJ l i vs) = jC (qA l) i (qA vs) := by
 simp [qBJ, jC, zC, zTG, zTF]
omit [Yl] in
theorem qR8 {vs : List SV} {i : Nat} (a : okL h l) (b : okL h vs) : okL h (qBJ l i vs) :=
 mQ (mQ (qOG a fun z hz => zU6 hz) b) (qOG a fun z hz => zUB hz)
omit [Yl] in
theorem q2U {α : Type} (A B C : List α) (c : List α) (hle : off + c.length <= B.length) :
 (A ++ B ++ C).take (A.length + off) ++ c ++ (A ++ B ++ C).drop (A.length + off + c.length) = A ++ (B.take off ++ c ++ B.drop (off + c.length)) ++ C := by
 rw [zRW A B C, List.take_append, zRU (by omega), zUR, List.take_append_of_le_length (by omega)];rw [zSM, List.drop_append, zUV (by omega), zUR, List.nil_append, List.drop_append_of_le_length (by omega)];simp [zRW]
omit [Yl] in
theorem qFD {t : Ty} {xs : List t.sem} {x : t.sem} (hx : xs[j]? = some x) (y : t.sem) : (xs.set j y).flatMap t.cells = (xs.take j).flatMap t.cells ++ t.cells y ++ (xs.drop (j + 1)).flatMap t.cells := by
 have hl := (zQQ.1 hx).1;rw [zTV, if_pos hl, zUE, zSD, zRW]
omit [Yl] in
theorem qFN {t : Ty} {xs : List t.sem} {x y : t.sem} (hx : xs[j]? = some x) {c : List PV} (hle : off + c.length <= t.w) (hy : jC ((t.cells x).map .f) off c = (t.cells y).map .f) :
 jC ((xs.flatMap t.cells).map .f) (j * t.w + off) c = ((xs.set j y).flatMap t.cells).map .f := by
 have hl := (zQQ.1 hx).1
 have e0 : xs.set j x = xs := by
  apply zRC;intro i;rw [zRD];by_cases e : j = i
  ·subst e; rw [if_pos rfl, if_pos hl, hx]
  ·rw [if_neg e]
 have e1 := qFD hx x;rw [e0] at e1;rw [qFD hx y, e1];simp only [zRI];unfold jC;have hA : (((xs.take j).flatMap t.cells).map PV.f).length = j * t.w := by rw [zQ7, xP, zRS, zT2 (by omega)]
 rw [<- hA, q2U _ _ _ _ (by rw [zQ7, t.zIL]; exact hle)];unfold jC at hy;rw [hy]
def qUQ (P : Program) (t : TypeId) (a x : SV) (h : SH) (K : SV -> SH -> zIA R) : zIA R := match szT P t with
 | some n => (match a with
   | .ref k off w => (match slk k h.l with
     | some (.cells el _ l) => cond (!(spec P el) && (Nat.beq w l.length && (Nat.beq n (yL x).length && (Nat.ble (off + n) l.length && (pnt x.enc && (qA (yL x)).all p9)))))
        (K (.tup []) (h.put k fun v => .cells el v (qBJ l off (yL x)))) .fail
     | _ => .fail)
   | .elt k g m w j off => (match slk k h.l with
     | some (.list el gr g' _ t' xs) => cond (Nat.beq g g' && (Nat.beq w t'.w && (Nat.beq n (yL x).length && (Nat.ble (off + n) w && (pnt x.enc && (qA (yL x)).all p9)))))
        (.bind (xs[j]?) fun y => match t'.zK1 (qBJ (t'.svs y) off (yL x)) with
          | some z => K (.tup []) (h.put k fun v => .list el gr g v t' (List.set xs j z))
          | none => .fail) .fail
     | _ => .fail)
   | .rfx k off w => (match slk k h.l with
     | some (.cells el _ l) => (match zDR l with
       | some ik => (match qO3 ik l, q9V ik x with
         | some xs, some v => cond (!(spec P el) && (Nat.beq w l.length && Nat.beq n 1)) (.bind (qUC off v xs) fun ys => K (.tup []) (h.put k fun u => .cells el u (spread ik (List.length xs) ys))) .fail
         | _, _ => .fail)
       | none => .fail)
     | _ => .fail)
   | .etx k g m w j off => (match slk k h.l with
     | some (.list el gr g' _ t' xs) => cond (Nat.beq g g' && (Nat.beq w t'.w && Nat.beq n 1)) (.bind (xs[j]?) fun y => match zDR (t'.svs y) with
       | some ik => (match qO3 ik (t'.svs y), q9V ik x with
         | some ys, some v => .bind (qUC off v ys) fun zs => match t'.zK1 (spread ik (List.length ys) zs) with
           | some z => K (.tup []) (h.put k fun v => .list el gr g v t' (List.set xs j z))
           | none => .fail
         | _, _ => .fail)
       | none => .fail) .fail
     | _ => .fail)
   | _ => .fail)
 | none => .fail
theorem qUX {a : SV} {K : SV -> SH -> zIA R} (ho : OkH P h) (ha : a.ok h) (hx : x.ok h) (e : (qUQ P t a x h K).run = some r) :
 ∃ h', bB P t a.enc x.enc (qH h.l) = some (qH h'.l) ∧ Keep h h' ∧ OkH P h' ∧ (K (.tup []) h').run = some r := by
 unfold qUQ at e;split at e
 ·rename_i n hn;split at e
  ·rename_i k off w;split at e
   ·rename_i el w' l hk;obtain ⟨h1, h2⟩ := qG e;rw [zQM, zRN] at h1;obtain ⟨hsp, h1⟩ := h1;have hp := bD (f := fun v => .cells el v (qBJ l off (yL x))) ho hk ⟨rfl, qR8 (ho.cells _ _ _ _ hk) (qB7 hx)⟩;refine ⟨_, ?_, hp.1, hp.2, h2⟩;simp only [SV.enc, bB, yI hk, hn];show cond (spec P el) none (cond (Nat.beq w (qA l).length && (Nat.beq n (zU x.enc).length && (Nat.ble (off + n) (qA l).length && (pnt x.enc && (zU x.enc).all p9)))) _ _) = _;rw [bP, zI, zI, h1, hsp];simp only [cond_true];rw [show qH (h.put k fun v => .cells el v (qBJ l off (yL x))).l = xN k (SO.enc (.cells el h.next (qBJ l off (yL x)))) (qH h.l) from jD k _ _];show some (xN k ⟨el, false, jC (qA l) off (qA (yL x))⟩ (qH h.l)) = some (xN k ⟨el, false, qA (qBJ l off (yL x))⟩ (qH h.l));rw [qDL]
   ·cases e
  ·rename_i k g m w j off;split at e
   ·rename_i el gr g' w' t' xs hk;obtain ⟨h1, h2⟩ := qG e;simp only [zQM] at h1;obtain ⟨q1, q2, q3, q4, q5, q6⟩ := h1;have hg : g = g' := zQN q1;have hw : w = t'.w := zQN q2;subst hg hw;obtain ⟨y, hy, h3⟩ := run_bind h2;split at h3
    ·rename_i z hz;have hp := bD (f := fun v => .list el gr g v t' (List.set xs j z)) ho hk ⟨_, rfl, by simp⟩;refine ⟨_, ?_, hp.1, hp.2, h3⟩;simp only [SV.ok] at ha;have hm : m = xs.length := ha.2 _ _ _ _ _ hk;have hle : off + n <= t'.w := zQ4 q4;simp only [SV.enc, bB, yI hk, hn];rw [qZ, hm, bP, zI, show spec P (SO.list el gr g w' t' xs).enc.el = false from jP (ho.list _ _ _ _ _ _ _ hk).2.1]
     have hjl : j * t'.w + off + n <= xs.length * t'.w := by
      have := qHV hy hle
      rwa [xP] at this
     rw [q3, q5, q6, show Nat.ble (j * t'.w + off + n) (xs.length * t'.w) = true from zRM hjl];simp only [nG, zRO, cond_true, cond_false];rw [show qH (h.put k fun v => .list el gr g v t' (List.set xs j z)).l = xN k (SO.enc (.list el gr g h.next t' (List.set xs j z))) (qH h.l) from jD k _ _];show some (xN k ⟨el, gr, jC ((xs.flatMap t'.cells).map .f) (j * t'.w + off) (qA (yL x))⟩ (qH h.l)) = some (xN k ⟨el, gr, ((List.set xs j z).flatMap t'.cells).map .f⟩ (qH h.l));have hnl : n = (qA (yL x)).length := by rw [zI]; exact zQN q3
     rw [qFN hy (y := z) (by rw [<- hnl]; exact hle) (by rw [<- bH, <- qDL]; exact qAK hz)]
    ·cases h3
   ·cases e
  ·rename_i k off w;split at e
   ·rename_i el w' l hk;split at e
    ·rename_i ik hik;split at e
     ·rename_i xs v hxs hv;obtain ⟨h1, h2⟩ := qG e;simp only [zQM, zRN] at h1;obtain ⟨hsp, hw, hn1⟩ := h1;have hn2 := zQN hn1;subst hn2;obtain ⟨ys, hys, h3⟩ := run_bind h2;unfold qUC at hys;split at hys
      case isFalse => cases hys
      rename_i hlt;cases hys;have hp := bD (f := fun u => .cells el u (spread ik (List.length xs) (xs.set off v))) ho hk ⟨rfl, qX4⟩;refine ⟨_, ?_, hp.1, hp.2, h3⟩;have hel := aU hxs;have hll : (qA l).length = xs.length := by rw [hel, zQ7]
      simp only [SV.enc, bB, yI hk, hn];rw [qAJ hv];show cond (spec P el) none (cond (Nat.beq w (qA l).length && (Nat.beq 1 1 && (Nat.ble (off + 1) (qA l).length && (true && true)))) (some (xN k ⟨el, false, jC (qA l) off [fvv (.int ik v)]⟩ (qH h.l))) none) = _;rw [hsp, show Nat.beq w (qA l).length = true by rw [zI]; exact hw, hll, show Nat.ble (off + 1) xs.length = true from zRM hlt];rw [show qH (h.put k fun u => .cells el u (spread ik (List.length xs) (xs.set off v))).l = xN k (SO.enc (.cells el h.next (spread ik (List.length xs) (xs.set off v)))) (qH h.l) from jD k _ _];show some (xN k ⟨el, false, jC (qA l) off [fvv (.int ik v)]⟩ (qH h.l)) = some (xN k ⟨el, false, qA (spread ik (List.length xs) (xs.set off v))⟩ (qH h.l));rw [qFO (by simp), hel]
      have : jC (xs.map fun x => fvv (.int ik x)) off [fvv (.int ik v)] = (xs.set off v).map fun x => fvv (.int ik x) := by
       rw [List.map_set, zTV, if_pos (by rw [zQ7]; exact hlt)];unfold jC;simp
      rw [this]
     ·cases e
    ·cases e
   ·cases e
  ·rename_i k g m w j off;split at e
   ·rename_i el gr g' w' t' xs hk;obtain ⟨h1, h2⟩ := qG e;simp only [zQM] at h1;obtain ⟨q1, q2, q3⟩ := h1;have hg : g = g' := zQN q1;have hw : w = t'.w := zQN q2;have hn2 := zQN q3;subst hg hw hn2;obtain ⟨y, hy, h3⟩ := run_bind h2;split at h3
    ·rename_i ik hik;split at h3
     ·rename_i ys v hys hv;obtain ⟨zs, hzs, h4⟩ := run_bind h3;split at h4
      ·rename_i z hz;unfold qUC at hzs;split at hzs
       case isFalse => cases hzs
       rename_i hlt;cases hzs;have hp := bD (f := fun v => .list el gr g v t' (List.set xs j z)) ho hk ⟨_, rfl, by simp⟩;refine ⟨_, ?_, hp.1, hp.2, h4⟩;simp only [SV.ok] at ha;have hm : m = xs.length := ha.2 _ _ _ _ _ hk;have hel := aU hys
       have hcw : ys.length = t'.w := by
        have := congrArg List.length hel;rw [bH, zQ7, zQ7, t'.zIL] at this;exact this.symm
       have hle : off + 1 <= t'.w := by omega
       simp only [SV.enc, bB, yI hk, hn];rw [qZ, hm, qAJ hv, show spec P (SO.list el gr g w' t' xs).enc.el = false from jP (ho.list _ _ _ _ _ _ _ hk).2.1]
       have hjl : j * t'.w + off + 1 <= xs.length * t'.w := by
        have := qHV hy hle
        rwa [xP] at this
       rw [show Nat.ble (j * t'.w + off + 1) (xs.length * t'.w) = true from zRM hjl];simp only [nG, cond_false];show some (xN k ⟨el, gr, jC ((xs.flatMap t'.cells).map .f) (j * t'.w + off) [fvv (.int ik v)]⟩ (qH h.l)) = _;rw [show qH (h.put k fun v => .list el gr g v t' (List.set xs j z)).l = xN k (SO.enc (.list el gr g h.next t' (List.set xs j z))) (qH h.l) from jD k _ _];show _ = some (xN k ⟨el, gr, ((List.set xs j z).flatMap t'.cells).map .f⟩ (qH h.l));rw [qFN hy (y := z) hle ?_];rw [<- qAK hz, qFO (by simp), <- bH, hel, List.map_set, zTV, if_pos (by rw [zQ7]; exact hlt)];unfold jC;simp
      ·cases h4
     ·cases h3
    ·cases h3
   ·cases e
  ·cases e
 ·cases e
end
end Go.Sv
namespace Go.Sv
open Go.Idl
variable {el t : TypeId} {i k n off w : Nat} {ix v x : SV}
noncomputable section
variable [Gc]
variable [Yl]
variable {P : Program} {h : SH} {R : Type} {r : R}
def tyL : List (Option Ty) -> Option Ty
 | [] => some .unit
 | [t] => t.map fun t => .pair t .unit
 | [a, b] => match a, b with
   | some a, some b => some (.pair a b)
   | _, _ => none
 | a :: l => match a, tyL l with
   | some a, some b => some (.pair a b)
   | _, _ => none
def qIQ (P : Program) : Nat -> TypeId -> Option Ty
 | 0, _ => none
 | n + 1, t => match P.underlying t with
   | some (.int k) => some (.int k)
   | some .bool => some .bool
   | some .string => some .str
   | some (.slice el) => (match qIQ P n el with
     | some u => some (.list el u)
     | none => none)
   | some (.struct fields) => tyL (fields.toList.map fun f => qIQ P n f.type)
   | some (.array k el) => tyL (List.replicate k (qIQ P n el))
   | _ => none
def zcS (P : Program) (t : TypeId) : Option (List SV) := match qB0 P t with
 | some z => cond (yY okC z.cells.toList) (some (kV .c z.cells.toList)) none
 | none => none
theorem qG5 {l : List SV} (e : zcS P t = some l) : zc P t = some (qA l) ∧ okL h l := by
 unfold zcS at e;unfold zc;split at e
 ·rename_i z hz
  cases hc : yY okC z.cells.toList with
  | false => rw [hc] at e; cases e
  | true =>
    rw [hc] at e;cases e;rw [hz];simp only [hc, cond_true];exact ⟨by rw [zDS], zDO _⟩
 ·cases e
def qV9 (P : Program) (el : TypeId) (k : Nat) (h : SH) (K : SV -> SH -> zIA R) : zIA R := match zcS P el with
 | some l => cond (spec P el) .fail (K (.ref k 0 l.length) (h.new k fun v => .cells el v l))
 | none => .fail
theorem qUU {K : SV -> SH -> zIA R} (ho : OkH P h) (e : (qV9 P el k h K).run = some r) : ∃ v h', qEU P el k (qH h.l) = some (v.enc, qH h'.l) ∧ Post P h h' v ∧ (K v h').run = some r := by
 unfold qV9 at e;split at e
 ·rename_i l hl;obtain ⟨h1, h2⟩ := qG5 (h := h) hl;have hp := kX (k := k) (f := fun v => .cells el v l) ho ⟨rfl, h2⟩
  cases hsp : spec P el with
  | true => rw [hsp] at e; cases e
  | false =>
  rw [hsp] at e;refine ⟨_, _, ?_, ⟨hp.1, hp.2, by simp [SV.ok]⟩, e⟩;simp only [qEU, h1, qKE, SV.enc, zI, hsp, cond_false];rfl
 ·cases e
def zGP (P : Program) (el : TypeId) (v : SV) (k : Nat) (h : SH) (K : SV -> SH -> zIA R) : zIA R :=
 cond (!(spec P el) && (pnt v.enc && (qA (yL v)).all p9)) (K (.ref k 0 (yL v).length) (h.new k fun n => .cells el n (yL v))) .fail
theorem q7S {K : SV -> SH -> zIA R} (ho : OkH P h) (hv : v.ok h) (e : (zGP P el v k h K).run = some r) : ∃ x h', q91 P el v.enc k (qH h.l) = some (x.enc, qH h'.l) ∧ Post P h h' x ∧ (K x h').run = some r := by
 obtain ⟨h1, h2⟩ := qG e;have hp := kX (k := k) (f := fun n => .cells el n (yL v)) ho ⟨rfl, qB7 hv⟩;refine ⟨_, _, ?_, ⟨hp.1, hp.2, by simp [SV.ok]⟩, h2⟩;unfold q91;rw [bP, h1];simp only [cond_true, qKE, SV.enc, zI];rfl
def q0B (place : Nat -> Option (Nat × Nat)) : List SV -> List (Nat × SV) -> Option (List SV)
 | cells, [] => some cells
 | cells, (i, v) :: rest => match place i with
   | some (off, size) => cond (Nat.beq (yL v).length size && (Nat.ble (off + size) cells.length && (pnt v.enc && (qA (yL v)).all p9))) (q0B place (qBJ cells off (yL v)) rest) none
   | none => none
def q95 (l : List (Nat × SV)) : List (Nat × PV) := l.map fun p => (p.1, p.2.enc)
theorem qGC {place : Nat -> Option (Nat × Nat)} : ∀ {l cs : List SV} {parts : List (Nat × SV)}, q0B place l parts = some cs -> qJC place (qA l) (q95 parts) = some (qA cs) ∧ (okL h l -> (∀ p ∈ parts, p.2.ok h) -> okL h cs)
 | l, cs, [], e => by cases e; exact ⟨rfl, fun a _ => a⟩
 | l, cs, (i, v) :: rest, e => by
   unfold q0B at e;split at e
   ·rename_i off size hpl
    cases hc : (Nat.beq (yL v).length size && (Nat.ble (off + size) l.length && (pnt v.enc && (qA (yL v)).all p9))) with
    | false => rw [hc] at e; cases e
    | true =>
      rw [hc] at e;obtain ⟨h1, h2⟩ := qGC (l := qBJ l off (yL v)) e;refine ⟨?_, fun a b => h2 (qR8 a (qB7 (b _ zQT))) fun p hp => b p (zQS _ hp)⟩
      show (match place i with
       | some (off, size) => cond (Nat.beq (zU v.enc).length size && (Nat.ble (off + size) (qA l).length && (pnt v.enc && (zU v.enc).all p9))) (qJC place (jC (qA l) off (zU v.enc)) (q95 rest)) none
       | none => none) = some (qA cs)
      rw [hpl];simp only;rw [bP, zI, zI, hc, <- qDL];exact h1
   ·cases e
def qVE (P : Program) (t : TypeId) (parts : List (Nat × SV)) : Option SV := match zcS P t with
 | some z => cond (qDD P t) (match q0B (qYJ P t) z parts with
   | some cs => some (.agg cs)
   | none => none) none
 | none => none
theorem qVZ {parts : List (Nat × SV)} (hp : ∀ p ∈ parts, p.2.ok h) (e : qVE P t parts = some v) : qJU P t (q95 parts) = some v.enc ∧ v.ok h := by
 unfold qVE at e;split at e
 ·rename_i z hz;obtain ⟨h1, h2⟩ := qG5 (h := h) hz
  cases hb : qDD P t with
  | false => rw [hb] at e; cases e
  | true =>
    rw [hb] at e;simp only [cond_true] at e;split at e
    ·rename_i cs hcs;cases e;obtain ⟨h3, h4⟩ := qGC (h := h) hcs;simp only [qJU, h1, hb, cond_true, h3, SV.enc, SV.ok, true_and];exact h4 h2 hp
    ·cases e
 ·cases e
def Ty.zL1 (t : Ty) : Nat -> List SV -> Option (List t.sem)
 | 0, [] => some []
 | 0, _ :: _ => none
 | n + 1, l => match t.zK0 l with
   | some (x, l') => (match t.zL1 n l' with
     | some xs => some (x :: xs)
     | none => none)
   | none => none
theorem qQX {t : Ty} : ∀ {n : Nat} {l : List SV} {xs : List t.sem}, t.zL1 n l = some xs -> qA l = (xs.flatMap t.cells).map .f ∧ xs.length = n
 | 0, [], xs, e => by cases e; simp [qA]
 | 0, _ :: _, xs, e => by cases e
 | n + 1, l, xs, e => by
   unfold Ty.zL1 at e;split at e
   ·rename_i x l' hx;split at e
    ·rename_i ys hy;cases e;obtain ⟨h1, h2⟩ := qQX hy;rw [qAU hx, h1, zSD, zRI];exact ⟨rfl, by rw [zRB, h2]⟩
    ·cases e
   ·cases e
def zFA (n : Nat) (z : List SV) : List SV := (List.replicate n z).flatten
theorem q2W (n : Nat) (z : List SV) : qA (zFA n z) = qIW n (qA z) := by simp [zFA, qIW, zC, List.map_flatten]
def mR (P : Program) (t : TypeId) (len : Nat) (parts : List (Nat × SV)) (k : Nat) (h : SH) (K : SV -> SH -> zIA R) : zIA R := match y9 P t with
 | some el => (match szT P el, zcS P el, qIQ P 8 el with
   | some (s + 1), some z, some ty => cond (Nat.beq ty.w (s + 1)) (cond (Nat.beq z.length (s + 1) && Nat.ble (len * (s + 1)) 65536) (match q0B (fun i => some (i * (s + 1), s + 1)) (zFA len z) parts with
     | some cs => (match ty.zL1 len cs with
       | some xs => K (.own k h.next len) (h.new k fun v => .list el false v v ty xs)
       | none => .fail)
     | none => .fail) .fail) .fail
   | _, _, _ => .fail)
 | none => .fail
omit [Yl] in
theorem wH {gr : Bool} {ty : Ty} {xs : List ty.sem} (hn : n = xs.length) : (SV.own k h.next n).ok (h.new k fun v => .list el gr v v ty xs) := by
 simp only [SV.ok];refine ⟨zR5 _, fun el' gr' w' t' xs' hk => ?_⟩;rw [show slk k (h.new k fun v => .list el gr v v ty xs).l = some (.list el gr h.next h.next ty xs) from wU] at hk;cases hk;exact hn
theorem qDZ {len : Nat} {parts : List (Nat × SV)} {K : SV -> SH -> zIA R} (ho : OkH P h) (hp : ∀ p ∈ parts, p.2.ok h) (e : (mR P t len parts k h K).run = some r) :
 ∃ v h', jT P t len (q95 parts) k (qH h.l) = some (v.enc, qH h'.l) ∧ Post P h h' v ∧ (K v h').run = some r := by
 unfold mR at e;split at e
 ·rename_i el hel;split at e
  ·rename_i s z ty hs hz hty;obtain ⟨e1, e⟩ := qG e;obtain ⟨e2, e⟩ := qG e;split at e
   ·rename_i cs hcs;split at e
    ·rename_i xs hxs;obtain ⟨z1, z2⟩ := qG5 (h := h) hz;obtain ⟨f1, f2⟩ := qGC (h := h) hcs;obtain ⟨d1, d2⟩ := qQX hxs;have hw : ty.w = s + 1 := zQN e1;have hn := kX (k := k) (f := fun v => .list el false v v ty xs) ho ⟨rfl, rfl, by rw [hs, hw], by omega⟩;refine ⟨_, _, ?_, ⟨hn.1, hn.2, wH d2.symm⟩, e⟩;rw [q2W] at f1;simp only [jT, hel, hs, z1, zI, e2, cond_true, f1, qKE, SV.enc, d1];rfl
    ·cases e
   ·cases e
  ·cases e
 ·cases e
def q75 (P : Program) (t : TypeId) (l : SV) (k : Nat) (h : SH) (K : SV -> SH -> zIA R) : zIA R := match y9 P t, asI l with
 | some el, some (_, n) => (match szT P el, zcS P el, qIQ P 8 el with
   | some (s + 1), some z, some ty => cond (uF P el && (Nat.beq z.length (s + 1) && Nat.beq ty.w (s + 1))) (match ty.zK1 z with
     | some z0 => .bind (mkN n) fun N => K (.own k h.next N) (h.new k fun v => .list el false v v ty (List.replicate N z0))
     | none => .fail) .fail
   | _, _, _ => .fail)
 | _, _ => .fail
omit [Yl] in
theorem qPC {t : Ty} {z : t.sem} : ∀ (n : Nat), ((List.replicate n z).flatMap t.cells).map PV.f = qIW n ((t.cells z).map .f)
 | 0 => rfl
 | n + 1 => by
   rw [zSC, zSD, zRI, qPC n];simp [qIW, zSC]
theorem q3L {l : SV} {K : SV -> SH -> zIA R} (ho : OkH P h) (e : (q75 P t l k h K).run = some r) :
 ∃ v h', vU P t l.enc l.enc k (qH h.l) = some (v.enc, qH h'.l) ∧ Post P h h' v ∧ (K v h').run = some r := by
 unfold q75 at e;split at e
 ·rename_i el ki n hel hl;split at e
  ·rename_i s z ty hs hz hty;obtain ⟨e1, e⟩ := qG e;simp only [zQM] at e1;obtain ⟨q1, q2, q3⟩ := e1;split at e
   ·rename_i z0 hz0;obtain ⟨N, hN, e⟩ := run_bind e;obtain ⟨z1, z2⟩ := qG5 (h := h) hz;have hw : ty.w = s + 1 := zQN q3;have hn := kX (k := k) (f := fun v => .list el false v v ty (List.replicate N z0)) ho ⟨rfl, rfl, by rw [hs, hw], by omega⟩;refine ⟨_, _, ?_, ⟨hn.1, hn.2, wH (xs := List.replicate N z0) (by simp)⟩, e⟩;rw [xX hl];simp only [vU, fvv, hel, decide_true, cond_true, hN, hs, z1, zI, q1, q2, zRO, qKE, SV.enc];show some (PV.own k N 0 N, (k, (⟨el, false, qIW N (qA z)⟩ : PO)) :: qH h.l) = some (PV.own k N 0 N, (k, ⟨el, false, ((List.replicate N z0).flatMap ty.cells).map PV.f⟩) :: qH h.l);rw [qPC, qAK hz0]
   ·cases e
  ·cases e
 ·cases e
def q9H (h : SH) : SV -> Bool
 | .ref k _ w => match slk k h.l with
   | some (.cells _ _ l) => Nat.beq w l.length
   | _ => false
 | .elt k g _ w _ _ => match slk k h.l with
   | some (.list _ _ g' _ t _) => Nat.beq g g' && Nat.beq w t.w
   | _ => false
 | .lp _ _ _ _ => true
 | _ => false
theorem qPU (e : q9H h (.ref k off w) = true) : live? k w (qH h.l) = true := by
 simp only [q9H] at e;split at e
 ·rename_i el w' l hk;unfold live?;rw [yI hk];show Nat.beq w (qA l).length = true;rw [zI]; exact e
 ·cases e
theorem qPZ {g j : Nat} (ho : (SV.elt k g n w j off).ok h) (e : q9H h (.elt k g n w j off) = true) : live? k (n * w) (qH h.l) = true := by
 simp only [q9H] at e;split at e
 ·rename_i el gr g' w' t xs hk;rw [zQM] at e;have hg : g = g' := zQN e.1;have hw : w = t.w := zQN e.2;subst hg hw;simp only [SV.ok] at ho;unfold live?;rw [yI hk];show Nat.beq (n * t.w) (SO.list el gr g w' t xs).enc.cs.length = true;rw [qZ, ho.2 _ _ _ _ _ hk]; exact nG _
 ·cases e
def qNG (n : Nat) : SV -> SV
 | .ref k off w => .ref k (off + n) w
 | .elt k g m w j off => .elt k g m w j (off + n)
 | .lp t xs j off => .lp t xs j (off + n)
 | v => v
def zGR : SV -> Bool
 | .ref _ _ _ => true
 | .elt _ _ _ _ _ _ => true
 | .lp _ _ _ _ => true
 | _ => false
omit [Yl] in
theorem q0F (hv : v.ok h) : (qNG n v).ok h := by
 cases v <;> simp only [qNG, SV.ok] at hv ⊢ <;> exact hv
def rP (P : Program) (t : TypeId) (x : SV) (i : Nat) (h : SH) : Option SV := match zDJ P t i with
 | some (off, ft) => (match szT P ft with
   | some (_ + 1) => cond (q9H h x) (some (qNG off x)) none
   | _ => none)
 | none => none
theorem qF9 (hx : x.ok h) (e : rP P t x i h = some v) : zX P t x.enc i (qH h.l) = some v.enc ∧ v.ok h := by
 unfold rP at e;unfold zX;split at e
 ·rename_i off ft hf;split at e
  ·rename_i s hs
   cases hl : q9H h x with
   | false => rw [hl] at e; cases e
   | true =>
     rw [hl] at e;cases e;refine ⟨?_, q0F hx⟩;simp only [hf, hs]
     cases x with
     | ref k o w => simp only [SV.enc, qNG, qPU hl, cond_true]
     | elt k g n w j o => simp only [SV.enc, qNG, qPZ hx hl, cond_true, zSM]
     | lp t xs j o => simp only [SV.enc, qNG, zSM]
     | _ => cases hl
  ·cases e
 ·cases e
def zEI (n : Nat) (ix : SV) (K : Nat -> zIA R) : zIA R := match ix with
 | .c (.int _ i) => (match idx n i with
   | some j => K j
   | none => .fail)
 | v => (match asI v with
   | some (_, i) => .bind (idx n i) K
   | none => .fail)
theorem q65 {K : Nat -> zIA R} (e : (zEI n ix K).run = some r) : ∃ k i j, ix.enc = fvv (.int k i) ∧ idx n i = some j ∧ (K j).run = some r := by
 unfold zEI at e;split at e
 ·rename_i k i;split at e
  ·rename_i j hj;exact ⟨k, i, j, by simp [SV.enc], hj, e⟩
  ·cases e
 ·split at e
  ·rename_i k i hi;obtain ⟨j, hj, e⟩ := run_bind e;exact ⟨k, i, j, xX hi, hj, e⟩
  ·cases e
def q6X (n : Nat) (ix : SV) (K K2 : Nat -> zIA R) : zIA R := match ix with
 | .c (.int _ i) => (match idx n i with
   | some j => K j
   | none => .fail)
 | v => (match asI v with
   | some (_, i) => .bind (idx n i) K2
   | none => .fail)
theorem q4C {K K2 : Nat -> zIA R} (e : (q6X n ix K K2).run = some r) : ∃ k i j, ix.enc = fvv (.int k i) ∧ idx n i = some j ∧ ((K j).run = some r ∨ (K2 j).run = some r) := by
 unfold q6X at e;split at e
 ·rename_i k i;split at e
  ·rename_i j hj;exact ⟨k, i, j, by simp [SV.enc], hj, .inl e⟩
  ·cases e
 ·split at e
  ·rename_i k i hi;obtain ⟨j, hj, e⟩ := run_bind e;exact ⟨k, i, j, xX hi, hj, .inr e⟩
  ·cases e
def zCM (n : Nat) : SV -> SV
 | .ref k off w => .rfx k (off + n) w
 | .elt k g m w j off => .etx k g m w j (off + n)
 | v => qNG n v
omit [Yl] in
theorem q85 (hv : v.ok h) : (zCM n v).ok h := by
 cases v <;> simp only [zCM, qNG, SV.ok] at hv ⊢ <;> exact hv
theorem q00 (hv : zGR v = true) : (zCM n v).enc = (qNG n v).enc := by
 cases v <;> first | rfl | (simp only [zCM, qNG, SV.enc])
def rM (P : Program) (t : TypeId) (x ix : SV) (h : SH) (K : SV -> zIA R) : zIA R := match x with
 | .d (.list el u) xs => (match asI ix, y9 P t with
   | some (_, i), some el' => (match szT P el' with
     | some s => cond (Nat.beq s u.w) (.bind (idx (List.length xs) i) fun j => K (.lp u xs j 0)) .fail
     | none => .fail)
   | _, _ => .fail)
 | .own k g n => (match asI ix, y9 P t, slk k h.l with
   | some (_, i), some el', some (.list el _ g' _ u _) => cond (Nat.beq el' el && Nat.beq g g') (.bind (idx n i) fun j => K (.elt k g n u.w j 0)) .fail
   | _, _, _ => .fail)
 | .sl k g n o m => (match asI ix, y9 P t, slk k h.l with
   | some (_, i), some el', some (.list el _ g' _ u _) => cond (Nat.beq el' el && Nat.beq g g') (.bind (idx m i) fun j => K (.elt k g n u.w (o + j) 0)) .fail
   | _, _, _ => .fail)
 | x => (match qYE P t with
   | some (n, el) => (match szT P el with
     | some s => cond (zGR x && q9H h x) (q6X n ix (fun j => K (qNG (j * s) x)) fun j => K (zCM (j * s) x)) .fail
     | none => .fail)
   | none => .fail)
theorem qHH {K : SV -> zIA R} (ho : OkH P h) (hx : x.ok h) (e : (rM P t x ix h K).run = some r) : ∃ v, zA P t x.enc ix.enc (qH h.l) = some v.enc ∧ v.ok h ∧ (K v).run = some r := by
 unfold rM at e;split at e
 ·rename_i el u xs;split at e
  ·rename_i k i el' hi hel;split at e
   ·rename_i s hs;obtain ⟨h1, e1⟩ := qG e;obtain ⟨j, hj, e2⟩ := run_bind e1;have hw : s = u.w := zQN h1;subst hw;refine ⟨_, ?_, by simp [SV.ok], e2⟩;rw [xX hi];simp only [SV.enc, Ty.fv, fvv, zA, hel, hs, hj, zR7]
   ·cases e
  ·cases e
 ·rename_i k g n;split at e
  ·rename_i ki i el' el gr g' w u xs hi hel hk;obtain ⟨h1, e1⟩ := qG e;obtain ⟨j, hj, e2⟩ := run_bind e1;rw [zQM] at h1;have hg : g = g' := zQN h1.2;subst hg;simp only [SV.ok] at hx;have hn := hx.2 _ _ _ _ _ hk;have hl := ho.list _ _ _ _ _ _ _ hk;refine ⟨_, ?_, by simp only [SV.ok]; exact hx, e2⟩;rw [xX hi];simp only [SV.enc, fvv, zA, hel, yI hk]
   show (match szT P el with
    | some s => (match idx n i with
      | some j => cond (Nat.beq el' el && Nat.beq (n * s) (SO.list el gr g w u xs).enc.cs.length) (some (PV.ref k (SO.list el gr g w u xs).enc.cs.length ((0 + j) * s))) none
      | none => none)
    | none => none) = _
   rw [hl.2.1, hj];simp only [qZ, hn, nG, h1.1, zRO, cond_true, zRK, zR7]
  ·cases e
 ·rename_i k g n o m;split at e
  ·rename_i ki i el' el gr g' w u xs hi hel hk;obtain ⟨h1, e1⟩ := qG e;obtain ⟨j, hj, e2⟩ := run_bind e1;rw [zQM] at h1;have hg : g = g' := zQN h1.2;subst hg;simp only [SV.ok] at hx;have hn := hx.1.2 _ _ _ _ _ hk;have hl := ho.list _ _ _ _ _ _ _ hk;refine ⟨_, ?_, by simp only [SV.ok]; exact hx.1, e2⟩;rw [xX hi];simp only [SV.enc, fvv, zA, hel, yI hk]
   show (match szT P el with
    | some s => (match idx m i with
      | some j => cond (Nat.beq el' el && Nat.beq (n * s) (SO.list el gr g w u xs).enc.cs.length) (some (PV.ref k (SO.list el gr g w u xs).enc.cs.length ((o + j) * s))) none
      | none => none)
    | none => none) = _
   rw [hl.2.1];simp only [hj, qZ, hn, nG, h1.1, zRO, cond_true, zR7]
  ·cases e
 ·split at e
  ·rename_i n el ha;split at e
   ·rename_i s hs;obtain ⟨h1, e⟩ := qG e;rw [zQM] at h1;obtain ⟨ki, i, j, hi, hj, e⟩ := q4C e
    obtain ⟨v, hv1, hv2, e⟩ : ∃ v : SV, v.enc = (qNG (j * s) x).enc ∧ v.ok h ∧ (K v).run = some r := by
     rcases e with e | e
     ·exact ⟨_, rfl, q0F hx, e⟩
     ·exact ⟨_, q00 h1.1, q85 hx, e⟩
    refine ⟨_, ?_, hv2, e⟩;rw [hi, hv1]
    cases x with
    | ref k o w => simp only [SV.enc, qNG, fvv, zA, ha, hs, hj, qPU h1.2, cond_true]
    | elt k g n w j o => simp only [SV.enc, qNG, fvv, zA, ha, hs, hj, qPZ hx h1.2, cond_true, zSM]
    | lp t xs j o => simp only [SV.enc, qNG, fvv, zA, ha, hs, hj, zSM]
    | _ => cases h1.1
   ·cases e
  ·cases e
def qZ9 (P : Program) (t : TypeId) (x ix : SV) (K : SV -> zIA R) : zIA R := match qYE P t, x with
 | some (n, el), .agg l => (match szT P el with
   | some s => zEI n ix fun j => match qHG P el l (j * s) with
     | some v => K v
     | none => .fail
   | none => .fail)
 | _, _ => .fail
theorem qZH {K : SV -> zIA R} (hx : x.ok h) (e : (qZ9 P t x ix K).run = some r) : ∃ v, qE2 P t x.enc ix.enc = some v.enc ∧ v.ok h ∧ (K v).run = some r ∧ ∃ l, x = .agg l := by
 unfold qZ9 at e;split at e
 ·rename_i n el l ha;split at e
  ·rename_i s hs;obtain ⟨ki, i, j, hi, hj, e⟩ := q65 e;split at e
   ·rename_i v hv;obtain ⟨h1, h2⟩ := qHQ (h := h) hv;simp only [SV.ok] at hx;refine ⟨v, ?_, h2 hx, e, l, rfl⟩;rw [hi];simp only [qE2, ha, SV.enc, fvv, hs, hj];exact h1
   ·cases e
  ·cases e
 ·cases e
def qGF (v : SV) (i : Nat) : Option SV := match v with
 | .tup l => (match zM l i with
   | some x => cond (pnt x.enc) (some x) none
   | none => none)
 | _ => none
theorem qMR (hx : x.ok h) (e : qGF x i = some v) : cK x.enc i = some v.enc ∧ v.ok h := by
 unfold qGF at e;split at e
 ·rename_i l;split at e
  ·rename_i y hy
   cases hp : pnt y.enc with
   | false => rw [hp] at e; cases e
   | true =>
     rw [hp] at e;cases e;simp only [SV.ok] at hx;refine ⟨?_, p8 hx hy⟩;simp only [cK, SV.enc, zF, hy, zQW, hp, cond_true]
  ·cases e
 ·cases e
def qC2 (fn : Fn) (first cap : List SV) : Option SV := match fn with
 | .func g => some (match first, cap with
   | [], [] => .c (.func (.func g) #[] #[])
   | _, _ => .fn g first cap)
 | _ => none
theorem qK7 {fn : Fn} {first cap : List SV} (h1 : okL h first) (h2 : okL h cap) (e : qC2 fn first cap = some v) : j5 fn (qA first) (qA cap) = some v.enc ∧ v.ok h := by
 unfold qC2 at e;split at e
 ·rename_i g;cases e
  cases first with
  | nil => cases cap with
    | nil => exact ⟨by simp [j5, qA, SV.enc], by simp [SV.ok]⟩
    | cons x l => exact ⟨by simp [j5, qA, SV.enc], by simp only [SV.ok]; exact ⟨h1, h2⟩⟩
  | cons y l => exact ⟨by simp [j5, qA, SV.enc], by simp only [SV.ok]; exact ⟨h1, h2⟩⟩
 ·cases e
end
end Go.Sv
namespace Go.Sv
open Go.Idl
variable {el : TypeId} {k : Nat} {t : Ty} {x : SV}
noncomputable section
variable [Gc]
variable [Yl]
variable {P : Program} {h : SH} {R : Type} {r : R}
def zFE (P : Program) (ts : Array TypeId) (x : SV) (h : SH) : Option SV := match ts[0]? with
 | some t => (match y9 P t with
   | some _ => (match x with
     | .d (.list _ _) xs => some (.d (.int .i64) ((List.length xs : Nat) : Int))
     | .c (.slice _ n _) => some (.c (.int .i64 (n : Int)))
     | .own k g n => (match slk k h.l with
       | some (.list _ _ g' _ _ _) => cond (Nat.beq g g') (some (.d (.int .i64) (n : Int))) none
       | _ => none)
     | .sl k g _ _ m => (match slk k h.l with
       | some (.list _ _ g' _ _ _) => cond (Nat.beq g g') (some (.d (.int .i64) (m : Int))) none
       | _ => none)
     | _ => none)
   | none => (match qYE P t with
     | some (n, _) => some (.c (.int .i64 (n : Int)))
     | none => none))
 | none => none
theorem q6F {ts : Array TypeId} {v : SV} (ho : OkH P h) (hx : x.ok h) (e : zFE P ts x h = some v) : q3M P ts x.enc (qH h.l) = some v.enc ∧ v.ok h := by
 unfold zFE at e;unfold q3M;split at e
 ·rename_i t ht;split at e
  ·rename_i el hel;split at e
   ·rename_i el' u xs;cases e;simp [ht, hel, SV.enc, Ty.fv, fvv, SV.ok]
   ·rename_i a n c;cases e;simp [ht, hel, SV.enc, fvv, SV.ok]
   ·rename_i k g n;split at e
    ·rename_i el' gr g' w u xs hk
     obtain ⟨h1, e1⟩ : Nat.beq g g' = true ∧ some (SV.d (.int .i64) (n : Int)) = some v := by
      cases hb : Nat.beq g g' with
      | false => rw [hb] at e; cases e
      | true => rw [hb] at e; exact ⟨rfl, e⟩
     cases e1;have hg : g = g' := zQN h1;subst hg;simp only [SV.ok] at hx;have hn := hx.2 _ _ _ _ _ hk;have hl := ho.list _ _ _ _ _ _ _ hk;refine ⟨?_, by simp [SV.ok]⟩;simp only [ht, hel, SV.enc, yI hk]
     show (match szT P el' with
      | some s => cond (Nat.beq (n * s) (SO.list el' gr g w u xs).enc.cs.length) (some (fvv (.int .i64 (n : Int)))) none
      | none => none) = _
     rw [hl.2.1];simp only [qZ, hn, nG, cond_true, Ty.fv, fvv]
    ·cases e
   ·rename_i k g n o m;split at e
    ·rename_i el' gr g' w u xs hk
     obtain ⟨h1, e1⟩ : Nat.beq g g' = true ∧ some (SV.d (.int .i64) (m : Int)) = some v := by
      cases hb : Nat.beq g g' with
      | false => rw [hb] at e; cases e
      | true => rw [hb] at e; exact ⟨rfl, e⟩
     cases e1;have hg : g = g' := zQN h1;subst hg;simp only [SV.ok] at hx;have hn := hx.1.2 _ _ _ _ _ hk;have hl := ho.list _ _ _ _ _ _ _ hk;refine ⟨?_, by simp [SV.ok]⟩;simp only [ht, hel, SV.enc, yI hk]
     show (match szT P el' with
      | some s => cond (Nat.beq (n * s) (SO.list el' gr g w u xs).enc.cs.length) (some (fvv (.int .i64 (m : Int)))) none
      | none => none) = _
     rw [hl.2.1];simp only [qZ, hn, nG, cond_true, Ty.fv, fvv]
    ·cases e
   ·cases e
  ·rename_i hel;split at e
   ·rename_i n el ha;cases e;simp [ht, hel, ha, SV.enc, SV.ok]
   ·cases e
 ·cases e
def qIC (u t : Ty) (xs : List u.sem) : Option (List t.sem) := if e : u = t then some (e ▸ xs) else none
omit [Yl] in
theorem oN {u : Ty} {xs : List u.sem} {ys : List t.sem} (e : qIC u t xs = some ys) : (⟨u, xs⟩ : (t : Ty) × List t.sem) = ⟨t, ys⟩ := by
 unfold qIC at e;split at e
 ·rename_i h;subst h;cases e;rfl
 ·cases e
def q1P (t : Ty) (x : SV) (h : SH) : Option (List t.sem) := match x with
 | .d (.list _ u) xs => qIC u t xs
 | .c (.slice none 0 _) => some []
 | .own k g _ => (match slk k h.l with
   | some (.list _ _ g' _ u xs) => cond (Nat.beq g g') (qIC u t xs) none
   | _ => none)
 | .sl k g _ o m => (match slk k h.l with
   | some (.list _ _ g' _ u xs) => cond (Nat.beq g g') (match qIC u t xs with
     | some xs => some ((xs.drop o).take m)
     | none => none) none
   | _ => none)
 | _ => none
theorem q2K {ys : List t.sem} (ho : OkH P h) (hx : x.ok h) (e : q1P t x h = some ys) : qMW P t.w x.enc (qH h.l) = some (ys.length, (ys.flatMap t.cells).map .f) := by
 unfold q1P at e;unfold qMW;split at e
 ·rename_i el u xs;cases oN e;simp only [SV.enc, Ty.fv, xP, nG, cond_true]
 ·cases e;simp [SV.enc, fvv]
 ·rename_i k g n;split at e
  ·rename_i el gr g' w u xs hk
   cases hb : Nat.beq g g' with
   | false => rw [hb] at e; cases e
   | true =>
     rw [hb] at e;have hg : g = g' := zQN hb;subst hg;cases oN e;simp only [SV.ok] at hx;have hn := hx.2 _ _ _ _ _ hk;have hl := ho.list _ _ _ _ _ _ _ hk;simp only [SV.enc, yI hk]
     show (match szT P el with
      | some s' => cond (Nat.beq (n * s') (SO.list el gr g w t ys).enc.cs.length && Nat.beq t.w s') (some (n, (((ys.flatMap t.cells).map PV.f).drop (0 * t.w)).take (n * t.w))) none
      | none => none) = _
     rw [hl.2.1];simp only [qZ, hn, nG, zRO, cond_true, zT6, zR3];rw [zRU (by rw [zQ7, xP]; exact zQO _)]
  ·cases e
 ·rename_i k g n o m;split at e
  ·rename_i el gr g' w u xs hk
   cases hb : Nat.beq g g' with
   | false => rw [hb] at e; cases e
   | true =>
     rw [hb] at e;have hg : g = g' := zQN hb;subst hg;simp only [cond_true] at e;split at e
     case h_2 => cases e
     rename_i xs2 zPP;cases e;cases oN zPP;simp only [SV.ok] at hx;have hn := hx.1.2 _ _ _ _ _ hk;have hl := ho.list _ _ _ _ _ _ _ hk;simp only [SV.enc, yI hk]
     show (match szT P el with
      | some s' => cond (Nat.beq (n * s') (SO.list el gr g w t xs2).enc.cs.length && Nat.beq t.w s') (some (m, (((xs2.flatMap t.cells).map PV.f).drop (o * t.w)).take (m * t.w))) none
      | none => none) = _
     rw [hl.2.1];simp only [qZ, hn, nG, zRO, cond_true];rw [<- zTF, <- zTG, bE, mV]
     congr 1
     have := hx.2;rw [zRS, zTK, zT2 (by omega)]
  ·cases e
 ·cases e
omit [Yl] in
theorem qZ4 (ys : List t.sem) : ((ys.flatMap t.cells).map PV.f).all p9 = true := by
 rw [zQR];intro x hx;obtain ⟨y, _, rfl⟩ := zQ9.1 hx;rfl
omit [Yl] in
theorem qHX {h0 : SH} {gr : Bool} {n m : Nat} {ty : Ty} {xs ys : List ty.sem} (hn : n = xs.length) (hm : m = ys.length) : (SV.own k h0.next (n + m)).ok (h0.new k fun v => .list el gr v v ty (xs ++ ys)) :=
 wH (by rw [zQ8, hn, hm])
def qOI (P : Program) (ts : List TypeId) (base x : SV) (k : Nat) (h : SH) (K : SV -> SH -> zIA R) : zIA R := match ts with
 | [st, xt] => (match y9 P st, y9 P xt with
   | some el, some _ => (match szT P el, qIQ P 8 el with
     | some (s + 1), some t => cond (Nat.beq t.w (s + 1) && uF P el) (match q1P t x h with
       | some ys => (match base with
         | .c (.slice none 0 0) => .ite (Nat.beq ys.length 0) (K base h)
            (.ite (Nat.ble (0 + ys.length) 1048576) (K (.own k h.next (0 + ys.length)) (h.new k fun v => .list el true v v t ([] ++ ys))) .fail)
         | .own j g n => (match slk j h.l with
           | some (.list el' gr g' _ u xs) => cond (Nat.beq el' el && Nat.beq g g') (match qIC u t xs with
             | some xs => .ite (Nat.beq ys.length 0) (K base h)
                (.ite (Nat.ble (n + ys.length) 1048576) (cond gr (K (.own j h.next (n + ys.length)) ((h.del j).new j fun v => .list el true v v t (xs ++ ys))) (K (.own k h.next (n + ys.length)) (h.new k fun v => .list el true v v t (xs ++ ys)))) .fail)
             | none => .fail) .fail
           | _ => .fail)
         | _ => .fail)
       | none => .fail) .fail
     | _, _ => .fail)
   | _, _ => .fail)
 | _ => .fail
omit [Yl] in
theorem qHK {xs ys : List t.sem} {ph : PHp} (h1 : Nat.ble (xs.length + ys.length) 1048576 = true) (h2 : uF P el = true) :
 qB8 P el t.w ((xs.flatMap t.cells).map .f) xs.length ((ys.flatMap t.cells).map .f) ys.length k ph = some (.own k (xs.length + ys.length) 0 (xs.length + ys.length), (k, ⟨el, true, ((xs ++ ys).flatMap t.cells).map .f⟩) :: ph) := by
 unfold qB8;rw [h1, h2, zQ7, xP, zQ7, xP, qZ4];simp only [nG, zRO, cond_true, qKE];rw [zUE, zRI]
theorem qST {ts : List TypeId} {base : SV} {K : SV -> SH -> zIA R} (ho : OkH P h) (hb : base.ok h) (hx : x.ok h) (e : (qOI P ts base x k h K).run = some r) :
 ∃ v h', gT P ts base.enc x.enc k (qH h.l) = some (v.enc, qH h'.l) ∧ Post P h h' v ∧ (K v h').run = some r := by
 unfold qOI at e;split at e
 ·rename_i st xt;split at e
  ·rename_i el el2 hel zM2;split at e
   ·rename_i s t hs hty;have e_ := qG e;clear e;obtain ⟨c1, e⟩ := e_;rw [zQM] at c1;have hw : s + 1 = t.w := (zQN c1.1).symm;split at e
    ·rename_i ys hys;have hnw := q2K ho hx hys;split at e
     ·have e_ := run_ite e;clear e
      rcases e_ with ⟨z, e⟩ | ⟨z, e⟩
      ·refine ⟨_, _, ?_, ⟨.refl _, ho, hb⟩, e⟩;simp only [gT, hel, zM2, hs, SV.enc, fvv];rw [hw, hnw];simp only [z, cond_true]
      ·have e_ := run_ite e;clear e
       rcases e_ with ⟨z2, e⟩ | ⟨z2, e⟩
       ·have hn := kX (k := k) (f := fun v => .list el true v v t ([] ++ ys)) ho ⟨rfl, rfl, by rw [hs]; exact congrArg some hw, by omega⟩;refine ⟨_, _, ?_, ⟨hn.1, hn.2, qHX (xs := []) rfl rfl⟩, e⟩;simp only [gT, hel, zM2, hs, SV.enc, fvv];rw [hw, hnw];simp only [z, cond_false];exact qHK (xs := []) z2 c1.2
       ·cases e
     ·rename_i j g n;split at e
      ·rename_i el' gr g' w u xs0 hk;have e_ := qG e;clear e;obtain ⟨c2, e⟩ := e_;rw [zQM] at c2;have he : el' = el := zQN c2.1;have hg : g = g' := zQN c2.2;split at e
       ·rename_i xs hxs;have hcast := oN hxs
        have hk2 : slk j h.l = some (.list el gr g w t xs) := by
         rw [hk, he, <- hg];cases hcast;rfl
        have hnl : n = xs.length := by
         simp only [SV.ok] at hb;exact hb.2 _ _ _ _ _ hk2
        have pre : ∀ z : PV × PHp, (cond (Nat.beq ys.length 0) (some (PV.own j n 0 n, qH h.l))
         (cond (Nat.ble (n + ys.length) n) (cond (Nat.beq ((ys.flatMap t.cells).map PV.f).length (ys.length * (s + 1)) && ((ys.flatMap t.cells).map PV.f).all p9) (some (PV.own j n 0 (n + ys.length), xN j { (SO.list el gr g w t xs).enc with cs := jC (SO.list el gr g w t xs).enc.cs (n * (s + 1)) ((ys.flatMap t.cells).map PV.f) } (qH h.l))) none)
           (cond gr (qB8 P el (s + 1) (SO.list el gr g w t xs).enc.cs n ((ys.flatMap t.cells).map PV.f) ys.length j (qG7 j (qH h.l))) (qB8 P el (s + 1) (SO.list el gr g w t xs).enc.cs n ((ys.flatMap t.cells).map PV.f) ys.length k (qH h.l))))) = some z ->
         gT P [st, xt] (SV.own j g n).enc x.enc k (qH h.l) = some z := fun z hz => by
         simp only [gT, hel, zM2, hs, SV.enc];rw [show qMW P (s + 1) x.enc (qH h.l) = _ from (hw ▸ hnw)];simp only [yI hk2];rw [show (SO.list el gr g w t xs).enc.el = el from rfl, show Nat.beq (n * (s + 1)) (SO.list el gr g w t xs).enc.cs.length = true by rw [qZ, hw, hnl]; exact nG _];simp only [nG, zRO, cond_true];exact hz
        have e_ := run_ite e;clear e
        rcases e_ with ⟨z, e⟩ | ⟨z, e⟩
        ·refine ⟨_, _, pre _ ?_, ⟨.refl _, ho, hb⟩, e⟩;rw [z]; simp [SV.enc]
        ·have e_ := run_ite e;clear e
         rcases e_ with ⟨z2, e⟩ | ⟨z2, e⟩
         ·have hpos : Nat.ble (n + ys.length) n = false := by
           cases hq : Nat.ble (n + ys.length) n with
           | false => rfl
           | true =>
             have h0 := zQ4 hq;have : ys.length = 0 := by omega
             rw [this] at z;cases z
          cases hgr : gr with
          | true =>
            rw [hgr] at e;have hd := rE (k := j) ho;have hn := kX (h := h.del j) (k := j) (f := fun v => .list el true v v t (xs ++ ys)) hd.2 ⟨rfl, rfl, by rw [hs]; exact congrArg some hw, by omega⟩;refine ⟨_, _, pre _ ?_, ⟨hd.1.trans hn.1, hn.2, qHX (h0 := h.del j) hnl rfl⟩, e⟩;rw [z, hpos, hgr];simp only [cond_true, cond_false];rw [hw, hnl];rw [hnl] at z2;rw [show (SO.list el true g w t xs).enc.cs = (xs.flatMap t.cells).map .f from rfl, qHK z2 c1.2, <- pM];rfl
          | false =>
            rw [hgr] at e;have hn := kX (h := h) (k := k) (f := fun v => .list el true v v t (xs ++ ys)) ho ⟨rfl, rfl, by rw [hs]; exact congrArg some hw, by omega⟩;refine ⟨_, _, pre _ ?_, ⟨hn.1, hn.2, qHX (h0 := h) hnl rfl⟩, e⟩;rw [z, hpos, hgr];simp only [cond_false];rw [hw, hnl];rw [hnl] at z2;rw [show (SO.list el false g w t xs).enc.cs = (xs.flatMap t.cells).map .f from rfl, qHK z2 c1.2];rfl
         ·cases e
       ·cases e
      ·cases e
     ·cases e
    ·cases e
   ·cases e
  ·cases e
 ·cases e
end
end Go.Sv
namespace Go.Sv
open Go.Idl
noncomputable section
variable [Gc]
variable [Yl]
variable {P : Program} {h : SH} {R : Type} {r : R}
def zGK {α : Type} (xs ys : List α) (o c : Nat) : List α := xs.take o ++ (ys.take c ++ xs.drop (o + c))
def zG7 (P : Program) (ts : List TypeId) (base x : SV) (h : SH) (K : SV -> SH -> zIA R) : zIA R := match ts with
 | [st, xt] => (match y9 P st, y9 P xt with
   | some el, some _ => (match szT P el, qIQ P 8 el with
     | some (s + 1), some t => cond (Nat.beq t.w (s + 1)) (match q1P t x h with
       | some ys => (match base with
         | .own j g n => (match slk j h.l with
           | some (.list el' gr g' _ u xs) => cond (Nat.beq el' el && Nat.beq g g') (match qIC u t xs with
             | some xs => K (.d (.int .i64) ((Nat.min ys.length n : Nat) : Int)) (h.put j fun v => .list el gr g v t (zGK xs ys 0 (Nat.min ys.length n)))
             | none => .fail) .fail
           | _ => .fail)
         | .sl j g n o m => (match slk j h.l with
           | some (.list el' gr g' _ u xs) => cond (Nat.beq el' el && Nat.beq g g') (match qIC u t xs with
             | some xs => K (.d (.int .i64) ((Nat.min ys.length m : Nat) : Int)) (h.put j fun v => .list el gr g v t (zGK xs ys o (Nat.min ys.length m)))
             | none => .fail) .fail
           | _ => .fail)
         | .d (.list _ _) xs => .ite (Nat.beq (List.length xs) 0) (K (.d (.int .i64) 0) h) .fail
         | .c (.slice none 0 _) => K (.d (.int .i64) 0) h
         | _ => .fail)
       | none => .fail) .fail
     | _, _ => .fail)
   | _, _ => .fail)
 | _ => .fail
def zF4 (most : Nat) (i : Int) : Option Nat := if 0 <= i ∧ i <= (most : Int) then some i.toNat else none
def qUI (d most : Nat) (x : Option SV) (K : Nat -> zIA R) : zIA R := match x with
 | none => K d
 | some v => (match asI v with
   | some (_, i) => .bind (zF4 most i) K
   | none => .fail)
theorem uQ {d most : Nat} {x : Option SV} {K : Nat -> zIA R} (e : (qUI d most x K).run = some r) : ∃ n, bnd d most (x.map SV.enc) = some n ∧ (n = d ∨ n <= most) ∧ (K n).run = some r := by
 unfold qUI at e;split at e
 ·exact ⟨d, rfl, .inl rfl, e⟩
 ·rename_i v;split at e
  ·rename_i k i hi;have e_ := run_bind e;clear e;obtain ⟨n, hn, e⟩ := e_;refine ⟨n, ?_, .inr ?_, e⟩
   ·simp only [zQW, xX hi, fvv, bnd]; exact hn
   ·unfold zF4 at hn;split at hn
    ·cases hn; omega
    ·cases hn
  ·cases e
def qYI (P : Program) (t : TypeId) (x : SV) (lo hi : Option SV) (h : SH) (K : SV -> zIA R) : zIA R := match x with
 | .d (.list el u) xs => (match y9 P t, szT P el with
   | some el', some s => cond (Nat.beq el' el && Nat.beq s u.w) (qUI (List.length xs) (List.length xs) hi fun b => qUI 0 b lo fun a => K (.d (.list el u) ((List.drop a xs).take (b - a)))) .fail
   | _, _ => .fail)
 | .c (.slice none 0 0) => (match y9 P t with
   | some el => cond (szT P el).isSome (qUI 0 0 hi fun _ => qUI 0 0 lo fun _ => K x) .fail
   | none => .fail)
 | .own k g n => (match y9 P t, slk k h.l with
   | some el', some (.list el _ g' _ u _) => cond (Nat.beq el' el && Nat.beq g g') (qUI n n hi fun b => qUI 0 b lo fun a =>
      .ite (Nat.beq a 0) (K (.sl k g n 0 b)) (.ite (Nat.beq a b) (K (.d (.list el u) [])) (K (.sl k g n a (b - a))))) .fail
   | _, _ => .fail)
 | .sl k g n o m => (match y9 P t, slk k h.l with
   | some el', some (.list el _ g' _ u _) => cond (Nat.beq el' el && Nat.beq g g') (qUI m m hi fun b => qUI 0 b lo fun a =>
      .ite (Nat.beq a 0) (K (.sl k g n o b)) (.ite (Nat.beq a b) (K (.d (.list el u) [])) (K (.sl k g n (o + a) (b - a))))) .fail
   | _, _ => .fail)
 | _ => .fail
theorem qYA {t : TypeId} {x : SV} {lo hi : Option SV} {K : SV -> zIA R} (ho : OkH P h) (hx : x.ok h) (e : (qYI P t x lo hi h K).run = some r) :
 ∃ v, wR P t x.enc (lo.map SV.enc) (hi.map SV.enc) (qH h.l) = some v.enc ∧ v.ok h ∧ (K v).run = some r := by
 unfold qYI at e
 have key : ∀ {k g n o m w : Nat} {gr : Bool} {el el' : TypeId} {u : Ty} {xs : List u.sem}, slk k h.l = some (.list el gr g w u xs) -> n = xs.length -> o + m <= n -> g < h.next -> y9 P t = some el' -> Nat.beq el' el = true ->
  ∀ a b, bnd m m (hi.map SV.enc) = some b -> b <= m -> bnd 0 b (lo.map SV.enc) = some a -> a <= b ->
  (zIA.ite (Nat.beq a 0) (K (.sl k g n o b)) (.ite (Nat.beq a b) (K (.d (.list el u) [])) (K (.sl k g n (o + a) (b - a))))).run = some r ->
  ∃ v, wR P t (.own k n o m) (lo.map SV.enc) (hi.map SV.enc) (qH h.l) = some v.enc ∧ v.ok h ∧ (K v).run = some r := by
  intro k g n o m w gr el el' u xs hk hn hom hg hel hbe a b hb hbm ha hab e;have hl := ho.list _ _ _ _ _ _ _ hk
  have pre : wR P t (.own k n o m) (lo.map SV.enc) (hi.map SV.enc) (qH h.l) = some (cond (Nat.beq a 0) (.own k n o b) (cond (Nat.beq a b) (.f (.l el 0 [])) (.own k n (o + a) (b - a)))) := by
   simp only [wR, yI hk, hel];rw [show (SO.list el gr g w u xs).enc.el = el from rfl, hl.2.1, hb];simp only [ha, qZ, hn, nG, hbe, zRO, cond_true]
  have hsl : q3B h k g n := ⟨hg, fun el2 gr2 w2 t2 xs2 hk2 => by
   rw [hk] at hk2;cases hk2
   exact hn⟩
  rw [pre]
  rcases run_ite e with ⟨z, e⟩ | ⟨z, e⟩
  ·exact ⟨_, by rw [z]; simp [SV.enc], by simp only [SV.ok]; exact ⟨hsl, by omega⟩, e⟩
  ·rcases run_ite e with ⟨z2, e⟩ | ⟨z2, e⟩
   ·exact ⟨_, by rw [z, z2]; simp [SV.enc, Ty.fv], by simp [SV.ok], e⟩
   ·exact ⟨_, by rw [z, z2]; simp [SV.enc], by simp only [SV.ok]; exact ⟨hsl, by omega⟩, e⟩
 split at e
 ·rename_i el u xs;split at e
  ·rename_i el' s hel hs;have e_ := qG e;clear e;obtain ⟨c1, e⟩ := e_;rw [zQM] at c1;have hw : s = u.w := zQN c1.2;have he : el' = el := zQN c1.1;subst hw he;obtain ⟨b, hb, hb2, e1⟩ := uQ e;obtain ⟨a, ha, ha2, e2⟩ := uQ e1;have hbl : b <= xs.length := by rcases hb2 with q | q <;> omega
   have hab : a <= b := by rcases ha2 with q | q <;> omega
   refine ⟨_, ?_, by simp [SV.ok], e2⟩;simp only [SV.enc, Ty.fv, wR, hel, hs, hb, ha, nG, xP, zRO, cond_true];rw [bE, mV]
   cases hq : Nat.beq a b with
   | true =>
     have : a = b := zQN hq;subst this;simp
   | false =>
     simp only [cond_false, zRS, zTK];rw [zT2 (by omega)]
  ·cases e
 ·split at e
  ·rename_i el hel;have e_ := qG e;clear e;obtain ⟨c1, e⟩ := e_;obtain ⟨b, hb, hb2, e1⟩ := uQ e;obtain ⟨a, ha, ha2, e2⟩ := uQ e1;refine ⟨_, ?_, by simp [SV.ok], e2⟩;have hb' : bnd 0 0 (hi.map SV.enc) = some b := hb;simp only [SV.enc, fvv, wR, hel, hb', ha, c1, cond_true]
  ·cases e
 ·rename_i k g n;split at e
  ·rename_i el' el gr g' w u xs hel hk;have e_ := qG e;clear e;obtain ⟨c1, e⟩ := e_;rw [zQM] at c1;have hg : g = g' := zQN c1.2;subst hg;obtain ⟨b, hb, hb2, e1⟩ := uQ e;obtain ⟨a, ha, ha2, e2⟩ := uQ e1;simp only [SV.ok] at hx;refine key hk (hx.2 _ _ _ _ _ hk) (by omega) hx.1 hel c1.1 a b hb (by rcases hb2 with q | q <;> omega) ha (by rcases ha2 with q | q <;> omega) ?_;rw [zRK]; exact e2
  ·cases e
 ·rename_i k g n o m;split at e
  ·rename_i el' el gr g' w u xs hel hk;have e_ := qG e;clear e;obtain ⟨c1, e⟩ := e_;rw [zQM] at c1;have hg : g = g' := zQN c1.2;subst hg;obtain ⟨b, hb, hb2, e1⟩ := uQ e;obtain ⟨a, ha, ha2, e2⟩ := uQ e1;simp only [SV.ok] at hx;exact key hk (hx.1.2 _ _ _ _ _ hk) hx.2 hx.1.1 hel c1.1 a b hb (by rcases hb2 with q | q <;> omega) ha (by rcases ha2 with q | q <;> omega) e2
  ·cases e
 ·cases e
end
end Go.Sv
namespace Go.Sv
open Go.Idl
variable [Gc]
variable {P : Program} {t t2 : TypeId} {a b : ByteArray} {ph : PHp}
theorem dG {v : Value} (h3 : qLK v = true) (h4 : ofC v = fvv v) : qYQ (qB5 H00 v) = some (fvv v) := by
 unfold qB5;rw [h3];show some (ofC v) = _;rw [h4]
theorem qOA {op : BinOp} {v : Value} (h1 : zIR P (cop (.binOp op t (.const (.string a)) (.const (.string b)) t2)) op t (.string a) (.string b) [] H00 = kW P (cop (.binOp op t (.const (.string a)) (.const (.string b)) t2)) [] H00)
 (h2 : yV P (execOp (Env.val []) (cop (.binOp op t (.const (.string a)) (.const (.string b)) t2))) = some (.value v)) (h3 : qLK v = true) (h4 : ofC v = fvv v) : bJ P op t t2 (fvv (.string a)) (fvv (.string b)) ph = some (fvv v) := by
 unfold bJ;simp only [fvv, pl, zDG, cond_false];show qYQ (zIR P _ op t (.string a) (.string b) [] H00) = _;rw [h1];unfold kW;have : zW (kV (Env.val []) (cop (.binOp op t (.const (.string a)) (.const (.string b)) t2)).op.operands.toList) = true := rfl;rw [if_pos this, h2];exact dG h3 h4
theorem q7J (hl : a.size + b.size <= 9223372036854775807) : bJ P .add t t2 (fvv (.string a)) (fvv (.string b)) ph = some (fvv (.string (a ++ b))) := by
 refine qOA rfl ?_ rfl rfl;have hm : IntKind.i64.max = 9223372036854775807 := rfl;have : ¬ (((a.size + b.size : Nat) : Int) > IntKind.i64.max) := by rw [hm]; omega
 show yV P (do eqGuard .add t (.const (.string a)) (.const (.string b)) (.string a) (.string b); let v <- Op.stringOp .add a b; pure (Next.value v)) = _;unfold Op.stringOp;simp only [this, if_false];rfl
theorem q69 : bJ P .eql t t2 (fvv (.string a)) (fvv (.string b)) ph = some (fvv (.bool (a.toList == b.toList))) := qOA rfl rfl rfl rfl
theorem q71 : bJ P .neq t t2 (fvv (.string a)) (fvv (.string b)) ph = some (fvv (.bool (!(a.toList == b.toList)))) := qOA rfl rfl rfl rfl
theorem dB {α β : Type} (s : Sem α) (g : α -> Sem β) : yV P (s >>= g) = (yV P s).bind fun a => yV P (g a) := j6 g s
theorem dP {α : Type} (a : α) : yV P (pure a : Sem α) = some a := rfl
theorem q2I {ts : Array TypeId} (hs : q0X P ts = true) : ∃ t, ts[0]? = some t ∧ P.underlying t = some .string := by
 unfold q0X at hs
 cases h0 : ts[0]? with
 | none => rw [h0] at hs; cases hs
 | some t =>
   rw [h0] at hs;simp only [zRE] at hs;split at hs
   ·rename_i hq; exact ⟨t, rfl, hq⟩
   ·cases hs
theorem zDE {t : TypeId} {ts : Array TypeId} {ty : TypeId} (h0 : ts[0]? = some t) (hu : P.underlying t = some .string) : yV P (Go.Builtin.len_ ts ty #[.string a]) = some (goInt a.size) := by
 unfold Go.Builtin.len_;simp only [h0, dB, yB, hu, zRE, zTO, zRJ];rfl
theorem qRG {x : Operand} {ts : Array TypeId} {ty : TypeId} {env : Env} (hs : q0X P ts = true) (hx : env.val x = .string a) :
 qYQ (kW P (cop (.call ⟨.builtin .len, #[x], ts⟩) ty) env H00) = some (fvv (.int .i64 (a.size : Int))) := by
 have h2 : kV env.val (cop (.call ⟨.builtin .len, #[x], ts⟩) ty).op.operands.toList = [env.val x] := rfl;unfold kW;rw [h2];obtain ⟨t, h0, hu⟩ := q2I hs;have hp : zW [env.val x] = true := by rw [hx]; rfl
 rw [if_pos hp]
 have he : yV P (execOp env.val (cop (.call ⟨.builtin .len, #[x], ts⟩) ty)) = some (.value (goInt a.size)) := by
  simp only [cop, execOp, resolve, List.map_toArray, zQ0, zTC, hx];show yV P (do let v <- Go.Builtin.len_ ts ty #[.string a]; pure (Next.value v)) = _;rw [dB, zDE h0 hu]; rfl
 rw [he];exact dG rfl rfl
def q6B (s : ByteArray) (i : Int) : Option Int := if 0 <= i then (s[i.toNat]?).map fun b => (b.toNat : Int) else none
theorem q1T {t : TypeId} {s : ByteArray} {k : IntKind} {i c : Int} {ty : TypeId} (hu : P.underlying t = some .string) (h : q6B s i = some c) : qN9 P (.index t (.const (.string s)) (.const (.int k i))) ty = some (fvv (.int .u8 c)) := by
 unfold qN9 kW;have hp : zW (kV (Env.val []) (cop (.index t (.const (.string s)) (.const (.int k i))) ty).op.operands.toList) = true := rfl;rw [if_pos hp]
 have he : yV P (execOp (Env.val []) (cop (.index t (.const (.string s)) (.const (.int k i))) ty)) = some (.value (.int .u8 c)) := by
  show yV P (do let v <- Instr.index t (.string s) (.int k i); pure (Next.value v)) = _;unfold q6B at h;split at h
  ·rename_i hc;obtain ⟨b, hb, rfl⟩ := zQY.1 h;unfold Instr.index;simp only [dB, yB, hu, zRE];have h0 : yV P (asIntOf (.int k i)) = some (k, i) := rfl;rw [h0];simp only [zRE, if_pos hc, hb, dP]
  ·cases h
 rw [he];exact dG rfl rfl
theorem qAX {k : IntKind} {i : Int} {y n : Nat} {code : BoundsCode} (h : (if 0 <= i ∧ i <= (y : Int) then some i.toNat else none) = some n) : yV P (Instr.sliceBound (.int k i) y code) = some n := by
 unfold Instr.sliceBound;rw [dB];have h0 : yV P (asIntOf (.int k i)) = some (k, i) := rfl;rw [h0];simp only [zRE];split at h
 ·rename_i hc;rw [if_pos hc];cases h; rfl
 ·cases h
theorem qW8 {d most n : Nat} {x : Option PV} (h : bnd d most x = some n) : (x = none ∧ n = d) ∨ ∃ k i, x = some (fvv (.int k i)) ∧ (if 0 <= i ∧ i <= (most : Int) then some i.toNat else none) = some n := by
 unfold bnd at h;split at h
 ·cases h; exact .inl ⟨rfl, rfl⟩
 ·rename_i k i; exact .inr ⟨k, i, rfl, h⟩
 ·cases h
theorem q3A {t : TypeId} {s : ByteArray} {lo hi : Option Operand} {l u : Nat} {env : List PV} {ty : TypeId} (hu : P.underlying t = some .string) (h1 : bnd s.size s.size (hi.map (qN env)) = some u) (h2 : bnd 0 u (lo.map (qN env)) = some l) :
 qN9 P (.slice t (.const (.string s)) (lo.map fun a => .const ((pl (qN env a)).getD undef)) (hi.map fun a => .const ((pl (qN env a)).getD undef)) none) ty = some (fvv (.string (s.extract l u))) := by
 have opt : ∀ {o : Option Operand} {d most n : Nat}, bnd d most (o.map (qN env)) = some n -> (o = none ∧ n = d) ∨ ∃ k i, (o.map fun a => Operand.const ((pl (qN env a)).getD undef)) = some (.const (.int k i)) ∧ (if 0 <= i ∧ i <= (most : Int) then some i.toNat else none) = some n := fun {o d most n} h => by
  rcases qW8 h with ⟨q, e⟩ | ⟨k, i, q, e⟩
  ·cases o with
   | none => exact .inl ⟨rfl, e⟩
   | some a => cases q
  ·cases o with
   | none => cases q
   | some a =>
     have q : qN env a = fvv (.int k i) := by simpa using q
     exact .inr ⟨k, i, by simp [q, fvv, pl], e⟩
 unfold qN9 kW
 have hk : ∀ (lo' hi' : Option Operand) (vl vh : Option Value), lo'.map (Env.val []) = vl -> hi'.map (Env.val []) = vh -> zW (kV (Env.val []) (cop (.slice t (.const (.string s)) lo' hi' none) ty).op.operands.toList) = true ->
  yV P (Instr.sliceBounds false s.size s.size vl vh none) = some (l, u, s.size) -> qYQ (if zW (kV (Env.val []) (cop (.slice t (.const (.string s)) lo' hi' none) ty).op.operands.toList) = true then qF5 H00 (yV P (execOp (Env.val []) (cop (.slice t (.const (.string s)) lo' hi' none) ty))) else none) = some (fvv (.string (s.extract l u))) := by
  intro lo' hi' vl vh e1 e2 hp hb;rw [if_pos hp]
  have he : yV P (execOp (Env.val []) (cop (.slice t (.const (.string s)) lo' hi' none) ty)) = some (.value (.string (s.extract l u))) := by
   show yV P (do let v <- Instr.sliceAt t (.string s) (lo'.map (Env.val [])) (hi'.map (Env.val [])) none; pure (Next.value v)) = _;rw [e1, e2];unfold Instr.sliceAt;simp only [dB, yB, hu, zRE];unfold Instr.slice;simp only [dB, yB, hu, zRE];simp only [zUL, zSV, if_false, dB, hb, zRE, dP]
  rw [he];exact dG rfl rfl
 have hB : ∀ (vl vh : Option Value), (vh = none ∧ u = s.size ∨ ∃ k i, vh = some (.int k i) ∧ (if 0 <= i ∧ i <= (s.size : Int) then some i.toNat else none) = some u) -> (vl = none ∧ l = 0 ∨ ∃ k i, vl = some (.int k i) ∧ (if 0 <= i ∧ i <= (u : Int) then some i.toNat else none) = some l) ->
  yV P (Instr.sliceBounds false s.size s.size vl vh none) = some (l, u, s.size) := by
  intro vl vh a b;unfold Instr.sliceBounds;rcases a with ⟨rfl, rfl⟩ | ⟨k, i, rfl, ha⟩ <;> rcases b with ⟨rfl, rfl⟩ | ⟨k', i', rfl, hb⟩ <;> simp only [dB, dP, zRE, zUL, zSV, if_false]
  ·rw [qAX hb]; rfl
  ·rw [qAX ha]; rfl
  ·rw [qAX ha]; simp only [zRE]; rw [qAX hb]; rfl
 rcases opt h1 with ⟨rfl, e1⟩ | ⟨k, i, e1, f1⟩ <;> rcases opt h2 with ⟨rfl, e2⟩ | ⟨k', i', e2, f2⟩
 ·exact hk none none none none rfl rfl rfl (hB _ _ (.inl ⟨rfl, e1⟩) (.inl ⟨rfl, e2⟩))
 ·rw [e2]; exact hk _ none _ none rfl rfl rfl (hB _ _ (.inl ⟨rfl, e1⟩) (.inr ⟨k', i', rfl, f2⟩))
 ·rw [e1]; exact hk none _ none _ rfl rfl rfl (hB _ _ (.inr ⟨k, i, rfl, f1⟩) (.inl ⟨rfl, e2⟩))
 ·rw [e1, e2]; exact hk _ _ _ _ rfl rfl rfl (hB _ _ (.inr ⟨k, i, rfl, f1⟩) (.inr ⟨k', i', rfl, f2⟩))
theorem q8D {s d : TypeId} {k k' : IntKind} {x : Int} {u : TypeDesc} (hs : P.underlying s = some u) (hd : P.underlying d = some (.int k')) : aO P (fun a => .convert s d a) (fvv (.int k x)) = some (fvv (.int k' (k'.wrap x))) := by
 have hl : pl (fvv (.int k x)) = some (.int k x) := rfl;unfold aO;rw [hl];unfold qN9 kW;have hp : zW (kV (Env.val []) (cop (.convert s d (.const (.int k x)))).op.operands.toList) = true := rfl;simp only [hp, if_true]
 have he : yV P (execOp (Env.val []) (cop (.convert s d (.const (.int k x))))) = some (.value (.int k' (k'.wrap x))) := by
  show yV P (do let v <- convert s d (.int k x); pure (Next.value v)) = _;unfold convert;simp only [dB, yB, hs, hd, zRE];rfl
 rw [he];exact dG rfl rfl
theorem q04 {s d : TypeId} {x : ByteArray} {u : TypeDesc} (hs : P.underlying s = some u) (hd : P.underlying d = some .string) : aO P (fun a => .convert s d a) (fvv (.string x)) = some (fvv (.string x)) := by
 have hl : pl (fvv (.string x)) = some (.string x) := rfl;unfold aO;rw [hl];unfold qN9 kW;have hp : zW (kV (Env.val []) (cop (.convert s d (.const (.string x)))).op.operands.toList) = true := rfl;simp only [hp, if_true]
 have he : yV P (execOp (Env.val []) (cop (.convert s d (.const (.string x))))) = some (.value (.string x)) := by
  show yV P (do let v <- convert s d (.string x); pure (Next.value v)) = _;unfold convert;simp only [dB, yB, hs, hd, zRE];cases u <;> rfl
 rw [he];exact dG rfl rfl
end Go.Sv
namespace Go.Sv
open Go.Idl
noncomputable section
variable [Gc]
variable [Yl]
variable {P : Program} {h : SH} {R : Type} {r : R}
def qES : SV -> Option Value
 | .d (.int k) x => some (.int k x)
 | .d .bool x => some (.bool x)
 | .d .str x => some (.string x)
 | .c v => some v
 | _ => none
theorem sJ {v : SV} {a : Value} (e : qES v = some a) : v.enc = fvv a := by
 unfold qES at e;split at e <;> cases e <;> simp [SV.enc, Ty.fv, fvv]
def qGG : List SV -> Option (List Value)
 | [] => some []
 | v :: l => match qES v, qGG l with
   | some a, some b => some (a :: b)
   | _, _ => none
def gW : SV -> Option Value
 | .agg l => (match qGG l with
   | some vs => some (.agg vs.toArray)
   | none => none)
 | v => qES v
theorem qFH : ∀ {l : List SV} {vs : List Value}, qGG l = some vs -> qZD (qA l) = some vs
 | [], vs, e => by cases e; simp [qA, qZD]
 | v :: l, vs, e => by
   unfold qGG at e;split at e
   ·rename_i a b ha hb;cases e;simp only [qA, sJ ha, fvv, qZD, pl1, qFH hb]
   ·cases e
theorem jM {v : SV} {a : Value} (e : gW v = some a) : pl v.enc = some a := by
 unfold gW at e;split at e
 ·rename_i l;split at e
  ·rename_i vs hvs;cases e;simp only [SV.enc, pl, qFH hvs]
  ·cases e
 ·rw [sJ e];rfl
def zF7 (op : BinOp) (a b : ByteArray) (K : SV -> zIA R) (F : zIA R) : zIA R := match op with
 | .add => .ite (Nat.ble (a.size + b.size) 9223372036854775807) (K (.d .str (a ++ b))) .fail
 | .eql => K (.d .bool (a.toList == b.toList))
 | .neq => K (.d .bool (!(a.toList == b.toList)))
 | _ => F
def qQY (P : Program) (t : TypeId) : Bool := match P.underlying t with
 | some .string => true
 | _ => false
omit [Yl] in
theorem qE8 {t : TypeId} (e : qQY P t = true) : P.underlying t = some .string := by
 unfold qQY at e;split at e
 ·assumption
 ·cases e
def qOX (P : Program) (t : TypeId) (s : ByteArray) (ix : SV) (K : SV -> zIA R) : zIA R := match asI ix with
 | some (_, i) => cond (qQY P t) (.bind (q6B s i) fun c => K (.d (.int .u8) c)) .fail
 | none => .fail
def qUL (P : Program) (t : TypeId) (s : ByteArray) (lo hi : Option SV) (K : SV -> zIA R) : zIA R :=
 cond (qQY P t) (qUI s.size s.size hi fun b => qUI 0 b lo fun a => K (.d .str (s.extract a b))) .fail
def q13 (P : Program) (s d : TypeId) (x : SV) (K : SV -> zIA R) (F : zIA R) : zIA R := match P.underlying s, P.underlying d with
 | some _, some (.int k') => (match asI x with
   | some (_, a) => K (.d (.int k') (k'.wrap a))
   | none => F)
 | some _, some .string => (match asS x with
   | some a => K (.d .str a)
   | none => F)
 | _, _ => F
def Ty.vals : (t : Ty) -> List Value -> Option (t.sem × List Value)
 | .int k, .int k' x :: l => cond (decide (k' = k)) (some (x, l)) none
 | .bool, .bool x :: l => some (x, l)
 | .str, .string x :: l => some (x, l)
 | .unit, l => some ((), l)
 | .pair a b, l => match a.vals l with
   | some (x, l1) => (match b.vals l1 with
     | some (y, l2) => some ((x, y), l2)
     | none => none)
   | none => none
 | _, _ => none
def Ty.ofV (t : Ty) (v : Value) : Option t.sem := cond t.one (match t.vals [v] with
 | some (x, []) => some x
 | _ => none) (match v with
 | .agg a => (match t.vals a.toList with
   | some (x, []) => some x
   | _ => none)
 | _ => none)
def q4K (t : Ty) (x : t.sem) : SV := cond t.one (.d t x) (.agg (t.svs x))
omit [Yl] in
theorem qB9 (t : Ty) (x : t.sem) : (q4K t x).ok h := by
 unfold q4K
 cases t.one with
 | true => simp [SV.ok]
 | false => simp only [cond_false, SV.ok]; exact qK8 t x
omit [Yl] in
theorem qI9 : ∀ {a b : List Value}, yY okC a = true -> yY okC b = true -> yY okC (a ++ b) = true
 | [], _, _, h => h
 | x :: a, b, h1, h2 => by
   rw [xJ, zQM] at h1;rw [zTL, xJ, h1.1, qI9 h1.2 h2]; rfl
omit [Yl] in
theorem bR : ∀ {t : Ty} {l l' : List Value} {x : t.sem}, t.vals l = some (x, l') -> ∃ us, l = us ++ l' ∧ yY okC us = true ∧ kV fvv us = (t.cells x).map PV.f
 | .int k, l, l', x, e => by
   cases l with
   | nil => cases e
   | cons v l =>
     cases v <;> try (cases e; done)
     rename_i k' y;have e : cond (decide (k' = k)) (some ((y : Int), l)) none = some (x, l') := e
     cases hk : decide (k' = k) with
     | false => rw [hk] at e; cases e
     | true =>
       rw [hk] at e;cases e;have : k' = k := by simpa using hk
       subst this;exact ⟨[.int k' x], rfl, rfl, rfl⟩
 | .bool, l, l', x, e => by
   cases l with
   | nil => cases e
   | cons v l =>
     cases v <;> try (cases e; done)
     cases e;exact ⟨[.bool x], rfl, rfl, rfl⟩
 | .str, l, l', x, e => by
   cases l with
   | nil => cases e
   | cons v l =>
     cases v <;> try (cases e; done)
     cases e;exact ⟨[.string x], rfl, rfl, rfl⟩
 | .unit, l, l', x, e => by
   have e : some ((), l) = some ((), l') := by cases l <;> exact e
   cases e;exact ⟨[], rfl, rfl, rfl⟩
 | .list _ _, l, l', x, e => by cases l <;> cases e
 | .raw, l, l', x, e => by cases l <;> cases e
 | .pair a b, l, l', x, e => by
   have e : (match a.vals l with
    | some (x, l1) => (match b.vals l1 with
      | some (y, l2) => some ((x, y), l2)
      | none => none)
    | none => none) = some (x, l') := by cases l <;> exact e
   split at e
   ·rename_i x1 l1 h1;split at e
    ·rename_i y l2 h2;cases e;obtain ⟨us, rfl, u1, u2⟩ := bR h1;obtain ⟨ws, rfl, w1, w2⟩ := bR h2;refine ⟨us ++ ws, by rw [zRW], ?_, ?_⟩
     ·exact qI9 u1 w1
     ·show _ = (a.cells x1 ++ b.cells y).map PV.f;rw [y7] at u2 w2 ⊢;rw [zRI, zRI, u2, w2]
    ·cases e
   ·cases e
theorem rO {t : Ty} {v : Value} {x : t.sem} (e : t.ofV v = some x) : ofC v = (q4K t x).enc := by
 unfold Ty.ofV at e;unfold q4K
 cases ht : t.one with
 | true =>
   rw [ht] at e;simp only [cond_true] at e ⊢;split at e
   ·rename_i y hy;cases e;obtain ⟨us, h1, h2, h3⟩ := bR hy;rw [zSK] at h1;subst h1;rw [Ty.cells_one ht] at h3
    have h3 : fvv v = .f (t.fv x) := by
     have : kV fvv [v] = [fvv v] := rfl;rw [this] at h3;simpa using h3
    have h2 : okC v = true := by
     rw [xJ, zQM] at h2; exact h2.1
    have : ofC v = fvv v := by
     unfold okC at h2;rw [zQM] at h2
     cases v <;> first | (exact absurd h2.2 (by decide)) | skip
     all_goals first | (show q83 _ = _; unfold q83 okC; simp [h2.1, h2.2]) | (simp [oneCell] at h2)
    rw [this, h3]; simp [SV.enc]
   ·cases e
 | false =>
   rw [ht] at e;simp only [cond_false] at e ⊢;split at e
   ·rename_i a;split at e
    ·rename_i y hy;cases e;obtain ⟨us, h1, h2, h3⟩ := bR hy;rw [zSK] at h1;show cond (yY okC a.toList) (PV.agg (kV fvv a.toList)) .unk = _;rw [h1, h2, h3];simp only [cond_true, SV.enc, bH]
    ·cases e
   ·cases e
def smp (x : SV) (h : SH) : Option (Nat × List (Value × Value)) := match x with
 | .mp k => (match slk k h.l with
   | some (.spc _ (.map es)) => some (k, es)
   | _ => none)
 | _ => none
omit [Yl] in
theorem vB : ∀ (n : Nat) (es : List (Value × Value)) (i : Nat), (zP n es)[i]? = (es[i]?).map fun p => (⟨p.1, p.2, n + i⟩ : MapEntry)
 | n, [], i => by simp [zP]
 | n, p :: es, 0 => by simp [zP]
 | n, p :: es, i + 1 => by
   show (zP (n + 1) es)[i]? = _;rw [vB (n + 1) es i];have : n + 1 + i = n + (i + 1) := by omega
   rw [this]; simp
omit [Yl] in
theorem nS : ∀ (n : Nat) (es : List (Value × Value)), (zP n es).length = es.length
 | n, [] => rfl
 | n, p :: es => by
   show (zP (n + 1) es).length + 1 = _;rw [nS, zRB]
omit [Yl] in
theorem nR : ∀ (n : Nat) (es : List (Value × Value)) (k v : Value), zP n (es ++ [(k, v)]) = zP n es ++ [⟨k, v, n + es.length⟩]
 | n, [], k, v => rfl
 | n, p :: es, k, v => by
   show _ :: zP (n + 1) (es ++ [(k, v)]) = _;rw [nR (n + 1) es k v];show _ = _ :: (zP (n + 1) es ++ _);rw [zRB];have : n + 1 + es.length = n + (es.length + 1) := by omega
   rw [this]
omit [Yl] in
theorem oI (es : List (Value × Value)) (i : Nat) (k v : Value) (f : MapEntry -> MapEntry) (hf : ∀ p, es[i]? = some p -> f ⟨p.1, p.2, i⟩ = ⟨k, v, i⟩) : zP 0 (es.set i (k, v)) = (zP 0 es).modify i f := by
 apply zRC;intro j;rw [vB, zU5, vB, zRD, zRK];by_cases hij : i = j
 ·subst hij;rw [if_pos rfl];simp only [if_true]
  cases he : es[i]? with
  | none =>
    have : ¬ i < es.length := fun hl => by rw [zQP hl] at he; cases he
    rw [if_neg this]; rfl
  | some p =>
    have := (zQQ.1 he).1;rw [if_pos this];simp [hf p he]
 ·rw [if_neg hij];simp only [if_neg hij];cases es[j]? <;> rfl
theorem qMY {x : SV} {k : Nat} {es : List (Value × Value)} (hs : spec P 1000000001 = true) (e : smp x h = some (k, es)) : wJ P x.enc (qH h.l) = some (k, (SpO.map es).enc, es.length, zP 0 es) ∧ ∃ w, slk k h.l = some (.spc w (.map es)) := by
 unfold smp at e;split at e
 ·rename_i k';split at e
  ·rename_i w es' hk;cases e;refine ⟨?_, w, hk⟩;simp only [SV.enc, wJ, yI hk]
   show cond (spec P 1000000001 && Nat.beq 1000000001 1000000001) (match mapOf (kQ es.length (zP 0 es)) with
    | some (c, es') => some (k, (SO.spc w (SpO.map es)).enc, c, es')
    | none => none) none = _
   rw [hs, qGA];rfl
  ·cases e
 ·cases e
def q7V (P : Program) (kt : TypeId) (k : Value) (es : List (Value × Value)) : Option Bool := (vP P kt k (zP 0 es)).map Option.isSome
def q51 (P : Program) (kt : TypeId) (t : Ty) (k : Value) (es : List (Value × Value)) : Option t.sem := match vP P kt k (zP 0 es) with
 | some (some i) => (match es[i]? with
   | some p => t.ofV p.2
   | none => none)
 | _ => none
def q73 (ok : Bool) (t : Ty) (x : t.sem) (b : Bool) : SV := cond ok (.tup [q4K t x, .c (.bool b)]) (q4K t x)
theorem qPS {ok b : Bool} {t : Ty} {x : t.sem} {v : Value} (e : t.ofV v = some x) : q3X ok v b = (q73 ok t x b).enc := by
 unfold q3X q73
 cases ok with
 | true => simp [rO e, SV.enc, qA]
 | false => exact rO e
omit [Yl] in
theorem qX2 {ok b : Bool} {t : Ty} {x : t.sem} : (q73 ok t x b).ok h := by
 unfold q73
 cases ok with
 | true => simp only [cond_true, SV.ok, okL, and_true]; exact qB9 t x
 | false => exact qB9 t x
def qM7 (P : Program) (t : TypeId) (m kx : SV) (ok : Bool) (h : SH) (K : SV -> zIA R) : zIA R := match P.underlying t, smp m h, gW kx with
 | some (.map kt et), some (_, es), some kv => (match qIQ P 8 et, wQ P et with
   | some vt, some z => (match vt.ofV z with
     | some z0 => cond (spec P 1000000001 && zG z) (.bind (q7V P kt kv es) fun b => .ite b (.bind (q51 P kt vt kv es) fun x => K (q73 ok vt x true)) (K (q73 ok vt z0 false))) .fail
     | none => .fail)
   | _, _ => .fail)
 | _, _, _ => .fail
theorem qSR {t : TypeId} {m kx : SV} {ok : Bool} {K : SV -> zIA R} (e : (qM7 P t m kx ok h K).run = some r) : ∃ v, kI P t m.enc kx.enc ok (qH h.l) = some v.enc ∧ v.ok h ∧ (K v).run = some r := by
 unfold qM7 at e;split at e
 case h_2 => cases e
 rename_i kt et k es kv hu hm hk;split at e
 case h_2 => cases e
 rename_i vt z hvt hz;split at e
 case h_2 => cases e
 rename_i z0 hz0;obtain ⟨c, e1⟩ := qG e;rw [zQM] at c;obtain ⟨b, hb, e2⟩ := run_bind e1;obtain ⟨h1, w, h2⟩ := qMY c.1 hm
 have pre : kI P t m.enc kx.enc ok (qH h.l) = (match vP P kt kv (zP 0 es) with
  | some (some i) => (match (zP 0 es)[i]? with
    | some e => some (q3X ok e.val true)
    | none => none)
  | some none => some (q3X ok z false)
  | none => none) := by
  unfold kI;rw [hu, h1, jM hk];simp only [hz, c.2, cond_true];rfl
 rw [pre];unfold q7V at hb
 cases hf : vP P kt kv (zP 0 es) with
 | none => rw [hf] at hb; cases hb
 | some o =>
   rw [hf] at hb
   cases o with
   | none =>
     cases hb;refine ⟨_, by simp only [qPS hz0], qX2, e2⟩
   | some i =>
     cases hb;obtain ⟨x, hx, e3⟩ := run_bind (show (zIA.bind (q51 P kt vt kv es) fun x => K (q73 ok vt x true)).run = some r from e2);unfold q51 at hx;rw [hf] at hx;simp only at hx;split at hx
     ·rename_i p hp;refine ⟨_, ?_, qX2, e3⟩;simp only [vB, hp, zQW, qPS hx]
     ·cases hx
def zGQ (P : Program) (kt : TypeId) (k v : Value) (es : List (Value × Value)) : Option (List (Value × Value)) := match vP P kt k (zP 0 es) with
 | some (some i) => (match es[i]? with
   | some p => cond (Instr.sameBits 10000 p.1 k) (some (es.set i (k, v))) none
   | none => none)
 | some none => some (es ++ [(k, v)])
 | none => none
def pY (P : Program) (t : TypeId) (m kx x : SV) (h : SH) (K : SV -> SH -> zIA R) : zIA R := match P.underlying t, smp m h, gW kx, gW x with
 | some (.map kt _), some (k, es), some kv, some xv => cond (spec P 1000000001 && qY xv) (.bind (zGQ P kt kv xv es) fun es' => K (.tup []) (h.put k fun v => .spc v (.map es'))) .fail
 | _, _, _, _ => .fail
theorem fH {k : Nat} {es es' : List (Value × Value)} {w : Nat} (ho : OkH P h) (hk : slk k h.l = some (.spc w (.map es))) : Keep h (h.put k fun v => .spc v (.map es')) ∧ OkH P (h.put k fun v => .spc v (.map es')) ∧
 qH (h.put k fun v => .spc v (.map es')).l = xN k { (SpO.map es).enc with cs := kQ es'.length (zP 0 es') } (qH h.l) := by
 have := bD (f := fun v => .spc v (.map es')) ho hk rfl;exact ⟨this.1, this.2, jD k _ _⟩
theorem qG8 {t : TypeId} {m kx x : SV} {K : SV -> SH -> zIA R} (ho : OkH P h) (e : (pY P t m kx x h K).run = some r) :
 ∃ h', jJ P t m.enc kx.enc x.enc (qH h.l) = some (qH h'.l) ∧ Keep h h' ∧ OkH P h' ∧ (K (.tup []) h').run = some r := by
 unfold pY at e;split at e
 case h_2 => cases e
 rename_i kt et k es kv xv hu hm hkv hxv;obtain ⟨c, e1⟩ := qG e;rw [zQM] at c;obtain ⟨es', hs, e2⟩ := run_bind e1;obtain ⟨h1, w, h2⟩ := qMY c.1 hm;obtain ⟨p1, p2, p3⟩ := fH (es' := es') ho h2;refine ⟨_, ?_, p1, p2, e2⟩;unfold jJ;rw [hu, h1, jM hkv, jM hxv, p3];simp only [c.2, cond_true];unfold zGQ at hs
 cases hf : vP P kt kv (zP 0 es) with
 | none => rw [hf] at hs; cases hs
 | some o =>
   rw [hf] at hs
   cases o with
   | none =>
     cases hs;simp only [nR, zQ8, zRB, zUH, zRK]
   | some i =>
     simp only at hs ⊢;split at hs
     ·rename_i p hp
      cases hb : Instr.sameBits 10000 p.1 kv with
      | false => rw [hb] at hs; cases hs
      | true =>
        rw [hb] at hs;cases hs;simp only [vB, hp, zQW, hb, cond_true];rw [oI es i kv xv (fun e => { e with key := kv, val := xv }) (fun _ _ => rfl), zRH]
     ·cases hs
def q0Y (P : Program) (kt : TypeId) (t : Ty) (k z : Value) (es : List (Value × Value)) : Option (List (Value × Value) × Nat × t.sem) := match vP P kt k (zP 0 es) with
 | some (some i) => (match es[i]? with
   | some p => cond (Instr.sameBits 10000 p.1 k && q46 i (vP P kt k (zP 0 (es.set i (k, p.2))))) (match t.ofV p.2 with
     | some x => some (es.set i (k, p.2), i, x)
     | none => none) none
   | none => none)
 | some none => cond (q46 es.length (vP P kt k (zP 0 (es ++ [(k, z)])))) (match t.ofV z with
   | some x => some (es ++ [(k, z)], es.length, x)
   | none => none) none
 | none => none
def qDI (P : Program) (t : TypeId) (m kx : SV) (h : SH) (K : SV -> SH -> zIA R) : zIA R := match P.underlying t, smp m h, gW kx with
 | some (.map kt et), some (k, es), some kv => (match qIQ P 8 et, wQ P et with
   | some vt, some z => cond (spec P 1000000001 && zG z) (.bind (q0Y P kt vt kv z es) fun q => K (.tup [q4K vt q.2.2, .d (.int .i64) (q.2.1 : Int)]) (h.put k fun v => .spc v (.map q.1))) .fail
   | _, _ => .fail)
 | _, _, _ => .fail
theorem qKV {t : TypeId} {m kx : SV} {K : SV -> SH -> zIA R} (ho : OkH P h) (e : (qDI P t m kx h K).run = some r) :
 ∃ v h', kD P t m.enc kx.enc (qH h.l) = some (v.enc, qH h'.l) ∧ Post P h h' v ∧ (K v h').run = some r := by
 unfold qDI at e;split at e
 case h_2 => cases e
 rename_i kt et k es kv hu hm hkv;split at e
 case h_2 => cases e
 rename_i vt z hvt hz;obtain ⟨c, e1⟩ := qG e;rw [zQM] at c;obtain ⟨q, hs, e2⟩ := run_bind e1;obtain ⟨h1, w, h2⟩ := qMY c.1 hm;obtain ⟨p1, p2, p3⟩ := fH (es' := q.1) ho h2;refine ⟨_, _, ?_, ⟨p1, p2, ?_⟩, e2⟩
 ·unfold kD;rw [hu, h1, jM hkv, p3];unfold q0Y at hs
  cases hf : vP P kt kv (zP 0 es) with
  | none => rw [hf] at hs; cases hs
  | some o =>
    rw [hf] at hs
    cases o with
    | none =>
      simp only at hs ⊢;obtain ⟨hat, hs⟩ := kE hs;split at hs
      ·rename_i x hx;cases hs
       have hat' : q46 (zP 0 es).length (vP P kt kv (zP 0 es ++ [⟨kv, z, es.length⟩])) = true := by
        rw [nR, zRK] at hat;rw [nS];exact hat
       simp only [hf, hz, c.2, hat', zRO, cond_true, nR, zQ8, zRB, zUH, zRK, SV.enc, qA, rO hx, Ty.fv, fvv]
      ·cases hs
    | some i =>
      simp only at hs ⊢;split at hs
      ·rename_i p hp;obtain ⟨hb', hs⟩ := kE hs;rw [zQM] at hb';obtain ⟨hb, hat⟩ := hb'
       ·split at hs
        ·rename_i x hx;cases hs;rw [oI es i kv p.2 (fun e => { e with key := kv }) (fun p' hp' => by rw [hp] at hp'; cases hp'; rfl)] at hat;simp only [hf, vB, hp, zQW, hb, hat, zRO, cond_true, SV.enc, qA, rO hx, Ty.fv, fvv, zRK];rw [oI es i kv p.2 (fun e => { e with key := kv }) (fun p' hp' => by rw [hp] at hp'; cases hp'; rfl), zRH]
        ·cases hs
      ·cases hs
 ·simp only [SV.ok, okL, and_true]; exact qB9 _ _
def q5X (born : Int) (v : Value) (es : List (Value × Value)) : Option (List (Value × Value)) := match (zP 0 es).findIdx? (fun e => (e.born : Int) == born) with
 | some i => (match es[i]? with
   | some p => some (es.set i (p.1, v))
   | none => none)
 | none => none
def mG (P : Program) (m st x : SV) (h : SH) (K : SV -> SH -> zIA R) : zIA R := match smp m h, asI st, gW x with
 | some (k, es), some (_, b), some xv => cond (spec P 1000000001 && qY xv) (.bind (q5X b xv es) fun es' => K (.tup []) (h.put k fun v => .spc v (.map es'))) .fail
 | _, _, _ => .fail
theorem qD0 {m st x : SV} {K : SV -> SH -> zIA R} (ho : OkH P h) (e : (mG P m st x h K).run = some r) :
 ∃ h', kN P m.enc st.enc x.enc (qH h.l) = some (qH h'.l) ∧ Keep h h' ∧ OkH P h' ∧ (K (.tup []) h').run = some r := by
 unfold mG at e;split at e
 case h_2 => cases e
 rename_i k es ki b xv hm hst hxv;obtain ⟨c, e1⟩ := qG e;rw [zQM] at c;obtain ⟨es', hs, e2⟩ := run_bind e1;obtain ⟨h1, w, h2⟩ := qMY c.1 hm;obtain ⟨p1, p2, p3⟩ := fH (es' := es') ho h2;refine ⟨_, ?_, p1, p2, e2⟩;unfold kN;have hpl : pl (fvv (.int ki b)) = some (.int ki b) := rfl;rw [h1, xX hst, hpl, jM hxv, p3];simp only [c.2, cond_true];unfold q5X at hs;split at hs
 ·rename_i i hi;rw [hi];split at hs
  ·rename_i p hp;cases hs;simp only;rw [oI es i p.1 xv (fun e => { e with val := xv }) (fun p' hp' => by rw [hp] at hp'; cases hp'; rfl), zRH]
  ·cases hs
 ·cases hs
def qP5 (P : Program) (k : Nat) (h : SH) (K : SV -> SH -> zIA R) : zIA R := cond (spec P 1000000001) (K (.mp k) (h.new k fun v => .spc v (.map []))) .fail
theorem qO6 {k : Nat} {K : SV -> SH -> zIA R} (ho : OkH P h) (e : (qP5 P k h K).run = some r) : ∃ v h', dM P k (qH h.l) = some (v.enc, qH h'.l) ∧ Post P h h' v ∧ (K v h').run = some r := by
 obtain ⟨c, e1⟩ := qG e;have hp := kX (k := k) (f := fun v => .spc v (.map [])) ho rfl;refine ⟨_, _, ?_, ⟨hp.1, hp.2, by simp [SV.ok]⟩, e1⟩;unfold dM;rw [c];simp only [cond_true, qKE, SV.enc];rfl
def q7Y (P : Program) (ts : Array TypeId) (x : SV) (h : SH) : Option SV := match smp x h with
 | some (_, es) => cond (spec P 1000000001 && zA2 P ts) (some (.d (.int .i64) ((List.length es : Nat) : Int))) none
 | none => none
theorem q1G {ts : Array TypeId} {x v : SV} (e : q7Y P ts x h = some v) : qDR P ts x.enc (qH h.l) = some v.enc ∧ v.ok h := by
 unfold q7Y at e;split at e
 case h_2 => cases e
 rename_i k es hm
 cases hc : (spec P 1000000001 && zA2 P ts) with
 | false => rw [hc] at e; cases e
 | true =>
   rw [hc] at e;cases e;rw [zQM] at hc;refine ⟨?_, by simp [SV.ok]⟩;unfold smp at hm;split at hm
   case h_2 => cases hm
   rename_i k';split at hm
   case h_2 => cases hm
   rename_i w es' hk;cases hm
   have h1 : tY P (SV.enc (.mp k)) (qH h.l) = some (kQ es.length (zP 0 es)) := by
    simp only [SV.enc, tY, yI hk];show cond (!false && (spec P 1000000001 && Nat.beq 1000000001 1000000001)) (some (kQ es.length (zP 0 es))) none = _;rw [hc.1]; rfl
   unfold qDR;rw [h1];simp only [hc.2, cond_true, yX, nS];have : (3 * es.length + 1) / 3 = es.length := by omega
   rw [this];simp [SV.enc, Ty.fv, fvv]
omit [Yl] in
theorem qJ4 {p : Value -> Bool} : ∀ {a b : List Value}, yY p a = true -> yY p b = true -> yY p (a ++ b) = true
 | [], _, _, h => h
 | x :: a, b, h, h2 => by
   rw [zTL, xJ, zQM];rw [xJ, zQM] at h;exact ⟨h.1, qJ4 h.2 h2⟩
omit [Yl] in
theorem dF (n : Nat) : ∀ {t : Ty} {l l' : List Value} {x : t.sem}, t.vals l = some (x, l') -> ∃ us, l = us ++ l' ∧ yY (xL (n + 1)) us = true
 | .int k, l, l', x, e => by
   cases l with
   | nil => cases e
   | cons v l =>
     cases v <;> try (cases e; done)
     rename_i k' y;have e : cond (decide (k' = k)) (some ((y : Int), l)) none = some (x, l') := e
     cases hk : decide (k' = k) with
     | false => rw [hk] at e; cases e
     | true =>
       rw [hk] at e;cases e;exact ⟨[.int k' x], rfl, rfl⟩
 | .bool, l, l', x, e => by
   cases l with
   | nil => cases e
   | cons v l =>
     cases v <;> try (cases e; done)
     cases e;exact ⟨[.bool x], rfl, rfl⟩
 | .str, l, l', x, e => by
   cases l with
   | nil => cases e
   | cons v l =>
     cases v <;> try (cases e; done)
     cases e;exact ⟨[.string x], rfl, rfl⟩
 | .unit, l, l', x, e => by
   have e : some ((), l) = some ((), l') := by cases l <;> exact e
   cases e;exact ⟨[], rfl, rfl⟩
 | .list _ _, l, l', x, e => by cases l <;> cases e
 | .raw, l, l', x, e => by cases l <;> cases e
 | .pair a b, l, l', x, e => by
   have e : (match a.vals l with
    | some (x, l1) => (match b.vals l1 with
      | some (y, l2) => some ((x, y), l2)
      | none => none)
    | none => none) = some (x, l') := by cases l <;> exact e
   split at e
   ·rename_i x1 l1 h1;split at e
    ·rename_i y l2 h2;cases e;obtain ⟨us, rfl, u1⟩ := dF n h1;obtain ⟨ws, rfl, w1⟩ := dF n h2;exact ⟨us ++ ws, by rw [zRW], qJ4 u1 w1⟩
    ·cases e
   ·cases e
omit [Yl] in
theorem qZ0 {t : Ty} {v : Value} {x : t.sem} (e : t.ofV v = some x) : zG v = true := by
 unfold Ty.ofV at e
 cases ht : t.one with
 | true =>
   rw [ht] at e;simp only [cond_true] at e;split at e
   ·rename_i y hy;obtain ⟨us, h1, h2⟩ := dF 2 hy;rw [zSK] at h1;subst h1;rw [xJ, zQM] at h2;exact h2.1
   ·cases e
 | false =>
   rw [ht] at e;simp only [cond_false] at e;split at e
   ·rename_i a;split at e
    ·rename_i y hy;obtain ⟨us, h1, h2⟩ := dF 1 hy;rw [zSK] at h1;show yY (xL 2) a.toList = true;rw [h1]; exact h2
    ·cases e
   ·cases e
omit [Yl] in
theorem qE9 : ∀ (n : Nat) (es : List (Value × Value)) (i : Nat), (zP n es).find? (·.born == n + i) = (es[i]?).map fun p => (⟨p.1, p.2, n + i⟩ : MapEntry)
 | n, [], i => by simp [zP]
 | n, p :: es, 0 => by simp [zP]
 | n, p :: es, i + 1 => by
   have h : ((⟨p.1, p.2, n⟩ : MapEntry).born == n + (i + 1)) = false := by simp
   have ih := qE9 (n + 1) es i;have e : n + 1 + i = n + (i + 1) := by omega
   rw [e] at ih;show List.find? (fun x => x.born == n + (i + 1)) ((⟨p.1, p.2, n⟩ : MapEntry) :: zP (n + 1) es) = _;rw [List.find?_cons, h, ih];simp
def q44 (P : Program) (t : TypeId) : Bool := match P.underlying t with
 | some (.map _ _) => true
 | _ => false
def qMT (P : Program) (t : TypeId) (x : SV) (k : Nat) (h : SH) (K : SV -> SH -> zIA R) : zIA R := match smp x h with
 | some (j, es) => cond (q44 P t && (spec P 1000000001 && (spec P 1000000002 && !(j == k)))) (K (.ref k 0 4) (h.new k fun v => .spc v (.mit t j (List.length es) 0 []))) .fail
 | none => .fail
theorem qSH {t : TypeId} {x : SV} {k : Nat} {K : SV -> SH -> zIA R} (ho : OkH P h) (e : (qMT P t x k h K).run = some r) : ∃ v h', qEK P t x.enc k (qH h.l) = some (v.enc, qH h'.l) ∧ Post P h h' v ∧ (K v h').run = some r := by
 unfold qMT at e;split at e
 case h_2 => cases e
 rename_i j es hs;obtain ⟨c, e1⟩ := qG e;simp only [zQM, zRN] at c;obtain ⟨c1, c2, c3, c4⟩ := c;obtain ⟨h1, w, h2⟩ := qMY c2 hs
 have hx : x = .mp j := by
  unfold smp at hs;split at hs
  ·split at hs
   ·cases hs; rfl
   ·cases hs
  ·cases hs
 have hp := kX (k := k) (f := fun v => .spc v (.mit t j (List.length es) 0 [])) ho rfl;refine ⟨_, _, ?_, ⟨hp.1, hp.2, by simp [SV.ok]⟩, e1⟩;unfold qEK;unfold q44 at c1;split at c1
 ·rename_i kt et hu;rw [hu];subst hx;have he : (SV.mp j).enc = .mp j := by simp [SV.enc]
  rw [he] at h1 ⊢;have hpl : pl (.mp j) = none := rfl;rw [hpl];simp only [h1, c3, c4, zSG, zRO, cond_true, qKE, SV.enc];rfl
 ·cases c1
def qJL (kt vt : Ty) (i : Nat) (es : List (Value × Value)) : Option (kt.sem × vt.sem) := match es[i]? with
 | some p => (match kt.ofV p.1, vt.ofV p.2 with
   | some x, some y => some (x, y)
   | _, _ => none)
 | none => none
def qU3 (P : Program) (x : SV) (h : SH) (K : SV -> SH -> zIA R) : zIA R := match x with
 | .ref k off w => (match slk k h.l with
   | some (.spc _ (.mit t j since (last + 1) _)) => (match P.underlying t, smp (.mp j) h with
     | some (.map kt vt), some (_, es) => (match qIQ P 8 kt, qIQ P 8 vt with
       | some kT, some vT => cond (spec P 1000000001 && (spec P 1000000002 && (Nat.beq w 4 && (Nat.beq off 0 && Nat.beq (List.length es) since)))) (.bind (qJL kT vT last es) fun p => K (.tup [q4K kT p.1, q4K vT p.2]) h) .fail
       | _, _ => .fail)
     | _, _ => .fail)
   | _ => .fail)
 | _ => .fail
theorem qW2 {x : SV} {K : SV -> SH -> zIA R} (ho : OkH P h) (e : (qU3 P x h K).run = some r) : ∃ v, qKJ P x.enc (qH h.l) = some v.enc ∧ v.ok h ∧ (K v h).run = some r := by
 unfold qU3 at e;split at e
 case h_2 => cases e
 rename_i k off w;split at e
 case h_2 => cases e
 rename_i w0 t j since last seen hk;split at e
 case h_2 => cases e
 rename_i kt vt j2 es hu hs;split at e
 case h_2 => cases e
 rename_i kT vT hkT hvT;obtain ⟨c, e1⟩ := qG e;simp only [zQM] at c;obtain ⟨c1, c2, c3, c4, c5⟩ := c;obtain ⟨q, hq, e2⟩ := run_bind e1;obtain ⟨h1, _⟩ := qMY c1 hs;unfold qJL at hq;split at hq
 case h_2 => cases hq
 rename_i p hp;split at hq
 case h_2 => cases hq
 rename_i x1 y1 hx1 hy1;cases hq;refine ⟨_, ?_, ?_, e2⟩
 ·have e3 := zQN c3;have e4 := zQN c4;subst e3 e4;simp only [SV.enc, qKJ, yI hk]
  show cond (spec P 1000000002 && (Nat.beq 1000000002 1000000002 && (Nat.beq 4 4 && Nat.beq 0 0))) (match wJ P (.mp j) (qH h.l) with
   | some (_, _, c, es) => cond (Nat.beq c (since : Int).toNat && Nat.ble 1 ((last + 1 : Nat) : Int).toNat) (match es.find? (·.born == ((last + 1 : Nat) : Int).toNat - 1) with
     | some e => cond (zG e.key) (some (PV.tup [ofC e.key, ofC e.val])) none
     | none => none) none
   | none => none) none = _
  have h1 : wJ P (.mp j) (qH h.l) = some (j2, (SpO.map es).enc, es.length, zP 0 es) := h1;rw [h1, c2];have hl : ((last + 1 : Nat) : Int).toNat = last + 1 := rfl;have hsi : ((since : Nat) : Int).toNat = since := rfl;have hf := qE9 0 es last;simp only [zRK] at hf;rw [hl, hsi];simp only [zUM, hf, hp, c5, zQW];rw [show Nat.ble 1 (last + 1) = true from zRM (by omega), show (Nat.beq 1000000002 1000000002) = true from rfl, show (Nat.beq 4 4) = true from rfl, show (Nat.beq 0 0) = true from rfl];simp only [zRO, cond_true, qZ0 hx1, rO hx1, rO hy1, qA]
 ·simp only [SV.ok, okL];exact ⟨qB9 _ _, qB9 _ _, trivial⟩
end
end Go.Sv
namespace Go.Sv
open Go.Idl
variable {a b : Int} {env : List SV} {k : IntKind} {o : Oper} {op : BinOp} {s : ByteArray} {t t2 ty : TypeId} {ts : Array TypeId} {x y : SV}
noncomputable section
variable [Gc]
variable [Yl]
variable {P : Program} {h : SH} {R : Type} {r : R}
def q6H (k : IntKind) : PV -> Option Int
 | .f (.v (.int k' x)) => cond (decide (k' = k)) (some x) none
 | _ => none
def q7B : PV -> Option Bool
 | .f (.v (.bool x)) => some x
 | _ => none
def q6D : PV -> Option ByteArray
 | .f (.v (.string x)) => some x
 | _ => none
def Ty.zOC : (t : Ty) -> PV -> Option t.sem
 | .int k, p => q6H k p
 | .bool, p => q7B p
 | .str, p => q6D p
 | .raw, _ => none
 | .unit, _ => none
 | .list _ _, _ => none
 | .pair _ _, _ => none
omit [Yl] in
theorem q88 : ∀ {t : Ty} {p : PV} {x : t.sem}, t.zOC p = some x -> p = .f (t.fv x)
 | .int k, p, x, e => by
   have e1 : q6H k p = some x := e;clear e;unfold q6H at e1;split at e1
   ·rename_i k' y;have e := e1;clear e1
    cases hk : decide (k' = k) with
    | false => rw [hk] at e; cases e
    | true =>
      rw [hk] at e;cases e;have : k' = k := by simpa using hk
      subst this;rfl
   ·cases e1
 | .bool, p, x, e => by
   have e1 : q7B p = some x := e;clear e;unfold q7B at e1;split at e1
   ·cases e1; rfl
   ·cases e1
 | .str, p, x, e => by
   have e1 : q6D p = some x := e;clear e;unfold q6D at e1;split at e1
   ·cases e1; rfl
   ·cases e1
 | .unit, _, _, e => by cases e
 | .list _ _, _, _, e => by cases e
 | .pair _ _, _, _, e => by cases e
 | .raw, _, _, e => by cases e
def Ty.zLI (t : Ty) (o : Option PV) : Option t.sem := o.bind t.zOC
theorem qRW {t : Ty} {o : Option PV} {x : t.sem} (e : t.zLI o = some x) : o = some (SV.d t x).enc := by
 obtain ⟨p, h1, h2⟩ := zSN.1 e;rw [h1, q88 h2]; simp [SV.enc]
def sint (op : BinOp) (k : IntKind) (a b : Int) (K : SV -> zIA R) (F : zIA R) : zIA R := match op with
 | .lss => K (.d .bool (decide (a < b)))
 | .leq => K (.d .bool (decide (a <= b)))
 | .gtr => K (.d .bool (decide (b < a)))
 | .geq => K (.d .bool (decide (b <= a)))
 | .eql => K (.d .bool (a == b))
 | .neq => K (.d .bool (a != b))
 | .add => K (.d (.int k) (k.wrap (a + b)))
 | .sub => K (.d (.int k) (k.wrap (a - b)))
 | .mul => K (.d (.int k) (k.wrap (a * b)))
 | .quo => .bind (qL5 k a b) fun c => K (.d (.int k) c)
 | .rem => .bind (q07 a b) fun c => K (.d (.int k) c)
 | _ => F
omit [Yl] in
theorem q8K {x y : PV} {a b : Value} {ph : PHp} (hx : pl x = some a) (hy : pl y = some b) : bJ P op t t2 x y ph = bJ P op t t2 (fvv a) (fvv b) [] := by
 unfold bJ;rw [hx, hy];rfl
def qTN (P : Program) (op : BinOp) (t t2 ty : TypeId) (x y : SV) (K : SV -> zIA R) : zIA R := match gW x, gW y, qIQ P 8 ty with
 | some a, some b, some u => .bind (u.zLI (bJ P op t t2 (fvv a) (fvv b) [])) fun z => K (.d u z)
 | _, _, _ => .fail
def zD3 (P : Program) (t : TypeId) (x y : SV) (h : SH) : Option Bool := match y with
 | .c (.slice none _ _) => cond (y9 P t).isSome (match x with
   | .own k g n => (match slk k h.l with
     | some (.list _ gr g' _ _ _) => cond (Nat.beq g g') (some (gr && Nat.beq n 0)) none
     | _ => none)
   | _ => none) none
 | .c .nilFunc => cond (qYH P t) (match x with
   | .fn _ _ _ => some false
   | _ => none) none
 | _ => none
theorem qVN {b : Bool} (ho : OkH P h) (hx : x.ok h) (e : zD3 P t x y h = some b) : q0T P t x.enc y.enc (qH h.l) = some b ∧ pl x.enc = none := by
 unfold zD3 at e;split at e
 ·rename_i n c
  cases h1 : (y9 P t).isSome with
  | false => rw [h1] at e; cases e
  | true =>
    rw [h1] at e;simp only [cond_true] at e;split at e
    ·rename_i k g n;split at e
     ·rename_i el gr g' w u xs hk
      cases h2 : Nat.beq g g' with
      | false => rw [h2] at e; cases e
      | true =>
        rw [h2] at e;cases e;have hg : g = g' := zQN h2;subst hg;simp only [SV.ok] at hx;have hn := hx.2 _ _ _ _ _ hk;have hl := ho.list _ _ _ _ _ _ _ hk;refine ⟨?_, by simp [SV.enc, pl]⟩;simp only [SV.enc, fvv, q0T, h1, cond_true, isNil, yI hk];rw [show (SO.list el gr g w u xs).enc.el = el from rfl, hl.2.1];simp only [qZ, hn, nG, cond_true];rfl
     ·cases e
    ·cases e
 ·cases h1 : qYH P t with
  | false => rw [h1] at e; cases e
  | true =>
    rw [h1] at e;simp only [cond_true] at e;split at e
    ·cases e;exact ⟨by simp [SV.enc, fvv, q0T, h1, qSC], by simp [SV.enc, pl]⟩
    ·cases e
 ·cases e
def zE8 (P : Program) (op : BinOp) (t t2 ty : TypeId) (x y : SV) (h : SH) (K : SV -> zIA R) : zIA R := match asI x, asI y with
 | some (k, a), some (k', b) => cond (decide (k = k')) (sint op k a b K (qTN P op t t2 ty x y K)) (qTN P op t t2 ty x y K)
 | _, _ => (match asS x, asS y with
   | some a, some b => zF7 op a b K (qTN P op t t2 ty x y K)
   | _, _ => (match zD3 P t x y h, op with
     | some b, .eql => K (.d .bool b)
     | some b, .neq => K (.d .bool (!b))
     | _, _ => qTN P op t t2 ty x y K))
theorem qA1 {K : SV -> zIA R} (e : (qTN P op t t2 ty x y K).run = some r) : ∃ v, bJ P op t t2 x.enc y.enc (qH h.l) = some v.enc ∧ v.ok h ∧ (K v).run = some r := by
 unfold qTN at e;split at e
 ·rename_i a b u ha hb hu;obtain ⟨z, hz, e1⟩ := run_bind e;refine ⟨_, ?_, by simp [SV.ok], e1⟩;rw [q8K (jM ha) (jM hb)];exact qRW hz
 ·cases e
theorem q74 {K : SV -> zIA R} (ho : OkH P h) (hx : x.ok h) (e : (zE8 P op t t2 ty x y h K).run = some r) : ∃ v, bJ P op t t2 x.enc y.enc (qH h.l) = some v.enc ∧ v.ok h ∧ (K v).run = some r := by
 unfold zE8 at e;split at e
 ·rename_i k a k' b ha hb
  cases hk : decide (k = k') with
  | false => rw [hk] at e; exact qA1 e
  | true =>
    rw [hk] at e;have hkk : k = k' := by simpa using hk
    subst hkk;simp only [cond_true] at e;have ha' := xX ha;have hb' := xX hb
    have fin : ∀ {v : SV}, bJ P op t t2 (fvv (.int k a)) (fvv (.int k b)) (qH h.l) = some v.enc -> v.ok h -> (K v).run = some r -> ∃ v, bJ P op t t2 x.enc y.enc (qH h.l) = some v.enc ∧ v.ok h ∧ (K v).run = some r := fun h1 h2 h3 => ⟨_, by rw [ha', hb']; exact h1, h2, h3⟩
    unfold sint at e;split at e
    ·exact fin (v := .d .bool (decide (a < b))) zB7 (by simp [SV.ok]) e
    ·exact fin (v := .d .bool (decide (a <= b))) zC4 (by simp [SV.ok]) e
    ·exact fin (v := .d .bool (decide (b < a))) zC6 (by simp [SV.ok]) e
    ·exact fin (v := .d .bool (decide (b <= a))) zA5 (by simp [SV.ok]) e
    ·exact fin (v := .d .bool (a == b)) zDA (by simp [SV.ok]) e
    ·exact fin (v := .d .bool (a != b)) zC7 (by simp [SV.ok]) e
    ·exact fin (v := .d (.int k) (k.wrap (a + b))) zBJ (by simp [SV.ok]) e
    ·exact fin (v := .d (.int k) (k.wrap (a - b))) zBN (by simp [SV.ok]) e
    ·exact fin (v := .d (.int k) (k.wrap (a * b))) zDF (by simp [SV.ok]) e
    ·obtain ⟨c, hc, e1⟩ := run_bind e;exact fin (v := .d (.int k) c) (zCT hc) (by simp [SV.ok]) e1
    ·obtain ⟨c, hc, e1⟩ := run_bind e;exact fin (v := .d (.int k) c) (zBS hc) (by simp [SV.ok]) e1
    ·exact qA1 e
 ·split at e
  ·rename_i a b ha hb;have ha' := aY ha;have hb' := aY hb;unfold zF7 at e;split at e
   ·rcases run_ite e with ⟨z, e1⟩ | ⟨z, e1⟩
    ·exact ⟨.d .str (a ++ b), by rw [ha', hb', q7J (zQ4 z)]; simp [SV.enc, Ty.fv, fvv], by simp [SV.ok], e1⟩
    ·cases e1
   ·exact ⟨.d .bool (a.toList == b.toList), by rw [ha', hb', q69]; simp [SV.enc, Ty.fv, fvv], by simp [SV.ok], e⟩
   ·exact ⟨.d .bool (!(a.toList == b.toList)), by rw [ha', hb', q71]; simp [SV.enc, Ty.fv, fvv], by simp [SV.ok], e⟩
   ·exact qA1 e
  split at e
  ·rename_i b hs;obtain ⟨h1, h2⟩ := qVN ho hx hs;refine ⟨_, ?_, by simp [SV.ok], e⟩;unfold bJ;rw [h2];simp [h1, SV.enc, Ty.fv, fvv]
  ·rename_i b hs;obtain ⟨h1, h2⟩ := qVN ho hx hs;refine ⟨_, ?_, by simp [SV.ok], e⟩;unfold bJ;rw [h2];simp [h1, SV.enc, Ty.fv, fvv]
  ·exact qA1 e
def q0C (P : Program) (mk : Operand -> Op) (ty : TypeId) (x : SV) (K : SV -> zIA R) : zIA R := match qES x, qIQ P 8 ty with
 | some a, some u => .bind (u.zLI (aO P mk (fvv a))) fun z => K (.d u z)
 | _, _ => .fail
theorem qQ1 {mk : Operand -> Op} {K : SV -> zIA R} (e : (q0C P mk ty x K).run = some r) : ∃ v, aO P mk x.enc = some v.enc ∧ v.ok h ∧ (K v).run = some r ∧ ∃ a, qES x = some a := by
 unfold q0C at e;split at e
 ·rename_i a u ha hu;obtain ⟨z, hz, e1⟩ := run_bind e;exact ⟨_, by rw [sJ ha]; exact qRW hz, by simp [SV.ok], e1, a, ha⟩
 ·cases e
def sun (P : Program) (op : UnOp) (t ty : TypeId) (x : SV) (K : SV -> zIA R) : zIA R := match op, asI x, asB x with
 | .neg, some (k, a), _ => K (.d (.int k) (k.wrap (0 - a)))
 | .not, _, some b => K (.d .bool (!b))
 | _, _, _ => q0C P (fun a => .unOp op t a) ty x K
omit [Yl] in
theorem q7Z {x : Int} : aO P (fun a => .unOp .neg t a) (fvv (.int k x)) = some (fvv (.int k (k.wrap (0 - x)))) := rfl
theorem zAW {op : UnOp} {K : SV -> zIA R} (e : (sun P op t ty x K).run = some r) : ∃ v, aO P (fun a => .unOp op t a) x.enc = some v.enc ∧ v.ok h ∧ (K v).run = some r := by
 unfold sun at e;split at e
 ·rename_i k a ha;exact ⟨_, by rw [xX ha, q7Z]; simp [SV.enc, Ty.fv, fvv], by simp [SV.ok], e⟩
 ·rename_i b hb;exact ⟨_, by rw [rG hb, zAL]; simp [SV.enc, Ty.fv, fvv], by simp [SV.ok], e⟩
 ·obtain ⟨v, h1, h2, h3, _⟩ := qQ1 (h := h) e;exact ⟨v, h1, h2, h3⟩
def nK (env : List SV) (l : Array Operand) : List SV := l.toList.map (xM env)
theorem nA (env : List SV) (l : Array Operand) : l.toList.map (qN (qA env)) = qA (nK env l) := by
 unfold nK;rw [zC (l.toList.map (xM env)), zT4];exact zRT fun x _ => qO env x
omit [Yl] in
theorem pR (ho : okL h env) (l : Array Operand) : okL h (nK env l) := yS.2 fun x hx => by
 obtain ⟨q, _, rfl⟩ := zQ9.1 hx;exact qDK ho _
def smm (lo : Bool) (x y : SV) (K : SV -> zIA R) : zIA R := match asI x, asI y with
 | some (k, a), some (k', b) => cond (decide (k = k')) (K (.d (.int k) (cond lo (cond (decide (b < a)) b a) (cond (decide (a < b)) b a)))) .fail
 | _, _ => .fail
omit [Yl] in
theorem dmin {x y : Operand} {env : Env} (hx : env.val x = .int k a) (hy : env.val y = .int k b) :
 qYQ (kW P (cop (.call ⟨.builtin .min, #[x, y], ts⟩) ty) env H00) = some (fvv (.int k (if b < a then b else a))) := by
 have h2 : kV env.val (cop (.call ⟨.builtin .min, #[x, y], ts⟩) ty).op.operands.toList = [env.val x, env.val y] := rfl;unfold kW;rw [h2];simp only [cop, execOp, resolve, List.map_toArray, zQ0, zTC, hx, hy];rfl
omit [Yl] in
theorem dmax {x y : Operand} {env : Env} (hx : env.val x = .int k a) (hy : env.val y = .int k b) :
 qYQ (kW P (cop (.call ⟨.builtin .max, #[x, y], ts⟩) ty) env H00) = some (fvv (.int k (if a < b then b else a))) := by
 have h2 : kV env.val (cop (.call ⟨.builtin .max, #[x, y], ts⟩) ty).op.operands.toList = [env.val x, env.val y] := rfl;unfold kW;rw [h2];simp only [cop, execOp, resolve, List.map_toArray, zQ0, zTC, hx, hy];rfl
omit [Yl] in
theorem qWE {p : Prop} [Decidable p] {α : Type} {x y : α} : cond (decide p) x y = if p then x else y := by
 by_cases h : p <;> simp [h]
theorem q58 {lo : Bool} {c : Call} {K : SV -> zIA R} (hl : nK env c.args = [x, y]) (hc : c.callee = .builtin (cond lo .min .max)) (e : (smm lo x y K).run = some r) :
 ∃ v, vL P (cond lo .min .max) c [x.enc, y.enc] (qA env) ty (qH h.l) = some (v.enc, qH h.l) ∧ v.ok h ∧ (K v).run = some r := by
 unfold smm at e;split at e
 ·rename_i k a k' b ha hb
  cases hk : decide (k = k') with
  | false => rw [hk] at e; cases e
  | true =>
    rw [hk] at e;have : k = k' := by simpa using hk
    subst this;have e1 := xX ha;have e2 := xX hb;refine ⟨_, ?_, by simp [SV.ok], e⟩;obtain ⟨cal, args, ts⟩ := c;simp only at hc hl;subst hc;unfold nK at hl
    have hal : ∃ p q, args = #[p, q] ∧ xM env p = x ∧ xM env q = y := by
     obtain ⟨l⟩ := args
     match l, hl with
     | [p, q], hl => simp at hl; exact ⟨p, q, rfl, hl.1, hl.2⟩
    obtain ⟨p, q, rfl, hp, hq⟩ := hal;have vp : (qT2 (qA env)).val p = .int k a := dL P (by rw [qO, hp, e1]; rfl);have vq : (qT2 (qA env)).val q = .int k b := dL P (by rw [qO, hq, e2]; rfl);unfold vL;rw [e1, e2];have hpl : plL [fvv (.int k a), fvv (.int k b)] = some [.int k a, .int k b] := rfl;rw [hpl]
    cases lo with
    | true =>
      simp only [cond_true];rw [dmin vp vq, qWE];simp [pp1, SV.enc, Ty.fv, fvv]
    | false =>
      simp only [cond_false];rw [dmax vp vq, qWE];simp [pp1, SV.enc, Ty.fv, fvv]
 ·cases e
def q9R (P : Program) (ts : Array TypeId) (x : SV) (h : SH) : Option SV := match tY P x.enc (qH h.l) with
 | some _ => none
 | none => zFE P ts x h
theorem q1D {v : SV} (ho : OkH P h) (hx : x.ok h) (e : q9R P ts x h = some v) : qDR P ts x.enc (qH h.l) = some v.enc ∧ v.ok h := by
 unfold q9R at e;split at e
 ·cases e
 ·rename_i hn;unfold qDR;rw [hn];exact q6F ho hx e
theorem qTF {lo hi : Option Operand} {K : SV -> zIA R} (e : (qUL P t s (lo.map (xM env)) (hi.map (xM env)) K).run = some r) :
 ∃ v, qN9 P (.slice t (.const (.string s)) (lo.map fun a => .const ((pl (qN (qA env) a)).getD undef)) (hi.map fun a => .const ((pl (qN (qA env) a)).getD undef)) none) = some v.enc ∧ v.ok h ∧ (K v).run = some r ∧ (plL ((lo.toList ++ hi.toList).map (qN (qA env)))).isSome = true := by
 obtain ⟨c, e1⟩ := qG e;obtain ⟨b, hb, _, e2⟩ := uQ e1;obtain ⟨a, ha, _, e3⟩ := uQ e2;have m : ∀ o : Option Operand, (o.map (xM env)).map SV.enc = o.map (qN (qA env)) := fun o => by cases o <;> simp [qO]
 rw [m] at hb ha;refine ⟨.d .str (s.extract a b), by rw [q3A (qE8 c) hb ha]; simp [SV.enc, Ty.fv, fvv], by simp [SV.ok], e3, ?_⟩
 have one : ∀ {o : Option Operand} {d most n : Nat}, bnd d most (o.map (qN (qA env))) = some n -> o = none ∨ ∃ a k i, o = some a ∧ qN (qA env) a = fvv (.int k i) := fun {o d most n} h => by
  rcases qW8 h with ⟨q, _⟩ | ⟨k, i, q, _⟩
  ·cases o with
   | none => exact .inl rfl
   | some a => cases q
  ·cases o with
   | none => cases q
   | some a => exact .inr ⟨a, k, i, rfl, by simpa using q⟩
 rcases one hb with rfl | ⟨x, k, i, rfl, hx⟩ <;> rcases one ha with rfl | ⟨y, k', i', rfl, hy⟩ <;> simp_all [plL, fvv, pl]
theorem qTA {ix : SV} {K : SV -> zIA R} (e : (qOX P t s ix K).run = some r) :
 ∃ v k i, ix.enc = fvv (.int k i) ∧ qN9 P (.index t (.const (.string s)) (.const (.int k i))) = some v.enc ∧ v.ok h ∧ (K v).run = some r := by
 unfold qOX at e;split at e
 ·rename_i k i hi;obtain ⟨c, e1⟩ := qG e;obtain ⟨b, hb, e2⟩ := run_bind e1;exact ⟨.d (.int .u8) b, k, i, xX hi, by rw [q1T (qE8 c) hb]; simp [SV.enc, Ty.fv, fvv], by simp [SV.ok], e2⟩
 ·cases e
theorem q12 {s d : TypeId} {K : SV -> zIA R} {F : zIA R} (e : (q13 P s d x K F).run = some r) : (∃ v, aO P (fun a => .convert s d a) x.enc = some v.enc ∧ v.ok h ∧ (K v).run = some r) ∨ F.run = some r := by
 unfold q13 at e;split at e
 ·rename_i u k' hs hd;split at e
  ·rename_i k a ha;exact .inl ⟨_, by rw [xX ha, q8D hs hd]; simp [SV.enc, Ty.fv, fvv], by simp [SV.ok], e⟩
  ·exact .inr e
 ·rename_i u hs hd;split at e
  ·rename_i a ha;exact .inl ⟨_, by rw [aY ha, q04 hs hd]; simp [SV.enc, Ty.fv, fvv], by simp [SV.ok], e⟩
  ·exact .inr e
 ·exact .inr e
def qKP (env : List SV) (parts : Array (Nat × Operand)) : List (Nat × SV) := parts.toList.map fun p => (p.1, xM env p.2)
theorem qER (env : List SV) (parts : Array (Nat × Operand)) : (parts.toList.map fun p => (p.1, qN (qA env) p.2)) = q95 (qKP env parts) := by
 simp [qKP, q95, qO]
omit [Yl] in
theorem qK0 {env : List SV} (ho : okL h env) (parts : Array (Nat × Operand)) : ∀ p ∈ qKP env parts, p.2.ok h := fun p hp => by
 obtain ⟨q, _, rfl⟩ := zQ9.1 hp;exact qDK ho _
def qW3 : Operand -> Operand -> Bool
 | .tmp i, .tmp j => Nat.beq i j
 | .const (.int k a), .const (.int k' b) => decide (k = k') && decide (a = b)
 | _, _ => false
omit [Yl] in
theorem qX6 {a b : Operand} (e : qW3 a b = true) : a = b := by
 unfold qW3 at e;split at e
 ·rw [zQN e]
 ·rw [zQM] at e;have h1 := of_decide_eq_true e.1;have h2 := of_decide_eq_true e.2;rw [h1, h2]
 ·cases e
def gv (o : Option SV) (h : SH) (K : SV -> SH -> zIA R) : zIA R := match o with
 | some v => K v h
 | none => .fail
def sop (P : Program) (o : Oper) (env : List SV) (k : Nat) (h : SH) (K : SV -> SH -> zIA R) : zIA R := match o.op with
 | .move x => K (xM env x) h
 | .assign x => K (xM env x) h
 | .pick c a b => (match asB (xM env c) with
   | some t => .ite t (K (xM env a) h) (K (xM env b) h)
   | none => .fail)
 | .alloc el => qV9 P el k h K
 | .box el x => zGP P el (xM env x) k h K
 | .build t parts => gv (qVE P t (qKP env parts)) h K
 | .buildSlice t len parts => mR P t len (qKP env parts) k h K
 | .load t a => q7U P t (xM env a) h fun v => K v h
 | .store t a x => qUQ P t (xM env a) (xM env x) h K
 | .binOp op t x y t2 => zE8 P op t t2 o.type (xM env x) (xM env y) h fun v => K v h
 | .unOp op t x => sun P op t o.type (xM env x) fun v => K v h
 | .convert s d x => cond (qTX (xM env x).enc) .fail (q13 P s d (xM env x) (fun v => K v h) (q0C P (fun a => .convert s d a) o.type (xM env x) fun v => K v h))
 | .makeFunc fn first cap => gv (qC2 fn (nK env first) (nK env cap)) h K
 | .makeSlice t l c => cond (qW3 l c) (q75 P t (xM env l) k h K) .fail
 | .slice t x lo hi none => (match asS (xM env x) with
   | some s => qUL P t s (lo.map (xM env)) (hi.map (xM env)) fun v => K v h
   | none => qYI P t (xM env x) (lo.map (xM env)) (hi.map (xM env)) h fun v => K v h)
 | .fieldAddr t x i => gv (rP P t (xM env x) i h) h K
 | .indexAddr t x ix => rM P t (xM env x) (xM env ix) h fun v => K v h
 | .index t x ix => (match asS (xM env x) with
   | some s => qOX P t s (xM env ix) fun v => K v h
   | none => qZ9 P t (xM env x) (xM env ix) fun v => K v h)
 | .extract t i => gv (qGF (xM env t) i) h K
 | .makeMap _ none => qP5 P k h K
 | .lookup t m kx ok => qM7 P t (xM env m) (xM env kx) ok h fun v => K v h
 | .insert t m kx x => pY P t (xM env m) (xM env kx) (xM env x) h K
 | .mapEntry t m kx => qDI P t (xM env m) (xM env kx) h K
 | .entryStore _ m st x => mG P (xM env m) (xM env st) (xM env x) h K
 | .range t x => qMT P t (xM env x) k h K
 | .call c => (match c.callee, nK env c.args with
   | .builtin .append, [x, y] => qOI P c.argTypes.toList x y k h K
   | .builtin .len, [x] => cond (q0X P c.argTypes) (match asS x with
     | some s => K (.d (.int .i64) (s.size : Int)) h
     | none => .fail) (match q7Y P c.argTypes x h with
     | some v => K v h
     | none => gv (q9R P c.argTypes x h) h K)
   | .builtin .min, [x, y] => smm true x y fun v => K v h
   | .builtin .max, [x, y] => smm false x y fun v => K v h
   | _, _ => .fail)
 | _ => .fail
omit [Yl] in
theorem qV6 {o : Option SV} {K : SV -> SH -> zIA R} (e : (gv o h K).run = some r) : ∃ v, o = some v ∧ (K v h).run = some r := by
 unfold gv at e;split at e
 ·exact ⟨_, rfl, e⟩
 ·cases e
theorem q50 {k : Nat} {K : SV -> SH -> zIA R} (ho : OkH P h) (he : okL h env) (e : (sop P o env k h K).run = some r) :
 ∃ v h', qDM P o (qA env) k (qH h.l) = some (v.enc, qH h'.l) ∧ Post P h h' v ∧ (K v h').run = some r := by
 have same : ∀ {v : SV}, v.ok h -> Post P h h v := fun hv => ⟨.refl _, ho, hv⟩
 have sv := fun x => qDK (h := h) he x
 unfold sop at e;unfold qDM;split at e
 ·rename_i x ho';exact ⟨_, _, by simp only [ho', qO], same (sv x), e⟩
 ·rename_i x ho';exact ⟨_, _, by simp only [ho', qO], same (sv x), e⟩
 ·rename_i c a b ho';split at e
  ·rename_i t ht;have h1 := rG ht
   rcases run_ite e with ⟨z, e1⟩ | ⟨z, e1⟩
   ·exact ⟨_, _, by simp only [ho', qO, h1, fvv, z, cond_true], same (sv a), e1⟩
   ·exact ⟨_, _, by simp only [ho', qO, h1, fvv, z, cond_false], same (sv b), e1⟩
  ·cases e
 ·rename_i el ho';rw [ho'];exact qUU ho e
 ·rename_i el x ho';rw [ho'];simp only [qO];exact q7S ho (sv x) e
 ·rename_i t parts ho';rw [ho'];obtain ⟨v, h1, h2⟩ := qV6 e;have h3 := qVZ (qK0 he parts) h1;exact ⟨v, h, by simp only [qER, h3.1, pp1], same h3.2, h2⟩
 ·rename_i t len parts ho';rw [ho'];simp only [qER];exact qDZ ho (qK0 he parts) e
 ·rename_i t a ho';rw [ho'];obtain ⟨v, h1, h2, h3⟩ := q03 ho (sv a) e;exact ⟨v, h, by simp only [qO, h1, pp1], same h2, h3⟩
 ·rename_i t a x ho';rw [ho'];obtain ⟨h', h1, h2, h3, h4⟩ := qUX ho (sv a) (sv x) e;exact ⟨_, h', by simp only [qO, h1, ppS]; simp [SV.enc, qA], ⟨h2, h3, by simp [SV.ok, okL]⟩, h4⟩
 ·rename_i op t x y t2 ho';rw [ho'];obtain ⟨v, h1, h2, h3⟩ := q74 ho (sv x) e;exact ⟨v, h, by simp only [qO, h1, pp1], same h2, h3⟩
 ·rename_i op t x ho';rw [ho'];obtain ⟨v, h1, h2, h3⟩ := zAW (h := h) e;exact ⟨v, h, by simp only [qO, h1, pp1], same h2, h3⟩
 ·rename_i s d x ho';rw [ho']
  cases hp : qTX (xM env x).enc with
  | true => rw [hp] at e; cases e
  | false =>
    rw [hp] at e;have e1 : (q13 P s d (xM env x) (fun v => K v h) (q0C P (fun a => .convert s d a) o.type (xM env x) fun v => K v h)).run = some r := e;rcases q12 (h := h) e1 with ⟨v, h1, h2, h3⟩ | e1
    ·exact ⟨v, h, by simp only [qO, hp, cond_false, h1, pp1], same h2, h3⟩
    ·obtain ⟨v, h1, h2, h3, _⟩ := qQ1 (h := h) e1;exact ⟨v, h, by simp only [qO, hp, cond_false, h1, pp1], same h2, h3⟩
 ·rename_i fn first cap ho'
  rw [ho'];obtain ⟨v, h1, h2⟩ := qV6 e;have h3 := qK7 (pR he first) (pR he cap) h1;exact ⟨v, h, by simp only [nA, h3.1, pp1], same h3.2, h2⟩
 ·rename_i t l c ho';rw [ho'];obtain ⟨h1, h2⟩ := qG e;have := qX6 h1;subst this;simp only [qO];exact q3L ho h2
 ·rename_i t x lo hi ho';rw [ho'];split at e
  ·rename_i s hs;obtain ⟨v, h1, h2, h3, h4⟩ := qTF (h := h) e;obtain ⟨vs, hvs⟩ := zR0.1 h4;refine ⟨v, h, ?_, same h2, h3⟩;have hx : qN (qA env) x = .f (.v (.string s)) := by rw [qO]; exact aY hs
   simp only [hx, hvs, h1, pp1]
  obtain ⟨v, h1, h2, h3⟩ := qYA ho (sv x) e;refine ⟨v, h, ?_, same h2, h3⟩;have m : ∀ o : Option Operand, o.map (qN (qA env)) = (o.map (xM env)).map SV.enc := fun o => by cases o <;> simp [qO]
  simp only [qO, m]
  have ns : ∀ s, (xM env x).enc ≠ .f (.v (.string s)) := fun s hs => by
   rw [hs] at h1;simp only [wR] at h1;cases h1
  split
  ·rename_i s hs; exact absurd hs (ns s)
  ·rw [h1]; rfl
 ·rename_i t x i ho';rw [ho'];obtain ⟨v, h1, h2⟩ := qV6 e;have h3 := qF9 (sv x) h1;exact ⟨v, h, by simp only [qO, h3.1, pp1], same h3.2, h2⟩
 ·rename_i t x ix ho';rw [ho'];obtain ⟨v, h1, h2, h3⟩ := qHH ho (sv x) e;exact ⟨v, h, by simp only [qO, h1, pp1], same h2, h3⟩
 ·rename_i t x ix ho';rw [ho'];split at e
  ·rename_i s hs;obtain ⟨v, k', i, h0, h1, h2, h3⟩ := qTA (h := h) e;refine ⟨v, h, ?_, same h2, h3⟩;have hx := aY hs;have hpl : pl (fvv (.int k' i)) = some (.int k' i) := rfl;simp only [qO, hx, h0, hpl];simp only [fvv, h1, pp1]
  obtain ⟨v, h1, h2, h3, l, hl⟩ := qZH (sv x) e;refine ⟨v, h, ?_, same h2, h3⟩;simp only [qO];rw [hl] at h1 ⊢;simp only [SV.enc] at h1 ⊢;rw [h1];rfl
 ·rename_i t i ho';rw [ho'];obtain ⟨v, h1, h2⟩ := qV6 e;have h3 := qMR (sv t) h1;exact ⟨v, h, by simp only [qO, h3.1, pp1], same h3.2, h2⟩
 ·rename_i ho';rw [ho'];exact qO6 ho e
 ·rename_i t m kx ok ho';rw [ho'];obtain ⟨v, h1, h2, h3⟩ := qSR e;exact ⟨v, h, by simp only [qO, h1, pp1], same h2, h3⟩
 ·rename_i t m kx x ho';rw [ho'];obtain ⟨h', h1, h2, h3, h4⟩ := qG8 ho e;exact ⟨_, h', by simp only [qO, h1, ppS]; simp [SV.enc, qA], ⟨h2, h3, by simp [SV.ok, okL]⟩, h4⟩
 ·rename_i t m kx ho';rw [ho'];simp only [qO];exact qKV ho e
 ·rename_i t m st x ho';rw [ho'];obtain ⟨h', h1, h2, h3, h4⟩ := qD0 ho e;exact ⟨_, h', by simp only [qO, h1, ppS]; simp [SV.enc, qA], ⟨h2, h3, by simp [SV.ok, okL]⟩, h4⟩
 ·rename_i t x ho';rw [ho'];simp only [qO];exact qSH ho e
 ·rename_i c ho';rw [ho'];have ha := nA env c.args;have hao := pR he c.args;split at e
  ·rename_i x y hc hl;rw [hl] at ha hao;simp only [okL] at hao;simp only [hc, ha, qA, u6];exact qST ho hao.1 hao.2.1 e
  ·rename_i x hc hl;rw [hl] at ha hao;simp only [okL] at hao
   cases hst : q0X P c.argTypes with
   | true =>
     rw [hst] at e;simp only [cond_true] at e;split at e
     ·rename_i s hs;refine ⟨_, h, ?_, same (by simp [SV.ok]), e⟩;obtain ⟨cal, args, ts⟩ := c;simp only at hc hl hst;subst hc
      obtain ⟨p, rfl, hp⟩ : ∃ p, args = #[p] ∧ xM env p = x := by
       unfold nK at hl;obtain ⟨l⟩ := args
       match l, hl with
       | [p], hl => simp at hl; exact ⟨p, rfl, hl⟩
      have vp : (qT2 (qA env)).val p = .string s := dL P (by rw [qO, hp, aY hs]; rfl);simp only [u6, ha, qA, hst, cond_true];unfold vL;have hpl : plL [x.enc] = some [.string s] := by rw [aY hs]; rfl
      rw [hpl];simp only;rw [qRG hst vp];simp [pp1, SV.enc, Ty.fv, fvv]
     ·cases e
   | false =>
     rw [hst] at e;simp only [cond_false] at e;split at e
     ·rename_i v hv;have h3 := q1G hv;refine ⟨v, h, ?_, same h3.2, e⟩;simp only [hc, ha, qA, u6, hst, cond_false, h3.1, pp1]
     obtain ⟨v, h1, h2⟩ := qV6 e;have h3 := q1D ho hao.1 h1;refine ⟨v, h, ?_, same h3.2, h2⟩;simp only [hc, ha, qA, u6, hst, cond_false, h3.1, pp1]
  ·rename_i x y hc hl;rw [hl] at ha;obtain ⟨v, h1, h2, h3⟩ := q58 (h := h) (lo := true) (ty := o.type) hl hc e;exact ⟨v, h, by simp only [hc, ha, qA, u6]; exact h1, same h2, h3⟩
  ·rename_i x y hc hl;rw [hl] at ha;obtain ⟨v, h1, h2, h3⟩ := q58 (h := h) (lo := false) (ty := o.type) hl hc e;exact ⟨v, h, by simp only [hc, ha, qA, u6]; exact h1, same h2, h3⟩
  ·cases e
 ·cases e
def zE3 (P : Program) (o : Oper) (env : List SV) (k : Nat) (h : SH) (K : SV -> SH -> zIA R) : zIA R := match o.op with
 | .entry it => qU3 P (xM env it) h K
 | _ => sop P o env k h K
theorem q8T {k : Nat} {K : SV -> SH -> zIA R} (ho : OkH P h) (he : okL h env) (e : (zE3 P o env k h K).run = some r) :
 ∃ v h', q1K P o (qA env) k (qH h.l) = some (v.enc, qH h'.l) ∧ Post P h h' v ∧ (K v h').run = some r := by
 unfold zE3 at e;split at e
 ·rename_i it ho';obtain ⟨v, h1, h2, h3⟩ := qW2 ho e;refine ⟨v, h, ?_, ⟨.refl _, ho, h2⟩, h3⟩;unfold q1K;rw [ho'];simp only [qO, h1, pp1]
 ·obtain ⟨v, h', h1, h2, h3⟩ := q50 ho he e;exact ⟨v, h', qY3 h1, h2, h3⟩
end
end Go.Sv
namespace Go.Sv
open Go.Idl
variable {as : List SV} {el ty : TypeId} {g : FuncId} {h' : SH} {k m n o : Nat} {v : SV}
noncomputable section
variable [Gc]
variable [Yl]
variable {P : Program} {h : SH} {R : Type} {r : R} {tab : fM}
omit [Yl] in
theorem qGI : ∀ (cs : List FV) (ph : PHp) (n : Nat), qIR (fz1 P n) (cs.map .f) ph = some (cs, ph)
 | [], ph, n => rfl
 | c :: cs, ph, n => by
   have e : fz1 P n ph (.f c) = some (c, ph) := by cases n <;> rfl
   show (match fz1 P n ph (.f c) with
    | some (y, ph1) => (match qIR (fz1 P n) (cs.map .f) ph1 with
      | some (ys, ph2) => some (y :: ys, ph2)
      | none => none)
    | none => none) = _
   rw [e];simp only [qGI cs ph n]
theorem q7C {gr : Bool} {g w : Nat} {t : Ty} {xs : List t.sem} (ho : OkH P h) (hk : slk k h.l = some (.list el gr g w t xs)) (hn : n = xs.length) (hom : o + m <= n) :
 fz1 P 4 (qH h.l) (.own k n o m) = some (.l el m (((xs.drop o).take m).flatMap t.cells), qH (h.del k).l) := by
 have hl := ho.list _ _ _ _ _ _ _ hk;simp only [fz1, yI hk];rw [show (SO.list el gr g w t xs).enc.el = el from rfl, hl.2.1];simp only [qZ, hn, nG, cond_true];rw [show (SO.list el gr g w t xs).enc.cs = (xs.flatMap t.cells).map .f from rfl, <- zTF, <- zTG, bE, mV, qGI];show some _ = some (_, qH (sdl k h.l));rw [pM]
def zDI (el : TypeId) (t : Ty) (k g : Nat) (f : List t.sem -> List t.sem) (h : SH) : Option (List t.sem × SH) := match slk k h.l with
 | some (.list el' _ g' _ u xs) => cond (Nat.beq el' el && Nat.beq g g') (match qIC u t xs with
   | some xs => some (f xs, h.del k)
   | none => none) none
 | _ => none
def zF3 (P : Program) (ty el : TypeId) (t : Ty) (h : SH) : Option (List t.sem × SH) := match y9 P ty with
 | some el' => cond (Nat.beq el' el) (some ([], h)) none
 | none => none
def q18 (P : Program) (ty : TypeId) : (t : Ty) -> SV -> SH -> Option (t.sem × SH)
 | .list el t, .own k g _, h => zDI el t k g (fun xs => xs) h
 | .list el t, .sl k g _ o m, h => zDI el t k g (fun xs => (xs.drop o).take m) h
 | .list el t, .c (.slice none 0 0), h => zF3 P ty el t h
 | t, v, h => match t.zL0 v with
   | some x => some (x, h)
   | none => none
omit [Yl] in
theorem qKG : ∀ {t : Ty} {x : t.sem}, t.one = true -> rt0 P ty (.f (t.fv x)) = .f (t.fv x)
 | .int _, _, _ => rfl
 | .bool, _, _ => rfl
 | .str, _, _ => rfl
 | .raw, _, _ => rfl
 | .list _ _, _, _ => rfl
 | .unit, _, e => by cases e
 | .pair _ _, _, e => by cases e
theorem qZE {ty : TypeId} {t : Ty} {g : Nat} {f : List t.sem -> List t.sem} {x : List t.sem} (ho : OkH P h) (hs : q3B h k g n) (hom : o + m <= n) (hf : ∀ xs : List t.sem, xs.length = n -> f xs = (xs.drop o).take m) (e : zDI el t k g f h = some (x, h')) :
 fz1 P 4 (qH h.l) (.own k n o m) = some ((Ty.list el t).fv x, qH h'.l) ∧ Keep h h' ∧ OkH P h' := by
 unfold zDI at e;split at e
 ·rename_i el' gr g' w u xs hk
  cases hc : (Nat.beq el' el && Nat.beq g g') with
  | false => rw [hc] at e; cases e
  | true =>
    rw [hc] at e;rw [zQM] at hc;have he : el' = el := zQN hc.1;have hg : g = g' := zQN hc.2;subst he hg;simp only [cond_true] at e;split at e
    ·rename_i ys hys;cases oN hys;cases e;have hn := hs.2 _ _ _ _ _ hk;have hd := rE (k := k) ho;refine ⟨?_, hd.1, hd.2⟩;rw [q7C ho hk hn hom, hf _ hn.symm];show some (FV.l el' m _, _) = some (FV.l el' _ _, _);rw [zRS, zTK, zT2 (by omega)]
    ·cases e
 ·cases e
theorem qQL {t : Ty} {x : t.sem} (ho : OkH P h) (hv : v.ok h) (e : q18 P ty t v h = some (x, h')) :
 ∃ y, fz1 P 4 (qH h.l) v.enc = some (y, qH h'.l) ∧ rt0 P ty (.f y) = .f (t.fv x) ∧ t.one = true ∧ Keep h h' ∧ OkH P h' := by
 unfold q18 at e;split at e
 ·rename_i el t k g n;simp only [SV.ok] at hv;obtain ⟨h1, h2, h3⟩ := qZE (ty := ty) (n := n) (o := 0) (m := n) ho hv (by omega) (fun xs hl => by rw [zR3, <- hl, zS7]) e;exact ⟨_, by simp only [SV.enc]; exact h1, qKG rfl, rfl, h2, h3⟩
 ·rename_i el t k g n o m;simp only [SV.ok] at hv;obtain ⟨h1, h2, h3⟩ := qZE (ty := ty) (n := n) (o := o) (m := m) ho hv.1 hv.2 (fun xs hl => rfl) e;exact ⟨_, by simp only [SV.enc]; exact h1, qKG rfl, rfl, h2, h3⟩
 ·rename_i el t;unfold zF3 at e;split at e
  ·rename_i el' hel
   cases hc : Nat.beq el' el with
   | false => rw [hc] at e; cases e
   | true =>
     rw [hc] at e;cases e;have he : el' = el := zQN hc;subst he;refine ⟨.v (.slice none 0 0), by simp only [SV.enc, fvv, fz1], ?_, rfl, .refl _, ho⟩
     show (match y9 P ty with
      | some el => PV.f (.l el 0 [])
      | none => fvv (.slice none 0 0)) = _
     rw [hel];rfl
  ·cases e
 ·split at e
  ·rename_i y hy;cases e;obtain ⟨h1, h2⟩ := qHP hy;exact ⟨_, by rw [h1]; rfl, qKG h2, h2, .refl _, ho⟩
  ·cases e
def qOP (P : Program) (t : Ty) (tys : List TypeId) (l : List SV) (h : SH) : Option (t.sem × List TypeId × List SV × SH) := match tys, l with
 | ty :: tys, v :: l => (match q18 P ty t v h with
   | some (x, h') => some (x, tys, l, h')
   | none => none)
 | _, _ => none
def Ty.zK2 (P : Program) : (t : Ty) -> List TypeId -> List SV -> SH -> Option (t.sem × List TypeId × List SV × SH)
 | .unit, tys, l, h => some ((), tys, l, h)
 | .pair a b, tys, l, h => match a.zK2 P tys l h with
   | some (x, zL2, l1, h1) => (match b.zK2 P zL2 l1 h1 with
     | some (y, zOD, l2, h2) => some ((x, y), zOD, l2, h2)
     | none => none)
   | none => none
 | .int k, tys, l, h => qOP P (.int k) tys l h
 | .bool, tys, l, h => qOP P .bool tys l h
 | .str, tys, l, h => qOP P .str tys l h
 | .raw, tys, l, h => qOP P .raw tys l h
 | .list el t, tys, l, h => qOP P (.list el t) tys l h
def zGD (P : Program) (t : Ty) (tys : List TypeId) (l : List SV) (h : SH) (x : t.sem) (zJM : List TypeId) (l' : List SV) (h' : SH) : Prop :=
 okL h' l' ∧ Keep h h' ∧ OkH P h' ∧ ∃ ys : List FV, (∀ zs p, qIR (fz1 P 4) (qA l') (qH h'.l) = some (zs, p) -> qIR (fz1 P 4) (qA l) (qH h.l) = some (ys ++ zs, p)) ∧
  ∀ zs : List PV, rtL (rt0 P) tys (ys.map .f ++ zs) = (t.cells x).map .f ++ rtL (rt0 P) zJM zs
theorem pU {t : Ty} {tys zJM : List TypeId} {l l' : List SV} {x : t.sem} (ho : OkH P h) (hl : okL h l) (e : qOP P t tys l h = some (x, zJM, l', h')) : zGD P t tys l h x zJM l' h' := by
 unfold qOP at e;split at e
 ·rename_i ty tys v l;split at e
  ·rename_i y h1 hd;cases e;simp only [okL] at hl;obtain ⟨y, a1, a2, a3, a4, a5⟩ := qQL ho hl.1 hd;refine ⟨qL a4 hl.2, a4, a5, [y], fun zs p hz => ?_, fun zs => ?_⟩
   ·simp only [qA, qIR, a1, hz]; rfl
   ·show rt0 P ty (.f y) :: rtL (rt0 P) _ zs = _;rw [a2, Ty.cells_one a3]; rfl
  ·cases e
 ·cases e
theorem qH1 : ∀ {t : Ty} {tys zJM : List TypeId} {l l' : List SV} {h : SH} {x : t.sem} {h' : SH}, OkH P h -> okL h l -> t.zK2 P tys l h = some (x, zJM, l', h') -> zGD P t tys l h x zJM l' h'
 | .unit, tys, zJM, l, l', h, x, h', ho, hl, e => by
   cases e;exact ⟨hl, .refl _, ho, [], fun zs p hz => hz, fun zs => rfl⟩
 | .int k, tys, zJM, l, l', h, x, h', ho, hl, e => pU ho hl e
 | .bool, tys, zJM, l, l', h, x, h', ho, hl, e => pU ho hl e
 | .str, tys, zJM, l, l', h, x, h', ho, hl, e => pU ho hl e
 | .raw, tys, zJM, l, l', h, x, h', ho, hl, e => pU ho hl e
 | .list el t, tys, zJM, l, l', h, x, h', ho, hl, e => pU ho hl e
 | .pair a b, tys, zJM, l, l', h, x, h', ho, hl, e => by
   unfold Ty.zK2 at e;split at e
   ·rename_i x1 zL2 l1 h1 hd1;split at e
    ·rename_i y zOD l2 h2 hd2;cases e;obtain ⟨a1, a2, a3, ys, a4, a5⟩ := qH1 ho hl hd1;obtain ⟨b1, b2, b3, zs, b4, b5⟩ := qH1 a3 a1 hd2;refine ⟨b1, a2.trans b2, b3, ys ++ zs, fun us p hu => ?_, fun us => ?_⟩
     ·rw [zRW];exact a4 _ _ (b4 _ _ hu)
     ·rw [zRI, zRW, a5, b5];show _ = (a.cells x1 ++ b.cells y).map PV.f ++ _;rw [zRI, zRW]
    ·cases e
   ·cases e
def q9L (P : Program) (ty : TypeId) (t : Ty) (v : SV) (h : SH) : Option (t.sem × SH) := cond t.one (match v with
 | .agg _ => none
 | v => q18 P ty t v h) (match v with
 | .agg l => (match t.zK2 P (tL P 8 ty) l h with
   | some (x, _, [], h') => some (x, h')
   | _ => none)
 | _ => none)
theorem qDH {t : Ty} {x : t.sem} (ho : OkH P h) (hv : v.ok h) (e : q9L P ty t v h = some (x, h')) :
 ∃ y, fzP P (qH h.l) v.enc = some (y, qH h'.l) ∧ rt1 P ty y = t.pv x ∧ Keep h h' ∧ OkH P h' := by
 unfold q9L at e
 cases ht : t.one with
 | true =>
   rw [ht] at e;simp only [cond_true] at e;split at e
   ·cases e
   ·rename_i hna;obtain ⟨y, h1, h2, h3, h4, h5⟩ := qQL ho hv e;refine ⟨.f y, ?_, ?_, h4, h5⟩
    ·cases v with
     | agg l => exact absurd rfl (hna l)
     | opt b k o w => cases b <;> (simp only [SV.enc, fvv, fzP, cond_true, cond_false] at h1 ⊢; rw [h1])
     | _ => simp only [SV.enc, fvv, fzP] at h1 ⊢; rw [h1]
    ·show rt0 P ty (.f y) = _;rw [h2];unfold Ty.pv;rw [ht]; rfl
 | false =>
   rw [ht] at e;simp only [cond_false] at e;split at e
   ·rename_i l;split at e
    ·rename_i x1 zL2 h1 hd;cases e;simp only [SV.ok] at hv;obtain ⟨a1, a2, a3, ys, a4, a5⟩ := qH1 ho hv hd;refine ⟨.agg (ys.map .f), ?_, ?_, a2, a3⟩
     ·have := a4 [] (qH h'.l) (by simp [qA, qIR]);simp only [SV.enc, fzP, this, zSK]
     ·show PV.agg (rtL (rt0 P) (tL P 8 ty) (ys.map .f)) = _;have := a5 [];rw [zSK] at this;rw [this];unfold Ty.pv;rw [ht];cases zL2 <;> simp [rtL]
    ·cases e
   ·cases e
def vJ (P : Program) : List TypeId -> (ts : List Ty) -> List SV -> SH -> Option (TyL ts × SH)
 | _, [], [], h => some ((), h)
 | ty :: _, [t], [v], h => q9L P ty t v h
 | ty :: tys, t :: u :: ts, v :: vs, h => match q9L P ty t v h with
   | some (x, h1) => (match vJ P tys (u :: ts) vs h1 with
     | some (y, h2) => some ((x, y), h2)
     | none => none)
   | none => none
 | _, _, _, _ => none
theorem dD : ∀ {tys : List TypeId} {ts : List Ty} {vs : List SV} {h : SH} {x : TyL ts} {h' : SH}, OkH P h -> okL h vs -> vJ P tys ts vs h = some (x, h') ->
 ∃ ys, fzA P (qA vs) (qH h.l) = some (ys, qH h'.l) ∧ rtL (rt1 P) tys ys = pvL ts x ∧ Keep h h' ∧ OkH P h'
 | tys, [], [], h, x, h', ho, hv, e => by
   unfold vJ at e;cases e;refine ⟨[], rfl, ?_, .refl _, ho⟩;cases tys <;> rfl
 | ty :: tys, [t], [v], h, x, h', ho, hv, e => by
   unfold vJ at e;simp only [okL] at hv;obtain ⟨y, h1, h2, h3, h4⟩ := qDH ho hv.1 e;refine ⟨[y], ?_, ?_, h3, h4⟩
   ·simp only [qA, fzA, h1]
   ·show rt1 P ty y :: rtL (rt1 P) tys [] = [t.pv x];rw [h2];cases tys <;> rfl
 | ty :: tys, t :: u :: ts, v :: vs, h, x, h', ho, hv, e => by
   unfold vJ at e;simp only [okL] at hv;split at e
   ·rename_i x1 h1 hd;split at e
    ·rename_i y1 h2 hd2;cases e;obtain ⟨y, a1, a2, a3, a4⟩ := qDH ho hv.1 hd;obtain ⟨ys, b1, b2, b3, b4⟩ := dD a4 (qL a3 hv.2) hd2;refine ⟨y :: ys, ?_, ?_, a3.trans b3, b4⟩
     ·simp only [qA, fzA, a1, b1]
     ·show rt1 P ty y :: rtL (rt1 P) tys ys = t.pv x1 :: pvL (u :: ts) y1;rw [a2, b2]
    ·cases e
   ·cases e
 | [], [_], [_], _, _, _, _, _, e => by unfold vJ at e; cases e
 | [], _ :: _ :: _, _ :: _, _, _, _, _, _, e => by unfold vJ at e; cases e
 | tys, [], _ :: _, _, _, _, _, _, e => by cases tys <;> (unfold vJ at e; cases e)
 | tys, _ :: ts, [], _, _, _, _, _, e => by cases tys <;> cases ts <;> (unfold vJ at e; cases e)
 | tys, [_], _ :: _ :: _, _, _, _, _, _, e => by cases tys <;> (unfold vJ at e; cases e)
def Ty.sv (t : Ty) (x : t.sem) : SV := cond t.one (.d t x) (.agg (t.svs x))
theorem o8 (t : Ty) (x : t.sem) : (t.sv x).enc = t.pv x := by
 unfold Ty.sv Ty.pv;cases t.one <;> simp [SV.enc, bH]
omit [Yl] in
theorem qKY (t : Ty) (x : t.sem) : (t.sv x).ok h := by
 unfold Ty.sv;cases t.one
 ·simp only [cond_false, SV.ok]; exact qK8 t x
 ·simp [SV.ok]
def svL : (ts : List Ty) -> TyL ts -> List SV
 | [], _ => []
 | [t], x => [t.sv x]
 | t :: u :: ts, x => t.sv x.1 :: svL (u :: ts) x.2
theorem qOL : ∀ (ts : List Ty) (x : TyL ts), qA (svL ts x) = pvL ts x
 | [], _ => by simp [svL, pvL, qA]
 | [t], x => by simp [svL, pvL, qA, o8]
 | t :: u :: ts, x => by
   show qA (t.sv x.1 :: svL (u :: ts) x.2) = t.pv x.1 :: pvL (u :: ts) x.2;simp only [qA, o8, qOL (u :: ts)]
omit [Yl] in
theorem qEX : ∀ (ts : List Ty) (x : TyL ts), okL h (svL ts x)
 | [], _ => by simp [svL, okL]
 | [t], x => by simp [svL, okL, qKY]
 | t :: u :: ts, x => by
   show okL h (t.sv x.1 :: svL (u :: ts) x.2);simp only [okL];exact ⟨qKY t x.1, qEX (u :: ts) x.2⟩
def qLS (ts : List Ty) (x : TyL ts) : SV := match svL ts x with
 | [v] => v
 | vs => .tup vs
theorem qL1 (ts : List Ty) (x : TyL ts) : (qLS ts x).enc = uR ts x := by
 unfold qLS uR;rw [<- qOL]
 match svL ts x with
 | [] => simp [qA, qDN, SV.enc]
 | [v] => simp [qA, qDN]
 | a :: b :: l => simp [qA, qDN, SV.enc]
omit [Yl] in
theorem qRX (ts : List Ty) (x : TyL ts) : (qLS ts x).ok h := by
 unfold qLS;have := qEX (h := h) ts x;split
 ·rename_i v hv;rw [hv] at this;simp only [okL] at this;exact this.1
 ·simp only [SV.ok]; exact this
def qWV (tab : fM) (T : xW) : Prop := ∀ g ent, slT g T = some ent -> ∀ x, tab g (pvL ent.as x) = (ent.F x).map (uR ent.rs)
def qSM (P : Program) (T : xW) (d : Bool) (g : FuncId) (as : List SV) (h : SH) (K : SV -> SH -> zIA R) : zIA R := match slT g T, P.funcs[g]? with
 | some ent, some fn => (match vJ P fn.params.toList ent.as as h with
   | some (x, h1) => .bind (ent.F x) fun y => cond d (cond (vY (uR ent.rs y) || (qA as).all qUH) (K (qLS ent.rs y) h) .fail) (K (qLS ent.rs y) (cond (vY (uR ent.rs y)) h h1))
   | none => .fail)
 | _, _ => .fail
theorem q1U {T : xW} (ht : qWV tab T) {K : SV -> SH -> zIA R} (ho : OkH P h) (ha : okL h as) (e : (qSM P T false g as h K).run = some r) :
 ∃ v h', aB P tab g (qA as) (qH h.l) = .ok v.enc (qH h'.l) ∧ Post P h h' v ∧ (K v h').run = some r := by
 unfold qSM at e;split at e
 ·rename_i ent fn hent hfn;split at e
  ·rename_i x h1 hx;obtain ⟨y, hy, e1⟩ := run_bind e;obtain ⟨ys, a1, a2, a3, a4⟩ := dD ho ha hx;have e2 : (K (qLS ent.rs y) (cond (vY (uR ent.rs y)) h h1)).run = some r := e1;refine ⟨_, _, ?_, ⟨?_, ?_, qRX _ _⟩, e2⟩
   ·unfold aB;rw [a1];simp only;rw [show rtA P g ys = pvL ent.as x by unfold rtA; rw [hfn]; exact a2, ht g ent hent x, hy];simp only [zQW, qL1];cases vY (uR ent.rs y) <;> rfl
   ·cases vY (uR ent.rs y)
    ·exact a3
    ·exact .refl _
   ·cases vY (uR ent.rs y)
    ·exact a4
    ·exact ho
  ·cases e
 ·cases e
theorem qZS {T : xW} (ht : qWV tab T) {K : SV -> SH -> zIA R} (ho : OkH P h) (ha : okL h as) (e : (qSM P T true g as h K).run = some r) :
 ∃ v h', qDA P tab g (qA as) (qH h.l) = .ok v.enc (qH h'.l) ∧ Post P h h' v ∧ (K v h').run = some r := by
 unfold qSM at e;split at e
 ·rename_i ent fn hent hfn;split at e
  ·rename_i x h1 hx;obtain ⟨y, hy, e1⟩ := run_bind e;obtain ⟨ys, a1, a2, a3, a4⟩ := dD ho ha hx;obtain ⟨c, e2⟩ := qG (show (cond (vY (uR ent.rs y) || (qA as).all qUH) (K (qLS ent.rs y) h) .fail : zIA R).run = some r from e1);refine ⟨_, _, ?_, ⟨.refl _, ho, qRX _ _⟩, e2⟩;unfold qDA;rw [a1];simp only;rw [show rtA P g ys = pvL ent.as x by unfold rtA; rw [hfn]; exact a2, ht g ent hent x, hy];simp only [zQW, qL1, c, cond_true]
  ·cases e
 ·cases e
def qGB (fv : SV) (args : List SV) : Option (FuncId × List SV) := match fv with
 | .c (.func (.func g) a c) => cond (a.toList.isEmpty && c.toList.isEmpty) (some (g, args)) none
 | .fn g first cap => some (g, first ++ (args ++ cap))
 | _ => none
theorem qEM {fv : SV} {args : List SV} (hf : fv.ok h) (ha : okL h args) (e : qGB fv args = some (g, as)) : target fv.enc (qA args) = some (g, qA as) ∧ okL h as := by
 unfold qGB at e;split at e
 ·rename_i g' a c
  cases hc : (a.toList.isEmpty && c.toList.isEmpty) with
  | false => rw [hc] at e; cases e
  | true =>
    rw [hc] at e;cases e;exact ⟨by simp only [target, SV.enc, fvv, hc, cond_true], ha⟩
 ·rename_i g' first cap
  cases e;simp only [SV.ok] at hf;exact ⟨by simp only [target, SV.enc, qAV], mQ hf.1 (mQ ha hf.2)⟩
 ·cases e
def q52 (P : Program) (T : xW) (d : Bool) (f : SV) (args : List SV) (h : SH) (K : SV -> SH -> zIA R) : zIA R := match qGB f args with
 | some (g, as) => qSM P T d g as h K
 | none => .fail
def q6M (P : Program) (T : xW) (d : Bool) (k : Nat) (o : Oper) (env : List SV) (h : SH) (K : SV -> SH -> zIA R) : zIA R := match o.op with
 | .call ⟨.value f, args, _⟩ => q52 P T d (xM env f) (nK env args) h K
 | _ => sop P o env k h K
def q6V (P : Program) (G : Nat -> Bool) (CI : CIT) : Prop := ∀ {R : Type} (nm : Nm) (f : FuncId) (as : List SV) (h : SH) (K : SV -> SH -> zIA R) (r : R), OkH P h -> okL h as -> (CI R nm f as h K).run = some r ->
 qV7 P G nm f (qA as) (qH h.l) fun v p => ∃ v' h', v = v'.enc ∧ p = qH h'.l ∧ Post P h h' v' ∧ (K v' h').run = some r
def qQW (p : Nat -> Bool) (env : List SV) : List (Nat × SO) -> Bool
 | [] => true
 | (k, _) :: l => (!p k || yD k (qA env)) && qQW p env l
theorem qKS {p : Nat -> Bool} {env : List SV} : ∀ {l : List (Nat × SO)}, qQW p env l = true -> clean p (qA env) (qH l) = true
 | [], _ => rfl
 | (k, o) :: l, h => by
   have h : ((!p k || yD k (qA env)) && qQW p env l) = true := h;show ((!p k || yD k (qA env)) && clean p (qA env) (qH l)) = true;rw [zQM] at h ⊢;exact ⟨h.1, qKS h.2⟩
section
variable {Γ : Type}
def q5E (P : Program) (T : xW) (CI : CIT) (Y : YI Γ) (nm : Nm) (f : SV) (args : List SV) (g : Γ) (env : List SV) (h : SH) (K : Γ -> SV -> SH -> zIA R) : zIA R := match f with
 | .yv => (match vJ P Y.yt Y.ys args h with
   | some (y, h1) => .bind (Y.stp g y) fun p => K p.1 (.d .bool p.2) h1
   | none => .fail)
 | f => (match qGB f args with
   | some (t, as) => cond (slT t T).isSome (qSM P T false t as h (K g)) (CI R (qWI nm t) t as h fun v h2 => cond (qQW (qWI nm t).p env h2.l) (K g v h2) .fail)
   | none => .fail)
def q5K (P : Program) (T : xW) (CI : CIT) (Y : YI Γ) (nm : Nm) (o : Oper) (g : Γ) (env : List SV) (h : SH) (K : Γ -> SV -> SH -> zIA R) : zIA R := match o.op with
 | .call ⟨.value f, args, _⟩ => q5E P T CI Y nm (xM env f) (nK env args) g env h K
 | _ => zE3 P o env (zL nm o.dst) h (K g)
def YOk (P : Program) (G : Nat -> Bool) (w : Wld Γ) (Y : YI Γ) : Prop := ∀ g y g' b, Y.stp g y = some (g', b) -> qQ3 P G w Yl.l g (pvL Y.ys y) g' b
end
theorem qVV {T : xW} (ht : qWV tab T) {o : Oper} {env : List SV} {K : SV -> SH -> zIA R} (ho : OkH P h) (he : okL h env) (e : (q6M P T true k o env h K).run = some r) :
 ∃ v h', zY P tab k o (qA env) (qH h.l) = .ok v.enc (qH h'.l) ∧ Post P h h' v ∧ (K v h').run = some r := by
 unfold q6M at e;unfold zY;split at e
 ·rename_i f args ts hop;unfold q52 at e;split at e
  ·rename_i g as hst;obtain ⟨h1, h2⟩ := qEM (qDK he f) (pR he args) hst;obtain ⟨v, h', a1, a2, a3⟩ := qZS ht ho h2 e;refine ⟨v, h', ?_, a2, a3⟩;simp only [hop, qO, nA, h1];exact a1
  ·cases e
 ·rename_i hne;obtain ⟨v, h', a1, a2, a3⟩ := q50 ho he e;refine ⟨v, h', ?_, a2, a3⟩;split
  ·rename_i f args ts hop; exact absurd hop (hne f args ts)
  ·rw [a1]; rfl
end
end Go.Sv
namespace Go.Sv
open Go.Idl
variable {d : Option Tmp} {env : List SV} {h : SH} {o : Oper} {t : Nat} {v : SV}
noncomputable section
variable [Gc]
variable [Yl]
variable {P : Program} {R : Type} {r : R} {tab : fM} {G : Nat -> Bool} {nm : Nm}
omit [Yl] in
theorem zIO {Q Q' : List PV -> PHp -> Prop} (hq : ∀ e p, Q e p -> Q' e p) : ∀ {t : PT}, t.holds P G Q -> t.holds P G Q'
 | .fail, h => h.elim
 | .ret e p, h => hq e p h
 | .chk c t, h => ⟨h.1, zIO hq h.2⟩
 | .call nm g args ph k, h => by
   obtain ⟨R, h1, h2⟩ := h;exact ⟨R, h1, fun v p hr => zIO hq (h2 v p hr)⟩
 | .rnd _ _ _ _, h => h.elim
omit [Yl] in
theorem q53 (k : Nat) : ∀ (cs : List FV), yD k (cs.map .f) = true
 | [] => by simp [yD]
 | c :: cs => by simp [yD, noK, q53 k cs]
def qL8 (k : Nat) : List (Nat × SO) -> Bool
 | [] => true
 | (_, .cells _ _ l) :: r => yD k (qA l) && qL8 k r
 | (_, .list _ _ _ _ _ _) :: r => qL8 k r
 | (_, .spc _ (.mit _ j _ _ _)) :: r => !(k == j) && qL8 k r
 | (_, .spc _ (.map _)) :: r => qL8 k r
 | (_, .spc _ (.iter _ _)) :: r => qL8 k r
theorem qWL (k : Nat) : ∀ (l : List Nat), yD k (l.map iv) = true
 | [] => by simp [yD]
 | c :: cs => by
   show (true && yD k (cs.map iv)) = true;rw [qWL k cs]; rfl
theorem q3V (k j si la : Nat) (seen : List Nat) : yD k (qBW (.mp j) si la seen) = !(k == j) := by
 show (!(k == j) && (true && (true && (yD k (seen.map iv) && true)))) = _;rw [qWL]; simp
theorem uS {k : Nat} : ∀ {l : List (Nat × SO)}, qL8 k l = true -> dY k (qH l) = true
 | [], _ => rfl
 | (j, .cells el w l) :: r, h => by
   simp only [qL8, zQM] at h;show (yD k (qA l) && dY k (qH r)) = true;rw [h.1, uS h.2]; rfl
 | (j, .list el gr g w t xs) :: r, h => by
   simp only [qL8] at h;show (yD k ((xs.flatMap t.cells).map .f) && dY k (qH r)) = true;rw [q53, uS h]; rfl
 | (j, .spc w (.mit t i si la seen)) :: r, h => by
   simp only [qL8, zQM] at h;show (yD k (qBW (.mp i) si la seen) && dY k (qH r)) = true;rw [q3V, h.1, uS h.2]; rfl
 | (j, .spc w (.map es)) :: r, h => by
   simp only [qL8] at h;show (yD k (kQ _ _) && dY k (qH r)) = true;rw [uW, uS h]; rfl
 | (j, .spc w (.iter s pos)) :: r, h => by
   simp only [qL8] at h;show (yD k (qSD s pos) && dY k (qH r)) = true;rw [show yD k (qSD s pos) = true from rfl, uS h]; rfl
def qCN (env : List SV) (d : Option Tmp) (v : SV) : List SV := match d with
 | some t => yQ env t v
 | none => env
theorem vK (env : List SV) (t : Nat) (v : SV) : qA (yQ env t v) = yQ (qA env) t v.enc := by
 rw [qW, qW, zC, zC, List.map_set]
theorem nW (env : List SV) (d : Option Tmp) (v : SV) : qA (qCN env d v) = yN (qA env) d v.enc := by
 cases d with
 | none => rfl
 | some t => exact vK env t v
omit [Yl] in
theorem kY (he : okL h env) (hv : v.ok h) : okL h (yQ env t v) := by
 rw [qW]
 exact yS.2 fun x hx => by
  rcases zSB hx with q | q
  ·exact yS.1 he x q
  ·rw [q]; exact hv
omit [Yl] in
theorem qAQ (he : okL h env) (hv : v.ok h) : okL h (qCN env d v) := by
 cases d with
 | none => exact he
 | some t => exact kY he hv
omit [Yl] in
theorem fF (env : List SV) (t : Nat) (v : SV) : (yQ env t v).length = env.length := by rw [qW, zRH]
omit [Yl] in
theorem q1Y (env : List SV) (d : Option Tmp) (v : SV) : (qCN env d v).length = env.length := by
 cases d with
 | none => rfl
 | some t => exact fF env t v
theorem qPD {w : SV} (h1 : zM env t = some v) (h2 : w.enc = v.enc) : qA (yQ env t w) = qA env := by
 rw [vK, qW];rw [qD] at h1;apply zRC;intro i;rw [zRD];by_cases e : t = i
 ·subst e;rw [if_pos rfl, zC, zQU, h1, zQ7, if_pos (zQQ.1 h1).1, h2];rfl
 ·rw [if_neg e]
def jF (b w : Bool) : Bool := cond w b (!b)
omit [Yl] in
theorem qPE (b w : Bool) : jF b w = (b == w) := by cases b <;> cases w <;> rfl
def qIP (ds : List (Option Tmp)) (o : Oper) (env : List SV) (Y N : List SV -> zIA R) : zIA R := match o.guard with
 | none => Y env
 | some (j, w) => (match qT3 ds j with
   | none => N env
   | some t => (match zM env t with
     | none => .fail
     | some v => (match asB v with
       | some b => .ite (jF b w) (Y (yQ env t (.c (.bool w)))) (N (yQ env t (.c (.bool (!w)))))
       | none => (match v with
         | .tup [] => N env
         | _ => .fail))))
theorem qFR {ds : List (Option Tmp)} {Y N : List SV -> zIA R} (he : okL h env) (e : (qIP ds o env Y N).run = some r) :
 ∃ env', qA env' = qA env ∧ okL h env' ∧ env'.length = env.length ∧ ((fK ds o (qA env) = some true ∧ (Y env').run = some r) ∨ (fK ds o (qA env) = some false ∧ (N env').run = some r)) := by
 unfold qIP at e;unfold fK;split at e
 ·rename_i hg;exact ⟨env, rfl, he, rfl, .inl ⟨by rw [hg], e⟩⟩
 ·rename_i j w hg;rw [hg];simp only;split at e
  ·rename_i hd;exact ⟨env, rfl, he, rfl, .inr ⟨by rw [hd]; rfl, e⟩⟩
  ·rename_i t hd;rw [hd];simp only [qOV, zF];split at e
   ·cases e
   ·rename_i v hv;rw [hv];split at e
    ·rename_i b hb;have hbe := rG hb
     rcases run_ite e with ⟨z, e1⟩ | ⟨z, e1⟩
     ·rw [qPE] at z;have : b = w := by simpa using z
      subst this;refine ⟨_, qPD hv (by rw [hbe]; simp [SV.enc]), kY he (by simp [SV.ok]), fF _ _ _, .inl ⟨?_, e1⟩⟩;simp only [zQW, hbe, qB3, z]
     ·rw [qPE] at z
      have : b = !w := by cases b <;> cases w <;> first | rfl | cases z
      refine ⟨_, qPD hv (by rw [hbe, this]; simp [SV.enc]), kY he (by simp [SV.ok]), fF _ _ _, .inr ⟨?_, e1⟩⟩;simp only [zQW, hbe, qB3, z]
    ·split at e
     ·exact ⟨env, rfl, he, rfl, .inr ⟨by simp only [zQW, SV.enc, qA]; exact qT5, e⟩⟩
     ·cases e
def qEL (nm : Nm) (k : Nat) (env : List SV) (h : SH) : Bool := inP nm k && (yD k (qA env) && qL8 k h.l)
section
variable {Γ : Type}
def q0W (P : Program) (T : xW) (CI : CIT) (Y : YI Γ) (nm : Nm) (ds : List (Option Tmp)) : List Oper -> Γ -> List SV -> SH -> (Γ -> List SV -> SH -> zIA R) -> zIA R
 | [], g, env, h, K => K g env h
 | o :: l, g, env, h, K => qIP ds o env
    (fun env => cond (cond (needs o.op) (qEL nm (zL nm o.dst) env h) true) (q5K P T CI Y nm o g env h fun g v h' => q0W P T CI Y nm ds l g (qCN env o.dst v) h' K) .fail)
    (fun env => q0W P T CI Y nm ds l g (qCN env o.dst (.tup [])) h K)
end
def Ends (P : Program) (w : List (Option Tmp)) (env : List SV) (h : SH) (env' : List SV) (h' : SH) : Prop :=
 okL h' env' ∧ OkH P h' ∧ Keep h h' ∧ (∀ i, some i ∉ w -> zM (qA env') i = zM (qA env) i) ∧ env'.length = env.length
theorem q8Z {i : Nat} (h : d ≠ some i) : zM (qA (qCN env d v)) i = zM (qA env) i := by
 cases d with
 | none => rfl
 | some t =>
   show zM (qA (yQ env t v)) i = _;rw [vK, qW, qD, qD, zRD, if_neg (fun e => h (by rw [e]))]
theorem Ends.step {w : List (Option Tmp)} {zIK : List SV} {h1 : SH} {env' : List SV} {h' : SH} (he : qA env = qA zIK) (hl : env.length = zIK.length) (hk : Keep h h1) (x : Ends P w (qCN env o.dst v) h1 env' h') : Ends P (o.dst :: w) zIK h env' h' :=
 ⟨x.1, x.2.1, hk.trans x.2.2.1, fun i hi => by
   rw [zQ2, not_or] at hi
   rw [x.2.2.2.1 i hi.2, q8Z (fun e => hi.1 e.symm), he], by rw [x.2.2.2.2, q1Y, hl]⟩
omit [Yl] in
theorem kK {Γ : Type} {w : Wld Γ} {Q Q' : Γ -> List PV -> PHp -> Prop} (hq : ∀ g e p, Q g e p -> Q' g e p) : ∀ {t : PT} {g : Γ}, t.zIV P G w Q g -> t.zIV P G w Q' g
 | .fail, _, h => h.elim
 | .ret e p, g, h => hq g e p h
 | .chk c t, g, h => ⟨h.1, kK hq h.2⟩
 | .call nm f args ph k, g, h => by
   obtain ⟨R, h1, h2⟩ := h;exact ⟨R, h1, fun v p hr => kK hq (h2 v p hr)⟩
 | .rnd l args ph k, g, h => by
   obtain ⟨zJB, tys, ph1, g', b, h1, h2, h3⟩ := h;exact ⟨zJB, tys, ph1, g', b, h1, h2, kK hq h3⟩
def q1A (T : xW) (f : FuncId) : Bool := !(slT f T).isSome
theorem qIA {Γ : Type} {w : Wld Γ} {T : xW} {CI : CIT} {Y : YI Γ} (ht : qWV tab T) (hci : q6V P G CI) (hy : YOk P G w Y) {ds : List (Option Tmp)} : ∀ {l : List Oper} {g : Γ} {env : List SV} {h : SH} {K : Γ -> List SV -> SH -> zIA R}, OkH P h -> okL h env -> (q0W P T CI Y nm ds l g env h K).run = some r ->
 (pops P tab (q1A T) nm ds l (qA env) (qH h.l)).zIV P G w (fun g e p => ∃ env' h', e = qA env' ∧ p = qH h'.l ∧ Ends P (l.map (·.dst)) env h env' h' ∧ (K g env' h').run = some r) g
 | [], g, env, h, K, ho, he, e => ⟨env, h, rfl, rfl, ⟨he, ho, .refl _, fun _ _ => rfl, rfl⟩, e⟩
 | o :: l, g, env, h, K, ho, he, e => by
   unfold q0W at e;obtain ⟨zIE, q1, q2, q3, q4⟩ := qFR he e;rw [qXY]
   rcases q4 with ⟨hw, e1⟩ | ⟨hw, e1⟩
   ·rw [hw, q2B];obtain ⟨c, e2⟩ := qG e1
    have next : ∀ {g' : Γ} {v : SV} {h' : SH}, Post P h h' v -> (q0W P T CI Y nm ds l g' (qCN zIE o.dst v) h' K).run = some r -> (pops P tab (q1A T) nm ds l (yN (qA env) o.dst v.enc) (qH h'.l)).zIV P G w (fun g e p => ∃ env' h', e = qA env' ∧ p = qH h'.l ∧ Ends P ((o :: l).map (·.dst)) env h env' h' ∧ (K g env' h').run = some r) g' := fun {g' v h'} a2 a3 => by
     have ih := qIA ht hci hy a2.2.1 (qAQ (d := o.dst) (qL a2.1 q2) a2.2.2) a3;rw [nW, q1] at ih;exact kK (fun g e p ⟨env', h', b1, b2, b3, b4⟩ => ⟨env', h', b1, b2, Ends.step q1 q3 a2.1 b3, b4⟩) ih
    have chk : ∀ {g' : Γ} {v : SV} {h' : SH}, Post P h h' v -> (q0W P T CI Y nm ds l g' (qCN zIE o.dst v) h' K).run = some r -> (q8A (needs o.op) (zL nm o.dst) nm (qA env) (qH h.l) (pops P tab (q1A T) nm ds l (yN (qA env) o.dst v.enc) (qH h'.l))).zIV P G w (fun g e p => ∃ env' h', e = qA env' ∧ p = qH h'.l ∧ Ends P ((o :: l).map (·.dst)) env h env' h' ∧ (K g env' h').run = some r) g' := fun {g' v h'} a2 a3 => by
     unfold q8A
     cases hn : needs o.op with
     | false => exact next a2 a3
     | true =>
       rw [hn] at c;simp only [cond_true] at c ⊢;refine ⟨?_, next a2 a3⟩;unfold qEL at c;rw [q1] at c;simp only [zQM] at c;unfold fresh;rw [c.1, c.2.1, uS c.2.2]; rfl
    unfold q5K at e2;split at e2
    ·rename_i f args ts hop
     have hpe : gV P tab (q1A T) (zL nm o.dst) o (qA env) (qH h.l) = oQ P tab (q1A T) (xM zIE f).enc (qA (nK zIE args)) (qH h.l) := by
      unfold gV;rw [<- q1];simp only [hop, qO, nA]
     rw [hpe];have hfv := qDK q2 f;have has := pR q2 args
     revert e2 hfv
     generalize xM zIE f = fv;intro e2 hfv;unfold q5E at e2;split at e2
     ·split at e2
      ·rename_i y h1 hd;obtain ⟨p, hp, e3⟩ := run_bind e2;obtain ⟨g', b⟩ := p;obtain ⟨ys, a1, a2, a3, a4⟩ := dD ho has hd
       have : oQ P tab (q1A T) (SV.enc .yv) (qA (nK zIE args)) (qH h.l) = .rnd Yl.l (qA (nK zIE args)) (qH h.l) := by
        simp only [SV.enc, oQ]
       rw [this, qVX];refine ⟨ys, Y.yt, qH h1.l, g', b, a1, ?_, ?_⟩
       ·rw [a2]; exact hy _ _ _ _ hp
       ·have := next (v := .d .bool b) ⟨a3, a4, by simp [SV.ok]⟩ e3;simpa [SV.enc, Ty.fv, fvv] using this
      ·cases e2
     ·split at e2
      ·rename_i t as hst;obtain ⟨h1, h2⟩ := qEM hfv has hst;rw [qLP h1];unfold eO q1A
       cases hsl : (slT t T).isSome with
       | true =>
         rw [hsl] at e2;simp only [cond_true] at e2;obtain ⟨v, h', a1, a2, a3⟩ := q1U ht ho h2 e2;simp only [zSF, cond_false];rw [a1, qPT];exact chk a2 a3
       | false =>
         rw [hsl] at e2;simp only [cond_false] at e2;simp only [zSG, cond_true];rw [qSY];refine ⟨_, hci _ _ _ _ _ _ ho h2 e2, ?_⟩;rintro v p ⟨v', h', rfl, rfl, a2, a3⟩;obtain ⟨c2, a4⟩ := qG a3;have := qKS c2;rw [q1] at this;exact ⟨this, next a2 a4⟩
      ·cases e2
    ·rename_i hne;obtain ⟨v, h', a1, a2, a3⟩ := q8T ho q2 e2;rw [q1] at a1
     have hpe : gV P tab (q1A T) (zL nm o.dst) o (qA env) (qH h.l) = .ok v.enc (qH h'.l) := by
      unfold gV;split
      ·rename_i f args ts hop; exact absurd hop (hne f args ts)
      ·rw [a1]; rfl
     rw [hpe, qPT];exact chk a2 a3
   ·rw [hw, qYY];have ih := qIA ht hci hy ho (qAQ (d := o.dst) (v := .tup []) q2 (by simp [SV.ok, okL])) e1;rw [nW, q1] at ih;simp only [SV.enc, qA] at ih;exact kK (fun g e p ⟨env', h', b1, b2, b3, b4⟩ => ⟨env', h', b1, b2, Ends.step q1 q3 (.refl _) b3, b4⟩) ih
def qW6 (P : Program) (T : xW) (nm : Nm) (ds : List (Option Tmp)) (b : DB) (zIK : List SV) : Nat -> List Oper -> List SV -> SH -> List (Nat × List Nat) -> List (Nat × List Nat) -> List (Nat × Nat) -> List (Nat × PV) -> (List SV -> SH -> zIA R) -> zIA R
 | i, [], env, h, E, F, N, V, K => cond (mH b (qA zIK) E F N V) (K env h) .fail
 | i, o :: l, env, h, E, F, N, V, K => qIP ds o env
    (fun env => cond (cond (needs o.op) (inP nm (zL nm o.dst) && qL8 (zL nm o.dst) h.l) true) (q6M P T true (zL nm o.dst) o env h fun v h' =>
      qW6 P T nm ds b zIK (i + 1) l (qCN env o.dst v) h' (cond (zJ o) ((i, wlT nm o (qA env)) :: E) E) (cond (zJ o) F ((i, dlT o (qA env)) :: F)) (cond (needs o.op) ((i, zL nm o.dst) :: N) N) ((i, v.enc) :: V) K) .fail)
    (fun env => qW6 P T nm ds b zIK (i + 1) l (qCN env o.dst (.tup [])) h E F N ((i, .tup []) :: V) K)
theorem qG3 {T : xW} (ht : qWV tab T) {ds : List (Option Tmp)} {b : DB} {zIK : List SV} : ∀ {l : List Oper} {i : Nat} {env : List SV} {h : SH} {E F : List (Nat × List Nat)} {N : List (Nat × Nat)} {V : List (Nat × PV)} {K : List SV -> SH -> zIA R}, OkH P h -> okL h env -> (qW6 P T nm ds b zIK i l env h E F N V K).run = some r ->
 (qIU P tab nm ds b (qA zIK) i l (qA env) (qH h.l) E F N V).holds P G fun e p => ∃ env' h', e = qA env' ∧ p = qH h'.l ∧ Ends P (l.map (·.dst)) env h env' h' ∧ (K env' h').run = some r
 | [], i, env, h, E, F, N, V, K, ho, he, e => by
   unfold qW6 at e;obtain ⟨c, e1⟩ := qG e;rw [q2Y];exact ⟨c, env, h, rfl, rfl, ⟨he, ho, .refl _, fun _ _ => rfl, rfl⟩, e1⟩
 | o :: l, i, env, h, E, F, N, V, K, ho, he, e => by
   unfold qW6 at e;obtain ⟨zIE, q1, q2, q3, q4⟩ := qFR he e;rw [qXI]
   rcases q4 with ⟨hw, e1⟩ | ⟨hw, e1⟩
   ·rw [hw, qWS];obtain ⟨c, e2⟩ := qG e1;obtain ⟨v, h', a1, a2, a3⟩ := qVV ht ho q2 e2;rw [q1] at a1;rw [a1, qWA];have ih := qG3 ht a2.2.1 (qAQ (d := o.dst) (qL a2.1 q2) a2.2.2) a3;rw [nW, q1] at ih;have ih2 := zIO (Q' := fun e p => ∃ env' h', e = qA env' ∧ p = qH h'.l ∧ Ends P ((o :: l).map (·.dst)) env h env' h' ∧ (K env' h').run = some r) (fun e p ⟨env', h', b1, b2, b3, b4⟩ => ⟨env', h', b1, b2, Ends.step q1 q3 a2.1 b3, b4⟩) ih;unfold q0M
    cases hn : needs o.op with
    | false => rw [hn] at ih2; exact ih2
    | true =>
      rw [hn] at c ih2;simp only [cond_true] at c ⊢;refine ⟨?_, ih2⟩;rw [zQM] at c;rw [c.1, uS c.2]; rfl
   ·rw [hw, qTU];have ih := qG3 ht ho (qAQ (d := o.dst) (v := .tup []) q2 (by simp [SV.ok, okL])) e1;rw [nW, q1] at ih;simp only [SV.enc, qA] at ih;exact zIO (fun e p ⟨env', h', b1, b2, b3, b4⟩ => ⟨env', h', b1, b2, Ends.step q1 q3 (.refl _) b3, b4⟩) ih
def qR6 (ops : Array Oper) : Bool := match ops[ops.size - 1]? with
 | some o => (match o.op with
   | .call ⟨.value _, _, _⟩ => (List.range (ops.size - 1)).all fun i => uM (Region.before ops) i (ops.size - 1)
   | _ => false)
 | none => false
def zEE {Γ : Type} (P : Program) (G : Nat -> Bool) (T : xW) (CI : CIT) (Y : YI Γ) (nm : Nm) (ops : Array Oper) (d : Bool) (g : Γ) (env : List SV) (h : SH) (K : Γ -> List SV -> SH -> zIA R) : zIA R :=
 cond (fE G ops) (cond d (cond (aA ops && gD ops) (cond (qR6 ops)
  (qW6 P T nm (ops.toList.map (·.dst)) (dBo ops) env 0 (ops.toList.take (ops.size - 1)) env h [] [] [] [] fun env h => q0W P T CI Y nm (ops.toList.map (·.dst)) (ops.toList.drop (ops.size - 1)) g env h K)
  (qW6 P T nm (ops.toList.map (·.dst)) (dBo ops) env 0 ops.toList env h [] [] [] [] (K g))) .fail) (q0W P T CI Y nm (ops.toList.map (·.dst)) ops.toList g env h K)) .fail
variable {nat : xG} {good : FuncId -> Bool} {rd : Bool}
theorem q6Q {Γ : Type} {w : Wld Γ} {T : xW} {CI : CIT} {Y : YI Γ} (s : zI6 P good nat G tab) (ht : qWV tab T) (hci : q6V P G CI) (hy : YOk P G w Y) {id : Nat} {ops : Array Oper} {d : Bool} {g : Γ} {K : Γ -> List SV -> SH -> zIA R} (ho : OkH P h) (he : okL h env) (e : (zEE P G T CI Y nm ops d g env h K).run = some r) :
 qU P G rd nm w (.region id ops d) g (qA env) (qH h.l) fun x g' pe ph => x = .normal ∧ ∃ env' h', pe = qA env' ∧ ph = qH h'.l ∧ Ends P (ops.toList.map (·.dst)) env h env' h' ∧ (K g' env' h').run = some r := by
 unfold zEE at e;obtain ⟨c1, e1⟩ := qG e
 cases d with
 | true =>
   obtain ⟨c2, e2⟩ := qG (show (cond (aA ops && gD ops) (cond (qR6 ops)
    (qW6 P T nm (ops.toList.map (·.dst)) (dBo ops) env 0 (ops.toList.take (ops.size - 1)) env h [] [] [] [] fun env h => q0W P T CI Y nm (ops.toList.map (·.dst)) (ops.toList.drop (ops.size - 1)) g env h K)
    (qW6 P T nm (ops.toList.map (·.dst)) (dBo ops) env 0 ops.toList env h [] [] [] [] (K g))) .fail : zIA R).run = some r from e1)
   rw [zQM] at c2
   cases hlo : qR6 ops with
   | false =>
     rw [hlo] at e2;have e2 : (qW6 P T nm (ops.toList.map (·.dst)) (dBo ops) env 0 ops.toList env h [] [] [] [] (K g)).run = some r := e2;refine (qU.of (s.zPL (Q := fun x pe ph => x = .normal ∧ ∃ env' h', pe = qA env' ∧ ph = qH h'.l ∧ Ends P (ops.toList.map (·.dst)) env h env' h' ∧ (K g env' h').run = some r) c1 c2.1 c2.2 rfl rfl ?_)).mono ?_
     ·exact zIO (fun e p hq => ⟨rfl, hq⟩) (qG3 (G := G) ht ho he e2)
     ·rintro x g' pe ph ⟨rfl, hq⟩;exact hq
   | true =>
     rw [hlo] at e2;have e2 : (qW6 P T nm (ops.toList.map (·.dst)) (dBo ops) env 0 (ops.toList.take (ops.size - 1)) env h [] [] [] [] fun env h => q0W P T CI Y nm (ops.toList.map (·.dst)) (ops.toList.drop (ops.size - 1)) g env h K).run = some r := e2;unfold qR6 at hlo;split at hlo
     ·rename_i o hop;split at hlo
      ·have hlt := (zQ1.1 hop).1
       have hdrop : ops.toList.drop (ops.size - 1) = [o] := by
        have h1 : ops.toList[ops.size - 1]? = some o := by simpa using hop
        obtain ⟨h2, h3⟩ := zQQ.1 h1;rw [zRQ h2, h3, List.drop_eq_nil_of_le (by simp; omega)]
       have hmap : (ops.toList.take (ops.size - 1)).map (·.dst) ++ [o.dst] = ops.toList.map (·.dst) := by
        rw [show [o.dst] = [o].map (·.dst) from rfl, <- zRI, <- hdrop, zT5]
       refine s.zPO (inl := q1A T) (n0 := ops.size - 1) c1 c2.1 c2.2 hop (by omega) (fun i hi => zQR.1 hlo i (zRF.2 hi)) ?_;refine zIO (fun e p hq => ?_) (qG3 (G := G) ht ho he e2);obtain ⟨zIE, h1, rfl, rfl, a3, a4⟩ := hq;rw [hdrop] at a4;refine kK (fun g2 e p hq => ?_) (qIA (G := G) ht hci hy a3.2.1 a3.1 a4);obtain ⟨zI5, h2, rfl, rfl, b3, b4⟩ := hq;refine ⟨rfl, zI5, h2, rfl, rfl, ⟨b3.1, b3.2.1, a3.2.2.1.trans b3.2.2.1, fun i hi => ?_, b3.2.2.2.2.trans a3.2.2.2.2⟩, b4⟩;rw [<- hmap, zRA, not_or] at hi;exact (b3.2.2.2.1 i hi.2).trans (a3.2.2.2.1 i hi.1)
      ·cases hlo
     ·cases hlo
 | false => exact s.zPN c1 (kK (fun g e p hq => ⟨rfl, hq⟩) (qIA (G := G) ht hci hy ho he e1))
end
end Go.Sv
