/- A symbolic run, part one. Conditions: none. -/
import Derived.Test.YtpegkendiefkaaaGreatDoorPur19
set_option linter.all false
namespace Go.Sv
open Go.Idl
variable {j n off : Nat}
class Yl where
 l : Nat
variable [Gc]
variable {P : Program} {Z Z' : Nat -> Prop} {H : IH} {M : Nat -> Option (Nat × PO)}
inductive Ty where
 | int (k : IntKind)
 | bool
 | str
 | unit
 | list (el : TypeId) (t : Ty)
 | pair (a b : Ty)
 | raw deriving DecidableEq
@[reducible] def Ty.sem : Ty -> Type
  | .int _ => Int
  | .bool => Bool
  | .str => ByteArray
  | .unit => Unit
  | .list _ t => List t.sem
  | .pair a b => a.sem × b.sem
  | .raw => List (Value × Value)
def eD (l : List (Value × Value)) : List FV := List.flatMap (fun p => [.v p.1, .v p.2]) l
def Ty.cells : (t : Ty) -> t.sem -> List FV
 | .int k, x => [.v (.int k x)]
 | .bool, x => [.v (.bool x)]
 | .str, x => [.v (.string x)]
 | .unit, _ => []
 | .list el t, xs => [.l el (List.length xs) (List.flatMap t.cells xs)]
 | .pair a b, x => a.cells x.1 ++ b.cells x.2
 | .raw, xs => [.l 1000000001 (List.length xs) (eD xs)]
def Ty.w : Ty -> Nat
 | .int _ | .bool | .str | .list _ _ | .raw => 1
 | .unit => 0
 | .pair a b => a.w + b.w
def Ty.one : Ty -> Bool
 | .unit => false
 | .pair _ _ => false
 | _ => true
def Ty.fv : (t : Ty) -> t.sem -> FV
 | .int k, x => .v (.int k x)
 | .bool, x => .v (.bool x)
 | .str, x => .v (.string x)
 | .list el t, xs => .l el (List.length xs) (List.flatMap t.cells xs)
 | .raw, xs => .l 1000000001 (List.length xs) (eD xs)
 | _, _ => .v undef
theorem Ty.cells_one : ∀ {t : Ty} {x : t.sem}, t.one = true -> t.cells x = [t.fv x]
 | .int _, _, _ => rfl
 | .bool, _, _ => rfl
 | .str, _, _ => rfl
 | .list _ _, _, _ => rfl
 | .raw, _, _ => rfl
 | .unit, _, h => by cases h
 | .pair _ _, _, h => by cases h
theorem Ty.zH1 : ∀ (t : Ty) (x : t.sem), (t.cells x).length = t.w
 | .int _, _ => rfl
 | .bool, _ => rfl
 | .str, _ => rfl
 | .list _ _, _ => rfl
 | .raw, _ => rfl
 | .unit, _ => rfl
 | .pair a b, x => by
   show (a.cells x.1 ++ b.cells x.2).length = a.w + b.w;rw [zUK, a.zH1, b.zH1]
theorem xR {t : Ty} : ∀ (xs : List t.sem), (xs.flatMap t.cells).length = xs.length * t.w
 | [] => by simp
 | x :: xs => by rw [zVO, zUK, t.zH1, xR xs, zUI, zXC, zV2]
theorem bL {t : Ty} : ∀ (xs : List t.sem) (j : Nat), (xs.flatMap t.cells).drop (j * t.w) = (xs.drop j).flatMap t.cells
 | xs, 0 => by simp
 | [], j + 1 => by simp
 | x :: xs, j + 1 => by
   rw [zVO, List.drop_succ_cons, <- bL xs j, zXC, zV2, <- zX1]
   congr 1
   rw [List.drop_append_of_le_length (by rw [t.zH1]; exact zT0 _), List.drop_of_length_le (by rw [t.zH1]; exact zT0 _), zXS]
theorem nO {t : Ty} : ∀ (xs : List t.sem) (j : Nat), (xs.flatMap t.cells).take (j * t.w) = (xs.take j).flatMap t.cells
 | xs, 0 => by simp
 | [], j + 1 => by simp
 | x :: xs, j + 1 => by
   rw [zVO, zVY, zVO, <- nO xs j, zXC, zV2, List.take_append, t.zH1, zX3, zU6 (by rw [t.zH1]; omega)]
theorem qZK {t : Ty} {xs : List t.sem} {x : t.sem} (h : xs[j]? = some x) : ((xs.flatMap t.cells).drop (j * t.w)).take t.w = t.cells x := by
 rw [bL]
 have hj := (zT2.1 h)
 obtain ⟨hl, hx⟩ := hj;rw [zVG hl, hx, zVO, List.take_append_of_le_length (by rw [t.zH1]; exact zT0 _), zU6 (by rw [t.zH1]; exact zT0 _)]
theorem qJ4 {t : Ty} {xs : List t.sem} {x : t.sem} (h : xs[j]? = some x) (hn : off + n <= t.w) : ((xs.flatMap t.cells).drop (j * t.w + off)).take n = ((t.cells x).drop off).take n := by
 rw [<- qZK h, zYN, zX1, zYM, zW8 (by omega)]
theorem flat_get {t : Ty} {xs : List t.sem} {x : t.sem} (h : xs[j]? = some x) (hn : off < t.w) : (xs.flatMap t.cells)[j * t.w + off]? = (t.cells x)[off]? := by
 rw [<- qZK h, zVI, if_pos hn, zVR]
theorem qGC {t : Ty} {xs : List t.sem} {x : t.sem} (h : xs[j]? = some x) (hn : off + n <= t.w) : j * t.w + off + n <= (xs.flatMap t.cells).length := by
 have hl := (zT2.1 h).1;rw [xR];have : (j + 1) * t.w <= xs.length * t.w := zVB _ hl;rw [zXC] at this;omega
theorem qKI : ∀ (xs ys : List (Value × Value)), eD xs = eD ys -> xs = ys
 | [], [], _ => rfl
 | [], y :: ys, h => by cases h
 | x :: xs, [], h => by cases h
 | x :: xs, y :: ys, h => by
   have h : FV.v x.1 :: FV.v x.2 :: eD xs = FV.v y.1 :: FV.v y.2 :: eD ys := h;injection h with h1 h2;injection h2 with h2 h3;injection h1 with h1;injection h2 with h2;rw [qKI xs ys h3, Prod.ext h1 h2]
theorem qCB : ∀ (xs : List (Value × Value)), (eD xs).length = 2 * xs.length
 | [] => rfl
 | x :: xs => by
   show (eD xs).length + 2 = _;rw [qCB xs, zUI]; omega
theorem qOX : ∀ (xs ys : List (Value × Value)) (vs : List Value), FRL Z H (eD xs) vs -> FRL Z' H (eD ys) vs -> xs = ys
 | [], [], _, _, _ => rfl
 | [], y :: ys, vs, a, b => by have := a.len; have := b.len; simp [eD] at *; omega
 | x :: xs, [], vs, a, b => by have := a.len; have := b.len; simp [eD] at *; omega
 | x :: xs, y :: ys, vs, a, b => by
   have a : FRL Z H (FV.v x.1 :: FV.v x.2 :: eD xs) vs := a;have b : FRL Z' H (FV.v y.1 :: FV.v y.2 :: eD ys) vs := b;obtain ⟨v, vs', rfl, a1, a2⟩ := a.zHU;obtain ⟨v', vs2, e, b1, b2⟩ := b.zHU;cases e;obtain ⟨w, vs3, rfl, a3, a4⟩ := a2.zHU;obtain ⟨w', vs4, e, b3, b4⟩ := b2.zHU;cases e;have e1 := (q0I a1).symm.trans (q0I b1);have e2 := (q0I a3).symm.trans (q0I b3);rw [qOX xs ys _ a4 b4, Prod.ext e1 e2]
theorem Ty.inj : ∀ (t : Ty) (x y : t.sem), t.cells x = t.cells y -> x = y
 | .int _, x, y, h => by injection h with h; injection h with h; injection h
 | .bool, x, y, h => by injection h with h; injection h with h; injection h
 | .str, x, y, h => by injection h with h; injection h with h; injection h
 | .unit, _, _, _ => rfl
 | .raw, xs, ys, h => by
   injection h with h;injection h with _ h1 h2;exact qKI _ _ h2
 | .pair a b, x, y, h => by
   have := List.append_inj (show a.cells x.1 ++ b.cells x.2 = a.cells y.1 ++ b.cells y.2 from h) (by rw [a.zH1, a.zH1]);exact Prod.ext (a.inj _ _ this.1) (b.inj _ _ this.2)
 | .list el t, xs, ys, h => by
   injection h with h;injection h with _ h1 h2;exact go t xs ys h1 h2
where
 go (t : Ty) : ∀ (xs ys : List t.sem), xs.length = ys.length -> xs.flatMap t.cells = ys.flatMap t.cells -> xs = ys
 | [], [], _, _ => rfl
 | [], y :: ys, e, h => by cases e
 | x :: xs, [], e, h => by cases e
 | x :: xs, y :: ys, e, h => by
   rw [zVO, zVO] at h;have := List.append_inj h (by rw [t.zH1, t.zH1]);rw [t.inj x y this.1, go t xs ys (by simpa using e) this.2]
theorem Ty.uniq : ∀ (t : Ty) {x y : t.sem} {vs : List Value}, FRL Z H (t.cells x) vs -> FRL Z' H (t.cells y) vs -> x = y
 | .int k, x, y, vs, a, b => by
   obtain ⟨v, vs', rfl, a1, _⟩ := a.zHU;obtain ⟨v', vs2, e, b1, _⟩ := b.zHU;cases e;have := (q0I a1).symm.trans (q0I b1);injection this
 | .bool, x, y, vs, a, b => by
   obtain ⟨v, vs', rfl, a1, _⟩ := a.zHU;obtain ⟨v', vs2, e, b1, _⟩ := b.zHU;cases e;have := (q0I a1).symm.trans (q0I b1);injection this
 | .str, x, y, vs, a, b => by
   obtain ⟨v, vs', rfl, a1, _⟩ := a.zHU;obtain ⟨v', vs2, e, b1, _⟩ := b.zHU;cases e;have := (q0I a1).symm.trans (q0I b1);injection this
 | .unit, _, _, _, _, _ => rfl
 | .raw, xs, ys, vs, a, b => by
   obtain ⟨v, vs', rfl, a1, _⟩ := a.zHU;obtain ⟨v', vs2, e, b1, _⟩ := b.zHU;cases e;obtain ⟨h1, ws, ws', h2, h3, h4⟩ := qJ5 a1 b1;have := h4 (by rw [qCB, qCB, h1]);subst this;exact qOX xs ys ws h2 h3
 | .pair s t, x, y, vs, a, b => by
   obtain ⟨a1, a2⟩ := FRL.split (xs := s.cells x.1) (ys := t.cells x.2) a;obtain ⟨b1, b2⟩ := FRL.split (xs := s.cells y.1) (ys := t.cells y.2) b;rw [s.zH1] at a1 a2 b1 b2;exact Prod.ext (s.uniq a1 b1) (t.uniq a2 b2)
 | .list el t, xs, ys, vs, a, b => by
   obtain ⟨v, vs', rfl, a1, _⟩ := a.zHU;obtain ⟨v', vs2, e, b1, _⟩ := b.zHU;cases e;obtain ⟨h1, ws, ws', h2, h3, h4⟩ := qJ5 a1 b1;have := h4 (by rw [xR, xR, h1]);subst this;exact go t xs ys ws h1 h2 h3
where
 go (t : Ty) : ∀ (xs ys : List t.sem) (vs : List Value), xs.length = ys.length -> FRL Z H (xs.flatMap t.cells) vs -> FRL Z' H (ys.flatMap t.cells) vs -> xs = ys
 | [], [], _, _, _, _ => rfl
 | [], y :: ys, vs, e, a, b => by cases e
 | x :: xs, [], vs, e, a, b => by cases e
 | x :: xs, y :: ys, vs, e, a, b => by
   rw [zVO] at a b;obtain ⟨a1, a2⟩ := a.split;obtain ⟨b1, b2⟩ := b.split;rw [t.zH1] at a1 a2 b1 b2;rw [t.uniq a1 b1, go t xs ys _ (by simpa using e) a2 b2]
def Ty.pv (t : Ty) (x : t.sem) : PV := cond t.one (.f (t.fv x)) (.agg ((t.cells x).map .f))
def Ty.en (t : Ty) : PEn t.sem := ⟨t.pv, fun x y h => by
 unfold Ty.pv at h
 cases ht : t.one with
 | true =>
   rw [ht] at h;injection h with h;exact t.inj x y (by rw [Ty.cells_one ht, Ty.cells_one ht, h])
 | false =>
   rw [ht] at h;injection h with h
   exact t.inj x y (zBC _ _ h), fun P Z Z' H x y v a b => by
 unfold Ty.pv at a b
 cases ht : t.one with
 | true =>
   rw [ht] at a b
   cases a with
   | f a => cases b with
     | f b => exact t.uniq (vs := [v]) (by rw [Ty.cells_one ht]; exact .cons a ⟨rfl, fun i x v h => by simp at h⟩) (by rw [Ty.cells_one ht]; exact .cons b ⟨rfl, fun i x v h => by simp at h⟩)
 | false =>
   rw [ht] at a b;obtain ⟨vs, rfl, h1⟩ := VR.zJ7 a;obtain ⟨vs', e, h2⟩ := VR.zJ7 b;cases e
   exact t.uniq (qML h1) (qML h2)⟩
@[reducible] def TyL : List Ty -> Type
  | [] => Unit
  | [t] => t.sem
  | t :: u :: ts => t.sem × TyL (u :: ts)
def pvL : (ts : List Ty) -> TyL ts -> List PV
 | [], _ => []
 | [t], x => [t.pv x]
 | t :: u :: ts, x => t.pv x.1 :: pvL (u :: ts) x.2
theorem qU2 : ∀ (ts : List Ty) (x y : TyL ts), pvL ts x = pvL ts y -> x = y
 | [], _, _, _ => rfl
 | [t], x, y, h => by injection h with h; exact t.en.inj x y h
 | t :: u :: ts, x, y, h => by
   injection h with h1 h2;exact Prod.ext (t.en.inj _ _ h1) (qU2 (u :: ts) _ _ h2)
theorem qPO : ∀ (ts : List Ty) (x y : TyL ts) (vs : List Value), VRL P Z H (fun _ => none) (pvL ts x) vs -> VRL P Z' H (fun _ => none) (pvL ts y) vs -> x = y
 | [], _, _, _, _, _ => rfl
 | [t], x, y, vs, a, b => by
   obtain ⟨v, vs', rfl, a1, _⟩ := a.zHU;obtain ⟨v', vs2, e, b1, _⟩ := b.zHU;cases e;exact t.en.uniq P Z Z' H x y v a1 b1
 | t :: u :: ts, x, y, vs, a, b => by
   obtain ⟨v, vs', rfl, a1, a2⟩ := a.zHU;obtain ⟨v', vs2, e, b1, b2⟩ := b.zHU;cases e;exact Prod.ext (t.en.uniq P Z Z' H _ _ v a1 b1) (qPO (u :: ts) _ _ _ a2 b2)
def enL (ts : List Ty) : AEn (TyL ts) := ⟨pvL ts, qU2 ts, fun P Z Z' H x y vs a b => qPO ts x y vs a b⟩
def wH : (ts : List Ty) -> TyL ts -> PV := fun ts x => qD4 (pvL ts x)
end Go.Sv
namespace Go.Sv
open Go.Idl
variable [Gc]
variable {P : Program}
variable {b : Bool} {k : Nat}
def zHP (R : Type) : Type := Option R
section
variable {R α σ ρ : Type}
def zHP.run (t : zHP R) : Option R := t
def zHP.fail : zHP R := (none : Option R)
def zHP.ret (r : R) : zHP R := some r
def zHP.ite (b : Bool) (x y : zHP R) : zHP R := cond b x y
noncomputable def zHP.bind (o : Option α) (k : α -> zHP R) : zHP R := Option.rec zHP.fail k o
noncomputable def zHP.loop (f : σ -> zHP (σ ⊕ ρ)) (s : σ) (k : ρ -> zHP R) : zHP R := zHP.bind (qJ (fun s => (f s).run) s) k
end
theorem run_ite {R : Type} {x y : zHP R} {r : R} (h : (zHP.ite b x y).run = some r) : (b = true ∧ x.run = some r) ∨ (b = false ∧ y.run = some r) := by
 cases b with
 | true => exact .inl ⟨rfl, h⟩
 | false => exact .inr ⟨rfl, h⟩
theorem run_bind {R α : Type} {o : Option α} {k : α -> zHP R} {r : R} (h : (zHP.bind o k).run = some r) : ∃ a, o = some a ∧ (k a).run = some r := by
 cases o with
 | none => cases h
 | some a => exact ⟨a, rfl, h⟩
theorem q4H {R σ ρ : Type} {f : σ -> zHP (σ ⊕ ρ)} {s : σ} {k : ρ -> zHP R} {r : R} (h : (zHP.loop f s k).run = some r) : ∃ a, qJ (fun s => (f s).run) s = some a ∧ (k a).run = some r := run_bind h
theorem qH {R : Type} {x : zHP R} {r : R} (h : (cond b x .fail).run = some r) : b = true ∧ x.run = some r := by
 cases b with
 | true => exact ⟨rfl, h⟩
 | false => cases h
inductive SV where
 | d (t : Ty) (x : t.sem)
 | c (v : Value)
 | agg (l : List SV)
 | tup (l : List SV)
 | own (k g n : Nat)
 | sl (k g n o m : Nat)
 | ref (k off w : Nat)
 | elt (k g n w j off : Nat)
 | lp (t : Ty) (xs : List t.sem) (j off : Nat)
 | fn (f : FuncId) (first cap : List SV)
 | unk
 | yv
 | mp (k : Nat)
 | opt (b : Bool) (k off w : Nat)
 | rfx (k off w : Nat)
 | etx (k g n w j off : Nat)
section
variable [Yl]
mutual
def SV.enc : SV -> PV
 | .d t x => .f (t.fv x)
 | .c v => fvv v
 | .agg l => .agg (qB l)
 | .tup l => .tup (qB l)
 | .own k _ n => .own k n 0 n
 | .sl k _ n o m => .own k n o m
 | .ref k off w => .ref k w off
 | .elt k _ n w j off => .ref k (n * w) (j * w + off)
 | .lp t xs j off => .lp (List.flatMap t.cells xs) (j * t.w + off)
 | .fn f a b => .fn f (qB a) (qB b)
 | .unk => .unk
 | .yv => .yl Yl.l
 | .mp k => .mp k
 | .opt b k off w => cond b (.ref k w off) (fvv (.pointer none))
 | .rfx k off w => .ref k w off
 | .etx k _ n w j off => .ref k (n * w) (j * w + off)
def qB : List SV -> List PV
 | [] => []
 | x :: l => x.enc :: qB l
end
theorem zD : ∀ (l : List SV), qB l = l.map SV.enc
 | [] => by simp [qB]
 | x :: l => by simp [qB, zD l]
end
inductive SpO where
 | map (es : List (Value × Value))
 | iter (s : ByteArray) (pos : Nat)
 | mit (t : TypeId) (k since last : Nat) (seen : List Nat)
def zQ : Nat -> List (Value × Value) -> List MapEntry
 | _, [] => []
 | i, p :: l => ⟨p.1, p.2, i⟩ :: zQ (i + 1) l
def SpO.enc : SpO -> PO
 | .map es => ⟨1000000001, false, kN (List.length es) (zQ 0 es)⟩
 | .iter s pos => ⟨1000000000, false, qQV s pos⟩
 | .mit _ k since last seen => ⟨1000000002, false, qCJ (.mp k) since last seen⟩
inductive SO where
 | spc (w : Nat) (x : SpO)
 | cells (el : TypeId) (w : Nat) (l : List SV)
 | list (el : TypeId) (gr : Bool) (g w : Nat) (t : Ty) (xs : List t.sem)
section
variable [Yl]
def SO.enc : SO -> PO
 | .cells el _ l => ⟨el, false, qB l⟩
 | .list el gr _ _ t xs => ⟨el, gr, (List.flatMap t.cells xs).map .f⟩
 | .spc _ x => x.enc
def SO.w : SO -> Nat
 | .cells _ w _ => w
 | .list _ _ _ w _ _ => w
 | .spc w _ => w
structure SH where
 next : Nat
 l : List (Nat × SO)
def slk (k : Nat) : List (Nat × SO) -> Option SO
 | [] => none
 | (j, o) :: l => cond (k == j) (some o) (slk k l)
def sst (k : Nat) (o : SO) : List (Nat × SO) -> List (Nat × SO)
 | [] => []
 | (j, p) :: l => cond (k == j) ((j, o) :: l) ((j, p) :: sst k o l)
def sdl (k : Nat) : List (Nat × SO) -> List (Nat × SO)
 | [] => []
 | (j, p) :: l => cond (k == j) (sdl k l) ((j, p) :: sdl k l)
def qI : List (Nat × SO) -> PHp
 | [] => []
 | (j, o) :: l => (j, o.enc) :: qI l
theorem pF (k : Nat) : ∀ (l : List (Nat × SO)), qD k (qI l) = (slk k l).map SO.enc
 | [] => rfl
 | (j, o) :: l => by
   show cond (k == j) (some o.enc) (qD k (qI l)) = (cond (k == j) (some o) (slk k l)).map SO.enc;cases k == j
   ·exact pF k l
   ·rfl
theorem jC (k : Nat) (o : SO) : ∀ (l : List (Nat × SO)), qI (sst k o l) = xP k o.enc (qI l)
 | [] => rfl
 | (j, p) :: l => by
   show qI (cond (k == j) ((j, o) :: l) ((j, p) :: sst k o l)) = cond (k == j) ((j, o.enc) :: qI l) ((j, p.enc) :: xP k o.enc (qI l));cases k == j
   ·show (j, p.enc) :: qI (sst k o l) = _;rw [jC k o l]; rfl
   ·rfl
theorem nL (k : Nat) : ∀ (l : List (Nat × SO)), qI (sdl k l) = qGT k (qI l)
 | [] => rfl
 | (j, p) :: l => by
   show qI (cond (k == j) (sdl k l) ((j, p) :: sdl k l)) = cond (k == j) (qGT k (qI l)) ((j, p.enc) :: qGT k (qI l));cases k == j
   ·show (j, p.enc) :: qI (sdl k l) = _;rw [nL k l]; rfl
   ·exact nL k l
end
theorem vU {k j : Nat} {o : SO} (hj : j ≠ k) : ∀ (l : List (Nat × SO)), slk j (sst k o l) = slk j l
 | [] => rfl
 | (i, p) :: l => by
   show slk j (cond (k == i) ((i, o) :: l) ((i, p) :: sst k o l)) = cond (j == i) (some p) (slk j l)
   cases h : k == i with
   | true =>
     have : k = i := by simpa using h
     subst this;show cond (j == k) (some o) (slk j l) = _;rw [show (j == k) = false by simpa using hj]; rfl
   | false =>
     show cond (j == i) (some p) (slk j (sst k o l)) = _;rw [vU hj l]
theorem qCW {k : Nat} {o p : SO} : ∀ {l : List (Nat × SO)}, slk k l = some p -> slk k (sst k o l) = some o
 | (i, q) :: l, h => by
   have h : cond (k == i) (some q) (slk k l) = some p := h;show slk k (cond (k == i) ((i, o) :: l) ((i, q) :: sst k o l)) = some o
   cases hi : k == i with
   | true =>
     show cond (k == i) (some o) (slk k l) = some o;rw [hi]; rfl
   | false =>
     rw [hi] at h;show cond (k == i) (some q) (slk k (sst k o l)) = some o;rw [hi]; exact qCW (l := l) h
theorem yP {k j : Nat} (hj : j ≠ k) : ∀ (l : List (Nat × SO)), slk j (sdl k l) = slk j l
 | [] => rfl
 | (i, p) :: l => by
   show slk j (cond (k == i) (sdl k l) ((i, p) :: sdl k l)) = cond (j == i) (some p) (slk j l)
   cases h : k == i with
   | true =>
     have : k = i := by simpa using h
     subst this;rw [show (j == k) = false by simpa using hj];exact yP hj l
   | false =>
     show cond (j == i) (some p) (slk j (sdl k l)) = _;rw [yP hj l]
theorem qNL (k : Nat) : ∀ (l : List (Nat × SO)), slk k (sdl k l) = none
 | [] => rfl
 | (i, p) :: l => by
   show slk k (cond (k == i) (sdl k l) ((i, p) :: sdl k l)) = none
   cases h : k == i with
   | true => exact qNL k l
   | false =>
     show cond (k == i) (some p) (slk k (sdl k l)) = none;rw [h]; exact qNL k l
theorem zJ {j : Nat} {o : SO} {l : List (Nat × SO)} (hj : j ≠ k) : slk j ((k, o) :: l) = slk j l := by
 show cond (j == k) (some o) (slk j l) = _;rw [show (j == k) = false by simpa using hj]; rfl
theorem wU {o : SO} {l : List (Nat × SO)} : slk k ((k, o) :: l) = some o := by
 show cond (k == k) (some o) (slk k l) = _;simp
def q1T (h : SH) (k g n : Nat) : Prop := g < h.next ∧ ∀ el gr w t xs, slk k h.l = some (.list el gr g w t xs) -> n = xs.length
mutual
def SV.ok (h : SH) : SV -> Prop
 | .agg l => okL h l
 | .tup l => okL h l
 | .own k g n => q1T h k g n
 | .sl k g n o m => q1T h k g n ∧ o + m <= n
 | .elt k g n _ _ _ => q1T h k g n
 | .etx k g n _ _ _ => q1T h k g n
 | .fn _ a b => okL h a ∧ okL h b
 | _ => True
def okL (h : SH) : List SV -> Prop
 | [] => True
 | x :: l => x.ok h ∧ okL h l
end
theorem yY {h : SH} : ∀ {l : List SV}, okL h l ↔ ∀ x ∈ l, x.ok h
 | [] => by simp [okL]
 | x :: l => by simp [okL, yY (l := l)]
structure OkH (P : Program) (h : SH) : Prop where
 ver : ∀ k ob, slk k h.l = some ob -> ob.w < h.next
 cells : ∀ k el w l, slk k h.l = some (.cells el w l) -> okL h l
 list : ∀ k el gr g w t xs, slk k h.l = some (.list el gr g w t xs) -> g < h.next ∧ szT P el = some t.w ∧ 0 < t.w
structure Keep (h h' : SH) : Prop where
 next : h.next <= h'.next
 same : ∀ k ob, slk k h'.l = some ob -> ob.w < h.next -> slk k h.l = some ob
 len : ∀ k el gr g w t xs, slk k h'.l = some (.list el gr g w t xs) -> g < h.next -> ∃ w0, ∃ xs0 : List t.sem, slk k h.l = some (.list el gr g w0 t xs0) ∧ xs0.length = xs.length
theorem Keep.refl (h : SH) : Keep h h := ⟨zT0 _, fun _ _ h _ => h, fun k el gr g w t xs h _ => ⟨w, xs, h, rfl⟩⟩
theorem Keep.trans {a b c : SH} (x : Keep a b) (y : Keep b c) : Keep a c :=
 ⟨zUS x.next y.next, fun k ob h hw => x.same k ob (y.same k ob h (zUA hw x.next)) hw, fun k el gr g w t xs h hg => by
   obtain ⟨w1, xs1, h1, e1⟩ := y.len k el gr g w t xs h (zUA hg x.next);obtain ⟨w2, xs2, h2, e2⟩ := x.len k el gr g w1 t xs1 h1 hg
   exact ⟨w2, xs2, h2, e2.trans e1⟩⟩
theorem q1T.keep {h h' : SH} {g n : Nat} (a : q1T h k g n) (b : Keep h h') : q1T h' k g n :=
 ⟨zUA a.1 b.next, fun el gr w t xs hk => by
   obtain ⟨w0, xs0, h0, e0⟩ := b.len k el gr g w t xs hk a.1
   rw [<- e0]; exact a.2 el gr w0 t xs0 h0⟩
mutual
theorem SV.ok.keep {h h' : SH} (b : Keep h h') : ∀ {x : SV}, x.ok h -> x.ok h'
 | .agg l, a => by simp only [SV.ok] at a ⊢; exact qL b a
 | .tup l, a => by simp only [SV.ok] at a ⊢; exact qL b a
 | .own k g n, a => by simp only [SV.ok] at a ⊢; exact a.keep b
 | .sl k g n o m, a => by simp only [SV.ok] at a ⊢; exact ⟨a.1.keep b, a.2⟩
 | .elt k g n w j off, a => by simp only [SV.ok] at a ⊢; exact a.keep b
 | .etx k g n w j off, a => by simp only [SV.ok] at a ⊢; exact a.keep b
 | .fn f x y, a => by simp only [SV.ok] at a ⊢; exact ⟨qL b a.1, qL b a.2⟩
 | .d _ _, _ => by simp [SV.ok]
 | .c _, _ => by simp [SV.ok]
 | .ref _ _ _, _ => by simp [SV.ok]
 | .lp _ _ _ _, _ => by simp [SV.ok]
 | .unk, _ => by simp [SV.ok]
 | .yv, _ => by simp [SV.ok]
 | .mp _, _ => by simp [SV.ok]
 | .opt _ _ _ _, _ => by simp [SV.ok]
 | .rfx _ _ _, _ => by simp [SV.ok]
theorem qL {h h' : SH} (b : Keep h h') : ∀ {l : List SV}, okL h l -> okL h' l
 | [], _ => by simp [okL]
 | x :: l, a => by simp only [okL] at a ⊢; exact ⟨SV.ok.keep b a.1, qL b a.2⟩
end
def SH.new (h : SH) (k : Nat) (f : Nat -> SO) : SH := ⟨h.next + 1, (k, f h.next) :: h.l⟩
def SH.put (h : SH) (k : Nat) (f : Nat -> SO) : SH := ⟨h.next + 1, sst k (f h.next) h.l⟩
def SH.del (h : SH) (k : Nat) : SH := ⟨h.next, sdl k h.l⟩
def zAW (P : Program) (h : SH) (n : Nat) : SO -> Prop
 | .cells _ w l => w = n ∧ okL h l
 | .list el _ g w t _ => w = n ∧ g = n ∧ szT P el = some t.w ∧ 0 < t.w
 | .spc w _ => w = n
theorem q1X {h : SH} {f : Nat -> SO} (hw : (f h.next).w = h.next) (hg : ∀ el gr g w t xs, f h.next = .list el gr g w t xs -> g = h.next) : Keep h (h.new k f) :=
 ⟨Nat.le_succ _, fun j ob hj hlt => by
   by_cases e : j = k
   ·subst e; rw [show slk j (h.new j f).l = some (f h.next) from wU] at hj;cases hj; omega
   ·rwa [show slk j (h.new k f).l = slk j h.l from zJ e] at hj, fun j el gr g w t xs hj hlt => by
   by_cases e : j = k
   ·subst e; rw [show slk j (h.new j f).l = some (f h.next) from wU] at hj;have := hg _ _ _ _ _ _ (zVT hj);omega
   ·rw [show slk j (h.new k f).l = slk j h.l from zJ e] at hj
    exact ⟨w, xs, hj, rfl⟩⟩
theorem kY {h : SH} {f : Nat -> SO} (a : OkH P h) (hf : zAW P h h.next (f h.next)) : Keep h (h.new k f) ∧ OkH P (h.new k f) := by
 have hw : (f h.next).w = h.next := by
  cases hq : f h.next with
  | cells el w l => rw [hq] at hf; exact hf.1
  | list el gr g w t xs => rw [hq] at hf; exact hf.1
  | spc w x => rw [hq] at hf; exact hf
 have hk : Keep h (h.new k f) := q1X hw fun el gr g w t xs e => by rw [e] at hf; exact hf.2.1
 refine ⟨hk, ⟨fun j ob hj => ?_, fun j el w l hj => ?_, fun j el gr g w t xs hj => ?_⟩⟩
 ·by_cases e : j = k
  ·subst e; rw [show slk j (h.new j f).l = some (f h.next) from wU] at hj;cases hj; rw [hw]; exact zVE _
  ·rw [show slk j (h.new k f).l = slk j h.l from zJ e] at hj;exact zWN (a.ver j ob hj)
 ·by_cases e : j = k
  ·subst e; rw [show slk j (h.new j f).l = some (f h.next) from wU] at hj;rw [zVT hj] at hf;exact qL hk hf.2
  ·rw [show slk j (h.new k f).l = slk j h.l from zJ e] at hj;exact qL hk (a.cells j el w l hj)
 ·by_cases e : j = k
  ·subst e; rw [show slk j (h.new j f).l = some (f h.next) from wU] at hj;rw [zVT hj] at hf;exact ⟨by rw [hf.2.1]; exact zVE _, hf.2.2⟩
  ·rw [show slk j (h.new k f).l = slk j h.l from zJ e] at hj;have := a.list j el gr g w t xs hj;exact ⟨zWN this.1, this.2⟩
def zED (h : SH) (n : Nat) : SO -> SO -> Prop
 | .cells _ _ _, .cells _ w' l' => w' = n ∧ okL h l'
 | .list el gr g _ t xs, ob' => ∃ xs' : List t.sem, ob' = .list el gr g n t xs' ∧ xs.length = xs'.length
 | .spc _ _, .spc w' _ => w' = n
 | _, _ => False
theorem bS {h : SH} {f : Nat -> SO} {ob : SO} (a : OkH P h) (hk : slk k h.l = some ob) (hf : zED h h.next ob (f h.next)) : Keep h (h.put k f) ∧ OkH P (h.put k f) := by
 have hs : slk k (h.put k f).l = some (f h.next) := qCW hk;have hn : ∀ j, j ≠ k -> slk j (h.put k f).l = slk j h.l := fun j hj => vU hj _
 have hw : (f h.next).w = h.next := by
  cases ob with
  | cells el w l =>
    cases hq : f h.next with
    | cells el' w' l' => rw [hq] at hf; exact hf.1
    | list => rw [hq] at hf; exact hf.elim
    | spc => rw [hq] at hf; exact hf.elim
  | spc w0 x0 =>
    cases hq : f h.next with
    | spc w' x' => rw [hq] at hf; exact hf
    | list => rw [hq] at hf; exact hf.elim
    | cells => rw [hq] at hf; exact hf.elim
  | list el gr g w t xs =>
    obtain ⟨xs', e, _⟩ := hf;rw [e]; rfl
 have hkp : Keep h (h.put k f) := by
  refine ⟨Nat.le_succ _, fun j o hj hlt => ?_, fun j el gr g w t xs hj hlt => ?_⟩
  ·by_cases e : j = k
   ·subst e; rw [hs] at hj; cases hj; omega
   ·rwa [hn j e] at hj
  ·by_cases e : j = k
   ·subst e;rw [hs] at hj;have hj := zVT hj
    cases ob with
    | cells el0 w0 l0 =>
      rw [hj] at hf;exact hf.elim
    | spc w0 x0 =>
      rw [hj] at hf;exact hf.elim
    | list el0 gr0 g0 w0 t0 xs0 =>
      obtain ⟨xs', e2, e3⟩ := hf;rw [e2] at hj;injection hj with a1 a2 a3 a4 a5 a6;subst a1 a2 a3 a5;cases a6;exact ⟨w0, xs0, hk, e3⟩
   ·rw [hn j e] at hj; exact ⟨w, xs, hj, rfl⟩
 refine ⟨hkp, ⟨fun j o hj => ?_, fun j el w l hj => ?_, fun j el gr g w t xs hj => ?_⟩⟩
 ·by_cases e : j = k
  ·subst e; rw [hs] at hj; cases hj; rw [hw]; exact zVE _
  ·rw [hn j e] at hj; exact zWN (a.ver j o hj)
 ·by_cases e : j = k
  ·subst e;rw [hs] at hj;have hj := zVT hj
   cases ob with
   | cells el0 w0 l0 => rw [hj] at hf; exact qL hkp hf.2
   | spc w0 x0 => rw [hj] at hf; exact hf.elim
   | list el0 gr0 g0 w0 t0 xs0 =>
     obtain ⟨xs', e2, e3⟩ := hf;rw [e2] at hj; cases hj
  ·rw [hn j e] at hj; exact qL hkp (a.cells j el w l hj)
 ·by_cases e : j = k
  ·subst e;rw [hs] at hj;have hj := zVT hj
   cases ob with
   | cells el0 w0 l0 => rw [hj] at hf; exact hf.elim
   | spc w0 x0 => rw [hj] at hf; exact hf.elim
   | list el0 gr0 g0 w0 t0 xs0 =>
     obtain ⟨xs', e2, e3⟩ := hf;rw [e2] at hj;injection hj with a1 a2 a3 a4 a5 a6;subst a1 a2 a3 a5;have := a.list j _ _ _ _ _ _ hk;exact ⟨zWN this.1, this.2⟩
  ·rw [hn j e] at hj;have := a.list j el gr g w t xs hj;exact ⟨zWN this.1, this.2⟩
theorem sH {h : SH} (a : OkH P h) : Keep h (h.del k) ∧ OkH P (h.del k) := by
 have hl : ∀ j ob, slk j (h.del k).l = some ob -> slk j h.l = some ob := fun j ob hj => by
  by_cases e : j = k
  ·subst e; rw [show slk j (h.del j).l = none from qNL j _] at hj; cases hj
  ·rwa [show slk j (h.del k).l = slk j h.l from yP e _] at hj
 have hkp : Keep h (h.del k) := ⟨zT0 _, fun j ob hj _ => hl j ob hj, fun j el gr g w t xs hj _ => ⟨w, xs, hl _ _ hj, rfl⟩⟩
 exact ⟨hkp, ⟨fun j ob hj => a.ver j ob (hl j ob hj), fun j el w l hj => qL hkp (a.cells j el w l (hl _ _ hj)), fun j el gr g w t xs hj => a.list j el gr g w t xs (hl _ _ hj)⟩⟩
def GV (Γ : Option Type) : Type := match Γ with
 | none => Unit
 | some γ => γ
def GS (Γ : Option Type) (S : Type) : Type := match Γ with
 | none => S
 | some γ => γ × S
def gj : {Γ : Option Type} -> {S : Type} -> GV Γ -> S -> GS Γ S
 | none, _, _, s => s
 | some _, _, g, s => (g, s)
def g1 : {Γ : Option Type} -> {S : Type} -> GS Γ S -> GV Γ
 | none, _, _ => ()
 | some _, _, p => p.1
def g2 : {Γ : Option Type} -> {S : Type} -> GS Γ S -> S
 | none, _, s => s
 | some _, _, p => p.2
theorem qL0 {Γ : Option Type} {S : Type} {g : GV Γ} {s : S} : g1 (gj g s) = g := by cases Γ <;> rfl
theorem qK1 {Γ : Option Type} {S : Type} {g : GV Γ} {s : S} : g2 (gj g s) = s := by cases Γ <;> rfl
structure Ent where
 as : List Ty
 rs : List Ty
 F : TyL as -> Option (TyL rs)
abbrev zU := List (FuncId × Ent)
def slT (g : FuncId) : zU -> Option Ent
 | [] => none
 | (k, e) :: l => cond (Nat.beq g k) (some e) (slT g l)
structure Sh where
 d : List Nat
 o : List Nat
 s : List (Nat × Nat)
 v : List (Nat × TypeId)
 ex : List Nat
 b : List (Nat × List (Option Nat)) := []
 bv : List (Nat × Nat × TypeId × Nat) := []
structure Ab where
 A : List Ty -> Type
 f : ∀ ts, TyL ts -> A ts
structure An where
 fz : List (Nat × List (Nat × TypeId))
 lp : List (Nat × Sh)
 rg : List (Nat × Sh) := []
 ab : List (Nat × Ab) := []
def lkA.{u} {α : Type u} (i : Nat) : List (Nat × α) -> Option α
 | [] => none
 | (j, x) :: l => cond (Nat.beq i j) (some x) (lkA i l)
structure zIV where
 as : List Ty
 ys : List Ty
 yt : List TypeId
 F : TyL as -> (γ : Type) -> (γ -> TyL ys -> Option (γ × Bool)) -> γ -> Option γ
def slI (g : FuncId) : List (FuncId × zIV) -> Option zIV
 | [] => none
 | (k, e) :: l => cond (Nat.beq g k) (some e) (slI g l)
structure YI (Γ : Type) where
 ys : List Ty
 yt : List TypeId
 stp : Γ -> TyL ys -> Option (Γ × Bool)
def yi0 : YI Unit := ⟨[], [], fun _ _ => none⟩
abbrev CIT : Type 1 := (R : Type) -> Nm -> FuncId -> List SV -> SH -> (SV -> SH -> zHP R) -> zHP R
end Go.Sv
namespace Go.Sv
open Go.Idl
variable {a b env l : List SV} {el t : TypeId} {ik k : IntKind} {j n off : Nat} {v x : SV} {ys : List Int}
noncomputable section
variable [Gc]
variable [Yl]
variable {P : Program} {h : SH} {R : Type} {r : R}
def zBR : Value -> SV
 | .agg cs => cond (kV okC cs.toList) (.agg (kS .c cs.toList)) .unk
 | .tuple cs => cond (kV okC cs.toList) (.tup (kS .c cs.toList)) .unk
 | v => cond (okC v) (.c v) .unk
def xQ (env : List SV) : Operand -> SV
 | .tmp t => (zL env t).getD .unk
 | .const v => zBR v
 | .global _ => .unk
 | .func g => .c (.func (.func g) #[] #[])
theorem zCU : ∀ (l : List Value), qB (kS .c l) = kS fvv l
 | [] => by simp [kS, qB]
 | v :: l => by
   show qB (.c v :: kS .c l) = fvv v :: kS fvv l;simp [qB, zCU l, SV.enc]
omit [Yl] in
theorem zCR : ∀ (l : List Value), okL h (kS .c l)
 | [] => by simp [kS, okL]
 | v :: l => by
   show okL h (.c v :: kS .c l);simp [okL, zCR l, SV.ok]
theorem q2J (v : Value) : ofC v = (zBR v).enc := by
 cases v with
 | agg cs =>
   show cond _ _ _ = (cond (kV okC cs.toList) (SV.agg (kS .c cs.toList)) SV.unk).enc;cases kV okC cs.toList
   ·simp [SV.enc]
   ·simp [SV.enc, zCU]
 | tuple cs =>
   show cond _ _ _ = (cond (kV okC cs.toList) (SV.tup (kS .c cs.toList)) SV.unk).enc;cases kV okC cs.toList
   ·simp [SV.enc]
   ·simp [SV.enc, zCU]
 | _ =>
   simp only [ofC, q7X, zBR];cases okC _ <;> simp [SV.enc]
omit [Yl] in
theorem q51 (v : Value) : (zBR v).ok h := by
 cases v with
 | agg cs =>
   show (cond (kV okC cs.toList) (.agg (kS .c cs.toList)) .unk : SV).ok h;cases kV okC cs.toList
   ·simp [SV.ok]
   ·simp [SV.ok, zCR]
 | tuple cs =>
   show (cond (kV okC cs.toList) (.tup (kS .c cs.toList)) .unk : SV).ok h;cases kV okC cs.toList
   ·simp [SV.ok]
   ·simp [SV.ok, zCR]
 | _ =>
   simp only [zBR];cases okC _ <;> simp [SV.ok]
theorem zF (env : List SV) (t : Nat) : zL (qB env) t = (zL env t).map SV.enc := by
 rw [qF, qF, zD, zT9]
omit [Yl] in
theorem sD {t : Nat} (ho : okL h env) (hx : zL env t = some x) : x.ok h := by
 rw [qF] at hx;exact yY.1 ho x (zUP hx)
theorem qP (env : List SV) (x : Operand) : qN (qB env) x = (xQ env x).enc := by
 cases x with
 | tmp t =>
   show (zL (qB env) t).getD .unk = ((zL env t).getD .unk).enc;rw [zF];cases zL env t <;> simp [SV.enc]
 | const v => exact q2J v
 | global g => simp [qN, xQ, SV.enc]
 | func g => simp [qN, xQ, SV.enc]
omit [Yl] in
theorem qCP (ho : okL h env) (x : Operand) : (xQ env x).ok h := by
 cases x with
 | tmp t =>
   show ((zL env t).getD .unk).ok h
   cases hx : zL env t with
   | none => simp [SV.ok]
   | some y => exact sD ho hx
 | const v => exact q51 v
 | global g => simp [xQ, SV.ok]
 | func g => simp [xQ, SV.ok]
def asI : SV -> Option (IntKind × Int)
 | .d (.int k) x => some (k, x)
 | .c (.int k x) => some (k, x)
 | _ => none
def asB : SV -> Option Bool
 | .d .bool x => some x
 | .c (.bool x) => some x
 | _ => none
def asS : SV -> Option ByteArray
 | .d .str x => some x
 | .c (.string x) => some x
 | _ => none
theorem xZ {x : Int} (e : asI v = some (k, x)) : v.enc = fvv (.int k x) := by
 unfold asI at e;split at e
 ·cases e; simp [SV.enc, Ty.fv, fvv]
 ·cases e; simp [SV.enc]
 ·cases e
theorem rC {x : Bool} (e : asB v = some x) : v.enc = fvv (.bool x) := by
 unfold asB at e;split at e
 ·cases e; simp [SV.enc, Ty.fv, fvv]
 ·cases e; simp [SV.enc]
 ·cases e
theorem bO {x : ByteArray} (e : asS v = some x) : v.enc = fvv (.string x) := by
 unfold asS at e;split at e
 ·cases e; simp [SV.enc, Ty.fv, fvv]
 ·cases e; simp [SV.enc]
 ·cases e
def Ty.svs : (t : Ty) -> t.sem -> List SV
 | .int k, x => [.d (.int k) x]
 | .bool, x => [.d .bool x]
 | .str, x => [.d .str x]
 | .unit, _ => []
 | .list el t, x => [.d (.list el t) x]
 | .pair a b, x => a.svs x.1 ++ b.svs x.2
 | .raw, x => [.d .raw x]
theorem qAU (a b : List SV) : qB (a ++ b) = qB a ++ qB b := by simp [zD]
theorem bG : ∀ (t : Ty) (x : t.sem), qB (t.svs x) = (t.cells x).map .f
 | .int k, x => by simp [Ty.svs, Ty.cells, qB, SV.enc, Ty.fv]
 | .bool, x => by simp [Ty.svs, Ty.cells, qB, SV.enc, Ty.fv]
 | .str, x => by simp [Ty.svs, Ty.cells, qB, SV.enc, Ty.fv]
 | .unit, x => by simp [Ty.svs, Ty.cells, qB]
 | .list el t, x => by simp [Ty.svs, Ty.cells, qB, SV.enc, Ty.fv]
 | .raw, x => by simp [Ty.svs, Ty.cells, qB, SV.enc, Ty.fv]
 | .pair a b, x => by
   show qB (a.svs x.1 ++ b.svs x.2) = (a.cells x.1 ++ b.cells x.2).map .f;rw [qAU, bG a, bG b, zUR]
omit [Yl] in
theorem nA (x : okL h a) (y : okL h b) : okL h (a ++ b) := yY.2 fun z hz => by
 rcases zUQ.1 hz with q | q
 ·exact yY.1 x z q
 ·exact yY.1 y z q
omit [Yl] in
theorem qI1 : ∀ (t : Ty) (x : t.sem), okL h (t.svs x)
 | .int k, x => by simp [Ty.svs, okL, SV.ok]
 | .bool, x => by simp [Ty.svs, okL, SV.ok]
 | .str, x => by simp [Ty.svs, okL, SV.ok]
 | .unit, x => by simp [Ty.svs, okL]
 | .list el t, x => by simp [Ty.svs, okL, SV.ok]
 | .raw, x => by simp [Ty.svs, okL, SV.ok]
 | .pair a b, x => nA (qI1 a x.1) (qI1 b x.2)
def q87 (k : IntKind) (v : SV) : Option Int := match asI v with
 | some (k', x) => cond (decide (k' = k)) (some x) none
 | none => none
def zC8 (el : TypeId) (t : Ty) : SV -> Option (List t.sem)
 | .d (.list el' t') xs => if e : t' = t then cond (Nat.beq el' el) (some (e ▸ xs)) none else none
 | _ => none
def asR : SV -> Option (List (Value × Value))
 | .d .raw x => some x
 | _ => none
def Ty.zL8 : (t : Ty) -> SV -> Option t.sem
 | .int k, v => q87 k v
 | .bool, v => asB v
 | .str, v => asS v
 | .list el t, v => zC8 el t v
 | .unit, _ => none
 | .pair _ _, _ => none
 | .raw, v => asR v
theorem qAM {x : Int} (e : q87 k v = some x) : v.enc = fvv (.int k x) := by
 unfold q87 at e;split at e
 ·rename_i k' x' hx
  cases hk : decide (k' = k) with
  | false => rw [hk] at e; cases e
  | true =>
    rw [hk] at e;cases e;have : k' = k := by simpa using hk
    subst this;exact xZ hx
 ·cases e
omit [Yl] in
theorem q2Y {t : Ty} {x : List t.sem} (e : zC8 el t v = some x) : v = .d (.list el t) x := by
 unfold zC8 at e;split at e
 ·rename_i el' t' xs;split at e
  ·rename_i ht;subst ht
   cases hk : Nat.beq el' el with
   | false => rw [hk] at e; cases e
   | true =>
     rw [hk] at e;cases e;have : el' = el := zTZ hk;subst this;rfl
  ·cases e
 ·cases e
theorem qHY : ∀ {t : Ty} {v : SV} {x : t.sem}, t.zL8 v = some x -> v.enc = .f (t.fv x) ∧ t.one = true
 | .int k, v, x, e => ⟨qAM e, rfl⟩
 | .bool, v, x, e => ⟨rC e, rfl⟩
 | .str, v, x, e => ⟨bO e, rfl⟩
 | .list el t, v, x, e => ⟨by rw [q2Y e]; simp [SV.enc], rfl⟩
 | .raw, v, x, e => by
   have e : asR v = some x := e;refine ⟨?_, rfl⟩;unfold asR at e;split at e
   ·cases e; simp [SV.enc]
   ·cases e
 | .unit, v, x, e => by cases e
 | .pair a b, v, x, e => by cases e
def q6D (t : Ty) : List SV -> Option (t.sem × List SV)
 | v :: l => match t.zL8 v with
   | some x => some (x, l)
   | none => none
 | [] => none
def Ty.zHZ : (t : Ty) -> List SV -> Option (t.sem × List SV)
 | .int k, l => q6D (.int k) l
 | .bool, l => q6D .bool l
 | .str, l => q6D .str l
 | .raw, l => q6D .raw l
 | .list el t, l => q6D (.list el t) l
 | .unit, l => some ((), l)
 | .pair a b, l => match a.zHZ l with
   | some (x, l1) => (match b.zHZ l1 with
     | some (y, l2) => some ((x, y), l2)
     | none => none)
   | none => none
theorem oH {t : Ty} {l' : List SV} {x : t.sem} (e : q6D t l = some (x, l')) : qB l = (t.cells x).map .f ++ qB l' := by
 cases l with
 | nil => cases e
 | cons v l =>
   unfold q6D at e;simp only at e;split at e
   ·rename_i y hy;cases e;obtain ⟨h1, h2⟩ := qHY hy;rw [Ty.cells_one h2];simp [qB, h1]
   ·cases e
theorem qAN : ∀ {t : Ty} {l l' : List SV} {x : t.sem}, t.zHZ l = some (x, l') -> qB l = (t.cells x).map .f ++ qB l'
 | .int k, l, l', x, e => oH e
 | .bool, l, l', x, e => oH e
 | .str, l, l', x, e => oH e
 | .raw, l, l', x, e => oH e
 | .list el t, l, l', x, e => oH e
 | .unit, l, l', x, e => by cases e; simp [Ty.cells]
 | .pair a b, l, l', x, e => by
   unfold Ty.zHZ at e;split at e
   ·rename_i x1 l1 h1;split at e
    ·rename_i y l2 h2;cases e;show qB l = (a.cells x1 ++ b.cells y).map .f ++ qB l';rw [qAN h1, qAN h2, zUR, zUZ]
    ·cases e
   ·cases e
def Ty.zKU (t : Ty) (l : List SV) : Option t.sem := match t.zHZ l with
 | some (x, []) => some x
 | _ => none
theorem qA6 {t : Ty} {x : t.sem} (e : t.zKU l = some x) : qB l = (t.cells x).map .f := by
 unfold Ty.zKU at e;split at e
 ·rename_i y hy;cases e;rw [qAN hy]; simp [qB]
 ·cases e
def qF2 (P : Program) (t : TypeId) (l : List SV) (off : Nat) : Option SV := match qS0 P t with
 | some true => (match szT P t with
   | some n => cond (Nat.ble (off + n) l.length) (some (.agg ((l.drop off).take n))) none
   | none => none)
 | some false => zL l off
 | none => none
omit [Yl] in
theorem qNY {b : List SV} (x : okL h a) (hs : ∀ z ∈ b, z ∈ a) : okL h b := yY.2 fun z hz => yY.1 x z (hs z hz)
theorem qGF (e : qF2 P t l off = some v) : pQ P t (qB l) off = some v.enc ∧ (okL h l -> v.ok h) := by
 unfold qF2 at e;unfold pQ;split at e
 ·rename_i ha;rw [ha];simp only;split at e
  ·rename_i n hn;rw [hn];simp only
   cases hc : Nat.ble (off + n) l.length with
   | false => rw [hc] at e; cases e
   | true =>
     rw [hc] at e;cases e;refine ⟨by rw [zD, zUO, hc]; simp [SV.enc, zD, zWO, zWP], fun ho => ?_⟩;simp only [SV.ok];exact qNY ho fun z hz => zXI (zYG hz)
  ·cases e
 ·rename_i ha;rw [ha];simp only;rw [zF, e];exact ⟨rfl, fun ho => sD ho e⟩
 ·cases e
theorem qB1 {t' : Ty} {xs : List t'.sem} {x : t'.sem} (hx : xs[j]? = some x) (e : qF2 P t (t'.svs x) off = some v) :
 pQ P t ((xs.flatMap t'.cells).map .f) (j * t'.w + off) = some v.enc ∧ qOJ P t (xs.flatMap t'.cells) (j * t'.w + off) = some v.enc ∧ v.ok h := by
 have h0 := qGF (h := h) e;refine ⟨?_, ?_, h0.2 (qI1 t' x)⟩
 all_goals
  have h1 := h0.1;rw [bG] at h1;unfold pQ at h1
 ·unfold pQ;split at h1
  ·rename_i ha;split at h1
   ·rename_i n hn
    cases hc : Nat.ble (off + n) ((t'.cells x).map PV.f).length with
    | false => rw [hc] at h1; cases h1
    | true =>
      rw [hc] at h1
      have hle : off + n <= t'.w := by
       have := zUH hc;rw [zUO, t'.zH1] at this;exact this
      rw [show Nat.ble (j * t'.w + off + n) ((xs.flatMap t'.cells).map PV.f).length = true from zUG (by rw [zUO]; exact qGC hx hle)];simp only [cond_true] at h1 ⊢;rw [<- h1, <- zWO, <- zWP, qJ4 hx hle, <- zWO, <- zWP]
   ·cases h1
  ·rename_i ha;rw [qF, zT9] at h1 ⊢
   have hlt : off < t'.w := by
    rw [<- t'.zH1 x]
    cases hq : (t'.cells x)[off]? with
    | none => rw [hq] at h1; cases h1
    | some y => exact (zT2.1 hq).1
   rw [Go.Sv.flat_get hx hlt]; exact h1
  ·cases h1
 ·unfold qOJ;split at h1
  ·rename_i ha;split at h1
   ·rename_i n hn
    cases hc : Nat.ble (off + n) ((t'.cells x).map PV.f).length with
    | false => rw [hc] at h1; cases h1
    | true =>
      rw [hc] at h1
      have hle : off + n <= t'.w := by
       have := zUH hc;rw [zUO, t'.zH1] at this;exact this
      rw [show Nat.ble (j * t'.w + off + n) (xs.flatMap t'.cells).length = true from zUG (qGC hx hle)];simp only [cond_true] at h1 ⊢;rw [<- h1, qJ4 hx hle, <- zWO, <- zWP]
   ·cases h1
  ·rename_i ha;rw [qF, zT9] at h1
   cases hq : (t'.cells x)[off]? with
   | none => rw [hq] at h1; cases h1
   | some y =>
     rw [hq] at h1
     have hlt : off < t'.w := by
      rw [<- t'.zH1 x];exact (zT2.1 hq).1
     rw [Go.Sv.flat_get hx hlt, hq];exact h1
  ·cases h1
def zCO : List SV -> Option IntKind
 | v :: _ => (asI v).map Prod.fst
 | [] => none
def qL8 (ik : IntKind) : List SV -> Option (List Int)
 | [] => some []
 | v :: l => match q87 ik v, qL8 ik l with
   | some x, some xs => some (x :: xs)
   | _, _ => none
def qT0 (off : Nat) (v : Int) (xs : List Int) : Option (List Int) := if off < xs.length then some (xs.set off v) else none
def spread (ik : IntKind) (n : Nat) (ys : List Int) : List SV := (List.range n).map fun i => SV.d (.int ik) (ys.getD i 0 : Int)
theorem bQ {ik : IntKind} : ∀ {l : List SV} {xs : List Int}, qL8 ik l = some xs -> qB l = xs.map fun x => fvv (.int ik x)
 | [], xs, e => by cases e; simp [qB]
 | v :: l, xs, e => by
   unfold qL8 at e;split at e
   ·rename_i x ys hx hy;cases e;simp only [qB, zUB, qAM hx, bQ hy]
   ·cases e
theorem qFT (h : ys.length = n) : qB (spread ik n ys) = ys.map fun x => fvv (.int ik x) := by
 rw [zD];unfold spread;rw [zXA];apply zUX;intro i;rw [zT9, zT9];by_cases hi : i < n
 ·rw [zVZ hi, zT1 (by omega : i < ys.length)];simp only [zT7, Function.comp, zT5];rw [List.getD_eq_getElem?_getD, zT1 (by omega : i < ys.length)];simp [SV.enc, Ty.fv, fvv]
 ·rw [zUF (by simp; omega), zUF (by omega)];rfl
theorem qZF : okL h (spread ik n ys) := yY.2 fun x hx => by
 unfold spread at hx;obtain ⟨i, _, rfl⟩ := zUN.1 hx;simp [SV.ok]
def q8S (P : Program) (t : TypeId) (a : SV) (h : SH) (K : SV -> zHP R) : zHP R := match a with
 | .ref k off w => (match slk k h.l with
   | some (.cells el _ l) => (match qF2 P t l off with
     | some v => cond (!(spec P el) && Nat.beq w l.length) (K v) .fail
     | none => .fail)
   | _ => .fail)
 | .elt k g n w j off => (match slk k h.l with
   | some (.list _ _ g' _ t' xs) => cond (Nat.beq g g' && Nat.beq w t'.w) (.bind (xs[j]?) fun x => match qF2 P t (t'.svs x) off with
     | some v => K v
     | none => .fail) .fail
   | _ => .fail)
 | .lp t' xs j off => .bind (xs[j]?) fun x => match qF2 P t (t'.svs x) off with
   | some v => K v
   | none => .fail
 | .rfx k off w => (match slk k h.l with
   | some (.cells el _ l) => (match zCO l with
     | some ik => (match qL8 ik l, qS0 P t with
       | some xs, some false => cond (!(spec P el) && Nat.beq w l.length) (.bind (xs[off]?) fun x => K (.d (.int ik) (x : Int))) .fail
       | _, _ => .fail)
     | none => .fail)
   | _ => .fail)
 | .etx k g n w j off => (match slk k h.l with
   | some (.list _ _ g' _ t' xs) => cond (Nat.beq g g' && Nat.beq w t'.w) (.bind (xs[j]?) fun x => match zCO (t'.svs x) with
     | some ik => (match qL8 ik (t'.svs x), qS0 P t with
       | some ys, some false => .bind (ys[off]?) fun z => K (.d (.int ik) (z : Int))
       | _, _ => .fail)
     | none => .fail) .fail
   | _ => .fail)
 | _ => .fail
theorem zH (l : List SV) : (qB l).length = l.length := by rw [zD, zUO]
theorem yL {k : Nat} {ob : SO} {l : List (Nat × SO)} (e : slk k l = some ob) : qD k (qI l) = some ob.enc := by rw [pF, e]; rfl
theorem zA {gr : Bool} {g w : Nat} {t : Ty} {xs : List t.sem} : (SO.list el gr g w t xs).enc.cs.length = xs.length * t.w := by
 show ((xs.flatMap t.cells).map PV.f).length = _;rw [zUO, xR]
theorem q1N {a : SV} {K : SV -> zHP R} (ho : OkH P h) (ha : a.ok h) (e : (q8S P t a h K).run = some r) : ∃ v, eG P t a.enc (qI h.l) = some v.enc ∧ v.ok h ∧ (K v).run = some r := by
 unfold q8S at e;split at e
 ·rename_i k off w;split at e
  ·rename_i el w' l hk;split at e
   ·rename_i v hv;obtain ⟨h1, h2⟩ := qH e;rw [zTY, zU0] at h1;obtain ⟨hsp, h1⟩ := h1;obtain ⟨h3, h4⟩ := qGF (h := h) hv;refine ⟨v, ?_, h4 (ho.cells _ _ _ _ hk), h2⟩;simp only [SV.enc, eG, yL hk];show cond (spec P el) none (cond (Nat.beq w (qB l).length) (pQ P t (qB l) off) none) = _;rw [zH, h1, hsp];exact h3
   ·cases e
  ·cases e
 ·rename_i k g n w j off;split at e
  ·rename_i el gr g' w' t' xs hk;obtain ⟨h1, h2⟩ := qH e;rw [zTY] at h1;have hg : g = g' := zTZ h1.1;have hw : w = t'.w := zTZ h1.2;subst hg hw;obtain ⟨x, hx, h3⟩ := run_bind h2;split at h3
   ·rename_i v hv;have h5 := qB1 (h := h) hx hv;refine ⟨v, ?_, h5.2.2, h3⟩;simp only [SV.ok] at ha;have hn : n = xs.length := ha.2 _ _ _ _ _ hk;simp only [SV.enc, eG, yL hk];rw [zA, hn, show spec P (SO.list el gr g w' t' xs).enc.el = false from jW (ho.list _ _ _ _ _ _ _ hk).2.1];simp only [nP, cond_true, cond_false];exact h5.1
   ·cases h3
  ·cases e
 ·rename_i t' xs j off;obtain ⟨x, hx, h3⟩ := run_bind e;split at h3
  ·rename_i v hv;have h5 := qB1 (h := h) hx hv;exact ⟨v, by simp only [SV.enc, eG]; exact h5.2.1, h5.2.2, h3⟩
  ·cases h3
 ·rename_i k off w;split at e
  ·rename_i el w' l hk;split at e
   ·rename_i ik hik;split at e
    ·rename_i xs hxs hag;obtain ⟨h1, h2⟩ := qH e;rw [zTY, zU0] at h1;obtain ⟨hsp, h1⟩ := h1;obtain ⟨x, hx, h3⟩ := run_bind h2;refine ⟨_, ?_, by simp [SV.ok], h3⟩;simp only [SV.enc, eG, yL hk];show cond (spec P el) none (cond (Nat.beq w (qB l).length) (pQ P t (qB l) off) none) = _;rw [zH, h1, hsp];simp only [cond_true, cond_false];unfold pQ;rw [hag];show zL (qB l) off = _;rw [qF, bQ hxs, zT9, hx];simp [Ty.fv, fvv]
    ·cases e
   ·cases e
  ·cases e
 ·rename_i k g n w j off;split at e
  ·rename_i el gr g' w' t' xs hk;obtain ⟨h1, h2⟩ := qH e;rw [zTY] at h1;have hg : g = g' := zTZ h1.1;have hw : w = t'.w := zTZ h1.2;subst hg hw;obtain ⟨x, hx, h3⟩ := run_bind h2;split at h3
   ·rename_i ik hik;split at h3
    ·rename_i ys hys hag;obtain ⟨z, hz, h4⟩ := run_bind h3;refine ⟨_, ?_, by simp [SV.ok], h4⟩;have hn1 : zL (qB (t'.svs x)) off = some (fvv (.int ik z)) := by rw [qF, bQ hys, zT9, hz]; rfl
     rw [zF] at hn1;obtain ⟨v0, hv0, hv1⟩ := zT6.1 hn1;have hsp : qF2 P t (t'.svs x) off = some v0 := by unfold qF2; rw [hag]; exact hv0
     have h5 := qB1 (h := h) hx hsp;simp only [SV.ok] at ha;have hn : n = xs.length := ha.2 _ _ _ _ _ hk;simp only [SV.enc, eG, yL hk];rw [zA, hn, show spec P (SO.list el gr g w' t' xs).enc.el = false from jW (ho.list _ _ _ _ _ _ _ hk).2.1];simp only [nP, cond_true, cond_false];have h6 := h5.1;rw [hv1] at h6;rw [show (SO.list el gr g w' t' xs).enc.cs = (xs.flatMap t'.cells).map .f from rfl, h6];simp [Ty.fv, fvv]
    ·cases h3
   ·cases h3
  ·cases e
 ·cases e
def Post (P : Program) (h h' : SH) (v : SV) : Prop := Keep h h' ∧ OkH P h' ∧ v.ok h'
def yN : SV -> List SV
 | .agg l => l
 | v => [v]
theorem dQ (v : SV) : zT v.enc = qB (yN v) := by
 cases v <;> simp [SV.enc, zT, yN, qB, fvv];rename_i b _ _ _;cases b <;> rfl
omit [Yl] in
theorem qC6 (hv : v.ok h) : okL h (yN v) := by
 cases v <;> simp only [yN, okL, SV.ok, and_true] at hv ⊢ <;> exact hv
def qBD (l : List SV) (i : Nat) (vs : List SV) : List SV := l.take i ++ vs ++ l.drop (i + vs.length)
theorem qB9 (l vs : List SV) (i : Nat) : qB (qBD l i vs) = jA (qB l) i (qB vs) := by
 simp [qBD, jA, zD, zWP, zWO]
omit [Yl] in
theorem qRJ {vs : List SV} {i : Nat} (a : okL h l) (b : okL h vs) : okL h (qBD l i vs) :=
 nA (nA (qNY a fun z hz => zYG hz) b) (qNY a fun z hz => zXI hz)
omit [Yl] in
theorem q2V {α : Type} (A B C : List α) (c : List α) (hle : off + c.length <= B.length) :
 (A ++ B ++ C).take (A.length + off) ++ c ++ (A ++ B ++ C).drop (A.length + off + c.length) = A ++ (B.take off ++ c ++ B.drop (off + c.length)) ++ C := by
 rw [zUZ A B C, List.take_append, zU6 (by omega), zX3, List.take_append_of_le_length (by omega)];rw [zVX, List.drop_append, List.drop_of_length_le (by omega), zX3, zXS, List.drop_append_of_le_length (by omega)];simp [zUZ]
omit [Yl] in
theorem qFH {t : Ty} {xs : List t.sem} {x : t.sem} (hx : xs[j]? = some x) (y : t.sem) : (xs.set j y).flatMap t.cells = (xs.take j).flatMap t.cells ++ t.cells y ++ (xs.drop (j + 1)).flatMap t.cells := by
 have hl := (zT2.1 hx).1;rw [zW3, if_pos hl, zXM, zVO, zUZ]
omit [Yl] in
theorem qFU {t : Ty} {xs : List t.sem} {x y : t.sem} (hx : xs[j]? = some x) {c : List PV} (hle : off + c.length <= t.w) (hy : jA ((t.cells x).map .f) off c = (t.cells y).map .f) :
 jA ((xs.flatMap t.cells).map .f) (j * t.w + off) c = ((xs.set j y).flatMap t.cells).map .f := by
 have hl := (zT2.1 hx).1
 have e0 : xs.set j x = xs := by
  apply zUX;intro i;rw [zUM];by_cases e : j = i
  ·subst e; rw [if_pos rfl, if_pos hl, hx]
  ·rw [if_neg e]
 have e1 := qFH hx x;rw [e0] at e1;rw [qFH hx y, e1];simp only [zUR];unfold jA;have hA : (((xs.take j).flatMap t.cells).map PV.f).length = j * t.w := by rw [zUO, xR, zU1, zW8 (by omega)]
 rw [<- hA, q2V _ _ _ _ (by rw [zUO, t.zH1]; exact hle)];unfold jA at hy;rw [hy]
def qW5 (P : Program) (t : TypeId) (a x : SV) (h : SH) (K : SV -> SH -> zHP R) : zHP R := match szT P t with
 | some n => (match a with
   | .ref k off w => (match slk k h.l with
     | some (.cells el _ l) => cond (!(spec P el) && (Nat.beq w l.length && (Nat.beq n (yN x).length && (Nat.ble (off + n) l.length && (pnt x.enc && (qB (yN x)).all rT)))))
        (K (.tup []) (h.put k fun v => .cells el v (qBD l off (yN x)))) .fail
     | _ => .fail)
   | .elt k g m w j off => (match slk k h.l with
     | some (.list el gr g' _ t' xs) => cond (Nat.beq g g' && (Nat.beq w t'.w && (Nat.beq n (yN x).length && (Nat.ble (off + n) w && (pnt x.enc && (qB (yN x)).all rT)))))
        (.bind (xs[j]?) fun y => match t'.zKU (qBD (t'.svs y) off (yN x)) with
          | some z => K (.tup []) (h.put k fun v => .list el gr g v t' (List.set xs j z))
          | none => .fail) .fail
     | _ => .fail)
   | .rfx k off w => (match slk k h.l with
     | some (.cells el _ l) => (match zCO l with
       | some ik => (match qL8 ik l, q87 ik x with
         | some xs, some v => cond (!(spec P el) && (Nat.beq w l.length && Nat.beq n 1)) (.bind (qT0 off v xs) fun ys => K (.tup []) (h.put k fun u => .cells el u (spread ik (List.length xs) ys))) .fail
         | _, _ => .fail)
       | none => .fail)
     | _ => .fail)
   | .etx k g m w j off => (match slk k h.l with
     | some (.list el gr g' _ t' xs) => cond (Nat.beq g g' && (Nat.beq w t'.w && Nat.beq n 1)) (.bind (xs[j]?) fun y => match zCO (t'.svs y) with
       | some ik => (match qL8 ik (t'.svs y), q87 ik x with
         | some ys, some v => .bind (qT0 off v ys) fun zs => match t'.zKU (spread ik (List.length ys) zs) with
           | some z => K (.tup []) (h.put k fun v => .list el gr g v t' (List.set xs j z))
           | none => .fail
         | _, _ => .fail)
       | none => .fail) .fail
     | _ => .fail)
   | _ => .fail)
 | none => .fail
theorem qX1 {a : SV} {K : SV -> SH -> zHP R} (ho : OkH P h) (ha : a.ok h) (hx : x.ok h) (e : (qW5 P t a x h K).run = some r) :
 ∃ h', bE P t a.enc x.enc (qI h.l) = some (qI h'.l) ∧ Keep h h' ∧ OkH P h' ∧ (K (.tup []) h').run = some r := by
 unfold qW5 at e;split at e
 ·rename_i n hn;split at e
  ·rename_i k off w;split at e
   ·rename_i el w' l hk;obtain ⟨h1, h2⟩ := qH e;rw [zTY, zU0] at h1;obtain ⟨hsp, h1⟩ := h1;have hp := bS (f := fun v => .cells el v (qBD l off (yN x))) ho hk ⟨rfl, qRJ (ho.cells _ _ _ _ hk) (qC6 hx)⟩;refine ⟨_, ?_, hp.1, hp.2, h2⟩;simp only [SV.enc, bE, yL hk, hn];show cond (spec P el) none (cond (Nat.beq w (qB l).length && (Nat.beq n (zT x.enc).length && (Nat.ble (off + n) (qB l).length && (pnt x.enc && (zT x.enc).all rT)))) _ _) = _;rw [dQ, zH, zH, h1, hsp];simp only [cond_true];rw [show qI (h.put k fun v => .cells el v (qBD l off (yN x))).l = xP k (SO.enc (.cells el h.next (qBD l off (yN x)))) (qI h.l) from jC k _ _];show some (xP k ⟨el, false, jA (qB l) off (qB (yN x))⟩ (qI h.l)) = some (xP k ⟨el, false, qB (qBD l off (yN x))⟩ (qI h.l));rw [qB9]
   ·cases e
  ·rename_i k g m w j off;split at e
   ·rename_i el gr g' w' t' xs hk;obtain ⟨h1, h2⟩ := qH e;simp only [zTY] at h1;obtain ⟨q1, q2, q3, q4, q5, q6⟩ := h1;have hg : g = g' := zTZ q1;have hw : w = t'.w := zTZ q2;subst hg hw;obtain ⟨y, hy, h3⟩ := run_bind h2;split at h3
    ·rename_i z hz;have hp := bS (f := fun v => .list el gr g v t' (List.set xs j z)) ho hk ⟨_, rfl, by simp⟩;refine ⟨_, ?_, hp.1, hp.2, h3⟩;simp only [SV.ok] at ha;have hm : m = xs.length := ha.2 _ _ _ _ _ hk;have hle : off + n <= t'.w := zUH q4;simp only [SV.enc, bE, yL hk, hn];rw [zA, hm, dQ, zH, show spec P (SO.list el gr g w' t' xs).enc.el = false from jW (ho.list _ _ _ _ _ _ _ hk).2.1]
     have hjl : j * t'.w + off + n <= xs.length * t'.w := by
      have := qGC hy hle
      rwa [xR] at this
     rw [q3, q5, q6, show Nat.ble (j * t'.w + off + n) (xs.length * t'.w) = true from zUG hjl];simp only [nP, zU3, cond_true, cond_false];rw [show qI (h.put k fun v => .list el gr g v t' (List.set xs j z)).l = xP k (SO.enc (.list el gr g h.next t' (List.set xs j z))) (qI h.l) from jC k _ _];show some (xP k ⟨el, gr, jA ((xs.flatMap t'.cells).map .f) (j * t'.w + off) (qB (yN x))⟩ (qI h.l)) = some (xP k ⟨el, gr, ((List.set xs j z).flatMap t'.cells).map .f⟩ (qI h.l));have hnl : n = (qB (yN x)).length := by rw [zH]; exact zTZ q3
     rw [qFU hy (y := z) (by rw [<- hnl]; exact hle) (by rw [<- bG, <- qB9]; exact qA6 hz)]
    ·cases h3
   ·cases e
  ·rename_i k off w;split at e
   ·rename_i el w' l hk;split at e
    ·rename_i ik hik;split at e
     ·rename_i xs v hxs hv;obtain ⟨h1, h2⟩ := qH e;simp only [zTY, zU0] at h1;obtain ⟨hsp, hw, hn1⟩ := h1;have hn2 := zTZ hn1;subst hn2;obtain ⟨ys, hys, h3⟩ := run_bind h2;unfold qT0 at hys;split at hys
      case isFalse => cases hys
      rename_i hlt;cases hys;have hp := bS (f := fun u => .cells el u (spread ik (List.length xs) (xs.set off v))) ho hk ⟨rfl, qZF⟩;refine ⟨_, ?_, hp.1, hp.2, h3⟩;have hel := bQ hxs;have hll : (qB l).length = xs.length := by rw [hel, zUO]
      simp only [SV.enc, bE, yL hk, hn];rw [qAM hv];show cond (spec P el) none (cond (Nat.beq w (qB l).length && (Nat.beq 1 1 && (Nat.ble (off + 1) (qB l).length && (true && true)))) (some (xP k ⟨el, false, jA (qB l) off [fvv (.int ik v)]⟩ (qI h.l))) none) = _;rw [hsp, show Nat.beq w (qB l).length = true by rw [zH]; exact hw, hll, show Nat.ble (off + 1) xs.length = true from zUG hlt];rw [show qI (h.put k fun u => .cells el u (spread ik (List.length xs) (xs.set off v))).l = xP k (SO.enc (.cells el h.next (spread ik (List.length xs) (xs.set off v)))) (qI h.l) from jC k _ _];show some (xP k ⟨el, false, jA (qB l) off [fvv (.int ik v)]⟩ (qI h.l)) = some (xP k ⟨el, false, qB (spread ik (List.length xs) (xs.set off v))⟩ (qI h.l));rw [qFT (by simp), hel]
      have : jA (xs.map fun x => fvv (.int ik x)) off [fvv (.int ik v)] = (xs.set off v).map fun x => fvv (.int ik x) := by
       rw [List.map_set, zW3, if_pos (by rw [zUO]; exact hlt)];unfold jA;simp
      rw [this]
     ·cases e
    ·cases e
   ·cases e
  ·rename_i k g m w j off;split at e
   ·rename_i el gr g' w' t' xs hk;obtain ⟨h1, h2⟩ := qH e;simp only [zTY] at h1;obtain ⟨q1, q2, q3⟩ := h1;have hg : g = g' := zTZ q1;have hw : w = t'.w := zTZ q2;have hn2 := zTZ q3;subst hg hw hn2;obtain ⟨y, hy, h3⟩ := run_bind h2;split at h3
    ·rename_i ik hik;split at h3
     ·rename_i ys v hys hv;obtain ⟨zs, hzs, h4⟩ := run_bind h3;split at h4
      ·rename_i z hz;unfold qT0 at hzs;split at hzs
       case isFalse => cases hzs
       rename_i hlt;cases hzs;have hp := bS (f := fun v => .list el gr g v t' (List.set xs j z)) ho hk ⟨_, rfl, by simp⟩;refine ⟨_, ?_, hp.1, hp.2, h4⟩;simp only [SV.ok] at ha;have hm : m = xs.length := ha.2 _ _ _ _ _ hk;have hel := bQ hys
       have hcw : ys.length = t'.w := by
        have := congrArg List.length hel;rw [bG, zUO, zUO, t'.zH1] at this;exact this.symm
       have hle : off + 1 <= t'.w := by omega
       simp only [SV.enc, bE, yL hk, hn];rw [zA, hm, qAM hv, show spec P (SO.list el gr g w' t' xs).enc.el = false from jW (ho.list _ _ _ _ _ _ _ hk).2.1]
       have hjl : j * t'.w + off + 1 <= xs.length * t'.w := by
        have := qGC hy hle
        rwa [xR] at this
       rw [show Nat.ble (j * t'.w + off + 1) (xs.length * t'.w) = true from zUG hjl];simp only [nP, cond_false];show some (xP k ⟨el, gr, jA ((xs.flatMap t'.cells).map .f) (j * t'.w + off) [fvv (.int ik v)]⟩ (qI h.l)) = _;rw [show qI (h.put k fun v => .list el gr g v t' (List.set xs j z)).l = xP k (SO.enc (.list el gr g h.next t' (List.set xs j z))) (qI h.l) from jC k _ _];show _ = some (xP k ⟨el, gr, ((List.set xs j z).flatMap t'.cells).map .f⟩ (qI h.l));rw [qFU hy (y := z) hle ?_];rw [<- qA6 hz, qFT (by simp), <- bG, hel, List.map_set, zW3, if_pos (by rw [zUO]; exact hlt)];unfold jA;simp
      ·cases h4
     ·cases h3
    ·cases h3
   ·cases e
  ·cases e
 ·cases e
end
end Go.Sv
namespace Go.Sv
open Go.Idl
variable {el t : TypeId} {i k n off w : Nat} {ix v x : SV}
noncomputable section
variable [Gc]
variable [Yl]
variable {P : Program} {h : SH} {R : Type} {r : R}
def tyL : List (Option Ty) -> Option Ty
 | [] => some .unit
 | [t] => t.map fun t => .pair t .unit
 | [a, b] => match a, b with
   | some a, some b => some (.pair a b)
   | _, _ => none
 | a :: l => match a, tyL l with
   | some a, some b => some (.pair a b)
   | _, _ => none
def qIR (P : Program) : Nat -> TypeId -> Option Ty
 | 0, _ => none
 | n + 1, t => match P.underlying t with
   | some (.int k) => some (.int k)
   | some .bool => some .bool
   | some .string => some .str
   | some (.slice el) => (match qIR P n el with
     | some u => some (.list el u)
     | none => none)
   | some (.struct fields) => tyL (fields.toList.map fun f => qIR P n f.type)
   | some (.array k el) => tyL (List.replicate k (qIR P n el))
   | _ => none
def zcS (P : Program) (t : TypeId) : Option (List SV) := match qCS P t with
 | some z => cond (kV okC z.cells.toList) (some (kS .c z.cells.toList)) none
 | none => none
theorem qHS {l : List SV} (e : zcS P t = some l) : zc P t = some (qB l) ∧ okL h l := by
 unfold zcS at e;unfold zc;split at e
 ·rename_i z hz
  cases hc : kV okC z.cells.toList with
  | false => rw [hc] at e; cases e
  | true =>
    rw [hc] at e;cases e;rw [hz];simp only [hc, cond_true];exact ⟨by rw [zCU], zCR _⟩
 ·cases e
def qZJ (P : Program) (el : TypeId) (k : Nat) (h : SH) (K : SV -> SH -> zHP R) : zHP R := match zcS P el with
 | some l => cond (spec P el) .fail (K (.ref k 0 l.length) (h.new k fun v => .cells el v l))
 | none => .fail
theorem qWM {K : SV -> SH -> zHP R} (ho : OkH P h) (e : (qZJ P el k h K).run = some r) : ∃ v h', qFA P el k (qI h.l) = some (v.enc, qI h'.l) ∧ Post P h h' v ∧ (K v h').run = some r := by
 unfold qZJ at e;split at e
 ·rename_i l hl;obtain ⟨h1, h2⟩ := qHS (h := h) hl;have hp := kY (k := k) (f := fun v => .cells el v l) ho ⟨rfl, h2⟩
  cases hsp : spec P el with
  | true => rw [hsp] at e; cases e
  | false =>
  rw [hsp] at e;refine ⟨_, _, ?_, ⟨hp.1, hp.2, by simp [SV.ok]⟩, e⟩;simp only [qFA, h1, qJ6, SV.enc, zH, hsp, cond_false];rfl
 ·cases e
def zFP (P : Program) (el : TypeId) (v : SV) (k : Nat) (h : SH) (K : SV -> SH -> zHP R) : zHP R :=
 cond (!(spec P el) && (pnt v.enc && (qB (yN v)).all rT)) (K (.ref k 0 (yN v).length) (h.new k fun n => .cells el n (yN v))) .fail
theorem q8D {K : SV -> SH -> zHP R} (ho : OkH P h) (hv : v.ok h) (e : (zFP P el v k h K).run = some r) : ∃ x h', q85 P el v.enc k (qI h.l) = some (x.enc, qI h'.l) ∧ Post P h h' x ∧ (K x h').run = some r := by
 obtain ⟨h1, h2⟩ := qH e;have hp := kY (k := k) (f := fun n => .cells el n (yN v)) ho ⟨rfl, qC6 hv⟩;refine ⟨_, _, ?_, ⟨hp.1, hp.2, by simp [SV.ok]⟩, h2⟩;unfold q85;rw [dQ, h1];simp only [cond_true, qJ6, SV.enc, zH];rfl
def qYU (place : Nat -> Option (Nat × Nat)) : List SV -> List (Nat × SV) -> Option (List SV)
 | cells, [] => some cells
 | cells, (i, v) :: rest => match place i with
   | some (off, size) => cond (Nat.beq (yN v).length size && (Nat.ble (off + size) cells.length && (pnt v.enc && (qB (yN v)).all rT))) (qYU place (qBD cells off (yN v)) rest) none
   | none => none
def q9B (l : List (Nat × SV)) : List (Nat × PV) := l.map fun p => (p.1, p.2.enc)
theorem qG2 {place : Nat -> Option (Nat × Nat)} : ∀ {l cs : List SV} {parts : List (Nat × SV)}, qYU place l parts = some cs -> qKE place (qB l) (q9B parts) = some (qB cs) ∧ (okL h l -> (∀ p ∈ parts, p.2.ok h) -> okL h cs)
 | l, cs, [], e => by cases e; exact ⟨rfl, fun a _ => a⟩
 | l, cs, (i, v) :: rest, e => by
   unfold qYU at e;split at e
   ·rename_i off size hpl
    cases hc : (Nat.beq (yN v).length size && (Nat.ble (off + size) l.length && (pnt v.enc && (qB (yN v)).all rT))) with
    | false => rw [hc] at e; cases e
    | true =>
      rw [hc] at e;obtain ⟨h1, h2⟩ := qG2 (l := qBD l off (yN v)) e;refine ⟨?_, fun a b => h2 (qRJ a (qC6 (b _ zT8))) fun p hp => b p (zT4 _ hp)⟩
      show (match place i with
       | some (off, size) => cond (Nat.beq (zT v.enc).length size && (Nat.ble (off + size) (qB l).length && (pnt v.enc && (zT v.enc).all rT))) (qKE place (jA (qB l) off (zT v.enc)) (q9B rest)) none
       | none => none) = some (qB cs)
      rw [hpl];simp only;rw [dQ, zH, zH, hc, <- qB9];exact h1
   ·cases e
def qXO (P : Program) (t : TypeId) (parts : List (Nat × SV)) : Option SV := match zcS P t with
 | some z => cond (qBU P t) (match qYU (qU3 P t) z parts with
   | some cs => some (.agg cs)
   | none => none) none
 | none => none
theorem qYK {parts : List (Nat × SV)} (hp : ∀ p ∈ parts, p.2.ok h) (e : qXO P t parts = some v) : qLU P t (q9B parts) = some v.enc ∧ v.ok h := by
 unfold qXO at e;split at e
 ·rename_i z hz;obtain ⟨h1, h2⟩ := qHS (h := h) hz
  cases hb : qBU P t with
  | false => rw [hb] at e; cases e
  | true =>
    rw [hb] at e;simp only [cond_true] at e;split at e
    ·rename_i cs hcs;cases e;obtain ⟨h3, h4⟩ := qG2 (h := h) hcs;simp only [qLU, h1, hb, cond_true, h3, SV.enc, SV.ok, true_and];exact h4 h2 hp
    ·cases e
 ·cases e
def Ty.zL9 (t : Ty) : Nat -> List SV -> Option (List t.sem)
 | 0, [] => some []
 | 0, _ :: _ => none
 | n + 1, l => match t.zHZ l with
   | some (x, l') => (match t.zL9 n l' with
     | some xs => some (x :: xs)
     | none => none)
   | none => none
theorem qRD {t : Ty} : ∀ {n : Nat} {l : List SV} {xs : List t.sem}, t.zL9 n l = some xs -> qB l = (xs.flatMap t.cells).map .f ∧ xs.length = n
 | 0, [], xs, e => by cases e; simp [qB]
 | 0, _ :: _, xs, e => by cases e
 | n + 1, l, xs, e => by
   unfold Ty.zL9 at e;split at e
   ·rename_i x l' hx;split at e
    ·rename_i ys hy;cases e;obtain ⟨h1, h2⟩ := qRD hy;rw [qAN hx, h1, zVO, zUR];exact ⟨rfl, by rw [zUI, h2]⟩
    ·cases e
   ·cases e
def zDY (n : Nat) (z : List SV) : List SV := (List.replicate n z).flatten
theorem q20 (n : Nat) (z : List SV) : qB (zDY n z) = qLG n (qB z) := by simp [zDY, qLG, zD, List.map_flatten]
def mZ (P : Program) (t : TypeId) (len : Nat) (parts : List (Nat × SV)) (k : Nat) (h : SH) (K : SV -> SH -> zHP R) : zHP R := match xD P t with
 | some el => (match szT P el, zcS P el, qIR P 8 el with
   | some (s + 1), some z, some ty => cond (Nat.beq ty.w (s + 1)) (cond (Nat.beq z.length (s + 1) && Nat.ble (len * (s + 1)) 65536) (match qYU (fun i => some (i * (s + 1), s + 1)) (zDY len z) parts with
     | some cs => (match ty.zL9 len cs with
       | some xs => K (.own k h.next len) (h.new k fun v => .list el false v v ty xs)
       | none => .fail)
     | none => .fail) .fail) .fail
   | _, _, _ => .fail)
 | none => .fail
omit [Yl] in
theorem wM {gr : Bool} {ty : Ty} {xs : List ty.sem} (hn : n = xs.length) : (SV.own k h.next n).ok (h.new k fun v => .list el gr v v ty xs) := by
 simp only [SV.ok];refine ⟨zVE _, fun el' gr' w' t' xs' hk => ?_⟩;rw [show slk k (h.new k fun v => .list el gr v v ty xs).l = some (.list el gr h.next h.next ty xs) from wU] at hk;cases hk;exact hn
theorem qDT {len : Nat} {parts : List (Nat × SV)} {K : SV -> SH -> zHP R} (ho : OkH P h) (hp : ∀ p ∈ parts, p.2.ok h) (e : (mZ P t len parts k h K).run = some r) :
 ∃ v h', jR P t len (q9B parts) k (qI h.l) = some (v.enc, qI h'.l) ∧ Post P h h' v ∧ (K v h').run = some r := by
 unfold mZ at e;split at e
 ·rename_i el hel;split at e
  ·rename_i s z ty hs hz hty;obtain ⟨e1, e⟩ := qH e;obtain ⟨e2, e⟩ := qH e;split at e
   ·rename_i cs hcs;split at e
    ·rename_i xs hxs;obtain ⟨z1, z2⟩ := qHS (h := h) hz;obtain ⟨f1, f2⟩ := qG2 (h := h) hcs;obtain ⟨d1, d2⟩ := qRD hxs;have hw : ty.w = s + 1 := zTZ e1;have hn := kY (k := k) (f := fun v => .list el false v v ty xs) ho ⟨rfl, rfl, by rw [hs, hw], by omega⟩;refine ⟨_, _, ?_, ⟨hn.1, hn.2, wM d2.symm⟩, e⟩;rw [q20] at f1;simp only [jR, hel, hs, z1, zH, e2, cond_true, f1, qJ6, SV.enc, d1];rfl
    ·cases e
   ·cases e
  ·cases e
 ·cases e
def q8L (P : Program) (t : TypeId) (l : SV) (k : Nat) (h : SH) (K : SV -> SH -> zHP R) : zHP R := match xD P t, asI l with
 | some el, some (_, n) => (match szT P el, zcS P el, qIR P 8 el with
   | some (s + 1), some z, some ty => cond (wT P el && (Nat.beq z.length (s + 1) && Nat.beq ty.w (s + 1))) (match ty.zKU z with
     | some z0 => .bind (mkN n) fun N => K (.own k h.next N) (h.new k fun v => .list el false v v ty (List.replicate N z0))
     | none => .fail) .fail
   | _, _, _ => .fail)
 | _, _ => .fail
omit [Yl] in
theorem qQZ {t : Ty} {z : t.sem} : ∀ (n : Nat), ((List.replicate n z).flatMap t.cells).map PV.f = qLG n ((t.cells z).map .f)
 | 0 => rfl
 | n + 1 => by
   rw [zVM, zVO, zUR, qQZ n];simp [qLG, zVM]
theorem q3V {l : SV} {K : SV -> SH -> zHP R} (ho : OkH P h) (e : (q8L P t l k h K).run = some r) :
 ∃ v h', vV P t l.enc l.enc k (qI h.l) = some (v.enc, qI h'.l) ∧ Post P h h' v ∧ (K v h').run = some r := by
 unfold q8L at e;split at e
 ·rename_i el ki n hel hl;split at e
  ·rename_i s z ty hs hz hty;obtain ⟨e1, e⟩ := qH e;simp only [zTY] at e1;obtain ⟨q1, q2, q3⟩ := e1;split at e
   ·rename_i z0 hz0;obtain ⟨N, hN, e⟩ := run_bind e;obtain ⟨z1, z2⟩ := qHS (h := h) hz;have hw : ty.w = s + 1 := zTZ q3;have hn := kY (k := k) (f := fun v => .list el false v v ty (List.replicate N z0)) ho ⟨rfl, rfl, by rw [hs, hw], by omega⟩;refine ⟨_, _, ?_, ⟨hn.1, hn.2, wM (xs := List.replicate N z0) (by simp)⟩, e⟩;rw [xZ hl];simp only [vV, fvv, hel, decide_true, cond_true, hN, hs, z1, zH, q1, q2, zU3, qJ6, SV.enc];show some (PV.own k N 0 N, (k, (⟨el, false, qLG N (qB z)⟩ : PO)) :: qI h.l) = some (PV.own k N 0 N, (k, ⟨el, false, ((List.replicate N z0).flatMap ty.cells).map PV.f⟩) :: qI h.l);rw [qQZ, qA6 hz0]
   ·cases e
  ·cases e
 ·cases e
def q7F (h : SH) : SV -> Bool
 | .ref k _ w => match slk k h.l with
   | some (.cells _ _ l) => Nat.beq w l.length
   | _ => false
 | .elt k g _ w _ _ => match slk k h.l with
   | some (.list _ _ g' _ t _) => Nat.beq g g' && Nat.beq w t.w
   | _ => false
 | .lp _ _ _ _ => true
 | _ => false
theorem qQ0 (e : q7F h (.ref k off w) = true) : live? k w (qI h.l) = true := by
 simp only [q7F] at e;split at e
 ·rename_i el w' l hk;unfold live?;rw [yL hk];show Nat.beq w (qB l).length = true;rw [zH]; exact e
 ·cases e
theorem qPQ {g j : Nat} (ho : (SV.elt k g n w j off).ok h) (e : q7F h (.elt k g n w j off) = true) : live? k (n * w) (qI h.l) = true := by
 simp only [q7F] at e;split at e
 ·rename_i el gr g' w' t xs hk;rw [zTY] at e;have hg : g = g' := zTZ e.1;have hw : w = t.w := zTZ e.2;subst hg hw;simp only [SV.ok] at ho;unfold live?;rw [yL hk];show Nat.beq (n * t.w) (SO.list el gr g w' t xs).enc.cs.length = true;rw [zA, ho.2 _ _ _ _ _ hk]; exact nP _
 ·cases e
def qNB (n : Nat) : SV -> SV
 | .ref k off w => .ref k (off + n) w
 | .elt k g m w j off => .elt k g m w j (off + n)
 | .lp t xs j off => .lp t xs j (off + n)
 | v => v
def zFS : SV -> Bool
 | .ref _ _ _ => true
 | .elt _ _ _ _ _ _ => true
 | .lp _ _ _ _ => true
 | _ => false
omit [Yl] in
theorem qUF (hv : v.ok h) : (qNB n v).ok h := by
 cases v <;> simp only [qNB, SV.ok] at hv ⊢ <;> exact hv
def rR (P : Program) (t : TypeId) (x : SV) (i : Nat) (h : SH) : Option SV := match zCQ P t i with
 | some (off, ft) => (match szT P ft with
   | some (_ + 1) => cond (q7F h x) (some (qNB off x)) none
   | _ => none)
 | none => none
theorem qG6 (hx : x.ok h) (e : rR P t x i h = some v) : zY P t x.enc i (qI h.l) = some v.enc ∧ v.ok h := by
 unfold rR at e;unfold zY;split at e
 ·rename_i off ft hf;split at e
  ·rename_i s hs
   cases hl : q7F h x with
   | false => rw [hl] at e; cases e
   | true =>
     rw [hl] at e;cases e;refine ⟨?_, qUF hx⟩;simp only [hf, hs]
     cases x with
     | ref k o w => simp only [SV.enc, qNB, qQ0 hl, cond_true]
     | elt k g n w j o => simp only [SV.enc, qNB, qPQ hx hl, cond_true, zVX]
     | lp t xs j o => simp only [SV.enc, qNB, zVX]
     | _ => cases hl
  ·cases e
 ·cases e
def zFF (n : Nat) (ix : SV) (K : Nat -> zHP R) : zHP R := match ix with
 | .c (.int _ i) => (match idx n i with
   | some j => K j
   | none => .fail)
 | v => (match asI v with
   | some (_, i) => .bind (idx n i) K
   | none => .fail)
theorem q8T {K : Nat -> zHP R} (e : (zFF n ix K).run = some r) : ∃ k i j, ix.enc = fvv (.int k i) ∧ idx n i = some j ∧ (K j).run = some r := by
 unfold zFF at e;split at e
 ·rename_i k i;split at e
  ·rename_i j hj;exact ⟨k, i, j, by simp [SV.enc], hj, e⟩
  ·cases e
 ·split at e
  ·rename_i k i hi;obtain ⟨j, hj, e⟩ := run_bind e;exact ⟨k, i, j, xZ hi, hj, e⟩
  ·cases e
def q8I (n : Nat) (ix : SV) (K K2 : Nat -> zHP R) : zHP R := match ix with
 | .c (.int _ i) => (match idx n i with
   | some j => K j
   | none => .fail)
 | v => (match asI v with
   | some (_, i) => .bind (idx n i) K2
   | none => .fail)
theorem q3M {K K2 : Nat -> zHP R} (e : (q8I n ix K K2).run = some r) : ∃ k i j, ix.enc = fvv (.int k i) ∧ idx n i = some j ∧ ((K j).run = some r ∨ (K2 j).run = some r) := by
 unfold q8I at e;split at e
 ·rename_i k i;split at e
  ·rename_i j hj;exact ⟨k, i, j, by simp [SV.enc], hj, .inl e⟩
  ·cases e
 ·split at e
  ·rename_i k i hi;obtain ⟨j, hj, e⟩ := run_bind e;exact ⟨k, i, j, xZ hi, hj, .inr e⟩
  ·cases e
def zB8 (n : Nat) : SV -> SV
 | .ref k off w => .rfx k (off + n) w
 | .elt k g m w j off => .etx k g m w j (off + n)
 | v => qNB n v
omit [Yl] in
theorem q8P (hv : v.ok h) : (zB8 n v).ok h := by
 cases v <;> simp only [zB8, qNB, SV.ok] at hv ⊢ <;> exact hv
theorem q12 (hv : zFS v = true) : (zB8 n v).enc = (qNB n v).enc := by
 cases v <;> first | rfl | (simp only [zB8, qNB, SV.enc])
def sN (P : Program) (t : TypeId) (x ix : SV) (h : SH) (K : SV -> zHP R) : zHP R := match x with
 | .d (.list el u) xs => (match asI ix, xD P t with
   | some (_, i), some el' => (match szT P el' with
     | some s => cond (Nat.beq s u.w) (.bind (idx (List.length xs) i) fun j => K (.lp u xs j 0)) .fail
     | none => .fail)
   | _, _ => .fail)
 | .own k g n => (match asI ix, xD P t, slk k h.l with
   | some (_, i), some el', some (.list el _ g' _ u _) => cond (Nat.beq el' el && Nat.beq g g') (.bind (idx n i) fun j => K (.elt k g n u.w j 0)) .fail
   | _, _, _ => .fail)
 | .sl k g n o m => (match asI ix, xD P t, slk k h.l with
   | some (_, i), some el', some (.list el _ g' _ u _) => cond (Nat.beq el' el && Nat.beq g g') (.bind (idx m i) fun j => K (.elt k g n u.w (o + j) 0)) .fail
   | _, _, _ => .fail)
 | x => (match qYG P t with
   | some (n, el) => (match szT P el with
     | some s => cond (zFS x && q7F h x) (q8I n ix (fun j => K (qNB (j * s) x)) fun j => K (zB8 (j * s) x)) .fail
     | none => .fail)
   | none => .fail)
theorem qH3 {K : SV -> zHP R} (ho : OkH P h) (hx : x.ok h) (e : (sN P t x ix h K).run = some r) : ∃ v, zB P t x.enc ix.enc (qI h.l) = some v.enc ∧ v.ok h ∧ (K v).run = some r := by
 unfold sN at e;split at e
 ·rename_i el u xs;split at e
  ·rename_i k i el' hi hel;split at e
   ·rename_i s hs;obtain ⟨h1, e1⟩ := qH e;obtain ⟨j, hj, e2⟩ := run_bind e1;have hw : s = u.w := zTZ h1;subst hw;refine ⟨_, ?_, by simp [SV.ok], e2⟩;rw [xZ hi];simp only [SV.enc, Ty.fv, fvv, zB, hel, hs, hj, zWD]
   ·cases e
  ·cases e
 ·rename_i k g n;split at e
  ·rename_i ki i el' el gr g' w u xs hi hel hk;obtain ⟨h1, e1⟩ := qH e;obtain ⟨j, hj, e2⟩ := run_bind e1;rw [zTY] at h1;have hg : g = g' := zTZ h1.2;subst hg;simp only [SV.ok] at hx;have hn := hx.2 _ _ _ _ _ hk;have hl := ho.list _ _ _ _ _ _ _ hk;refine ⟨_, ?_, by simp only [SV.ok]; exact hx, e2⟩;rw [xZ hi];simp only [SV.enc, fvv, zB, hel, yL hk]
   show (match szT P el with
    | some s => (match idx n i with
      | some j => cond (Nat.beq el' el && Nat.beq (n * s) (SO.list el gr g w u xs).enc.cs.length) (some (PV.ref k (SO.list el gr g w u xs).enc.cs.length ((0 + j) * s))) none
      | none => none)
    | none => none) = _
   rw [hl.2.1, hj];simp only [zA, hn, nP, h1.1, zU3, cond_true, zU2, zWD]
  ·cases e
 ·rename_i k g n o m;split at e
  ·rename_i ki i el' el gr g' w u xs hi hel hk;obtain ⟨h1, e1⟩ := qH e;obtain ⟨j, hj, e2⟩ := run_bind e1;rw [zTY] at h1;have hg : g = g' := zTZ h1.2;subst hg;simp only [SV.ok] at hx;have hn := hx.1.2 _ _ _ _ _ hk;have hl := ho.list _ _ _ _ _ _ _ hk;refine ⟨_, ?_, by simp only [SV.ok]; exact hx.1, e2⟩;rw [xZ hi];simp only [SV.enc, fvv, zB, hel, yL hk]
   show (match szT P el with
    | some s => (match idx m i with
      | some j => cond (Nat.beq el' el && Nat.beq (n * s) (SO.list el gr g w u xs).enc.cs.length) (some (PV.ref k (SO.list el gr g w u xs).enc.cs.length ((o + j) * s))) none
      | none => none)
    | none => none) = _
   rw [hl.2.1];simp only [hj, zA, hn, nP, h1.1, zU3, cond_true, zWD]
  ·cases e
 ·split at e
  ·rename_i n el ha;split at e
   ·rename_i s hs;obtain ⟨h1, e⟩ := qH e;rw [zTY] at h1;obtain ⟨ki, i, j, hi, hj, e⟩ := q3M e
    obtain ⟨v, hv1, hv2, e⟩ : ∃ v : SV, v.enc = (qNB (j * s) x).enc ∧ v.ok h ∧ (K v).run = some r := by
     rcases e with e | e
     ·exact ⟨_, rfl, qUF hx, e⟩
     ·exact ⟨_, q12 h1.1, q8P hx, e⟩
    refine ⟨_, ?_, hv2, e⟩;rw [hi, hv1]
    cases x with
    | ref k o w => simp only [SV.enc, qNB, fvv, zB, ha, hs, hj, qQ0 h1.2, cond_true]
    | elt k g n w j o => simp only [SV.enc, qNB, fvv, zB, ha, hs, hj, qPQ hx h1.2, cond_true, zVX]
    | lp t xs j o => simp only [SV.enc, qNB, fvv, zB, ha, hs, hj, zVX]
    | _ => cases h1.1
   ·cases e
  ·cases e
def qWH (P : Program) (t : TypeId) (x ix : SV) (K : SV -> zHP R) : zHP R := match qYG P t, x with
 | some (n, el), .agg l => (match szT P el with
   | some s => zFF n ix fun j => match qF2 P el l (j * s) with
     | some v => K v
     | none => .fail
   | none => .fail)
 | _, _ => .fail
theorem qZO {K : SV -> zHP R} (hx : x.ok h) (e : (qWH P t x ix K).run = some r) : ∃ v, qEN P t x.enc ix.enc = some v.enc ∧ v.ok h ∧ (K v).run = some r ∧ ∃ l, x = .agg l := by
 unfold qWH at e;split at e
 ·rename_i n el l ha;split at e
  ·rename_i s hs;obtain ⟨ki, i, j, hi, hj, e⟩ := q8T e;split at e
   ·rename_i v hv;obtain ⟨h1, h2⟩ := qGF (h := h) hv;simp only [SV.ok] at hx;refine ⟨v, ?_, h2 hx, e, l, rfl⟩;rw [hi];simp only [qEN, ha, SV.enc, fvv, hs, hj];exact h1
   ·cases e
  ·cases e
 ·cases e
def qG4 (v : SV) (i : Nat) : Option SV := match v with
 | .tup l => (match zL l i with
   | some x => cond (pnt x.enc) (some x) none
   | none => none)
 | _ => none
theorem qNI (hx : x.ok h) (e : qG4 x i = some v) : dV x.enc i = some v.enc ∧ v.ok h := by
 unfold qG4 at e;split at e
 ·rename_i l;split at e
  ·rename_i y hy
   cases hp : pnt y.enc with
   | false => rw [hp] at e; cases e
   | true =>
     rw [hp] at e;cases e;simp only [SV.ok] at hx;refine ⟨?_, sD hx hy⟩;simp only [dV, SV.enc, zF, hy, zT7, hp, cond_true]
  ·cases e
 ·cases e
def qC1 (fn : Fn) (first cap : List SV) : Option SV := match fn with
 | .func g => some (match first, cap with
   | [], [] => .c (.func (.func g) #[] #[])
   | _, _ => .fn g first cap)
 | _ => none
theorem qIX {fn : Fn} {first cap : List SV} (h1 : okL h first) (h2 : okL h cap) (e : qC1 fn first cap = some v) : j4 fn (qB first) (qB cap) = some v.enc ∧ v.ok h := by
 unfold qC1 at e;split at e
 ·rename_i g;cases e
  cases first with
  | nil => cases cap with
    | nil => exact ⟨by simp [j4, qB, SV.enc], by simp [SV.ok]⟩
    | cons x l => exact ⟨by simp [j4, qB, SV.enc], by simp only [SV.ok]; exact ⟨h1, h2⟩⟩
  | cons y l => exact ⟨by simp [j4, qB, SV.enc], by simp only [SV.ok]; exact ⟨h1, h2⟩⟩
 ·cases e
end
end Go.Sv
namespace Go.Sv
open Go.Idl
variable {el : TypeId} {k : Nat} {t : Ty} {x : SV}
noncomputable section
variable [Gc]
variable [Yl]
variable {P : Program} {h : SH} {R : Type} {r : R}
def zC5 (P : Program) (ts : Array TypeId) (x : SV) (h : SH) : Option SV := match ts[0]? with
 | some t => (match xD P t with
   | some _ => (match x with
     | .d (.list _ _) xs => some (.d (.int .i64) ((List.length xs : Nat) : Int))
     | .c (.slice _ n _) => some (.c (.int .i64 (n : Int)))
     | .own k g n => (match slk k h.l with
       | some (.list _ _ g' _ _ _) => cond (Nat.beq g g') (some (.d (.int .i64) (n : Int))) none
       | _ => none)
     | .sl k g _ _ m => (match slk k h.l with
       | some (.list _ _ g' _ _ _) => cond (Nat.beq g g') (some (.d (.int .i64) (m : Int))) none
       | _ => none)
     | _ => none)
   | none => (match qYG P t with
     | some (n, _) => some (.c (.int .i64 (n : Int)))
     | none => none))
 | none => none
theorem q6Q {ts : Array TypeId} {v : SV} (ho : OkH P h) (hx : x.ok h) (e : zC5 P ts x h = some v) : q0Z P ts x.enc (qI h.l) = some v.enc ∧ v.ok h := by
 unfold zC5 at e;unfold q0Z;split at e
 ·rename_i t ht;split at e
  ·rename_i el hel;split at e
   ·rename_i el' u xs;cases e;simp [ht, hel, SV.enc, Ty.fv, fvv, SV.ok]
   ·rename_i a n c;cases e;simp [ht, hel, SV.enc, fvv, SV.ok]
   ·rename_i k g n;split at e
    ·rename_i el' gr g' w u xs hk
     obtain ⟨h1, e1⟩ : Nat.beq g g' = true ∧ some (SV.d (.int .i64) (n : Int)) = some v := by
      cases hb : Nat.beq g g' with
      | false => rw [hb] at e; cases e
      | true => rw [hb] at e; exact ⟨rfl, e⟩
     cases e1;have hg : g = g' := zTZ h1;subst hg;simp only [SV.ok] at hx;have hn := hx.2 _ _ _ _ _ hk;have hl := ho.list _ _ _ _ _ _ _ hk;refine ⟨?_, by simp [SV.ok]⟩;simp only [ht, hel, SV.enc, yL hk]
     show (match szT P el' with
      | some s => cond (Nat.beq (n * s) (SO.list el' gr g w u xs).enc.cs.length) (some (fvv (.int .i64 (n : Int)))) none
      | none => none) = _
     rw [hl.2.1];simp only [zA, hn, nP, cond_true, Ty.fv, fvv]
    ·cases e
   ·rename_i k g n o m;split at e
    ·rename_i el' gr g' w u xs hk
     obtain ⟨h1, e1⟩ : Nat.beq g g' = true ∧ some (SV.d (.int .i64) (m : Int)) = some v := by
      cases hb : Nat.beq g g' with
      | false => rw [hb] at e; cases e
      | true => rw [hb] at e; exact ⟨rfl, e⟩
     cases e1;have hg : g = g' := zTZ h1;subst hg;simp only [SV.ok] at hx;have hn := hx.1.2 _ _ _ _ _ hk;have hl := ho.list _ _ _ _ _ _ _ hk;refine ⟨?_, by simp [SV.ok]⟩;simp only [ht, hel, SV.enc, yL hk]
     show (match szT P el' with
      | some s => cond (Nat.beq (n * s) (SO.list el' gr g w u xs).enc.cs.length) (some (fvv (.int .i64 (m : Int)))) none
      | none => none) = _
     rw [hl.2.1];simp only [zA, hn, nP, cond_true, Ty.fv, fvv]
    ·cases e
   ·cases e
  ·rename_i hel;split at e
   ·rename_i n el ha;cases e;simp [ht, hel, ha, SV.enc, SV.ok]
   ·cases e
 ·cases e
def qHE (u t : Ty) (xs : List u.sem) : Option (List t.sem) := if e : u = t then some (e ▸ xs) else none
omit [Yl] in
theorem nK {u : Ty} {xs : List u.sem} {ys : List t.sem} (e : qHE u t xs = some ys) : (⟨u, xs⟩ : (t : Ty) × List t.sem) = ⟨t, ys⟩ := by
 unfold qHE at e;split at e
 ·rename_i h;subst h;cases e;rfl
 ·cases e
def q09 (t : Ty) (x : SV) (h : SH) : Option (List t.sem) := match x with
 | .d (.list _ u) xs => qHE u t xs
 | .c (.slice none 0 _) => some []
 | .own k g _ => (match slk k h.l with
   | some (.list _ _ g' _ u xs) => cond (Nat.beq g g') (qHE u t xs) none
   | _ => none)
 | .sl k g _ o m => (match slk k h.l with
   | some (.list _ _ g' _ u xs) => cond (Nat.beq g g') (match qHE u t xs with
     | some xs => some ((xs.drop o).take m)
     | none => none) none
   | _ => none)
 | _ => none
theorem q35 {ys : List t.sem} (ho : OkH P h) (hx : x.ok h) (e : q09 t x h = some ys) : qOV P t.w x.enc (qI h.l) = some (ys.length, (ys.flatMap t.cells).map .f) := by
 unfold q09 at e;unfold qOV;split at e
 ·rename_i el u xs;cases nK e;simp only [SV.enc, Ty.fv, xR, nP, cond_true]
 ·cases e;simp [SV.enc, fvv]
 ·rename_i k g n;split at e
  ·rename_i el gr g' w u xs hk
   cases hb : Nat.beq g g' with
   | false => rw [hb] at e; cases e
   | true =>
     rw [hb] at e;have hg : g = g' := zTZ hb;subst hg;cases nK e;simp only [SV.ok] at hx;have hn := hx.2 _ _ _ _ _ hk;have hl := ho.list _ _ _ _ _ _ _ hk;simp only [SV.enc, yL hk]
     show (match szT P el with
      | some s' => cond (Nat.beq (n * s') (SO.list el gr g w t ys).enc.cs.length && Nat.beq t.w s') (some (n, (((ys.flatMap t.cells).map PV.f).drop (0 * t.w)).take (n * t.w))) none
      | none => none) = _
     rw [hl.2.1];simp only [zA, hn, nP, zU3, cond_true, zYH, zVU];rw [zU6 (by rw [zUO, xR]; exact zT0 _)]
  ·cases e
 ·rename_i k g n o m;split at e
  ·rename_i el gr g' w u xs hk
   cases hb : Nat.beq g g' with
   | false => rw [hb] at e; cases e
   | true =>
     rw [hb] at e;have hg : g = g' := zTZ hb;subst hg;simp only [cond_true] at e;split at e
     case h_2 => cases e
     rename_i xs2 zR3;cases e;cases nK zR3;simp only [SV.ok] at hx;have hn := hx.1.2 _ _ _ _ _ hk;have hl := ho.list _ _ _ _ _ _ _ hk;simp only [SV.enc, yL hk]
     show (match szT P el with
      | some s' => cond (Nat.beq (n * s') (SO.list el gr g w t xs2).enc.cs.length && Nat.beq t.w s') (some (m, (((xs2.flatMap t.cells).map PV.f).drop (o * t.w)).take (m * t.w))) none
      | none => none) = _
     rw [hl.2.1];simp only [zA, hn, nP, zU3, cond_true];rw [<- zWO, <- zWP, bL, nO]
     congr 1
     have := hx.2;rw [zU1, zWT, zW8 (by omega)]
  ·cases e
 ·cases e
omit [Yl] in
theorem qY3 (ys : List t.sem) : ((ys.flatMap t.cells).map PV.f).all rT = true := by
 rw [zT3];intro x hx;obtain ⟨y, _, rfl⟩ := zUN.1 hx;rfl
omit [Yl] in
theorem qHQ {h0 : SH} {gr : Bool} {n m : Nat} {ty : Ty} {xs ys : List ty.sem} (hn : n = xs.length) (hm : m = ys.length) : (SV.own k h0.next (n + m)).ok (h0.new k fun v => .list el gr v v ty (xs ++ ys)) :=
 wM (by rw [zUK, hn, hm])
def qOO (P : Program) (ts : List TypeId) (base x : SV) (k : Nat) (h : SH) (K : SV -> SH -> zHP R) : zHP R := match ts with
 | [st, xt] => (match xD P st, xD P xt with
   | some el, some _ => (match szT P el, qIR P 8 el with
     | some (s + 1), some t => cond (Nat.beq t.w (s + 1) && wT P el) (match q09 t x h with
       | some ys => (match base with
         | .c (.slice none 0 0) => .ite (Nat.beq ys.length 0) (K base h)
            (.ite (Nat.ble (0 + ys.length) 1048576) (K (.own k h.next (0 + ys.length)) (h.new k fun v => .list el true v v t ([] ++ ys))) .fail)
         | .own j g n => (match slk j h.l with
           | some (.list el' gr g' _ u xs) => cond (Nat.beq el' el && Nat.beq g g') (match qHE u t xs with
             | some xs => .ite (Nat.beq ys.length 0) (K base h)
                (.ite (Nat.ble (n + ys.length) 1048576) (cond gr (K (.own j h.next (n + ys.length)) ((h.del j).new j fun v => .list el true v v t (xs ++ ys))) (K (.own k h.next (n + ys.length)) (h.new k fun v => .list el true v v t (xs ++ ys)))) .fail)
             | none => .fail) .fail
           | _ => .fail)
         | _ => .fail)
       | none => .fail) .fail
     | _, _ => .fail)
   | _, _ => .fail)
 | _ => .fail
omit [Yl] in
theorem qGZ {xs ys : List t.sem} {ph : PHp} (h1 : Nat.ble (xs.length + ys.length) 1048576 = true) (h2 : wT P el = true) :
 qB8 P el t.w ((xs.flatMap t.cells).map .f) xs.length ((ys.flatMap t.cells).map .f) ys.length k ph = some (.own k (xs.length + ys.length) 0 (xs.length + ys.length), (k, ⟨el, true, ((xs ++ ys).flatMap t.cells).map .f⟩) :: ph) := by
 unfold qB8;rw [h1, h2, zUO, xR, zUO, xR, qY3];simp only [nP, zU3, cond_true, qJ6];rw [zXM, zUR]
theorem qS6 {ts : List TypeId} {base : SV} {K : SV -> SH -> zHP R} (ho : OkH P h) (hb : base.ok h) (hx : x.ok h) (e : (qOO P ts base x k h K).run = some r) :
 ∃ v h', aC P ts base.enc x.enc k (qI h.l) = some (v.enc, qI h'.l) ∧ Post P h h' v ∧ (K v h').run = some r := by
 unfold qOO at e;split at e
 ·rename_i st xt;split at e
  ·rename_i el el2 hel zNS;split at e
   ·rename_i s t hs hty;have e_ := qH e;clear e;obtain ⟨c1, e⟩ := e_;rw [zTY] at c1;have hw : s + 1 = t.w := (zTZ c1.1).symm;split at e
    ·rename_i ys hys;have hnw := q35 ho hx hys;split at e
     ·have e_ := run_ite e;clear e
      rcases e_ with ⟨z, e⟩ | ⟨z, e⟩
      ·refine ⟨_, _, ?_, ⟨.refl _, ho, hb⟩, e⟩;simp only [aC, hel, zNS, hs, SV.enc, fvv];rw [hw, hnw];simp only [z, cond_true]
      ·have e_ := run_ite e;clear e
       rcases e_ with ⟨z2, e⟩ | ⟨z2, e⟩
       ·have hn := kY (k := k) (f := fun v => .list el true v v t ([] ++ ys)) ho ⟨rfl, rfl, by rw [hs]; exact congrArg some hw, by omega⟩;refine ⟨_, _, ?_, ⟨hn.1, hn.2, qHQ (xs := []) rfl rfl⟩, e⟩;simp only [aC, hel, zNS, hs, SV.enc, fvv];rw [hw, hnw];simp only [z, cond_false];exact qGZ (xs := []) z2 c1.2
       ·cases e
     ·rename_i j g n;split at e
      ·rename_i el' gr g' w u xs0 hk;have e_ := qH e;clear e;obtain ⟨c2, e⟩ := e_;rw [zTY] at c2;have he : el' = el := zTZ c2.1;have hg : g = g' := zTZ c2.2;split at e
       ·rename_i xs hxs;have hcast := nK hxs
        have hk2 : slk j h.l = some (.list el gr g w t xs) := by
         rw [hk, he, <- hg];cases hcast;rfl
        have hnl : n = xs.length := by
         simp only [SV.ok] at hb;exact hb.2 _ _ _ _ _ hk2
        have pre : ∀ z : PV × PHp, (cond (Nat.beq ys.length 0) (some (PV.own j n 0 n, qI h.l))
         (cond (Nat.ble (n + ys.length) n) (cond (Nat.beq ((ys.flatMap t.cells).map PV.f).length (ys.length * (s + 1)) && ((ys.flatMap t.cells).map PV.f).all rT) (some (PV.own j n 0 (n + ys.length), xP j { (SO.list el gr g w t xs).enc with cs := jA (SO.list el gr g w t xs).enc.cs (n * (s + 1)) ((ys.flatMap t.cells).map PV.f) } (qI h.l))) none)
           (cond gr (qB8 P el (s + 1) (SO.list el gr g w t xs).enc.cs n ((ys.flatMap t.cells).map PV.f) ys.length j (qGT j (qI h.l))) (qB8 P el (s + 1) (SO.list el gr g w t xs).enc.cs n ((ys.flatMap t.cells).map PV.f) ys.length k (qI h.l))))) = some z ->
         aC P [st, xt] (SV.own j g n).enc x.enc k (qI h.l) = some z := fun z hz => by
         simp only [aC, hel, zNS, hs, SV.enc];rw [show qOV P (s + 1) x.enc (qI h.l) = _ from (hw ▸ hnw)];simp only [yL hk2];rw [show (SO.list el gr g w t xs).enc.el = el from rfl, show Nat.beq (n * (s + 1)) (SO.list el gr g w t xs).enc.cs.length = true by rw [zA, hw, hnl]; exact nP _];simp only [nP, zU3, cond_true];exact hz
        have e_ := run_ite e;clear e
        rcases e_ with ⟨z, e⟩ | ⟨z, e⟩
        ·refine ⟨_, _, pre _ ?_, ⟨.refl _, ho, hb⟩, e⟩;rw [z]; simp [SV.enc]
        ·have e_ := run_ite e;clear e
         rcases e_ with ⟨z2, e⟩ | ⟨z2, e⟩
         ·have hpos : Nat.ble (n + ys.length) n = false := by
           cases hq : Nat.ble (n + ys.length) n with
           | false => rfl
           | true =>
             have h0 := zUH hq;have : ys.length = 0 := by omega
             rw [this] at z;cases z
          cases hgr : gr with
          | true =>
            rw [hgr] at e;have hd := sH (k := j) ho;have hn := kY (h := h.del j) (k := j) (f := fun v => .list el true v v t (xs ++ ys)) hd.2 ⟨rfl, rfl, by rw [hs]; exact congrArg some hw, by omega⟩;refine ⟨_, _, pre _ ?_, ⟨hd.1.trans hn.1, hn.2, qHQ (h0 := h.del j) hnl rfl⟩, e⟩;rw [z, hpos, hgr];simp only [cond_true, cond_false];rw [hw, hnl];rw [hnl] at z2;rw [show (SO.list el true g w t xs).enc.cs = (xs.flatMap t.cells).map .f from rfl, qGZ z2 c1.2, <- nL];rfl
          | false =>
            rw [hgr] at e;have hn := kY (h := h) (k := k) (f := fun v => .list el true v v t (xs ++ ys)) ho ⟨rfl, rfl, by rw [hs]; exact congrArg some hw, by omega⟩;refine ⟨_, _, pre _ ?_, ⟨hn.1, hn.2, qHQ (h0 := h) hnl rfl⟩, e⟩;rw [z, hpos, hgr];simp only [cond_false];rw [hw, hnl];rw [hnl] at z2;rw [show (SO.list el false g w t xs).enc.cs = (xs.flatMap t.cells).map .f from rfl, qGZ z2 c1.2];rfl
         ·cases e
       ·cases e
      ·cases e
     ·cases e
    ·cases e
   ·cases e
  ·cases e
 ·cases e
end
end Go.Sv
namespace Go.Sv
open Go.Idl
noncomputable section
variable [Gc]
variable [Yl]
variable {P : Program} {h : SH} {R : Type} {r : R}
def zFL {α : Type} (xs ys : List α) (o c : Nat) : List α := xs.take o ++ (ys.take c ++ xs.drop (o + c))
def zGD (P : Program) (ts : List TypeId) (base x : SV) (h : SH) (K : SV -> SH -> zHP R) : zHP R := match ts with
 | [st, xt] => (match xD P st, xD P xt with
   | some el, some _ => (match szT P el, qIR P 8 el with
     | some (s + 1), some t => cond (Nat.beq t.w (s + 1)) (match q09 t x h with
       | some ys => (match base with
         | .own j g n => (match slk j h.l with
           | some (.list el' gr g' _ u xs) => cond (Nat.beq el' el && Nat.beq g g') (match qHE u t xs with
             | some xs => K (.d (.int .i64) ((Nat.min ys.length n : Nat) : Int)) (h.put j fun v => .list el gr g v t (zFL xs ys 0 (Nat.min ys.length n)))
             | none => .fail) .fail
           | _ => .fail)
         | .sl j g n o m => (match slk j h.l with
           | some (.list el' gr g' _ u xs) => cond (Nat.beq el' el && Nat.beq g g') (match qHE u t xs with
             | some xs => K (.d (.int .i64) ((Nat.min ys.length m : Nat) : Int)) (h.put j fun v => .list el gr g v t (zFL xs ys o (Nat.min ys.length m)))
             | none => .fail) .fail
           | _ => .fail)
         | .d (.list _ _) xs => .ite (Nat.beq (List.length xs) 0) (K (.d (.int .i64) 0) h) .fail
         | .c (.slice none 0 _) => K (.d (.int .i64) 0) h
         | _ => .fail)
       | none => .fail) .fail
     | _, _ => .fail)
   | _, _ => .fail)
 | _ => .fail
def eB (most : Nat) (i : Int) : Option Nat := if 0 <= i ∧ i <= (most : Int) then some i.toNat else none
def qTV (d most : Nat) (x : Option SV) (K : Nat -> zHP R) : zHP R := match x with
 | none => K d
 | some v => (match asI v with
   | some (_, i) => .bind (eB most i) K
   | none => .fail)
theorem uP {d most : Nat} {x : Option SV} {K : Nat -> zHP R} (e : (qTV d most x K).run = some r) : ∃ n, bnd d most (x.map SV.enc) = some n ∧ (n = d ∨ n <= most) ∧ (K n).run = some r := by
 unfold qTV at e;split at e
 ·exact ⟨d, rfl, .inl rfl, e⟩
 ·rename_i v;split at e
  ·rename_i k i hi;have e_ := run_bind e;clear e;obtain ⟨n, hn, e⟩ := e_;refine ⟨n, ?_, .inr ?_, e⟩
   ·simp only [zT7, xZ hi, fvv, bnd]; exact hn
   ·unfold eB at hn;split at hn
    ·cases hn; omega
    ·cases hn
  ·cases e
def qXF (P : Program) (t : TypeId) (x : SV) (lo hi : Option SV) (h : SH) (K : SV -> zHP R) : zHP R := match x with
 | .d (.list el u) xs => (match xD P t, szT P el with
   | some el', some s => cond (Nat.beq el' el && Nat.beq s u.w) (qTV (List.length xs) (List.length xs) hi fun b => qTV 0 b lo fun a => K (.d (.list el u) ((List.drop a xs).take (b - a)))) .fail
   | _, _ => .fail)
 | .c (.slice none 0 0) => (match xD P t with
   | some el => cond (szT P el).isSome (qTV 0 0 hi fun _ => qTV 0 0 lo fun _ => K x) .fail
   | none => .fail)
 | .own k g n => (match xD P t, slk k h.l with
   | some el', some (.list el _ g' _ u _) => cond (Nat.beq el' el && Nat.beq g g') (qTV n n hi fun b => qTV 0 b lo fun a =>
      .ite (Nat.beq a 0) (K (.sl k g n 0 b)) (.ite (Nat.beq a b) (K (.d (.list el u) [])) (K (.sl k g n a (b - a))))) .fail
   | _, _ => .fail)
 | .sl k g n o m => (match xD P t, slk k h.l with
   | some el', some (.list el _ g' _ u _) => cond (Nat.beq el' el && Nat.beq g g') (qTV m m hi fun b => qTV 0 b lo fun a =>
      .ite (Nat.beq a 0) (K (.sl k g n o b)) (.ite (Nat.beq a b) (K (.d (.list el u) [])) (K (.sl k g n (o + a) (b - a))))) .fail
   | _, _ => .fail)
 | _ => .fail
theorem qW0 {t : TypeId} {x : SV} {lo hi : Option SV} {K : SV -> zHP R} (ho : OkH P h) (hx : x.ok h) (e : (qXF P t x lo hi h K).run = some r) :
 ∃ v, uL P t x.enc (lo.map SV.enc) (hi.map SV.enc) (qI h.l) = some v.enc ∧ v.ok h ∧ (K v).run = some r := by
 unfold qXF at e
 have key : ∀ {k g n o m w : Nat} {gr : Bool} {el el' : TypeId} {u : Ty} {xs : List u.sem}, slk k h.l = some (.list el gr g w u xs) -> n = xs.length -> o + m <= n -> g < h.next -> xD P t = some el' -> Nat.beq el' el = true ->
  ∀ a b, bnd m m (hi.map SV.enc) = some b -> b <= m -> bnd 0 b (lo.map SV.enc) = some a -> a <= b ->
  (zHP.ite (Nat.beq a 0) (K (.sl k g n o b)) (.ite (Nat.beq a b) (K (.d (.list el u) [])) (K (.sl k g n (o + a) (b - a))))).run = some r ->
  ∃ v, uL P t (.own k n o m) (lo.map SV.enc) (hi.map SV.enc) (qI h.l) = some v.enc ∧ v.ok h ∧ (K v).run = some r := by
  intro k g n o m w gr el el' u xs hk hn hom hg hel hbe a b hb hbm ha hab e;have hl := ho.list _ _ _ _ _ _ _ hk
  have pre : uL P t (.own k n o m) (lo.map SV.enc) (hi.map SV.enc) (qI h.l) = some (cond (Nat.beq a 0) (.own k n o b) (cond (Nat.beq a b) (.f (.l el 0 [])) (.own k n (o + a) (b - a)))) := by
   simp only [uL, yL hk, hel];rw [show (SO.list el gr g w u xs).enc.el = el from rfl, hl.2.1, hb];simp only [ha, zA, hn, nP, hbe, zU3, cond_true]
  have hsl : q1T h k g n := ⟨hg, fun el2 gr2 w2 t2 xs2 hk2 => by
   rw [hk] at hk2;cases hk2
   exact hn⟩
  rw [pre]
  rcases run_ite e with ⟨z, e⟩ | ⟨z, e⟩
  ·exact ⟨_, by rw [z]; simp [SV.enc], by simp only [SV.ok]; exact ⟨hsl, by omega⟩, e⟩
  ·rcases run_ite e with ⟨z2, e⟩ | ⟨z2, e⟩
   ·exact ⟨_, by rw [z, z2]; simp [SV.enc, Ty.fv], by simp [SV.ok], e⟩
   ·exact ⟨_, by rw [z, z2]; simp [SV.enc], by simp only [SV.ok]; exact ⟨hsl, by omega⟩, e⟩
 split at e
 ·rename_i el u xs;split at e
  ·rename_i el' s hel hs;have e_ := qH e;clear e;obtain ⟨c1, e⟩ := e_;rw [zTY] at c1;have hw : s = u.w := zTZ c1.2;have he : el' = el := zTZ c1.1;subst hw he;obtain ⟨b, hb, hb2, e1⟩ := uP e;obtain ⟨a, ha, ha2, e2⟩ := uP e1;have hbl : b <= xs.length := by rcases hb2 with q | q <;> omega
   have hab : a <= b := by rcases ha2 with q | q <;> omega
   refine ⟨_, ?_, by simp [SV.ok], e2⟩;simp only [SV.enc, Ty.fv, uL, hel, hs, hb, ha, nP, xR, zU3, cond_true];rw [bL, nO]
   cases hq : Nat.beq a b with
   | true =>
     have : a = b := zTZ hq;subst this;simp
   | false =>
     simp only [cond_false, zU1, zWT];rw [zW8 (by omega)]
  ·cases e
 ·split at e
  ·rename_i el hel;have e_ := qH e;clear e;obtain ⟨c1, e⟩ := e_;obtain ⟨b, hb, hb2, e1⟩ := uP e;obtain ⟨a, ha, ha2, e2⟩ := uP e1;refine ⟨_, ?_, by simp [SV.ok], e2⟩;have hb' : bnd 0 0 (hi.map SV.enc) = some b := hb;simp only [SV.enc, fvv, uL, hel, hb', ha, c1, cond_true]
  ·cases e
 ·rename_i k g n;split at e
  ·rename_i el' el gr g' w u xs hel hk;have e_ := qH e;clear e;obtain ⟨c1, e⟩ := e_;rw [zTY] at c1;have hg : g = g' := zTZ c1.2;subst hg;obtain ⟨b, hb, hb2, e1⟩ := uP e;obtain ⟨a, ha, ha2, e2⟩ := uP e1;simp only [SV.ok] at hx;refine key hk (hx.2 _ _ _ _ _ hk) (by omega) hx.1 hel c1.1 a b hb (by rcases hb2 with q | q <;> omega) ha (by rcases ha2 with q | q <;> omega) ?_;rw [zU2]; exact e2
  ·cases e
 ·rename_i k g n o m;split at e
  ·rename_i el' el gr g' w u xs hel hk;have e_ := qH e;clear e;obtain ⟨c1, e⟩ := e_;rw [zTY] at c1;have hg : g = g' := zTZ c1.2;subst hg;obtain ⟨b, hb, hb2, e1⟩ := uP e;obtain ⟨a, ha, ha2, e2⟩ := uP e1;simp only [SV.ok] at hx;exact key hk (hx.1.2 _ _ _ _ _ hk) hx.2 hx.1.1 hel c1.1 a b hb (by rcases hb2 with q | q <;> omega) ha (by rcases ha2 with q | q <;> omega) e2
  ·cases e
 ·cases e
end
end Go.Sv
namespace Go.Sv
open Go.Idl
variable [Gc]
variable {P : Program} {t t2 : TypeId} {a b : ByteArray} {ph : PHp}
theorem dJ {v : Value} (h3 : qKZ v = true) (h4 : ofC v = fvv v) : qWY (qCX H00 v) = some (fvv v) := by
 unfold qCX;rw [h3];show some (ofC v) = _;rw [h4]
theorem qOF {op : BinOp} {v : Value} (h1 : zH8 P (cop (.binOp op t (.const (.string a)) (.const (.string b)) t2)) op t (.string a) (.string b) [] H00 = jF P (cop (.binOp op t (.const (.string a)) (.const (.string b)) t2)) [] H00)
 (h2 : yZ P (execOp (Env.val []) (cop (.binOp op t (.const (.string a)) (.const (.string b)) t2))) = some (.value v)) (h3 : qKZ v = true) (h4 : ofC v = fvv v) : bC P op t t2 (fvv (.string a)) (fvv (.string b)) ph = some (fvv v) := by
 unfold bC;simp only [fvv, pl, zCX, cond_false];show qWY (zH8 P _ op t (.string a) (.string b) [] H00) = _;rw [h1];unfold jF;have : zX (kS (Env.val []) (cop (.binOp op t (.const (.string a)) (.const (.string b)) t2)).op.operands.toList) = true := rfl;rw [if_pos this, h2];exact dJ h3 h4
theorem q67 (hl : a.size + b.size <= 9223372036854775807) : bC P .add t t2 (fvv (.string a)) (fvv (.string b)) ph = some (fvv (.string (a ++ b))) := by
 refine qOF rfl ?_ rfl rfl;have hm : IntKind.i64.max = 9223372036854775807 := rfl;have : ¬ (((a.size + b.size : Nat) : Int) > IntKind.i64.max) := by rw [hm]; omega
 show yZ P (do eqGuard .add t (.const (.string a)) (.const (.string b)) (.string a) (.string b); let v <- Op.stringOp .add a b; pure (Next.value v)) = _;unfold Op.stringOp;simp only [this, if_false];rfl
theorem q6G : bC P .eql t t2 (fvv (.string a)) (fvv (.string b)) ph = some (fvv (.bool (a.toList == b.toList))) := qOF rfl rfl rfl rfl
theorem q7E : bC P .neq t t2 (fvv (.string a)) (fvv (.string b)) ph = some (fvv (.bool (!(a.toList == b.toList)))) := qOF rfl rfl rfl rfl
theorem dB {α β : Type} (s : Sem α) (g : α -> Sem β) : yZ P (s >>= g) = (yZ P s).bind fun a => yZ P (g a) := j3 g s
theorem dP {α : Type} (a : α) : yZ P (pure a : Sem α) = some a := rfl
theorem q2I {ts : Array TypeId} (hs : q0E P ts = true) : ∃ t, ts[0]? = some t ∧ P.underlying t = some .string := by
 unfold q0E at hs
 cases h0 : ts[0]? with
 | none => rw [h0] at hs; cases hs
 | some t =>
   rw [h0] at hs;simp only [zUT] at hs;split at hs
   ·rename_i hq; exact ⟨t, rfl, hq⟩
   ·cases hs
theorem q9T {t : TypeId} {ts : Array TypeId} {ty : TypeId} (h0 : ts[0]? = some t) (hu : P.underlying t = some .string) : yZ P (Go.Builtin.len_ ts ty #[.string a]) = some (goInt a.size) := by
 unfold Go.Builtin.len_;simp only [h0, dB, yB, hu, zUT, zWW, zUL];rfl
theorem qPJ {x : Operand} {ts : Array TypeId} {ty : TypeId} {env : Env} (hs : q0E P ts = true) (hx : env.val x = .string a) :
 qWY (jF P (cop (.call ⟨.builtin .len, #[x], ts⟩) ty) env H00) = some (fvv (.int .i64 (a.size : Int))) := by
 have h2 : kS env.val (cop (.call ⟨.builtin .len, #[x], ts⟩) ty).op.operands.toList = [env.val x] := rfl;unfold jF;rw [h2];obtain ⟨t, h0, hu⟩ := q2I hs;have hp : zX [env.val x] = true := by rw [hx]; rfl
 rw [if_pos hp]
 have he : yZ P (execOp env.val (cop (.call ⟨.builtin .len, #[x], ts⟩) ty)) = some (.value (goInt a.size)) := by
  simp only [cop, execOp, resolve, List.map_toArray, zUB, zWE, hx];show yZ P (do let v <- Go.Builtin.len_ ts ty #[.string a]; pure (Next.value v)) = _;rw [dB, q9T h0 hu]; rfl
 rw [he];exact dJ rfl rfl
def qDY (s : ByteArray) (i : Int) : Option Int := if 0 <= i then (s[i.toNat]?).map fun b => (b.toNat : Int) else none
theorem q33 {t : TypeId} {s : ByteArray} {k : IntKind} {i c : Int} {ty : TypeId} (hu : P.underlying t = some .string) (h : qDY s i = some c) : qOE P (.index t (.const (.string s)) (.const (.int k i))) ty = some (fvv (.int .u8 c)) := by
 unfold qOE jF;have hp : zX (kS (Env.val []) (cop (.index t (.const (.string s)) (.const (.int k i))) ty).op.operands.toList) = true := rfl;rw [if_pos hp]
 have he : yZ P (execOp (Env.val []) (cop (.index t (.const (.string s)) (.const (.int k i))) ty)) = some (.value (.int .u8 c)) := by
  show yZ P (do let v <- Instr.index t (.string s) (.int k i); pure (Next.value v)) = _;unfold qDY at h;split at h
  ·rename_i hc;obtain ⟨b, hb, rfl⟩ := zT6.1 h;unfold Instr.index;simp only [dB, yB, hu, zUT];have h0 : yZ P (asIntOf (.int k i)) = some (k, i) := rfl;rw [h0];simp only [zUT, if_pos hc, hb, dP]
  ·cases h
 rw [he];exact dJ rfl rfl
theorem qAZ {k : IntKind} {i : Int} {y n : Nat} {code : BoundsCode} (h : (if 0 <= i ∧ i <= (y : Int) then some i.toNat else none) = some n) : yZ P (Instr.sliceBound (.int k i) y code) = some n := by
 unfold Instr.sliceBound;rw [dB];have h0 : yZ P (asIntOf (.int k i)) = some (k, i) := rfl;rw [h0];simp only [zUT];split at h
 ·rename_i hc;rw [if_pos hc];cases h; rfl
 ·cases h
theorem qWS {d most n : Nat} {x : Option PV} (h : bnd d most x = some n) : (x = none ∧ n = d) ∨ ∃ k i, x = some (fvv (.int k i)) ∧ (if 0 <= i ∧ i <= (most : Int) then some i.toNat else none) = some n := by
 unfold bnd at h;split at h
 ·cases h; exact .inl ⟨rfl, rfl⟩
 ·rename_i k i; exact .inr ⟨k, i, rfl, h⟩
 ·cases h
theorem q4C {t : TypeId} {s : ByteArray} {lo hi : Option Operand} {l u : Nat} {env : List PV} {ty : TypeId} (hu : P.underlying t = some .string) (h1 : bnd s.size s.size (hi.map (qN env)) = some u) (h2 : bnd 0 u (lo.map (qN env)) = some l) :
 qOE P (.slice t (.const (.string s)) (lo.map fun a => .const ((pl (qN env a)).getD undef)) (hi.map fun a => .const ((pl (qN env a)).getD undef)) none) ty = some (fvv (.string (s.extract l u))) := by
 have opt : ∀ {o : Option Operand} {d most n : Nat}, bnd d most (o.map (qN env)) = some n -> (o = none ∧ n = d) ∨ ∃ k i, (o.map fun a => Operand.const ((pl (qN env a)).getD undef)) = some (.const (.int k i)) ∧ (if 0 <= i ∧ i <= (most : Int) then some i.toNat else none) = some n := fun {o d most n} h => by
  rcases qWS h with ⟨q, e⟩ | ⟨k, i, q, e⟩
  ·cases o with
   | none => exact .inl ⟨rfl, e⟩
   | some a => cases q
  ·cases o with
   | none => cases q
   | some a =>
     have q : qN env a = fvv (.int k i) := by simpa using q
     exact .inr ⟨k, i, by simp [q, fvv, pl], e⟩
 unfold qOE jF
 have hk : ∀ (lo' hi' : Option Operand) (vl vh : Option Value), lo'.map (Env.val []) = vl -> hi'.map (Env.val []) = vh -> zX (kS (Env.val []) (cop (.slice t (.const (.string s)) lo' hi' none) ty).op.operands.toList) = true ->
  yZ P (Instr.sliceBounds false s.size s.size vl vh none) = some (l, u, s.size) -> qWY (if zX (kS (Env.val []) (cop (.slice t (.const (.string s)) lo' hi' none) ty).op.operands.toList) = true then qG9 H00 (yZ P (execOp (Env.val []) (cop (.slice t (.const (.string s)) lo' hi' none) ty))) else none) = some (fvv (.string (s.extract l u))) := by
  intro lo' hi' vl vh e1 e2 hp hb;rw [if_pos hp]
  have he : yZ P (execOp (Env.val []) (cop (.slice t (.const (.string s)) lo' hi' none) ty)) = some (.value (.string (s.extract l u))) := by
   show yZ P (do let v <- Instr.sliceAt t (.string s) (lo'.map (Env.val [])) (hi'.map (Env.val [])) none; pure (Next.value v)) = _;rw [e1, e2];unfold Instr.sliceAt;simp only [dB, yB, hu, zUT];unfold Instr.slice;simp only [dB, yB, hu, zUT];simp only [zXT, zV4, if_false, dB, hb, zUT, dP]
  rw [he];exact dJ rfl rfl
 have hB : ∀ (vl vh : Option Value), (vh = none ∧ u = s.size ∨ ∃ k i, vh = some (.int k i) ∧ (if 0 <= i ∧ i <= (s.size : Int) then some i.toNat else none) = some u) -> (vl = none ∧ l = 0 ∨ ∃ k i, vl = some (.int k i) ∧ (if 0 <= i ∧ i <= (u : Int) then some i.toNat else none) = some l) ->
  yZ P (Instr.sliceBounds false s.size s.size vl vh none) = some (l, u, s.size) := by
  intro vl vh a b;unfold Instr.sliceBounds;rcases a with ⟨rfl, rfl⟩ | ⟨k, i, rfl, ha⟩ <;> rcases b with ⟨rfl, rfl⟩ | ⟨k', i', rfl, hb⟩ <;> simp only [dB, dP, zUT, zXT, zV4, if_false]
  ·rw [qAZ hb]; rfl
  ·rw [qAZ ha]; rfl
  ·rw [qAZ ha]; simp only [zUT]; rw [qAZ hb]; rfl
 rcases opt h1 with ⟨rfl, e1⟩ | ⟨k, i, e1, f1⟩ <;> rcases opt h2 with ⟨rfl, e2⟩ | ⟨k', i', e2, f2⟩
 ·exact hk none none none none rfl rfl rfl (hB _ _ (.inl ⟨rfl, e1⟩) (.inl ⟨rfl, e2⟩))
 ·rw [e2]; exact hk _ none _ none rfl rfl rfl (hB _ _ (.inl ⟨rfl, e1⟩) (.inr ⟨k', i', rfl, f2⟩))
 ·rw [e1]; exact hk none _ none _ rfl rfl rfl (hB _ _ (.inr ⟨k, i, rfl, f1⟩) (.inl ⟨rfl, e2⟩))
 ·rw [e1, e2]; exact hk _ _ _ _ rfl rfl rfl (hB _ _ (.inr ⟨k, i, rfl, f1⟩) (.inr ⟨k', i', rfl, f2⟩))
theorem q69 {s d : TypeId} {k k' : IntKind} {x : Int} {u : TypeDesc} (hs : P.underlying s = some u) (hd : P.underlying d = some (.int k')) : bH P (fun a => .convert s d a) (fvv (.int k x)) = some (fvv (.int k' (k'.wrap x))) := by
 have hl : pl (fvv (.int k x)) = some (.int k x) := rfl;unfold bH;rw [hl];unfold qOE jF;have hp : zX (kS (Env.val []) (cop (.convert s d (.const (.int k x)))).op.operands.toList) = true := rfl;simp only [hp, if_true]
 have he : yZ P (execOp (Env.val []) (cop (.convert s d (.const (.int k x))))) = some (.value (.int k' (k'.wrap x))) := by
  show yZ P (do let v <- convert s d (.int k x); pure (Next.value v)) = _;unfold convert;simp only [dB, yB, hs, hd, zUT];rfl
 rw [he];exact dJ rfl rfl
theorem q2Q {s d : TypeId} {x : ByteArray} {u : TypeDesc} (hs : P.underlying s = some u) (hd : P.underlying d = some .string) : bH P (fun a => .convert s d a) (fvv (.string x)) = some (fvv (.string x)) := by
 have hl : pl (fvv (.string x)) = some (.string x) := rfl;unfold bH;rw [hl];unfold qOE jF;have hp : zX (kS (Env.val []) (cop (.convert s d (.const (.string x)))).op.operands.toList) = true := rfl;simp only [hp, if_true]
 have he : yZ P (execOp (Env.val []) (cop (.convert s d (.const (.string x))))) = some (.value (.string x)) := by
  show yZ P (do let v <- convert s d (.string x); pure (Next.value v)) = _;unfold convert;simp only [dB, yB, hs, hd, zUT];cases u <;> rfl
 rw [he];exact dJ rfl rfl
end Go.Sv
namespace Go.Sv
open Go.Idl
noncomputable section
variable [Gc]
variable [Yl]
variable {P : Program} {h : SH} {R : Type} {r : R}
def qFN : SV -> Option Value
 | .d (.int k) x => some (.int k x)
 | .d .bool x => some (.bool x)
 | .d .str x => some (.string x)
 | .c v => some v
 | _ => none
theorem rD {v : SV} {a : Value} (e : qFN v = some a) : v.enc = fvv a := by
 unfold qFN at e;split at e <;> cases e <;> simp [SV.enc, Ty.fv, fvv]
def qHO : List SV -> Option (List Value)
 | [] => some []
 | v :: l => match qFN v, qHO l with
   | some a, some b => some (a :: b)
   | _, _ => none
def fE : SV -> Option Value
 | .agg l => (match qHO l with
   | some vs => some (.agg vs.toArray)
   | none => none)
 | v => qFN v
theorem qFI : ∀ {l : List SV} {vs : List Value}, qHO l = some vs -> qVI (qB l) = some vs
 | [], vs, e => by cases e; simp [qB, qVI]
 | v :: l, vs, e => by
   unfold qHO at e;split at e
   ·rename_i a b ha hb;cases e;simp only [qB, rD ha, fvv, qVI, pl1, qFI hb]
   ·cases e
theorem jL {v : SV} {a : Value} (e : fE v = some a) : pl v.enc = some a := by
 unfold fE at e;split at e
 ·rename_i l;split at e
  ·rename_i vs hvs;cases e;simp only [SV.enc, pl, qFI hvs]
  ·cases e
 ·rw [rD e];rfl
def zF2 (op : BinOp) (a b : ByteArray) (K : SV -> zHP R) (F : zHP R) : zHP R := match op with
 | .add => .ite (Nat.ble (a.size + b.size) 9223372036854775807) (K (.d .str (a ++ b))) .fail
 | .eql => K (.d .bool (a.toList == b.toList))
 | .neq => K (.d .bool (!(a.toList == b.toList)))
 | _ => F
def qQL (P : Program) (t : TypeId) : Bool := match P.underlying t with
 | some .string => true
 | _ => false
omit [Yl] in
theorem qEI {t : TypeId} (e : qQL P t = true) : P.underlying t = some .string := by
 unfold qQL at e;split at e
 ·assumption
 ·cases e
def qL3 (P : Program) (t : TypeId) (s : ByteArray) (ix : SV) (K : SV -> zHP R) : zHP R := match asI ix with
 | some (_, i) => cond (qQL P t) (.bind (qDY s i) fun c => K (.d (.int .u8) c)) .fail
 | none => .fail
def qVY (P : Program) (t : TypeId) (s : ByteArray) (lo hi : Option SV) (K : SV -> zHP R) : zHP R :=
 cond (qQL P t) (qTV s.size s.size hi fun b => qTV 0 b lo fun a => K (.d .str (s.extract a b))) .fail
def q0K (P : Program) (s d : TypeId) (x : SV) (K : SV -> zHP R) (F : zHP R) : zHP R := match P.underlying s, P.underlying d with
 | some _, some (.int k') => (match asI x with
   | some (_, a) => K (.d (.int k') (k'.wrap a))
   | none => F)
 | some _, some .string => (match asS x with
   | some a => K (.d .str a)
   | none => F)
 | _, _ => F
def Ty.vals : (t : Ty) -> List Value -> Option (t.sem × List Value)
 | .int k, .int k' x :: l => cond (decide (k' = k)) (some (x, l)) none
 | .bool, .bool x :: l => some (x, l)
 | .str, .string x :: l => some (x, l)
 | .unit, l => some ((), l)
 | .pair a b, l => match a.vals l with
   | some (x, l1) => (match b.vals l1 with
     | some (y, l2) => some ((x, y), l2)
     | none => none)
   | none => none
 | _, _ => none
def Ty.ofV (t : Ty) (v : Value) : Option t.sem := cond t.one (match t.vals [v] with
 | some (x, []) => some x
 | _ => none) (match v with
 | .agg a => (match t.vals a.toList with
   | some (x, []) => some x
   | _ => none)
 | _ => none)
def q2A (t : Ty) (x : t.sem) : SV := cond t.one (.d t x) (.agg (t.svs x))
omit [Yl] in
theorem qDK (t : Ty) (x : t.sem) : (q2A t x).ok h := by
 unfold q2A
 cases t.one with
 | true => simp [SV.ok]
 | false => simp only [cond_false, SV.ok]; exact qI1 t x
omit [Yl] in
theorem qI6 : ∀ {a b : List Value}, kV okC a = true -> kV okC b = true -> kV okC (a ++ b) = true
 | [], _, _, h => h
 | x :: a, b, h1, h2 => by
   rw [xM, zTY] at h1;rw [zWU, xM, h1.1, qI6 h1.2 h2]; rfl
omit [Yl] in
theorem dY : ∀ {t : Ty} {l l' : List Value} {x : t.sem}, t.vals l = some (x, l') -> ∃ us, l = us ++ l' ∧ kV okC us = true ∧ kS fvv us = (t.cells x).map PV.f
 | .int k, l, l', x, e => by
   cases l with
   | nil => cases e
   | cons v l =>
     cases v <;> try (cases e; done)
     rename_i k' y;have e : cond (decide (k' = k)) (some ((y : Int), l)) none = some (x, l') := e
     cases hk : decide (k' = k) with
     | false => rw [hk] at e; cases e
     | true =>
       rw [hk] at e;cases e;have : k' = k := by simpa using hk
       subst this;exact ⟨[.int k' x], rfl, rfl, rfl⟩
 | .bool, l, l', x, e => by
   cases l with
   | nil => cases e
   | cons v l =>
     cases v <;> try (cases e; done)
     cases e;exact ⟨[.bool x], rfl, rfl, rfl⟩
 | .str, l, l', x, e => by
   cases l with
   | nil => cases e
   | cons v l =>
     cases v <;> try (cases e; done)
     cases e;exact ⟨[.string x], rfl, rfl, rfl⟩
 | .unit, l, l', x, e => by
   have e : some ((), l) = some ((), l') := by cases l <;> exact e
   cases e;exact ⟨[], rfl, rfl, rfl⟩
 | .list _ _, l, l', x, e => by cases l <;> cases e
 | .raw, l, l', x, e => by cases l <;> cases e
 | .pair a b, l, l', x, e => by
   have e : (match a.vals l with
    | some (x, l1) => (match b.vals l1 with
      | some (y, l2) => some ((x, y), l2)
      | none => none)
    | none => none) = some (x, l') := by cases l <;> exact e
   split at e
   ·rename_i x1 l1 h1;split at e
    ·rename_i y l2 h2;cases e;obtain ⟨us, rfl, u1, u2⟩ := dY h1;obtain ⟨ws, rfl, w1, w2⟩ := dY h2;refine ⟨us ++ ws, by rw [zUZ], ?_, ?_⟩
     ·exact qI6 u1 w1
     ·show _ = (a.cells x1 ++ b.cells y).map PV.f;rw [xG] at u2 w2 ⊢;rw [zUR, zUR, u2, w2]
    ·cases e
   ·cases e
theorem rP {t : Ty} {v : Value} {x : t.sem} (e : t.ofV v = some x) : ofC v = (q2A t x).enc := by
 unfold Ty.ofV at e;unfold q2A
 cases ht : t.one with
 | true =>
   rw [ht] at e;simp only [cond_true] at e ⊢;split at e
   ·rename_i y hy;cases e;obtain ⟨us, h1, h2, h3⟩ := dY hy;rw [zVL] at h1;subst h1;rw [Ty.cells_one ht] at h3
    have h3 : fvv v = .f (t.fv x) := by
     have : kS fvv [v] = [fvv v] := rfl;rw [this] at h3;simpa using h3
    have h2 : okC v = true := by
     rw [xM, zTY] at h2; exact h2.1
    have : ofC v = fvv v := by
     unfold okC at h2;rw [zTY] at h2
     cases v <;> first | (exact absurd h2.2 (by decide)) | skip
     all_goals first | (show q7X _ = _; unfold q7X okC; simp [h2.1, h2.2]) | (simp [oneCell] at h2)
    rw [this, h3]; simp [SV.enc]
   ·cases e
 | false =>
   rw [ht] at e;simp only [cond_false] at e ⊢;split at e
   ·rename_i a;split at e
    ·rename_i y hy;cases e;obtain ⟨us, h1, h2, h3⟩ := dY hy;rw [zVL] at h1;show cond (kV okC a.toList) (PV.agg (kS fvv a.toList)) .unk = _;rw [h1, h2, h3];simp only [cond_true, SV.enc, bG]
    ·cases e
   ·cases e
def smp (x : SV) (h : SH) : Option (Nat × List (Value × Value)) := match x with
 | .mp k => (match slk k h.l with
   | some (.spc _ (.map es)) => some (k, es)
   | _ => none)
 | _ => none
omit [Yl] in
theorem vC : ∀ (n : Nat) (es : List (Value × Value)) (i : Nat), (zQ n es)[i]? = (es[i]?).map fun p => (⟨p.1, p.2, n + i⟩ : MapEntry)
 | n, [], i => by simp [zQ]
 | n, p :: es, 0 => by simp [zQ]
 | n, p :: es, i + 1 => by
   show (zQ (n + 1) es)[i]? = _;rw [vC (n + 1) es i];have : n + 1 + i = n + (i + 1) := by omega
   rw [this]; simp
omit [Yl] in
theorem oI : ∀ (n : Nat) (es : List (Value × Value)), (zQ n es).length = es.length
 | n, [] => rfl
 | n, p :: es => by
   show (zQ (n + 1) es).length + 1 = _;rw [oI, zUI]
omit [Yl] in
theorem nZ : ∀ (n : Nat) (es : List (Value × Value)) (k v : Value), zQ n (es ++ [(k, v)]) = zQ n es ++ [⟨k, v, n + es.length⟩]
 | n, [], k, v => rfl
 | n, p :: es, k, v => by
   show _ :: zQ (n + 1) (es ++ [(k, v)]) = _;rw [nZ (n + 1) es k v];show _ = _ :: (zQ (n + 1) es ++ _);rw [zUI];have : n + 1 + es.length = n + (es.length + 1) := by omega
   rw [this]
omit [Yl] in
theorem nW (es : List (Value × Value)) (i : Nat) (k v : Value) (f : MapEntry -> MapEntry) (hf : ∀ p, es[i]? = some p -> f ⟨p.1, p.2, i⟩ = ⟨k, v, i⟩) : zQ 0 (es.set i (k, v)) = (zQ 0 es).modify i f := by
 apply zUX;intro j;rw [vC, zYF, vC, zUM, zU2];by_cases hij : i = j
 ·subst hij;rw [if_pos rfl];simp only [if_true]
  cases he : es[i]? with
  | none =>
    have : ¬ i < es.length := fun hl => by rw [zT1 hl] at he; cases he
    rw [if_neg this]; rfl
  | some p =>
    have := (zT2.1 he).1;rw [if_pos this];simp [hf p he]
 ·rw [if_neg hij];simp only [if_neg hij];cases es[j]? <;> rfl
theorem qMB {x : SV} {k : Nat} {es : List (Value × Value)} (hs : spec P 1000000001 = true) (e : smp x h = some (k, es)) : vX P x.enc (qI h.l) = some (k, (SpO.map es).enc, es.length, zQ 0 es) ∧ ∃ w, slk k h.l = some (.spc w (.map es)) := by
 unfold smp at e;split at e
 ·rename_i k';split at e
  ·rename_i w es' hk;cases e;refine ⟨?_, w, hk⟩;simp only [SV.enc, vX, yL hk]
   show cond (spec P 1000000001 && Nat.beq 1000000001 1000000001) (match mapOf (kN es.length (zQ 0 es)) with
    | some (c, es') => some (k, (SO.spc w (SpO.map es)).enc, c, es')
    | none => none) none = _
   rw [hs, qF9];rfl
  ·cases e
 ·cases e
def q7Z (P : Program) (kt : TypeId) (k : Value) (es : List (Value × Value)) : Option Bool := (vQ P kt k (zQ 0 es)).map Option.isSome
def q5K (P : Program) (kt : TypeId) (t : Ty) (k : Value) (es : List (Value × Value)) : Option t.sem := match vQ P kt k (zQ 0 es) with
 | some (some i) => (match es[i]? with
   | some p => t.ofV p.2
   | none => none)
 | _ => none
def q6S (ok : Bool) (t : Ty) (x : t.sem) (b : Bool) : SV := cond ok (.tup [q2A t x, .c (.bool b)]) (q2A t x)
theorem qO0 {ok b : Bool} {t : Ty} {x : t.sem} {v : Value} (e : t.ofV v = some x) : q00 ok v b = (q6S ok t x b).enc := by
 unfold q00 q6S
 cases ok with
 | true => simp [rP e, SV.enc, qB]
 | false => exact rP e
omit [Yl] in
theorem qZ1 {ok b : Bool} {t : Ty} {x : t.sem} : (q6S ok t x b).ok h := by
 unfold q6S
 cases ok with
 | true => simp only [cond_true, SV.ok, okL, and_true]; exact qDK t x
 | false => exact qDK t x
def qNM (P : Program) (t : TypeId) (m kx : SV) (ok : Bool) (h : SH) (K : SV -> zHP R) : zHP R := match P.underlying t, smp m h, fE kx with
 | some (.map kt et), some (_, es), some kv => (match qIR P 8 et, wR P et with
   | some vt, some z => (match vt.ofV z with
     | some z0 => cond (spec P 1000000001 && zG z) (.bind (q7Z P kt kv es) fun b => .ite b (.bind (q5K P kt vt kv es) fun x => K (q6S ok vt x true)) (K (q6S ok vt z0 false))) .fail
     | none => .fail)
   | _, _ => .fail)
 | _, _, _ => .fail
theorem qR8 {t : TypeId} {m kx : SV} {ok : Bool} {K : SV -> zHP R} (e : (qNM P t m kx ok h K).run = some r) : ∃ v, kI P t m.enc kx.enc ok (qI h.l) = some v.enc ∧ v.ok h ∧ (K v).run = some r := by
 unfold qNM at e;split at e
 case h_2 => cases e
 rename_i kt et k es kv hu hm hk;split at e
 case h_2 => cases e
 rename_i vt z hvt hz;split at e
 case h_2 => cases e
 rename_i z0 hz0;obtain ⟨c, e1⟩ := qH e;rw [zTY] at c;obtain ⟨b, hb, e2⟩ := run_bind e1;obtain ⟨h1, w, h2⟩ := qMB c.1 hm
 have pre : kI P t m.enc kx.enc ok (qI h.l) = (match vQ P kt kv (zQ 0 es) with
  | some (some i) => (match (zQ 0 es)[i]? with
    | some e => some (q00 ok e.val true)
    | none => none)
  | some none => some (q00 ok z false)
  | none => none) := by
  unfold kI;rw [hu, h1, jL hk];simp only [hz, c.2, cond_true];rfl
 rw [pre];unfold q7Z at hb
 cases hf : vQ P kt kv (zQ 0 es) with
 | none => rw [hf] at hb; cases hb
 | some o =>
   rw [hf] at hb
   cases o with
   | none =>
     cases hb;refine ⟨_, by simp only [qO0 hz0], qZ1, e2⟩
   | some i =>
     cases hb;obtain ⟨x, hx, e3⟩ := run_bind (show (zHP.bind (q5K P kt vt kv es) fun x => K (q6S ok vt x true)).run = some r from e2);unfold q5K at hx;rw [hf] at hx;simp only at hx;split at hx
     ·rename_i p hp;refine ⟨_, ?_, qZ1, e3⟩;simp only [vC, hp, zT7, qO0 hx]
     ·cases hx
def zFZ (P : Program) (kt : TypeId) (k v : Value) (es : List (Value × Value)) : Option (List (Value × Value)) := match vQ P kt k (zQ 0 es) with
 | some (some i) => (match es[i]? with
   | some p => cond (Instr.sameBits 10000 p.1 k) (some (es.set i (k, v))) none
   | none => none)
 | some none => some (es ++ [(k, v)])
 | none => none
def rH (P : Program) (t : TypeId) (m kx x : SV) (h : SH) (K : SV -> SH -> zHP R) : zHP R := match P.underlying t, smp m h, fE kx, fE x with
 | some (.map kt _), some (k, es), some kv, some xv => cond (spec P 1000000001 && qY xv) (.bind (zFZ P kt kv xv es) fun es' => K (.tup []) (h.put k fun v => .spc v (.map es'))) .fail
 | _, _, _, _ => .fail
theorem aD {k : Nat} {es es' : List (Value × Value)} {w : Nat} (ho : OkH P h) (hk : slk k h.l = some (.spc w (.map es))) : Keep h (h.put k fun v => .spc v (.map es')) ∧ OkH P (h.put k fun v => .spc v (.map es')) ∧
 qI (h.put k fun v => .spc v (.map es')).l = xP k { (SpO.map es).enc with cs := kN es'.length (zQ 0 es') } (qI h.l) := by
 have := bS (f := fun v => .spc v (.map es')) ho hk rfl;exact ⟨this.1, this.2, jC k _ _⟩
theorem qIP {t : TypeId} {m kx x : SV} {K : SV -> SH -> zHP R} (ho : OkH P h) (e : (rH P t m kx x h K).run = some r) :
 ∃ h', jM P t m.enc kx.enc x.enc (qI h.l) = some (qI h'.l) ∧ Keep h h' ∧ OkH P h' ∧ (K (.tup []) h').run = some r := by
 unfold rH at e;split at e
 case h_2 => cases e
 rename_i kt et k es kv xv hu hm hkv hxv;obtain ⟨c, e1⟩ := qH e;rw [zTY] at c;obtain ⟨es', hs, e2⟩ := run_bind e1;obtain ⟨h1, w, h2⟩ := qMB c.1 hm;obtain ⟨p1, p2, p3⟩ := aD (es' := es') ho h2;refine ⟨_, ?_, p1, p2, e2⟩;unfold jM;rw [hu, h1, jL hkv, jL hxv, p3];simp only [c.2, cond_true];unfold zFZ at hs
 cases hf : vQ P kt kv (zQ 0 es) with
 | none => rw [hf] at hs; cases hs
 | some o =>
   rw [hf] at hs
   cases o with
   | none =>
     cases hs;simp only [nZ, zUK, zUI, zWK, zU2]
   | some i =>
     simp only at hs ⊢;split at hs
     ·rename_i p hp
      cases hb : Instr.sameBits 10000 p.1 kv with
      | false => rw [hb] at hs; cases hs
      | true =>
        rw [hb] at hs;cases hs;simp only [vC, hp, zT7, hb, cond_true];rw [nW es i kv xv (fun e => { e with key := kv, val := xv }) (fun _ _ => rfl), zUY]
     ·cases hs
def qZ9 (P : Program) (kt : TypeId) (t : Ty) (k z : Value) (es : List (Value × Value)) : Option (List (Value × Value) × Nat × t.sem) := match vQ P kt k (zQ 0 es) with
 | some (some i) => (match es[i]? with
   | some p => cond (Instr.sameBits 10000 p.1 k && q5C i (vQ P kt k (zQ 0 (es.set i (k, p.2))))) (match t.ofV p.2 with
     | some x => some (es.set i (k, p.2), i, x)
     | none => none) none
   | none => none)
 | some none => cond (q5C es.length (vQ P kt k (zQ 0 (es ++ [(k, z)])))) (match t.ofV z with
   | some x => some (es ++ [(k, z)], es.length, x)
   | none => none) none
 | none => none
def qDH (P : Program) (t : TypeId) (m kx : SV) (h : SH) (K : SV -> SH -> zHP R) : zHP R := match P.underlying t, smp m h, fE kx with
 | some (.map kt et), some (k, es), some kv => (match qIR P 8 et, wR P et with
   | some vt, some z => cond (spec P 1000000001 && zG z) (.bind (qZ9 P kt vt kv z es) fun q => K (.tup [q2A vt q.2.2, .d (.int .i64) (q.2.1 : Int)]) (h.put k fun v => .spc v (.map q.1))) .fail
   | _, _ => .fail)
 | _, _, _ => .fail
theorem qKT {t : TypeId} {m kx : SV} {K : SV -> SH -> zHP R} (ho : OkH P h) (e : (qDH P t m kx h K).run = some r) :
 ∃ v h', kD P t m.enc kx.enc (qI h.l) = some (v.enc, qI h'.l) ∧ Post P h h' v ∧ (K v h').run = some r := by
 unfold qDH at e;split at e
 case h_2 => cases e
 rename_i kt et k es kv hu hm hkv;split at e
 case h_2 => cases e
 rename_i vt z hvt hz;obtain ⟨c, e1⟩ := qH e;rw [zTY] at c;obtain ⟨q, hs, e2⟩ := run_bind e1;obtain ⟨h1, w, h2⟩ := qMB c.1 hm;obtain ⟨p1, p2, p3⟩ := aD (es' := q.1) ho h2;refine ⟨_, _, ?_, ⟨p1, p2, ?_⟩, e2⟩
 ·unfold kD;rw [hu, h1, jL hkv, p3];unfold qZ9 at hs
  cases hf : vQ P kt kv (zQ 0 es) with
  | none => rw [hf] at hs; cases hs
  | some o =>
    rw [hf] at hs
    cases o with
    | none =>
      simp only at hs ⊢;obtain ⟨hat, hs⟩ := kE hs;split at hs
      ·rename_i x hx;cases hs
       have hat' : q5C (zQ 0 es).length (vQ P kt kv (zQ 0 es ++ [⟨kv, z, es.length⟩])) = true := by
        rw [nZ, zU2] at hat;rw [oI];exact hat
       simp only [hf, hz, c.2, hat', zU3, cond_true, nZ, zUK, zUI, zWK, zU2, SV.enc, qB, rP hx, Ty.fv, fvv]
      ·cases hs
    | some i =>
      simp only at hs ⊢;split at hs
      ·rename_i p hp;obtain ⟨hb', hs⟩ := kE hs;rw [zTY] at hb';obtain ⟨hb, hat⟩ := hb'
       ·split at hs
        ·rename_i x hx;cases hs;rw [nW es i kv p.2 (fun e => { e with key := kv }) (fun p' hp' => by rw [hp] at hp'; cases hp'; rfl)] at hat;simp only [hf, vC, hp, zT7, hb, hat, zU3, cond_true, SV.enc, qB, rP hx, Ty.fv, fvv, zU2];rw [nW es i kv p.2 (fun e => { e with key := kv }) (fun p' hp' => by rw [hp] at hp'; cases hp'; rfl), zUY]
        ·cases hs
      ·cases hs
 ·simp only [SV.ok, okL, and_true]; exact qDK _ _
def q47 (born : Int) (v : Value) (es : List (Value × Value)) : Option (List (Value × Value)) := match (zQ 0 es).findIdx? (fun e => (e.born : Int) == born) with
 | some i => (match es[i]? with
   | some p => some (es.set i (p.1, v))
   | none => none)
 | none => none
def mV (P : Program) (m st x : SV) (h : SH) (K : SV -> SH -> zHP R) : zHP R := match smp m h, asI st, fE x with
 | some (k, es), some (_, b), some xv => cond (spec P 1000000001 && qY xv) (.bind (q47 b xv es) fun es' => K (.tup []) (h.put k fun v => .spc v (.map es'))) .fail
 | _, _, _ => .fail
theorem qD3 {m st x : SV} {K : SV -> SH -> zHP R} (ho : OkH P h) (e : (mV P m st x h K).run = some r) :
 ∃ h', kM P m.enc st.enc x.enc (qI h.l) = some (qI h'.l) ∧ Keep h h' ∧ OkH P h' ∧ (K (.tup []) h').run = some r := by
 unfold mV at e;split at e
 case h_2 => cases e
 rename_i k es ki b xv hm hst hxv;obtain ⟨c, e1⟩ := qH e;rw [zTY] at c;obtain ⟨es', hs, e2⟩ := run_bind e1;obtain ⟨h1, w, h2⟩ := qMB c.1 hm;obtain ⟨p1, p2, p3⟩ := aD (es' := es') ho h2;refine ⟨_, ?_, p1, p2, e2⟩;unfold kM;have hpl : pl (fvv (.int ki b)) = some (.int ki b) := rfl;rw [h1, xZ hst, hpl, jL hxv, p3];simp only [c.2, cond_true];unfold q47 at hs;split at hs
 ·rename_i i hi;rw [hi];split at hs
  ·rename_i p hp;cases hs;simp only;rw [nW es i p.1 xv (fun e => { e with val := xv }) (fun p' hp' => by rw [hp] at hp'; cases hp'; rfl), zUY]
  ·cases hs
 ·cases hs
def qQF (P : Program) (k : Nat) (h : SH) (K : SV -> SH -> zHP R) : zHP R := cond (spec P 1000000001) (K (.mp k) (h.new k fun v => .spc v (.map []))) .fail
theorem qMM {k : Nat} {K : SV -> SH -> zHP R} (ho : OkH P h) (e : (qQF P k h K).run = some r) : ∃ v h', dF P k (qI h.l) = some (v.enc, qI h'.l) ∧ Post P h h' v ∧ (K v h').run = some r := by
 obtain ⟨c, e1⟩ := qH e;have hp := kY (k := k) (f := fun v => .spc v (.map [])) ho rfl;refine ⟨_, _, ?_, ⟨hp.1, hp.2, by simp [SV.ok]⟩, e1⟩;unfold dF;rw [c];simp only [cond_true, qJ6, SV.enc];rfl
def q6I (P : Program) (ts : Array TypeId) (x : SV) (h : SH) : Option SV := match smp x h with
 | some (_, es) => cond (spec P 1000000001 && zBW P ts) (some (.d (.int .i64) ((List.length es : Nat) : Int))) none
 | none => none
theorem q1Q {ts : Array TypeId} {x v : SV} (e : q6I P ts x h = some v) : qDX P ts x.enc (qI h.l) = some v.enc ∧ v.ok h := by
 unfold q6I at e;split at e
 case h_2 => cases e
 rename_i k es hm
 cases hc : (spec P 1000000001 && zBW P ts) with
 | false => rw [hc] at e; cases e
 | true =>
   rw [hc] at e;cases e;rw [zTY] at hc;refine ⟨?_, by simp [SV.ok]⟩;unfold smp at hm;split at hm
   case h_2 => cases hm
   rename_i k';split at hm
   case h_2 => cases hm
   rename_i w es' hk;cases hm
   have h1 : tN P (SV.enc (.mp k)) (qI h.l) = some (kN es.length (zQ 0 es)) := by
    simp only [SV.enc, tN, yL hk];show cond (!false && (spec P 1000000001 && Nat.beq 1000000001 1000000001)) (some (kN es.length (zQ 0 es))) none = _;rw [hc.1]; rfl
   unfold qDX;rw [h1];simp only [hc.2, cond_true, y8, oI];have : (3 * es.length + 1) / 3 = es.length := by omega
   rw [this];simp [SV.enc, Ty.fv, fvv]
omit [Yl] in
theorem qKQ {p : Value -> Bool} : ∀ {a b : List Value}, kV p a = true -> kV p b = true -> kV p (a ++ b) = true
 | [], _, _, h => h
 | x :: a, b, h, h2 => by
   rw [zWU, xM, zTY];rw [xM, zTY] at h;exact ⟨h.1, qKQ h.2 h2⟩
omit [Yl] in
theorem dZ (n : Nat) : ∀ {t : Ty} {l l' : List Value} {x : t.sem}, t.vals l = some (x, l') -> ∃ us, l = us ++ l' ∧ kV (xN (n + 1)) us = true
 | .int k, l, l', x, e => by
   cases l with
   | nil => cases e
   | cons v l =>
     cases v <;> try (cases e; done)
     rename_i k' y;have e : cond (decide (k' = k)) (some ((y : Int), l)) none = some (x, l') := e
     cases hk : decide (k' = k) with
     | false => rw [hk] at e; cases e
     | true =>
       rw [hk] at e;cases e;exact ⟨[.int k' x], rfl, rfl⟩
 | .bool, l, l', x, e => by
   cases l with
   | nil => cases e
   | cons v l =>
     cases v <;> try (cases e; done)
     cases e;exact ⟨[.bool x], rfl, rfl⟩
 | .str, l, l', x, e => by
   cases l with
   | nil => cases e
   | cons v l =>
     cases v <;> try (cases e; done)
     cases e;exact ⟨[.string x], rfl, rfl⟩
 | .unit, l, l', x, e => by
   have e : some ((), l) = some ((), l') := by cases l <;> exact e
   cases e;exact ⟨[], rfl, rfl⟩
 | .list _ _, l, l', x, e => by cases l <;> cases e
 | .raw, l, l', x, e => by cases l <;> cases e
 | .pair a b, l, l', x, e => by
   have e : (match a.vals l with
    | some (x, l1) => (match b.vals l1 with
      | some (y, l2) => some ((x, y), l2)
      | none => none)
    | none => none) = some (x, l') := by cases l <;> exact e
   split at e
   ·rename_i x1 l1 h1;split at e
    ·rename_i y l2 h2;cases e;obtain ⟨us, rfl, u1⟩ := dZ n h1;obtain ⟨ws, rfl, w1⟩ := dZ n h2;exact ⟨us ++ ws, by rw [zUZ], qKQ u1 w1⟩
    ·cases e
   ·cases e
omit [Yl] in
theorem qX5 {t : Ty} {v : Value} {x : t.sem} (e : t.ofV v = some x) : zG v = true := by
 unfold Ty.ofV at e
 cases ht : t.one with
 | true =>
   rw [ht] at e;simp only [cond_true] at e;split at e
   ·rename_i y hy;obtain ⟨us, h1, h2⟩ := dZ 2 hy;rw [zVL] at h1;subst h1;rw [xM, zTY] at h2;exact h2.1
   ·cases e
 | false =>
   rw [ht] at e;simp only [cond_false] at e;split at e
   ·rename_i a;split at e
    ·rename_i y hy;obtain ⟨us, h1, h2⟩ := dZ 1 hy;rw [zVL] at h1;show kV (xN 2) a.toList = true;rw [h1]; exact h2
    ·cases e
   ·cases e
omit [Yl] in
theorem qE4 : ∀ (n : Nat) (es : List (Value × Value)) (i : Nat), (zQ n es).find? (·.born == n + i) = (es[i]?).map fun p => (⟨p.1, p.2, n + i⟩ : MapEntry)
 | n, [], i => by simp [zQ]
 | n, p :: es, 0 => by simp [zQ]
 | n, p :: es, i + 1 => by
   have h : ((⟨p.1, p.2, n⟩ : MapEntry).born == n + (i + 1)) = false := by simp
   have ih := qE4 (n + 1) es i;have e : n + 1 + i = n + (i + 1) := by omega
   rw [e] at ih;show List.find? (fun x => x.born == n + (i + 1)) ((⟨p.1, p.2, n⟩ : MapEntry) :: zQ (n + 1) es) = _;rw [List.find?_cons, h, ih];simp
def q46 (P : Program) (t : TypeId) : Bool := match P.underlying t with
 | some (.map _ _) => true
 | _ => false
def qNN (P : Program) (t : TypeId) (x : SV) (k : Nat) (h : SH) (K : SV -> SH -> zHP R) : zHP R := match smp x h with
 | some (j, es) => cond (q46 P t && (spec P 1000000001 && (spec P 1000000002 && !(j == k)))) (K (.ref k 0 4) (h.new k fun v => .spc v (.mit t j (List.length es) 0 []))) .fail
 | none => .fail
theorem qSQ {t : TypeId} {x : SV} {k : Nat} {K : SV -> SH -> zHP R} (ho : OkH P h) (e : (qNN P t x k h K).run = some r) : ∃ v h', qFR P t x.enc k (qI h.l) = some (v.enc, qI h'.l) ∧ Post P h h' v ∧ (K v h').run = some r := by
 unfold qNN at e;split at e
 case h_2 => cases e
 rename_i j es hs;obtain ⟨c, e1⟩ := qH e;simp only [zTY, zU0] at c;obtain ⟨c1, c2, c3, c4⟩ := c;obtain ⟨h1, w, h2⟩ := qMB c2 hs
 have hx : x = .mp j := by
  unfold smp at hs;split at hs
  ·split at hs
   ·cases hs; rfl
   ·cases hs
  ·cases hs
 have hp := kY (k := k) (f := fun v => .spc v (.mit t j (List.length es) 0 [])) ho rfl;refine ⟨_, _, ?_, ⟨hp.1, hp.2, by simp [SV.ok]⟩, e1⟩;unfold qFR;unfold q46 at c1;split at c1
 ·rename_i kt et hu;rw [hu];subst hx;have he : (SV.mp j).enc = .mp j := by simp [SV.enc]
  rw [he] at h1 ⊢;have hpl : pl (.mp j) = none := rfl;rw [hpl];simp only [h1, c3, c4, zVV, zU3, cond_true, qJ6, SV.enc];rfl
 ·cases c1
def qI9 (kt vt : Ty) (i : Nat) (es : List (Value × Value)) : Option (kt.sem × vt.sem) := match es[i]? with
 | some p => (match kt.ofV p.1, vt.ofV p.2 with
   | some x, some y => some (x, y)
   | _, _ => none)
 | none => none
def qZ8 (P : Program) (x : SV) (h : SH) (K : SV -> SH -> zHP R) : zHP R := match x with
 | .ref k off w => (match slk k h.l with
   | some (.spc _ (.mit t j since (last + 1) _)) => (match P.underlying t, smp (.mp j) h with
     | some (.map kt vt), some (_, es) => (match qIR P 8 kt, qIR P 8 vt with
       | some kT, some vT => cond (spec P 1000000001 && (spec P 1000000002 && (Nat.beq w 4 && (Nat.beq off 0 && Nat.beq (List.length es) since)))) (.bind (qI9 kT vT last es) fun p => K (.tup [q2A kT p.1, q2A vT p.2]) h) .fail
       | _, _ => .fail)
     | _, _ => .fail)
   | _ => .fail)
 | _ => .fail
theorem qVV {x : SV} {K : SV -> SH -> zHP R} (ho : OkH P h) (e : (qZ8 P x h K).run = some r) : ∃ v, qKC P x.enc (qI h.l) = some v.enc ∧ v.ok h ∧ (K v h).run = some r := by
 unfold qZ8 at e;split at e
 case h_2 => cases e
 rename_i k off w;split at e
 case h_2 => cases e
 rename_i w0 t j since last seen hk;split at e
 case h_2 => cases e
 rename_i kt vt j2 es hu hs;split at e
 case h_2 => cases e
 rename_i kT vT hkT hvT;obtain ⟨c, e1⟩ := qH e;simp only [zTY] at c;obtain ⟨c1, c2, c3, c4, c5⟩ := c;obtain ⟨q, hq, e2⟩ := run_bind e1;obtain ⟨h1, _⟩ := qMB c1 hs;unfold qI9 at hq;split at hq
 case h_2 => cases hq
 rename_i p hp;split at hq
 case h_2 => cases hq
 rename_i x1 y1 hx1 hy1;cases hq;refine ⟨_, ?_, ?_, e2⟩
 ·have e3 := zTZ c3;have e4 := zTZ c4;subst e3 e4;simp only [SV.enc, qKC, yL hk]
  show cond (spec P 1000000002 && (Nat.beq 1000000002 1000000002 && (Nat.beq 4 4 && Nat.beq 0 0))) (match vX P (.mp j) (qI h.l) with
   | some (_, _, c, es) => cond (Nat.beq c (since : Int).toNat && Nat.ble 1 ((last + 1 : Nat) : Int).toNat) (match es.find? (·.born == ((last + 1 : Nat) : Int).toNat - 1) with
     | some e => cond (zG e.key) (some (PV.tup [ofC e.key, ofC e.val])) none
     | none => none) none
   | none => none) none = _
  have h1 : vX P (.mp j) (qI h.l) = some (j2, (SpO.map es).enc, es.length, zQ 0 es) := h1;rw [h1, c2];have hl : ((last + 1 : Nat) : Int).toNat = last + 1 := rfl;have hsi : ((since : Nat) : Int).toNat = since := rfl;have hf := qE4 0 es last;simp only [zU2] at hf;rw [hl, hsi];simp only [zXU, hf, hp, c5, zT7];rw [show Nat.ble 1 (last + 1) = true from zUG (by omega), show (Nat.beq 1000000002 1000000002) = true from rfl, show (Nat.beq 4 4) = true from rfl, show (Nat.beq 0 0) = true from rfl];simp only [zU3, cond_true, qX5 hx1, rP hx1, rP hy1, qB]
 ·simp only [SV.ok, okL];exact ⟨qDK _ _, qDK _ _, trivial⟩
end
end Go.Sv
namespace Go.Sv
open Go.Idl
variable {a b : Int} {env : List SV} {k : IntKind} {o : Oper} {op : BinOp} {s : ByteArray} {t t2 ty : TypeId} {ts : Array TypeId} {x y : SV}
noncomputable section
variable [Gc]
variable [Yl]
variable {P : Program} {h : SH} {R : Type} {r : R}
def q6T (k : IntKind) : PV -> Option Int
 | .f (.v (.int k' x)) => cond (decide (k' = k)) (some x) none
 | _ => none
def q7G : PV -> Option Bool
 | .f (.v (.bool x)) => some x
 | _ => none
def q7S : PV -> Option ByteArray
 | .f (.v (.string x)) => some x
 | _ => none
def Ty.zPU : (t : Ty) -> PV -> Option t.sem
 | .int k, p => q6T k p
 | .bool, p => q7G p
 | .str, p => q7S p
 | .raw, _ => none
 | .unit, _ => none
 | .list _ _, _ => none
 | .pair _ _, _ => none
omit [Yl] in
theorem q79 : ∀ {t : Ty} {p : PV} {x : t.sem}, t.zPU p = some x -> p = .f (t.fv x)
 | .int k, p, x, e => by
   have e1 : q6T k p = some x := e;clear e;unfold q6T at e1;split at e1
   ·rename_i k' y;have e := e1;clear e1
    cases hk : decide (k' = k) with
    | false => rw [hk] at e; cases e
    | true =>
      rw [hk] at e;cases e;have : k' = k := by simpa using hk
      subst this;rfl
   ·cases e1
 | .bool, p, x, e => by
   have e1 : q7G p = some x := e;clear e;unfold q7G at e1;split at e1
   ·cases e1; rfl
   ·cases e1
 | .str, p, x, e => by
   have e1 : q7S p = some x := e;clear e;unfold q7S at e1;split at e1
   ·cases e1; rfl
   ·cases e1
 | .unit, _, _, e => by cases e
 | .list _ _, _, _, e => by cases e
 | .pair _ _, _, _, e => by cases e
 | .raw, _, _, e => by cases e
def Ty.zLI (t : Ty) (o : Option PV) : Option t.sem := o.bind t.zPU
theorem qP6 {t : Ty} {o : Option PV} {x : t.sem} (e : t.zLI o = some x) : o = some (SV.d t x).enc := by
 obtain ⟨p, h1, h2⟩ := zVW.1 e;rw [h1, q79 h2]; simp [SV.enc]
def sint (op : BinOp) (k : IntKind) (a b : Int) (K : SV -> zHP R) (F : zHP R) : zHP R := match op with
 | .lss => K (.d .bool (decide (a < b)))
 | .leq => K (.d .bool (decide (a <= b)))
 | .gtr => K (.d .bool (decide (b < a)))
 | .geq => K (.d .bool (decide (b <= a)))
 | .eql => K (.d .bool (a == b))
 | .neq => K (.d .bool (a != b))
 | .add => K (.d (.int k) (k.wrap (a + b)))
 | .sub => K (.d (.int k) (k.wrap (a - b)))
 | .mul => K (.d (.int k) (k.wrap (a * b)))
 | .quo => .bind (qAE k a b) fun c => K (.d (.int k) c)
 | .rem => .bind (qP1 a b) fun c => K (.d (.int k) c)
 | _ => F
omit [Yl] in
theorem q7U {x y : PV} {a b : Value} {ph : PHp} (hx : pl x = some a) (hy : pl y = some b) : bC P op t t2 x y ph = bC P op t t2 (fvv a) (fvv b) [] := by
 unfold bC;rw [hx, hy];rfl
def qSU (P : Program) (op : BinOp) (t t2 ty : TypeId) (x y : SV) (K : SV -> zHP R) : zHP R := match fE x, fE y, qIR P 8 ty with
 | some a, some b, some u => .bind (u.zLI (bC P op t t2 (fvv a) (fvv b) [])) fun z => K (.d u z)
 | _, _, _ => .fail
def zEL (P : Program) (t : TypeId) (x y : SV) (h : SH) : Option Bool := match y with
 | .c (.slice none _ _) => cond (xD P t).isSome (match x with
   | .own k g n => (match slk k h.l with
     | some (.list _ gr g' _ _ _) => cond (Nat.beq g g') (some (gr && Nat.beq n 0)) none
     | _ => none)
   | _ => none) none
 | .c .nilFunc => cond (qY4 P t) (match x with
   | .fn _ _ _ => some false
   | _ => none) none
 | _ => none
theorem qYV {b : Bool} (ho : OkH P h) (hx : x.ok h) (e : zEL P t x y h = some b) : q0D P t x.enc y.enc (qI h.l) = some b ∧ pl x.enc = none := by
 unfold zEL at e;split at e
 ·rename_i n c
  cases h1 : (xD P t).isSome with
  | false => rw [h1] at e; cases e
  | true =>
    rw [h1] at e;simp only [cond_true] at e;split at e
    ·rename_i k g n;split at e
     ·rename_i el gr g' w u xs hk
      cases h2 : Nat.beq g g' with
      | false => rw [h2] at e; cases e
      | true =>
        rw [h2] at e;cases e;have hg : g = g' := zTZ h2;subst hg;simp only [SV.ok] at hx;have hn := hx.2 _ _ _ _ _ hk;have hl := ho.list _ _ _ _ _ _ _ hk;refine ⟨?_, by simp [SV.enc, pl]⟩;simp only [SV.enc, fvv, q0D, h1, cond_true, isNil, yL hk];rw [show (SO.list el gr g w u xs).enc.el = el from rfl, hl.2.1];simp only [zA, hn, nP, cond_true];rfl
     ·cases e
    ·cases e
 ·cases h1 : qY4 P t with
  | false => rw [h1] at e; cases e
  | true =>
    rw [h1] at e;simp only [cond_true] at e;split at e
    ·cases e;exact ⟨by simp [SV.enc, fvv, q0D, h1, qRL], by simp [SV.enc, pl]⟩
    ·cases e
 ·cases e
def zDT (P : Program) (op : BinOp) (t t2 ty : TypeId) (x y : SV) (h : SH) (K : SV -> zHP R) : zHP R := match asI x, asI y with
 | some (k, a), some (k', b) => cond (decide (k = k')) (sint op k a b K (qSU P op t t2 ty x y K)) (qSU P op t t2 ty x y K)
 | _, _ => (match asS x, asS y with
   | some a, some b => zF2 op a b K (qSU P op t t2 ty x y K)
   | _, _ => (match zEL P t x y h, op with
     | some b, .eql => K (.d .bool b)
     | some b, .neq => K (.d .bool (!b))
     | _, _ => qSU P op t t2 ty x y K))
theorem qAK {K : SV -> zHP R} (e : (qSU P op t t2 ty x y K).run = some r) : ∃ v, bC P op t t2 x.enc y.enc (qI h.l) = some v.enc ∧ v.ok h ∧ (K v).run = some r := by
 unfold qSU at e;split at e
 ·rename_i a b u ha hb hu;obtain ⟨z, hz, e1⟩ := run_bind e;refine ⟨_, ?_, by simp [SV.ok], e1⟩;rw [q7U (jL ha) (jL hb)];exact qP6 hz
 ·cases e
theorem q80 {K : SV -> zHP R} (ho : OkH P h) (hx : x.ok h) (e : (zDT P op t t2 ty x y h K).run = some r) : ∃ v, bC P op t t2 x.enc y.enc (qI h.l) = some v.enc ∧ v.ok h ∧ (K v).run = some r := by
 unfold zDT at e;split at e
 ·rename_i k a k' b ha hb
  cases hk : decide (k = k') with
  | false => rw [hk] at e; exact qAK e
  | true =>
    rw [hk] at e;have hkk : k = k' := by simpa using hk
    subst hkk;simp only [cond_true] at e;have ha' := xZ ha;have hb' := xZ hb
    have fin : ∀ {v : SV}, bC P op t t2 (fvv (.int k a)) (fvv (.int k b)) (qI h.l) = some v.enc -> v.ok h -> (K v).run = some r -> ∃ v, bC P op t t2 x.enc y.enc (qI h.l) = some v.enc ∧ v.ok h ∧ (K v).run = some r := fun h1 h2 h3 => ⟨_, by rw [ha', hb']; exact h1, h2, h3⟩
    unfold sint at e;split at e
    ·exact fin (v := .d .bool (decide (a < b))) zBE (by simp [SV.ok]) e
    ·exact fin (v := .d .bool (decide (a <= b))) zAM (by simp [SV.ok]) e
    ·exact fin (v := .d .bool (decide (b < a))) zB0 (by simp [SV.ok]) e
    ·exact fin (v := .d .bool (decide (b <= a))) q94 (by simp [SV.ok]) e
    ·exact fin (v := .d .bool (a == b)) zCB (by simp [SV.ok]) e
    ·exact fin (v := .d .bool (a != b)) zCH (by simp [SV.ok]) e
    ·exact fin (v := .d (.int k) (k.wrap (a + b))) q9H (by simp [SV.ok]) e
    ·exact fin (v := .d (.int k) (k.wrap (a - b))) q9V (by simp [SV.ok]) e
    ·exact fin (v := .d (.int k) (k.wrap (a * b))) zA8 (by simp [SV.ok]) e
    ·obtain ⟨c, hc, e1⟩ := run_bind e;exact fin (v := .d (.int k) c) (zAL hc) (by simp [SV.ok]) e1
    ·obtain ⟨c, hc, e1⟩ := run_bind e;exact fin (v := .d (.int k) c) (zBG hc) (by simp [SV.ok]) e1
    ·exact qAK e
 ·split at e
  ·rename_i a b ha hb;have ha' := bO ha;have hb' := bO hb;unfold zF2 at e;split at e
   ·rcases run_ite e with ⟨z, e1⟩ | ⟨z, e1⟩
    ·exact ⟨.d .str (a ++ b), by rw [ha', hb', q67 (zUH z)]; simp [SV.enc, Ty.fv, fvv], by simp [SV.ok], e1⟩
    ·cases e1
   ·exact ⟨.d .bool (a.toList == b.toList), by rw [ha', hb', q6G]; simp [SV.enc, Ty.fv, fvv], by simp [SV.ok], e⟩
   ·exact ⟨.d .bool (!(a.toList == b.toList)), by rw [ha', hb', q7E]; simp [SV.enc, Ty.fv, fvv], by simp [SV.ok], e⟩
   ·exact qAK e
  split at e
  ·rename_i b hs;obtain ⟨h1, h2⟩ := qYV ho hx hs;refine ⟨_, ?_, by simp [SV.ok], e⟩;unfold bC;rw [h2];simp [h1, SV.enc, Ty.fv, fvv]
  ·rename_i b hs;obtain ⟨h1, h2⟩ := qYV ho hx hs;refine ⟨_, ?_, by simp [SV.ok], e⟩;unfold bC;rw [h2];simp [h1, SV.enc, Ty.fv, fvv]
  ·exact qAK e
def qVA (P : Program) (mk : Operand -> Op) (ty : TypeId) (x : SV) (K : SV -> zHP R) : zHP R := match qFN x, qIR P 8 ty with
 | some a, some u => .bind (u.zLI (bH P mk (fvv a))) fun z => K (.d u z)
 | _, _ => .fail
theorem qPG {mk : Operand -> Op} {K : SV -> zHP R} (e : (qVA P mk ty x K).run = some r) : ∃ v, bH P mk x.enc = some v.enc ∧ v.ok h ∧ (K v).run = some r ∧ ∃ a, qFN x = some a := by
 unfold qVA at e;split at e
 ·rename_i a u ha hu;obtain ⟨z, hz, e1⟩ := run_bind e;exact ⟨_, by rw [rD ha]; exact qP6 hz, by simp [SV.ok], e1, a, ha⟩
 ·cases e
def sun (P : Program) (op : UnOp) (t ty : TypeId) (x : SV) (K : SV -> zHP R) : zHP R := match op, asI x, asB x with
 | .neg, some (k, a), _ => K (.d (.int k) (k.wrap (0 - a)))
 | .not, _, some b => K (.d .bool (!b))
 | _, _, _ => qVA P (fun a => .unOp op t a) ty x K
omit [Yl] in
theorem q6H {x : Int} : bH P (fun a => .unOp .neg t a) (fvv (.int k x)) = some (fvv (.int k (k.wrap (0 - x)))) := rfl
theorem zBH {op : UnOp} {K : SV -> zHP R} (e : (sun P op t ty x K).run = some r) : ∃ v, bH P (fun a => .unOp op t a) x.enc = some v.enc ∧ v.ok h ∧ (K v).run = some r := by
 unfold sun at e;split at e
 ·rename_i k a ha;exact ⟨_, by rw [xZ ha, q6H]; simp [SV.enc, Ty.fv, fvv], by simp [SV.ok], e⟩
 ·rename_i b hb;exact ⟨_, by rw [rC hb, q9M]; simp [SV.enc, Ty.fv, fvv], by simp [SV.ok], e⟩
 ·obtain ⟨v, h1, h2, h3, _⟩ := qPG (h := h) e;exact ⟨v, h1, h2, h3⟩
def nQ (env : List SV) (l : Array Operand) : List SV := l.toList.map (xQ env)
theorem oF (env : List SV) (l : Array Operand) : l.toList.map (qN (qB env)) = qB (nQ env l) := by
 unfold nQ;rw [zD (l.toList.map (xQ env)), zXA];exact zU5 fun x _ => qP env x
omit [Yl] in
theorem pO (ho : okL h env) (l : Array Operand) : okL h (nQ env l) := yY.2 fun x hx => by
 obtain ⟨q, _, rfl⟩ := zUN.1 hx;exact qCP ho _
def smm (lo : Bool) (x y : SV) (K : SV -> zHP R) : zHP R := match asI x, asI y with
 | some (k, a), some (k', b) => cond (decide (k = k')) (K (.d (.int k) (cond lo (cond (decide (b < a)) b a) (cond (decide (a < b)) b a)))) .fail
 | _, _ => .fail
omit [Yl] in
theorem dmin {x y : Operand} {env : Env} (hx : env.val x = .int k a) (hy : env.val y = .int k b) :
 qWY (jF P (cop (.call ⟨.builtin .min, #[x, y], ts⟩) ty) env H00) = some (fvv (.int k (if b < a then b else a))) := by
 have h2 : kS env.val (cop (.call ⟨.builtin .min, #[x, y], ts⟩) ty).op.operands.toList = [env.val x, env.val y] := rfl;unfold jF;rw [h2];simp only [cop, execOp, resolve, List.map_toArray, zUB, zWE, hx, hy];rfl
omit [Yl] in
theorem dmax {x y : Operand} {env : Env} (hx : env.val x = .int k a) (hy : env.val y = .int k b) :
 qWY (jF P (cop (.call ⟨.builtin .max, #[x, y], ts⟩) ty) env H00) = some (fvv (.int k (if a < b then b else a))) := by
 have h2 : kS env.val (cop (.call ⟨.builtin .max, #[x, y], ts⟩) ty).op.operands.toList = [env.val x, env.val y] := rfl;unfold jF;rw [h2];simp only [cop, execOp, resolve, List.map_toArray, zUB, zWE, hx, hy];rfl
omit [Yl] in
theorem qUT {p : Prop} [Decidable p] {α : Type} {x y : α} : cond (decide p) x y = if p then x else y := by
 by_cases h : p <;> simp [h]
theorem q42 {lo : Bool} {c : Call} {K : SV -> zHP R} (hl : nQ env c.args = [x, y]) (hc : c.callee = .builtin (cond lo .min .max)) (e : (smm lo x y K).run = some r) :
 ∃ v, vL P (cond lo .min .max) c [x.enc, y.enc] (qB env) ty (qI h.l) = some (v.enc, qI h.l) ∧ v.ok h ∧ (K v).run = some r := by
 unfold smm at e;split at e
 ·rename_i k a k' b ha hb
  cases hk : decide (k = k') with
  | false => rw [hk] at e; cases e
  | true =>
    rw [hk] at e;have : k = k' := by simpa using hk
    subst this;have e1 := xZ ha;have e2 := xZ hb;refine ⟨_, ?_, by simp [SV.ok], e⟩;obtain ⟨cal, args, ts⟩ := c;simp only at hc hl;subst hc;unfold nQ at hl
    have hal : ∃ p q, args = #[p, q] ∧ xQ env p = x ∧ xQ env q = y := by
     obtain ⟨l⟩ := args
     match l, hl with
     | [p, q], hl => simp at hl; exact ⟨p, q, rfl, hl.1, hl.2⟩
    obtain ⟨p, q, rfl, hp, hq⟩ := hal;have vp : (qTJ (qB env)).val p = .int k a := bX P (by rw [qP, hp, e1]; rfl);have vq : (qTJ (qB env)).val q = .int k b := bX P (by rw [qP, hq, e2]; rfl);unfold vL;rw [e1, e2];have hpl : plL [fvv (.int k a), fvv (.int k b)] = some [.int k a, .int k b] := rfl;rw [hpl]
    cases lo with
    | true =>
      simp only [cond_true];rw [dmin vp vq, qUT];simp [pp1, SV.enc, Ty.fv, fvv]
    | false =>
      simp only [cond_false];rw [dmax vp vq, qUT];simp [pp1, SV.enc, Ty.fv, fvv]
 ·cases e
def q58 (P : Program) (ts : Array TypeId) (x : SV) (h : SH) : Option SV := match tN P x.enc (qI h.l) with
 | some _ => none
 | none => zC5 P ts x h
theorem q1K {v : SV} (ho : OkH P h) (hx : x.ok h) (e : q58 P ts x h = some v) : qDX P ts x.enc (qI h.l) = some v.enc ∧ v.ok h := by
 unfold q58 at e;split at e
 ·cases e
 ·rename_i hn;unfold qDX;rw [hn];exact q6Q ho hx e
theorem qS9 {lo hi : Option Operand} {K : SV -> zHP R} (e : (qVY P t s (lo.map (xQ env)) (hi.map (xQ env)) K).run = some r) :
 ∃ v, qOE P (.slice t (.const (.string s)) (lo.map fun a => .const ((pl (qN (qB env) a)).getD undef)) (hi.map fun a => .const ((pl (qN (qB env) a)).getD undef)) none) = some v.enc ∧ v.ok h ∧ (K v).run = some r ∧ (plL ((lo.toList ++ hi.toList).map (qN (qB env)))).isSome = true := by
 obtain ⟨c, e1⟩ := qH e;obtain ⟨b, hb, _, e2⟩ := uP e1;obtain ⟨a, ha, _, e3⟩ := uP e2;have m : ∀ o : Option Operand, (o.map (xQ env)).map SV.enc = o.map (qN (qB env)) := fun o => by cases o <;> simp [qP]
 rw [m] at hb ha;refine ⟨.d .str (s.extract a b), by rw [q4C (qEI c) hb ha]; simp [SV.enc, Ty.fv, fvv], by simp [SV.ok], e3, ?_⟩
 have one : ∀ {o : Option Operand} {d most n : Nat}, bnd d most (o.map (qN (qB env))) = some n -> o = none ∨ ∃ a k i, o = some a ∧ qN (qB env) a = fvv (.int k i) := fun {o d most n} h => by
  rcases qWS h with ⟨q, _⟩ | ⟨k, i, q, _⟩
  ·cases o with
   | none => exact .inl rfl
   | some a => cases q
  ·cases o with
   | none => cases q
   | some a => exact .inr ⟨a, k, i, rfl, by simpa using q⟩
 rcases one hb with rfl | ⟨x, k, i, rfl, hx⟩ <;> rcases one ha with rfl | ⟨y, k', i', rfl, hy⟩ <;> simp_all [plL, fvv, pl]
theorem qR3 {ix : SV} {K : SV -> zHP R} (e : (qL3 P t s ix K).run = some r) :
 ∃ v k i, ix.enc = fvv (.int k i) ∧ qOE P (.index t (.const (.string s)) (.const (.int k i))) = some v.enc ∧ v.ok h ∧ (K v).run = some r := by
 unfold qL3 at e;split at e
 ·rename_i k i hi;obtain ⟨c, e1⟩ := qH e;obtain ⟨b, hb, e2⟩ := run_bind e1;exact ⟨.d (.int .u8) b, k, i, xZ hi, by rw [q33 (qEI c) hb]; simp [SV.enc, Ty.fv, fvv], by simp [SV.ok], e2⟩
 ·cases e
theorem q3D {s d : TypeId} {K : SV -> zHP R} {F : zHP R} (e : (q0K P s d x K F).run = some r) : (∃ v, bH P (fun a => .convert s d a) x.enc = some v.enc ∧ v.ok h ∧ (K v).run = some r) ∨ F.run = some r := by
 unfold q0K at e;split at e
 ·rename_i u k' hs hd;split at e
  ·rename_i k a ha;exact .inl ⟨_, by rw [xZ ha, q69 hs hd]; simp [SV.enc, Ty.fv, fvv], by simp [SV.ok], e⟩
  ·exact .inr e
 ·rename_i u hs hd;split at e
  ·rename_i a ha;exact .inl ⟨_, by rw [bO ha, q2Q hs hd]; simp [SV.enc, Ty.fv, fvv], by simp [SV.ok], e⟩
  ·exact .inr e
 ·exact .inr e
def qJU (env : List SV) (parts : Array (Nat × Operand)) : List (Nat × SV) := parts.toList.map fun p => (p.1, xQ env p.2)
theorem qFQ (env : List SV) (parts : Array (Nat × Operand)) : (parts.toList.map fun p => (p.1, qN (qB env) p.2)) = q9B (qJU env parts) := by
 simp [qJU, q9B, qP]
omit [Yl] in
theorem qK4 {env : List SV} (ho : okL h env) (parts : Array (Nat × Operand)) : ∀ p ∈ qJU env parts, p.2.ok h := fun p hp => by
 obtain ⟨q, _, rfl⟩ := zUN.1 hp;exact qCP ho _
def qVS : Operand -> Operand -> Bool
 | .tmp i, .tmp j => Nat.beq i j
 | .const (.int k a), .const (.int k' b) => decide (k = k') && decide (a = b)
 | _, _ => false
omit [Yl] in
theorem qWJ {a b : Operand} (e : qVS a b = true) : a = b := by
 unfold qVS at e;split at e
 ·rw [zTZ e]
 ·rw [zTY] at e;have h1 := of_decide_eq_true e.1;have h2 := of_decide_eq_true e.2;rw [h1, h2]
 ·cases e
def gv (o : Option SV) (h : SH) (K : SV -> SH -> zHP R) : zHP R := match o with
 | some v => K v h
 | none => .fail
def sop (P : Program) (o : Oper) (env : List SV) (k : Nat) (h : SH) (K : SV -> SH -> zHP R) : zHP R := match o.op with
 | .move x => K (xQ env x) h
 | .assign x => K (xQ env x) h
 | .pick c a b => (match asB (xQ env c) with
   | some t => .ite t (K (xQ env a) h) (K (xQ env b) h)
   | none => .fail)
 | .alloc el => qZJ P el k h K
 | .box el x => zFP P el (xQ env x) k h K
 | .build t parts => gv (qXO P t (qJU env parts)) h K
 | .buildSlice t len parts => mZ P t len (qJU env parts) k h K
 | .load t a => q8S P t (xQ env a) h fun v => K v h
 | .store t a x => qW5 P t (xQ env a) (xQ env x) h K
 | .binOp op t x y t2 => zDT P op t t2 o.type (xQ env x) (xQ env y) h fun v => K v h
 | .unOp op t x => sun P op t o.type (xQ env x) fun v => K v h
 | .convert s d x => cond (qTO (xQ env x).enc) .fail (q0K P s d (xQ env x) (fun v => K v h) (qVA P (fun a => .convert s d a) o.type (xQ env x) fun v => K v h))
 | .makeFunc fn first cap => gv (qC1 fn (nQ env first) (nQ env cap)) h K
 | .makeSlice t l c => cond (qVS l c) (q8L P t (xQ env l) k h K) .fail
 | .slice t x lo hi none => (match asS (xQ env x) with
   | some s => qVY P t s (lo.map (xQ env)) (hi.map (xQ env)) fun v => K v h
   | none => qXF P t (xQ env x) (lo.map (xQ env)) (hi.map (xQ env)) h fun v => K v h)
 | .fieldAddr t x i => gv (rR P t (xQ env x) i h) h K
 | .indexAddr t x ix => sN P t (xQ env x) (xQ env ix) h fun v => K v h
 | .index t x ix => (match asS (xQ env x) with
   | some s => qL3 P t s (xQ env ix) fun v => K v h
   | none => qWH P t (xQ env x) (xQ env ix) fun v => K v h)
 | .extract t i => gv (qG4 (xQ env t) i) h K
 | .makeMap _ none => qQF P k h K
 | .lookup t m kx ok => qNM P t (xQ env m) (xQ env kx) ok h fun v => K v h
 | .insert t m kx x => rH P t (xQ env m) (xQ env kx) (xQ env x) h K
 | .mapEntry t m kx => qDH P t (xQ env m) (xQ env kx) h K
 | .entryStore _ m st x => mV P (xQ env m) (xQ env st) (xQ env x) h K
 | .range t x => qNN P t (xQ env x) k h K
 | .call c => (match c.callee, nQ env c.args with
   | .builtin .append, [x, y] => qOO P c.argTypes.toList x y k h K
   | .builtin .len, [x] => cond (q0E P c.argTypes) (match asS x with
     | some s => K (.d (.int .i64) (s.size : Int)) h
     | none => .fail) (match q6I P c.argTypes x h with
     | some v => K v h
     | none => gv (q58 P c.argTypes x h) h K)
   | .builtin .min, [x, y] => smm true x y fun v => K v h
   | .builtin .max, [x, y] => smm false x y fun v => K v h
   | _, _ => .fail)
 | _ => .fail
omit [Yl] in
theorem qUI {o : Option SV} {K : SV -> SH -> zHP R} (e : (gv o h K).run = some r) : ∃ v, o = some v ∧ (K v h).run = some r := by
 unfold gv at e;split at e
 ·exact ⟨_, rfl, e⟩
 ·cases e
theorem q4R {k : Nat} {K : SV -> SH -> zHP R} (ho : OkH P h) (he : okL h env) (e : (sop P o env k h K).run = some r) :
 ∃ v h', qDS P o (qB env) k (qI h.l) = some (v.enc, qI h'.l) ∧ Post P h h' v ∧ (K v h').run = some r := by
 have same : ∀ {v : SV}, v.ok h -> Post P h h v := fun hv => ⟨.refl _, ho, hv⟩
 have sv := fun x => qCP (h := h) he x
 unfold sop at e;unfold qDS;split at e
 ·rename_i x ho';exact ⟨_, _, by simp only [ho', qP], same (sv x), e⟩
 ·rename_i x ho';exact ⟨_, _, by simp only [ho', qP], same (sv x), e⟩
 ·rename_i c a b ho';split at e
  ·rename_i t ht;have h1 := rC ht
   rcases run_ite e with ⟨z, e1⟩ | ⟨z, e1⟩
   ·exact ⟨_, _, by simp only [ho', qP, h1, fvv, z, cond_true], same (sv a), e1⟩
   ·exact ⟨_, _, by simp only [ho', qP, h1, fvv, z, cond_false], same (sv b), e1⟩
  ·cases e
 ·rename_i el ho';rw [ho'];exact qWM ho e
 ·rename_i el x ho';rw [ho'];simp only [qP];exact q8D ho (sv x) e
 ·rename_i t parts ho';rw [ho'];obtain ⟨v, h1, h2⟩ := qUI e;have h3 := qYK (qK4 he parts) h1;exact ⟨v, h, by simp only [qFQ, h3.1, pp1], same h3.2, h2⟩
 ·rename_i t len parts ho';rw [ho'];simp only [qFQ];exact qDT ho (qK4 he parts) e
 ·rename_i t a ho';rw [ho'];obtain ⟨v, h1, h2, h3⟩ := q1N ho (sv a) e;exact ⟨v, h, by simp only [qP, h1, pp1], same h2, h3⟩
 ·rename_i t a x ho';rw [ho'];obtain ⟨h', h1, h2, h3, h4⟩ := qX1 ho (sv a) (sv x) e;exact ⟨_, h', by simp only [qP, h1, ppS]; simp [SV.enc, qB], ⟨h2, h3, by simp [SV.ok, okL]⟩, h4⟩
 ·rename_i op t x y t2 ho';rw [ho'];obtain ⟨v, h1, h2, h3⟩ := q80 ho (sv x) e;exact ⟨v, h, by simp only [qP, h1, pp1], same h2, h3⟩
 ·rename_i op t x ho';rw [ho'];obtain ⟨v, h1, h2, h3⟩ := zBH (h := h) e;exact ⟨v, h, by simp only [qP, h1, pp1], same h2, h3⟩
 ·rename_i s d x ho';rw [ho']
  cases hp : qTO (xQ env x).enc with
  | true => rw [hp] at e; cases e
  | false =>
    rw [hp] at e;have e1 : (q0K P s d (xQ env x) (fun v => K v h) (qVA P (fun a => .convert s d a) o.type (xQ env x) fun v => K v h)).run = some r := e;rcases q3D (h := h) e1 with ⟨v, h1, h2, h3⟩ | e1
    ·exact ⟨v, h, by simp only [qP, hp, cond_false, h1, pp1], same h2, h3⟩
    ·obtain ⟨v, h1, h2, h3, _⟩ := qPG (h := h) e1;exact ⟨v, h, by simp only [qP, hp, cond_false, h1, pp1], same h2, h3⟩
 ·rename_i fn first cap ho'
  rw [ho'];obtain ⟨v, h1, h2⟩ := qUI e;have h3 := qIX (pO he first) (pO he cap) h1;exact ⟨v, h, by simp only [oF, h3.1, pp1], same h3.2, h2⟩
 ·rename_i t l c ho';rw [ho'];obtain ⟨h1, h2⟩ := qH e;have := qWJ h1;subst this;simp only [qP];exact q3V ho h2
 ·rename_i t x lo hi ho';rw [ho'];split at e
  ·rename_i s hs;obtain ⟨v, h1, h2, h3, h4⟩ := qS9 (h := h) e;obtain ⟨vs, hvs⟩ := zVD.1 h4;refine ⟨v, h, ?_, same h2, h3⟩;have hx : qN (qB env) x = .f (.v (.string s)) := by rw [qP]; exact bO hs
   simp only [hx, hvs, h1, pp1]
  obtain ⟨v, h1, h2, h3⟩ := qW0 ho (sv x) e;refine ⟨v, h, ?_, same h2, h3⟩;have m : ∀ o : Option Operand, o.map (qN (qB env)) = (o.map (xQ env)).map SV.enc := fun o => by cases o <;> simp [qP]
  simp only [qP, m]
  have ns : ∀ s, (xQ env x).enc ≠ .f (.v (.string s)) := fun s hs => by
   rw [hs] at h1;simp only [uL] at h1;cases h1
  split
  ·rename_i s hs; exact absurd hs (ns s)
  ·rw [h1]; rfl
 ·rename_i t x i ho';rw [ho'];obtain ⟨v, h1, h2⟩ := qUI e;have h3 := qG6 (sv x) h1;exact ⟨v, h, by simp only [qP, h3.1, pp1], same h3.2, h2⟩
 ·rename_i t x ix ho';rw [ho'];obtain ⟨v, h1, h2, h3⟩ := qH3 ho (sv x) e;exact ⟨v, h, by simp only [qP, h1, pp1], same h2, h3⟩
 ·rename_i t x ix ho';rw [ho'];split at e
  ·rename_i s hs;obtain ⟨v, k', i, h0, h1, h2, h3⟩ := qR3 (h := h) e;refine ⟨v, h, ?_, same h2, h3⟩;have hx := bO hs;have hpl : pl (fvv (.int k' i)) = some (.int k' i) := rfl;simp only [qP, hx, h0, hpl];simp only [fvv, h1, pp1]
  obtain ⟨v, h1, h2, h3, l, hl⟩ := qZO (sv x) e;refine ⟨v, h, ?_, same h2, h3⟩;simp only [qP];rw [hl] at h1 ⊢;simp only [SV.enc] at h1 ⊢;rw [h1];rfl
 ·rename_i t i ho';rw [ho'];obtain ⟨v, h1, h2⟩ := qUI e;have h3 := qNI (sv t) h1;exact ⟨v, h, by simp only [qP, h3.1, pp1], same h3.2, h2⟩
 ·rename_i ho';rw [ho'];exact qMM ho e
 ·rename_i t m kx ok ho';rw [ho'];obtain ⟨v, h1, h2, h3⟩ := qR8 e;exact ⟨v, h, by simp only [qP, h1, pp1], same h2, h3⟩
 ·rename_i t m kx x ho';rw [ho'];obtain ⟨h', h1, h2, h3, h4⟩ := qIP ho e;exact ⟨_, h', by simp only [qP, h1, ppS]; simp [SV.enc, qB], ⟨h2, h3, by simp [SV.ok, okL]⟩, h4⟩
 ·rename_i t m kx ho';rw [ho'];simp only [qP];exact qKT ho e
 ·rename_i t m st x ho';rw [ho'];obtain ⟨h', h1, h2, h3, h4⟩ := qD3 ho e;exact ⟨_, h', by simp only [qP, h1, ppS]; simp [SV.enc, qB], ⟨h2, h3, by simp [SV.ok, okL]⟩, h4⟩
 ·rename_i t x ho';rw [ho'];simp only [qP];exact qSQ ho e
 ·rename_i c ho';rw [ho'];have ha := oF env c.args;have hao := pO he c.args;split at e
  ·rename_i x y hc hl;rw [hl] at ha hao;simp only [okL] at hao;simp only [hc, ha, qB, gL];exact qS6 ho hao.1 hao.2.1 e
  ·rename_i x hc hl;rw [hl] at ha hao;simp only [okL] at hao
   cases hst : q0E P c.argTypes with
   | true =>
     rw [hst] at e;simp only [cond_true] at e;split at e
     ·rename_i s hs;refine ⟨_, h, ?_, same (by simp [SV.ok]), e⟩;obtain ⟨cal, args, ts⟩ := c;simp only at hc hl hst;subst hc
      obtain ⟨p, rfl, hp⟩ : ∃ p, args = #[p] ∧ xQ env p = x := by
       unfold nQ at hl;obtain ⟨l⟩ := args
       match l, hl with
       | [p], hl => simp at hl; exact ⟨p, rfl, hl⟩
      have vp : (qTJ (qB env)).val p = .string s := bX P (by rw [qP, hp, bO hs]; rfl);simp only [gL, ha, qB, hst, cond_true];unfold vL;have hpl : plL [x.enc] = some [.string s] := by rw [bO hs]; rfl
      rw [hpl];simp only;rw [qPJ hst vp];simp [pp1, SV.enc, Ty.fv, fvv]
     ·cases e
   | false =>
     rw [hst] at e;simp only [cond_false] at e;split at e
     ·rename_i v hv;have h3 := q1Q hv;refine ⟨v, h, ?_, same h3.2, e⟩;simp only [hc, ha, qB, gL, hst, cond_false, h3.1, pp1]
     obtain ⟨v, h1, h2⟩ := qUI e;have h3 := q1K ho hao.1 h1;refine ⟨v, h, ?_, same h3.2, h2⟩;simp only [hc, ha, qB, gL, hst, cond_false, h3.1, pp1]
  ·rename_i x y hc hl;rw [hl] at ha;obtain ⟨v, h1, h2, h3⟩ := q42 (h := h) (lo := true) (ty := o.type) hl hc e;exact ⟨v, h, by simp only [hc, ha, qB, gL]; exact h1, same h2, h3⟩
  ·rename_i x y hc hl;rw [hl] at ha;obtain ⟨v, h1, h2, h3⟩ := q42 (h := h) (lo := false) (ty := o.type) hl hc e;exact ⟨v, h, by simp only [hc, ha, qB, gL]; exact h1, same h2, h3⟩
  ·cases e
 ·cases e
def zFC (P : Program) (o : Oper) (env : List SV) (k : Nat) (h : SH) (K : SV -> SH -> zHP R) : zHP R := match o.op with
 | .entry it => qZ8 P (xQ env it) h K
 | _ => sop P o env k h K
theorem q65 {k : Nat} {K : SV -> SH -> zHP R} (ho : OkH P h) (he : okL h env) (e : (zFC P o env k h K).run = some r) :
 ∃ v h', q27 P o (qB env) k (qI h.l) = some (v.enc, qI h'.l) ∧ Post P h h' v ∧ (K v h').run = some r := by
 unfold zFC at e;split at e
 ·rename_i it ho';obtain ⟨v, h1, h2, h3⟩ := qVV ho e;refine ⟨v, h, ?_, ⟨.refl _, ho, h2⟩, h3⟩;unfold q27;rw [ho'];simp only [qP, h1, pp1]
 ·obtain ⟨v, h', h1, h2, h3⟩ := q4R ho he e;exact ⟨v, h', qZI h1, h2, h3⟩
end
end Go.Sv
namespace Go.Sv
open Go.Idl
variable {as : List SV} {el ty : TypeId} {g : FuncId} {h' : SH} {k m n o : Nat} {v : SV}
noncomputable section
variable [Gc]
variable [Yl]
variable {P : Program} {h : SH} {R : Type} {r : R} {tab : gY}
omit [Yl] in
theorem qHD : ∀ (cs : List FV) (ph : PHp) (n : Nat), qIQ (fz1 P n) (cs.map .f) ph = some (cs, ph)
 | [], ph, n => rfl
 | c :: cs, ph, n => by
   have e : fz1 P n ph (.f c) = some (c, ph) := by cases n <;> rfl
   show (match fz1 P n ph (.f c) with
    | some (y, ph1) => (match qIQ (fz1 P n) (cs.map .f) ph1 with
      | some (ys, ph2) => some (y :: ys, ph2)
      | none => none)
    | none => none) = _
   rw [e];simp only [qHD cs ph n]
theorem q6U {gr : Bool} {g w : Nat} {t : Ty} {xs : List t.sem} (ho : OkH P h) (hk : slk k h.l = some (.list el gr g w t xs)) (hn : n = xs.length) (hom : o + m <= n) :
 fz1 P 4 (qI h.l) (.own k n o m) = some (.l el m (((xs.drop o).take m).flatMap t.cells), qI (h.del k).l) := by
 have hl := ho.list _ _ _ _ _ _ _ hk;simp only [fz1, yL hk];rw [show (SO.list el gr g w t xs).enc.el = el from rfl, hl.2.1];simp only [zA, hn, nP, cond_true];rw [show (SO.list el gr g w t xs).enc.cs = (xs.flatMap t.cells).map .f from rfl, <- zWO, <- zWP, bL, nO, qHD];show some _ = some (_, qI (sdl k h.l));rw [nL]
def zCZ (el : TypeId) (t : Ty) (k g : Nat) (f : List t.sem -> List t.sem) (h : SH) : Option (List t.sem × SH) := match slk k h.l with
 | some (.list el' _ g' _ u xs) => cond (Nat.beq el' el && Nat.beq g g') (match qHE u t xs with
   | some xs => some (f xs, h.del k)
   | none => none) none
 | _ => none
def zF0 (P : Program) (ty el : TypeId) (t : Ty) (h : SH) : Option (List t.sem × SH) := match xD P ty with
 | some el' => cond (Nat.beq el' el) (some ([], h)) none
 | none => none
def q2C (P : Program) (ty : TypeId) : (t : Ty) -> SV -> SH -> Option (t.sem × SH)
 | .list el t, .own k g _, h => zCZ el t k g (fun xs => xs) h
 | .list el t, .sl k g _ o m, h => zCZ el t k g (fun xs => (xs.drop o).take m) h
 | .list el t, .c (.slice none 0 0), h => zF0 P ty el t h
 | t, v, h => match t.zL8 v with
   | some x => some (x, h)
   | none => none
omit [Yl] in
theorem qKP : ∀ {t : Ty} {x : t.sem}, t.one = true -> rt0 P ty (.f (t.fv x)) = .f (t.fv x)
 | .int _, _, _ => rfl
 | .bool, _, _ => rfl
 | .str, _, _ => rfl
 | .raw, _, _ => rfl
 | .list _ _, _, _ => rfl
 | .unit, _, e => by cases e
 | .pair _ _, _, e => by cases e
theorem qVM {ty : TypeId} {t : Ty} {g : Nat} {f : List t.sem -> List t.sem} {x : List t.sem} (ho : OkH P h) (hs : q1T h k g n) (hom : o + m <= n) (hf : ∀ xs : List t.sem, xs.length = n -> f xs = (xs.drop o).take m) (e : zCZ el t k g f h = some (x, h')) :
 fz1 P 4 (qI h.l) (.own k n o m) = some ((Ty.list el t).fv x, qI h'.l) ∧ Keep h h' ∧ OkH P h' := by
 unfold zCZ at e;split at e
 ·rename_i el' gr g' w u xs hk
  cases hc : (Nat.beq el' el && Nat.beq g g') with
  | false => rw [hc] at e; cases e
  | true =>
    rw [hc] at e;rw [zTY] at hc;have he : el' = el := zTZ hc.1;have hg : g = g' := zTZ hc.2;subst he hg;simp only [cond_true] at e;split at e
    ·rename_i ys hys;cases nK hys;cases e;have hn := hs.2 _ _ _ _ _ hk;have hd := sH (k := k) ho;refine ⟨?_, hd.1, hd.2⟩;rw [q6U ho hk hn hom, hf _ hn.symm];show some (FV.l el' m _, _) = some (FV.l el' _ _, _);rw [zU1, zWT, zW8 (by omega)]
    ·cases e
 ·cases e
theorem qPF {t : Ty} {x : t.sem} (ho : OkH P h) (hv : v.ok h) (e : q2C P ty t v h = some (x, h')) :
 ∃ y, fz1 P 4 (qI h.l) v.enc = some (y, qI h'.l) ∧ rt0 P ty (.f y) = .f (t.fv x) ∧ t.one = true ∧ Keep h h' ∧ OkH P h' := by
 unfold q2C at e;split at e
 ·rename_i el t k g n;simp only [SV.ok] at hv;obtain ⟨h1, h2, h3⟩ := qVM (ty := ty) (n := n) (o := 0) (m := n) ho hv (by omega) (fun xs hl => by rw [zVU, <- hl, zU8]) e;exact ⟨_, by simp only [SV.enc]; exact h1, qKP rfl, rfl, h2, h3⟩
 ·rename_i el t k g n o m;simp only [SV.ok] at hv;obtain ⟨h1, h2, h3⟩ := qVM (ty := ty) (n := n) (o := o) (m := m) ho hv.1 hv.2 (fun xs hl => rfl) e;exact ⟨_, by simp only [SV.enc]; exact h1, qKP rfl, rfl, h2, h3⟩
 ·rename_i el t;unfold zF0 at e;split at e
  ·rename_i el' hel
   cases hc : Nat.beq el' el with
   | false => rw [hc] at e; cases e
   | true =>
     rw [hc] at e;cases e;have he : el' = el := zTZ hc;subst he;refine ⟨.v (.slice none 0 0), by simp only [SV.enc, fvv, fz1], ?_, rfl, .refl _, ho⟩
     show (match xD P ty with
      | some el => PV.f (.l el 0 [])
      | none => fvv (.slice none 0 0)) = _
     rw [hel];rfl
  ·cases e
 ·split at e
  ·rename_i y hy;cases e;obtain ⟨h1, h2⟩ := qHY hy;exact ⟨_, by rw [h1]; rfl, qKP h2, h2, .refl _, ho⟩
  ·cases e
def qMO (P : Program) (t : Ty) (tys : List TypeId) (l : List SV) (h : SH) : Option (t.sem × List TypeId × List SV × SH) := match tys, l with
 | ty :: tys, v :: l => (match q2C P ty t v h with
   | some (x, h') => some (x, tys, l, h')
   | none => none)
 | _, _ => none
def Ty.zKV (P : Program) : (t : Ty) -> List TypeId -> List SV -> SH -> Option (t.sem × List TypeId × List SV × SH)
 | .unit, tys, l, h => some ((), tys, l, h)
 | .pair a b, tys, l, h => match a.zKV P tys l h with
   | some (x, zMA, l1, h1) => (match b.zKV P zMA l1 h1 with
     | some (y, zPV, l2, h2) => some ((x, y), zPV, l2, h2)
     | none => none)
   | none => none
 | .int k, tys, l, h => qMO P (.int k) tys l h
 | .bool, tys, l, h => qMO P .bool tys l h
 | .str, tys, l, h => qMO P .str tys l h
 | .raw, tys, l, h => qMO P .raw tys l h
 | .list el t, tys, l, h => qMO P (.list el t) tys l h
def zFK (P : Program) (t : Ty) (tys : List TypeId) (l : List SV) (h : SH) (x : t.sem) (zI4 : List TypeId) (l' : List SV) (h' : SH) : Prop :=
 okL h' l' ∧ Keep h h' ∧ OkH P h' ∧ ∃ ys : List FV, (∀ zs p, qIQ (fz1 P 4) (qB l') (qI h'.l) = some (zs, p) -> qIQ (fz1 P 4) (qB l) (qI h.l) = some (ys ++ zs, p)) ∧
  ∀ zs : List PV, rtL (rt0 P) tys (ys.map .f ++ zs) = (t.cells x).map .f ++ rtL (rt0 P) zI4 zs
theorem nY {t : Ty} {tys zI4 : List TypeId} {l l' : List SV} {x : t.sem} (ho : OkH P h) (hl : okL h l) (e : qMO P t tys l h = some (x, zI4, l', h')) : zFK P t tys l h x zI4 l' h' := by
 unfold qMO at e;split at e
 ·rename_i ty tys v l;split at e
  ·rename_i y h1 hd;cases e;simp only [okL] at hl;obtain ⟨y, a1, a2, a3, a4, a5⟩ := qPF ho hl.1 hd;refine ⟨qL a4 hl.2, a4, a5, [y], fun zs p hz => ?_, fun zs => ?_⟩
   ·simp only [qB, qIQ, a1, hz]; rfl
   ·show rt0 P ty (.f y) :: rtL (rt0 P) _ zs = _;rw [a2, Ty.cells_one a3]; rfl
  ·cases e
 ·cases e
theorem qF8 : ∀ {t : Ty} {tys zI4 : List TypeId} {l l' : List SV} {h : SH} {x : t.sem} {h' : SH}, OkH P h -> okL h l -> t.zKV P tys l h = some (x, zI4, l', h') -> zFK P t tys l h x zI4 l' h'
 | .unit, tys, zI4, l, l', h, x, h', ho, hl, e => by
   cases e;exact ⟨hl, .refl _, ho, [], fun zs p hz => hz, fun zs => rfl⟩
 | .int k, tys, zI4, l, l', h, x, h', ho, hl, e => nY ho hl e
 | .bool, tys, zI4, l, l', h, x, h', ho, hl, e => nY ho hl e
 | .str, tys, zI4, l, l', h, x, h', ho, hl, e => nY ho hl e
 | .raw, tys, zI4, l, l', h, x, h', ho, hl, e => nY ho hl e
 | .list el t, tys, zI4, l, l', h, x, h', ho, hl, e => nY ho hl e
 | .pair a b, tys, zI4, l, l', h, x, h', ho, hl, e => by
   unfold Ty.zKV at e;split at e
   ·rename_i x1 zMA l1 h1 hd1;split at e
    ·rename_i y zPV l2 h2 hd2;cases e;obtain ⟨a1, a2, a3, ys, a4, a5⟩ := qF8 ho hl hd1;obtain ⟨b1, b2, b3, zs, b4, b5⟩ := qF8 a3 a1 hd2;refine ⟨b1, a2.trans b2, b3, ys ++ zs, fun us p hu => ?_, fun us => ?_⟩
     ·rw [zUZ];exact a4 _ _ (b4 _ _ hu)
     ·rw [zUR, zUZ, a5, b5];show _ = (a.cells x1 ++ b.cells y).map PV.f ++ _;rw [zUR, zUZ]
    ·cases e
   ·cases e
def q8X (P : Program) (ty : TypeId) (t : Ty) (v : SV) (h : SH) : Option (t.sem × SH) := cond t.one (match v with
 | .agg _ => none
 | v => q2C P ty t v h) (match v with
 | .agg l => (match t.zKV P (tX P 8 ty) l h with
   | some (x, _, [], h') => some (x, h')
   | _ => none)
 | _ => none)
theorem qCZ {t : Ty} {x : t.sem} (ho : OkH P h) (hv : v.ok h) (e : q8X P ty t v h = some (x, h')) :
 ∃ y, fzP P (qI h.l) v.enc = some (y, qI h'.l) ∧ rt1 P ty y = t.pv x ∧ Keep h h' ∧ OkH P h' := by
 unfold q8X at e
 cases ht : t.one with
 | true =>
   rw [ht] at e;simp only [cond_true] at e;split at e
   ·cases e
   ·rename_i hna;obtain ⟨y, h1, h2, h3, h4, h5⟩ := qPF ho hv e;refine ⟨.f y, ?_, ?_, h4, h5⟩
    ·cases v with
     | agg l => exact absurd rfl (hna l)
     | opt b k o w => cases b <;> (simp only [SV.enc, fvv, fzP, cond_true, cond_false] at h1 ⊢; rw [h1])
     | _ => simp only [SV.enc, fvv, fzP] at h1 ⊢; rw [h1]
    ·show rt0 P ty (.f y) = _;rw [h2];unfold Ty.pv;rw [ht]; rfl
 | false =>
   rw [ht] at e;simp only [cond_false] at e;split at e
   ·rename_i l;split at e
    ·rename_i x1 zMA h1 hd;cases e;simp only [SV.ok] at hv;obtain ⟨a1, a2, a3, ys, a4, a5⟩ := qF8 ho hv hd;refine ⟨.agg (ys.map .f), ?_, ?_, a2, a3⟩
     ·have := a4 [] (qI h'.l) (by simp [qB, qIQ]);simp only [SV.enc, fzP, this, zVL]
     ·show PV.agg (rtL (rt0 P) (tX P 8 ty) (ys.map .f)) = _;have := a5 [];rw [zVL] at this;rw [this];unfold Ty.pv;rw [ht];cases zMA <;> simp [rtL]
    ·cases e
   ·cases e
def vJ (P : Program) : List TypeId -> (ts : List Ty) -> List SV -> SH -> Option (TyL ts × SH)
 | _, [], [], h => some ((), h)
 | ty :: _, [t], [v], h => q8X P ty t v h
 | ty :: tys, t :: u :: ts, v :: vs, h => match q8X P ty t v h with
   | some (x, h1) => (match vJ P tys (u :: ts) vs h1 with
     | some (y, h2) => some ((x, y), h2)
     | none => none)
   | none => none
 | _, _, _, _ => none
theorem dR : ∀ {tys : List TypeId} {ts : List Ty} {vs : List SV} {h : SH} {x : TyL ts} {h' : SH}, OkH P h -> okL h vs -> vJ P tys ts vs h = some (x, h') ->
 ∃ ys, fzA P (qB vs) (qI h.l) = some (ys, qI h'.l) ∧ rtL (rt1 P) tys ys = pvL ts x ∧ Keep h h' ∧ OkH P h'
 | tys, [], [], h, x, h', ho, hv, e => by
   unfold vJ at e;cases e;refine ⟨[], rfl, ?_, .refl _, ho⟩;cases tys <;> rfl
 | ty :: tys, [t], [v], h, x, h', ho, hv, e => by
   unfold vJ at e;simp only [okL] at hv;obtain ⟨y, h1, h2, h3, h4⟩ := qCZ ho hv.1 e;refine ⟨[y], ?_, ?_, h3, h4⟩
   ·simp only [qB, fzA, h1]
   ·show rt1 P ty y :: rtL (rt1 P) tys [] = [t.pv x];rw [h2];cases tys <;> rfl
 | ty :: tys, t :: u :: ts, v :: vs, h, x, h', ho, hv, e => by
   unfold vJ at e;simp only [okL] at hv;split at e
   ·rename_i x1 h1 hd;split at e
    ·rename_i y1 h2 hd2;cases e;obtain ⟨y, a1, a2, a3, a4⟩ := qCZ ho hv.1 hd;obtain ⟨ys, b1, b2, b3, b4⟩ := dR a4 (qL a3 hv.2) hd2;refine ⟨y :: ys, ?_, ?_, a3.trans b3, b4⟩
     ·simp only [qB, fzA, a1, b1]
     ·show rt1 P ty y :: rtL (rt1 P) tys ys = t.pv x1 :: pvL (u :: ts) y1;rw [a2, b2]
    ·cases e
   ·cases e
 | [], [_], [_], _, _, _, _, _, e => by unfold vJ at e; cases e
 | [], _ :: _ :: _, _ :: _, _, _, _, _, _, e => by unfold vJ at e; cases e
 | tys, [], _ :: _, _, _, _, _, _, e => by cases tys <;> (unfold vJ at e; cases e)
 | tys, _ :: ts, [], _, _, _, _, _, e => by cases tys <;> cases ts <;> (unfold vJ at e; cases e)
 | tys, [_], _ :: _ :: _, _, _, _, _, _, e => by cases tys <;> (unfold vJ at e; cases e)
def Ty.sv (t : Ty) (x : t.sem) : SV := cond t.one (.d t x) (.agg (t.svs x))
theorem oW (t : Ty) (x : t.sem) : (t.sv x).enc = t.pv x := by
 unfold Ty.sv Ty.pv;cases t.one <;> simp [SV.enc, bG]
omit [Yl] in
theorem qLT (t : Ty) (x : t.sem) : (t.sv x).ok h := by
 unfold Ty.sv;cases t.one
 ·simp only [cond_false, SV.ok]; exact qI1 t x
 ·simp [SV.ok]
def svL : (ts : List Ty) -> TyL ts -> List SV
 | [], _ => []
 | [t], x => [t.sv x]
 | t :: u :: ts, x => t.sv x.1 :: svL (u :: ts) x.2
theorem qOP : ∀ (ts : List Ty) (x : TyL ts), qB (svL ts x) = pvL ts x
 | [], _ => by simp [svL, pvL, qB]
 | [t], x => by simp [svL, pvL, qB, oW]
 | t :: u :: ts, x => by
   show qB (t.sv x.1 :: svL (u :: ts) x.2) = t.pv x.1 :: pvL (u :: ts) x.2;simp only [qB, oW, qOP (u :: ts)]
omit [Yl] in
theorem qEZ : ∀ (ts : List Ty) (x : TyL ts), okL h (svL ts x)
 | [], _ => by simp [svL, okL]
 | [t], x => by simp [svL, okL, qLT]
 | t :: u :: ts, x => by
   show okL h (t.sv x.1 :: svL (u :: ts) x.2);simp only [okL];exact ⟨qLT t x.1, qEZ (u :: ts) x.2⟩
def qLX (ts : List Ty) (x : TyL ts) : SV := match svL ts x with
 | [v] => v
 | vs => .tup vs
theorem qJM (ts : List Ty) (x : TyL ts) : (qLX ts x).enc = wH ts x := by
 unfold qLX wH;rw [<- qOP]
 match svL ts x with
 | [] => simp [qB, qD4, SV.enc]
 | [v] => simp [qB, qD4]
 | a :: b :: l => simp [qB, qD4, SV.enc]
omit [Yl] in
theorem qOY (ts : List Ty) (x : TyL ts) : (qLX ts x).ok h := by
 unfold qLX;have := qEZ (h := h) ts x;split
 ·rename_i v hv;rw [hv] at this;simp only [okL] at this;exact this.1
 ·simp only [SV.ok]; exact this
def qY6 (tab : gY) (T : zU) : Prop := ∀ g ent, slT g T = some ent -> ∀ x, tab g (pvL ent.as x) = (ent.F x).map (wH ent.rs)
def qS7 (P : Program) (T : zU) (d : Bool) (g : FuncId) (as : List SV) (h : SH) (K : SV -> SH -> zHP R) : zHP R := match slT g T, P.funcs[g]? with
 | some ent, some fn => (match vJ P fn.params.toList ent.as as h with
   | some (x, h1) => .bind (ent.F x) fun y => cond d (cond (vZ (wH ent.rs y) || (qB as).all qT1) (K (qLX ent.rs y) h) .fail) (K (qLX ent.rs y) (cond (vZ (wH ent.rs y)) h h1))
   | none => .fail)
 | _, _ => .fail
theorem q1Y {T : zU} (ht : qY6 tab T) {K : SV -> SH -> zHP R} (ho : OkH P h) (ha : okL h as) (e : (qS7 P T false g as h K).run = some r) :
 ∃ v h', aK P tab g (qB as) (qI h.l) = .ok v.enc (qI h'.l) ∧ Post P h h' v ∧ (K v h').run = some r := by
 unfold qS7 at e;split at e
 ·rename_i ent fn hent hfn;split at e
  ·rename_i x h1 hx;obtain ⟨y, hy, e1⟩ := run_bind e;obtain ⟨ys, a1, a2, a3, a4⟩ := dR ho ha hx;have e2 : (K (qLX ent.rs y) (cond (vZ (wH ent.rs y)) h h1)).run = some r := e1;refine ⟨_, _, ?_, ⟨?_, ?_, qOY _ _⟩, e2⟩
   ·unfold aK;rw [a1];simp only;rw [show rtA P g ys = pvL ent.as x by unfold rtA; rw [hfn]; exact a2, ht g ent hent x, hy];simp only [zT7, qJM];cases vZ (wH ent.rs y) <;> rfl
   ·cases vZ (wH ent.rs y)
    ·exact a3
    ·exact .refl _
   ·cases vZ (wH ent.rs y)
    ·exact a4
    ·exact ho
  ·cases e
 ·cases e
theorem qUN {T : zU} (ht : qY6 tab T) {K : SV -> SH -> zHP R} (ho : OkH P h) (ha : okL h as) (e : (qS7 P T true g as h K).run = some r) :
 ∃ v h', qBZ P tab g (qB as) (qI h.l) = .ok v.enc (qI h'.l) ∧ Post P h h' v ∧ (K v h').run = some r := by
 unfold qS7 at e;split at e
 ·rename_i ent fn hent hfn;split at e
  ·rename_i x h1 hx;obtain ⟨y, hy, e1⟩ := run_bind e;obtain ⟨ys, a1, a2, a3, a4⟩ := dR ho ha hx;obtain ⟨c, e2⟩ := qH (show (cond (vZ (wH ent.rs y) || (qB as).all qT1) (K (qLX ent.rs y) h) .fail : zHP R).run = some r from e1);refine ⟨_, _, ?_, ⟨.refl _, ho, qOY _ _⟩, e2⟩;unfold qBZ;rw [a1];simp only;rw [show rtA P g ys = pvL ent.as x by unfold rtA; rw [hfn]; exact a2, ht g ent hent x, hy];simp only [zT7, qJM, c, cond_true]
  ·cases e
 ·cases e
def qGW (fv : SV) (args : List SV) : Option (FuncId × List SV) := match fv with
 | .c (.func (.func g) a c) => cond (a.toList.isEmpty && c.toList.isEmpty) (some (g, args)) none
 | .fn g first cap => some (g, first ++ (args ++ cap))
 | _ => none
theorem qFO {fv : SV} {args : List SV} (hf : fv.ok h) (ha : okL h args) (e : qGW fv args = some (g, as)) : target fv.enc (qB args) = some (g, qB as) ∧ okL h as := by
 unfold qGW at e;split at e
 ·rename_i g' a c
  cases hc : (a.toList.isEmpty && c.toList.isEmpty) with
  | false => rw [hc] at e; cases e
  | true =>
    rw [hc] at e;cases e;exact ⟨by simp only [target, SV.enc, fvv, hc, cond_true], ha⟩
 ·rename_i g' first cap
  cases e;simp only [SV.ok] at hf;exact ⟨by simp only [target, SV.enc, qAU], nA hf.1 (nA ha hf.2)⟩
 ·cases e
def q4P (P : Program) (T : zU) (d : Bool) (f : SV) (args : List SV) (h : SH) (K : SV -> SH -> zHP R) : zHP R := match qGW f args with
 | some (g, as) => qS7 P T d g as h K
 | none => .fail
def q60 (P : Program) (T : zU) (d : Bool) (k : Nat) (o : Oper) (env : List SV) (h : SH) (K : SV -> SH -> zHP R) : zHP R := match o.op with
 | .call ⟨.value f, args, _⟩ => q4P P T d (xQ env f) (nQ env args) h K
 | _ => sop P o env k h K
def q72 (P : Program) (G : Nat -> Bool) (CI : CIT) : Prop := ∀ {R : Type} (nm : Nm) (f : FuncId) (as : List SV) (h : SH) (K : SV -> SH -> zHP R) (r : R), OkH P h -> okL h as -> (CI R nm f as h K).run = some r ->
 qZC P G nm f (qB as) (qI h.l) fun v p => ∃ v' h', v = v'.enc ∧ p = qI h'.l ∧ Post P h h' v' ∧ (K v' h').run = some r
def qRE (p : Nat -> Bool) (env : List SV) : List (Nat × SO) -> Bool
 | [] => true
 | (k, _) :: l => (!p k || yH k (qB env)) && qRE p env l
theorem qIY {p : Nat -> Bool} {env : List SV} : ∀ {l : List (Nat × SO)}, qRE p env l = true -> clean p (qB env) (qI l) = true
 | [], _ => rfl
 | (k, o) :: l, h => by
   have h : ((!p k || yH k (qB env)) && qRE p env l) = true := h;show ((!p k || yH k (qB env)) && clean p (qB env) (qI l)) = true;rw [zTY] at h ⊢;exact ⟨h.1, qIY h.2⟩
section
variable {Γ : Type}
def q48 (P : Program) (T : zU) (CI : CIT) (Y : YI Γ) (nm : Nm) (f : SV) (args : List SV) (g : Γ) (env : List SV) (h : SH) (K : Γ -> SV -> SH -> zHP R) : zHP R := match f with
 | .yv => (match vJ P Y.yt Y.ys args h with
   | some (y, h1) => .bind (Y.stp g y) fun p => K p.1 (.d .bool p.2) h1
   | none => .fail)
 | f => (match qGW f args with
   | some (t, as) => cond (slT t T).isSome (qS7 P T false t as h (K g)) (CI R (qVR nm t) t as h fun v h2 => cond (qRE (qVR nm t).p env h2.l) (K g v h2) .fail)
   | none => .fail)
def q41 (P : Program) (T : zU) (CI : CIT) (Y : YI Γ) (nm : Nm) (o : Oper) (g : Γ) (env : List SV) (h : SH) (K : Γ -> SV -> SH -> zHP R) : zHP R := match o.op with
 | .call ⟨.value f, args, _⟩ => q48 P T CI Y nm (xQ env f) (nQ env args) g env h K
 | _ => zFC P o env (zM nm o.dst) h (K g)
def YOk (P : Program) (G : Nat -> Bool) (w : Wld Γ) (Y : YI Γ) : Prop := ∀ g y g' b, Y.stp g y = some (g', b) -> qQB P G w Yl.l g (pvL Y.ys y) g' b
end
theorem qWA {T : zU} (ht : qY6 tab T) {o : Oper} {env : List SV} {K : SV -> SH -> zHP R} (ho : OkH P h) (he : okL h env) (e : (q60 P T true k o env h K).run = some r) :
 ∃ v h', yC P tab k o (qB env) (qI h.l) = .ok v.enc (qI h'.l) ∧ Post P h h' v ∧ (K v h').run = some r := by
 unfold q60 at e;unfold yC;split at e
 ·rename_i f args ts hop;unfold q4P at e;split at e
  ·rename_i g as hst;obtain ⟨h1, h2⟩ := qFO (qCP he f) (pO he args) hst;obtain ⟨v, h', a1, a2, a3⟩ := qUN ht ho h2 e;refine ⟨v, h', ?_, a2, a3⟩;simp only [hop, qP, oF, h1];exact a1
  ·cases e
 ·rename_i hne;obtain ⟨v, h', a1, a2, a3⟩ := q4R ho he e;refine ⟨v, h', ?_, a2, a3⟩;split
  ·rename_i f args ts hop; exact absurd hop (hne f args ts)
  ·rw [a1]; rfl
end
end Go.Sv
namespace Go.Sv
open Go.Idl
variable {d : Option Tmp} {env : List SV} {h : SH} {o : Oper} {t : Nat} {v : SV}
noncomputable section
variable [Gc]
variable [Yl]
variable {P : Program} {R : Type} {r : R} {tab : gY} {G : Nat -> Bool} {nm : Nm}
omit [Yl] in
theorem zH5 {Q Q' : List PV -> PHp -> Prop} (hq : ∀ e p, Q e p -> Q' e p) : ∀ {t : PT}, t.holds P G Q -> t.holds P G Q'
 | .fail, h => h.elim
 | .ret e p, h => hq e p h
 | .chk c t, h => ⟨h.1, zH5 hq h.2⟩
 | .call nm g args ph k, h => by
   obtain ⟨R, h1, h2⟩ := h;exact ⟨R, h1, fun v p hr => zH5 hq (h2 v p hr)⟩
 | .rnd _ _ _ _, h => h.elim
omit [Yl] in
theorem q5O (k : Nat) : ∀ (cs : List FV), yH k (cs.map .f) = true
 | [] => by simp [yH]
 | c :: cs => by simp [yH, noK, q5O k cs]
def qL1 (k : Nat) : List (Nat × SO) -> Bool
 | [] => true
 | (_, .cells _ _ l) :: r => yH k (qB l) && qL1 k r
 | (_, .list _ _ _ _ _ _) :: r => qL1 k r
 | (_, .spc _ (.mit _ j _ _ _)) :: r => !(k == j) && qL1 k r
 | (_, .spc _ (.map _)) :: r => qL1 k r
 | (_, .spc _ (.iter _ _)) :: r => qL1 k r
theorem qXK (k : Nat) : ∀ (l : List Nat), yH k (l.map iv) = true
 | [] => by simp [yH]
 | c :: cs => by
   show (true && yH k (cs.map iv)) = true;rw [qXK k cs]; rfl
theorem q34 (k j si la : Nat) (seen : List Nat) : yH k (qCJ (.mp j) si la seen) = !(k == j) := by
 show (!(k == j) && (true && (true && (yH k (seen.map iv) && true)))) = _;rw [qXK]; simp
theorem uN {k : Nat} : ∀ {l : List (Nat × SO)}, qL1 k l = true -> eO k (qI l) = true
 | [], _ => rfl
 | (j, .cells el w l) :: r, h => by
   simp only [qL1, zTY] at h;show (yH k (qB l) && eO k (qI r)) = true;rw [h.1, uN h.2]; rfl
 | (j, .list el gr g w t xs) :: r, h => by
   simp only [qL1] at h;show (yH k ((xs.flatMap t.cells).map .f) && eO k (qI r)) = true;rw [q5O, uN h]; rfl
 | (j, .spc w (.mit t i si la seen)) :: r, h => by
   simp only [qL1, zTY] at h;show (yH k (qCJ (.mp i) si la seen) && eO k (qI r)) = true;rw [q34, h.1, uN h.2]; rfl
 | (j, .spc w (.map es)) :: r, h => by
   simp only [qL1] at h;show (yH k (kN _ _) && eO k (qI r)) = true;rw [u6, uN h]; rfl
 | (j, .spc w (.iter s pos)) :: r, h => by
   simp only [qL1] at h;show (yH k (qQV s pos) && eO k (qI r)) = true;rw [show yH k (qQV s pos) = true from rfl, uN h]; rfl
def qCQ (env : List SV) (d : Option Tmp) (v : SV) : List SV := match d with
 | some t => yT env t v
 | none => env
theorem vH (env : List SV) (t : Nat) (v : SV) : qB (yT env t v) = yT (qB env) t v.enc := by
 rw [qV, qV, zD, zD, List.map_set]
theorem o5 (env : List SV) (d : Option Tmp) (v : SV) : qB (qCQ env d v) = yO (qB env) d v.enc := by
 cases d with
 | none => rfl
 | some t => exact vH env t v
omit [Yl] in
theorem kZ (he : okL h env) (hv : v.ok h) : okL h (yT env t v) := by
 rw [qV]
 exact yY.2 fun x hx => by
  rcases zVH hx with q | q
  ·exact yY.1 he x q
  ·rw [q]; exact hv
omit [Yl] in
theorem qAL (he : okL h env) (hv : v.ok h) : okL h (qCQ env d v) := by
 cases d with
 | none => exact he
 | some t => exact kZ he hv
omit [Yl] in
theorem gV (env : List SV) (t : Nat) (v : SV) : (yT env t v).length = env.length := by rw [qV, zUY]
omit [Yl] in
theorem q2G (env : List SV) (d : Option Tmp) (v : SV) : (qCQ env d v).length = env.length := by
 cases d with
 | none => rfl
 | some t => exact gV env t v
theorem qRM {w : SV} (h1 : zL env t = some v) (h2 : w.enc = v.enc) : qB (yT env t w) = qB env := by
 rw [vH, qV];rw [qF] at h1;apply zUX;intro i;rw [zUM];by_cases e : t = i
 ·subst e;rw [if_pos rfl, zD, zT9, h1, zUO, if_pos (zT2.1 h1).1, h2];rfl
 ·rw [if_neg e]
def yD (b w : Bool) : Bool := cond w b (!b)
omit [Yl] in
theorem qPW (b w : Bool) : yD b w = (b == w) := by cases b <;> cases w <;> rfl
def qHC (ds : List (Option Tmp)) (o : Oper) (env : List SV) (Y N : List SV -> zHP R) : zHP R := match o.guard with
 | none => Y env
 | some (j, w) => (match qSZ ds j with
   | none => N env
   | some t => (match zL env t with
     | none => .fail
     | some v => (match asB v with
       | some b => .ite (yD b w) (Y (yT env t (.c (.bool w)))) (N (yT env t (.c (.bool (!w)))))
       | none => (match v with
         | .tup [] => N env
         | _ => .fail))))
theorem qEL {ds : List (Option Tmp)} {Y N : List SV -> zHP R} (he : okL h env) (e : (qHC ds o env Y N).run = some r) :
 ∃ env', qB env' = qB env ∧ okL h env' ∧ env'.length = env.length ∧ ((fC ds o (qB env) = some true ∧ (Y env').run = some r) ∨ (fC ds o (qB env) = some false ∧ (N env').run = some r)) := by
 unfold qHC at e;unfold fC;split at e
 ·rename_i hg;exact ⟨env, rfl, he, rfl, .inl ⟨by rw [hg], e⟩⟩
 ·rename_i j w hg;rw [hg];simp only;split at e
  ·rename_i hd;exact ⟨env, rfl, he, rfl, .inr ⟨by rw [hd]; rfl, e⟩⟩
  ·rename_i t hd;rw [hd];simp only [qMU, zF];split at e
   ·cases e
   ·rename_i v hv;rw [hv];split at e
    ·rename_i b hb;have hbe := rC hb
     rcases run_ite e with ⟨z, e1⟩ | ⟨z, e1⟩
     ·rw [qPW] at z;have : b = w := by simpa using z
      subst this;refine ⟨_, qRM hv (by rw [hbe]; simp [SV.enc]), kZ he (by simp [SV.ok]), gV _ _ _, .inl ⟨?_, e1⟩⟩;simp only [zT7, hbe, qC7, z]
     ·rw [qPW] at z
      have : b = !w := by cases b <;> cases w <;> first | rfl | cases z
      refine ⟨_, qRM hv (by rw [hbe, this]; simp [SV.enc]), kZ he (by simp [SV.ok]), gV _ _ _, .inr ⟨?_, e1⟩⟩;simp only [zT7, hbe, qC7, z]
    ·split at e
     ·exact ⟨env, rfl, he, rfl, .inr ⟨by simp only [zT7, SV.enc, qB]; exact qSH, e⟩⟩
     ·cases e
def qER (nm : Nm) (k : Nat) (env : List SV) (h : SH) : Bool := inP nm k && (yH k (qB env) && qL1 k h.l)
section
variable {Γ : Type}
def q0F (P : Program) (T : zU) (CI : CIT) (Y : YI Γ) (nm : Nm) (ds : List (Option Tmp)) : List Oper -> Γ -> List SV -> SH -> (Γ -> List SV -> SH -> zHP R) -> zHP R
 | [], g, env, h, K => K g env h
 | o :: l, g, env, h, K => qHC ds o env
    (fun env => cond (cond (needs o.op) (qER nm (zM nm o.dst) env h) true) (q41 P T CI Y nm o g env h fun g v h' => q0F P T CI Y nm ds l g (qCQ env o.dst v) h' K) .fail)
    (fun env => q0F P T CI Y nm ds l g (qCQ env o.dst (.tup [])) h K)
end
def Ends (P : Program) (w : List (Option Tmp)) (env : List SV) (h : SH) (env' : List SV) (h' : SH) : Prop :=
 okL h' env' ∧ OkH P h' ∧ Keep h h' ∧ (∀ i, some i ∉ w -> zL (qB env') i = zL (qB env) i) ∧ env'.length = env.length
theorem q5X {i : Nat} (h : d ≠ some i) : zL (qB (qCQ env d v)) i = zL (qB env) i := by
 cases d with
 | none => rfl
 | some t =>
   show zL (qB (yT env t v)) i = _;rw [vH, qV, qF, qF, zUM, if_neg (fun e => h (by rw [e]))]
theorem Ends.step {w : List (Option Tmp)} {zHY : List SV} {h1 : SH} {env' : List SV} {h' : SH} (he : qB env = qB zHY) (hl : env.length = zHY.length) (hk : Keep h h1) (x : Ends P w (qCQ env o.dst v) h1 env' h') : Ends P (o.dst :: w) zHY h env' h' :=
 ⟨x.1, x.2.1, hk.trans x.2.2.1, fun i hi => by
   rw [zUD, not_or] at hi
   rw [x.2.2.2.1 i hi.2, q5X (fun e => hi.1 e.symm), he], by rw [x.2.2.2.2, q2G, hl]⟩
omit [Yl] in
theorem kL {Γ : Type} {w : Wld Γ} {Q Q' : Γ -> List PV -> PHp -> Prop} (hq : ∀ g e p, Q g e p -> Q' g e p) : ∀ {t : PT} {g : Γ}, t.zIC P G w Q g -> t.zIC P G w Q' g
 | .fail, _, h => h.elim
 | .ret e p, g, h => hq g e p h
 | .chk c t, g, h => ⟨h.1, kL hq h.2⟩
 | .call nm f args ph k, g, h => by
   obtain ⟨R, h1, h2⟩ := h;exact ⟨R, h1, fun v p hr => kL hq (h2 v p hr)⟩
 | .rnd l args ph k, g, h => by
   obtain ⟨zIS, tys, ph1, g', b, h1, h2, h3⟩ := h;exact ⟨zIS, tys, ph1, g', b, h1, h2, kL hq h3⟩
def q3Z (T : zU) (f : FuncId) : Bool := !(slT f T).isSome
theorem qHP {Γ : Type} {w : Wld Γ} {T : zU} {CI : CIT} {Y : YI Γ} (ht : qY6 tab T) (hci : q72 P G CI) (hy : YOk P G w Y) {ds : List (Option Tmp)} : ∀ {l : List Oper} {g : Γ} {env : List SV} {h : SH} {K : Γ -> List SV -> SH -> zHP R}, OkH P h -> okL h env -> (q0F P T CI Y nm ds l g env h K).run = some r ->
 (pops P tab (q3Z T) nm ds l (qB env) (qI h.l)).zIC P G w (fun g e p => ∃ env' h', e = qB env' ∧ p = qI h'.l ∧ Ends P (l.map (·.dst)) env h env' h' ∧ (K g env' h').run = some r) g
 | [], g, env, h, K, ho, he, e => ⟨env, h, rfl, rfl, ⟨he, ho, .refl _, fun _ _ => rfl, rfl⟩, e⟩
 | o :: l, g, env, h, K, ho, he, e => by
   unfold q0F at e;obtain ⟨zHT, q1, q2, q3, q4⟩ := qEL he e;rw [qUK]
   rcases q4 with ⟨hw, e1⟩ | ⟨hw, e1⟩
   ·rw [hw, q2Z];obtain ⟨c, e2⟩ := qH e1
    have next : ∀ {g' : Γ} {v : SV} {h' : SH}, Post P h h' v -> (q0F P T CI Y nm ds l g' (qCQ zHT o.dst v) h' K).run = some r -> (pops P tab (q3Z T) nm ds l (yO (qB env) o.dst v.enc) (qI h'.l)).zIC P G w (fun g e p => ∃ env' h', e = qB env' ∧ p = qI h'.l ∧ Ends P ((o :: l).map (·.dst)) env h env' h' ∧ (K g env' h').run = some r) g' := fun {g' v h'} a2 a3 => by
     have ih := qHP ht hci hy a2.2.1 (qAL (d := o.dst) (qL a2.1 q2) a2.2.2) a3;rw [o5, q1] at ih;exact kL (fun g e p ⟨env', h', b1, b2, b3, b4⟩ => ⟨env', h', b1, b2, Ends.step q1 q3 a2.1 b3, b4⟩) ih
    have chk : ∀ {g' : Γ} {v : SV} {h' : SH}, Post P h h' v -> (q0F P T CI Y nm ds l g' (qCQ zHT o.dst v) h' K).run = some r -> (q6Z (needs o.op) (zM nm o.dst) nm (qB env) (qI h.l) (pops P tab (q3Z T) nm ds l (yO (qB env) o.dst v.enc) (qI h'.l))).zIC P G w (fun g e p => ∃ env' h', e = qB env' ∧ p = qI h'.l ∧ Ends P ((o :: l).map (·.dst)) env h env' h' ∧ (K g env' h').run = some r) g' := fun {g' v h'} a2 a3 => by
     unfold q6Z
     cases hn : needs o.op with
     | false => exact next a2 a3
     | true =>
       rw [hn] at c;simp only [cond_true] at c ⊢;refine ⟨?_, next a2 a3⟩;unfold qER at c;rw [q1] at c;simp only [zTY] at c;unfold fresh;rw [c.1, c.2.1, uN c.2.2]; rfl
    unfold q41 at e2;split at e2
    ·rename_i f args ts hop
     have hpe : gZ P tab (q3Z T) (zM nm o.dst) o (qB env) (qI h.l) = pR P tab (q3Z T) (xQ zHT f).enc (qB (nQ zHT args)) (qI h.l) := by
      unfold gZ;rw [<- q1];simp only [hop, qP, oF]
     rw [hpe];have hfv := qCP q2 f;have has := pO q2 args
     revert e2 hfv
     generalize xQ zHT f = fv;intro e2 hfv;unfold q48 at e2;split at e2
     ·split at e2
      ·rename_i y h1 hd;obtain ⟨p, hp, e3⟩ := run_bind e2;obtain ⟨g', b⟩ := p;obtain ⟨ys, a1, a2, a3, a4⟩ := dR ho has hd
       have : pR P tab (q3Z T) (SV.enc .yv) (qB (nQ zHT args)) (qI h.l) = .rnd Yl.l (qB (nQ zHT args)) (qI h.l) := by
        simp only [SV.enc, pR]
       rw [this, qU6];refine ⟨ys, Y.yt, qI h1.l, g', b, a1, ?_, ?_⟩
       ·rw [a2]; exact hy _ _ _ _ hp
       ·have := next (v := .d .bool b) ⟨a3, a4, by simp [SV.ok]⟩ e3;simpa [SV.enc, Ty.fv, fvv] using this
      ·cases e2
     ·split at e2
      ·rename_i t as hst;obtain ⟨h1, h2⟩ := qFO hfv has hst;rw [qIW h1];unfold mI q3Z
       cases hsl : (slT t T).isSome with
       | true =>
         rw [hsl] at e2;simp only [cond_true] at e2;obtain ⟨v, h', a1, a2, a3⟩ := q1Y ht ho h2 e2;simp only [zVK, cond_false];rw [a1, qOW];exact chk a2 a3
       | false =>
         rw [hsl] at e2;simp only [cond_false] at e2;simp only [zVV, cond_true];rw [qSW];refine ⟨_, hci _ _ _ _ _ _ ho h2 e2, ?_⟩;rintro v p ⟨v', h', rfl, rfl, a2, a3⟩;obtain ⟨c2, a4⟩ := qH a3;have := qIY c2;rw [q1] at this;exact ⟨this, next a2 a4⟩
      ·cases e2
    ·rename_i hne;obtain ⟨v, h', a1, a2, a3⟩ := q65 ho q2 e2;rw [q1] at a1
     have hpe : gZ P tab (q3Z T) (zM nm o.dst) o (qB env) (qI h.l) = .ok v.enc (qI h'.l) := by
      unfold gZ;split
      ·rename_i f args ts hop; exact absurd hop (hne f args ts)
      ·rw [a1]; rfl
     rw [hpe, qOW];exact chk a2 a3
   ·rw [hw, qV9];have ih := qHP ht hci hy ho (qAL (d := o.dst) (v := .tup []) q2 (by simp [SV.ok, okL])) e1;rw [o5, q1] at ih;simp only [SV.enc, qB] at ih;exact kL (fun g e p ⟨env', h', b1, b2, b3, b4⟩ => ⟨env', h', b1, b2, Ends.step q1 q3 (.refl _) b3, b4⟩) ih
def qXD (P : Program) (T : zU) (nm : Nm) (ds : List (Option Tmp)) (b : DB) (zHY : List SV) : Nat -> List Oper -> List SV -> SH -> List (Nat × List Nat) -> List (Nat × List Nat) -> List (Nat × Nat) -> List (Nat × PV) -> (List SV -> SH -> zHP R) -> zHP R
 | i, [], env, h, E, F, N, V, K => cond (mP b (qB zHY) E F N V) (K env h) .fail
 | i, o :: l, env, h, E, F, N, V, K => qHC ds o env
    (fun env => cond (cond (needs o.op) (inP nm (zM nm o.dst) && qL1 (zM nm o.dst) h.l) true) (q60 P T true (zM nm o.dst) o env h fun v h' =>
      qXD P T nm ds b zHY (i + 1) l (qCQ env o.dst v) h' (cond (zI o) ((i, wlT nm o (qB env)) :: E) E) (cond (zI o) F ((i, dlT o (qB env)) :: F)) (cond (needs o.op) ((i, zM nm o.dst) :: N) N) ((i, v.enc) :: V) K) .fail)
    (fun env => qXD P T nm ds b zHY (i + 1) l (qCQ env o.dst (.tup [])) h E F N ((i, .tup []) :: V) K)
theorem qIO {T : zU} (ht : qY6 tab T) {ds : List (Option Tmp)} {b : DB} {zHY : List SV} : ∀ {l : List Oper} {i : Nat} {env : List SV} {h : SH} {E F : List (Nat × List Nat)} {N : List (Nat × Nat)} {V : List (Nat × PV)} {K : List SV -> SH -> zHP R}, OkH P h -> okL h env -> (qXD P T nm ds b zHY i l env h E F N V K).run = some r ->
 (qJX P tab nm ds b (qB zHY) i l (qB env) (qI h.l) E F N V).holds P G fun e p => ∃ env' h', e = qB env' ∧ p = qI h'.l ∧ Ends P (l.map (·.dst)) env h env' h' ∧ (K env' h').run = some r
 | [], i, env, h, E, F, N, V, K, ho, he, e => by
   unfold qXD at e;obtain ⟨c, e1⟩ := qH e;rw [q3X];exact ⟨c, env, h, rfl, rfl, ⟨he, ho, .refl _, fun _ _ => rfl, rfl⟩, e1⟩
 | o :: l, i, env, h, E, F, N, V, K, ho, he, e => by
   unfold qXD at e;obtain ⟨zHT, q1, q2, q3, q4⟩ := qEL he e;rw [qWX]
   rcases q4 with ⟨hw, e1⟩ | ⟨hw, e1⟩
   ·rw [hw, qYY];obtain ⟨c, e2⟩ := qH e1;obtain ⟨v, h', a1, a2, a3⟩ := qWA ht ho q2 e2;rw [q1] at a1;rw [a1, qXU];have ih := qIO ht a2.2.1 (qAL (d := o.dst) (qL a2.1 q2) a2.2.2) a3;rw [o5, q1] at ih;have ih2 := zH5 (Q' := fun e p => ∃ env' h', e = qB env' ∧ p = qI h'.l ∧ Ends P ((o :: l).map (·.dst)) env h env' h' ∧ (K env' h').run = some r) (fun e p ⟨env', h', b1, b2, b3, b4⟩ => ⟨env', h', b1, b2, Ends.step q1 q3 a2.1 b3, b4⟩) ih;unfold qV4
    cases hn : needs o.op with
    | false => rw [hn] at ih2; exact ih2
    | true =>
      rw [hn] at c ih2;simp only [cond_true] at c ⊢;refine ⟨?_, ih2⟩;rw [zTY] at c;rw [c.1, uN c.2]; rfl
   ·rw [hw, qSN];have ih := qIO ht ho (qAL (d := o.dst) (v := .tup []) q2 (by simp [SV.ok, okL])) e1;rw [o5, q1] at ih;simp only [SV.enc, qB] at ih;exact zH5 (fun e p ⟨env', h', b1, b2, b3, b4⟩ => ⟨env', h', b1, b2, Ends.step q1 q3 (.refl _) b3, b4⟩) ih
def qQ9 (ops : Array Oper) : Bool := match ops[ops.size - 1]? with
 | some o => (match o.op with
   | .call ⟨.value _, _, _⟩ => (List.range (ops.size - 1)).all fun i => uR (Region.before ops) i (ops.size - 1)
   | _ => false)
 | none => false
def zES {Γ : Type} (P : Program) (G : Nat -> Bool) (T : zU) (CI : CIT) (Y : YI Γ) (nm : Nm) (ops : Array Oper) (d : Bool) (g : Γ) (env : List SV) (h : SH) (K : Γ -> List SV -> SH -> zHP R) : zHP R :=
 cond (fF G ops) (cond d (cond (aH ops && uX ops) (cond (qQ9 ops)
  (qXD P T nm (ops.toList.map (·.dst)) (dBo ops) env 0 (ops.toList.take (ops.size - 1)) env h [] [] [] [] fun env h => q0F P T CI Y nm (ops.toList.map (·.dst)) (ops.toList.drop (ops.size - 1)) g env h K)
  (qXD P T nm (ops.toList.map (·.dst)) (dBo ops) env 0 ops.toList env h [] [] [] [] (K g))) .fail) (q0F P T CI Y nm (ops.toList.map (·.dst)) ops.toList g env h K)) .fail
variable {nat : xI} {good : FuncId -> Bool} {rd : Bool}
theorem q7T {Γ : Type} {w : Wld Γ} {T : zU} {CI : CIT} {Y : YI Γ} (s : zIN P good nat G tab) (ht : qY6 tab T) (hci : q72 P G CI) (hy : YOk P G w Y) {id : Nat} {ops : Array Oper} {d : Bool} {g : Γ} {K : Γ -> List SV -> SH -> zHP R} (ho : OkH P h) (he : okL h env) (e : (zES P G T CI Y nm ops d g env h K).run = some r) :
 qU P G rd nm w (.region id ops d) g (qB env) (qI h.l) fun x g' pe ph => x = .normal ∧ ∃ env' h', pe = qB env' ∧ ph = qI h'.l ∧ Ends P (ops.toList.map (·.dst)) env h env' h' ∧ (K g' env' h').run = some r := by
 unfold zES at e;obtain ⟨c1, e1⟩ := qH e
 cases d with
 | true =>
   obtain ⟨c2, e2⟩ := qH (show (cond (aH ops && uX ops) (cond (qQ9 ops)
    (qXD P T nm (ops.toList.map (·.dst)) (dBo ops) env 0 (ops.toList.take (ops.size - 1)) env h [] [] [] [] fun env h => q0F P T CI Y nm (ops.toList.map (·.dst)) (ops.toList.drop (ops.size - 1)) g env h K)
    (qXD P T nm (ops.toList.map (·.dst)) (dBo ops) env 0 ops.toList env h [] [] [] [] (K g))) .fail : zHP R).run = some r from e1)
   rw [zTY] at c2
   cases hlo : qQ9 ops with
   | false =>
     rw [hlo] at e2;have e2 : (qXD P T nm (ops.toList.map (·.dst)) (dBo ops) env 0 ops.toList env h [] [] [] [] (K g)).run = some r := e2;refine (qU.of (s.zRZ (Q := fun x pe ph => x = .normal ∧ ∃ env' h', pe = qB env' ∧ ph = qI h'.l ∧ Ends P (ops.toList.map (·.dst)) env h env' h' ∧ (K g env' h').run = some r) c1 c2.1 c2.2 rfl rfl ?_)).mono ?_
     ·exact zH5 (fun e p hq => ⟨rfl, hq⟩) (qIO (G := G) ht ho he e2)
     ·rintro x g' pe ph ⟨rfl, hq⟩;exact hq
   | true =>
     rw [hlo] at e2;have e2 : (qXD P T nm (ops.toList.map (·.dst)) (dBo ops) env 0 (ops.toList.take (ops.size - 1)) env h [] [] [] [] fun env h => q0F P T CI Y nm (ops.toList.map (·.dst)) (ops.toList.drop (ops.size - 1)) g env h K).run = some r := e2;unfold qQ9 at hlo;split at hlo
     ·rename_i o hop;split at hlo
      ·have hlt := (zUC.1 hop).1
       have hdrop : ops.toList.drop (ops.size - 1) = [o] := by
        have h1 : ops.toList[ops.size - 1]? = some o := by simpa using hop
        obtain ⟨h2, h3⟩ := zT2.1 h1;rw [zVG h2, h3, List.drop_eq_nil_of_le (by simp; omega)]
       have hmap : (ops.toList.take (ops.size - 1)).map (·.dst) ++ [o.dst] = ops.toList.map (·.dst) := by
        rw [show [o.dst] = [o].map (·.dst) from rfl, <- zUR, <- hdrop, zWX]
       refine s.zR2 (inl := q3Z T) (n0 := ops.size - 1) c1 c2.1 c2.2 hop (by omega) (fun i hi => zT3.1 hlo i (zUW.2 hi)) ?_;refine zH5 (fun e p hq => ?_) (qIO (G := G) ht ho he e2);obtain ⟨zHT, h1, rfl, rfl, a3, a4⟩ := hq;rw [hdrop] at a4;refine kL (fun g2 e p hq => ?_) (qHP (G := G) ht hci hy a3.2.1 a3.1 a4);obtain ⟨zIM, h2, rfl, rfl, b3, b4⟩ := hq;refine ⟨rfl, zIM, h2, rfl, rfl, ⟨b3.1, b3.2.1, a3.2.2.1.trans b3.2.2.1, fun i hi => ?_, b3.2.2.2.2.trans a3.2.2.2.2⟩, b4⟩;rw [<- hmap, zUQ, not_or] at hi;exact (b3.2.2.2.1 i hi.2).trans (a3.2.2.2.1 i hi.1)
      ·cases hlo
     ·cases hlo
 | false => exact s.zR1 c1 (kL (fun g e p hq => ⟨rfl, hq⟩) (qHP (G := G) ht hci hy ho he e1))
end
end Go.Sv
