/- A symbolic run, part one. Conditions: none. -/
import Derived.Test.YtpdlblofcdcikaaGreatDoorPur19
set_option linter.unusedSimpArgs false
set_option linter.unusedVariables false
namespace Go.Sv
open Go.Idl
class Yl where
 l : Nat
variable {P : Program} {Z Z' : Nat -> Prop} {H : IH} {M : Nat -> Option (Nat × PO)}
inductive Ty where
 | int (k : IntKind)
 | bool
 | str
 | unit
 | list (el : TypeId) (t : Ty)
 | pair (a b : Ty) deriving DecidableEq
@[reducible] def Ty.sem : Ty -> Type
  | .int _ => Int
  | .bool => Bool
  | .str => ByteArray
  | .unit => Unit
  | .list _ t => List t.sem
  | .pair a b => a.sem × b.sem
def Ty.cells : (t : Ty) -> t.sem -> List FV
 | .int k, x => [.v (.int k x)]
 | .bool, x => [.v (.bool x)]
 | .str, x => [.v (.string x)]
 | .unit, _ => []
 | .list el t, xs => [.l el (List.length xs) (List.flatMap t.cells xs)]
 | .pair a b, x => a.cells x.1 ++ b.cells x.2
def Ty.w : Ty -> Nat
 | .int _ | .bool | .str | .list _ _ => 1
 | .unit => 0
 | .pair a b => a.w + b.w
def Ty.one : Ty -> Bool
 | .unit => false
 | .pair _ _ => false
 | _ => true
def Ty.fv : (t : Ty) -> t.sem -> FV
 | .int k, x => .v (.int k x)
 | .bool, x => .v (.bool x)
 | .str, x => .v (.string x)
 | .list el t, xs => .l el (List.length xs) (List.flatMap t.cells xs)
 | _, _ => .v undef
theorem Ty.cells_one : ∀ {t : Ty} {x : t.sem}, t.one = true -> t.cells x = [t.fv x]
 | .int _, _, _ => rfl
 | .bool, _, _ => rfl
 | .str, _, _ => rfl
 | .list _ _, _, _ => rfl
 | .unit, _, h => by cases h
 | .pair _ _, _, h => by cases h
theorem Ty.cells_len : ∀ (t : Ty) (x : t.sem), (t.cells x).length = t.w
 | .int _, _ => rfl
 | .bool, _ => rfl
 | .str, _ => rfl
 | .list _ _, _ => rfl
 | .unit, _ => rfl
 | .pair a b, x => by
   show (a.cells x.1 ++ b.cells x.2).length = a.w + b.w
   rw [List.length_append, a.cells_len, b.cells_len]
theorem kP {t : Ty} : ∀ (xs : List t.sem), (xs.flatMap t.cells).length = xs.length * t.w
 | [] => by simp
 | x :: xs => by rw [List.flatMap_cons, List.length_append, t.cells_len, kP xs, List.length_cons, Nat.succ_mul, Nat.add_comm]
theorem gT {t : Ty} : ∀ (xs : List t.sem) (j : Nat), (xs.flatMap t.cells).drop (j * t.w) = (xs.drop j).flatMap t.cells
 | xs, 0 => by simp
 | [], j + 1 => by simp
 | x :: xs, j + 1 => by
   rw [List.flatMap_cons, List.drop_succ_cons, <- gT xs j, Nat.succ_mul, Nat.add_comm, <- List.drop_drop]
   congr 1
   rw [List.drop_append_of_le_length (by rw [t.cells_len]; exact Nat.le_refl _), List.drop_of_length_le (by rw [t.cells_len]; exact Nat.le_refl _), List.nil_append]
theorem gL {t : Ty} : ∀ (xs : List t.sem) (j : Nat), (xs.flatMap t.cells).take (j * t.w) = (xs.take j).flatMap t.cells
 | xs, 0 => by simp
 | [], j + 1 => by simp
 | x :: xs, j + 1 => by
   rw [List.flatMap_cons, List.take_succ_cons, List.flatMap_cons, <- gL xs j, Nat.succ_mul, Nat.add_comm, List.take_append, t.cells_len, Nat.add_sub_cancel_left, List.take_of_length_le (by rw [t.cells_len]; omega)]
theorem qSX {t : Ty} {xs : List t.sem} {j : Nat} {x : t.sem} (h : xs[j]? = some x) : ((xs.flatMap t.cells).drop (j * t.w)).take t.w = t.cells x := by
 rw [gT]
 have hj := (List.getElem?_eq_some_iff.1 h)
 obtain ⟨hl, hx⟩ := hj
 rw [List.drop_eq_getElem_cons hl, hx, List.flatMap_cons, List.take_append_of_le_length (by rw [t.cells_len]; exact Nat.le_refl _), List.take_of_length_le (by rw [t.cells_len]; exact Nat.le_refl _)]
theorem qIM {t : Ty} {xs : List t.sem} {j : Nat} {x : t.sem} (h : xs[j]? = some x) {off n : Nat} (hn : off + n <= t.w) : ((xs.flatMap t.cells).drop (j * t.w + off)).take n = ((t.cells x).drop off).take n := by
 rw [<- qSX h, List.drop_take, List.drop_drop, List.take_take, Nat.min_eq_left (by omega)]
theorem flat_get {t : Ty} {xs : List t.sem} {j : Nat} {x : t.sem} (h : xs[j]? = some x) {off : Nat} (hn : off < t.w) : (xs.flatMap t.cells)[j * t.w + off]? = (t.cells x)[off]? := by
 rw [<- qSX h, List.getElem?_take, if_pos hn, List.getElem?_drop]
theorem qJO {t : Ty} {xs : List t.sem} {j : Nat} {x : t.sem} (h : xs[j]? = some x) {off n : Nat} (hn : off + n <= t.w) : j * t.w + off + n <= (xs.flatMap t.cells).length := by
 have hl := (List.getElem?_eq_some_iff.1 h).1
 rw [kP]
 have : (j + 1) * t.w <= xs.length * t.w := Nat.mul_le_mul_right _ hl
 rw [Nat.succ_mul] at this
 omega
theorem Ty.inj : ∀ (t : Ty) (x y : t.sem), t.cells x = t.cells y -> x = y
 | .int _, x, y, h => by injection h with h; injection h with h; injection h
 | .bool, x, y, h => by injection h with h; injection h with h; injection h
 | .str, x, y, h => by injection h with h; injection h with h; injection h
 | .unit, _, _, _ => rfl
 | .pair a b, x, y, h => by
   have := List.append_inj (show a.cells x.1 ++ b.cells x.2 = a.cells y.1 ++ b.cells y.2 from h) (by rw [a.cells_len, a.cells_len])
   exact Prod.ext (a.inj _ _ this.1) (b.inj _ _ this.2)
 | .list el t, xs, ys, h => by
   injection h with h
   injection h with _ h1 h2
   exact go t xs ys h1 h2
where
 go (t : Ty) : ∀ (xs ys : List t.sem), xs.length = ys.length -> xs.flatMap t.cells = ys.flatMap t.cells -> xs = ys
 | [], [], _, _ => rfl
 | [], y :: ys, e, h => by cases e
 | x :: xs, [], e, h => by cases e
 | x :: xs, y :: ys, e, h => by
   rw [List.flatMap_cons, List.flatMap_cons] at h
   have := List.append_inj h (by rw [t.cells_len, t.cells_len])
   rw [t.inj x y this.1, go t xs ys (by simpa using e) this.2]
theorem Ty.uniq : ∀ (t : Ty) {x y : t.sem} {vs : List Value}, FRL Z H (t.cells x) vs -> FRL Z' H (t.cells y) vs -> x = y
 | .int k, x, y, vs, a, b => by
   obtain ⟨v, vs', rfl, a1, _⟩ := a.uncons
   obtain ⟨v', vs2, e, b1, _⟩ := b.uncons
   cases e
   have := (qWR a1).symm.trans (qWR b1)
   injection this
 | .bool, x, y, vs, a, b => by
   obtain ⟨v, vs', rfl, a1, _⟩ := a.uncons
   obtain ⟨v', vs2, e, b1, _⟩ := b.uncons
   cases e
   have := (qWR a1).symm.trans (qWR b1)
   injection this
 | .str, x, y, vs, a, b => by
   obtain ⟨v, vs', rfl, a1, _⟩ := a.uncons
   obtain ⟨v', vs2, e, b1, _⟩ := b.uncons
   cases e
   have := (qWR a1).symm.trans (qWR b1)
   injection this
 | .unit, _, _, _, _, _ => rfl
 | .pair s t, x, y, vs, a, b => by
   obtain ⟨a1, a2⟩ := FRL.split (xs := s.cells x.1) (ys := t.cells x.2) a
   obtain ⟨b1, b2⟩ := FRL.split (xs := s.cells y.1) (ys := t.cells y.2) b
   rw [s.cells_len] at a1 a2 b1 b2
   exact Prod.ext (s.uniq a1 b1) (t.uniq a2 b2)
 | .list el t, xs, ys, vs, a, b => by
   obtain ⟨v, vs', rfl, a1, _⟩ := a.uncons
   obtain ⟨v', vs2, e, b1, _⟩ := b.uncons
   cases e
   obtain ⟨h1, ws, ws', h2, h3, h4⟩ := qHY a1 b1
   have := h4 (by rw [kP, kP, h1])
   subst this
   exact go t xs ys ws h1 h2 h3
where
 go (t : Ty) : ∀ (xs ys : List t.sem) (vs : List Value), xs.length = ys.length -> FRL Z H (xs.flatMap t.cells) vs -> FRL Z' H (ys.flatMap t.cells) vs -> xs = ys
 | [], [], _, _, _, _ => rfl
 | [], y :: ys, vs, e, a, b => by cases e
 | x :: xs, [], vs, e, a, b => by cases e
 | x :: xs, y :: ys, vs, e, a, b => by
   rw [List.flatMap_cons] at a b
   obtain ⟨a1, a2⟩ := a.split
   obtain ⟨b1, b2⟩ := b.split
   rw [t.cells_len] at a1 a2 b1 b2
   rw [t.uniq a1 b1, go t xs ys _ (by simpa using e) a2 b2]
def Ty.pv (t : Ty) (x : t.sem) : PV := cond t.one (.f (t.fv x)) (.agg ((t.cells x).map .f))
def Ty.en (t : Ty) : PEn t.sem := ⟨t.pv, fun x y h => by
 unfold Ty.pv at h
 cases ht : t.one with
 | true =>
   rw [ht] at h
   injection h with h
   exact t.inj x y (by rw [Ty.cells_one ht, Ty.cells_one ht, h])
 | false =>
   rw [ht] at h
   injection h with h
   exact t.inj x y (qX1 _ _ h), fun P Z Z' H x y v a b => by
 unfold Ty.pv at a b
 cases ht : t.one with
 | true =>
   rw [ht] at a b
   cases a with
   | f a => cases b with
     | f b => exact t.uniq (vs := [v]) (by rw [Ty.cells_one ht]; exact .cons a ⟨rfl, fun i x v h => by simp at h⟩) (by rw [Ty.cells_one ht]; exact .cons b ⟨rfl, fun i x v h => by simp at h⟩)
 | false =>
   rw [ht] at a b
   obtain ⟨vs, rfl, h1⟩ := VR.aggL a
   obtain ⟨vs', e, h2⟩ := VR.aggL b
   cases e
   exact t.uniq (qBK h1) (qBK h2)⟩
@[reducible] def TyL : List Ty -> Type
  | [] => Unit
  | [t] => t.sem
  | t :: u :: ts => t.sem × TyL (u :: ts)
def pvL : (ts : List Ty) -> TyL ts -> List PV
 | [], _ => []
 | [t], x => [t.pv x]
 | t :: u :: ts, x => t.pv x.1 :: pvL (u :: ts) x.2
theorem qS2 : ∀ (ts : List Ty) (x y : TyL ts), pvL ts x = pvL ts y -> x = y
 | [], _, _, _ => rfl
 | [t], x, y, h => by injection h with h; exact t.en.inj x y h
 | t :: u :: ts, x, y, h => by
   injection h with h1 h2
   exact Prod.ext (t.en.inj _ _ h1) (qS2 (u :: ts) _ _ h2)
theorem qMX : ∀ (ts : List Ty) (x y : TyL ts) (vs : List Value), VRL P Z H (fun _ => none) (pvL ts x) vs -> VRL P Z' H (fun _ => none) (pvL ts y) vs -> x = y
 | [], _, _, _, _, _ => rfl
 | [t], x, y, vs, a, b => by
   obtain ⟨v, vs', rfl, a1, _⟩ := a.uncons
   obtain ⟨v', vs2, e, b1, _⟩ := b.uncons
   cases e
   exact t.en.uniq P Z Z' H x y v a1 b1
 | t :: u :: ts, x, y, vs, a, b => by
   obtain ⟨v, vs', rfl, a1, a2⟩ := a.uncons
   obtain ⟨v', vs2, e, b1, b2⟩ := b.uncons
   cases e
   exact Prod.ext (t.en.uniq P Z Z' H _ _ v a1 b1) (qMX (u :: ts) _ _ _ a2 b2)
def enL (ts : List Ty) : AEn (TyL ts) := ⟨pvL ts, qS2 ts, fun P Z Z' H x y vs a b => qMX ts x y vs a b⟩
def wE : (ts : List Ty) -> TyL ts -> PV := fun ts x => qBX (pvL ts x)
end Go.Sv
namespace Go.Sv
open Go.Idl
variable {P : Program}
def Tree (R : Type) : Type := Option R
section
variable {R α σ ρ : Type}
def Tree.run (t : Tree R) : Option R := t
def Tree.fail : Tree R := (none : Option R)
def Tree.ret (r : R) : Tree R := some r
def Tree.ite (b : Bool) (x y : Tree R) : Tree R := cond b x y
noncomputable def Tree.bind (o : Option α) (k : α -> Tree R) : Tree R := Option.rec Tree.fail k o
noncomputable def Tree.loop (f : σ -> Tree (σ ⊕ ρ)) (s : σ) (k : ρ -> Tree R) : Tree R := Tree.bind (zZ (fun s => (f s).run) s) k
end
theorem run_ite {R : Type} {b : Bool} {x y : Tree R} {r : R} (h : (Tree.ite b x y).run = some r) : (b = true ∧ x.run = some r) ∨ (b = false ∧ y.run = some r) := by
 cases b with
 | true => exact .inl ⟨rfl, h⟩
 | false => exact .inr ⟨rfl, h⟩
theorem run_bind {R α : Type} {o : Option α} {k : α -> Tree R} {r : R} (h : (Tree.bind o k).run = some r) : ∃ a, o = some a ∧ (k a).run = some r := by
 cases o with
 | none => cases h
 | some a => exact ⟨a, rfl, h⟩
theorem qWA {R σ ρ : Type} {f : σ -> Tree (σ ⊕ ρ)} {s : σ} {k : ρ -> Tree R} {r : R} (h : (Tree.loop f s k).run = some r) : ∃ a, zZ (fun s => (f s).run) s = some a ∧ (k a).run = some r := run_bind h
theorem qN {R : Type} {b : Bool} {x : Tree R} {r : R} (h : (cond b x .fail).run = some r) : b = true ∧ x.run = some r := by
 cases b with
 | true => exact ⟨rfl, h⟩
 | false => cases h
inductive SV where
 | d (t : Ty) (x : t.sem)
 | c (v : Value)
 | agg (l : List SV)
 | tup (l : List SV)
 | own (k g n : Nat)
 | sl (k g n o m : Nat)
 | ref (k off w : Nat)
 | elt (k g n w j off : Nat)
 | lp (t : Ty) (xs : List t.sem) (j off : Nat)
 | fn (f : FuncId) (first cap : List SV)
 | unk
 | yv
section
variable [Yl]
mutual
def SV.enc : SV -> PV
 | .d t x => .f (t.fv x)
 | .c v => fvv v
 | .agg l => .agg (qB l)
 | .tup l => .tup (qB l)
 | .own k _ n => .own k n 0 n
 | .sl k _ n o m => .own k n o m
 | .ref k off w => .ref k w off
 | .elt k _ n w j off => .ref k (n * w) (j * w + off)
 | .lp t xs j off => .lp (List.flatMap t.cells xs) (j * t.w + off)
 | .fn f a b => .fn f (qB a) (qB b)
 | .unk => .unk
 | .yv => .yl Yl.l
def qB : List SV -> List PV
 | [] => []
 | x :: l => x.enc :: qB l
end
theorem zV : ∀ (l : List SV), qB l = l.map SV.enc
 | [] => by simp [qB]
 | x :: l => by simp [qB, zV l]
end
inductive SO where
 | cells (el : TypeId) (w : Nat) (l : List SV)
 | list (el : TypeId) (gr : Bool) (g w : Nat) (t : Ty) (xs : List t.sem)
section
variable [Yl]
def SO.enc : SO -> PO
 | .cells el _ l => ⟨el, false, qB l⟩
 | .list el gr _ _ t xs => ⟨el, gr, (List.flatMap t.cells xs).map .f⟩
def SO.w : SO -> Nat
 | .cells _ w _ => w
 | .list _ _ _ w _ _ => w
structure SH where
 next : Nat
 l : List (Nat × SO)
def slk (k : Nat) : List (Nat × SO) -> Option SO
 | [] => none
 | (j, o) :: l => cond (k == j) (some o) (slk k l)
def sst (k : Nat) (o : SO) : List (Nat × SO) -> List (Nat × SO)
 | [] => []
 | (j, p) :: l => cond (k == j) ((j, o) :: l) ((j, p) :: sst k o l)
def sdl (k : Nat) : List (Nat × SO) -> List (Nat × SO)
 | [] => []
 | (j, p) :: l => cond (k == j) (sdl k l) ((j, p) :: sdl k l)
def qE : List (Nat × SO) -> PHp
 | [] => []
 | (j, o) :: l => (j, o.enc) :: qE l
theorem mE (k : Nat) : ∀ (l : List (Nat × SO)), qC k (qE l) = (slk k l).map SO.enc
 | [] => rfl
 | (j, o) :: l => by
   show cond (k == j) (some o.enc) (qC k (qE l)) = (cond (k == j) (some o) (slk k l)).map SO.enc
   cases k == j
   ·exact mE k l
   ·rfl
theorem mG (k : Nat) (o : SO) : ∀ (l : List (Nat × SO)), qE (sst k o l) = cB k o.enc (qE l)
 | [] => rfl
 | (j, p) :: l => by
   show qE (cond (k == j) ((j, o) :: l) ((j, p) :: sst k o l)) = cond (k == j) ((j, o.enc) :: qE l) ((j, p.enc) :: cB k o.enc (qE l))
   cases k == j
   ·show (j, p.enc) :: qE (sst k o l) = _
    rw [mG k o l]; rfl
   ·rfl
theorem mM (k : Nat) : ∀ (l : List (Nat × SO)), qE (sdl k l) = qD1 k (qE l)
 | [] => rfl
 | (j, p) :: l => by
   show qE (cond (k == j) (sdl k l) ((j, p) :: sdl k l)) = cond (k == j) (qD1 k (qE l)) ((j, p.enc) :: qD1 k (qE l))
   cases k == j
   ·show (j, p.enc) :: qE (sdl k l) = _
    rw [mM k l]; rfl
   ·exact mM k l
end
theorem qCE {k j : Nat} {o : SO} (hj : j ≠ k) : ∀ (l : List (Nat × SO)), slk j (sst k o l) = slk j l
 | [] => rfl
 | (i, p) :: l => by
   show slk j (cond (k == i) ((i, o) :: l) ((i, p) :: sst k o l)) = cond (j == i) (some p) (slk j l)
   cases h : k == i with
   | true =>
     have : k = i := by simpa using h
     subst this
     show cond (j == k) (some o) (slk j l) = _
     rw [show (j == k) = false by simpa using hj]; rfl
   | false =>
     show cond (j == i) (some p) (slk j (sst k o l)) = _
     rw [qCE hj l]
theorem qRC {k : Nat} {o p : SO} : ∀ {l : List (Nat × SO)}, slk k l = some p -> slk k (sst k o l) = some o
 | (i, q) :: l, h => by
   have h : cond (k == i) (some q) (slk k l) = some p := h
   show slk k (cond (k == i) ((i, o) :: l) ((i, q) :: sst k o l)) = some o
   cases hi : k == i with
   | true =>
     show cond (k == i) (some o) (slk k l) = some o
     rw [hi]; rfl
   | false =>
     rw [hi] at h
     show cond (k == i) (some q) (slk k (sst k o l)) = some o
     rw [hi]; exact qRC (l := l) h
theorem vJ {k j : Nat} (hj : j ≠ k) : ∀ (l : List (Nat × SO)), slk j (sdl k l) = slk j l
 | [] => rfl
 | (i, p) :: l => by
   show slk j (cond (k == i) (sdl k l) ((i, p) :: sdl k l)) = cond (j == i) (some p) (slk j l)
   cases h : k == i with
   | true =>
     have : k = i := by simpa using h
     subst this
     rw [show (j == k) = false by simpa using hj]
     exact vJ hj l
   | false =>
     show cond (j == i) (some p) (slk j (sdl k l)) = _
     rw [vJ hj l]
theorem qJA (k : Nat) : ∀ (l : List (Nat × SO)), slk k (sdl k l) = none
 | [] => rfl
 | (i, p) :: l => by
   show slk k (cond (k == i) (sdl k l) ((i, p) :: sdl k l)) = none
   cases h : k == i with
   | true => exact qJA k l
   | false =>
     show cond (k == i) (some p) (slk k (sdl k l)) = none
     rw [h]; exact qJA k l
theorem xE {k j : Nat} {o : SO} {l : List (Nat × SO)} (hj : j ≠ k) : slk j ((k, o) :: l) = slk j l := by
 show cond (j == k) (some o) (slk j l) = _
 rw [show (j == k) = false by simpa using hj]; rfl
theorem uM {k : Nat} {o : SO} {l : List (Nat × SO)} : slk k ((k, o) :: l) = some o := by
 show cond (k == k) (some o) (slk k l) = _
 simp
def qWI (h : SH) (k g n : Nat) : Prop := g < h.next ∧ ∀ el gr w t xs, slk k h.l = some (.list el gr g w t xs) -> n = xs.length
mutual
def SV.ok (h : SH) : SV -> Prop
 | .agg l => okL h l
 | .tup l => okL h l
 | .own k g n => qWI h k g n
 | .sl k g n o m => qWI h k g n ∧ o + m <= n
 | .elt k g n _ _ _ => qWI h k g n
 | .fn _ a b => okL h a ∧ okL h b
 | _ => True
def okL (h : SH) : List SV -> Prop
 | [] => True
 | x :: l => x.ok h ∧ okL h l
end
theorem kD {h : SH} : ∀ {l : List SV}, okL h l ↔ ∀ x ∈ l, x.ok h
 | [] => by simp [okL]
 | x :: l => by simp [okL, kD (l := l)]
structure OkH (P : Program) (h : SH) : Prop where
 ver : ∀ k ob, slk k h.l = some ob -> ob.w < h.next
 cells : ∀ k el w l, slk k h.l = some (.cells el w l) -> okL h l
 list : ∀ k el gr g w t xs, slk k h.l = some (.list el gr g w t xs) -> g < h.next ∧ szT P el = some t.w ∧ 0 < t.w
structure Keep (h h' : SH) : Prop where
 next : h.next <= h'.next
 same : ∀ k ob, slk k h'.l = some ob -> ob.w < h.next -> slk k h.l = some ob
 len : ∀ k el gr g w t xs, slk k h'.l = some (.list el gr g w t xs) -> g < h.next -> ∃ w0, ∃ xs0 : List t.sem, slk k h.l = some (.list el gr g w0 t xs0) ∧ xs0.length = xs.length
theorem Keep.refl (h : SH) : Keep h h := ⟨Nat.le_refl _, fun _ _ h _ => h, fun k el gr g w t xs h _ => ⟨w, xs, h, rfl⟩⟩
theorem Keep.trans {a b c : SH} (x : Keep a b) (y : Keep b c) : Keep a c :=
 ⟨Nat.le_trans x.next y.next, fun k ob h hw => x.same k ob (y.same k ob h (Nat.lt_of_lt_of_le hw x.next)) hw, fun k el gr g w t xs h hg => by
   obtain ⟨w1, xs1, h1, e1⟩ := y.len k el gr g w t xs h (Nat.lt_of_lt_of_le hg x.next)
   obtain ⟨w2, xs2, h2, e2⟩ := x.len k el gr g w1 t xs1 h1 hg
   exact ⟨w2, xs2, h2, e2.trans e1⟩⟩
theorem qWI.keep {h h' : SH} {k g n : Nat} (a : qWI h k g n) (b : Keep h h') : qWI h' k g n :=
 ⟨Nat.lt_of_lt_of_le a.1 b.next, fun el gr w t xs hk => by
   obtain ⟨w0, xs0, h0, e0⟩ := b.len k el gr g w t xs hk a.1
   rw [<- e0]; exact a.2 el gr w0 t xs0 h0⟩
mutual
theorem SV.ok.keep {h h' : SH} (b : Keep h h') : ∀ {x : SV}, x.ok h -> x.ok h'
 | .agg l, a => by simp only [SV.ok] at a ⊢; exact zA b a
 | .tup l, a => by simp only [SV.ok] at a ⊢; exact zA b a
 | .own k g n, a => by simp only [SV.ok] at a ⊢; exact a.keep b
 | .sl k g n o m, a => by simp only [SV.ok] at a ⊢; exact ⟨a.1.keep b, a.2⟩
 | .elt k g n w j off, a => by simp only [SV.ok] at a ⊢; exact a.keep b
 | .fn f x y, a => by simp only [SV.ok] at a ⊢; exact ⟨zA b a.1, zA b a.2⟩
 | .d _ _, _ => by simp [SV.ok]
 | .c _, _ => by simp [SV.ok]
 | .ref _ _ _, _ => by simp [SV.ok]
 | .lp _ _ _ _, _ => by simp [SV.ok]
 | .unk, _ => by simp [SV.ok]
 | .yv, _ => by simp [SV.ok]
theorem zA {h h' : SH} (b : Keep h h') : ∀ {l : List SV}, okL h l -> okL h' l
 | [], _ => by simp [okL]
 | x :: l, a => by simp only [okL] at a ⊢; exact ⟨SV.ok.keep b a.1, zA b a.2⟩
end
def SH.new (h : SH) (k : Nat) (f : Nat -> SO) : SH := ⟨h.next + 1, (k, f h.next) :: h.l⟩
def SH.put (h : SH) (k : Nat) (f : Nat -> SO) : SH := ⟨h.next + 1, sst k (f h.next) h.l⟩
def SH.del (h : SH) (k : Nat) : SH := ⟨h.next, sdl k h.l⟩
def q2V (P : Program) (h : SH) (n : Nat) : SO -> Prop
 | .cells _ w l => w = n ∧ okL h l
 | .list el _ g w t _ => w = n ∧ g = n ∧ szT P el = some t.w ∧ 0 < t.w
theorem qUI {h : SH} {k : Nat} {f : Nat -> SO} (hw : (f h.next).w = h.next) (hg : ∀ el gr g w t xs, f h.next = .list el gr g w t xs -> g = h.next) : Keep h (h.new k f) :=
 ⟨Nat.le_succ _, fun j ob hj hlt => by
   by_cases e : j = k
   ·subst e; rw [show slk j (h.new j f).l = some (f h.next) from uM] at hj
    cases hj; omega
   ·rwa [show slk j (h.new k f).l = slk j h.l from xE e] at hj, fun j el gr g w t xs hj hlt => by
   by_cases e : j = k
   ·subst e; rw [show slk j (h.new j f).l = some (f h.next) from uM] at hj
    have := hg _ _ _ _ _ _ (Option.some.inj hj)
    omega
   ·rw [show slk j (h.new k f).l = slk j h.l from xE e] at hj
    exact ⟨w, xs, hj, rfl⟩⟩
theorem vU {h : SH} {k : Nat} {f : Nat -> SO} (a : OkH P h) (hf : q2V P h h.next (f h.next)) : Keep h (h.new k f) ∧ OkH P (h.new k f) := by
 have hw : (f h.next).w = h.next := by
  cases hq : f h.next with
  | cells el w l => rw [hq] at hf; exact hf.1
  | list el gr g w t xs => rw [hq] at hf; exact hf.1
 have hk : Keep h (h.new k f) := qUI hw fun el gr g w t xs e => by rw [e] at hf; exact hf.2.1
 refine ⟨hk, ⟨fun j ob hj => ?_, fun j el w l hj => ?_, fun j el gr g w t xs hj => ?_⟩⟩
 ·by_cases e : j = k
  ·subst e; rw [show slk j (h.new j f).l = some (f h.next) from uM] at hj
   cases hj; rw [hw]; exact Nat.lt_succ_self _
  ·rw [show slk j (h.new k f).l = slk j h.l from xE e] at hj
   exact Nat.lt_succ_of_lt (a.ver j ob hj)
 ·by_cases e : j = k
  ·subst e; rw [show slk j (h.new j f).l = some (f h.next) from uM] at hj
   rw [Option.some.inj hj] at hf
   exact zA hk hf.2
  ·rw [show slk j (h.new k f).l = slk j h.l from xE e] at hj
   exact zA hk (a.cells j el w l hj)
 ·by_cases e : j = k
  ·subst e; rw [show slk j (h.new j f).l = some (f h.next) from uM] at hj
   rw [Option.some.inj hj] at hf
   exact ⟨by rw [hf.2.1]; exact Nat.lt_succ_self _, hf.2.2⟩
  ·rw [show slk j (h.new k f).l = slk j h.l from xE e] at hj
   have := a.list j el gr g w t xs hj
   exact ⟨Nat.lt_succ_of_lt this.1, this.2⟩
def q28 (h : SH) (n : Nat) : SO -> SO -> Prop
 | .cells _ _ _, .cells _ w' l' => w' = n ∧ okL h l'
 | .list el gr g _ t xs, ob' => ∃ xs' : List t.sem, ob' = .list el gr g n t xs' ∧ xs.length = xs'.length
 | _, _ => False
theorem qDW {h : SH} {k : Nat} {f : Nat -> SO} {ob : SO} (a : OkH P h) (hk : slk k h.l = some ob) (hf : q28 h h.next ob (f h.next)) : Keep h (h.put k f) ∧ OkH P (h.put k f) := by
 have hs : slk k (h.put k f).l = some (f h.next) := qRC hk
 have hn : ∀ j, j ≠ k -> slk j (h.put k f).l = slk j h.l := fun j hj => qCE hj _
 have hw : (f h.next).w = h.next := by
  cases ob with
  | cells el w l =>
    cases hq : f h.next with
    | cells el' w' l' => rw [hq] at hf; exact hf.1
    | list => rw [hq] at hf; exact hf.elim
  | list el gr g w t xs =>
    obtain ⟨xs', e, _⟩ := hf
    rw [e]; rfl
 have hkp : Keep h (h.put k f) := by
  refine ⟨Nat.le_succ _, fun j o hj hlt => ?_, fun j el gr g w t xs hj hlt => ?_⟩
  ·by_cases e : j = k
   ·subst e; rw [hs] at hj; cases hj; omega
   ·rwa [hn j e] at hj
  ·by_cases e : j = k
   ·subst e
    rw [hs] at hj
    have hj := Option.some.inj hj
    cases ob with
    | cells el0 w0 l0 =>
      rw [hj] at hf
      exact hf.elim
    | list el0 gr0 g0 w0 t0 xs0 =>
      obtain ⟨xs', e2, e3⟩ := hf
      rw [e2] at hj
      injection hj with a1 a2 a3 a4 a5 a6
      subst a1 a2 a3 a5
      cases a6
      exact ⟨w0, xs0, hk, e3⟩
   ·rw [hn j e] at hj; exact ⟨w, xs, hj, rfl⟩
 refine ⟨hkp, ⟨fun j o hj => ?_, fun j el w l hj => ?_, fun j el gr g w t xs hj => ?_⟩⟩
 ·by_cases e : j = k
  ·subst e; rw [hs] at hj; cases hj; rw [hw]; exact Nat.lt_succ_self _
  ·rw [hn j e] at hj; exact Nat.lt_succ_of_lt (a.ver j o hj)
 ·by_cases e : j = k
  ·subst e
   rw [hs] at hj
   have hj := Option.some.inj hj
   cases ob with
   | cells el0 w0 l0 => rw [hj] at hf; exact zA hkp hf.2
   | list el0 gr0 g0 w0 t0 xs0 =>
     obtain ⟨xs', e2, e3⟩ := hf
     rw [e2] at hj; cases hj
  ·rw [hn j e] at hj; exact zA hkp (a.cells j el w l hj)
 ·by_cases e : j = k
  ·subst e
   rw [hs] at hj
   have hj := Option.some.inj hj
   cases ob with
   | cells el0 w0 l0 => rw [hj] at hf; exact hf.elim
   | list el0 gr0 g0 w0 t0 xs0 =>
     obtain ⟨xs', e2, e3⟩ := hf
     rw [e2] at hj
     injection hj with a1 a2 a3 a4 a5 a6
     subst a1 a2 a3 a5
     have := a.list j _ _ _ _ _ _ hk
     exact ⟨Nat.lt_succ_of_lt this.1, this.2⟩
  ·rw [hn j e] at hj
   have := a.list j el gr g w t xs hj
   exact ⟨Nat.lt_succ_of_lt this.1, this.2⟩
theorem oW {h : SH} {k : Nat} (a : OkH P h) : Keep h (h.del k) ∧ OkH P (h.del k) := by
 have hl : ∀ j ob, slk j (h.del k).l = some ob -> slk j h.l = some ob := fun j ob hj => by
  by_cases e : j = k
  ·subst e; rw [show slk j (h.del j).l = none from qJA j _] at hj; cases hj
  ·rwa [show slk j (h.del k).l = slk j h.l from vJ e _] at hj
 have hkp : Keep h (h.del k) := ⟨Nat.le_refl _, fun j ob hj _ => hl j ob hj, fun j el gr g w t xs hj _ => ⟨w, xs, hl _ _ hj, rfl⟩⟩
 exact ⟨hkp, ⟨fun j ob hj => a.ver j ob (hl j ob hj), fun j el w l hj => zA hkp (a.cells j el w l (hl _ _ hj)), fun j el gr g w t xs hj => a.list j el gr g w t xs (hl _ _ hj)⟩⟩
def GV (Γ : Option Type) : Type := match Γ with
 | none => Unit
 | some γ => γ
def GS (Γ : Option Type) (S : Type) : Type := match Γ with
 | none => S
 | some γ => γ × S
def gj : {Γ : Option Type} -> {S : Type} -> GV Γ -> S -> GS Γ S
 | none, _, _, s => s
 | some _, _, g, s => (g, s)
def g1 : {Γ : Option Type} -> {S : Type} -> GS Γ S -> GV Γ
 | none, _, _ => ()
 | some _, _, p => p.1
def g2 : {Γ : Option Type} -> {S : Type} -> GS Γ S -> S
 | none, _, s => s
 | some _, _, p => p.2
theorem qX6 {Γ : Option Type} {S : Type} {g : GV Γ} {s : S} : g1 (gj g s) = g := by cases Γ <;> rfl
theorem qW7 {Γ : Option Type} {S : Type} {g : GV Γ} {s : S} : g2 (gj g s) = s := by cases Γ <;> rfl
structure Ent where
 as : List Ty
 rs : List Ty
 F : TyL as -> Option (TyL rs)
abbrev xZ := List (FuncId × Ent)
def slT (g : FuncId) : xZ -> Option Ent
 | [] => none
 | (k, e) :: l => cond (Nat.beq g k) (some e) (slT g l)
structure Sh where
 d : List Nat
 o : List Nat
 s : List (Nat × Nat)
 v : List (Nat × TypeId)
 ex : List Nat
 b : List (Nat × List (Option Nat)) := []
 bv : List (Nat × Nat × TypeId × Nat) := []
structure An where
 fz : List (Nat × List (Nat × TypeId))
 lp : List (Nat × Sh)
 rg : List (Nat × Sh) := []
def lkA {α : Type} (i : Nat) : List (Nat × α) -> Option α
 | [] => none
 | (j, x) :: l => cond (Nat.beq i j) (some x) (lkA i l)
structure IEnt where
 as : List Ty
 ys : List Ty
 yt : List TypeId
 F : TyL as -> (γ : Type) -> (γ -> TyL ys -> Option (γ × Bool)) -> γ -> Option γ
def slI (g : FuncId) : List (FuncId × IEnt) -> Option IEnt
 | [] => none
 | (k, e) :: l => cond (Nat.beq g k) (some e) (slI g l)
structure YI (Γ : Type) where
 ys : List Ty
 yt : List TypeId
 stp : Γ -> TyL ys -> Option (Γ × Bool)
def yi0 : YI Unit := ⟨[], [], fun _ _ => none⟩
abbrev CIT : Type 1 := (R : Type) -> Nm -> FuncId -> List SV -> SH -> (SV -> SH -> Tree R) -> Tree R
end Go.Sv
namespace Go.Sv
open Go.Idl
noncomputable section
variable [Yl]
variable {P : Program} {h : SH} {R : Type} {r : R}
def q09 : Value -> SV
 | .agg cs => cond (wD okC cs.toList) (.agg (jZ .c cs.toList)) .unk
 | .tuple cs => cond (wD okC cs.toList) (.tup (jZ .c cs.toList)) .unk
 | v => cond (okC v) (.c v) .unk
def wX (env : List SV) : Operand -> SV
 | .tmp t => (yN env t).getD .unk
 | .const v => q09 v
 | .global _ => .unk
 | .func g => .c (.func (.func g) #[] #[])
theorem q2D : ∀ (l : List Value), qB (jZ .c l) = jZ fvv l
 | [] => by simp [jZ, qB]
 | v :: l => by
   show qB (.c v :: jZ .c l) = fvv v :: jZ fvv l
   simp [qB, q2D l, SV.enc]
omit [Yl] in
theorem q2E : ∀ (l : List Value), okL h (jZ .c l)
 | [] => by simp [jZ, okL]
 | v :: l => by
   show okL h (.c v :: jZ .c l)
   simp [okL, q2E l, SV.ok]
theorem qVC (v : Value) : ofC v = (q09 v).enc := by
 cases v with
 | agg cs =>
   show cond _ _ _ = (cond (wD okC cs.toList) (SV.agg (jZ .c cs.toList)) SV.unk).enc
   cases wD okC cs.toList
   ·simp [SV.enc]
   ·simp [SV.enc, q2D]
 | tuple cs =>
   show cond _ _ _ = (cond (wD okC cs.toList) (SV.tup (jZ .c cs.toList)) SV.unk).enc
   cases wD okC cs.toList
   ·simp [SV.enc]
   ·simp [SV.enc, q2D]
 | _ =>
   simp only [ofC, q03, q09]
   cases okC _ <;> simp [SV.enc]
omit [Yl] in
theorem qX4 (v : Value) : (q09 v).ok h := by
 cases v with
 | agg cs =>
   show (cond (wD okC cs.toList) (.agg (jZ .c cs.toList)) .unk : SV).ok h
   cases wD okC cs.toList
   ·simp [SV.ok]
   ·simp [SV.ok, q2E]
 | tuple cs =>
   show (cond (wD okC cs.toList) (.tup (jZ .c cs.toList)) .unk : SV).ok h
   cases wD okC cs.toList
   ·simp [SV.ok]
   ·simp [SV.ok, q2E]
 | _ =>
   simp only [q09]
   cases okC _ <;> simp [SV.ok]
theorem jC (env : List SV) (t : Nat) : yN (qB env) t = (yN env t).map SV.enc := by
 rw [qG, qG, zV, List.getElem?_map]
omit [Yl] in
theorem qA0 {env : List SV} {t : Nat} {x : SV} (ho : okL h env) (hx : yN env t = some x) : x.ok h := by
 rw [qG] at hx
 exact kD.1 ho x (List.mem_of_getElem? hx)
theorem zQ (env : List SV) (x : Operand) : zD (qB env) x = (wX env x).enc := by
 cases x with
 | tmp t =>
   show (yN (qB env) t).getD .unk = ((yN env t).getD .unk).enc
   rw [jC]
   cases yN env t <;> simp [SV.enc]
 | const v => exact qVC v
 | global g => simp [zD, wX, SV.enc]
 | func g => simp [zD, wX, SV.enc]
omit [Yl] in
theorem tY {env : List SV} (ho : okL h env) (x : Operand) : (wX env x).ok h := by
 cases x with
 | tmp t =>
   show ((yN env t).getD .unk).ok h
   cases hx : yN env t with
   | none => simp [SV.ok]
   | some y => exact qA0 ho hx
 | const v => exact qX4 v
 | global g => simp [wX, SV.ok]
 | func g => simp [wX, SV.ok]
def asI : SV -> Option (IntKind × Int)
 | .d (.int k) x => some (k, x)
 | .c (.int k x) => some (k, x)
 | _ => none
def asB : SV -> Option Bool
 | .d .bool x => some x
 | .c (.bool x) => some x
 | _ => none
def asS : SV -> Option ByteArray
 | .d .str x => some x
 | .c (.string x) => some x
 | _ => none
theorem vZ {v : SV} {k : IntKind} {x : Int} (e : asI v = some (k, x)) : v.enc = fvv (.int k x) := by
 unfold asI at e
 split at e
 ·cases e; simp [SV.enc, Ty.fv, fvv]
 ·cases e; simp [SV.enc]
 ·cases e
theorem qAF {v : SV} {x : Bool} (e : asB v = some x) : v.enc = fvv (.bool x) := by
 unfold asB at e
 split at e
 ·cases e; simp [SV.enc, Ty.fv, fvv]
 ·cases e; simp [SV.enc]
 ·cases e
theorem qYQ {v : SV} {x : ByteArray} (e : asS v = some x) : v.enc = fvv (.string x) := by
 unfold asS at e
 split at e
 ·cases e; simp [SV.enc, Ty.fv, fvv]
 ·cases e; simp [SV.enc]
 ·cases e
def Ty.svs : (t : Ty) -> t.sem -> List SV
 | .int k, x => [.d (.int k) x]
 | .bool, x => [.d .bool x]
 | .str, x => [.d .str x]
 | .unit, _ => []
 | .list el t, x => [.d (.list el t) x]
 | .pair a b, x => a.svs x.1 ++ b.svs x.2
theorem eU (a b : List SV) : qB (a ++ b) = qB a ++ qB b := by simp [zV]
theorem qAZ : ∀ (t : Ty) (x : t.sem), qB (t.svs x) = (t.cells x).map .f
 | .int k, x => by simp [Ty.svs, Ty.cells, qB, SV.enc, Ty.fv]
 | .bool, x => by simp [Ty.svs, Ty.cells, qB, SV.enc, Ty.fv]
 | .str, x => by simp [Ty.svs, Ty.cells, qB, SV.enc, Ty.fv]
 | .unit, x => by simp [Ty.svs, Ty.cells, qB]
 | .list el t, x => by simp [Ty.svs, Ty.cells, qB, SV.enc, Ty.fv]
 | .pair a b, x => by
   show qB (a.svs x.1 ++ b.svs x.2) = (a.cells x.1 ++ b.cells x.2).map .f
   rw [eU, qAZ a, qAZ b, List.map_append]
omit [Yl] in
theorem aV {a b : List SV} (x : okL h a) (y : okL h b) : okL h (a ++ b) := kD.2 fun z hz => by
 rcases List.mem_append.1 hz with q | q
 ·exact kD.1 x z q
 ·exact kD.1 y z q
omit [Yl] in
theorem qMG : ∀ (t : Ty) (x : t.sem), okL h (t.svs x)
 | .int k, x => by simp [Ty.svs, okL, SV.ok]
 | .bool, x => by simp [Ty.svs, okL, SV.ok]
 | .str, x => by simp [Ty.svs, okL, SV.ok]
 | .unit, x => by simp [Ty.svs, okL]
 | .list el t, x => by simp [Ty.svs, okL, SV.ok]
 | .pair a b, x => aV (qMG a x.1) (qMG b x.2)
def q3X (k : IntKind) (v : SV) : Option Int := match asI v with
 | some (k', x) => cond (decide (k' = k)) (some x) none
 | none => none
def q26 (el : TypeId) (t : Ty) : SV -> Option (List t.sem)
 | .d (.list el' t') xs => if e : t' = t then cond (Nat.beq el' el) (some (e ▸ xs)) none else none
 | _ => none
def Ty.decS : (t : Ty) -> SV -> Option t.sem
 | .int k, v => q3X k v
 | .bool, v => asB v
 | .str, v => asS v
 | .list el t, v => q26 el t v
 | .unit, _ => none
 | .pair _ _, _ => none
theorem qT7 {k : IntKind} {v : SV} {x : Int} (e : q3X k v = some x) : v.enc = fvv (.int k x) := by
 unfold q3X at e
 split at e
 ·rename_i k' x' hx
  cases hk : decide (k' = k) with
  | false => rw [hk] at e; cases e
  | true =>
    rw [hk] at e
    cases e
    have : k' = k := by simpa using hk
    subst this
    exact vZ hx
 ·cases e
omit [Yl] in
theorem qUL {el : TypeId} {t : Ty} {v : SV} {x : List t.sem} (e : q26 el t v = some x) : v = .d (.list el t) x := by
 unfold q26 at e
 split at e
 ·rename_i el' t' xs
  split at e
  ·rename_i ht
   subst ht
   cases hk : Nat.beq el' el with
   | false => rw [hk] at e; cases e
   | true =>
     rw [hk] at e
     cases e
     have : el' = el := Nat.eq_of_beq_eq_true hk
     subst this
     rfl
  ·cases e
 ·cases e
theorem qD7 : ∀ {t : Ty} {v : SV} {x : t.sem}, t.decS v = some x -> v.enc = .f (t.fv x) ∧ t.one = true
 | .int k, v, x, e => ⟨qT7 e, rfl⟩
 | .bool, v, x, e => ⟨qAF e, rfl⟩
 | .str, v, x, e => ⟨qYQ e, rfl⟩
 | .list el t, v, x, e => ⟨by rw [qUL e]; simp [SV.enc], rfl⟩
 | .unit, v, x, e => by cases e
 | .pair a b, v, x, e => by cases e
def qZ2 (t : Ty) : List SV -> Option (t.sem × List SV)
 | v :: l => match t.decS v with
   | some x => some (x, l)
   | none => none
 | [] => none
def Ty.decL : (t : Ty) -> List SV -> Option (t.sem × List SV)
 | .int k, l => qZ2 (.int k) l
 | .bool, l => qZ2 .bool l
 | .str, l => qZ2 .str l
 | .list el t, l => qZ2 (.list el t) l
 | .unit, l => some ((), l)
 | .pair a b, l => match a.decL l with
   | some (x, l1) => (match b.decL l1 with
     | some (y, l2) => some ((x, y), l2)
     | none => none)
   | none => none
theorem rX {t : Ty} {l l' : List SV} {x : t.sem} (e : qZ2 t l = some (x, l')) : qB l = (t.cells x).map .f ++ qB l' := by
 cases l with
 | nil => cases e
 | cons v l =>
   unfold qZ2 at e
   simp only at e
   split at e
   ·rename_i y hy
    cases e
    obtain ⟨h1, h2⟩ := qD7 hy
    rw [Ty.cells_one h2]
    simp [qB, h1]
   ·cases e
theorem rW : ∀ {t : Ty} {l l' : List SV} {x : t.sem}, t.decL l = some (x, l') -> qB l = (t.cells x).map .f ++ qB l'
 | .int k, l, l', x, e => rX e
 | .bool, l, l', x, e => rX e
 | .str, l, l', x, e => rX e
 | .list el t, l, l', x, e => rX e
 | .unit, l, l', x, e => by cases e; simp [Ty.cells]
 | .pair a b, l, l', x, e => by
   unfold Ty.decL at e
   split at e
   ·rename_i x1 l1 h1
    split at e
    ·rename_i y l2 h2
     cases e
     show qB l = (a.cells x1 ++ b.cells y).map .f ++ qB l'
     rw [rW h1, rW h2, List.map_append, List.append_assoc]
    ·cases e
   ·cases e
def Ty.decA (t : Ty) (l : List SV) : Option t.sem := match t.decL l with
 | some (x, []) => some x
 | _ => none
theorem qFM {t : Ty} {l : List SV} {x : t.sem} (e : t.decA l = some x) : qB l = (t.cells x).map .f := by
 unfold Ty.decA at e
 split at e
 ·rename_i y hy
  cases e
  rw [rW hy]; simp [qB]
 ·cases e
def qHJ (P : Program) (t : TypeId) (l : List SV) (off : Nat) : Option SV := match qNN P t with
 | some true => (match szT P t with
   | some n => cond (Nat.ble (off + n) l.length) (some (.agg ((l.drop off).take n))) none
   | none => none)
 | some false => yN l off
 | none => none
omit [Yl] in
theorem qJH {a b : List SV} (x : okL h a) (hs : ∀ z ∈ b, z ∈ a) : okL h b := kD.2 fun z hz => kD.1 x z (hs z hz)
theorem r9 {t : TypeId} {l : List SV} {off : Nat} {v : SV} (e : qHJ P t l off = some v) : o8 P t (qB l) off = some v.enc ∧ (okL h l -> v.ok h) := by
 unfold qHJ at e
 unfold o8
 split at e
 ·rename_i ha
  rw [ha]
  simp only
  split at e
  ·rename_i n hn
   rw [hn]
   simp only
   cases hc : Nat.ble (off + n) l.length with
   | false => rw [hc] at e; cases e
   | true =>
     rw [hc] at e
     cases e
     refine ⟨by rw [zV, List.length_map, hc]; simp [SV.enc, zV, List.map_drop, List.map_take], fun ho => ?_⟩
     simp only [SV.ok]
     exact qJH ho fun z hz => List.mem_of_mem_drop (List.mem_of_mem_take hz)
  ·cases e
 ·rename_i ha
  rw [ha]
  simp only
  rw [jC, e]
  exact ⟨rfl, fun ho => qA0 ho e⟩
 ·cases e
theorem qIP {t : TypeId} {t' : Ty} {xs : List t'.sem} {j off : Nat} {x : t'.sem} {v : SV} (hx : xs[j]? = some x) (e : qHJ P t (t'.svs x) off = some v) :
 o8 P t ((xs.flatMap t'.cells).map .f) (j * t'.w + off) = some v.enc ∧ qJK P t (xs.flatMap t'.cells) (j * t'.w + off) = some v.enc ∧ v.ok h := by
 have h0 := r9 (h := h) e
 refine ⟨?_, ?_, h0.2 (qMG t' x)⟩
 all_goals
  have h1 := h0.1
  rw [qAZ] at h1
  unfold o8 at h1
 ·unfold o8
  split at h1
  ·rename_i ha
   split at h1
   ·rename_i n hn
    cases hc : Nat.ble (off + n) ((t'.cells x).map PV.f).length with
    | false => rw [hc] at h1; cases h1
    | true =>
      rw [hc] at h1
      have hle : off + n <= t'.w := by
       have := Nat.le_of_ble_eq_true hc
       rw [List.length_map, t'.cells_len] at this
       exact this
      rw [show Nat.ble (j * t'.w + off + n) ((xs.flatMap t'.cells).map PV.f).length = true from Nat.ble_eq_true_of_le (by rw [List.length_map]; exact qJO hx hle)]
      simp only [cond_true] at h1 ⊢
      rw [<- h1, <- List.map_drop, <- List.map_take, qIM hx hle, <- List.map_drop, <- List.map_take]
   ·cases h1
  ·rename_i ha
   rw [qG, List.getElem?_map] at h1 ⊢
   have hlt : off < t'.w := by
    rw [<- t'.cells_len x]
    cases hq : (t'.cells x)[off]? with
    | none => rw [hq] at h1; cases h1
    | some y => exact (List.getElem?_eq_some_iff.1 hq).1
   rw [Go.Sv.flat_get hx hlt]; exact h1
  ·cases h1
 ·unfold qJK
  split at h1
  ·rename_i ha
   split at h1
   ·rename_i n hn
    cases hc : Nat.ble (off + n) ((t'.cells x).map PV.f).length with
    | false => rw [hc] at h1; cases h1
    | true =>
      rw [hc] at h1
      have hle : off + n <= t'.w := by
       have := Nat.le_of_ble_eq_true hc
       rw [List.length_map, t'.cells_len] at this
       exact this
      rw [show Nat.ble (j * t'.w + off + n) (xs.flatMap t'.cells).length = true from Nat.ble_eq_true_of_le (qJO hx hle)]
      simp only [cond_true] at h1 ⊢
      rw [<- h1, qIM hx hle, <- List.map_drop, <- List.map_take]
   ·cases h1
  ·rename_i ha
   rw [qG, List.getElem?_map] at h1
   cases hq : (t'.cells x)[off]? with
   | none => rw [hq] at h1; cases h1
   | some y =>
     rw [hq] at h1
     have hlt : off < t'.w := by
      rw [<- t'.cells_len x]
      exact (List.getElem?_eq_some_iff.1 hq).1
     rw [Go.Sv.flat_get hx hlt, hq]
     exact h1
  ·cases h1
def qXK (P : Program) (t : TypeId) (a : SV) (h : SH) (K : SV -> Tree R) : Tree R := match a with
 | .ref k off w => (match slk k h.l with
   | some (.cells _ _ l) => (match qHJ P t l off with
     | some v => cond (Nat.beq w l.length) (K v) .fail
     | none => .fail)
   | _ => .fail)
 | .elt k g n w j off => (match slk k h.l with
   | some (.list _ _ g' _ t' xs) => cond (Nat.beq g g' && Nat.beq w t'.w) (.bind (xs[j]?) fun x => match qHJ P t (t'.svs x) off with
     | some v => K v
     | none => .fail) .fail
   | _ => .fail)
 | .lp t' xs j off => .bind (xs[j]?) fun x => match qHJ P t (t'.svs x) off with
   | some v => K v
   | none => .fail
 | _ => .fail
theorem yM (l : List SV) : (qB l).length = l.length := by rw [zV, List.length_map]
theorem vY {k : Nat} {ob : SO} {l : List (Nat × SO)} (e : slk k l = some ob) : qC k (qE l) = some ob.enc := by rw [mE, e]; rfl
theorem zR {el : TypeId} {gr : Bool} {g w : Nat} {t : Ty} {xs : List t.sem} : (SO.list el gr g w t xs).enc.cs.length = xs.length * t.w := by
 show ((xs.flatMap t.cells).map PV.f).length = _
 rw [List.length_map, kP]
theorem qU2 {t : TypeId} {a : SV} {K : SV -> Tree R} (ho : OkH P h) (ha : a.ok h) (e : (qXK P t a h K).run = some r) : ∃ v, nG P t a.enc (qE h.l) = some v.enc ∧ v.ok h ∧ (K v).run = some r := by
 unfold qXK at e
 split at e
 ·rename_i k off w
  split at e
  ·rename_i el w' l hk
   split at e
   ·rename_i v hv
    obtain ⟨h1, h2⟩ := qN e
    obtain ⟨h3, h4⟩ := r9 (h := h) hv
    refine ⟨v, ?_, h4 (ho.cells _ _ _ _ hk), h2⟩
    simp only [SV.enc, nG, vY hk]
    show cond (Nat.beq w (qB l).length) (o8 P t (qB l) off) none = _
    rw [yM, h1]
    exact h3
   ·cases e
  ·cases e
 ·rename_i k g n w j off
  split at e
  ·rename_i el gr g' w' t' xs hk
   obtain ⟨h1, h2⟩ := qN e
   rw [Bool.and_eq_true] at h1
   have hg : g = g' := Nat.eq_of_beq_eq_true h1.1
   have hw : w = t'.w := Nat.eq_of_beq_eq_true h1.2
   subst hg hw
   obtain ⟨x, hx, h3⟩ := run_bind h2
   split at h3
   ·rename_i v hv
    have h5 := qIP (h := h) hx hv
    refine ⟨v, ?_, h5.2.2, h3⟩
    simp only [SV.ok] at ha
    have hn : n = xs.length := ha.2 _ _ _ _ _ hk
    simp only [SV.enc, nG, vY hk]
    rw [zR, hn]
    simp only [qAL, cond_true]
    exact h5.1
   ·cases h3
  ·cases e
 ·rename_i t' xs j off
  obtain ⟨x, hx, h3⟩ := run_bind e
  split at h3
  ·rename_i v hv
   have h5 := qIP (h := h) hx hv
   exact ⟨v, by simp only [SV.enc, nG]; exact h5.2.1, h5.2.2, h3⟩
  ·cases h3
 ·cases e
def Post (P : Program) (h h' : SH) (v : SV) : Prop := Keep h h' ∧ OkH P h' ∧ v.ok h'
def xM : SV -> List SV
 | .agg l => l
 | v => [v]
theorem bJ (v : SV) : y8 v.enc = qB (xM v) := by
 cases v <;> simp [SV.enc, y8, xM, qB, fvv]
omit [Yl] in
theorem qA2 {v : SV} (hv : v.ok h) : okL h (xM v) := by
 cases v <;> simp only [xM, okL, SV.ok, and_true] at hv ⊢ <;> exact hv
def tQ (l : List SV) (i : Nat) (vs : List SV) : List SV := l.take i ++ vs ++ l.drop (i + vs.length)
theorem tF (l vs : List SV) (i : Nat) : qB (tQ l i vs) = jJ (qB l) i (qB vs) := by
 simp [tQ, jJ, zV, List.map_take, List.map_drop]
omit [Yl] in
theorem qM2 {l vs : List SV} {i : Nat} (a : okL h l) (b : okL h vs) : okL h (tQ l i vs) :=
 aV (aV (qJH a fun z hz => List.mem_of_mem_take hz) b) (qJH a fun z hz => List.mem_of_mem_drop hz)
omit [Yl] in
theorem qTZ {α : Type} (A B C : List α) (c : List α) {off : Nat} (hle : off + c.length <= B.length) :
 (A ++ B ++ C).take (A.length + off) ++ c ++ (A ++ B ++ C).drop (A.length + off + c.length) = A ++ (B.take off ++ c ++ B.drop (off + c.length)) ++ C := by
 rw [List.append_assoc A B C, List.take_append, List.take_of_length_le (by omega), Nat.add_sub_cancel_left, List.take_append_of_le_length (by omega)]
 rw [Nat.add_assoc, List.drop_append, List.drop_of_length_le (by omega), Nat.add_sub_cancel_left, List.nil_append, List.drop_append_of_le_length (by omega)]
 simp [List.append_assoc]
omit [Yl] in
theorem qCW {t : Ty} {xs : List t.sem} {j : Nat} {x : t.sem} (hx : xs[j]? = some x) (y : t.sem) : (xs.set j y).flatMap t.cells = (xs.take j).flatMap t.cells ++ t.cells y ++ (xs.drop (j + 1)).flatMap t.cells := by
 have hl := (List.getElem?_eq_some_iff.1 hx).1
 rw [List.set_eq_take_append_cons_drop, if_pos hl, List.flatMap_append, List.flatMap_cons, List.append_assoc]
omit [Yl] in
theorem qOL {t : Ty} {xs : List t.sem} {j : Nat} {x y : t.sem} (hx : xs[j]? = some x) {off : Nat} {c : List PV} (hle : off + c.length <= t.w) (hy : jJ ((t.cells x).map .f) off c = (t.cells y).map .f) :
 jJ ((xs.flatMap t.cells).map .f) (j * t.w + off) c = ((xs.set j y).flatMap t.cells).map .f := by
 have hl := (List.getElem?_eq_some_iff.1 hx).1
 have e0 : xs.set j x = xs := by
  apply List.ext_getElem?
  intro i
  rw [List.getElem?_set]
  by_cases e : j = i
  ·subst e; rw [if_pos rfl, if_pos hl, hx]
  ·rw [if_neg e]
 have e1 := qCW hx x
 rw [e0] at e1
 rw [qCW hx y, e1]
 simp only [List.map_append]
 unfold jJ
 have hA : (((xs.take j).flatMap t.cells).map PV.f).length = j * t.w := by rw [List.length_map, kP, List.length_take, Nat.min_eq_left (by omega)]
 rw [<- hA, qTZ _ _ _ _ (by rw [List.length_map, t.cells_len]; exact hle)]
 unfold jJ at hy
 rw [hy]
def qRS (P : Program) (t : TypeId) (a x : SV) (h : SH) (K : SV -> SH -> Tree R) : Tree R := match szT P t with
 | some n => (match a with
   | .ref k off w => (match slk k h.l with
     | some (.cells el _ l) => cond (Nat.beq w l.length && (Nat.beq n (xM x).length && (Nat.ble (off + n) l.length && (pnt x.enc && (qB (xM x)).all nA))))
        (K (.tup []) (h.put k fun v => .cells el v (tQ l off (xM x)))) .fail
     | _ => .fail)
   | .elt k g m w j off => (match slk k h.l with
     | some (.list el gr g' _ t' xs) => cond (Nat.beq g g' && (Nat.beq w t'.w && (Nat.beq n (xM x).length && (Nat.ble (off + n) w && (pnt x.enc && (qB (xM x)).all nA)))))
        (.bind (xs[j]?) fun y => match t'.decA (tQ (t'.svs y) off (xM x)) with
          | some z => K (.tup []) (h.put k fun v => .list el gr g v t' (List.set xs j z))
          | none => .fail) .fail
     | _ => .fail)
   | _ => .fail)
 | none => .fail
theorem qSY {t : TypeId} {a x : SV} {K : SV -> SH -> Tree R} (ho : OkH P h) (ha : a.ok h) (hx : x.ok h) (e : (qRS P t a x h K).run = some r) :
 ∃ h', qBG P t a.enc x.enc (qE h.l) = some (qE h'.l) ∧ Keep h h' ∧ OkH P h' ∧ (K (.tup []) h').run = some r := by
 unfold qRS at e
 split at e
 ·rename_i n hn
  split at e
  ·rename_i k off w
   split at e
   ·rename_i el w' l hk
    obtain ⟨h1, h2⟩ := qN e
    have hp := qDW (f := fun v => .cells el v (tQ l off (xM x))) ho hk ⟨rfl, qM2 (ho.cells _ _ _ _ hk) (qA2 hx)⟩
    refine ⟨_, ?_, hp.1, hp.2, h2⟩
    simp only [SV.enc, qBG, vY hk, hn]
    show cond (Nat.beq w (qB l).length && (Nat.beq n (y8 x.enc).length && (Nat.ble (off + n) (qB l).length && (pnt x.enc && (y8 x.enc).all nA)))) _ _ = _
    rw [bJ, yM, yM, h1]
    simp only [cond_true]
    rw [show qE (h.put k fun v => .cells el v (tQ l off (xM x))).l = cB k (SO.enc (.cells el h.next (tQ l off (xM x)))) (qE h.l) from mG k _ _]
    show some (cB k ⟨el, false, jJ (qB l) off (qB (xM x))⟩ (qE h.l)) = some (cB k ⟨el, false, qB (tQ l off (xM x))⟩ (qE h.l))
    rw [tF]
   ·cases e
  ·rename_i k g m w j off
   split at e
   ·rename_i el gr g' w' t' xs hk
    obtain ⟨h1, h2⟩ := qN e
    simp only [Bool.and_eq_true] at h1
    obtain ⟨q1, q2, q3, q4, q5, q6⟩ := h1
    have hg : g = g' := Nat.eq_of_beq_eq_true q1
    have hw : w = t'.w := Nat.eq_of_beq_eq_true q2
    subst hg hw
    obtain ⟨y, hy, h3⟩ := run_bind h2
    split at h3
    ·rename_i z hz
     have hp := qDW (f := fun v => .list el gr g v t' (List.set xs j z)) ho hk ⟨_, rfl, by simp⟩
     refine ⟨_, ?_, hp.1, hp.2, h3⟩
     simp only [SV.ok] at ha
     have hm : m = xs.length := ha.2 _ _ _ _ _ hk
     have hle : off + n <= t'.w := Nat.le_of_ble_eq_true q4
     simp only [SV.enc, qBG, vY hk, hn]
     rw [zR, hm, bJ, yM]
     have hjl : j * t'.w + off + n <= xs.length * t'.w := by
      have := qJO hy hle
      rwa [kP] at this
     rw [q3, q5, q6, show Nat.ble (j * t'.w + off + n) (xs.length * t'.w) = true from Nat.ble_eq_true_of_le hjl]
     simp only [qAL, Bool.and_self, cond_true]
     rw [show qE (h.put k fun v => .list el gr g v t' (List.set xs j z)).l = cB k (SO.enc (.list el gr g h.next t' (List.set xs j z))) (qE h.l) from mG k _ _]
     show some (cB k ⟨el, gr, jJ ((xs.flatMap t'.cells).map .f) (j * t'.w + off) (qB (xM x))⟩ (qE h.l)) = some (cB k ⟨el, gr, ((List.set xs j z).flatMap t'.cells).map .f⟩ (qE h.l))
     have hnl : n = (qB (xM x)).length := by rw [yM]; exact Nat.eq_of_beq_eq_true q3
     rw [qOL hy (y := z) (by rw [<- hnl]; exact hle) (by rw [<- qAZ, <- tF]; exact qFM hz)]
    ·cases h3
   ·cases e
  ·cases e
 ·cases e
end
end Go.Sv
namespace Go.Sv
open Go.Idl
noncomputable section
variable [Yl]
variable {P : Program} {h : SH} {R : Type} {r : R}
def tyL : List (Option Ty) -> Option Ty
 | [] => some .unit
 | [t] => t.map fun t => .pair t .unit
 | [a, b] => match a, b with
   | some a, some b => some (.pair a b)
   | _, _ => none
 | a :: l => match a, tyL l with
   | some a, some b => some (.pair a b)
   | _, _ => none
def qN4 (P : Program) : Nat -> TypeId -> Option Ty
 | 0, _ => none
 | n + 1, t => match P.underlying t with
   | some (.int k) => some (.int k)
   | some .bool => some .bool
   | some .string => some .str
   | some (.slice el) => (match qN4 P n el with
     | some u => some (.list el u)
     | none => none)
   | some (.struct fields) => tyL (fields.toList.map fun f => qN4 P n f.type)
   | some (.array k el) => tyL (List.replicate k (qN4 P n el))
   | _ => none
def zcS (P : Program) (t : TypeId) : Option (List SV) := match pF P t with
 | some z => cond (wD okC z.cells.toList) (some (jZ .c z.cells.toList)) none
 | none => none
theorem qDM {t : TypeId} {l : List SV} (e : zcS P t = some l) : zc P t = some (qB l) ∧ okL h l := by
 unfold zcS at e
 unfold zc
 split at e
 ·rename_i z hz
  cases hc : wD okC z.cells.toList with
  | false => rw [hc] at e; cases e
  | true =>
    rw [hc] at e
    cases e
    rw [hz]
    simp only [hc, cond_true]
    exact ⟨by rw [q2D], q2E _⟩
 ·cases e
def qSK (P : Program) (el : TypeId) (k : Nat) (h : SH) (K : SV -> SH -> Tree R) : Tree R := match zcS P el with
 | some l => K (.ref k 0 l.length) (h.new k fun v => .cells el v l)
 | none => .fail
theorem qQ5 {el : TypeId} {k : Nat} {K : SV -> SH -> Tree R} (ho : OkH P h) (e : (qSK P el k h K).run = some r) : ∃ v h', qC7 P el k (qE h.l) = some (v.enc, qE h'.l) ∧ Post P h h' v ∧ (K v h').run = some r := by
 unfold qSK at e
 split at e
 ·rename_i l hl
  obtain ⟨h1, h2⟩ := qDM (h := h) hl
  have hp := vU (k := k) (f := fun v => .cells el v l) ho ⟨rfl, h2⟩
  refine ⟨_, _, ?_, ⟨hp.1, hp.2, by simp [SV.ok]⟩, e⟩
  simp only [qC7, h1, qON, SV.enc, yM]
  rfl
 ·cases e
def q4L (el : TypeId) (v : SV) (k : Nat) (h : SH) (K : SV -> SH -> Tree R) : Tree R :=
 cond (pnt v.enc && (qB (xM v)).all nA) (K (.ref k 0 (xM v).length) (h.new k fun n => .cells el n (xM v))) .fail
theorem qZJ {el : TypeId} {v : SV} {k : Nat} {K : SV -> SH -> Tree R} (ho : OkH P h) (hv : v.ok h) (e : (q4L el v k h K).run = some r) : ∃ x h', qZ7 el v.enc k (qE h.l) = some (x.enc, qE h'.l) ∧ Post P h h' x ∧ (K x h').run = some r := by
 obtain ⟨h1, h2⟩ := qN e
 have hp := vU (k := k) (f := fun n => .cells el n (xM v)) ho ⟨rfl, qA2 hv⟩
 refine ⟨_, _, ?_, ⟨hp.1, hp.2, by simp [SV.ok]⟩, h2⟩
 unfold qZ7
 rw [bJ, h1]
 simp only [cond_true, qON, SV.enc, yM]
 rfl
def qRL (place : Nat -> Option (Nat × Nat)) : List SV -> List (Nat × SV) -> Option (List SV)
 | cells, [] => some cells
 | cells, (i, v) :: rest => match place i with
   | some (off, size) => cond (Nat.beq (xM v).length size && (Nat.ble (off + size) cells.length && (pnt v.enc && (qB (xM v)).all nA))) (qRL place (tQ cells off (xM v)) rest) none
   | none => none
def q0F (l : List (Nat × SV)) : List (Nat × PV) := l.map fun p => (p.1, p.2.enc)
theorem qD8 {place : Nat -> Option (Nat × Nat)} : ∀ {l cs : List SV} {parts : List (Nat × SV)}, qRL place l parts = some cs -> qF3 place (qB l) (q0F parts) = some (qB cs) ∧ (okL h l -> (∀ p ∈ parts, p.2.ok h) -> okL h cs)
 | l, cs, [], e => by cases e; exact ⟨rfl, fun a _ => a⟩
 | l, cs, (i, v) :: rest, e => by
   unfold qRL at e
   split at e
   ·rename_i off size hpl
    cases hc : (Nat.beq (xM v).length size && (Nat.ble (off + size) l.length && (pnt v.enc && (qB (xM v)).all nA))) with
    | false => rw [hc] at e; cases e
    | true =>
      rw [hc] at e
      obtain ⟨h1, h2⟩ := qD8 (l := tQ l off (xM v)) e
      refine ⟨?_, fun a b => h2 (qM2 a (qA2 (b _ List.mem_cons_self))) fun p hp => b p (List.mem_cons_of_mem _ hp)⟩
      show (match place i with
       | some (off, size) => cond (Nat.beq (y8 v.enc).length size && (Nat.ble (off + size) (qB l).length && (pnt v.enc && (y8 v.enc).all nA))) (qF3 place (jJ (qB l) off (y8 v.enc)) (q0F rest)) none
       | none => none) = some (qB cs)
      rw [hpl]
      simp only
      rw [bJ, yM, yM, hc, <- tF]
      exact h1
   ·cases e
def qS0 (P : Program) (t : TypeId) (parts : List (Nat × SV)) : Option SV := match zcS P t with
 | some z => cond (tX P t) (match qRL (qTK P t) z parts with
   | some cs => some (.agg cs)
   | none => none) none
 | none => none
theorem qQX {t : TypeId} {parts : List (Nat × SV)} {v : SV} (hp : ∀ p ∈ parts, p.2.ok h) (e : qS0 P t parts = some v) : qHL P t (q0F parts) = some v.enc ∧ v.ok h := by
 unfold qS0 at e
 split at e
 ·rename_i z hz
  obtain ⟨h1, h2⟩ := qDM (h := h) hz
  cases hb : tX P t with
  | false => rw [hb] at e; cases e
  | true =>
    rw [hb] at e
    simp only [cond_true] at e
    split at e
    ·rename_i cs hcs
     cases e
     obtain ⟨h3, h4⟩ := qD8 (h := h) hcs
     simp only [qHL, h1, hb, cond_true, h3, SV.enc, SV.ok, true_and]
     exact h4 h2 hp
    ·cases e
 ·cases e
def Ty.decs (t : Ty) : Nat -> List SV -> Option (List t.sem)
 | 0, [] => some []
 | 0, _ :: _ => none
 | n + 1, l => match t.decL l with
   | some (x, l') => (match t.decs n l' with
     | some xs => some (x :: xs)
     | none => none)
   | none => none
theorem qM5 {t : Ty} : ∀ {n : Nat} {l : List SV} {xs : List t.sem}, t.decs n l = some xs -> qB l = (xs.flatMap t.cells).map .f ∧ xs.length = n
 | 0, [], xs, e => by cases e; simp [qB]
 | 0, _ :: _, xs, e => by cases e
 | n + 1, l, xs, e => by
   unfold Ty.decs at e
   split at e
   ·rename_i x l' hx
    split at e
    ·rename_i ys hy
     cases e
     obtain ⟨h1, h2⟩ := qM5 hy
     rw [rW hx, h1, List.flatMap_cons, List.map_append]
     exact ⟨rfl, by rw [List.length_cons, h2]⟩
    ·cases e
   ·cases e
def q2P (n : Nat) (z : List SV) : List SV := (List.replicate n z).flatten
theorem qV3 (n : Nat) (z : List SV) : qB (q2P n z) = qHG n (qB z) := by simp [q2P, qHG, zV, List.map_flatten]
def dW (P : Program) (t : TypeId) (len : Nat) (parts : List (Nat × SV)) (k : Nat) (h : SH) (K : SV -> SH -> Tree R) : Tree R := match xR P t with
 | some el => (match szT P el, zcS P el, qN4 P 8 el with
   | some (s + 1), some z, some ty => cond (Nat.beq ty.w (s + 1)) (cond (Nat.beq z.length (s + 1) && Nat.ble (len * (s + 1)) 65536) (match qRL (fun i => some (i * (s + 1), s + 1)) (q2P len z) parts with
     | some cs => (match ty.decs len cs with
       | some xs => K (.own k h.next len) (h.new k fun v => .list el false v v ty xs)
       | none => .fail)
     | none => .fail) .fail) .fail
   | _, _, _ => .fail)
 | none => .fail
omit [Yl] in
theorem aY {el : TypeId} {gr : Bool} {k n : Nat} {ty : Ty} {xs : List ty.sem} (hn : n = xs.length) : (SV.own k h.next n).ok (h.new k fun v => .list el gr v v ty xs) := by
 simp only [SV.ok]
 refine ⟨Nat.lt_succ_self _, fun el' gr' w' t' xs' hk => ?_⟩
 rw [show slk k (h.new k fun v => .list el gr v v ty xs).l = some (.list el gr h.next h.next ty xs) from uM] at hk
 cases hk
 exact hn
theorem qB6 {t : TypeId} {len k : Nat} {parts : List (Nat × SV)} {K : SV -> SH -> Tree R} (ho : OkH P h) (hp : ∀ p ∈ parts, p.2.ok h) (e : (dW P t len parts k h K).run = some r) :
 ∃ v h', vB P t len (q0F parts) k (qE h.l) = some (v.enc, qE h'.l) ∧ Post P h h' v ∧ (K v h').run = some r := by
 unfold dW at e
 split at e
 ·rename_i el hel
  split at e
  ·rename_i s z ty hs hz hty
   obtain ⟨e1, e⟩ := qN e
   obtain ⟨e2, e⟩ := qN e
   split at e
   ·rename_i cs hcs
    split at e
    ·rename_i xs hxs
     obtain ⟨z1, z2⟩ := qDM (h := h) hz
     obtain ⟨f1, f2⟩ := qD8 (h := h) hcs
     obtain ⟨d1, d2⟩ := qM5 hxs
     have hw : ty.w = s + 1 := Nat.eq_of_beq_eq_true e1
     have hn := vU (k := k) (f := fun v => .list el false v v ty xs) ho ⟨rfl, rfl, by rw [hs, hw], by omega⟩
     refine ⟨_, _, ?_, ⟨hn.1, hn.2, aY d2.symm⟩, e⟩
     rw [qV3] at f1
     simp only [vB, hel, hs, z1, yM, e2, cond_true, f1, qON, SV.enc, d1]
     rfl
    ·cases e
   ·cases e
  ·cases e
 ·cases e
def qZW (P : Program) (t : TypeId) (l : SV) (k : Nat) (h : SH) (K : SV -> SH -> Tree R) : Tree R := match xR P t, asI l with
 | some el, some (_, n) => (match szT P el, zcS P el, qN4 P 8 el with
   | some (s + 1), some z, some ty => cond (fO P el && (Nat.beq z.length (s + 1) && Nat.beq ty.w (s + 1))) (match ty.decA z with
     | some z0 => .bind (mkN n) fun N => K (.own k h.next N) (h.new k fun v => .list el false v v ty (List.replicate N z0))
     | none => .fail) .fail
   | _, _, _ => .fail)
 | _, _ => .fail
omit [Yl] in
theorem qNC {t : Ty} {z : t.sem} : ∀ (n : Nat), ((List.replicate n z).flatMap t.cells).map PV.f = qHG n ((t.cells z).map .f)
 | 0 => rfl
 | n + 1 => by
   rw [List.replicate_succ, List.flatMap_cons, List.map_append, qNC n]
   simp [qHG, List.replicate_succ]
theorem qVU {t : TypeId} {l : SV} {k : Nat} {K : SV -> SH -> Tree R} (ho : OkH P h) (e : (qZW P t l k h K).run = some r) :
 ∃ v h', wN P t l.enc l.enc k (qE h.l) = some (v.enc, qE h'.l) ∧ Post P h h' v ∧ (K v h').run = some r := by
 unfold qZW at e
 split at e
 ·rename_i el ki n hel hl
  split at e
  ·rename_i s z ty hs hz hty
   obtain ⟨e1, e⟩ := qN e
   simp only [Bool.and_eq_true] at e1
   obtain ⟨q1, q2, q3⟩ := e1
   split at e
   ·rename_i z0 hz0
    obtain ⟨N, hN, e⟩ := run_bind e
    obtain ⟨z1, z2⟩ := qDM (h := h) hz
    have hw : ty.w = s + 1 := Nat.eq_of_beq_eq_true q3
    have hn := vU (k := k) (f := fun v => .list el false v v ty (List.replicate N z0)) ho ⟨rfl, rfl, by rw [hs, hw], by omega⟩
    refine ⟨_, _, ?_, ⟨hn.1, hn.2, aY (xs := List.replicate N z0) (by simp)⟩, e⟩
    rw [vZ hl]
    simp only [wN, fvv, hel, decide_true, cond_true, hN, hs, z1, yM, q1, q2, Bool.and_self, qON, SV.enc]
    show some (PV.own k N 0 N, (k, (⟨el, false, qHG N (qB z)⟩ : PO)) :: qE h.l) = some (PV.own k N 0 N, (k, ⟨el, false, ((List.replicate N z0).flatMap ty.cells).map PV.f⟩) :: qE h.l)
    rw [qNC, qFM hz0]
   ·cases e
  ·cases e
 ·cases e
def qUK (h : SH) : SV -> Bool
 | .ref k _ w => match slk k h.l with
   | some (.cells _ _ l) => Nat.beq w l.length
   | _ => false
 | .elt k g _ w _ _ => match slk k h.l with
   | some (.list _ _ g' _ t _) => Nat.beq g g' && Nat.beq w t.w
   | _ => false
 | .lp _ _ _ _ => true
 | _ => false
theorem qFJ {k off w : Nat} (e : qUK h (.ref k off w) = true) : live? k w (qE h.l) = true := by
 simp only [qUK] at e
 split at e
 ·rename_i el w' l hk
  unfold live?
  rw [vY hk]
  show Nat.beq w (qB l).length = true
  rw [yM]; exact e
 ·cases e
theorem qDQ {k g n w j off : Nat} (ho : (SV.elt k g n w j off).ok h) (e : qUK h (.elt k g n w j off) = true) : live? k (n * w) (qE h.l) = true := by
 simp only [qUK] at e
 split at e
 ·rename_i el gr g' w' t xs hk
  rw [Bool.and_eq_true] at e
  have hg : g = g' := Nat.eq_of_beq_eq_true e.1
  have hw : w = t.w := Nat.eq_of_beq_eq_true e.2
  subst hg hw
  simp only [SV.ok] at ho
  unfold live?
  rw [vY hk]
  show Nat.beq (n * t.w) (SO.list el gr g w' t xs).enc.cs.length = true
  rw [zR, ho.2 _ _ _ _ _ hk]; exact qAL _
 ·cases e
def qTS (n : Nat) : SV -> SV
 | .ref k off w => .ref k (off + n) w
 | .elt k g m w j off => .elt k g m w j (off + n)
 | .lp t xs j off => .lp t xs j (off + n)
 | v => v
def q44 : SV -> Bool
 | .ref _ _ _ => true
 | .elt _ _ _ _ _ _ => true
 | .lp _ _ _ _ => true
 | _ => false
omit [Yl] in
theorem qPF {n : Nat} {v : SV} (hv : v.ok h) : (qTS n v).ok h := by
 cases v <;> simp only [qTS, SV.ok] at hv ⊢ <;> exact hv
def oG (P : Program) (t : TypeId) (x : SV) (i : Nat) (h : SH) : Option SV := match qZ0 P t i with
 | some (off, ft) => (match szT P ft with
   | some (_ + 1) => cond (qUK h x) (some (qTS off x)) none
   | _ => none)
 | none => none
theorem qEA {t : TypeId} {x v : SV} {i : Nat} (hx : x.ok h) (e : oG P t x i h = some v) : kX P t x.enc i (qE h.l) = some v.enc ∧ v.ok h := by
 unfold oG at e
 unfold kX
 split at e
 ·rename_i off ft hf
  split at e
  ·rename_i s hs
   cases hl : qUK h x with
   | false => rw [hl] at e; cases e
   | true =>
     rw [hl] at e
     cases e
     refine ⟨?_, qPF hx⟩
     simp only [hf, hs]
     cases x with
     | ref k o w => simp only [SV.enc, qTS, qFJ hl, cond_true]
     | elt k g n w j o => simp only [SV.enc, qTS, qDQ hx hl, cond_true, Nat.add_assoc]
     | lp t xs j o => simp only [SV.enc, qTS, Nat.add_assoc]
     | _ => cases hl
  ·cases e
 ·cases e
def qRU (P : Program) (t : TypeId) (x : SV) (i : Nat) : Option SV := match qZ0 P t i, x with
 | some (off, ft), .agg l => qHJ P ft l off
 | _, _ => none
theorem qRR {t : TypeId} {x v : SV} {i : Nat} (hx : x.ok h) (e : qRU P t x i = some v) : qCF P t x.enc i = some v.enc ∧ v.ok h := by
 unfold qRU at e
 split at e
 ·rename_i off ft l hf
  obtain ⟨h1, h2⟩ := r9 (h := h) e
  simp only [SV.ok] at hx
  refine ⟨?_, h2 hx⟩
  simp only [qCF, hf, SV.enc]
  exact h1
 ·cases e
def q19 (n : Nat) (ix : SV) (K : Nat -> Tree R) : Tree R := match ix with
 | .c (.int _ i) => (match idx n i with
   | some j => K j
   | none => .fail)
 | v => (match asI v with
   | some (_, i) => .bind (idx n i) K
   | none => .fail)
theorem qRY {n : Nat} {ix : SV} {K : Nat -> Tree R} (e : (q19 n ix K).run = some r) : ∃ k i j, ix.enc = fvv (.int k i) ∧ idx n i = some j ∧ (K j).run = some r := by
 unfold q19 at e
 split at e
 ·rename_i k i
  split at e
  ·rename_i j hj
   exact ⟨k, i, j, by simp [SV.enc], hj, e⟩
  ·cases e
 ·split at e
  ·rename_i k i hi
   obtain ⟨j, hj, e⟩ := run_bind e
   exact ⟨k, i, j, vZ hi, hj, e⟩
  ·cases e
def oJ (P : Program) (t : TypeId) (x ix : SV) (h : SH) (K : SV -> Tree R) : Tree R := match x with
 | .d (.list el u) xs => (match asI ix, xR P t with
   | some (_, i), some el' => (match szT P el' with
     | some s => cond (Nat.beq s u.w) (.bind (idx (List.length xs) i) fun j => K (.lp u xs j 0)) .fail
     | none => .fail)
   | _, _ => .fail)
 | .own k g n => (match asI ix, xR P t, slk k h.l with
   | some (_, i), some el', some (.list el _ g' _ u _) => cond (Nat.beq el' el && Nat.beq g g') (.bind (idx n i) fun j => K (.elt k g n u.w j 0)) .fail
   | _, _, _ => .fail)
 | .sl k g n o m => (match asI ix, xR P t, slk k h.l with
   | some (_, i), some el', some (.list el _ g' _ u _) => cond (Nat.beq el' el && Nat.beq g g') (.bind (idx m i) fun j => K (.elt k g n u.w (o + j) 0)) .fail
   | _, _, _ => .fail)
 | x => (match qTC P t with
   | some (n, el) => (match szT P el with
     | some s => cond (q44 x && qUK h x) (q19 n ix fun j => K (qTS (j * s) x)) .fail
     | none => .fail)
   | none => .fail)
theorem qFA {t : TypeId} {x ix : SV} {K : SV -> Tree R} (ho : OkH P h) (hx : x.ok h) (e : (oJ P t x ix h K).run = some r) : ∃ v, yL P t x.enc ix.enc (qE h.l) = some v.enc ∧ v.ok h ∧ (K v).run = some r := by
 unfold oJ at e
 split at e
 ·rename_i el u xs
  split at e
  ·rename_i k i el' hi hel
   split at e
   ·rename_i s hs
    obtain ⟨h1, e1⟩ := qN e
    obtain ⟨j, hj, e2⟩ := run_bind e1
    have hw : s = u.w := Nat.eq_of_beq_eq_true h1
    subst hw
    refine ⟨_, ?_, by simp [SV.ok], e2⟩
    rw [vZ hi]
    simp only [SV.enc, Ty.fv, fvv, yL, hel, hs, hj, Nat.add_zero]
   ·cases e
  ·cases e
 ·rename_i k g n
  split at e
  ·rename_i ki i el' el gr g' w u xs hi hel hk
   obtain ⟨h1, e1⟩ := qN e
   obtain ⟨j, hj, e2⟩ := run_bind e1
   rw [Bool.and_eq_true] at h1
   have hg : g = g' := Nat.eq_of_beq_eq_true h1.2
   subst hg
   simp only [SV.ok] at hx
   have hn := hx.2 _ _ _ _ _ hk
   have hl := ho.list _ _ _ _ _ _ _ hk
   refine ⟨_, ?_, by simp only [SV.ok]; exact hx, e2⟩
   rw [vZ hi]
   simp only [SV.enc, fvv, yL, hel, vY hk]
   show (match szT P el with
    | some s => (match idx n i with
      | some j => cond (Nat.beq el' el && Nat.beq (n * s) (SO.list el gr g w u xs).enc.cs.length) (some (PV.ref k (SO.list el gr g w u xs).enc.cs.length ((0 + j) * s))) none
      | none => none)
    | none => none) = _
   rw [hl.2.1, hj]
   simp only [zR, hn, qAL, h1.1, Bool.and_self, cond_true, Nat.zero_add, Nat.add_zero]
  ·cases e
 ·rename_i k g n o m
  split at e
  ·rename_i ki i el' el gr g' w u xs hi hel hk
   obtain ⟨h1, e1⟩ := qN e
   obtain ⟨j, hj, e2⟩ := run_bind e1
   rw [Bool.and_eq_true] at h1
   have hg : g = g' := Nat.eq_of_beq_eq_true h1.2
   subst hg
   simp only [SV.ok] at hx
   have hn := hx.1.2 _ _ _ _ _ hk
   have hl := ho.list _ _ _ _ _ _ _ hk
   refine ⟨_, ?_, by simp only [SV.ok]; exact hx.1, e2⟩
   rw [vZ hi]
   simp only [SV.enc, fvv, yL, hel, vY hk]
   show (match szT P el with
    | some s => (match idx m i with
      | some j => cond (Nat.beq el' el && Nat.beq (n * s) (SO.list el gr g w u xs).enc.cs.length) (some (PV.ref k (SO.list el gr g w u xs).enc.cs.length ((o + j) * s))) none
      | none => none)
    | none => none) = _
   rw [hl.2.1]
   simp only [hj, zR, hn, qAL, h1.1, Bool.and_self, cond_true, Nat.add_zero]
  ·cases e
 ·split at e
  ·rename_i n el ha
   split at e
   ·rename_i s hs
    obtain ⟨h1, e⟩ := qN e
    rw [Bool.and_eq_true] at h1
    obtain ⟨ki, i, j, hi, hj, e⟩ := qRY e
    refine ⟨_, ?_, qPF hx, e⟩
    rw [hi]
    cases x with
    | ref k o w => simp only [SV.enc, qTS, fvv, yL, ha, hs, hj, qFJ h1.2, cond_true]
    | elt k g n w j o => simp only [SV.enc, qTS, fvv, yL, ha, hs, hj, qDQ hx h1.2, cond_true, Nat.add_assoc]
    | lp t xs j o => simp only [SV.enc, qTS, fvv, yL, ha, hs, hj, Nat.add_assoc]
    | _ => cases h1.1
   ·cases e
  ·cases e
def qS9 (P : Program) (t : TypeId) (x ix : SV) (K : SV -> Tree R) : Tree R := match qTC P t, x with
 | some (n, el), .agg l => (match szT P el with
   | some s => q19 n ix fun j => match qHJ P el l (j * s) with
     | some v => K v
     | none => .fail
   | none => .fail)
 | _, _ => .fail
theorem qQ9 {t : TypeId} {x ix : SV} {K : SV -> Tree R} (hx : x.ok h) (e : (qS9 P t x ix K).run = some r) : ∃ v, qC1 P t x.enc ix.enc = some v.enc ∧ v.ok h ∧ (K v).run = some r ∧ ∃ l, x = .agg l := by
 unfold qS9 at e
 split at e
 ·rename_i n el l ha
  split at e
  ·rename_i s hs
   obtain ⟨ki, i, j, hi, hj, e⟩ := qRY e
   split at e
   ·rename_i v hv
    obtain ⟨h1, h2⟩ := r9 (h := h) hv
    simp only [SV.ok] at hx
    refine ⟨v, ?_, h2 hx, e, l, rfl⟩
    rw [hi]
    simp only [qC1, ha, SV.enc, fvv, hs, hj]
    exact h1
   ·cases e
  ·cases e
 ·cases e
def qFR (v : SV) (i : Nat) : Option SV := match v with
 | .tup l => (match yN l i with
   | some x => cond (pnt x.enc) (some x) none
   | none => none)
 | _ => none
theorem qKR {x v : SV} {i : Nat} (hx : x.ok h) (e : qFR x i = some v) : bW x.enc i = some v.enc ∧ v.ok h := by
 unfold qFR at e
 split at e
 ·rename_i l
  split at e
  ·rename_i y hy
   cases hp : pnt y.enc with
   | false => rw [hp] at e; cases e
   | true =>
     rw [hp] at e
     cases e
     simp only [SV.ok] at hx
     refine ⟨?_, qA0 hx hy⟩
     simp only [bW, SV.enc, jC, hy, Option.map_some, hp, cond_true]
  ·cases e
 ·cases e
def qAS (fn : Fn) (first cap : List SV) : Option SV := match fn with
 | .func g => some (match first, cap with
   | [], [] => .c (.func (.func g) #[] #[])
   | _, _ => .fn g first cap)
 | _ => none
theorem qF5 {fn : Fn} {first cap : List SV} {v : SV} (h1 : okL h first) (h2 : okL h cap) (e : qAS fn first cap = some v) : vO fn (qB first) (qB cap) = some v.enc ∧ v.ok h := by
 unfold qAS at e
 split at e
 ·rename_i g
  cases e
  cases first with
  | nil => cases cap with
    | nil => exact ⟨by simp [vO, qB, SV.enc], by simp [SV.ok]⟩
    | cons x l => exact ⟨by simp [vO, qB, SV.enc], by simp only [SV.ok]; exact ⟨h1, h2⟩⟩
  | cons y l => exact ⟨by simp [vO, qB, SV.enc], by simp only [SV.ok]; exact ⟨h1, h2⟩⟩
 ·cases e
def qAP (v : SV) (h : SH) : Option SV := match v with
 | .fn _ _ _ => some v
 | .c (.func (.func _) _ _) => some v
 | v => cond (qUK h v) (some v) none
theorem qHC {x v : SV} (hx : x.ok h) (e : qAP x h = some v) : xK x.enc (qE h.l) = some v.enc ∧ v.ok h := by
 unfold qAP at e
 split at e
 ·cases e; exact ⟨by simp [xK, SV.enc], hx⟩
 ·cases e; exact ⟨by simp [xK, SV.enc, fvv], hx⟩
 ·cases hl : qUK h x with
  | false => rw [hl] at e; cases e
  | true =>
    rw [hl] at e
    cases e
    refine ⟨?_, hx⟩
    cases x with
    | ref k o w => simp only [SV.enc, xK, qFJ hl, cond_true]
    | elt k g n w j o => simp only [SV.enc, xK, qDQ hx hl, cond_true]
    | lp t xs j o => simp only [SV.enc, xK]
    | _ => cases hl
end
end Go.Sv
namespace Go.Sv
open Go.Idl
noncomputable section
variable [Yl]
variable {P : Program} {h : SH} {R : Type} {r : R}
def q3U (P : Program) (ts : Array TypeId) (x : SV) (h : SH) : Option SV := match ts[0]? with
 | some t => (match xR P t with
   | some _ => (match x with
     | .d (.list _ _) xs => some (.d (.int .i64) ((List.length xs : Nat) : Int))
     | .c (.slice _ n _) => some (.c (.int .i64 (n : Int)))
     | .own k g n => (match slk k h.l with
       | some (.list _ _ g' _ _ _) => cond (Nat.beq g g') (some (.d (.int .i64) (n : Int))) none
       | _ => none)
     | .sl k g _ _ m => (match slk k h.l with
       | some (.list _ _ g' _ _ _) => cond (Nat.beq g g') (some (.d (.int .i64) (m : Int))) none
       | _ => none)
     | _ => none)
   | none => (match qTC P t with
     | some (n, _) => some (.c (.int .i64 (n : Int)))
     | none => none))
 | none => none
theorem qYF {ts : Array TypeId} {x v : SV} (ho : OkH P h) (hx : x.ok h) (e : q3U P ts x h = some v) : qWX P ts x.enc (qE h.l) = some v.enc ∧ v.ok h := by
 unfold q3U at e
 unfold qWX
 split at e
 ·rename_i t ht
  split at e
  ·rename_i el hel
   split at e
   ·rename_i el' u xs
    cases e
    simp [ht, hel, SV.enc, Ty.fv, fvv, SV.ok]
   ·rename_i a n c
    cases e
    simp [ht, hel, SV.enc, fvv, SV.ok]
   ·rename_i k g n
    split at e
    ·rename_i el' gr g' w u xs hk
     obtain ⟨h1, e1⟩ : Nat.beq g g' = true ∧ some (SV.d (.int .i64) (n : Int)) = some v := by
      cases hb : Nat.beq g g' with
      | false => rw [hb] at e; cases e
      | true => rw [hb] at e; exact ⟨rfl, e⟩
     cases e1
     have hg : g = g' := Nat.eq_of_beq_eq_true h1
     subst hg
     simp only [SV.ok] at hx
     have hn := hx.2 _ _ _ _ _ hk
     have hl := ho.list _ _ _ _ _ _ _ hk
     refine ⟨?_, by simp [SV.ok]⟩
     simp only [ht, hel, SV.enc, vY hk]
     show (match szT P el' with
      | some s => cond (Nat.beq (n * s) (SO.list el' gr g w u xs).enc.cs.length) (some (fvv (.int .i64 (n : Int)))) none
      | none => none) = _
     rw [hl.2.1]
     simp only [zR, hn, qAL, cond_true, Ty.fv, fvv]
    ·cases e
   ·rename_i k g n o m
    split at e
    ·rename_i el' gr g' w u xs hk
     obtain ⟨h1, e1⟩ : Nat.beq g g' = true ∧ some (SV.d (.int .i64) (m : Int)) = some v := by
      cases hb : Nat.beq g g' with
      | false => rw [hb] at e; cases e
      | true => rw [hb] at e; exact ⟨rfl, e⟩
     cases e1
     have hg : g = g' := Nat.eq_of_beq_eq_true h1
     subst hg
     simp only [SV.ok] at hx
     have hn := hx.1.2 _ _ _ _ _ hk
     have hl := ho.list _ _ _ _ _ _ _ hk
     refine ⟨?_, by simp [SV.ok]⟩
     simp only [ht, hel, SV.enc, vY hk]
     show (match szT P el' with
      | some s => cond (Nat.beq (n * s) (SO.list el' gr g w u xs).enc.cs.length) (some (fvv (.int .i64 (m : Int)))) none
      | none => none) = _
     rw [hl.2.1]
     simp only [zR, hn, qAL, cond_true, Ty.fv, fvv]
    ·cases e
   ·cases e
  ·rename_i hel
   split at e
   ·rename_i n el ha
    cases e
    simp [ht, hel, ha, SV.enc, SV.ok]
   ·cases e
 ·cases e
def qFW (u t : Ty) (xs : List u.sem) : Option (List t.sem) := if e : u = t then some (e ▸ xs) else none
omit [Yl] in
theorem fC {u t : Ty} {xs : List u.sem} {ys : List t.sem} (e : qFW u t xs = some ys) : (⟨u, xs⟩ : (t : Ty) × List t.sem) = ⟨t, ys⟩ := by
 unfold qFW at e
 split at e
 ·rename_i h
  subst h
  cases e
  rfl
 ·cases e
def qVQ (t : Ty) (x : SV) (h : SH) : Option (List t.sem) := match x with
 | .d (.list _ u) xs => qFW u t xs
 | .c (.slice none 0 _) => some []
 | .own k g _ => (match slk k h.l with
   | some (.list _ _ g' _ u xs) => cond (Nat.beq g g') (qFW u t xs) none
   | _ => none)
 | .sl k g _ o m => (match slk k h.l with
   | some (.list _ _ g' _ u xs) => cond (Nat.beq g g') (match qFW u t xs with
     | some xs => some ((xs.drop o).take m)
     | none => none) none
   | _ => none)
 | _ => none
theorem qLZ {t : Ty} {x : SV} {ys : List t.sem} (ho : OkH P h) (hx : x.ok h) (e : qVQ t x h = some ys) : qEY P t.w x.enc (qE h.l) = some (ys.length, (ys.flatMap t.cells).map .f) := by
 unfold qVQ at e
 unfold qEY
 split at e
 ·rename_i el u xs
  cases fC e
  simp only [SV.enc, Ty.fv, kP, qAL, cond_true]
 ·cases e
  simp [SV.enc, fvv]
 ·rename_i k g n
  split at e
  ·rename_i el gr g' w u xs hk
   cases hb : Nat.beq g g' with
   | false => rw [hb] at e; cases e
   | true =>
     rw [hb] at e
     have hg : g = g' := Nat.eq_of_beq_eq_true hb
     subst hg
     cases fC e
     simp only [SV.ok] at hx
     have hn := hx.2 _ _ _ _ _ hk
     have hl := ho.list _ _ _ _ _ _ _ hk
     simp only [SV.enc, vY hk]
     show (match szT P el with
      | some s' => cond (Nat.beq (n * s') (SO.list el gr g w t ys).enc.cs.length && Nat.beq t.w s') (some (n, (((ys.flatMap t.cells).map PV.f).drop (0 * t.w)).take (n * t.w))) none
      | none => none) = _
     rw [hl.2.1]
     simp only [zR, hn, qAL, Bool.and_self, cond_true, Nat.zero_mul, List.drop_zero]
     rw [List.take_of_length_le (by rw [List.length_map, kP]; exact Nat.le_refl _)]
  ·cases e
 ·rename_i k g n o m
  split at e
  ·rename_i el gr g' w u xs hk
   cases hb : Nat.beq g g' with
   | false => rw [hb] at e; cases e
   | true =>
     rw [hb] at e
     have hg : g = g' := Nat.eq_of_beq_eq_true hb
     subst hg
     simp only [cond_true] at e
     split at e
     case h_2 => cases e
     rename_i xs2 hxs2
     cases e
     cases fC hxs2
     simp only [SV.ok] at hx
     have hn := hx.1.2 _ _ _ _ _ hk
     have hl := ho.list _ _ _ _ _ _ _ hk
     simp only [SV.enc, vY hk]
     show (match szT P el with
      | some s' => cond (Nat.beq (n * s') (SO.list el gr g w t xs2).enc.cs.length && Nat.beq t.w s') (some (m, (((xs2.flatMap t.cells).map PV.f).drop (o * t.w)).take (m * t.w))) none
      | none => none) = _
     rw [hl.2.1]
     simp only [zR, hn, qAL, Bool.and_self, cond_true]
     rw [<- List.map_drop, <- List.map_take, gT, gL]
     congr 1
     have := hx.2
     rw [List.length_take, List.length_drop, Nat.min_eq_left (by omega)]
  ·cases e
 ·cases e
omit [Yl] in
theorem qHH {t : Ty} (ys : List t.sem) : ((ys.flatMap t.cells).map PV.f).all nA = true := by
 rw [List.all_eq_true]
 intro x hx
 obtain ⟨y, _, rfl⟩ := List.mem_map.1 hx
 rfl
omit [Yl] in
theorem qEL {h0 : SH} {el : TypeId} {gr : Bool} {k n m : Nat} {ty : Ty} {xs ys : List ty.sem} (hn : n = xs.length) (hm : m = ys.length) : (SV.own k h0.next (n + m)).ok (h0.new k fun v => .list el gr v v ty (xs ++ ys)) :=
 aY (by rw [List.length_append, hn, hm])
def qJ6 (P : Program) (ts : List TypeId) (base x : SV) (k : Nat) (h : SH) (K : SV -> SH -> Tree R) : Tree R := match ts with
 | [st, xt] => (match xR P st, xR P xt with
   | some el, some _ => (match szT P el, qN4 P 8 el with
     | some (s + 1), some t => cond (Nat.beq t.w (s + 1) && fO P el) (match qVQ t x h with
       | some ys => (match base with
         | .c (.slice none 0 0) => .ite (Nat.beq ys.length 0) (K base h)
            (.ite (Nat.ble (0 + ys.length) 1048576) (K (.own k h.next (0 + ys.length)) (h.new k fun v => .list el true v v t ([] ++ ys))) .fail)
         | .own j g n => (match slk j h.l with
           | some (.list el' gr g' _ u xs) => cond (Nat.beq el' el && Nat.beq g g') (match qFW u t xs with
             | some xs => .ite (Nat.beq ys.length 0) (K base h)
                (.ite (Nat.ble (n + ys.length) 1048576) (cond gr (K (.own j h.next (n + ys.length)) ((h.del j).new j fun v => .list el true v v t (xs ++ ys))) (K (.own k h.next (n + ys.length)) (h.new k fun v => .list el true v v t (xs ++ ys)))) .fail)
             | none => .fail) .fail
           | _ => .fail)
         | _ => .fail)
       | none => .fail) .fail
     | _, _ => .fail)
   | _, _ => .fail)
 | _ => .fail
omit [Yl] in
theorem qEQ {el : TypeId} {t : Ty} {xs ys : List t.sem} {k : Nat} {ph : PHp} (h1 : Nat.ble (xs.length + ys.length) 1048576 = true) (h2 : fO P el = true) :
 qAT P el t.w ((xs.flatMap t.cells).map .f) xs.length ((ys.flatMap t.cells).map .f) ys.length k ph = some (.own k (xs.length + ys.length) 0 (xs.length + ys.length), (k, ⟨el, true, ((xs ++ ys).flatMap t.cells).map .f⟩) :: ph) := by
 unfold qAT
 rw [h1, h2, List.length_map, kP, List.length_map, kP, qHH]
 simp only [qAL, Bool.and_self, cond_true, qON]
 rw [List.flatMap_append, List.map_append]
theorem qOD {ts : List TypeId} {base x : SV} {k : Nat} {K : SV -> SH -> Tree R} (ho : OkH P h) (hb : base.ok h) (hx : x.ok h) (e : (qJ6 P ts base x k h K).run = some r) :
 ∃ v h', fJ P ts base.enc x.enc k (qE h.l) = some (v.enc, qE h'.l) ∧ Post P h h' v ∧ (K v h').run = some r := by
 unfold qJ6 at e
 split at e
 ·rename_i st xt
  split at e
  ·rename_i el el2 hel hel2
   split at e
   ·rename_i s t hs hty
    have e_ := qN e
    clear e
    obtain ⟨c1, e⟩ := e_
    rw [Bool.and_eq_true] at c1
    have hw : s + 1 = t.w := (Nat.eq_of_beq_eq_true c1.1).symm
    split at e
    ·rename_i ys hys
     have hnw := qLZ ho hx hys
     split at e
     ·have e_ := run_ite e
      clear e
      rcases e_ with ⟨z, e⟩ | ⟨z, e⟩
      ·refine ⟨_, _, ?_, ⟨.refl _, ho, hb⟩, e⟩
       simp only [fJ, hel, hel2, hs, SV.enc, fvv]
       rw [hw, hnw]
       simp only [z, cond_true]
      ·have e_ := run_ite e
       clear e
       rcases e_ with ⟨z2, e⟩ | ⟨z2, e⟩
       ·have hn := vU (k := k) (f := fun v => .list el true v v t ([] ++ ys)) ho ⟨rfl, rfl, by rw [hs]; exact congrArg some hw, by omega⟩
        refine ⟨_, _, ?_, ⟨hn.1, hn.2, qEL (xs := []) rfl rfl⟩, e⟩
        simp only [fJ, hel, hel2, hs, SV.enc, fvv]
        rw [hw, hnw]
        simp only [z, cond_false]
        exact qEQ (xs := []) z2 c1.2
       ·cases e
     ·rename_i j g n
      split at e
      ·rename_i el' gr g' w u xs0 hk
       have e_ := qN e
       clear e
       obtain ⟨c2, e⟩ := e_
       rw [Bool.and_eq_true] at c2
       have he : el' = el := Nat.eq_of_beq_eq_true c2.1
       have hg : g = g' := Nat.eq_of_beq_eq_true c2.2
       split at e
       ·rename_i xs hxs
        have hcast := fC hxs
        have hk2 : slk j h.l = some (.list el gr g w t xs) := by
         rw [hk, he, <- hg]
         cases hcast
         rfl
        have hnl : n = xs.length := by
         simp only [SV.ok] at hb
         exact hb.2 _ _ _ _ _ hk2
        have pre : ∀ z : PV × PHp, (cond (Nat.beq ys.length 0) (some (PV.own j n 0 n, qE h.l))
         (cond (Nat.ble (n + ys.length) n) (cond (Nat.beq ((ys.flatMap t.cells).map PV.f).length (ys.length * (s + 1)) && ((ys.flatMap t.cells).map PV.f).all nA) (some (PV.own j n 0 (n + ys.length), cB j { (SO.list el gr g w t xs).enc with cs := jJ (SO.list el gr g w t xs).enc.cs (n * (s + 1)) ((ys.flatMap t.cells).map PV.f) } (qE h.l))) none)
           (cond gr (qAT P el (s + 1) (SO.list el gr g w t xs).enc.cs n ((ys.flatMap t.cells).map PV.f) ys.length j (qD1 j (qE h.l))) (qAT P el (s + 1) (SO.list el gr g w t xs).enc.cs n ((ys.flatMap t.cells).map PV.f) ys.length k (qE h.l))))) = some z ->
         fJ P [st, xt] (SV.own j g n).enc x.enc k (qE h.l) = some z := fun z hz => by
         simp only [fJ, hel, hel2, hs, SV.enc]
         rw [show qEY P (s + 1) x.enc (qE h.l) = _ from (hw ▸ hnw)]
         simp only [vY hk2]
         rw [show (SO.list el gr g w t xs).enc.el = el from rfl, show Nat.beq (n * (s + 1)) (SO.list el gr g w t xs).enc.cs.length = true by rw [zR, hw, hnl]; exact qAL _]
         simp only [qAL, Bool.and_self, cond_true]
         exact hz
        have e_ := run_ite e
        clear e
        rcases e_ with ⟨z, e⟩ | ⟨z, e⟩
        ·refine ⟨_, _, pre _ ?_, ⟨.refl _, ho, hb⟩, e⟩
         rw [z]; simp [SV.enc]
        ·have e_ := run_ite e
         clear e
         rcases e_ with ⟨z2, e⟩ | ⟨z2, e⟩
         ·have hpos : Nat.ble (n + ys.length) n = false := by
           cases hq : Nat.ble (n + ys.length) n with
           | false => rfl
           | true =>
             have h0 := Nat.le_of_ble_eq_true hq
             have : ys.length = 0 := by omega
             rw [this] at z
             cases z
          cases hgr : gr with
          | true =>
            rw [hgr] at e
            have hd := oW (k := j) ho
            have hn := vU (h := h.del j) (k := j) (f := fun v => .list el true v v t (xs ++ ys)) hd.2 ⟨rfl, rfl, by rw [hs]; exact congrArg some hw, by omega⟩
            refine ⟨_, _, pre _ ?_, ⟨hd.1.trans hn.1, hn.2, qEL (h0 := h.del j) hnl rfl⟩, e⟩
            rw [z, hpos, hgr]
            simp only [cond_true, cond_false]
            rw [hw, hnl]
            rw [hnl] at z2
            rw [show (SO.list el true g w t xs).enc.cs = (xs.flatMap t.cells).map .f from rfl, qEQ z2 c1.2, <- mM]
            rfl
          | false =>
            rw [hgr] at e
            have hn := vU (h := h) (k := k) (f := fun v => .list el true v v t (xs ++ ys)) ho ⟨rfl, rfl, by rw [hs]; exact congrArg some hw, by omega⟩
            refine ⟨_, _, pre _ ?_, ⟨hn.1, hn.2, qEL (h0 := h) hnl rfl⟩, e⟩
            rw [z, hpos, hgr]
            simp only [cond_true, cond_false]
            rw [hw, hnl]
            rw [hnl] at z2
            rw [show (SO.list el false g w t xs).enc.cs = (xs.flatMap t.cells).map .f from rfl, qEQ z2 c1.2]
            rfl
         ·cases e
       ·cases e
      ·cases e
     ·cases e
    ·cases e
   ·cases e
  ·cases e
 ·cases e
end
end Go.Sv
namespace Go.Sv
open Go.Idl
noncomputable section
variable [Yl]
variable {P : Program} {h : SH} {R : Type} {r : R}
def rT {α : Type} (xs ys : List α) (o c : Nat) : List α := xs.take o ++ (ys.take c ++ xs.drop (o + c))
omit [Yl] in
theorem qTT {α : Type} {xs ys : List α} {o c : Nat} (h1 : o + c <= xs.length) (h2 : c <= ys.length) : xs.length = (rT xs ys o c).length := by
 simp [rT]; omega
omit [Yl] in
theorem qP1 {t : Ty} {xs ys : List t.sem} {o c : Nat} (h2 : c <= ys.length) :
 jJ ((xs.flatMap t.cells).map PV.f) (o * t.w) (((ys.flatMap t.cells).map PV.f).take (c * t.w)) = ((rT xs ys o c).flatMap t.cells).map PV.f := by
 have hl : (((ys.flatMap t.cells).map PV.f).take (c * t.w)).length = c * t.w := by
  rw [List.length_take, List.length_map, kP]
  exact Nat.min_eq_left (Nat.mul_le_mul_right _ h2)
 unfold jJ
 rw [hl, <- Nat.add_mul, <- List.map_take, <- List.map_take, <- List.map_drop, gL, gL, gT]
 unfold rT
 simp [List.flatMap_append, List.append_assoc]
def qZP (P : Program) (ts : List TypeId) (base x : SV) (h : SH) (K : SV -> SH -> Tree R) : Tree R := match ts with
 | [st, xt] => (match xR P st, xR P xt with
   | some el, some _ => (match szT P el, qN4 P 8 el with
     | some (s + 1), some t => cond (Nat.beq t.w (s + 1)) (match qVQ t x h with
       | some ys => (match base with
         | .own j g n => (match slk j h.l with
           | some (.list el' gr g' _ u xs) => cond (Nat.beq el' el && Nat.beq g g') (match qFW u t xs with
             | some xs => K (.d (.int .i64) ((Nat.min ys.length n : Nat) : Int)) (h.put j fun v => .list el gr g v t (rT xs ys 0 (Nat.min ys.length n)))
             | none => .fail) .fail
           | _ => .fail)
         | .sl j g n o m => (match slk j h.l with
           | some (.list el' gr g' _ u xs) => cond (Nat.beq el' el && Nat.beq g g') (match qFW u t xs with
             | some xs => K (.d (.int .i64) ((Nat.min ys.length m : Nat) : Int)) (h.put j fun v => .list el gr g v t (rT xs ys o (Nat.min ys.length m)))
             | none => .fail) .fail
           | _ => .fail)
         | .d (.list _ _) xs => .ite (Nat.beq (List.length xs) 0) (K (.d (.int .i64) 0) h) .fail
         | .c (.slice none 0 _) => K (.d (.int .i64) 0) h
         | _ => .fail)
       | none => .fail) .fail
     | _, _ => .fail)
   | _, _ => .fail)
 | _ => .fail
theorem qUG {ts : List TypeId} {base x : SV} {K : SV -> SH -> Tree R} (ho : OkH P h) (hb : base.ok h) (hx : x.ok h) (e : (qZP P ts base x h K).run = some r) :
 ∃ v h', qDV P ts base.enc x.enc (qE h.l) = some (v.enc, qE h'.l) ∧ Post P h h' v ∧ (K v h').run = some r := by
 unfold qZP at e
 split at e
 ·rename_i st xt
  split at e
  ·rename_i el el2 hel hel2
   split at e
   ·rename_i s t hs hty
    have e_ := qN e
    clear e
    obtain ⟨c1, e⟩ := e_
    have hw : s + 1 = t.w := (Nat.eq_of_beq_eq_true c1).symm
    split at e
    ·rename_i ys hys
     have hnw : qEY P (s + 1) x.enc (qE h.l) = some (ys.length, (ys.flatMap t.cells).map .f) := hw ▸ qLZ ho hx hys
     have hlen : ((ys.flatMap t.cells).map PV.f).length = ys.length * (s + 1) := by rw [List.length_map, kP, hw]
     have key : ∀ {j g n o m w : Nat} {gr : Bool} {xs : List t.sem}, slk j h.l = some (.list el gr g w t xs) -> n = xs.length -> o + m <= n ->
      (K (.d (.int .i64) ((Nat.min ys.length m : Nat) : Int)) (h.put j fun v => .list el gr g v t (rT xs ys o (Nat.min ys.length m)))).run = some r ->
      ∃ v h', qDV P [st, xt] (.own j n o m) x.enc (qE h.l) = some (v.enc, qE h'.l) ∧ Post P h h' v ∧ (K v h').run = some r := by
      intro j g n o m w gr xs hk hn hom e
      have hc : Nat.min ys.length m <= ys.length := Nat.min_le_left _ _
      have hc2 : Nat.min ys.length m <= m := Nat.min_le_right _ _
      have hp := qDW (f := fun v => .list el gr g v t (rT xs ys o (Nat.min ys.length m))) ho hk ⟨_, rfl, qTT (by omega) hc⟩
      refine ⟨_, _, ?_, ⟨hp.1, hp.2, by simp [SV.ok]⟩, e⟩
      simp only [qDV, hel, hel2, hs, hnw, vY hk]
      rw [show (SO.list el gr g w t xs).enc.el = el from rfl, show Nat.beq (n * (s + 1)) (SO.list el gr g w t xs).enc.cs.length = true by rw [zR, hw, hn]; exact qAL _, hlen, qHH]
      simp only [qAL, Bool.and_self, cond_true]
      rw [show qE (h.put j fun v => .list el gr g v t (rT xs ys o (Nat.min ys.length m))).l = cB j (SO.list el gr g h.next t (rT xs ys o (Nat.min ys.length m))).enc (qE h.l) from mG j _ _]
      rw [hw]
      show some (_, cB j ⟨el, gr, jJ ((xs.flatMap t.cells).map PV.f) (o * t.w) _⟩ (qE h.l)) = some (_, cB j ⟨el, gr, ((rT xs ys o (Nat.min ys.length m)).flatMap t.cells).map PV.f⟩ (qE h.l))
      rw [qP1 hc]
      simp [SV.enc, Ty.fv, fvv]
     split at e
     ·rename_i j g n
      split at e
      ·rename_i el' gr g' w u xs0 hk
       have e_ := qN e
       clear e
       obtain ⟨c2, e⟩ := e_
       rw [Bool.and_eq_true] at c2
       have he : el' = el := Nat.eq_of_beq_eq_true c2.1
       have hg : g = g' := Nat.eq_of_beq_eq_true c2.2
       split at e
       ·rename_i xs hxs
        have hcast := fC hxs
        have hk2 : slk j h.l = some (.list el gr g w t xs) := by
         rw [hk, he, <- hg]
         cases hcast
         rfl
        simp only [SV.ok] at hb
        exact key hk2 (hb.2 _ _ _ _ _ hk2) (by omega) e
       ·cases e
      ·cases e
     ·rename_i j g n o m
      split at e
      ·rename_i el' gr g' w u xs0 hk
       have e_ := qN e
       clear e
       obtain ⟨c2, e⟩ := e_
       rw [Bool.and_eq_true] at c2
       have he : el' = el := Nat.eq_of_beq_eq_true c2.1
       have hg : g = g' := Nat.eq_of_beq_eq_true c2.2
       split at e
       ·rename_i xs hxs
        have hcast := fC hxs
        have hk2 : slk j h.l = some (.list el gr g w t xs) := by
         rw [hk, he, <- hg]
         cases hcast
         rfl
        simp only [SV.ok] at hb
        exact key hk2 (hb.1.2 _ _ _ _ _ hk2) hb.2 e
       ·cases e
      ·cases e
     ·rename_i el' u xs
      rcases run_ite e with ⟨z, e⟩ | ⟨z, e⟩
      ·refine ⟨_, _, ?_, ⟨.refl _, ho, by simp [SV.ok]⟩, e⟩
       have hz : xs = [] := List.length_eq_zero_iff.1 (Nat.eq_of_beq_eq_true z)
       subst hz
       simp [qDV, hel, hel2, hs, hnw, SV.enc, Ty.fv, fvv]
      ·cases e
     ·refine ⟨_, _, ?_, ⟨.refl _, ho, by simp [SV.ok]⟩, e⟩
      simp [qDV, hel, hel2, hs, hnw, SV.enc, Ty.fv, fvv]
     ·cases e
    ·cases e
   ·cases e
  ·cases e
 ·cases e
def qOO (most : Nat) (i : Int) : Option Nat := if 0 <= i ∧ i <= (most : Int) then some i.toNat else none
def qTO (d most : Nat) (x : Option SV) (K : Nat -> Tree R) : Tree R := match x with
 | none => K d
 | some v => (match asI v with
   | some (_, i) => .bind (qOO most i) K
   | none => .fail)
theorem aI {d most : Nat} {x : Option SV} {K : Nat -> Tree R} (e : (qTO d most x K).run = some r) : ∃ n, bnd d most (x.map SV.enc) = some n ∧ (n = d ∨ n <= most) ∧ (K n).run = some r := by
 unfold qTO at e
 split at e
 ·exact ⟨d, rfl, .inl rfl, e⟩
 ·rename_i v
  split at e
  ·rename_i k i hi
   have e_ := run_bind e
   clear e
   obtain ⟨n, hn, e⟩ := e_
   refine ⟨n, ?_, .inr ?_, e⟩
   ·simp only [Option.map_some, vZ hi, fvv, bnd]; exact hn
   ·unfold qOO at hn
    split at hn
    ·cases hn; omega
    ·cases hn
  ·cases e
def qR5 (P : Program) (t : TypeId) (x : SV) (lo hi : Option SV) (h : SH) (K : SV -> Tree R) : Tree R := match x with
 | .d (.list el u) xs => (match xR P t, szT P el with
   | some el', some s => cond (Nat.beq el' el && Nat.beq s u.w) (qTO (List.length xs) (List.length xs) hi fun b => qTO 0 b lo fun a => K (.d (.list el u) ((List.drop a xs).take (b - a)))) .fail
   | _, _ => .fail)
 | .c (.slice none 0 0) => (match xR P t with
   | some el => cond (szT P el).isSome (qTO 0 0 hi fun _ => qTO 0 0 lo fun _ => K x) .fail
   | none => .fail)
 | .own k g n => (match xR P t, slk k h.l with
   | some el', some (.list el _ g' _ u _) => cond (Nat.beq el' el && Nat.beq g g') (qTO n n hi fun b => qTO 0 b lo fun a =>
      .ite (Nat.beq a 0) (K (.sl k g n 0 b)) (.ite (Nat.beq a b) (K (.d (.list el u) [])) (K (.sl k g n a (b - a))))) .fail
   | _, _ => .fail)
 | .sl k g n o m => (match xR P t, slk k h.l with
   | some el', some (.list el _ g' _ u _) => cond (Nat.beq el' el && Nat.beq g g') (qTO m m hi fun b => qTO 0 b lo fun a =>
      .ite (Nat.beq a 0) (K (.sl k g n o b)) (.ite (Nat.beq a b) (K (.d (.list el u) [])) (K (.sl k g n (o + a) (b - a))))) .fail
   | _, _ => .fail)
 | _ => .fail
theorem qQC {t : TypeId} {x : SV} {lo hi : Option SV} {K : SV -> Tree R} (ho : OkH P h) (hx : x.ok h) (e : (qR5 P t x lo hi h K).run = some r) :
 ∃ v, uN P t x.enc (lo.map SV.enc) (hi.map SV.enc) (qE h.l) = some v.enc ∧ v.ok h ∧ (K v).run = some r := by
 unfold qR5 at e
 have key : ∀ {k g n o m w : Nat} {gr : Bool} {el el' : TypeId} {u : Ty} {xs : List u.sem}, slk k h.l = some (.list el gr g w u xs) -> n = xs.length -> o + m <= n -> g < h.next -> xR P t = some el' -> Nat.beq el' el = true ->
  ∀ a b, bnd m m (hi.map SV.enc) = some b -> b <= m -> bnd 0 b (lo.map SV.enc) = some a -> a <= b ->
  (Tree.ite (Nat.beq a 0) (K (.sl k g n o b)) (.ite (Nat.beq a b) (K (.d (.list el u) [])) (K (.sl k g n (o + a) (b - a))))).run = some r ->
  ∃ v, uN P t (.own k n o m) (lo.map SV.enc) (hi.map SV.enc) (qE h.l) = some v.enc ∧ v.ok h ∧ (K v).run = some r := by
  intro k g n o m w gr el el' u xs hk hn hom hg hel hbe a b hb hbm ha hab e
  have hl := ho.list _ _ _ _ _ _ _ hk
  have pre : uN P t (.own k n o m) (lo.map SV.enc) (hi.map SV.enc) (qE h.l) = some (cond (Nat.beq a 0) (.own k n o b) (cond (Nat.beq a b) (.f (.l el 0 [])) (.own k n (o + a) (b - a)))) := by
   simp only [uN, vY hk, hel]
   rw [show (SO.list el gr g w u xs).enc.el = el from rfl, hl.2.1, hb]
   simp only [ha, zR, hn, qAL, hbe, Bool.and_self, cond_true]
  have hsl : qWI h k g n := ⟨hg, fun el2 gr2 w2 t2 xs2 hk2 => by
   rw [hk] at hk2
   cases hk2
   exact hn⟩
  rw [pre]
  rcases run_ite e with ⟨z, e⟩ | ⟨z, e⟩
  ·exact ⟨_, by rw [z]; simp [SV.enc], by simp only [SV.ok]; exact ⟨hsl, by omega⟩, e⟩
  ·rcases run_ite e with ⟨z2, e⟩ | ⟨z2, e⟩
   ·exact ⟨_, by rw [z, z2]; simp [SV.enc, Ty.fv], by simp [SV.ok], e⟩
   ·exact ⟨_, by rw [z, z2]; simp [SV.enc], by simp only [SV.ok]; exact ⟨hsl, by omega⟩, e⟩
 split at e
 ·rename_i el u xs
  split at e
  ·rename_i el' s hel hs
   have e_ := qN e
   clear e
   obtain ⟨c1, e⟩ := e_
   rw [Bool.and_eq_true] at c1
   have hw : s = u.w := Nat.eq_of_beq_eq_true c1.2
   have he : el' = el := Nat.eq_of_beq_eq_true c1.1
   subst hw he
   obtain ⟨b, hb, hb2, e1⟩ := aI e
   obtain ⟨a, ha, ha2, e2⟩ := aI e1
   have hbl : b <= xs.length := by rcases hb2 with q | q <;> omega
   have hab : a <= b := by rcases ha2 with q | q <;> omega
   refine ⟨_, ?_, by simp [SV.ok], e2⟩
   simp only [SV.enc, Ty.fv, uN, hel, hs, hb, ha, qAL, kP, Bool.and_self, cond_true]
   rw [gT, gL]
   cases hq : Nat.beq a b with
   | true =>
     have : a = b := Nat.eq_of_beq_eq_true hq
     subst this
     simp
   | false =>
     simp only [cond_false, List.length_take, List.length_drop]
     rw [Nat.min_eq_left (by omega)]
  ·cases e
 ·split at e
  ·rename_i el hel
   have e_ := qN e
   clear e
   obtain ⟨c1, e⟩ := e_
   obtain ⟨b, hb, hb2, e1⟩ := aI e
   obtain ⟨a, ha, ha2, e2⟩ := aI e1
   refine ⟨_, ?_, by simp [SV.ok], e2⟩
   have hb' : bnd 0 0 (hi.map SV.enc) = some b := hb
   simp only [SV.enc, fvv, uN, hel, hb', ha, c1, cond_true]
  ·cases e
 ·rename_i k g n
  split at e
  ·rename_i el' el gr g' w u xs hel hk
   have e_ := qN e
   clear e
   obtain ⟨c1, e⟩ := e_
   rw [Bool.and_eq_true] at c1
   have hg : g = g' := Nat.eq_of_beq_eq_true c1.2
   subst hg
   obtain ⟨b, hb, hb2, e1⟩ := aI e
   obtain ⟨a, ha, ha2, e2⟩ := aI e1
   simp only [SV.ok] at hx
   refine key hk (hx.2 _ _ _ _ _ hk) (by omega) hx.1 hel c1.1 a b hb (by rcases hb2 with q | q <;> omega) ha (by rcases ha2 with q | q <;> omega) ?_
   rw [Nat.zero_add]; exact e2
  ·cases e
 ·rename_i k g n o m
  split at e
  ·rename_i el' el gr g' w u xs hel hk
   have e_ := qN e
   clear e
   obtain ⟨c1, e⟩ := e_
   rw [Bool.and_eq_true] at c1
   have hg : g = g' := Nat.eq_of_beq_eq_true c1.2
   subst hg
   obtain ⟨b, hb, hb2, e1⟩ := aI e
   obtain ⟨a, ha, ha2, e2⟩ := aI e1
   simp only [SV.ok] at hx
   exact key hk (hx.1.2 _ _ _ _ _ hk) hx.2 hx.1.1 hel c1.1 a b hb (by rcases hb2 with q | q <;> omega) ha (by rcases ha2 with q | q <;> omega) e2
  ·cases e
 ·cases e
end
end Go.Sv
namespace Go.Sv
open Go.Idl
noncomputable section
variable [Yl]
variable {P : Program} {h : SH} {R : Type} {r : R}
def qY2 (k : IntKind) : PV -> Option Int
 | .f (.v (.int k' x)) => cond (decide (k' = k)) (some x) none
 | _ => none
def qXF : PV -> Option Bool
 | .f (.v (.bool x)) => some x
 | _ => none
def qYM : PV -> Option ByteArray
 | .f (.v (.string x)) => some x
 | _ => none
def Ty.decP : (t : Ty) -> PV -> Option t.sem
 | .int k, p => qY2 k p
 | .bool, p => qXF p
 | .str, p => qYM p
 | .unit, _ => none
 | .list _ _, _ => none
 | .pair _ _, _ => none
omit [Yl] in
theorem qYD : ∀ {t : Ty} {p : PV} {x : t.sem}, t.decP p = some x -> p = .f (t.fv x)
 | .int k, p, x, e => by
   have e1 : qY2 k p = some x := e
   clear e
   unfold qY2 at e1
   split at e1
   ·rename_i k' y
    have e := e1
    clear e1
    cases hk : decide (k' = k) with
    | false => rw [hk] at e; cases e
    | true =>
      rw [hk] at e
      cases e
      have : k' = k := by simpa using hk
      subst this
      rfl
   ·cases e1
 | .bool, p, x, e => by
   have e1 : qXF p = some x := e
   clear e
   unfold qXF at e1
   split at e1
   ·cases e1; rfl
   ·cases e1
 | .str, p, x, e => by
   have e1 : qYM p = some x := e
   clear e
   unfold qYM at e1
   split at e1
   ·cases e1; rfl
   ·cases e1
 | .unit, _, _, e => by cases e
 | .list _ _, _, _, e => by cases e
 | .pair _ _, _, _, e => by cases e
def Ty.decPO (t : Ty) (o : Option PV) : Option t.sem := o.bind t.decP
theorem qMW {t : Ty} {o : Option PV} {x : t.sem} (e : t.decPO o = some x) : o = some (SV.d t x).enc := by
 obtain ⟨p, h1, h2⟩ := Option.bind_eq_some_iff.1 e
 rw [h1, qYD h2]; simp [SV.enc]
def qCX : SV -> Option Value
 | .d (.int k) x => some (.int k x)
 | .d .bool x => some (.bool x)
 | .d .str x => some (.string x)
 | .c v => some v
 | _ => none
theorem oH {v : SV} {a : Value} (e : qCX v = some a) : v.enc = fvv a := by
 unfold qCX at e
 split at e <;> cases e <;> simp [SV.enc, Ty.fv, fvv]
def sint (op : BinOp) (k : IntKind) (a b : Int) (K : SV -> Tree R) (F : Tree R) : Tree R := match op with
 | .lss => K (.d .bool (decide (a < b)))
 | .leq => K (.d .bool (decide (a <= b)))
 | .gtr => K (.d .bool (decide (b < a)))
 | .geq => K (.d .bool (decide (b <= a)))
 | .eql => K (.d .bool (a == b))
 | .neq => K (.d .bool (a != b))
 | .add => K (.d (.int k) (k.wrap (a + b)))
 | .sub => K (.d (.int k) (k.wrap (a - b)))
 | .mul => K (.d (.int k) (k.wrap (a * b)))
 | .quo => .bind (q3R k a b) fun c => K (.d (.int k) c)
 | .rem => .bind (qVK a b) fun c => K (.d (.int k) c)
 | _ => F
def qFH : List SV -> Option (List Value)
 | [] => some []
 | v :: l => match qCX v, qFH l with
   | some a, some b => some (a :: b)
   | _, _ => none
def qD0 : SV -> Option Value
 | .agg l => (match qFH l with
   | some vs => some (.agg vs.toArray)
   | none => none)
 | v => qCX v
theorem qDH : ∀ {l : List SV} {vs : List Value}, qFH l = some vs -> qRW (qB l) = some vs
 | [], vs, e => by cases e; simp [qB, qRW]
 | v :: l, vs, e => by
   unfold qFH at e
   split at e
   ·rename_i a b ha hb
    cases e
    simp only [qB, oH ha, fvv, qRW, pl1, qDH hb]
   ·cases e
theorem qCH {v : SV} {a : Value} (e : qD0 v = some a) : pl v.enc = some a := by
 unfold qD0 at e
 split at e
 ·rename_i l
  split at e
  ·rename_i vs hvs
   cases e
   simp only [SV.enc, pl, qDH hvs]
  ·cases e
 ·rw [oH e]
  rfl
omit [Yl] in
theorem qYC {op : BinOp} {t t2 : TypeId} {x y : PV} {a b : Value} {ph : PHp} (hx : pl x = some a) (hy : pl y = some b) : gM P op t t2 x y ph = gM P op t t2 (fvv a) (fvv b) [] := by
 unfold gM
 rw [hx, hy]
 rfl
def qQG (P : Program) (op : BinOp) (t t2 ty : TypeId) (x y : SV) (K : SV -> Tree R) : Tree R := match qD0 x, qD0 y, qN4 P 8 ty with
 | some a, some b, some u => .bind (u.decPO (gM P op t t2 (fvv a) (fvv b) [])) fun z => K (.d u z)
 | _, _, _ => .fail
def q3T (P : Program) (t : TypeId) (x y : SV) (h : SH) : Option Bool := match y with
 | .c (.slice none _ _) => cond (xR P t).isSome (match x with
   | .own k g n => (match slk k h.l with
     | some (.list _ gr g' _ _ _) => cond (Nat.beq g g') (some (gr && Nat.beq n 0)) none
     | _ => none)
   | _ => none) none
 | .c .nilFunc => cond (qO3 P t) (match x with
   | .fn _ _ _ => some false
   | _ => none) none
 | _ => none
theorem qQM {t : TypeId} {x y : SV} {b : Bool} (ho : OkH P h) (hx : x.ok h) (e : q3T P t x y h = some b) : qTM P t x.enc y.enc (qE h.l) = some b ∧ pl x.enc = none := by
 unfold q3T at e
 split at e
 ·rename_i n c
  cases h1 : (xR P t).isSome with
  | false => rw [h1] at e; cases e
  | true =>
    rw [h1] at e
    simp only [cond_true] at e
    split at e
    ·rename_i k g n
     split at e
     ·rename_i el gr g' w u xs hk
      cases h2 : Nat.beq g g' with
      | false => rw [h2] at e; cases e
      | true =>
        rw [h2] at e
        cases e
        have hg : g = g' := Nat.eq_of_beq_eq_true h2
        subst hg
        simp only [SV.ok] at hx
        have hn := hx.2 _ _ _ _ _ hk
        have hl := ho.list _ _ _ _ _ _ _ hk
        refine ⟨?_, by simp [SV.enc, pl]⟩
        simp only [SV.enc, fvv, qTM, h1, cond_true, isNil, vY hk]
        rw [show (SO.list el gr g w u xs).enc.el = el from rfl, hl.2.1]
        simp only [zR, hn, qAL, cond_true]
        rfl
     ·cases e
    ·cases e
 ·cases h1 : qO3 P t with
  | false => rw [h1] at e; cases e
  | true =>
    rw [h1] at e
    simp only [cond_true] at e
    split at e
    ·cases e
     exact ⟨by simp [SV.enc, fvv, qTM, h1, qMV], by simp [SV.enc, pl]⟩
    ·cases e
 ·cases e
def q3O (P : Program) (op : BinOp) (t t2 ty : TypeId) (x y : SV) (h : SH) (K : SV -> Tree R) : Tree R := match asI x, asI y with
 | some (k, a), some (k', b) => cond (decide (k = k')) (sint op k a b K (qQG P op t t2 ty x y K)) (qQG P op t t2 ty x y K)
 | _, _ => (match q3T P t x y h, op with
   | some b, .eql => K (.d .bool b)
   | some b, .neq => K (.d .bool (!b))
   | _, _ => qQG P op t t2 ty x y K)
theorem qDZ {op : BinOp} {t t2 ty : TypeId} {x y : SV} {K : SV -> Tree R} (e : (qQG P op t t2 ty x y K).run = some r) : ∃ v, gM P op t t2 x.enc y.enc (qE h.l) = some v.enc ∧ v.ok h ∧ (K v).run = some r := by
 unfold qQG at e
 split at e
 ·rename_i a b u ha hb hu
  obtain ⟨z, hz, e1⟩ := run_bind e
  refine ⟨_, ?_, by simp [SV.ok], e1⟩
  rw [qYC (qCH ha) (qCH hb)]
  exact qMW hz
 ·cases e
theorem qXN {op : BinOp} {t t2 ty : TypeId} {x y : SV} {K : SV -> Tree R} (ho : OkH P h) (hx : x.ok h) (e : (q3O P op t t2 ty x y h K).run = some r) : ∃ v, gM P op t t2 x.enc y.enc (qE h.l) = some v.enc ∧ v.ok h ∧ (K v).run = some r := by
 unfold q3O at e
 split at e
 ·rename_i k a k' b ha hb
  cases hk : decide (k = k') with
  | false => rw [hk] at e; exact qDZ e
  | true =>
    rw [hk] at e
    have hkk : k = k' := by simpa using hk
    subst hkk
    simp only [cond_true] at e
    have ha' := vZ ha
    have hb' := vZ hb
    have fin : ∀ {v : SV}, gM P op t t2 (fvv (.int k a)) (fvv (.int k b)) (qE h.l) = some v.enc -> v.ok h -> (K v).run = some r -> ∃ v, gM P op t t2 x.enc y.enc (qE h.l) = some v.enc ∧ v.ok h ∧ (K v).run = some r := fun h1 h2 h3 => ⟨_, by rw [ha', hb']; exact h1, h2, h3⟩
    unfold sint at e
    split at e
    ·exact fin (v := .d .bool (decide (a < b))) q0H (by simp [SV.ok]) e
    ·exact fin (v := .d .bool (decide (a <= b))) q00 (by simp [SV.ok]) e
    ·exact fin (v := .d .bool (decide (b < a))) q1I (by simp [SV.ok]) e
    ·exact fin (v := .d .bool (decide (b <= a))) q1K (by simp [SV.ok]) e
    ·exact fin (v := .d .bool (a == b)) q13 (by simp [SV.ok]) e
    ·exact fin (v := .d .bool (a != b)) q0I (by simp [SV.ok]) e
    ·exact fin (v := .d (.int k) (k.wrap (a + b))) q1D (by simp [SV.ok]) e
    ·exact fin (v := .d (.int k) (k.wrap (a - b))) q1O (by simp [SV.ok]) e
    ·exact fin (v := .d (.int k) (k.wrap (a * b))) q1Z (by simp [SV.ok]) e
    ·obtain ⟨c, hc, e1⟩ := run_bind e
     exact fin (v := .d (.int k) c) (q04 hc) (by simp [SV.ok]) e1
    ·obtain ⟨c, hc, e1⟩ := run_bind e
     exact fin (v := .d (.int k) c) (q12 hc) (by simp [SV.ok]) e1
    ·exact qDZ e
 ·split at e
  ·rename_i b hs
   obtain ⟨h1, h2⟩ := qQM ho hx hs
   refine ⟨_, ?_, by simp [SV.ok], e⟩
   unfold gM
   rw [h2]
   simp [h1, SV.enc, Ty.fv, fvv]
  ·rename_i b hs
   obtain ⟨h1, h2⟩ := qQM ho hx hs
   refine ⟨_, ?_, by simp [SV.ok], e⟩
   unfold gM
   rw [h2]
   simp [h1, SV.enc, Ty.fv, fvv]
  ·exact qDZ e
def qRG (P : Program) (mk : Operand -> Op) (ty : TypeId) (x : SV) (K : SV -> Tree R) : Tree R := match qCX x, qN4 P 8 ty with
 | some a, some u => .bind (u.decPO (rD P mk (fvv a))) fun z => K (.d u z)
 | _, _ => .fail
theorem qLV {mk : Operand -> Op} {ty : TypeId} {x : SV} {K : SV -> Tree R} (e : (qRG P mk ty x K).run = some r) : ∃ v, rD P mk x.enc = some v.enc ∧ v.ok h ∧ (K v).run = some r ∧ ∃ a, qCX x = some a := by
 unfold qRG at e
 split at e
 ·rename_i a u ha hu
  obtain ⟨z, hz, e1⟩ := run_bind e
  exact ⟨_, by rw [oH ha]; exact qMW hz, by simp [SV.ok], e1, a, ha⟩
 ·cases e
def sun (P : Program) (op : UnOp) (t ty : TypeId) (x : SV) (K : SV -> Tree R) : Tree R := match op, asI x, asB x with
 | .neg, some (k, a), _ => K (.d (.int k) (k.wrap (0 - a)))
 | .not, _, some b => K (.d .bool (!b))
 | _, _, _ => qRG P (fun a => .unOp op t a) ty x K
omit [Yl] in
theorem qXZ {k : IntKind} {x : Int} {t : TypeId} : rD P (fun a => .unOp .neg t a) (fvv (.int k x)) = some (fvv (.int k (k.wrap (0 - x)))) := rfl
theorem q1M {op : UnOp} {t ty : TypeId} {x : SV} {K : SV -> Tree R} (e : (sun P op t ty x K).run = some r) : ∃ v, rD P (fun a => .unOp op t a) x.enc = some v.enc ∧ v.ok h ∧ (K v).run = some r := by
 unfold sun at e
 split at e
 ·rename_i k a ha
  exact ⟨_, by rw [vZ ha, qXZ]; simp [SV.enc, Ty.fv, fvv], by simp [SV.ok], e⟩
 ·rename_i b hb
  exact ⟨_, by rw [qAF hb, q1A]; simp [SV.enc, Ty.fv, fvv], by simp [SV.ok], e⟩
 ·obtain ⟨v, h1, h2, h3, _⟩ := qLV (h := h) e
  exact ⟨v, h1, h2, h3⟩
def oL (env : List SV) (l : Array Operand) : List SV := l.toList.map (wX env)
theorem eZ (env : List SV) (l : Array Operand) : l.toList.map (zD (qB env)) = qB (oL env l) := by
 unfold oL
 rw [zV (l.toList.map (wX env)), List.map_map]
 exact List.map_congr_left fun x _ => zQ env x
omit [Yl] in
theorem nD {env : List SV} (ho : okL h env) (l : Array Operand) : okL h (oL env l) := kD.2 fun x hx => by
 obtain ⟨q, _, rfl⟩ := List.mem_map.1 hx
 exact tY ho _
def smm (lo : Bool) (x y : SV) (K : SV -> Tree R) : Tree R := match asI x, asI y with
 | some (k, a), some (k', b) => cond (decide (k = k')) (K (.d (.int k) (cond lo (cond (decide (b < a)) b a) (cond (decide (a < b)) b a)))) .fail
 | _, _ => .fail
omit [Yl] in
theorem dmin {x y : Operand} {ts : Array TypeId} {ty : TypeId} {k : IntKind} {a b : Int} {env : Env} (hx : env.val x = .int k a) (hy : env.val y = .int k b) :
 qT1 (jQ P (cop (.call ⟨.builtin .min, #[x, y], ts⟩) ty) env H00) = some (fvv (.int k (if b < a then b else a))) := by
 have h2 : jZ env.val (cop (.call ⟨.builtin .min, #[x, y], ts⟩) ty).op.operands.toList = [env.val x, env.val y] := rfl
 unfold jQ
 rw [h2]
 simp only [cop, execOp, resolve, List.map_toArray, List.map_cons, List.map_nil, hx, hy]
 rfl
omit [Yl] in
theorem dmax {x y : Operand} {ts : Array TypeId} {ty : TypeId} {k : IntKind} {a b : Int} {env : Env} (hx : env.val x = .int k a) (hy : env.val y = .int k b) :
 qT1 (jQ P (cop (.call ⟨.builtin .max, #[x, y], ts⟩) ty) env H00) = some (fvv (.int k (if a < b then b else a))) := by
 have h2 : jZ env.val (cop (.call ⟨.builtin .max, #[x, y], ts⟩) ty).op.operands.toList = [env.val x, env.val y] := rfl
 unfold jQ
 rw [h2]
 simp only [cop, execOp, resolve, List.map_toArray, List.map_cons, List.map_nil, hx, hy]
 rfl
omit [Yl] in
theorem qRN {p : Prop} [Decidable p] {α : Type} {x y : α} : cond (decide p) x y = if p then x else y := by
 by_cases h : p <;> simp [h]
theorem qWV {lo : Bool} {c : Call} {x y : SV} {env : List SV} {ty : TypeId} {K : SV -> Tree R} (hl : oL env c.args = [x, y]) (hc : c.callee = .builtin (cond lo .min .max)) (e : (smm lo x y K).run = some r) :
 ∃ v, uI P (cond lo .min .max) c [x.enc, y.enc] (qB env) ty (qE h.l) = some (v.enc, qE h.l) ∧ v.ok h ∧ (K v).run = some r := by
 unfold smm at e
 split at e
 ·rename_i k a k' b ha hb
  cases hk : decide (k = k') with
  | false => rw [hk] at e; cases e
  | true =>
    rw [hk] at e
    have : k = k' := by simpa using hk
    subst this
    have e1 := vZ ha
    have e2 := vZ hb
    refine ⟨_, ?_, by simp [SV.ok], e⟩
    obtain ⟨cal, args, ts⟩ := c
    simp only at hc hl
    subst hc
    unfold oL at hl
    have hal : ∃ p q, args = #[p, q] ∧ wX env p = x ∧ wX env q = y := by
     obtain ⟨l⟩ := args
     match l, hl with
     | [p, q], hl => simp at hl; exact ⟨p, q, rfl, hl.1, hl.2⟩
    obtain ⟨p, q, rfl, hp, hq⟩ := hal
    have vp : (qOP (qB env)).val p = .int k a := nJ P (by rw [zQ, hp, e1]; rfl)
    have vq : (qOP (qB env)).val q = .int k b := nJ P (by rw [zQ, hq, e2]; rfl)
    unfold uI
    rw [e1, e2]
    have hpl : plL [fvv (.int k a), fvv (.int k b)] = some [.int k a, .int k b] := rfl
    rw [hpl]
    cases lo with
    | true =>
      simp only [cond_true]
      rw [dmin vp vq, qRN]
      simp [pp1, SV.enc, Ty.fv, fvv]
    | false =>
      simp only [cond_false]
      rw [dmax vp vq, qRN]
      simp [pp1, SV.enc, Ty.fv, fvv]
 ·cases e
def qF7 (env : List SV) (parts : Array (Nat × Operand)) : List (Nat × SV) := parts.toList.map fun p => (p.1, wX env p.2)
theorem qCL (env : List SV) (parts : Array (Nat × Operand)) : (parts.toList.map fun p => (p.1, zD (qB env) p.2)) = q0F (qF7 env parts) := by
 simp [qF7, q0F, zQ]
omit [Yl] in
theorem qGF {env : List SV} (ho : okL h env) (parts : Array (Nat × Operand)) : ∀ p ∈ qF7 env parts, p.2.ok h := fun p hp => by
 obtain ⟨q, _, rfl⟩ := List.mem_map.1 hp
 exact tY ho _
def qQK : Operand -> Operand -> Bool
 | .tmp i, .tmp j => Nat.beq i j
 | .const (.int k a), .const (.int k' b) => decide (k = k') && decide (a = b)
 | _, _ => false
omit [Yl] in
theorem qRH {a b : Operand} (e : qQK a b = true) : a = b := by
 unfold qQK at e
 split at e
 ·rw [Nat.eq_of_beq_eq_true e]
 ·rw [Bool.and_eq_true] at e
  have h1 := of_decide_eq_true e.1
  have h2 := of_decide_eq_true e.2
  rw [h1, h2]
 ·cases e
def gv (o : Option SV) (h : SH) (K : SV -> SH -> Tree R) : Tree R := match o with
 | some v => K v h
 | none => .fail
def sop (P : Program) (o : Oper) (env : List SV) (k : Nat) (h : SH) (K : SV -> SH -> Tree R) : Tree R := match o.op with
 | .move x => K (wX env x) h
 | .assign x => K (wX env x) h
 | .pick c a b => (match asB (wX env c) with
   | some t => .ite t (K (wX env a) h) (K (wX env b) h)
   | none => .fail)
 | .alloc el => qSK P el k h K
 | .box el x => q4L el (wX env x) k h K
 | .build t parts => gv (qS0 P t (qF7 env parts)) h K
 | .buildSlice t len parts => dW P t len (qF7 env parts) k h K
 | .load t a => qXK P t (wX env a) h fun v => K v h
 | .store t a x => qRS P t (wX env a) (wX env x) h K
 | .nilCheck x => gv (qAP (wX env x) h) h K
 | .binOp op t x y t2 => q3O P op t t2 o.type (wX env x) (wX env y) h fun v => K v h
 | .unOp op t x => sun P op t o.type (wX env x) fun v => K v h
 | .convert s d x => cond (qN8 (wX env x).enc) .fail (qRG P (fun a => .convert s d a) o.type (wX env x) fun v => K v h)
 | .makeFunc fn first cap => gv (qAS fn (oL env first) (oL env cap)) h K
 | .makeSlice t l c => cond (qQK l c) (qZW P t (wX env l) k h K) .fail
 | .slice t x lo hi none => qR5 P t (wX env x) (lo.map (wX env)) (hi.map (wX env)) h fun v => K v h
 | .fieldAddr t x i => gv (oG P t (wX env x) i h) h K
 | .field t x i => gv (qRU P t (wX env x) i) h K
 | .indexAddr t x ix => oJ P t (wX env x) (wX env ix) h fun v => K v h
 | .index t x ix => qS9 P t (wX env x) (wX env ix) fun v => K v h
 | .extract t i => gv (qFR (wX env t) i) h K
 | .call c => (match c.callee, oL env c.args with
   | .builtin .append, [x, y] => qJ6 P c.argTypes.toList x y k h K
   | .builtin .copy, [x, y] => qZP P c.argTypes.toList x y h K
   | .builtin .len, [x] => cond (qZU P c.argTypes) .fail (gv (q3U P c.argTypes x h) h K)
   | .builtin .min, [x, y] => smm true x y fun v => K v h
   | .builtin .max, [x, y] => smm false x y fun v => K v h
   | _, _ => .fail)
 | _ => .fail
omit [Yl] in
theorem qK2 {o : Option SV} {K : SV -> SH -> Tree R} (e : (gv o h K).run = some r) : ∃ v, o = some v ∧ (K v h).run = some r := by
 unfold gv at e
 split at e
 ·exact ⟨_, rfl, e⟩
 ·cases e
theorem qWG {o : Oper} {env : List SV} {k : Nat} {K : SV -> SH -> Tree R} (ho : OkH P h) (he : okL h env) (e : (sop P o env k h K).run = some r) :
 ∃ v h', qF4 P o (qB env) k (qE h.l) = some (v.enc, qE h'.l) ∧ Post P h h' v ∧ (K v h').run = some r := by
 have same : ∀ {v : SV}, v.ok h -> Post P h h v := fun hv => ⟨.refl _, ho, hv⟩
 have sv := fun x => tY (h := h) he x
 unfold sop at e
 unfold qF4
 split at e
 ·rename_i x ho'
  exact ⟨_, _, by simp only [ho', zQ], same (sv x), e⟩
 ·rename_i x ho'
  exact ⟨_, _, by simp only [ho', zQ], same (sv x), e⟩
 ·rename_i c a b ho'
  split at e
  ·rename_i t ht
   have h1 := qAF ht
   rcases run_ite e with ⟨z, e1⟩ | ⟨z, e1⟩
   ·exact ⟨_, _, by simp only [ho', zQ, h1, fvv, z, cond_true], same (sv a), e1⟩
   ·exact ⟨_, _, by simp only [ho', zQ, h1, fvv, z, cond_false], same (sv b), e1⟩
  ·cases e
 ·rename_i el ho'
  rw [ho']
  exact qQ5 ho e
 ·rename_i el x ho'
  rw [ho']
  simp only [zQ]
  exact qZJ ho (sv x) e
 ·rename_i t parts ho'
  rw [ho']
  obtain ⟨v, h1, h2⟩ := qK2 e
  have h3 := qQX (qGF he parts) h1
  exact ⟨v, h, by simp only [qCL, h3.1, pp1], same h3.2, h2⟩
 ·rename_i t len parts ho'
  rw [ho']
  simp only [qCL]
  exact qB6 ho (qGF he parts) e
 ·rename_i t a ho'
  rw [ho']
  obtain ⟨v, h1, h2, h3⟩ := qU2 ho (sv a) e
  exact ⟨v, h, by simp only [zQ, h1, pp1], same h2, h3⟩
 ·rename_i t a x ho'
  rw [ho']
  obtain ⟨h', h1, h2, h3, h4⟩ := qSY ho (sv a) (sv x) e
  exact ⟨_, h', by simp only [zQ, h1, ppS]; simp [SV.enc, qB], ⟨h2, h3, by simp [SV.ok, okL]⟩, h4⟩
 ·rename_i x ho'
  rw [ho']
  obtain ⟨v, h1, h2⟩ := qK2 e
  have h3 := qHC (sv x) h1
  exact ⟨v, h, by simp only [zQ, h3.1, pp1], same h3.2, h2⟩
 ·rename_i op t x y t2 ho'
  rw [ho']
  obtain ⟨v, h1, h2, h3⟩ := qXN ho (sv x) e
  exact ⟨v, h, by simp only [zQ, h1, pp1], same h2, h3⟩
 ·rename_i op t x ho'
  rw [ho']
  obtain ⟨v, h1, h2, h3⟩ := q1M (h := h) e
  exact ⟨v, h, by simp only [zQ, h1, pp1], same h2, h3⟩
 ·rename_i s d x ho'
  rw [ho']
  cases hp : qN8 (wX env x).enc with
  | true => rw [hp] at e; cases e
  | false =>
    rw [hp] at e
    have e1 : (qRG P (fun a => .convert s d a) o.type (wX env x) fun v => K v h).run = some r := e
    obtain ⟨v, h1, h2, h3, _⟩ := qLV (h := h) e1
    exact ⟨v, h, by simp only [zQ, hp, cond_false, h1, pp1], same h2, h3⟩
 ·rename_i fn first cap ho'
  rw [ho']
  obtain ⟨v, h1, h2⟩ := qK2 e
  have h3 := qF5 (nD he first) (nD he cap) h1
  exact ⟨v, h, by simp only [eZ, h3.1, pp1], same h3.2, h2⟩
 ·rename_i t l c ho'
  rw [ho']
  obtain ⟨h1, h2⟩ := qN e
  have := qRH h1
  subst this
  simp only [zQ]
  exact qVU ho h2
 ·rename_i t x lo hi ho'
  rw [ho']
  obtain ⟨v, h1, h2, h3⟩ := qQC ho (sv x) e
  refine ⟨v, h, ?_, same h2, h3⟩
  have m : ∀ o : Option Operand, o.map (zD (qB env)) = (o.map (wX env)).map SV.enc := fun o => by cases o <;> simp [zQ]
  simp only [zQ, m]
  have ns : ∀ s, (wX env x).enc ≠ .f (.v (.string s)) := fun s hs => by
   rw [hs] at h1
   simp only [uN] at h1
   cases h1
  split
  ·rename_i s hs; exact absurd hs (ns s)
  ·rw [h1]; rfl
 ·rename_i t x i ho'
  rw [ho']
  obtain ⟨v, h1, h2⟩ := qK2 e
  have h3 := qEA (sv x) h1
  exact ⟨v, h, by simp only [zQ, h3.1, pp1], same h3.2, h2⟩
 ·rename_i t x i ho'
  rw [ho']
  obtain ⟨v, h1, h2⟩ := qK2 e
  have h3 := qRR (sv x) h1
  exact ⟨v, h, by simp only [zQ, h3.1, pp1], same h3.2, h2⟩
 ·rename_i t x ix ho'
  rw [ho']
  obtain ⟨v, h1, h2, h3⟩ := qFA ho (sv x) e
  exact ⟨v, h, by simp only [zQ, h1, pp1], same h2, h3⟩
 ·rename_i t x ix ho'
  rw [ho']
  obtain ⟨v, h1, h2, h3, l, hl⟩ := qQ9 (sv x) e
  refine ⟨v, h, ?_, same h2, h3⟩
  simp only [zQ]
  rw [hl] at h1 ⊢
  simp only [SV.enc] at h1 ⊢
  rw [h1]
  rfl
 ·rename_i t i ho'
  rw [ho']
  obtain ⟨v, h1, h2⟩ := qK2 e
  have h3 := qKR (sv t) h1
  exact ⟨v, h, by simp only [zQ, h3.1, pp1], same h3.2, h2⟩
 ·rename_i c ho'
  rw [ho']
  have ha := eZ env c.args
  have hao := nD he c.args
  split at e
  ·rename_i x y hc hl
   rw [hl] at ha hao
   simp only [okL] at hao
   simp only [hc, ha, qB, fP]
   exact qOD ho hao.1 hao.2.1 e
  ·rename_i x y hc hl
   rw [hl] at ha hao
   simp only [okL] at hao
   simp only [hc, ha, qB, fP]
   exact qUG ho hao.1 hao.2.1 e
  ·rename_i x hc hl
   rw [hl] at ha hao
   simp only [okL] at hao
   cases hst : qZU P c.argTypes with
   | true => rw [hst] at e; cases e
   | false =>
     rw [hst] at e
     obtain ⟨v, h1, h2⟩ := qK2 e
     have h3 := qYF ho hao.1 h1
     refine ⟨v, h, ?_, same h3.2, h2⟩
     simp only [hc, ha, qB, fP, hst, cond_false, h3.1, pp1]
  ·rename_i x y hc hl
   rw [hl] at ha
   obtain ⟨v, h1, h2, h3⟩ := qWV (h := h) (lo := true) (ty := o.type) hl hc e
   exact ⟨v, h, by simp only [hc, ha, qB, fP]; exact h1, same h2, h3⟩
  ·rename_i x y hc hl
   rw [hl] at ha
   obtain ⟨v, h1, h2, h3⟩ := qWV (h := h) (lo := false) (ty := o.type) hl hc e
   exact ⟨v, h, by simp only [hc, ha, qB, fP]; exact h1, same h2, h3⟩
  ·cases e
 ·cases e
end
end Go.Sv
namespace Go.Sv
open Go.Idl
noncomputable section
variable [Yl]
variable {P : Program} {h : SH} {R : Type} {r : R} {tab : aL}
omit [Yl] in
theorem qEC : ∀ (cs : List FV) (ph : PHp) (n : Nat), qIV (fz1 P n) (cs.map .f) ph = some (cs, ph)
 | [], ph, n => rfl
 | c :: cs, ph, n => by
   have e : fz1 P n ph (.f c) = some (c, ph) := by cases n <;> rfl
   show (match fz1 P n ph (.f c) with
    | some (y, ph1) => (match qIV (fz1 P n) (cs.map .f) ph1 with
      | some (ys, ph2) => some (y :: ys, ph2)
      | none => none)
    | none => none) = _
   rw [e]
   simp only [qEC cs ph n]
theorem qXW {k n o m : Nat} {el : TypeId} {gr : Bool} {g w : Nat} {t : Ty} {xs : List t.sem} (ho : OkH P h) (hk : slk k h.l = some (.list el gr g w t xs)) (hn : n = xs.length) (hom : o + m <= n) :
 fz1 P 4 (qE h.l) (.own k n o m) = some (.l el m (((xs.drop o).take m).flatMap t.cells), qE (h.del k).l) := by
 have hl := ho.list _ _ _ _ _ _ _ hk
 simp only [fz1, vY hk]
 rw [show (SO.list el gr g w t xs).enc.el = el from rfl, hl.2.1]
 simp only [zR, hn, qAL, cond_true]
 rw [show (SO.list el gr g w t xs).enc.cs = (xs.flatMap t.cells).map .f from rfl, <- List.map_drop, <- List.map_take, gT, gL, qEC]
 show some _ = some (_, qE (sdl k h.l))
 rw [mM]
def q2H (el : TypeId) (t : Ty) (k g : Nat) (f : List t.sem -> List t.sem) (h : SH) : Option (List t.sem × SH) := match slk k h.l with
 | some (.list el' _ g' _ u xs) => cond (Nat.beq el' el && Nat.beq g g') (match qFW u t xs with
   | some xs => some (f xs, h.del k)
   | none => none) none
 | _ => none
def q4F (P : Program) (ty el : TypeId) (t : Ty) (h : SH) : Option (List t.sem × SH) := match xR P ty with
 | some el' => cond (Nat.beq el' el) (some ([], h)) none
 | none => none
def qTX (P : Program) (ty : TypeId) : (t : Ty) -> SV -> SH -> Option (t.sem × SH)
 | .list el t, .own k g _, h => q2H el t k g (fun xs => xs) h
 | .list el t, .sl k g _ o m, h => q2H el t k g (fun xs => (xs.drop o).take m) h
 | .list el t, .c (.slice none 0 0), h => q4F P ty el t h
 | t, v, h => match t.decS v with
   | some x => some (x, h)
   | none => none
omit [Yl] in
theorem qIN {ty : TypeId} : ∀ {t : Ty} {x : t.sem}, t.one = true -> rt0 P ty (.f (t.fv x)) = .f (t.fv x)
 | .int _, _, _ => rfl
 | .bool, _, _ => rfl
 | .str, _, _ => rfl
 | .list _ _, _, _ => rfl
 | .unit, _, e => by cases e
 | .pair _ _, _, e => by cases e
theorem qQE {el ty : TypeId} {t : Ty} {k g n o m : Nat} {f : List t.sem -> List t.sem} {x : List t.sem} {h' : SH} (ho : OkH P h) (hs : qWI h k g n) (hom : o + m <= n) (hf : ∀ xs : List t.sem, xs.length = n -> f xs = (xs.drop o).take m) (e : q2H el t k g f h = some (x, h')) :
 fz1 P 4 (qE h.l) (.own k n o m) = some ((Ty.list el t).fv x, qE h'.l) ∧ Keep h h' ∧ OkH P h' := by
 unfold q2H at e
 split at e
 ·rename_i el' gr g' w u xs hk
  cases hc : (Nat.beq el' el && Nat.beq g g') with
  | false => rw [hc] at e; cases e
  | true =>
    rw [hc] at e
    rw [Bool.and_eq_true] at hc
    have he : el' = el := Nat.eq_of_beq_eq_true hc.1
    have hg : g = g' := Nat.eq_of_beq_eq_true hc.2
    subst he hg
    simp only [cond_true] at e
    split at e
    ·rename_i ys hys
     cases fC hys
     cases e
     have hn := hs.2 _ _ _ _ _ hk
     have hd := oW (k := k) ho
     refine ⟨?_, hd.1, hd.2⟩
     rw [qXW ho hk hn hom, hf _ hn.symm]
     show some (FV.l el' m _, _) = some (FV.l el' _ _, _)
     rw [List.length_take, List.length_drop, Nat.min_eq_left (by omega)]
    ·cases e
 ·cases e
theorem qLA {ty : TypeId} {t : Ty} {v : SV} {x : t.sem} {h' : SH} (ho : OkH P h) (hv : v.ok h) (e : qTX P ty t v h = some (x, h')) :
 ∃ y, fz1 P 4 (qE h.l) v.enc = some (y, qE h'.l) ∧ rt0 P ty (.f y) = .f (t.fv x) ∧ t.one = true ∧ Keep h h' ∧ OkH P h' := by
 unfold qTX at e
 split at e
 ·rename_i el t k g n
  simp only [SV.ok] at hv
  obtain ⟨h1, h2, h3⟩ := qQE (ty := ty) (n := n) (o := 0) (m := n) ho hv (by omega) (fun xs hl => by rw [List.drop_zero, <- hl, List.take_length]) e
  exact ⟨_, by simp only [SV.enc]; exact h1, qIN rfl, rfl, h2, h3⟩
 ·rename_i el t k g n o m
  simp only [SV.ok] at hv
  obtain ⟨h1, h2, h3⟩ := qQE (ty := ty) (n := n) (o := o) (m := m) ho hv.1 hv.2 (fun xs hl => rfl) e
  exact ⟨_, by simp only [SV.enc]; exact h1, qIN rfl, rfl, h2, h3⟩
 ·rename_i el t
  unfold q4F at e
  split at e
  ·rename_i el' hel
   cases hc : Nat.beq el' el with
   | false => rw [hc] at e; cases e
   | true =>
     rw [hc] at e
     cases e
     have he : el' = el := Nat.eq_of_beq_eq_true hc
     subst he
     refine ⟨.v (.slice none 0 0), by simp only [SV.enc, fvv, fz1], ?_, rfl, .refl _, ho⟩
     show (match xR P ty with
      | some el => PV.f (.l el 0 [])
      | none => fvv (.slice none 0 0)) = _
     rw [hel]
     rfl
  ·cases e
 ·split at e
  ·rename_i y hy
   cases e
   obtain ⟨h1, h2⟩ := qD7 hy
   exact ⟨_, by rw [h1]; rfl, qIN h2, h2, .refl _, ho⟩
  ·cases e
def qNZ (P : Program) (t : Ty) (tys : List TypeId) (l : List SV) (h : SH) : Option (t.sem × List TypeId × List SV × SH) := match tys, l with
 | ty :: tys, v :: l => (match qTX P ty t v h with
   | some (x, h') => some (x, tys, l, h')
   | none => none)
 | _, _ => none
def Ty.decC (P : Program) : (t : Ty) -> List TypeId -> List SV -> SH -> Option (t.sem × List TypeId × List SV × SH)
 | .unit, tys, l, h => some ((), tys, l, h)
 | .pair a b, tys, l, h => match a.decC P tys l h with
   | some (x, tys1, l1, h1) => (match b.decC P tys1 l1 h1 with
     | some (y, tys2, l2, h2) => some ((x, y), tys2, l2, h2)
     | none => none)
   | none => none
 | .int k, tys, l, h => qNZ P (.int k) tys l h
 | .bool, tys, l, h => qNZ P .bool tys l h
 | .str, tys, l, h => qNZ P .str tys l h
 | .list el t, tys, l, h => qNZ P (.list el t) tys l h
def q36 (P : Program) (t : Ty) (tys : List TypeId) (l : List SV) (h : SH) (x : t.sem) (tys' : List TypeId) (l' : List SV) (h' : SH) : Prop :=
 okL h' l' ∧ Keep h h' ∧ OkH P h' ∧ ∃ ys : List FV, (∀ zs p, qIV (fz1 P 4) (qB l') (qE h'.l) = some (zs, p) -> qIV (fz1 P 4) (qB l) (qE h.l) = some (ys ++ zs, p)) ∧
  ∀ zs : List PV, rtL (rt0 P) tys (ys.map .f ++ zs) = (t.cells x).map .f ++ rtL (rt0 P) tys' zs
theorem rZ {t : Ty} {tys tys' : List TypeId} {l l' : List SV} {x : t.sem} {h' : SH} (ho : OkH P h) (hl : okL h l) (e : qNZ P t tys l h = some (x, tys', l', h')) : q36 P t tys l h x tys' l' h' := by
 unfold qNZ at e
 split at e
 ·rename_i ty tys v l
  split at e
  ·rename_i y h1 hd
   cases e
   simp only [okL] at hl
   obtain ⟨y, a1, a2, a3, a4, a5⟩ := qLA ho hl.1 hd
   refine ⟨zA a4 hl.2, a4, a5, [y], fun zs p hz => ?_, fun zs => ?_⟩
   ·simp only [qB, qIV, a1, hz]; rfl
   ·show rt0 P ty (.f y) :: rtL (rt0 P) _ zs = _
    rw [a2, Ty.cells_one a3]; rfl
  ·cases e
 ·cases e
theorem qED : ∀ {t : Ty} {tys tys' : List TypeId} {l l' : List SV} {h : SH} {x : t.sem} {h' : SH}, OkH P h -> okL h l -> t.decC P tys l h = some (x, tys', l', h') -> q36 P t tys l h x tys' l' h'
 | .unit, tys, tys', l, l', h, x, h', ho, hl, e => by
   cases e
   exact ⟨hl, .refl _, ho, [], fun zs p hz => hz, fun zs => rfl⟩
 | .int k, tys, tys', l, l', h, x, h', ho, hl, e => rZ ho hl e
 | .bool, tys, tys', l, l', h, x, h', ho, hl, e => rZ ho hl e
 | .str, tys, tys', l, l', h, x, h', ho, hl, e => rZ ho hl e
 | .list el t, tys, tys', l, l', h, x, h', ho, hl, e => rZ ho hl e
 | .pair a b, tys, tys', l, l', h, x, h', ho, hl, e => by
   unfold Ty.decC at e
   split at e
   ·rename_i x1 tys1 l1 h1 hd1
    split at e
    ·rename_i y tys2 l2 h2 hd2
     cases e
     obtain ⟨a1, a2, a3, ys, a4, a5⟩ := qED ho hl hd1
     obtain ⟨b1, b2, b3, zs, b4, b5⟩ := qED a3 a1 hd2
     refine ⟨b1, a2.trans b2, b3, ys ++ zs, fun us p hu => ?_, fun us => ?_⟩
     ·rw [List.append_assoc]
      exact a4 _ _ (b4 _ _ hu)
     ·rw [List.map_append, List.append_assoc, a5, b5]
      show _ = (a.cells x1 ++ b.cells y).map PV.f ++ _
      rw [List.map_append, List.append_assoc]
    ·cases e
   ·cases e
def qZ1 (P : Program) (ty : TypeId) (t : Ty) (v : SV) (h : SH) : Option (t.sem × SH) := cond t.one (match v with
 | .agg _ => none
 | v => qTX P ty t v h) (match v with
 | .agg l => (match t.decC P (pK P 8 ty) l h with
   | some (x, _, [], h') => some (x, h')
   | _ => none)
 | _ => none)
theorem qE1 {ty : TypeId} {t : Ty} {v : SV} {x : t.sem} {h' : SH} (ho : OkH P h) (hv : v.ok h) (e : qZ1 P ty t v h = some (x, h')) :
 ∃ y, fzP P (qE h.l) v.enc = some (y, qE h'.l) ∧ rt1 P ty y = t.pv x ∧ Keep h h' ∧ OkH P h' := by
 unfold qZ1 at e
 cases ht : t.one with
 | true =>
   rw [ht] at e
   simp only [cond_true] at e
   split at e
   ·cases e
   ·rename_i hna
    obtain ⟨y, h1, h2, h3, h4, h5⟩ := qLA ho hv e
    refine ⟨.f y, ?_, ?_, h4, h5⟩
    ·cases v with
     | agg l => exact absurd rfl (hna l)
     | _ => simp only [SV.enc, fvv, fzP] at h1 ⊢; rw [h1]
    ·show rt0 P ty (.f y) = _
     rw [h2]
     unfold Ty.pv
     rw [ht]; rfl
 | false =>
   rw [ht] at e
   simp only [cond_false] at e
   split at e
   ·rename_i l
    split at e
    ·rename_i x1 tys1 h1 hd
     cases e
     simp only [SV.ok] at hv
     obtain ⟨a1, a2, a3, ys, a4, a5⟩ := qED ho hv hd
     refine ⟨.agg (ys.map .f), ?_, ?_, a2, a3⟩
     ·have := a4 [] (qE h'.l) (by simp [qB, qIV])
      simp only [SV.enc, fzP, this, List.append_nil]
     ·show PV.agg (rtL (rt0 P) (pK P 8 ty) (ys.map .f)) = _
      have := a5 []
      rw [List.append_nil] at this
      rw [this]
      unfold Ty.pv
      rw [ht]
      cases tys1 <;> simp [rtL]
    ·cases e
   ·cases e
def vV (P : Program) : List TypeId -> (ts : List Ty) -> List SV -> SH -> Option (TyL ts × SH)
 | _, [], [], h => some ((), h)
 | ty :: _, [t], [v], h => qZ1 P ty t v h
 | ty :: tys, t :: u :: ts, v :: vs, h => match qZ1 P ty t v h with
   | some (x, h1) => (match vV P tys (u :: ts) vs h1 with
     | some (y, h2) => some ((x, y), h2)
     | none => none)
   | none => none
 | _, _, _, _ => none
theorem cO : ∀ {tys : List TypeId} {ts : List Ty} {vs : List SV} {h : SH} {x : TyL ts} {h' : SH}, OkH P h -> okL h vs -> vV P tys ts vs h = some (x, h') ->
 ∃ ys, fzA P (qB vs) (qE h.l) = some (ys, qE h'.l) ∧ rtL (rt1 P) tys ys = pvL ts x ∧ Keep h h' ∧ OkH P h'
 | tys, [], [], h, x, h', ho, hv, e => by
   unfold vV at e
   cases e
   refine ⟨[], rfl, ?_, .refl _, ho⟩
   cases tys <;> rfl
 | ty :: tys, [t], [v], h, x, h', ho, hv, e => by
   unfold vV at e
   simp only [okL] at hv
   obtain ⟨y, h1, h2, h3, h4⟩ := qE1 ho hv.1 e
   refine ⟨[y], ?_, ?_, h3, h4⟩
   ·simp only [qB, fzA, h1]
   ·show rt1 P ty y :: rtL (rt1 P) tys [] = [t.pv x]
    rw [h2]
    cases tys <;> rfl
 | ty :: tys, t :: u :: ts, v :: vs, h, x, h', ho, hv, e => by
   unfold vV at e
   simp only [okL] at hv
   split at e
   ·rename_i x1 h1 hd
    split at e
    ·rename_i y1 h2 hd2
     cases e
     obtain ⟨y, a1, a2, a3, a4⟩ := qE1 ho hv.1 hd
     obtain ⟨ys, b1, b2, b3, b4⟩ := cO a4 (zA a3 hv.2) hd2
     refine ⟨y :: ys, ?_, ?_, a3.trans b3, b4⟩
     ·simp only [qB, fzA, a1, b1]
     ·show rt1 P ty y :: rtL (rt1 P) tys ys = t.pv x1 :: pvL (u :: ts) y1
      rw [a2, b2]
    ·cases e
   ·cases e
 | [], [_], [_], _, _, _, _, _, e => by unfold vV at e; cases e
 | [], _ :: _ :: _, _ :: _, _, _, _, _, _, e => by unfold vV at e; cases e
 | tys, [], _ :: _, _, _, _, _, _, e => by cases tys <;> (unfold vV at e; cases e)
 | tys, _ :: ts, [], _, _, _, _, _, e => by cases tys <;> cases ts <;> (unfold vV at e; cases e)
 | tys, [_], _ :: _ :: _, _, _, _, _, _, e => by cases tys <;> (unfold vV at e; cases e)
def Ty.sv (t : Ty) (x : t.sem) : SV := cond t.one (.d t x) (.agg (t.svs x))
theorem pR (t : Ty) (x : t.sem) : (t.sv x).enc = t.pv x := by
 unfold Ty.sv Ty.pv
 cases t.one <;> simp [SV.enc, qAZ]
omit [Yl] in
theorem qI7 (t : Ty) (x : t.sem) : (t.sv x).ok h := by
 unfold Ty.sv
 cases t.one
 ·simp only [cond_false, SV.ok]; exact qMG t x
 ·simp [SV.ok]
def svL : (ts : List Ty) -> TyL ts -> List SV
 | [], _ => []
 | [t], x => [t.sv x]
 | t :: u :: ts, x => t.sv x.1 :: svL (u :: ts) x.2
theorem qBC : ∀ (ts : List Ty) (x : TyL ts), qB (svL ts x) = pvL ts x
 | [], _ => by simp [svL, pvL, qB]
 | [t], x => by simp [svL, pvL, qB, pR]
 | t :: u :: ts, x => by
   show qB (t.sv x.1 :: svL (u :: ts) x.2) = t.pv x.1 :: pvL (u :: ts) x.2
   simp only [qB, pR, qBC (u :: ts)]
omit [Yl] in
theorem qBS : ∀ (ts : List Ty) (x : TyL ts), okL h (svL ts x)
 | [], _ => by simp [svL, okL]
 | [t], x => by simp [svL, okL, qI7]
 | t :: u :: ts, x => by
   show okL h (t.sv x.1 :: svL (u :: ts) x.2)
   simp only [okL]
   exact ⟨qI7 t x.1, qBS (u :: ts) x.2⟩
def qGB (ts : List Ty) (x : TyL ts) : SV := match svL ts x with
 | [v] => v
 | vs => .tup vs
theorem qHN (ts : List Ty) (x : TyL ts) : (qGB ts x).enc = wE ts x := by
 unfold qGB wE
 rw [<- qBC]
 match svL ts x with
 | [] => simp [qB, qBX, SV.enc]
 | [v] => simp [qB, qBX]
 | a :: b :: l => simp [qB, qBX, SV.enc]
omit [Yl] in
theorem qLK (ts : List Ty) (x : TyL ts) : (qGB ts x).ok h := by
 unfold qGB
 have := qBS (h := h) ts x
 split
 ·rename_i v hv
  rw [hv] at this
  simp only [okL] at this
  exact this.1
 ·simp only [SV.ok]; exact this
def qSL (tab : aL) (T : xZ) : Prop := ∀ g ent, slT g T = some ent -> ∀ x, tab g (pvL ent.as x) = (ent.F x).map (wE ent.rs)
def qNF (P : Program) (T : xZ) (d : Bool) (g : FuncId) (as : List SV) (h : SH) (K : SV -> SH -> Tree R) : Tree R := match slT g T, P.funcs[g]? with
 | some ent, some fn => (match vV P fn.params.toList ent.as as h with
   | some (x, h1) => .bind (ent.F x) fun y => cond d (cond (wU (wE ent.rs y) || (qB as).all qOR) (K (qGB ent.rs y) h) .fail) (K (qGB ent.rs y) (cond (wU (wE ent.rs y)) h h1))
   | none => .fail)
 | _, _ => .fail
theorem qT5 {T : xZ} (ht : qSL tab T) {g : FuncId} {as : List SV} {K : SV -> SH -> Tree R} (ho : OkH P h) (ha : okL h as) (e : (qNF P T false g as h K).run = some r) :
 ∃ v h', fQ P tab g (qB as) (qE h.l) = .ok v.enc (qE h'.l) ∧ Post P h h' v ∧ (K v h').run = some r := by
 unfold qNF at e
 split at e
 ·rename_i ent fn hent hfn
  split at e
  ·rename_i x h1 hx
   obtain ⟨y, hy, e1⟩ := run_bind e
   obtain ⟨ys, a1, a2, a3, a4⟩ := cO ho ha hx
   have e2 : (K (qGB ent.rs y) (cond (wU (wE ent.rs y)) h h1)).run = some r := e1
   refine ⟨_, _, ?_, ⟨?_, ?_, qLK _ _⟩, e2⟩
   ·unfold fQ
    rw [a1]
    simp only
    rw [show rtA P g ys = pvL ent.as x by unfold rtA; rw [hfn]; exact a2, ht g ent hent x, hy]
    simp only [Option.map_some, qHN]
    cases wU (wE ent.rs y) <;> rfl
   ·cases wU (wE ent.rs y)
    ·exact a3
    ·exact .refl _
   ·cases wU (wE ent.rs y)
    ·exact a4
    ·exact ho
  ·cases e
 ·cases e
theorem qR0 {T : xZ} (ht : qSL tab T) {g : FuncId} {as : List SV} {K : SV -> SH -> Tree R} (ho : OkH P h) (ha : okL h as) (e : (qNF P T true g as h K).run = some r) :
 ∃ v h', qAA P tab g (qB as) (qE h.l) = .ok v.enc (qE h'.l) ∧ Post P h h' v ∧ (K v h').run = some r := by
 unfold qNF at e
 split at e
 ·rename_i ent fn hent hfn
  split at e
  ·rename_i x h1 hx
   obtain ⟨y, hy, e1⟩ := run_bind e
   obtain ⟨ys, a1, a2, a3, a4⟩ := cO ho ha hx
   obtain ⟨c, e2⟩ := qN (show (cond (wU (wE ent.rs y) || (qB as).all qOR) (K (qGB ent.rs y) h) .fail : Tree R).run = some r from e1)
   refine ⟨_, _, ?_, ⟨.refl _, ho, qLK _ _⟩, e2⟩
   unfold qAA
   rw [a1]
   simp only
   rw [show rtA P g ys = pvL ent.as x by unfold rtA; rw [hfn]; exact a2, ht g ent hent x, hy]
   simp only [Option.map_some, qHN, c, cond_true]
  ·cases e
 ·cases e
def qE2 (fv : SV) (args : List SV) : Option (FuncId × List SV) := match fv with
 | .c (.func (.func g) a c) => cond (a.toList.isEmpty && c.toList.isEmpty) (some (g, args)) none
 | .fn g first cap => some (g, first ++ (args ++ cap))
 | _ => none
theorem qCK {fv : SV} {args as : List SV} {g : FuncId} (hf : fv.ok h) (ha : okL h args) (e : qE2 fv args = some (g, as)) : target fv.enc (qB args) = some (g, qB as) ∧ okL h as := by
 unfold qE2 at e
 split at e
 ·rename_i g' a c
  cases hc : (a.toList.isEmpty && c.toList.isEmpty) with
  | false => rw [hc] at e; cases e
  | true =>
    rw [hc] at e
    cases e
    exact ⟨by simp only [target, SV.enc, fvv, hc, cond_true], ha⟩
 ·rename_i g' first cap
  cases e
  simp only [SV.ok] at hf
  exact ⟨by simp only [target, SV.enc, eU], aV hf.1 (aV ha hf.2)⟩
 ·cases e
def qWF (P : Program) (T : xZ) (d : Bool) (f : SV) (args : List SV) (h : SH) (K : SV -> SH -> Tree R) : Tree R := match qE2 f args with
 | some (g, as) => qNF P T d g as h K
 | none => .fail
def qYB (P : Program) (T : xZ) (d : Bool) (k : Nat) (o : Oper) (env : List SV) (h : SH) (K : SV -> SH -> Tree R) : Tree R := match o.op with
 | .call ⟨.value f, args, _⟩ => qWF P T d (wX env f) (oL env args) h K
 | _ => sop P o env k h K
def qZY (P : Program) (G : Nat -> Bool) (CI : CIT) : Prop := ∀ {R : Type} (nm : Nm) (f : FuncId) (as : List SV) (h : SH) (K : SV -> SH -> Tree R) (r : R), OkH P h -> okL h as -> (CI R nm f as h K).run = some r ->
 qR7 P G nm f (qB as) (qE h.l) fun v p => ∃ v' h', v = v'.enc ∧ p = qE h'.l ∧ Post P h h' v' ∧ (K v' h').run = some r
def qMY (p : Nat -> Bool) (env : List SV) : List (Nat × SO) -> Bool
 | [] => true
 | (k, _) :: l => (!p k || kU k (qB env)) && qMY p env l
theorem qG1 {p : Nat -> Bool} {env : List SV} : ∀ {l : List (Nat × SO)}, qMY p env l = true -> clean p (qB env) (qE l) = true
 | [], _ => rfl
 | (k, o) :: l, h => by
   have h : ((!p k || kU k (qB env)) && qMY p env l) = true := h
   show ((!p k || kU k (qB env)) && clean p (qB env) (qE l)) = true
   rw [Bool.and_eq_true] at h ⊢
   exact ⟨h.1, qG1 h.2⟩
section
variable {Γ : Type}
def qWL (P : Program) (T : xZ) (CI : CIT) (Y : YI Γ) (nm : Nm) (f : SV) (args : List SV) (g : Γ) (env : List SV) (h : SH) (K : Γ -> SV -> SH -> Tree R) : Tree R := match f with
 | .yv => (match vV P Y.yt Y.ys args h with
   | some (y, h1) => .bind (Y.stp g y) fun p => K p.1 (.d .bool p.2) h1
   | none => .fail)
 | f => (match qE2 f args with
   | some (t, as) => cond (slT t T).isSome (qNF P T false t as h (K g)) (CI R (qRZ nm t) t as h fun v h2 => cond (qMY (qRZ nm t).p env h2.l) (K g v h2) .fail)
   | none => .fail)
def qWM (P : Program) (T : xZ) (CI : CIT) (Y : YI Γ) (nm : Nm) (o : Oper) (g : Γ) (env : List SV) (h : SH) (K : Γ -> SV -> SH -> Tree R) : Tree R := match o.op with
 | .call ⟨.value f, args, _⟩ => qWL P T CI Y nm (wX env f) (oL env args) g env h K
 | _ => sop P o env (yC nm o.dst) h (K g)
def YOk (P : Program) (G : Nat -> Bool) (w : Wld Γ) (Y : YI Γ) : Prop := ∀ g y g' b, Y.stp g y = some (g', b) -> qGZ P G w Yl.l g (pvL Y.ys y) g' b
end
theorem qTH {T : xZ} (ht : qSL tab T) {k : Nat} {o : Oper} {env : List SV} {K : SV -> SH -> Tree R} (ho : OkH P h) (he : okL h env) (e : (qYB P T true k o env h K).run = some r) :
 ∃ v h', xV P tab k o (qB env) (qE h.l) = .ok v.enc (qE h'.l) ∧ Post P h h' v ∧ (K v h').run = some r := by
 unfold qYB at e
 unfold xV
 split at e
 ·rename_i f args ts hop
  unfold qWF at e
  split at e
  ·rename_i g as hst
   obtain ⟨h1, h2⟩ := qCK (tY he f) (nD he args) hst
   obtain ⟨v, h', a1, a2, a3⟩ := qR0 ht ho h2 e
   refine ⟨v, h', ?_, a2, a3⟩
   simp only [hop, zQ, eZ, h1]
   exact a1
  ·cases e
 ·rename_i hne
  obtain ⟨v, h', a1, a2, a3⟩ := qWG ho he e
  refine ⟨v, h', ?_, a2, a3⟩
  split
  ·rename_i f args ts hop; exact absurd hop (hne f args ts)
  ·rw [a1]; rfl
end
end Go.Sv
namespace Go.Sv
open Go.Idl
noncomputable section
variable [Yl]
variable {P : Program} {R : Type} {r : R} {tab : aL} {G : Nat -> Bool} {nm : Nm}
omit [Yl] in
theorem holds_mono {Q Q' : List PV -> PHp -> Prop} (hq : ∀ e p, Q e p -> Q' e p) : ∀ {t : PT}, t.holds P G Q -> t.holds P G Q'
 | .fail, h => h.elim
 | .ret e p, h => hq e p h
 | .chk c t, h => ⟨h.1, holds_mono hq h.2⟩
 | .call nm g args ph k, h => by
   obtain ⟨R, h1, h2⟩ := h
   exact ⟨R, h1, fun v p hr => holds_mono hq (h2 v p hr)⟩
 | .rnd _ _ _ _, h => h.elim
omit [Yl] in
theorem qXA (k : Nat) : ∀ (cs : List FV), kU k (cs.map .f) = true
 | [] => by simp [kU]
 | c :: cs => by simp [kU, noK, qXA k cs]
def qY3 (k : Nat) : List (Nat × SO) -> Bool
 | [] => true
 | (_, .cells _ _ l) :: r => kU k (qB l) && qY3 k r
 | (_, .list _ _ _ _ _ _) :: r => qY3 k r
theorem o6 {k : Nat} : ∀ {l : List (Nat × SO)}, qY3 k l = true -> sN k (qE l) = true
 | [], _ => rfl
 | (j, .cells el w l) :: r, h => by
   simp only [qY3, Bool.and_eq_true] at h
   show (kU k (qB l) && sN k (qE r)) = true
   rw [h.1, o6 h.2]; rfl
 | (j, .list el gr g w t xs) :: r, h => by
   simp only [qY3] at h
   show (kU k ((xs.flatMap t.cells).map .f) && sN k (qE r)) = true
   rw [qXA, o6 h]; rfl
def sQ (env : List SV) (d : Option Tmp) (v : SV) : List SV := match d with
 | some t => jE env t v
 | none => env
theorem wR (env : List SV) (t : Nat) (v : SV) : qB (jE env t v) = jE (qB env) t v.enc := by
 rw [xA, xA, zV, zV, List.map_set]
theorem nS (env : List SV) (d : Option Tmp) (v : SV) : qB (sQ env d v) = xQ (qB env) d v.enc := by
 cases d with
 | none => rfl
 | some t => exact wR env t v
omit [Yl] in
theorem wP {h : SH} {env : List SV} {t : Nat} {v : SV} (he : okL h env) (hv : v.ok h) : okL h (jE env t v) := by
 rw [xA]
 exact kD.2 fun x hx => by
  rcases List.mem_or_eq_of_mem_set hx with q | q
  ·exact kD.1 he x q
  ·rw [q]; exact hv
omit [Yl] in
theorem rM {h : SH} {env : List SV} {d : Option Tmp} {v : SV} (he : okL h env) (hv : v.ok h) : okL h (sQ env d v) := by
 cases d with
 | none => exact he
 | some t => exact wP he hv
omit [Yl] in
theorem fI (env : List SV) (t : Nat) (v : SV) : (jE env t v).length = env.length := by rw [xA, List.length_set]
omit [Yl] in
theorem qV1 (env : List SV) (d : Option Tmp) (v : SV) : (sQ env d v).length = env.length := by
 cases d with
 | none => rfl
 | some t => exact fI env t v
theorem qK9 {env : List SV} {t : Nat} {v w : SV} (h1 : yN env t = some v) (h2 : w.enc = v.enc) : qB (jE env t w) = qB env := by
 rw [wR, xA]
 rw [qG] at h1
 apply List.ext_getElem?
 intro i
 rw [List.getElem?_set]
 by_cases e : t = i
 ·subst e
  rw [if_pos rfl, zV, List.getElem?_map, h1, List.length_map, if_pos (List.getElem?_eq_some_iff.1 h1).1, h2]
  rfl
 ·rw [if_neg e]
def yE (b w : Bool) : Bool := cond w b (!b)
omit [Yl] in
theorem qNA (b w : Bool) : yE b w = (b == w) := by cases b <;> cases w <;> rfl
def qFY (ds : List (Option Tmp)) (o : Oper) (env : List SV) (Y N : List SV -> Tree R) : Tree R := match o.guard with
 | none => Y env
 | some (j, w) => (match tH ds j with
   | none => N env
   | some t => (match yN env t with
     | none => .fail
     | some v => (match asB v with
       | some b => .ite (yE b w) (Y (jE env t (.c (.bool w)))) (N (jE env t (.c (.bool (!w)))))
       | none => (match v with
         | .tup [] => N env
         | _ => .fail))))
theorem qCB {ds : List (Option Tmp)} {o : Oper} {env : List SV} {Y N : List SV -> Tree R} {h : SH} (he : okL h env) (e : (qFY ds o env Y N).run = some r) :
 ∃ env', qB env' = qB env ∧ okL h env' ∧ env'.length = env.length ∧ ((dA ds o (qB env) = some true ∧ (Y env').run = some r) ∨ (dA ds o (qB env) = some false ∧ (N env').run = some r)) := by
 unfold qFY at e
 unfold dA
 split at e
 ·rename_i hg
  exact ⟨env, rfl, he, rfl, .inl ⟨by rw [hg], e⟩⟩
 ·rename_i j w hg
  rw [hg]
  simp only
  split at e
  ·rename_i hd
   exact ⟨env, rfl, he, rfl, .inr ⟨by rw [hd]; rfl, e⟩⟩
  ·rename_i t hd
   rw [hd]
   simp only [qJC, jC]
   split at e
   ·cases e
   ·rename_i v hv
    rw [hv]
    split at e
    ·rename_i b hb
     have hbe := qAF hb
     rcases run_ite e with ⟨z, e1⟩ | ⟨z, e1⟩
     ·rw [qNA] at z
      have : b = w := by simpa using z
      subst this
      refine ⟨_, qK9 hv (by rw [hbe]; simp [SV.enc]), wP he (by simp [SV.ok]), fI _ _ _, .inl ⟨?_, e1⟩⟩
      simp only [Option.map_some, hbe, qAV, z]
     ·rw [qNA] at z
      have : b = !w := by cases b <;> cases w <;> first | rfl | cases z
      refine ⟨_, qK9 hv (by rw [hbe, this]; simp [SV.enc]), wP he (by simp [SV.ok]), fI _ _ _, .inr ⟨?_, e1⟩⟩
      simp only [Option.map_some, hbe, qAV, z]
    ·split at e
     ·exact ⟨env, rfl, he, rfl, .inr ⟨by simp only [Option.map_some, SV.enc, qB]; exact qOH, e⟩⟩
     ·cases e
def qCU (nm : Nm) (k : Nat) (env : List SV) (h : SH) : Bool := inP nm k && (kU k (qB env) && qY3 k h.l)
section
variable {Γ : Type}
def qZS (P : Program) (T : xZ) (CI : CIT) (Y : YI Γ) (nm : Nm) (ds : List (Option Tmp)) : List Oper -> Γ -> List SV -> SH -> (Γ -> List SV -> SH -> Tree R) -> Tree R
 | [], g, env, h, K => K g env h
 | o :: l, g, env, h, K => qFY ds o env
    (fun env => cond (cond (needs o.op) (qCU nm (yC nm o.dst) env h) true) (qWM P T CI Y nm o g env h fun g v h' => qZS P T CI Y nm ds l g (sQ env o.dst v) h' K) .fail)
    (fun env => qZS P T CI Y nm ds l g (sQ env o.dst (.tup [])) h K)
end
def Ends (P : Program) (w : List (Option Tmp)) (env : List SV) (h : SH) (env' : List SV) (h' : SH) : Prop :=
 okL h' env' ∧ OkH P h' ∧ Keep h h' ∧ (∀ i, some i ∉ w -> yN (qB env') i = yN (qB env) i) ∧ env'.length = env.length
theorem qYR {env : List SV} {d : Option Tmp} {v : SV} {i : Nat} (h : d ≠ some i) : yN (qB (sQ env d v)) i = yN (qB env) i := by
 cases d with
 | none => rfl
 | some t =>
   show yN (qB (jE env t v)) i = _
   rw [wR, xA, qG, qG, List.getElem?_set, if_neg (fun e => h (by rw [e]))]
theorem Ends.step {o : Oper} {w : List (Option Tmp)} {env env0 : List SV} {h h1 : SH} {v : SV} {env' : List SV} {h' : SH} (he : qB env = qB env0) (hl : env.length = env0.length) (hk : Keep h h1) (x : Ends P w (sQ env o.dst v) h1 env' h') : Ends P (o.dst :: w) env0 h env' h' :=
 ⟨x.1, x.2.1, hk.trans x.2.2.1, fun i hi => by
   rw [List.mem_cons, not_or] at hi
   rw [x.2.2.2.1 i hi.2, qYR (fun e => hi.1 e.symm), he], by rw [x.2.2.2.2, qV1, hl]⟩
omit [Yl] in
theorem vD {Γ : Type} {w : Wld Γ} {Q Q' : Γ -> List PV -> PHp -> Prop} (hq : ∀ g e p, Q g e p -> Q' g e p) : ∀ {t : PT} {g : Γ}, t.holdsY P G w Q g -> t.holdsY P G w Q' g
 | .fail, _, h => h.elim
 | .ret e p, g, h => hq g e p h
 | .chk c t, g, h => ⟨h.1, vD hq h.2⟩
 | .call nm f args ph k, g, h => by
   obtain ⟨R, h1, h2⟩ := h
   exact ⟨R, h1, fun v p hr => vD hq (h2 v p hr)⟩
 | .rnd l args ph k, g, h => by
   obtain ⟨fargs, tys, ph1, g', b, h1, h2, h3⟩ := h
   exact ⟨fargs, tys, ph1, g', b, h1, h2, vD hq h3⟩
def qW1 (T : xZ) (f : FuncId) : Bool := !(slT f T).isSome
theorem qKU {Γ : Type} {w : Wld Γ} {T : xZ} {CI : CIT} {Y : YI Γ} (ht : qSL tab T) (hci : qZY P G CI) (hy : YOk P G w Y) {ds : List (Option Tmp)} : ∀ {l : List Oper} {g : Γ} {env : List SV} {h : SH} {K : Γ -> List SV -> SH -> Tree R}, OkH P h -> okL h env -> (qZS P T CI Y nm ds l g env h K).run = some r ->
 (pops P tab (qW1 T) nm ds l (qB env) (qE h.l)).holdsY P G w (fun g e p => ∃ env' h', e = qB env' ∧ p = qE h'.l ∧ Ends P (l.map (·.dst)) env h env' h' ∧ (K g env' h').run = some r) g
 | [], g, env, h, K, ho, he, e => ⟨env, h, rfl, rfl, ⟨he, ho, .refl _, fun _ _ => rfl, rfl⟩, e⟩
 | o :: l, g, env, h, K, ho, he, e => by
   unfold qZS at e
   obtain ⟨env1, q1, q2, q3, q4⟩ := qCB he e
   rw [qPC]
   rcases q4 with ⟨hw, e1⟩ | ⟨hw, e1⟩
   ·rw [hw, qUB]
    obtain ⟨c, e2⟩ := qN e1
    have next : ∀ {g' : Γ} {v : SV} {h' : SH}, Post P h h' v -> (qZS P T CI Y nm ds l g' (sQ env1 o.dst v) h' K).run = some r -> (pops P tab (qW1 T) nm ds l (xQ (qB env) o.dst v.enc) (qE h'.l)).holdsY P G w (fun g e p => ∃ env' h', e = qB env' ∧ p = qE h'.l ∧ Ends P ((o :: l).map (·.dst)) env h env' h' ∧ (K g env' h').run = some r) g' := fun {g' v h'} a2 a3 => by
     have ih := qKU ht hci hy a2.2.1 (rM (d := o.dst) (zA a2.1 q2) a2.2.2) a3
     rw [nS, q1] at ih
     exact vD (fun g e p ⟨env', h', b1, b2, b3, b4⟩ => ⟨env', h', b1, b2, Ends.step q1 q3 a2.1 b3, b4⟩) ih
    have chk : ∀ {g' : Γ} {v : SV} {h' : SH}, Post P h h' v -> (qZS P T CI Y nm ds l g' (sQ env1 o.dst v) h' K).run = some r -> (qZN (needs o.op) (yC nm o.dst) nm (qB env) (qE h.l) (pops P tab (qW1 T) nm ds l (xQ (qB env) o.dst v.enc) (qE h'.l))).holdsY P G w (fun g e p => ∃ env' h', e = qB env' ∧ p = qE h'.l ∧ Ends P ((o :: l).map (·.dst)) env h env' h' ∧ (K g env' h').run = some r) g' := fun {g' v h'} a2 a3 => by
     unfold qZN
     cases hn : needs o.op with
     | false => exact next a2 a3
     | true =>
       rw [hn] at c
       simp only [cond_true] at c ⊢
       refine ⟨?_, next a2 a3⟩
       unfold qCU at c
       rw [q1] at c
       simp only [Bool.and_eq_true] at c
       unfold fresh
       rw [c.1, c.2.1, o6 c.2.2]; rfl
    unfold qWM at e2
    split at e2
    ·rename_i f args ts hop
     have hpe : aJ P tab (qW1 T) (yC nm o.dst) o (qB env) (qE h.l) = mI P tab (qW1 T) (wX env1 f).enc (qB (oL env1 args)) (qE h.l) := by
      unfold aJ
      rw [<- q1]
      simp only [hop, zQ, eZ]
     rw [hpe]
     have hfv := tY q2 f
     have has := nD q2 args
     revert e2 hfv
     generalize wX env1 f = fv
     intro e2 hfv
     unfold qWL at e2
     split at e2
     ·split at e2
      ·rename_i y h1 hd
       obtain ⟨p, hp, e3⟩ := run_bind e2
       obtain ⟨g', b⟩ := p
       obtain ⟨ys, a1, a2, a3, a4⟩ := cO ho has hd
       have : mI P tab (qW1 T) (SV.enc .yv) (qB (oL env1 args)) (qE h.l) = .rnd Yl.l (qB (oL env1 args)) (qE h.l) := by
        simp only [SV.enc, mI]
       rw [this, qQ7]
       refine ⟨ys, Y.yt, qE h1.l, g', b, a1, ?_, ?_⟩
       ·rw [a2]; exact hy _ _ _ _ hp
       ·have := next (v := .d .bool b) ⟨a3, a4, by simp [SV.ok]⟩ e3
        simpa [SV.enc, Ty.fv, fvv] using this
      ·cases e2
     ·split at e2
      ·rename_i t as hst
       obtain ⟨h1, h2⟩ := qCK hfv has hst
       rw [qH6 h1]
       unfold dI qW1
       cases hsl : (slT t T).isSome with
       | true =>
         rw [hsl] at e2
         simp only [cond_true] at e2
         obtain ⟨v, h', a1, a2, a3⟩ := qT5 ht ho h2 e2
         simp only [Bool.not_true, cond_false]
         rw [a1, qL7]
         exact chk a2 a3
       | false =>
         rw [hsl] at e2
         simp only [cond_false] at e2
         simp only [Bool.not_false, cond_true]
         rw [qOI]
         refine ⟨_, hci _ _ _ _ _ _ ho h2 e2, ?_⟩
         rintro v p ⟨v', h', rfl, rfl, a2, a3⟩
         obtain ⟨c2, a4⟩ := qN a3
         have := qG1 c2
         rw [q1] at this
         exact ⟨this, next a2 a4⟩
      ·cases e2
    ·rename_i hne
     obtain ⟨v, h', a1, a2, a3⟩ := qWG ho q2 e2
     rw [q1] at a1
     have hpe : aJ P tab (qW1 T) (yC nm o.dst) o (qB env) (qE h.l) = .ok v.enc (qE h'.l) := by
      unfold aJ
      split
      ·rename_i f args ts hop; exact absurd hop (hne f args ts)
      ·rw [a1]; rfl
     rw [hpe, qL7]
     exact chk a2 a3
   ·rw [hw, qP9]
    have ih := qKU ht hci hy ho (rM (d := o.dst) (v := .tup []) q2 (by simp [SV.ok, okL])) e1
    rw [nS, q1] at ih
    simp only [SV.enc, qB] at ih
    exact vD (fun g e p ⟨env', h', b1, b2, b3, b4⟩ => ⟨env', h', b1, b2, Ends.step q1 q3 (.refl _) b3, b4⟩) ih
def qYN (P : Program) (T : xZ) (nm : Nm) (ds : List (Option Tmp)) (b : Array Nat) (env0 : List SV) : Nat -> List Oper -> List SV -> SH -> List (Nat × List Nat) -> List (Nat × List Nat) -> List (Nat × Nat) -> List (Nat × PV) -> (List SV -> SH -> Tree R) -> Tree R
 | i, [], env, h, E, F, N, V, K => cond (eB b (qB env0) E F N V) (K env h) .fail
 | i, o :: l, env, h, E, F, N, V, K => qFY ds o env
    (fun env => cond (cond (needs o.op) (inP nm (yC nm o.dst) && qY3 (yC nm o.dst) h.l) true) (qYB P T true (yC nm o.dst) o env h fun v h' =>
      qYN P T nm ds b env0 (i + 1) l (sQ env o.dst v) h' (cond (yB o) ((i, wlO nm o (qB env)) :: E) E) (cond (yB o) F ((i, dlO o (qB env)) :: F)) (cond (needs o.op) ((i, yC nm o.dst) :: N) N) ((i, v.enc) :: V) K) .fail)
    (fun env => qYN P T nm ds b env0 (i + 1) l (sQ env o.dst (.tup [])) h E F N ((i, .tup []) :: V) K)
theorem qJF {T : xZ} (ht : qSL tab T) {ds : List (Option Tmp)} {b : Array Nat} {env0 : List SV} : ∀ {l : List Oper} {i : Nat} {env : List SV} {h : SH} {E F : List (Nat × List Nat)} {N : List (Nat × Nat)} {V : List (Nat × PV)} {K : List SV -> SH -> Tree R}, OkH P h -> okL h env -> (qYN P T nm ds b env0 i l env h E F N V K).run = some r ->
 (qJJ P tab nm ds b (qB env0) i l (qB env) (qE h.l) E F N V).holds P G fun e p => ∃ env' h', e = qB env' ∧ p = qE h'.l ∧ Ends P (l.map (·.dst)) env h env' h' ∧ (K env' h').run = some r
 | [], i, env, h, E, F, N, V, K, ho, he, e => by
   unfold qYN at e
   obtain ⟨c, e1⟩ := qN e
   rw [qT2]
   exact ⟨c, env, h, rfl, rfl, ⟨he, ho, .refl _, fun _ _ => rfl, rfl⟩, e1⟩
 | o :: l, i, env, h, E, F, N, V, K, ho, he, e => by
   unfold qYN at e
   obtain ⟨env1, q1, q2, q3, q4⟩ := qCB he e
   rw [qP0]
   rcases q4 with ⟨hw, e1⟩ | ⟨hw, e1⟩
   ·rw [hw, qQI]
    obtain ⟨c, e2⟩ := qN e1
    obtain ⟨v, h', a1, a2, a3⟩ := qTH ht ho q2 e2
    rw [q1] at a1
    rw [a1, qS4]
    have ih := qJF ht a2.2.1 (rM (d := o.dst) (zA a2.1 q2) a2.2.2) a3
    rw [nS, q1] at ih
    have ih2 := holds_mono (Q' := fun e p => ∃ env' h', e = qB env' ∧ p = qE h'.l ∧ Ends P ((o :: l).map (·.dst)) env h env' h' ∧ (K env' h').run = some r) (fun e p ⟨env', h', b1, b2, b3, b4⟩ => ⟨env', h', b1, b2, Ends.step q1 q3 a2.1 b3, b4⟩) ih
    unfold qPZ
    cases hn : needs o.op with
    | false => rw [hn] at ih2; exact ih2
    | true =>
      rw [hn] at c ih2
      simp only [cond_true] at c ⊢
      refine ⟨?_, ih2⟩
      rw [Bool.and_eq_true] at c
      rw [c.1, o6 c.2]; rfl
   ·rw [hw, qNX]
    have ih := qJF ht ho (rM (d := o.dst) (v := .tup []) q2 (by simp [SV.ok, okL])) e1
    rw [nS, q1] at ih
    simp only [SV.enc, qB] at ih
    exact holds_mono (fun e p ⟨env', h', b1, b2, b3, b4⟩ => ⟨env', h', b1, b2, Ends.step q1 q3 (.refl _) b3, b4⟩) ih
def q3W {Γ : Type} (P : Program) (G : Nat -> Bool) (T : xZ) (CI : CIT) (Y : YI Γ) (nm : Nm) (ops : Array Oper) (d : Bool) (g : Γ) (env : List SV) (h : SH) (K : Γ -> List SV -> SH -> Tree R) : Tree R :=
 cond (jX G ops) (cond d (cond (aM ops && aP ops) (qYN P T nm (ops.toList.map (·.dst)) (Region.before ops) env 0 ops.toList env h [] [] [] [] (K g)) .fail) (qZS P T CI Y nm (ops.toList.map (·.dst)) ops.toList g env h K)) .fail
variable {nat : xU} {good : FuncId -> Bool} {rd : Bool}
theorem qXY {Γ : Type} {w : Wld Γ} {T : xZ} {CI : CIT} {Y : YI Γ} (s : PSet P good nat G tab) (ht : qSL tab T) (hci : qZY P G CI) (hy : YOk P G w Y) {id : Nat} {ops : Array Oper} {d : Bool} {g : Γ} {env : List SV} {h : SH} {K : Γ -> List SV -> SH -> Tree R} (ho : OkH P h) (he : okL h env) (e : (q3W P G T CI Y nm ops d g env h K).run = some r) :
 yD P G rd nm w (.region id ops d) g (qB env) (qE h.l) fun x g' pe ph => x = .normal ∧ ∃ env' h', pe = qB env' ∧ ph = qE h'.l ∧ Ends P (ops.toList.map (·.dst)) env h env' h' ∧ (K g' env' h').run = some r := by
 unfold q3W at e
 obtain ⟨c1, e1⟩ := qN e
 cases d with
 | true =>
   obtain ⟨c2, e2⟩ := qN (show (cond (aM ops && aP ops) (qYN P T nm (ops.toList.map (·.dst)) (Region.before ops) env 0 ops.toList env h [] [] [] [] (K g)) .fail : Tree R).run = some r from e1)
   rw [Bool.and_eq_true] at c2
   refine (yD.of (s.drwZ (Q := fun x pe ph => x = .normal ∧ ∃ env' h', pe = qB env' ∧ ph = qE h'.l ∧ Ends P (ops.toList.map (·.dst)) env h env' h' ∧ (K g env' h').run = some r) c1 c2.1 c2.2 rfl rfl ?_)).mono ?_
   ·exact holds_mono (fun e p hq => ⟨rfl, hq⟩) (qJF (G := G) ht ho he e2)
   ·rintro x g' pe ph ⟨rfl, hq⟩
    exact hq
 | false => exact s.regY c1 (vD (fun g e p hq => ⟨rfl, hq⟩) (qKU (G := G) ht hci hy ho he e1))
end
end Go.Sv
