/- The relation of an ideal heap and a world. Conditions: none. -/
import Derived.Test.YtpdlblofcdcikaaGreatDoorIdlA
import Derived.RangeFuncRecord
import Derived.OrdersIn
set_option linter.unusedSimpArgs false
set_option linter.unusedVariables false
namespace Go.Idl

/-- where an ideal block lies in the real heap -/
structure Emb where
  r : Nat
  shift : Nat
  N : Nat
  ro : Bool

abbrev Inj := Nat → Option Emb

def Inj.le (f g : Inj) : Prop := ∀ b e, f b = some e → g b = some e
theorem Inj.le_refl (f : Inj) : f.le f := fun _ _ h => h
theorem Inj.le_trans {f g h : Inj} (a : f.le g) (b : g.le h) : f.le h := fun x e hx => b x e (a x e hx)

def Inj.add (f : Inj) (b : Nat) (e : Emb) : Inj := fun x => if x = b then some e else f x
theorem Inj.le_add {f : Inj} {b : Nat} {e : Emb} (h : f b = none) : f.le (f.add b e) := fun x y hx => by
  unfold Inj.add
  by_cases hb : x = b
  · subst hb; rw [h] at hx; cases hx
  · simp [hb, hx]
theorem Inj.add_same {f : Inj} {b : Nat} {e : Emb} : f.add b e b = some e := by simp [Inj.add]
theorem Inj.add_other {f : Inj} {b x : Nat} {e : Emb} (h : x ≠ b) : f.add b e x = f x := by simp [Inj.add, h]

inductive VRel (P : Program) (f : Inj) : Value → Value → Prop
  | any (v : Value) : VRel P f unk v
  | undef : VRel P f undef undef
  | base (v : Value) (h : plainV v = true) : VRel P f v v
  | ptr {b o : Nat} {e : Emb} (h : f b = some e) : VRel P f (.pointer (some ⟨b, o, none⟩)) (.pointer (some ⟨e.r, o + e.shift, none⟩))
  | sl {b o len cap : Nat} {e : Emb} (h : f b = some e) : VRel P f (.slice (some ⟨b, o, none⟩) len cap) (.slice (some ⟨e.r, o + e.shift, none⟩) len cap)
  | room {b o el len cap cap' : Nat} {e : Emb} (h : f b = some e) (hc : cap ≤ cap') (hn : o + e.shift + cap' * P.cellsOf el ≤ e.N) :
      VRel P f (.slice (some ⟨b, o, some el⟩) len cap) (.slice (some ⟨e.r, o + e.shift, none⟩) len cap')
  | room0 {b o o' el cap' : Nat} {e : Emb} (h : f b = some e) (hs : e.shift ≤ o') (hn : o' + cap' * P.cellsOf el ≤ e.N) :
      VRel P f (.slice (some ⟨b, o, some el⟩) 0 0) (.slice (some ⟨e.r, o', none⟩) 0 cap')
  /-- an empty slice whose place is not known -/
  | gh {b : Nat} {a' : Addr} {e : Emb} (h : f b = some e) (hg : e.N < e.shift) : VRel P f (.slice (some ⟨b, 0, none⟩) 0 0) (.slice (some a') 0 0)
  | map {b : Nat} {e : Emb} (h : f b = some e) : VRel P f (.map (some b)) (.map (some e.r))
  | func {g : FuncId} {a a' c c' : Array Value} (ha : a.size = a'.size) (hc : c.size = c'.size)
      (hav : ∀ (i : Nat) v v', a[i]? = some v → a'[i]? = some v' → VRel P f v v') (hcv : ∀ (i : Nat) v v', c[i]? = some v → c'[i]? = some v' → VRel P f v v') :
      VRel P f (.func (.func g) a c) (.func (.func g) a' c')
  | yield {l : Nat} {e : Emb} (h : f l = some e) : VRel P f (.func (.yield l) #[] #[]) (.func (.yield e.r) #[] #[])
  | iface {t : TypeId} {v v' : Value} (h : VRel P f v v') : VRel P f (.iface t v) (.iface t v')
  | agg {a a' : Array Value} (ha : a.size = a'.size) (hav : ∀ (i : Nat) v v', a[i]? = some v → a'[i]? = some v' → VRel P f v v') : VRel P f (.agg a) (.agg a')
  | tuple {a a' : Array Value} (ha : a.size = a'.size) (hav : ∀ (i : Nat) v v', a[i]? = some v → a'[i]? = some v' → VRel P f v v') : VRel P f (.tuple a) (.tuple a')

theorem VRel.mono {P : Program} {f g : Inj} {v v' : Value} (h : VRel P f v v') (hl : f.le g) : VRel P g v v' := by
  induction h with
  | any v => exact .any v
  | undef => exact .undef
  | base v h => exact .base v h
  | ptr h => exact .ptr (hl _ _ h)
  | sl h => exact .sl (hl _ _ h)
  | room h hc hn => exact .room (hl _ _ h) hc hn
  | room0 h hs hn => exact .room0 (hl _ _ h) hs hn
  | gh h hg => exact .gh (hl _ _ h) hg
  | map h => exact .map (hl _ _ h)
  | func ha hc _ _ i1 i2 => exact .func ha hc i1 i2
  | yield h => exact .yield (hl _ _ h)
  | iface _ ih => exact .iface ih
  | agg ha _ ih => exact .agg ha ih
  | tuple ha _ ih => exact .tuple ha ih

/-- lists, place by place -/
def VRelL (P : Program) (f : Inj) (l l' : List Value) : Prop := l.length = l'.length ∧ ∀ (i : Nat) v v', l[i]? = some v → l'[i]? = some v' → VRel P f v v'

theorem VRelL.nil {P : Program} {f : Inj} : VRelL P f [] [] := ⟨rfl, fun i v v' h => by simp at h⟩
theorem VRelL.cons {P : Program} {f : Inj} {v v' : Value} {l l' : List Value} (h : VRel P f v v') (t : VRelL P f l l') : VRelL P f (v :: l) (v' :: l') :=
  ⟨by simp [t.1], fun i u u' hu hu' => by
    cases i with
    | zero => simp at hu hu'; subst hu hu'; exact h
    | succ i => exact t.2 i u u' (by simpa using hu) (by simpa using hu')⟩
theorem VRelL.uncons {P : Program} {f : Inj} {v : Value} {l m : List Value} (h : VRelL P f (v :: l) m) : ∃ v' l', m = v' :: l' ∧ VRel P f v v' ∧ VRelL P f l l' := by
  cases m with
  | nil => simp [VRelL] at h
  | cons v' l' => exact ⟨v', l', rfl, h.2 0 v v' rfl rfl, by have := h.1; simpa using this, fun i u u' hu hu' => h.2 (i + 1) u u' (by simpa using hu) (by simpa using hu')⟩
theorem VRelL.nil_left {P : Program} {f : Inj} {m : List Value} (h : VRelL P f [] m) : m = [] := by
  cases m with
  | nil => rfl
  | cons a b => simp [VRelL] at h
theorem VRelL.mono {P : Program} {f g : Inj} {l l' : List Value} (h : VRelL P f l l') (hl : f.le g) : VRelL P g l l' := ⟨h.1, fun i v v' a b => (h.2 i v v' a b).mono hl⟩
theorem VRelL.get {P : Program} {f : Inj} {l l' : List Value} (h : VRelL P f l l') {i : Nat} {v : Value} (hv : l[i]? = some v) : ∃ v', l'[i]? = some v' ∧ VRel P f v v' := by
  have hlt : i < l.length := (List.getElem?_eq_some_iff.1 hv).1
  have hlt' : i < l'.length := h.1 ▸ hlt
  exact ⟨l'[i], List.getElem?_eq_getElem hlt', h.2 i v _ hv (List.getElem?_eq_getElem hlt')⟩
theorem VRelL.append {P : Program} {f : Inj} {l l' m m' : List Value} (h : VRelL P f l l') (k : VRelL P f m m') : VRelL P f (l ++ m) (l' ++ m') := by
  induction l generalizing l' with
  | nil => rw [h.nil_left]; exact k
  | cons v l ih => obtain ⟨v', t', rfl, hv, ht⟩ := h.uncons; exact .cons hv (ih ht)
theorem VRelL.take {P : Program} {f : Inj} {l l' : List Value} (h : VRelL P f l l') (n : Nat) : VRelL P f (l.take n) (l'.take n) := by
  induction n generalizing l l' with
  | zero => simpa using VRelL.nil
  | succ n ih =>
    cases l with
    | nil => rw [h.nil_left]; simpa using VRelL.nil
    | cons v l => obtain ⟨v', t', rfl, hv, ht⟩ := h.uncons; simpa using VRelL.cons hv (ih ht)
theorem VRelL.drop {P : Program} {f : Inj} {l l' : List Value} (h : VRelL P f l l') (n : Nat) : VRelL P f (l.drop n) (l'.drop n) := by
  induction n generalizing l l' with
  | zero => simpa using h
  | succ n ih =>
    cases l with
    | nil => rw [h.nil_left]; simpa using VRelL.nil
    | cons v l => obtain ⟨v', t', rfl, hv, ht⟩ := h.uncons; simpa using ih ht
theorem VRelL.set {P : Program} {f : Inj} {l l' : List Value} (h : VRelL P f l l') {v v' : Value} (hv : VRel P f v v') (n : Nat) : VRelL P f (l.set n v) (l'.set n v') := by
  induction n generalizing l l' with
  | zero =>
    cases l with
    | nil => rw [h.nil_left]; simpa using VRelL.nil
    | cons u l => obtain ⟨u', t', rfl, hu, ht⟩ := h.uncons; simpa using VRelL.cons hv ht
  | succ n ih =>
    cases l with
    | nil => rw [h.nil_left]; simpa using VRelL.nil
    | cons u l => obtain ⟨u', t', rfl, hu, ht⟩ := h.uncons; simpa using VRelL.cons hu (ih ht)
theorem plainL_nil : plainL [] = true := rfl
theorem plainL_cons {v : Value} {l : List Value} : plainL (v :: l) = (plainV v && plainL l) := allR_cons _ _ _
theorem plainL_iff {l : List Value} : plainL l = true ↔ ∀ v ∈ l, plainV v = true := allR_iff

theorem VRelL.of_plain {P : Program} {f : Inj} {l : List Value} (h : plainL l = true) : VRelL P f l l := by
  induction l with
  | nil => exact .nil
  | cons v l ih => rw [plainL_cons, Bool.and_eq_true] at h; exact .cons (.base v h.1) (ih h.2)

theorem plainF_mono (n : Nat) : ∀ v, plainF n v = true → plainF (n + 1) v = true := by
  induction n with
  | zero => intro v h; exact absurd h (by show ¬ (false = true); simp)
  | succ n ih =>
    intro v h
    have hall : ∀ (l : List Value), allR (plainF n) l = true → allR (plainF (n + 1)) l = true := fun l hl => allR_iff.2 fun a ha => ih a (allR_iff.1 hl a ha)
    cases v <;> first | exact h | skip
    case func fn first captured =>
      have h' : (isFn fn && (allR (plainF n) first.toList && allR (plainF n) captured.toList)) = true := h
      show (isFn fn && (allR (plainF (n + 1)) first.toList && allR (plainF (n + 1)) captured.toList)) = true
      simp only [Bool.and_eq_true] at h' ⊢
      exact ⟨h'.1, hall _ h'.2.1, hall _ h'.2.2⟩
    case iface t v => exact ih v h
    case agg cs => exact hall _ h

/-- a value without addresses is related to itself alone -/
theorem VRel.plainN {P : Program} {f : Inj} {v v' : Value} (h : VRel P f v v') : ∀ n, plainF n v = true → v' = v := by
  induction h with
  | any v => intro n hp; cases n <;> exact absurd hp (by show ¬ (false = true); simp)
  | undef => intro n hp; rfl
  | base v _ => intro n hp; rfl
  | ptr _ => intro n hp; cases n <;> exact absurd hp (by show ¬ (false = true); simp)
  | sl _ => intro n hp; cases n <;> exact absurd hp (by show ¬ (false = true); simp)
  | room _ _ _ => intro n hp; cases n <;> exact absurd hp (by show ¬ (false = true); simp)
  | room0 _ _ _ => intro n hp; cases n <;> exact absurd hp (by show ¬ (false = true); simp)
  | gh _ _ => intro n hp; cases n <;> exact absurd hp (by show ¬ (false = true); simp)
  | map _ => intro n hp; cases n <;> exact absurd hp (by show ¬ (false = true); simp)
  | @func g a a' c c' ha hc hav hcv i1 i2 =>
    intro n hp
    cases n with
    | zero => exact absurd hp (by show ¬ (false = true); simp)
    | succ n =>
      have hp' : (isFn (.func g) && (allR (plainF n) a.toList && allR (plainF n) c.toList)) = true := hp
      simp only [Bool.and_eq_true, allR_iff] at hp'
      have e1 : a' = a := Array.ext ha.symm fun i h1 h2 => i1 i a[i] a'[i] (by simp [h2]) (by simp [h1]) n (hp'.2.1 _ (by simp))
      have e2 : c' = c := Array.ext hc.symm fun i h1 h2 => i2 i c[i] c'[i] (by simp [h2]) (by simp [h1]) n (hp'.2.2 _ (by simp))
      rw [e1, e2]
  | yield _ =>
    intro n hp
    cases n with
    | zero => exact absurd hp (by show ¬ (false = true); simp)
    | succ n => have hp' : false = true := hp; cases hp'
  | iface _ ih =>
    intro n hp
    cases n with
    | zero => exact absurd hp (by show ¬ (false = true); simp)
    | succ n => rw [ih n hp]
  | @agg a a' ha hav i1 =>
    intro n hp
    cases n with
    | zero => exact absurd hp (by show ¬ (false = true); simp)
    | succ n =>
      have hp' : allR (plainF n) a.toList = true := hp
      simp only [allR_iff] at hp'
      have e1 : a' = a := Array.ext ha.symm fun i h1 h2 => i1 i a[i] a'[i] (by simp [h2]) (by simp [h1]) n (hp' _ (by simp))
      rw [e1]
  | tuple _ _ _ => intro n hp; cases n <;> exact absurd hp (by show ¬ (false = true); simp)

theorem VRel.plain {P : Program} {f : Inj} {v v' : Value} (h : VRel P f v v') (hp : plainV v = true) : v' = v := h.plainN 3 hp

theorem VRelL.plain {P : Program} {f : Inj} {l l' : List Value} (h : VRelL P f l l') (hp : plainL l = true) : l' = l := by
  induction l generalizing l' with
  | nil => exact h.nil_left
  | cons v l ih =>
    obtain ⟨v', t', rfl, hv, ht⟩ := h.uncons
    rw [plainL_cons, Bool.and_eq_true] at hp
    rw [hv.plain hp.1, ih ht hp.2]

theorem plain_agg {a : Array Value} (h : plainV (.agg a) = true) : plainL a.toList = true := by
  have h' : allR (plainF 2) a.toList = true := h
  exact plainL_iff.2 fun v hv => plainF_mono 2 v (allR_iff.1 h' v hv)

theorem VRel.agg_iff {P : Program} {f : Inj} {a : Array Value} {v' : Value} (h : VRel P f (.agg a) v') : ∃ a', v' = .agg a' ∧ VRelL P f a.toList a'.toList := by
  cases h with
  | base _ hp => exact ⟨a, rfl, .of_plain (plain_agg hp)⟩
  | agg ha hav => exact ⟨_, rfl, by simpa using ha, fun i v v' h1 h2 => hav i v v' (by simpa using h1) (by simpa using h2)⟩
theorem VRel.of_agg {P : Program} {f : Inj} {a a' : Array Value} (h : VRelL P f a.toList a'.toList) : VRel P f (.agg a) (.agg a') :=
  .agg (by simpa using h.1) fun i v v' h1 h2 => h.2 i v v' (by simpa using h1) (by simpa using h2)
theorem VRel.of_tuple {P : Program} {f : Inj} {a a' : Array Value} (h : VRelL P f a.toList a'.toList) : VRel P f (.tuple a) (.tuple a') :=
  .tuple (by simpa using h.1) fun i v v' h1 h2 => h.2 i v v' (by simpa using h1) (by simpa using h2)

/-- the cells of a value -/
theorem VRel.cells {P : Program} {f : Inj} {v v' : Value} (h : VRel P f v v') (hn : notTuple v = true) : VRelL P f v.cells.toList v'.cells.toList := by
  cases h with
  | any v => simp [unk, notTuple] at hn
  | undef => simp [Go.undef, notTuple] at hn
  | base v hp =>
    cases v <;> first
      | (simp only [Value.cells]; exact .cons (.base _ hp) .nil)
      | exact .of_plain (plain_agg hp)
      | (simp [notTuple] at hn)
  | ptr h => exact .cons (.ptr h) .nil
  | sl h => exact .cons (.sl h) .nil
  | room h a b => exact .cons (.room h a b) .nil
  | room0 h a b => exact .cons (.room0 h a b) .nil
  | gh h a => exact .cons (.gh h a) .nil
  | map h => exact .cons (.map h) .nil
  | func a b c d => exact .cons (.func a b c d) .nil
  | yield h => exact .cons (.yield h) .nil
  | iface h => exact .cons (.iface h) .nil
  | agg ha hav => exact ⟨by simpa [Value.cells] using ha, fun i v v' h1 h2 => hav i v v' (by simpa [Value.cells] using h1) (by simpa [Value.cells] using h2)⟩
  | tuple _ _ => simp [notTuple] at hn

/-! ### Objects -/
def live : Obj → Bool
  | .pending _ _ => false
  | _ => true

/-- a global that lies in the real heap as in the ideal one -/
def globOk (f : Inj) (g : Nat) : Bool :=
  match f g with
  | some e => decide (e.r = g) && decide (e.shift = 0)
  | none => false
theorem globOk_iff {f : Inj} {g : Nat} : globOk f g = true ↔ ∃ e, f g = some e ∧ e.r = g ∧ e.shift = 0 := by
  unfold globOk
  split
  · rename_i e he; simp [he]
  · rename_i he; simp [he]
theorem globOk_mono {f f' : Inj} (hl : f.le f') (g : Nat) (h : globOk f g = true) : globOk f' g = true := by
  rw [globOk_iff] at h ⊢
  obtain ⟨e, h1, h2⟩ := h
  exact ⟨e, hl _ _ h1, h2⟩

theorem opdOk_mono {G G' : Nat → Bool} (h : ∀ g, G g = true → G' g = true) {x : Operand} (hx : opdOk G x = true) : opdOk G' x = true := by
  cases x <;> first | exact hx | exact h _ hx
theorem opsOk_mono {G G' : Nat → Bool} (h : ∀ g, G g = true → G' g = true) {ops : Array Oper} (hx : opsOk G ops = true) : opsOk G' ops = true := by
  simp only [opsOk, List.all_eq_true] at hx ⊢
  exact fun o ho x hxx => opdOk_mono h (hx o ho x hxx)
theorem codeOk_mono {G G' : Nat → Bool} (h : ∀ g, G g = true → G' g = true) : ∀ (c : Code) (b : Bool), codeOk G b c = true → codeOk G' b c = true
  | .skip, _, _ => rfl
  | .label _, _, _ => rfl
  | .ret, _, _ => rfl
  | .exit _, _, _ => rfl
  | .goto _, _, _ => rfl
  | .refuse _, _, _ => rfl
  | .seq x y, b, hc => by
    simp only [codeOk, Bool.and_eq_true] at hc ⊢
    exact ⟨codeOk_mono h x b hc.1, codeOk_mono h y b hc.2⟩
  | .cond v x y, b, hc => by
    simp only [codeOk, Bool.and_eq_true] at hc ⊢
    exact ⟨opdOk_mono h hc.1, codeOk_mono h x b hc.2.1, codeOk_mono h y b hc.2.2⟩
  | .block _ x, b, hc => by simp only [codeOk] at hc ⊢; exact codeOk_mono h x b hc
  | .loop x, b, hc => by simp only [codeOk] at hc ⊢; exact codeOk_mono h x b hc
  | .scope x, b, hc => by simp only [codeOk] at hc ⊢; exact codeOk_mono h x b hc
  | .region _ ops draw, b, hc => by
    simp only [codeOk, Bool.and_eq_true] at hc ⊢
    exact ⟨opsOk_mono h hc.1, hc.2⟩
  | .rangeFunc v _ x y, b, hc => by
    simp only [codeOk, Bool.and_eq_true] at hc ⊢
    exact ⟨hc.1, opdOk_mono h hc.2.1, codeOk_mono h x true hc.2.2.1, codeOk_mono h y true hc.2.2.2⟩

def ORel (P : Program) (f : Inj) (e : Emb) (o : Obj) (ro : Option Obj) : Prop :=
  match o with
  | .cells c el fz => ∃ c' el' fz', ro = some (.cells c' el' fz') ∧ c'.size = e.N ∧ e.shift + c.size ≤ c'.size ∧
      (∀ (i : Nat) v, c[i]? = some v → ∃ v', c'[e.shift + i]? = some v' ∧ VRel P f v v') ∧
      (freeFz fz = true → e.ro = false ∧ el' = el ∧ ∀ j, j < c'.size → ¬(fz'.1 ≤ j ∧ j < fz'.2)) ∧
      (fz = (0, 0) → e.shift = 0 ∧ c.size = c'.size)
  | .pending _ _ => True
  | .map es clk => e.ro = false ∧ ∃ es', ro = some (.map es' clk) ∧ es'.size = es.size ∧
      ∀ (i : Nat) x, es[i]? = some x → ∃ x', es'[i]? = some x' ∧ x'.key = x.key ∧ x'.born = x.born ∧ VRel P f x.val x'.val
  | .stringIter s p => e.ro = false ∧ e.shift = 0 ∧ ro = some (.stringIter s p)
  | .mapIter (some m) since seen last => e.ro = false ∧ e.shift = 0 ∧ ∃ em seen' stepped, f m = some em ∧ ro = some (.mapIter (some em.r) since seen' stepped) ∧
      (∀ x, x ∈ seen' ↔ x ∈ seen.toList) ∧ (∀ n, last = n + 1 → seen'.back? = some n) ∧ (seen'.isEmpty = false → stepped = since) ∧ (∀ x, x ∈ seen' → x < since)
  | .loop lp => e.ro = false ∧ ∃ lp', ro = some (.loop lp') ∧ lp'.state = lp.state ∧ lp'.pending = lp.pending ∧ lp'.params = lp.params ∧ lp'.assign = lp.assign ∧ lp'.body = lp.body ∧
      VRelL P f lp.tmps.toList lp'.tmps.toList ∧ codeOk (globOk f) true lp.assign = true ∧ codeOk (globOk f) true lp.body = true ∧ (∀ c, lp.pending = some c → isJump c = true) ∧ e.shift = 0
  | _ => False

theorem ORel.mono {P : Program} {f g : Inj} {e : Emb} {o : Obj} {ro : Option Obj} (h : ORel P f e o ro) (hl : f.le g) : ORel P g e o ro := by
  cases o <;> simp only [ORel] at h ⊢
  case cells c el fz =>
    obtain ⟨c', el', fz', h1, h2, h3, h4, h5, h6⟩ := h
    exact ⟨c', el', fz', h1, h2, h3, fun i v hv => let ⟨v', a, b⟩ := h4 i v hv; ⟨v', a, b.mono hl⟩, h5, h6⟩
  case map es clk =>
    obtain ⟨h0, es', h1, h2, h3⟩ := h
    exact ⟨h0, es', h1, h2, fun i x hx => let ⟨x', a, b, c, d⟩ := h3 i x hx; ⟨x', a, b, c, d.mono hl⟩⟩
  case stringIter s p => exact h
  case mapIter m since seen last =>
    cases m with
    | none => simp only at h
    | some m =>
      obtain ⟨h0, h01, em, seen', st, h1, h2, h3⟩ := h
      exact ⟨h0, h01, em, seen', st, hl _ _ h1, h2, h3⟩
  case loop lp =>
    obtain ⟨h0, lp', h1, h2, h3, h4, h5, h6, h7, h8, h9, h10⟩ := h
    exact ⟨h0, lp', h1, h2, h3, h4, h5, h6, h7.mono hl, codeOk_mono (globOk_mono hl) _ _ h8, codeOk_mono (globOk_mono hl) _ _ h9, h10⟩

structure Rel (P : Program) (f : Inj) (H : IH) (w : World) : Prop where
  dom : ∀ b e, f b = some e → b < H.size
  fresh : ∀ b, H.size ≤ b → H.get b = none
  bound : ∀ b e, f b = some e → e.r < w.heap.size
  obj : ∀ b e o, f b = some e → H.get b = some o → ORel P f e o w.heap[e.r]?
  sep : ∀ b1 b2 e1 e2 o1 o2, b1 ≠ b2 → f b1 = some e1 → f b2 = some e2 → H.get b1 = some o1 → H.get b2 = some o2 → live o1 = true → live o2 = true → e1.r = e2.r →
    e1.ro = true ∧ e2.ro = true
  rosame : ∀ b1 b2 e1 e2, f b1 = some e1 → f b2 = some e2 → e1.r = e2.r → e1.ro = e2.ro

/-- the real block is one that the ideal run may write -/
def Own (f : Inj) (r : Nat) : Prop := ∃ b e, f b = some e ∧ e.r = r ∧ e.ro = false

/-- what a step leaves -/
structure Grow (f : Inj) (H : IH) (w : World) (f' : Inj) (H' : IH) (w' : World) : Prop where
  isize : H.size ≤ H'.size
  stay : ∀ b, b < H.size → f b = none → f' b = none
  le : f.le f'
  size : w.heap.size ≤ w'.heap.size
  keep : ∀ r, r < w.heap.size → ¬ Own f r → ¬ Own f' r ∧ w'.heap[r]? = w.heap[r]?
  un : ∀ r, r < w.heap.size → (∀ b e, f b = some e → e.r ≠ r) → ∀ b e, f' b = some e → e.r ≠ r
  out : w'.os = w.os ∧ w'.output = w.output ∧ w'.tape = w.tape

theorem Grow.refl (f : Inj) (H : IH) (w : World) : Grow f H w f H w := ⟨Nat.le_refl _, fun _ _ h => h, f.le_refl, Nat.le_refl _, fun _ _ h => ⟨h, rfl⟩, fun _ _ h => h, ⟨rfl, rfl, rfl⟩⟩
theorem Grow.trans {f f1 f2 : Inj} {H H1 H2 : IH} {w w1 w2 : World} (a : Grow f H w f1 H1 w1) (b : Grow f1 H1 w1 f2 H2 w2) : Grow f H w f2 H2 w2 :=
  ⟨Nat.le_trans a.isize b.isize, fun x hx hn => b.stay x (Nat.lt_of_lt_of_le hx a.isize) (a.stay x hx hn), Inj.le_trans a.le b.le, Nat.le_trans a.size b.size, fun r hr ho => by
    obtain ⟨h1, h2⟩ := a.keep r hr ho
    obtain ⟨h3, h4⟩ := b.keep r (Nat.lt_of_lt_of_le hr a.size) h1
    exact ⟨h3, h4.trans h2⟩, fun r hr hu => b.un r (Nat.lt_of_lt_of_le hr a.size) (a.un r hr hu),
    ⟨b.out.1.trans a.out.1, b.out.2.1.trans a.out.2.1, b.out.2.2.trans a.out.2.2⟩⟩

/-- ideal blocks that have no place in the real heap are left alone -/
def Keep (f : Inj) (H H' : IH) : Prop := H.size ≤ H'.size ∧ ∀ b, b < H.size → f b = none → H'.get b = H.get b
theorem Keep.refl (f : Inj) (H : IH) : Keep f H H := ⟨Nat.le_refl _, fun _ _ _ => rfl⟩

theorem IH.get_put {H : IH} {b x : Nat} {o : Obj} : (H.put b o).get x = if x = b then some o else H.get x := by
  simp [IH.get, IH.put, Tr.get_set]
theorem IH.get_push {H : IH} {x : Nat} {o : Obj} : (H.push o).get x = if x = H.size then some o else H.get x := by
  simp [IH.get, IH.push, Tr.get_set]
@[simp] theorem IH.size_put {H : IH} {b : Nat} {o : Obj} : (H.put b o).size = H.size := rfl
@[simp] theorem IH.size_push {H : IH} {o : Obj} : (H.push o).size = H.size + 1 := rfl

theorem Keep.put {f : Inj} {H : IH} {b : Nat} {o : Obj} {e : Emb} (h : f b = some e) : Keep f H (H.put b o) :=
  ⟨Nat.le_refl _, fun x _ hn => by
    rw [IH.get_put]
    by_cases hb : x = b
    · subst hb; rw [h] at hn; cases hn
    · simp [hb]⟩
theorem Keep.push {f : Inj} {H : IH} {o : Obj} : Keep f H (H.push o) :=
  ⟨by simp, fun x hx _ => by rw [IH.get_push, if_neg (by omega)]⟩

/-! ### A new block -/
def World.put (w : World) (r : Nat) (o : Obj) : World := { w with heap := w.heap.setIfInBounds r o }

theorem heap_put {w : World} {r x : Nat} {o : Obj} (h : r < w.heap.size) : (World.put w r o).heap[x]? = if x = r then some o else w.heap[x]? := by
  unfold World.put
  by_cases e : x = r
  · subst e; simp [h]
  · simp only [e, if_false]; rw [Array.getElem?_setIfInBounds_ne (Ne.symm e)]
theorem heap_alloc {w : World} {x : Nat} {o : Obj} : (w.alloc o).heap[x]? = if x = w.heap.size then some o else w.heap[x]? := by
  show (w.heap.push o)[x]? = _
  rw [Array.getElem?_push]

theorem Rel.push {P : Program} {f : Inj} {H : IH} {w : World} {o o' : Obj} {e : Emb} (h : Rel P f H w) (her : e.r = w.heap.size)
    (ho : ORel P (f.add H.size e) e o (some o')) : Rel P (f.add H.size e) (H.push o) (w.alloc o') ∧ Grow f H w (f.add H.size e) (H.push o) (w.alloc o') := by
  have hnone : f H.size = none := by
    cases hx : f H.size with
    | none => rfl
    | some y => have := h.dom _ _ hx; omega
  have hle : f.le (f.add H.size e) := Inj.le_add hnone
  have old : ∀ b y, f b = some y → y.r ≠ w.heap.size := fun b y hb => by have := h.bound b y hb; omega
  refine ⟨⟨?_, ?_, ?_, ?_, ?_, ?_⟩, ⟨by simp, (fun b hb hn => by rw [Inj.add_other (by omega)]; exact hn), hle, by simp, ?_, ?_, ⟨rfl, rfl, rfl⟩⟩⟩
  · intro b y hb
    by_cases e1 : b = H.size
    · subst e1; simp
    · rw [Inj.add_other e1] at hb; have := h.dom b y hb; simp; omega
  · intro b hb
    simp only [IH.size_push] at hb
    rw [IH.get_push, if_neg (by omega)]
    exact h.fresh b (by omega)
  · intro b y hb
    by_cases e1 : b = H.size
    · subst e1; rw [Inj.add_same] at hb; cases hb; rw [her]; simp
    · rw [Inj.add_other e1] at hb; have := h.bound b y hb; simp; omega
  · intro b y ob hb hob
    by_cases e1 : b = H.size
    · subst e1; rw [Inj.add_same] at hb; cases hb
      rw [IH.get_push, if_pos rfl] at hob; cases hob
      rw [heap_alloc, if_pos her]; exact ho
    · rw [Inj.add_other e1] at hb
      rw [IH.get_push, if_neg e1] at hob
      rw [heap_alloc, if_neg (old b y hb)]
      exact (h.obj b y ob hb hob).mono hle
  · intro b1 b2 e1 e2 o1 o2 hne h1 h2 g1 g2 l1 l2 hr
    by_cases x1 : b1 = H.size
    · subst x1
      rw [Inj.add_same] at h1; cases h1
      rw [Inj.add_other (Ne.symm hne)] at h2
      exact absurd (hr.symm.trans her) (old b2 e2 h2)
    · rw [Inj.add_other x1] at h1
      by_cases x2 : b2 = H.size
      · subst x2
        rw [Inj.add_same] at h2; cases h2
        exact absurd (hr.trans her) (old b1 e1 h1)
      · rw [Inj.add_other x2] at h2
        rw [IH.get_push, if_neg x1] at g1
        rw [IH.get_push, if_neg x2] at g2
        exact h.sep b1 b2 e1 e2 o1 o2 hne h1 h2 g1 g2 l1 l2 hr
  · intro b1 b2 e1 e2 h1 h2 hr
    by_cases x1 : b1 = H.size
    · subst x1
      rw [Inj.add_same] at h1; cases h1
      by_cases x2 : b2 = H.size
      · subst x2; rw [Inj.add_same] at h2; cases h2; rfl
      · rw [Inj.add_other x2] at h2; exact absurd (hr.symm.trans her) (old b2 e2 h2)
    · rw [Inj.add_other x1] at h1
      by_cases x2 : b2 = H.size
      · subst x2; rw [Inj.add_same] at h2; cases h2; exact absurd (hr.trans her) (old b1 e1 h1)
      · rw [Inj.add_other x2] at h2; exact h.rosame b1 b2 e1 e2 h1 h2 hr
  · intro r hr hno
    refine ⟨?_, by rw [heap_alloc, if_neg (by omega)]⟩
    rintro ⟨b, y, hb, hyr, hro⟩
    by_cases e1 : b = H.size
    · subst e1; rw [Inj.add_same] at hb; cases hb; omega
    · rw [Inj.add_other e1] at hb; exact hno ⟨b, y, hb, hyr, hro⟩
  · intro r hr hu b y hb
    by_cases e1 : b = H.size
    · subst e1; rw [Inj.add_same] at hb; cases hb; omega
    · rw [Inj.add_other e1] at hb; exact hu b y hb

/-- one block of the call's own turns -/
theorem Rel.put {P : Program} {f : Inj} {H : IH} {w w' : World} {o o1 o1' : Obj} {b : Nat} {e : Emb} (h : Rel P f H w) (hb : f b = some e) (hg : H.get b = some o) (hlive : live o = true)
    (hro : e.ro = false) (ho : ORel P f e o1 (some o1')) (hw : ∀ x : Nat, w'.heap[x]? = if x = e.r then some o1' else w.heap[x]?) (hws : w'.heap.size = w.heap.size)
    (hout : w'.os = w.os ∧ w'.output = w.output ∧ w'.tape = w.tape := by exact ⟨rfl, rfl, rfl⟩) :
    Rel P f (H.put b o1) w' ∧ Grow f H w f (H.put b o1) w' ∧ Keep f H (H.put b o1) := by
  refine ⟨⟨h.dom, ?_, ?_, ?_, ?_, h.rosame⟩, ⟨Nat.le_refl _, fun _ _ h => h, f.le_refl, by omega, ?_, fun _ _ h => h, hout⟩, Keep.put hb⟩
  · intro x hx
    rw [IH.get_put, if_neg]
    · exact h.fresh x hx
    · intro e1; subst e1; have := h.dom _ _ hb; simp at hx; omega
  · intro x y hx; rw [hws]; exact h.bound x y hx
  · intro x y ox hx hox
    rw [hw]
    by_cases e1 : x = b
    · subst e1
      rw [hb] at hx; cases hx
      rw [IH.get_put, if_pos rfl] at hox; cases hox
      rw [if_pos rfl]; exact ho
    · rw [IH.get_put, if_neg e1] at hox
      by_cases e2 : y.r = e.r
      · -- another block at the same place: dead
        by_cases hlx : live ox = true
        · have := h.sep x b y e ox o e1 hx hb hox hg hlx hlive e2
          rw [hro] at this; exact absurd this.2 (by simp)
        · cases ox <;> simp [live] at hlx
          simp [ORel]
      · rw [if_neg e2]; exact h.obj x y ox hx hox
  · intro b1 b2 e1 e2 o1' o2' hne h1 h2 g1 g2 l1 l2 hr
    rw [IH.get_put] at g1 g2
    by_cases x1 : b1 = b
    · subst x1
      rw [hb] at h1; cases h1
      rw [if_neg (Ne.symm hne)] at g2
      exact h.sep b1 b2 e e2 o o2' hne hb h2 hg g2 hlive l2 hr
    · rw [if_neg x1] at g1
      by_cases x2 : b2 = b
      · subst x2
        rw [hb] at h2; cases h2
        exact h.sep b1 b2 e1 e o1' o hne h1 hb g1 hg l1 hlive hr
      · rw [if_neg x2] at g2
        exact h.sep b1 b2 e1 e2 o1' o2' hne h1 h2 g1 g2 l1 l2 hr
  · intro r _ hno
    refine ⟨hno, ?_⟩
    rw [hw, if_neg]
    intro e1; exact hno ⟨b, e, hb, e1.symm, hro⟩

/-- a block dies -/
theorem Rel.kill {P : Program} {f : Inj} {H : IH} {w : World} {b : Nat} {e : Emb} (h : Rel P f H w) (hb : f b = some e) : Rel P f (H.put b deadObj) w := by
  refine ⟨h.dom, ?_, h.bound, ?_, ?_, h.rosame⟩
  · intro x hx
    rw [IH.get_put, if_neg]
    · exact h.fresh x hx
    · intro e1; subst e1; have := h.dom _ _ hb; simp at hx; omega
  · intro x y ox hx hox
    rw [IH.get_put] at hox
    by_cases e1 : x = b
    · rw [if_pos e1] at hox; cases hox; simp [ORel, deadObj]
    · rw [if_neg e1] at hox; exact h.obj x y ox hx hox
  · intro b1 b2 e1 e2 o1 o2 hne h1 h2 g1 g2 l1 l2 hr
    rw [IH.get_put] at g1 g2
    by_cases x1 : b1 = b
    · rw [if_pos x1] at g1; cases g1; simp [live, deadObj] at l1
    · by_cases x2 : b2 = b
      · rw [if_pos x2] at g2; cases g2; simp [live, deadObj] at l2
      · rw [if_neg x1] at g1; rw [if_neg x2] at g2
        exact h.sep b1 b2 e1 e2 o1 o2 hne h1 h2 g1 g2 l1 l2 hr

/-- the relation looks at the heap alone -/
theorem Rel.world {P : Program} {f : Inj} {H : IH} {w w' : World} (h : Rel P f H w) (hw : w'.heap = w.heap) : Rel P f H w' :=
  ⟨h.dom, h.fresh, fun b e hb => by rw [hw]; exact h.bound b e hb, fun b e o hb ho => by rw [hw]; exact h.obj b e o hb ho, h.sep, h.rosame⟩
/-- ideal heaps that are no larger before, no smaller behind -/
theorem Grow.sizes {f f' : Inj} {H H' H0 H1 : IH} {w w' : World} (h : Grow f H w f' H' w') (h0 : H0.size ≤ H.size) (h1 : H'.size ≤ H1.size) : Grow f H0 w f' H1 w' :=
  ⟨Nat.le_trans h0 (Nat.le_trans h.isize h1), fun b hb hn => h.stay b (Nat.lt_of_lt_of_le hb h0) hn, h.le, h.size, h.keep, h.un, h.out⟩
theorem Grow.world {f : Inj} {H : IH} {w w' : World} (hw : w'.heap = w.heap) (hout : w'.os = w.os ∧ w'.output = w.output ∧ w'.tape = w.tape := by exact ⟨rfl, rfl, rfl⟩) : Grow f H w f H w' := ⟨Nat.le_refl _, fun _ _ h => h, f.le_refl, by rw [hw]; exact Nat.le_refl _, fun r _ h => ⟨h, by rw [hw]⟩, fun _ _ h => h, hout⟩

end Go.Idl
