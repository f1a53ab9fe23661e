/- Contracts of functions on values without a heap. Conditions: none. -/
import Derived.Test.YtpdlblofcdcikaaGreatDoorPur12
set_option linter.unusedSimpArgs false
set_option linter.unusedVariables false
namespace Go.Idl
variable {P : Program} {G : Nat → Bool} {nat : Nats} {tab : PTab} {nm : Nm} {good : FuncId → Bool} {Z : Nat → Prop} {H : IH} {M : Nat → Option (Nat × PO)}

/-! ### Which blocks bear a value -/
theorem FR.inter {Z0 : Nat → Prop} {x : FV} {v : Value} (h0 : FR Z0 H x v) : ∀ {S : (Nat → Prop) → Prop}, (∀ Z, S Z → FR Z H x v) → FR (fun b => ∀ Z, S Z → Z b) H x v := by
  induction h0 with
  | v hp h1 => exact fun _ => .v hp h1
  | nil h0 hs => exact fun _ => .nil h0 hs
  | @l el n cs b o sp c vs hz hb hn hs hl hc ih =>
    intro S hS
    by_cases he : cs = [] ∧ n = 0
    · obtain ⟨rfl, rfl⟩ := he
      exact .nil (fun h => by cases h) (fun x h => by cases h; exact hs)
    · refine .l (fun Z hZ => ?_) hb hn hs hl fun i x v h1 h2 => ih i x v h1 h2 fun Z hZ => ?_
      · cases hS Z hZ with
        | nil => exact absurd ⟨rfl, rfl⟩ he
        | l hz => exact hz
      · cases hS Z hZ with
        | nil => simp at h1
        | l _ _ _ _ hl' hc' =>
          rw [hl] at hl'; cases hl'
          exact hc' i x v h1 h2
theorem VR.inter {Z0 : Nat → Prop} {x : PV} {v : Value} (h0 : VR P Z0 H (fun _ => none) x v) : ∀ {S : (Nat → Prop) → Prop}, (∀ Z, S Z → VR P Z H (fun _ => none) x v) → VR P (fun b => ∀ Z, S Z → Z b) H (fun _ => none) x v := by
  induction h0 with
  | f h => exact fun hS => .f (h.inter fun Z hZ => by cases hS Z hZ with | f h => exact h)
  | agg hl hc ih => exact fun hS => .agg hl fun i x v h1 h2 => ih i x v h1 h2 fun Z hZ => by cases hS Z hZ with | agg _ hc' => exact hc' i x v h1 h2
  | tup hl hc ih => exact fun hS => .tup hl fun i x v h1 h2 => ih i x v h1 h2 fun Z hZ => by cases hS Z hZ with | tup _ hc' => exact hc' i x v h1 h2
  | own h1 h => exact fun _ => .own h1 fun b ob hM => by cases hM
  | ref h1 h => exact fun _ => .ref h1 fun b ob hM => by cases hM
  | @lp cs off b o vs hz hb hl hc =>
    intro S hS
    have key : ∀ Z, S Z → ∃ b' o' vs', b' = b ∧ o' = o ∧ Z b' ∧ H.loads b' o' cs.length = some vs' ∧ ∀ (i : Nat) x v, cs[i]? = some x → vs'[i]? = some v → FR Z H x v := fun Z hZ => by
      generalize hq : (Value.pointer (some ⟨b, o + off, none⟩)) = q at hS
      have h := hS Z hZ
      cases h with
      | lp hz' hb' hl' hc' =>
        simp only [Value.pointer.injEq, Option.some.injEq, Addr.mk.injEq, and_true] at hq
        obtain ⟨rfl, hq⟩ := hq
        exact ⟨_, _, _, rfl, by omega, hz', hl', hc'⟩
    refine .lp (fun Z hZ => ?_) hb hl fun i x v h1 h2 => (hc i x v h1 h2).inter fun Z hZ => ?_
    · obtain ⟨b', o', vs', rfl, rfl, q, _⟩ := key Z hZ; exact q
    · obtain ⟨b', o', vs', rfl, rfl, _, q2, q3⟩ := key Z hZ
      rw [hl] at q2; cases q2
      exact q3 i x v h1 h2
  | fn hf hc hfc hcc i1 i2 => exact fun hS => .fn hf hc (fun i x v h1 h2 => i1 i x v h1 h2 fun Z hZ => by cases hS Z hZ with | fn _ _ q _ => exact q i x v h1 h2) (fun i x v h1 h2 => i2 i x v h1 h2 fun Z hZ => by cases hS Z hZ with | fn _ _ _ q => exact q i x v h1 h2)
  | yl => exact fun _ => .yl
  | unk => exact fun _ => .unk
/-- the blocks that bear arguments -/
def Foot (P : Program) (H : IH) (xs : List PV) (vs : List Value) : Nat → Prop := fun b => ∀ Z, VRL P Z H (fun _ => none) xs vs → Z b
theorem foot_ok {xs : List PV} {vs : List Value} (h : VRL P Z H (fun _ => none) xs vs) : VRL P (Foot P H xs vs) H (fun _ => none) xs vs :=
  ⟨h.len, fun i x v h1 h2 => (h.val i x v h1 h2).inter (S := fun Z => VRL P Z H (fun _ => none) xs vs) fun Z hZ => hZ.val i x v h1 h2⟩
theorem foot_le {xs : List PV} {vs : List Value} (h : VRL P Z H (fun _ => none) xs vs) {b : Nat} (hb : Foot P H xs vs b) : Z b := hb Z h

/-! ### Results -/
noncomputable def pres1 (P : Program) (env : List PV) (ph : PHp) : ResultVar → Option PV
  | .tmp t => some ((nthR env t).getD .unk)
  | .cell a t => pload P t ((nthR env a).getD .unk) ph
noncomputable def presL (P : Program) (env : List PV) (ph : PHp) : List ResultVar → Option (List PV)
  | [] => some []
  | r :: l => match pres1 P env ph r with
    | some v => (match presL P env ph l with
      | some vs => some (v :: vs)
      | none => none)
    | none => none
def pone1 : List PV → PV
  | [v] => v
  | vs => .tup vs
noncomputable def presults (P : Program) (fn : Func) (env : List PV) (ph : PHp) : Option PV := (presL P env ph fn.results.toList).map fun xs => pone1 (rtL (rt1 P) fn.resultTypes.toList xs)
theorem pres1_ok {m : Nat → Nat} {ph : PHp} {env : List PV} {ienv : Env} {r : ResultVar} {x : PV} (hp : Hp P Z H (own m ph)) (he : VRL P Z H (own m ph) env ienv) (h : pres1 P env ph r = some x) : ∃ v, ires1 P ienv H r = some v ∧ VR P Z H (own m ph) x v := by
  cases r with
  | tmp t => cases h; exact ⟨_, rfl, pval_ok he (.tmp t)⟩
  | cell a t => exact pload_ok hp (pval_ok he (.tmp a)) h
theorem presL_ok {m : Nat → Nat} {ph : PHp} {env : List PV} {ienv : Env} (hp : Hp P Z H (own m ph)) (he : VRL P Z H (own m ph) env ienv) : ∀ {l : List ResultVar} {xs : List PV}, presL P env ph l = some xs → ∃ vs, iresL P ienv H l = some vs ∧ VRL P Z H (own m ph) xs vs
  | [], xs, h => by cases h; exact ⟨[], rfl, .nil⟩
  | r :: l, xs, h => by
    unfold presL at h
    split at h
    · rename_i x hx
      split at h
      · rename_i xs' hxs
        cases h
        obtain ⟨v, h1, h2⟩ := pres1_ok hp he hx
        obtain ⟨vs, h3, h4⟩ := presL_ok hp he hxs
        exact ⟨v :: vs, by unfold iresL; rw [h1, h3], .cons h2 h4⟩
      · cases h
    · cases h
theorem presults_ok {m : Nat → Nat} {ph : PHp} {env : List PV} {ienv : Env} {fn : Func} {x : PV} (hp : Hp P Z H (own m ph)) (he : VRL P Z H (own m ph) env ienv) (h : presults P fn env ph = some x) : ∃ v, iresults P fn ienv H = some v ∧ VR P Z H (own m ph) x v := by
  unfold presults at h
  obtain ⟨xs, h1, rfl⟩ := Option.map_eq_some_iff.1 h
  obtain ⟨vs, h2, h3⟩ := presL_ok hp he h1
  replace h3 := rtL_ok (f := rt1 P) (ts := fn.resultTypes.toList) (fun t x v h => rt1_ok h) h3
  revert h3
  generalize rtL (rt1 P) fn.resultTypes.toList xs = xs
  intro h3
  refine ⟨one vs, by unfold iresults; rw [h2]; rfl, ?_⟩
  match xs, h3 with
  | [], h3 => rw [h3.nil_left]; exact VRL.tup' (vs := #[]) .nil
  | [x], h3 =>
    obtain ⟨v, vs', rfl, a, b⟩ := h3.uncons
    rw [b.nil_left]; exact a
  | x :: y :: l, h3 =>
    obtain ⟨v, vs', rfl, a, b⟩ := h3.uncons
    obtain ⟨v2, vs2, rfl, a2, b2⟩ := b.uncons
    exact VRL.tup' (vs := (v :: v2 :: vs2).toArray) (by simpa using VRL.cons a (VRL.cons a2 b2))
noncomputable def fzR (P : Program) (ph : PHp) : PV → Option PV
  | .tup xs => (match fzA P xs ph with
    | some (ys, _) => some (.tup ys)
    | none => none)
  | x => (match fzP P ph x with
    | some (y, _) => some y
    | none => none)
theorem fzR_ok {m : Nat → Nat} {ph : PHp} {x y : PV} {v : Value} (hp : Hp P Z H (own m ph)) (hx : VR P Z H (own m ph) x v) (h : fzR P ph x = some y) : ∃ Z' ph', Fz P Z H m ph Z' ph' ∧ VR P Z' H (fun _ => none) y v := by
  unfold fzR at h
  split at h
  · split at h
    · rename_i ys ph' hf
      cases h
      obtain ⟨vs, rfl, hr⟩ := hx.tupL
      obtain ⟨Z', h1, h2⟩ := fzA_ok hp hr hf
      exact ⟨Z', ph', h1, h2.tup'⟩
    · cases h
  · split at h
    · rename_i y' ph' hf
      cases h
      obtain ⟨Z', h1, h2⟩ := fzP_ok hp hx hf
      exact ⟨Z', ph', h1, h2⟩
    · cases h

/-! ### Arguments -/
/-- how values of a type are told -/
structure PEn (α : Type) where
  p : α → PV
  inj : ∀ x y, p x = p y → x = y
  uniq : ∀ (P : Program) (Z Z' : Nat → Prop) (H : IH) (x y : α) (v : Value), VR P Z H (fun _ => none) (p x) v → VR P Z' H (fun _ => none) (p y) v → x = y
structure AEn (α : Type) where
  p : α → List PV
  inj : ∀ x y, p x = p y → x = y
  uniq : ∀ (P : Program) (Z Z' : Nat → Prop) (H : IH) (x y : α) (vs : List Value), VRL P Z H (fun _ => none) (p x) vs → VRL P Z' H (fun _ => none) (p y) vs → x = y
def AEn.nil : AEn Unit := ⟨fun _ => [], fun _ _ _ => rfl, fun _ _ _ _ _ _ _ _ _ => rfl⟩
def AEn.cons {α β : Type} (a : PEn α) (b : AEn β) : AEn (α × β) := ⟨fun x => a.p x.1 :: b.p x.2, fun x y h => by
    simp only [List.cons.injEq] at h
    exact Prod.ext (a.inj _ _ h.1) (b.inj _ _ h.2), fun P Z Z' H x y vs h1 h2 => by
    obtain ⟨v, vs', rfl, a1, b1⟩ := h1.uncons
    obtain ⟨v', vs2, e, a2, b2⟩ := h2.uncons
    simp only [List.cons.injEq] at e
    obtain ⟨rfl, rfl⟩ := e
    exact Prod.ext (a.uniq P Z Z' H _ _ _ a1 a2) (b.uniq P Z Z' H _ _ _ b1 b2)⟩
open Classical in
/-- a function's entry in the table -/
noncomputable def ofF {α β : Type} (a : AEn α) (F : α → Option β) (r : β → PV) (xs : List PV) : Option PV :=
  if h : ∃ x, xs = a.p x then (F (Classical.choose h)).map r else none
theorem ofF_eq {α β : Type} {a : AEn α} {F : α → Option β} {r : β → PV} (x : α) : ofF a F r (a.p x) = (F x).map r := by
  have h : ∃ y, a.p x = a.p y := ⟨x, rfl⟩
  unfold ofF
  rw [dif_pos h]
  rw [← a.inj _ _ (Classical.choose_spec h)]
theorem ofF_inv {α β : Type} {a : AEn α} {F : α → Option β} {r : β → PV} {xs : List PV} {y : PV} (h : ofF a F r xs = some y) : ∃ x z, xs = a.p x ∧ F x = some z ∧ y = r z := by
  unfold ofF at h
  split at h
  · rename_i he
    obtain ⟨z, h1, h2⟩ := Option.map_eq_some_iff.1 h
    exact ⟨_, z, Classical.choose_spec he, h1, h2.symm⟩
  · cases h
def addT (tab : PTab) (g : FuncId) (F : List PV → Option PV) : PTab := fun x xs => cond (Nat.beq x g) (F xs) (tab x xs)
def preF {α β : Type} (P : Program) (a : AEn α) (F : α → Option β) (x : α) (args : List Value) (H : IH) : Prop := (∃ Z : Nat → Prop, VRL P Z H (fun _ => none) (a.p x) args ∧ ∀ b, Z b → b < H.size) ∧ H.base ≤ H.size ∧ ∃ y, F x = some y
def postF {α β : Type} (P : Program) (a : AEn α) (F : α → Option β) (r : β → PV) (x : α) (args : List Value) (H : IH) (v : Value) (H' : IH) : Prop := Old H H' ∧ ∃ y, F x = some y ∧ ∃ Z' : Nat → Prop, (∀ b, Z' b → b < H'.size) ∧ (∀ b, Z' b → b < H.size → Foot P H (a.p x) args b) ∧ VR P Z' H' (fun _ => none) (r y) v
/-- the code's own contract -/
def FnOk {α β : Type} (P : Program) (G : Nat → Bool) (g : FuncId) (nm : Nm) (a : AEn α) (F : α → Option β) (r : β → PV) : Prop :=
  ∃ fn c, P.funcs[g]? = some fn ∧ fn.body = some c ∧ ∀ x y, F x = some y → ∃ N, fn.ntmps = N ∧ Runs P G false nm c (a.p x ++ List.replicate (N - (a.p x).length) .unk) [] fun e env ph => (e = .normal ∨ e = .ret) ∧ ∃ r0, presults P fn env ph = some r0 ∧ fzR P ph r0 = some (r y)
theorem PSet.add {α β : Type} (s : PSet P good nat G tab) {g : FuncId} {nm : Nm} (a : AEn α) (F : α → Option β) (r : β → PV) (hent : enters P g = true) (hfr : ∀ y, frzR (r y) = true) (h : FnOk P G g nm a F r) :
    PSet P good (addS nat g (fun (x : α × List Value) args H => x.2 = args ∧ preF P a F x.1 args H) (fun x H v H' => postF P a F r x.1 x.2 H v H')) G (addT tab g (ofF a F r)) := by
  have uniq : ∀ (x y : α × List Value) (args : List Value) (H : IH), (x.2 = args ∧ preF P a F x.1 args H) → (y.2 = args ∧ preF P a F y.1 args H) → x = y := by
    rintro ⟨x, as⟩ ⟨y, bs⟩ args H ⟨e1, ⟨Z1, h1, _⟩, _⟩ ⟨e2, ⟨Z2, h2, _⟩, _⟩
    simp only at e1 e2 h1 h2
    subst e1 e2
    rw [a.uniq P Z1 Z2 H x y _ h1 h2]
  refine ⟨s.s.addS _ _ ?_, ?_⟩
  · rintro ⟨x, as⟩ args H ⟨e1, ⟨Z0, h0, hz0⟩, hb, y, hy⟩
    simp only at e1 h0 hy
    subst e1
    obtain ⟨fn, c, q1, q2, q3⟩ := h
    obtain ⟨N, hN, hrun⟩ := q3 x y hy
    have hf := foot_ok h0
    have hflt : ∀ b, Foot P H (a.p x) as b → b < H.size := fun b hb => hz0 b (foot_le h0 hb)
    refine CallI.of q1 q2 hN ?_
    have hp0 : Hp P (Foot P H (a.p x) as) H (own (fun _ => 0) []) := ⟨hflt, fun k b ob hk => (by cases hk), fun k k' b b' ob ob' hk => by cases hk⟩
    have e0 : own (fun _ => 0) [] = fun _ => none := rfl
    have hlen := h0.len
    have henv : VRL P (Foot P H (a.p x) as) H (own (fun _ => 0) []) (a.p x ++ List.replicate (N - (a.p x).length) .unk) (as ++ List.replicate (N - as.length) undef) := by
      rw [hlen]
      refine VRL.append hf ⟨by simp, fun i z v h1 h2 => ?_⟩
      rw [List.getElem?_replicate] at h1
      split at h1
      · cases h1; exact .unk
      · cases h1
    refine (hrun _ H _ _ hp0 hb henv).mono ?_
    rintro o ⟨Z', m', env', ph', a1, b1, c1, d1, he, r0, hr0, hfz⟩
    refine ⟨he, ?_⟩
    obtain ⟨v, v1, v2⟩ := presults_ok a1 b1 hr0
    obtain ⟨Z2, ph2, w1, w2⟩ := fzR_ok a1 v2 hfz
    have noO : ∀ b, ¬ OwnB (own (fun _ => 0) []) b := fun b ⟨k, ob, hk, _⟩ => by cases hk
    refine ⟨v, v1, ⟨c1.size, c1.base, fun b hb => c1.keep b hb (noO b)⟩, y, hy, Z2, w1.hp.zlt, fun b hb hlt => ?_, w2⟩
    rcases w1.znew b hb with h | h
    · rcases c1.znew b h hlt with h | h
      · exact h
      · exact absurd h (noO b)
    · exact absurd (c1.onew b h hlt) (noO b)
  · intro g' pargs r' ht
    unfold addT at ht
    cases hg : Nat.beq g' g with
    | false =>
      rw [hg] at ht
      obtain ⟨t1, t2, k, t3, t4⟩ := s.t g' pargs r' ht
      refine ⟨t1, t2, k, ?_, t4⟩
      unfold addS; rw [hg]; exact t3
    | true =>
      rw [hg] at ht
      have hg' : g' = g := Nat.eq_of_beq_eq_true hg
      subst hg'
      obtain ⟨x, y, rfl, hF, rfl⟩ := ofF_inv ht
      refine ⟨hent, hfr y, _, by unfold addS; rw [hg]; rfl, ?_⟩
      intro Z H args hv hz hb Q hQ
      have hpre : (fun (x : α × List Value) args H => x.2 = args ∧ preF P a F x.1 args H) (x, args) args H := ⟨rfl, ⟨Z, hv, hz⟩, hb, y, hF⟩
      rw [ofS_eq uniq hpre]
      rintro ⟨v, H'⟩ ⟨o1, y', hy', Z', o2, o3, o4⟩
      simp only at hy' o4
      rw [hF] at hy'; cases hy'
      refine hQ v H' (fun b => Z b ∨ Z' b) o1 (fun b h => .inl h) ?_ ?_ ?_
      · rintro b (h | h)
        · exact Nat.lt_of_lt_of_le (hz b h) o1.size
        · exact o2 b h
      · rintro b (h | h) hlt
        · exact h
        · exact foot_le hv (o3 b h hlt)
      · exact o4.mono (p := fun _ => false) (fun _ h => .inr h) (Nat.le_refl _) (fun _ _ _ => rfl) (.refl _ _) fun j hj => by cases hj
end Go.Idl
