/- Rules for code on values without a heap. Conditions: none. -/
import Derived.Test.YtpdlblofcdcikaaGreatDoorPur11
set_option linter.unusedSimpArgs false
set_option linter.unusedVariables false
namespace Go.Idl
variable {P : Program} {G : Nat → Bool} {nat : Nats} {tab : PTab} {inl : FuncId → Bool} {nm : Nm} {rd : Bool} {good : FuncId → Bool}

structure PSet (P : Program) (good : FuncId → Bool) (nat : Nats) (G : Nat → Bool) (tab : PTab) : Prop where
  s : Setup P good nat G
  t : TabOk P nat tab

abbrev PQ := IExit → List PV → PHp → Prop
def Runs (P : Program) (G : Nat → Bool) (rd : Bool) (nm : Nm) (c : Code) (env : List PV) (ph : PHp) (Q : PQ) : Prop :=
  ∀ (Z : Nat → Prop) (H : IH) (m : Nat → Nat) (ienv : Env), Hp P Z H (own m ph) → H.base ≤ H.size → VRL P Z H (own m ph) env ienv →
    Holds P G rd c ienv H fun o => ∃ Z' m' env' ph', Hp P Z' o.H (own m' ph') ∧ VRL P Z' o.H (own m' ph') env' o.env ∧ Step Z H (own m ph) Z' o.H (own m' ph') ∧ KR (inP nm) (own m ph) (own m' ph') ∧ Q o.e env' ph'
theorem Runs.mono {c : Code} {env : List PV} {ph : PHp} {Q Q' : PQ} (h : Runs P G rd nm c env ph Q) (hq : ∀ e env ph, Q e env ph → Q' e env ph) : Runs P G rd nm c env ph Q' :=
  fun Z H m ienv hp hb he => (h Z H m ienv hp hb he).mono fun o ⟨Z', m', env', ph', a, b, c, d, e⟩ => ⟨Z', m', env', ph', a, b, c, d, hq _ _ _ e⟩

/-! ### Weaker states -/
inductive WkP : List PV → List PV → Prop
  | nil : WkP [] []
  | same {x : PV} {l m : List PV} (h : WkP l m) : WkP (x :: l) (x :: m)
  | any {x : PV} {l m : List PV} (h : WkP l m) : WkP (x :: l) (.unk :: m)
theorem WkP.refl : ∀ (l : List PV), WkP l l
  | [] => .nil
  | _ :: l => .same (WkP.refl l)
theorem WkP.rel {Z : Nat → Prop} {H : IH} {M : Nat → Option (Nat × PO)} {l m : List PV} (h : WkP l m) : ∀ {vs : List Value}, VRL P Z H M l vs → VRL P Z H M m vs := by
  induction h with
  | nil => intro vs hx; exact hx
  | same _ ih => intro vs hx; obtain ⟨v, vs', rfl, h1, h2⟩ := hx.uncons; exact .cons h1 (ih h2)
  | any _ ih => intro vs hx; obtain ⟨v, vs', rfl, h1, h2⟩ := hx.uncons; exact .cons .unk (ih h2)
/-- fewer objects -/
def SubP (p q : PHp) : Prop := ∀ k ob, plook k p = some ob → plook k q = some ob
theorem SubP.refl (p : PHp) : SubP p p := fun _ _ h => h
theorem SubP.nil (p : PHp) : SubP [] p := fun _ _ h => by cases h
theorem SubP.skip {p q : PHp} {k : Nat} {ob : PO} (h : SubP p q) (hk : plook k p = none) : SubP p ((k, ob) :: q) := fun j o hj => by
  show cond (j == k) (some ob) (plook j q) = some o
  by_cases e : j = k
  · subst e; rw [hk] at hj; cases hj
  · have : (j == k) = false := by simpa using e
    rw [this]; exact h j o hj
theorem SubP.cons {p q : PHp} {k : Nat} {ob : PO} (h : SubP p q) : SubP ((k, ob) :: p) ((k, ob) :: q) := fun j o hj => by
  show cond (j == k) (some ob) (plook j q) = some o
  have hj : cond (j == k) (some ob) (plook j p) = some o := hj
  cases e : (j == k) with
  | true => rw [e] at hj; exact hj
  | false => rw [e] at hj; exact h j o hj
/-- by lookups -/
theorem SubP.put {p q : PHp} {k : Nat} {ob : PO} (hk : plook k q = some ob) (h : SubP p q) : SubP ((k, ob) :: p) q := fun j o hj => by
  have hj : cond (j == k) (some ob) (plook j p) = some o := hj
  cases e : (j == k) with
  | true =>
    rw [e] at hj
    have hj2 : some ob = some o := hj
    have : j = k := by simpa using e
    subst this
    exact hk.trans hj2
  | false => rw [e] at hj; exact h j o hj
theorem Runs.pre {c : Code} {env env1 : List PV} {ph ph1 : PHp} {Q : PQ} (hw : WkP env env1) (hs : SubP ph1 ph) (h : Runs P G rd nm c env1 ph1 Q) : Runs P G rd nm c env ph Q := by
  intro Z H m ienv hp hb he
  have hf := Fz.drop hp hs
  refine (h Z H m ienv hf.hp hb (hw.rel (hf.vrl he))).mono ?_
  rintro o ⟨Z', m', env', ph', a, b, c, d, e⟩
  exact ⟨Z', m', env', ph', a, b, hf.step.trans c, (hf.kr _).trans d, e⟩

/-! ### Statements -/
def SQ (P : Program) (G : Nat → Bool) (rd : Bool) (nm : Nm) (y : Code) (Q : PQ) : PQ := fun e env ph => match e with
  | .normal => Runs P G rd nm y env ph Q
  | e => Q e env ph
theorem SQ.go {y : Code} {Q : PQ} {env : List PV} {ph : PHp} (h : Runs P G rd nm y env ph Q) : SQ P G rd nm y Q .normal env ph := h
theorem SQ.rt {y : Code} {Q : PQ} {env : List PV} {ph : PHp} (h : Q .ret env ph) : SQ P G rd nm y Q .ret env ph := h
theorem SQ.ex {y : Code} {Q : PQ} {env : List PV} {ph : PHp} {id : Nat} (h : Q (.exit id) env ph) : SQ P G rd nm y Q (.exit id) env ph := h
theorem Runs.seq {x y : Code} {env : List PV} {ph : PHp} {Q : PQ} (h : Runs P G rd nm x env ph (SQ P G rd nm y Q)) : Runs P G rd nm (.seq x y) env ph Q := by
  intro Z H m ienv hp hb he
  refine .seqQ (h Z H m ienv hp hb he) ?_ ?_
  · rintro o ⟨Z', m', env', ph', a, b, c, d, e⟩ hn
    rw [hn] at e
    refine (e Z' o.H m' o.env a (by rw [c.base]; exact Nat.le_trans hb c.size) b).mono ?_
    rintro o2 ⟨Z2, m2, env2, ph2, a2, b2, c2, d2, e2⟩
    exact ⟨Z2, m2, env2, ph2, a2, b2, c.trans c2, d.trans d2, e2⟩
  · rintro o ⟨Z', m', env', ph', a, b, c, d, e⟩ hn
    refine ⟨Z', m', env', ph', a, b, c, d, ?_⟩
    cases ho : o.e with
    | normal => exact absurd ho hn
    | exit id => rw [ho] at e; exact e
    | goto l => rw [ho] at e; exact e
    | ret => rw [ho] at e; exact e
theorem Runs.cond {v : Operand} {x y : Code} {env : List PV} {ph : PHp} {Q : PQ} {t : Bool} (hok : opdOk G v = true) (hv : pval env v = fvv (.bool t)) (hx : t = true → Runs P G rd nm x env ph Q) (hy : t = false → Runs P G rd nm y env ph Q) : Runs P G rd nm (.cond v x y) env ph Q := by
  intro Z H m ienv hp hb he
  have hr := pval_ok he v
  rw [hv] at hr
  exact .cond hok (pl_ok hr rfl) (fun ht => hx ht Z H m ienv hp hb he) (fun ht => hy ht Z H m ienv hp hb he)
theorem Runs.skip {env : List PV} {ph : PHp} {Q : PQ} (h : Q .normal env ph) : Runs P G rd nm .skip env ph Q :=
  fun Z H m ienv hp hb he => .skip ⟨Z, m, env, ph, hp, he, .refl _ _ _, .refl _ _, h⟩
theorem Runs.label {l : Nat} {env : List PV} {ph : PHp} {Q : PQ} (h : Q .normal env ph) : Runs P G rd nm (.label l) env ph Q :=
  fun Z H m ienv hp hb he => .label ⟨Z, m, env, ph, hp, he, .refl _ _ _, .refl _ _, h⟩
theorem Runs.ret {env : List PV} {ph : PHp} {Q : PQ} (h : Q .ret env ph) : Runs P G rd nm .ret env ph Q :=
  fun Z H m ienv hp hb he => .ret ⟨Z, m, env, ph, hp, he, .refl _ _ _, .refl _ _, h⟩
theorem Runs.exit {id : Nat} {env : List PV} {ph : PHp} {Q : PQ} (h : Q (.exit id) env ph) : Runs P G rd nm (.exit id) env ph Q :=
  fun Z H m ienv hp hb he => .exit ⟨Z, m, env, ph, hp, he, .refl _ _ _, .refl _ _, h⟩
def BQ (id : Nat) (Q : PQ) : PQ := fun e env ph => match e with
  | .exit i => if i = id then Q .normal env ph else Q (.exit i) env ph
  | e => Q e env ph
theorem BQ.go {id : Nat} {Q : PQ} {env : List PV} {ph : PHp} (h : Q .normal env ph) : BQ id Q .normal env ph := h
theorem BQ.rt {id : Nat} {Q : PQ} {env : List PV} {ph : PHp} (h : Q .ret env ph) : BQ id Q .ret env ph := h
theorem BQ.on {id : Nat} {Q : PQ} {env : List PV} {ph : PHp} (h : Q .normal env ph) : BQ id Q (.exit id) env ph := by unfold BQ; simp only [if_true]; exact h
theorem BQ.ex {id i : Nat} {Q : PQ} {env : List PV} {ph : PHp} (hne : i ≠ id) (h : Q (.exit i) env ph) : BQ id Q (.exit i) env ph := by unfold BQ; simp only [if_neg hne]; exact h
theorem Runs.block {id : Nat} {x : Code} {env : List PV} {ph : PHp} {Q : PQ} (h : Runs P G rd nm x env ph (BQ id Q)) : Runs P G rd nm (.block id x) env ph Q := by
  intro Z H m ienv hp hb he
  refine .block ((h Z H m ienv hp hb he).mono ?_)
  rintro o ⟨Z', m', env', ph', a, b, c, d, e⟩
  unfold blockQ
  unfold BQ at e
  cases ho : o.e with
  | normal => rw [ho] at e; simp only; exact ⟨Z', m', env', ph', a, b, c, d, by rw [ho]; exact e⟩
  | goto l => rw [ho] at e; simp only; exact ⟨Z', m', env', ph', a, b, c, d, by rw [ho]; exact e⟩
  | ret => rw [ho] at e; simp only; exact ⟨Z', m', env', ph', a, b, c, d, by rw [ho]; exact e⟩
  | exit i =>
    rw [ho] at e
    simp only at e ⊢
    by_cases hi : i = id
    · rw [if_pos hi] at e ⊢
      exact ⟨Z', m', env', ph', a, b, c, d, e⟩
    · rw [if_neg hi] at e ⊢
      exact ⟨Z', m', env', ph', a, b, c, d, by rw [ho]; exact e⟩

/-! ### Loops -/
def loopO {σ ρ : Type} : Nat → (σ → Option (σ ⊕ ρ)) → σ → Option ρ
  | 0, _, _ => none
  | n + 1, f, s => match f s with
    | some (.inl s') => loopO n f s'
    | some (.inr r) => some r
    | none => none
theorem loopO_succ {σ ρ : Type} {f : σ → Option (σ ⊕ ρ)} : ∀ {n : Nat} {s : σ} {r : ρ}, loopO n f s = some r → loopO (n + 1) f s = some r
  | 0, _, _, h => by cases h
  | n + 1, s, r, h => by
    unfold loopO at h ⊢
    cases hf : f s with
    | none => rw [hf] at h; cases h
    | some x =>
      rw [hf] at h
      cases x with
      | inl s' => exact loopO_succ h
      | inr r => exact h
theorem loopO_le {σ ρ : Type} {f : σ → Option (σ ⊕ ρ)} {n k : Nat} {s : σ} {r : ρ} (h : loopO n f s = some r) (hk : n ≤ k) : loopO k f s = some r := by
  induction hk with
  | refl => exact h
  | step _ ih => exact loopO_succ ih
open Classical in
/-- what a loop comes to -/
noncomputable def loopC {σ ρ : Type} (f : σ → Option (σ ⊕ ρ)) (s : σ) : Option ρ := if h : ∃ r n, loopO n f s = some r then some (Classical.choose h) else none
theorem loopC_of {σ ρ : Type} {f : σ → Option (σ ⊕ ρ)} {n : Nat} {s : σ} {r : ρ} (h : loopO n f s = some r) : loopC f s = some r := by
  have he : ∃ r n, loopO n f s = some r := ⟨r, n, h⟩
  unfold loopC
  rw [dif_pos he]
  obtain ⟨k, hk⟩ := Classical.choose_spec he
  have h1 := loopO_le h (Nat.le_max_left n k)
  have h2 := loopO_le hk (Nat.le_max_right n k)
  rw [h1] at h2
  exact h2.symm
theorem loopC_inv {σ ρ : Type} {f : σ → Option (σ ⊕ ρ)} {s : σ} {r : ρ} (h : loopC f s = some r) : ∃ n, loopO n f s = some r := by
  unfold loopC at h
  split at h
  · rename_i he
    cases h
    exact Classical.choose_spec he
  · cases h
theorem loopC_eq {σ ρ : Type} (f : σ → Option (σ ⊕ ρ)) (s : σ) : loopC f s = (match f s with
    | some (.inl s') => loopC f s'
    | some (.inr r) => some r
    | none => none) := by
  cases hf : f s with
  | none =>
    cases hl : loopC f s with
    | none => rfl
    | some r =>
      obtain ⟨n, hn⟩ := loopC_inv hl
      cases n with
      | zero => cases hn
      | succ n => unfold loopO at hn; rw [hf] at hn; cases hn
  | some x =>
    cases x with
    | inr r => exact loopC_of (n := 1) (by unfold loopO; rw [hf])
    | inl s' =>
      simp only
      cases hl : loopC f s' with
      | some r =>
        obtain ⟨n, hn⟩ := loopC_inv hl
        exact loopC_of (n := n + 1) (by unfold loopO; rw [hf]; exact hn)
      | none =>
        cases hl2 : loopC f s with
        | none => rfl
        | some r =>
          obtain ⟨n, hn⟩ := loopC_inv hl2
          cases n with
          | zero => cases hn
          | succ n => unfold loopO at hn; rw [hf] at hn; rw [loopC_of hn] at hl; cases hl
/-- behind a round: on, or out -/
def RQ {σ ρ : Type} (E : σ → List PV) (Ph : σ → PHp) (id : Nat) (r : ρ) (Q : PQ) (x : σ ⊕ ρ) : PQ := fun e env ph => match x with
  | .inl s' => e = .normal ∧ WkP env (E s') ∧ SubP (Ph s') ph
  | .inr r' => r' = r → e ≠ .normal ∧ BQ id Q e env ph
theorem Runs.loop {σ ρ : Type} (E : σ → List PV) (Ph : σ → PHp) {step : σ → Option (σ ⊕ ρ)} {s0 : σ} {r : ρ} (hr : loopC step s0 = some r) {id : Nat} {x : Code} {env : List PV} {ph : PHp} {Q : PQ} (hw : WkP env (E s0)) (hs : SubP (Ph s0) ph)
    (hx : ∀ s y, step s = some y → Runs P G rd nm x (E s) (Ph s) (RQ E Ph id r Q y)) : Runs P G rd nm (.block id (.loop x)) env ph Q := by
  obtain ⟨n, hn⟩ := loopC_inv hr
  refine .pre hw hs (.block ?_)
  intro Z H m ienv hp hb he
  refine .loop (fun n ienv1 H1 => ∃ s Z1 m1, loopO n step s = some r ∧ Hp P Z1 H1 (own m1 (Ph s)) ∧ VRL P Z1 H1 (own m1 (Ph s)) (E s) ienv1 ∧ Step Z H (own m (Ph s0)) Z1 H1 (own m1 (Ph s)) ∧ KR (inP nm) (own m (Ph s0)) (own m1 (Ph s))) ?_ (n := n) ⟨s0, Z, m, hn, hp, he, .refl _ _ _, .refl _ _⟩
  rintro n1 ienv1 H1 ⟨s, Z1, m1, q1, q2, q3, q4, q5⟩
  cases n1 with
  | zero => cases q1
  | succ n1 =>
    unfold loopO at q1
    cases hf : step s with
    | none => rw [hf] at q1; cases q1
    | some y =>
      rw [hf] at q1
      refine (hx s y hf Z1 H1 m1 ienv1 q2 (by rw [q4.base]; exact Nat.le_trans hb q4.size) q3).mono ?_
      rintro o ⟨Z2, m2, env2, ph2, a, b, c, d, e⟩
      cases y with
      | inl s' =>
        obtain ⟨e1, e2, e3⟩ := e
        rw [e1]
        simp only
        have hfz := Fz.drop a e3
        exact ⟨n1, Nat.lt_succ_self _, s', Z2, m2, q1, hfz.hp, e2.rel (hfz.vrl b), (q4.trans c).trans hfz.step, (q5.trans d).trans (hfz.kr _)⟩
      | inr r' =>
        simp only [Option.some.injEq] at q1
        subst q1
        obtain ⟨e1, e2⟩ := e rfl
        cases ho : o.e with
        | normal => exact absurd ho e1
        | exit i => simp only; exact ⟨Z2, m2, env2, ph2, a, b, q4.trans c, q5.trans d, by rw [ho] at e2; exact e2⟩
        | goto l => simp only; exact ⟨Z2, m2, env2, ph2, a, b, q4.trans c, q5.trans d, by rw [ho] at e2; exact e2⟩
        | ret => simp only; exact ⟨Z2, m2, env2, ph2, a, b, q4.trans c, q5.trans d, by rw [ho] at e2; exact e2⟩

/-! ### Regions -/
end Go.Idl
