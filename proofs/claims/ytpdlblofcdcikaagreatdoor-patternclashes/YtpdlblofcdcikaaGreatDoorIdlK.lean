/- Contracts that say what holds behind a call; lists in memory; rules that follow the code; drawn regions with new memory; cells of structures. Conditions: none. -/
import Derived.Test.YtpdlblofcdcikaaGreatDoorIdlJ
set_option linter.unusedSimpArgs false
set_option linter.unusedVariables false
namespace Go.Idl
variable {P : Program} {good : FuncId → Bool} {nat : Nats} {G : Nat → Bool} {rd : Bool}

/-! ### Weaker environments -/
inductive WkL : List Value → List Value → Prop
  | nil : WkL [] []
  | same {v : Value} {l m : List Value} (h : WkL l m) : WkL (v :: l) (v :: m)
  | any {v : Value} {l m : List Value} (h : WkL l m) : WkL (v :: l) (unk :: m)
theorem WkL.refl : ∀ (l : List Value), WkL l l
  | [] => .nil
  | _ :: l => .same (WkL.refl l)
theorem WkL.rel {f : Inj} {l m : List Value} (h : WkL l m) : ∀ {x : List Value}, VRelL P f l x → VRelL P f m x := by
  induction h with
  | nil => intro x hx; exact hx
  | same _ ih =>
    intro x hx
    obtain ⟨v', x', rfl, h1, h2⟩ := hx.uncons
    exact .cons h1 (ih h2)
  | any _ ih =>
    intro x hx
    obtain ⟨v', x', rfl, h1, h2⟩ := hx.uncons
    exact .cons (.any v') (ih h2)
theorem WkL.trans {a b c : List Value} (h : WkL a b) : WkL b c → WkL a c := by
  induction h generalizing c with
  | nil => exact fun h => h
  | same _ ih =>
    intro k
    cases k with
    | same k => exact .same (ih k)
    | any k => exact .any (ih k)
  | any _ ih =>
    intro k
    cases k with
    | same k => exact .any (ih k)
    | any k => exact .any (ih k)
theorem Holds.pre {c : Code} {env env1 : Env} {H : IH} {Q : Out → Prop} (hw : WkL env env1) (h : Holds P G rd c env1 H Q) : Holds P G rd c env H Q :=
  fun B F f a w hF hr hR hG henv hm => h B F f a w hF hr hR hG (hw.rel henv) hm

/-- weaker than what is said -/
def Wk (R : Env → IH → Prop) : Env → IH → Prop := fun e h => ∃ e', WkL e e' ∧ R e' h
/-- a round of a loop: on, out of it, or returns; environments may be weaker -/
def LOw (I : Nat → Env → IH → Prop) (n : Nat) (id : Nat) (R : Env → IH → Prop) (Q : Out → Prop) (o : Out) : Prop :=
  (o.e = .normal ∧ ∃ m env', m < n ∧ WkL o.env env' ∧ I m env' o.H) ∨ (o.e = .exit id ∧ R o.env o.H) ∨ (o.e = .ret ∧ Q o)
theorem Holds.forW {id : Nat} {x : Code} {env : Env} {H : IH} {R : Env → IH → Prop} {Q : Out → Prop} (I : Nat → Env → IH → Prop) {n : Nat} {env0 : Env} (hw : WkL env env0) (h : I n env0 H) (hx : ∀ n env H, I n env H → Holds P G rd x env H (LOw I n id R Q)) :
    Holds P G rd (.block id (.loop x)) env H (NR R Q) :=
  .forR (fun n e h => ∃ e', WkL e e' ∧ I n e' h) (n := n) ⟨env0, hw, h⟩ fun n env H ⟨e', hw', hi⟩ => .pre hw' ((hx n e' H hi).mono fun o ho => by
    rcases ho with ⟨h1, m, env', h2, h3, h4⟩ | h | h
    · exact .inl ⟨h1, m, h2, env', h3, h4⟩
    · exact .inr (.inl h)
    · exact .inr (.inr h))

/-! ### Contracts that say what holds -/
open Classical in
noncomputable def ofS {α : Type} (pre : α → List Value → IH → Prop) (post : α → IH → Value → IH → Prop) : List Value → IH → T (Value × IH) := fun args H =>
  if h : ∃ x, pre x args H then .sp (fun r => post (Classical.choose h) H r.1 r.2) .ret else .fail
noncomputable def addS (nat : Nats) (g : FuncId) {α : Type} (pre : α → List Value → IH → Prop) (post : α → IH → Value → IH → Prop) : Nats := fun x => cond (Nat.beq x g) (some (ofS pre post)) (nat x)
theorem ofS_eq {α : Type} {pre : α → List Value → IH → Prop} {post : α → IH → Value → IH → Prop} (uniq : ∀ x y args H, pre x args H → pre y args H → x = y) {x : α} {args : List Value} {H : IH} (hx : pre x args H) :
    ofS pre post args H = .sp (fun r => post x H r.1 r.2) .ret := by
  have h : ∃ x, pre x args H := ⟨x, hx⟩
  unfold ofS
  rw [dif_pos h, uniq _ _ _ _ (Classical.choose_spec h) hx]
theorem enter_s {run : Job → IH → T Out} {g : FuncId} {α : Type} {pre : α → List Value → IH → Prop} {post : α → IH → Value → IH → Prop} (hn : nat g = some (ofS pre post)) (uniq : ∀ x y args H, pre x args H → pre y args H → x = y) {x : α} {args : List Value} {H : IH}
    (hx : pre x args H) : enterT run nat g args H = .sp (fun r => post x H r.1 r.2) .ret := by
  unfold enterT; rw [hn]; exact ofS_eq uniq hx
theorem addS_ext {g : FuncId} {α : Type} {pre : α → List Value → IH → Prop} {post : α → IH → Value → IH → Prop} (hn : NatExt nat) : NatExt (addS nat g pre post) := by
  intro x y h args H
  unfold addS at h
  cases hb : Nat.beq x g with
  | false => rw [hb] at h; exact hn x y h args H
  | true =>
    rw [hb] at h
    cases h
    unfold ofS
    split
    · exact trivial
    · exact trivial

/-- a call, wherever it stands -/
def CallI (P : Program) (G : Nat → Bool) (g : FuncId) (args : List Value) (H : IH) (Q : Value × IH → Prop) : Prop :=
  ∀ (args' : List Value) (f : Inj) (w : World), Rel P f H w → Glob G f → VRelL P f args args' → CallsIn Fence.wide 0 P g args'.toArray w (Comes P f H w Q)
theorem CallI.mono {g : FuncId} {args : List Value} {H : IH} {Q Q' : Value × IH → Prop} (h : CallI P G g args H Q) (hq : ∀ r, Q r → Q' r) : CallI P G g args H Q' := by
  intro args' f w hR hG ha
  refine CallsIn.mono (h args' f w hR hG ha) ?_
  rintro e w' ⟨v', r, f', k0, k1, k2, k3, k4⟩
  exact ⟨v', r, f', k0, hq r k1, k2, k3, k4⟩
theorem CallI.of {g : FuncId} {fn : Func} {c : Code} {args : List Value} {H : IH} {Q : Value × IH → Prop} {N : Nat} (hfn : P.funcs[g]? = some fn) (hb : fn.body = some c) (hN : fn.ntmps = N)
    (h : Holds P G false c (args ++ List.replicate (N - args.length) undef) H fun o => (o.e = .normal ∨ o.e = .ret) ∧ ∃ v, iresults P fn o.env o.H = some v ∧ Q (v, o.H)) : CallI P G g args H Q := by
  subst hN
  exact fun args' f w hR hG ha => call_holds hfn hb hR hG ha h

theorem Setup.addS (s : Setup P good nat G) {g : FuncId} {α : Type} (pre : α → List Value → IH → Prop) (post : α → IH → Value → IH → Prop)
    (hk : ∀ x args H, pre x args H → CallI P G g args H fun r => post x H r.1 r.2) : Setup P good (Go.Idl.addS nat g pre post) G := by
  refine ⟨s.mix, addS_ext s.ext, ?_, s.good⟩
  intro x y h args args' H f w Q hR hG ha hq
  unfold Go.Idl.addS at h
  cases hbx : Nat.beq x g with
  | false => rw [hbx] at h; exact s.spec x y h args args' H f w Q hR hG ha hq
  | true =>
    rw [hbx] at h
    have hx : x = g := Nat.eq_of_beq_eq_true hbx
    subst hx
    cases h
    unfold ofS at hq
    split at hq
    · rename_i he
      exact (hk _ args H (Classical.choose_spec he)).mono (fun r hr => hq r hr) args' f w hR hG ha
    · exact hq.elim

/-! ### Regions with such calls -/
theorem yB {run : Job → IH → T Out} {ds : List (Option Tmp)} {d : Option Tmp} {l : List Oper} {env : Env} {p : Value × IH → Prop} {k : Value × IH → T (Value × IH)} {Q : Env × IH → Prop} :
    (thenE P run nat ds d l env (.sp p k)).holds Q = ∀ v H, p (v, H) → (thenE P run nat ds d l env (k (v, H))).holds Q := by
  unfold thenE
  apply propext
  constructor
  · intro h v H hp; exact h (v, H) hp
  · intro h r hr; exact h r.1 r.2 hr
theorem yC {α : Type} {Q : α → Prop} {a : α} : (T.ret a).holds Q = Q a := rfl
theorem Setup.regS (s : Setup P good nat G) {id : Nat} {ops : Array Oper} {y : Code} {env : Env} {H : IH} {Q : Out → Prop} {ds : List (Option Tmp)} (hok : opsOk G ops = true) (hds : ops.toList.map (·.dst) = ds)
    (h : (iopsE P (iex P good nat 0) nat ds ops.toList env H).holds fun r => Holds P G rd y r.1 r.2 Q) : Holds P G rd (.seq (.region id ops false) y) env H Q := by
  refine Holds.seqN (Q1 := fun e h => Holds P G rd y e h Q) (s.run 1 (by simp [codeOk, hok]) ?_) fun e h hy => hy
  have e : iex P good nat (0 + 1) (.code (.region id ops false) env) H = (iops P (iex P good nat 0) nat ops ops.toList env H).bind fun r => .ret ⟨.normal, r.1, r.2⟩ := rfl
  rw [e, T.holds_bind, iopsE_eq, hds]
  exact T.holds_mono (fun r hr => ⟨rfl, hr⟩) _ h
theorem Setup.regSZ (s : Setup P good nat G) {id : Nat} {ops : Array Oper} {env : Env} {H : IH} {Q : Out → Prop} {ds : List (Option Tmp)} (hok : opsOk G ops = true) (hds : ops.toList.map (·.dst) = ds)
    (h : (iopsE P (iex P good nat 0) nat ds ops.toList env H).holds fun r => Q ⟨.normal, r.1, r.2⟩) : Holds P G rd (.region id ops false) env H Q := by
  refine s.run 1 (by simp [codeOk, hok]) ?_
  have e : iex P good nat (0 + 1) (.code (.region id ops false) env) H = (iops P (iex P good nat 0) nat ops ops.toList env H).bind fun r => .ret ⟨.normal, r.1, r.2⟩ := rfl
  rw [e, T.holds_bind, iopsE_eq, hds]
  exact T.holds_mono (fun r hr => hr) _ h

/-! ### Rounds of a range over a function, as a contract -/
def RoundI (P : Program) (G : Nat → Bool) (l : Nat) (args : List Value) (H : IH) (Q : Value × IH → Prop) : Prop :=
  ∀ (args' : List Value) (f : Inj) (w : World) (e : Emb), Rel P f H w → Glob G f → f l = some e → VRelL P f args args' →
    ∃ fn tmps assign body, (Instr.yield e.r args'.toArray).run P w = .ok (.round e.r fn tmps assign body) w ∧ RoundIn Fence.wide 0 P e.r fn tmps assign body w (Comes P f H w Q)
theorem RoundI.mono {l : Nat} {args : List Value} {H : IH} {Q Q' : Value × IH → Prop} (h : RoundI P G l args H Q) (hq : ∀ r, Q r → Q' r) : RoundI P G l args H Q' := by
  intro args' f w e hR hG he ha
  obtain ⟨fn, tmps, assign, body, h1, h2⟩ := h args' f w e hR hG he ha
  refine ⟨fn, tmps, assign, body, h1, RoundIn.mono h2 ?_⟩
  rintro e w' ⟨v', r, f', k0, k1, k2, k3, k4⟩
  exact ⟨v', r, f', k0, hq r k1, k2, k3, k4⟩
noncomputable def rkRun (rk : Nat → List Value → IH → T (Value × IH)) : Job → IH → T Out
  | .round l args, H => (rk l args H).bind fun r => .ret ⟨.normal, [r.1], r.2⟩
  | _, _ => .fail
def RkSpec (P : Program) (G : Nat → Bool) (rk : Nat → List Value → IH → T (Value × IH)) : Prop := ∀ l args H Q, (rk l args H).holds Q → RoundI P G l args H Q
theorem rk_call (s : Setup P good nat G) {rk : Nat → List Value → IH → T (Value × IH)} : CallSpec P G (enterT (rkRun rk) nat) := by
  intro g args args' H f w Q hR hG ha h
  unfold enterT at h
  split at h
  · rename_i k hk; exact s.spec g k hk args args' H f w Q hR hG ha h
  · exact h.elim
theorem rk_bind {t : T (Value × IH)} {Q : Value × IH → Prop} (h : ((t.bind fun r => (.ret ⟨.normal, [r.1], r.2⟩ : T Out)).bind callOut).holds Q) : t.holds Q := by
  rw [T.holds_bind, T.holds_bind] at h
  exact T.holds_mono (fun r hr => hr) _ h
theorem rk_round {rk : Nat → List Value → IH → T (Value × IH)} (h : RkSpec P G rk) : RoundSpec P G (rkRun rk) := by
  intro l args args' H f w e Q hR hG he ha hq
  exact h l args H Q (rk_bind hq) args' f w e hR hG he ha
theorem Setup.regR (s : Setup P good nat G) {rk : Nat → List Value → IH → T (Value × IH)} (hrk : RkSpec P G rk) {id : Nat} {ops : Array Oper} {env : Env} {H : IH} {Q : Out → Prop} {ds : List (Option Tmp)} (hok : opsOk G ops = true) (hds : ops.toList.map (·.dst) = ds)
    (h : (iopsE P (rkRun rk) nat ds ops.toList env H).holds fun r => Q ⟨.normal, r.1, r.2⟩) : Holds P G rd (.region id ops false) env H Q := by
  intro B F f a w hF hr hR hG henv hm
  rw [← hds, ← iopsE_eq] at h
  refine wpIn_region_list (ops_sound hF (rk_call s) (rk_round hrk) ops.toList env H f a w _ hR hG henv hm (fun o ho => List.all_eq_true.1 (opsOk_mono hG hok) o ho) h ?_)
  intro r a' w' f' hq h1 h2 h3 h4
  exact ⟨⟨.normal, r.1, r.2⟩, f', hq, rfl, h1, h2, h3, h4⟩
theorem Setup.regRS (s : Setup P good nat G) {rk : Nat → List Value → IH → T (Value × IH)} (hrk : RkSpec P G rk) {id : Nat} {ops : Array Oper} {y : Code} {env : Env} {H : IH} {Q : Out → Prop} {ds : List (Option Tmp)} (hok : opsOk G ops = true) (hds : ops.toList.map (·.dst) = ds)
    (h : (iopsE P (rkRun rk) nat ds ops.toList env H).holds fun r => Holds P G rd y r.1 r.2 Q) : Holds P G rd (.seq (.region id ops false) y) env H Q :=
  Holds.seqN (Q1 := fun e h => Holds P G rd y e h Q) (s.regR hrk hok hds (T.holds_mono (fun r hr => ⟨rfl, hr⟩) _ h)) fun e h hy => hy
theorem yM {rk : Nat → List Value → IH → T (Value × IH)} {l : Nat} {args : List Value} {H : IH} : step1T (rkRun rk) nat (some (.round l args H)) = ((rk l args H).bind fun r => (.ret ⟨.normal, [r.1], r.2⟩ : T Out)).bind callOut := rfl
theorem yN {p : Value × IH → Prop} : (((T.sp p .ret : T (Value × IH)).bind fun r => (.ret ⟨.normal, [r.1], r.2⟩ : T Out)).bind callOut) = .sp p .ret := rfl

open Classical in
/-- what rounds of one loop do -/
noncomputable def rkOf {α : Type} (l0 : Nat) (pre : α → List Value → IH → Prop) (post : α → IH → Value → IH → Prop) : Nat → List Value → IH → T (Value × IH) := fun l args H => if l = l0 then ofS pre post args H else .fail
theorem rkOf_eq {α : Type} {l0 : Nat} {pre : α → List Value → IH → Prop} {post : α → IH → Value → IH → Prop} (uniq : ∀ x y args H, pre x args H → pre y args H → x = y) {x : α} {args : List Value} {H : IH} (hx : pre x args H) :
    rkOf l0 pre post l0 args H = .sp (fun r => post x H r.1 r.2) .ret := by
  unfold rkOf; rw [if_pos rfl]; exact ofS_eq uniq hx
theorem rkOf_spec {α : Type} {l0 : Nat} {pre : α → List Value → IH → Prop} {post : α → IH → Value → IH → Prop} (h : ∀ x args H, pre x args H → RoundI P G l0 args H fun r => post x H r.1 r.2) : RkSpec P G (rkOf l0 pre post) := by
  intro l args H Q hq
  unfold rkOf at hq
  split at hq
  · rename_i hl
    subst hl
    unfold ofS at hq
    split at hq
    · rename_i he
      exact (h _ args H (Classical.choose_spec he)).mono fun r hr => hq r hr
    · exact hq.elim
  · exact hq.elim

theorem roundI_of {l : Nat} {args : List Value} {H : IH} {Q : Value × IH → Prop} {lp : Loop} (hg : H.get l = some (.loop lp)) (hst : lp.state = .ready) (hlen : args.length = lp.params.size)
    (hb : Holds P G true lp.assign ((lp.params.toList.zip args).foldl (fun e p => setR e p.1 p.2) lp.tmps.toList) H fun o => o.e = .normal ∧ ∃ lp1, o.H.get l = some (.loop lp1) ∧ lp1.state = .ready ∧
      Holds P G true lp.body o.env (o.H.put l (.loop { lp1 with state := .busy })) fun s => ∃ lp2, s.H.get l = some (.loop lp2) ∧
        Q (.bool (jumpOf s.e).isNone, s.H.put l (.loop { lp2 with state := if (jumpOf s.e).isNone then .ready else .done, pending := jumpOf s.e }))) : RoundI P G l args H Q := by
  intro args' f w e hR hG he ha
  obtain ⟨hro, lp', h1, g1, g2, g3, g4, g5, g6, g7, g8, g9, g10⟩ := loop_obj hR he hg
  refine ⟨lp'.fn, _, lp'.assign, lp'.body, run_yield h1 (by rw [g3, ← hlen, ha.1]; simp), ?_⟩
  have henv : VRelL P f ((lp.params.toList.zip args).foldl (fun e p => setR e p.1 p.2) lp.tmps.toList) ((lp'.params.zip args'.toArray).foldl (fun tmps (t, a) => tmps.setIfInBounds t a) lp'.tmps).toList := by
    rw [← Array.foldl_toList, Array.toList_zip]
    have := fold_arr (lp'.params.toList.zip args') lp'.tmps
    simp only [] at this ⊢
    rw [this, g3]
    exact fold_set lp.params.toList args args' _ _ ha g6
  refine roundIn_of_wpIn (F := Fence.wide) trivial ?_
  rw [g4, g5]
  refine wpIn_mono (hb w.heap.size (Fence.wide.inRound e.r) f _ w (free_round _) rfl hR hG henv (Nat.le_refl _)) ?_
  rintro ex a1 w1 ⟨o, f1, ⟨heo, lp1, hg1, hst1, hq⟩, rfl, k1, k2, k3, k4⟩
  rw [heo]
  have he1 := k2.le _ _ he
  obtain ⟨_, lp1', q1, q2, q3, q4, q5, q6, q7, q8, q9, q10, q11⟩ := loop_obj k1 he1 hg1
  refine ⟨_, run_beginRound q1 (by rw [q2, hst1]), ?_⟩
  obtain ⟨p1, p2⟩ := put_loop .busy lp1.pending q10 k1 he1 hg1 q1
  have e1 : ({ lp1' with state := .busy, pending := lp1.pending } : Loop) = { lp1' with state := .busy } := by rw [← q3]
  have e2 : ({ lp1 with state := .busy, pending := lp1.pending } : Loop) = { lp1 with state := .busy } := rfl
  rw [e1, e2] at p1
  rw [e1] at p2
  have hG1 := hG.mono k2.le
  refine wpIn_mono (hq w.heap.size (Fence.wide.inRound e.r) f1 a1 _ (free_round _) rfl p1 hG1 k3 (Marks.grow p2 _ k4)) ?_
  rintro ex2 a2 w2 ⟨s, f2, ⟨lp2, hg2, hs⟩, rfl, s1, s2, s3, s4⟩
  have he2 := s2.le _ _ he1
  obtain ⟨_, lp2', t1, t2, t3, t4, t5, t6, t7, t8, t9, t10, t11⟩ := loop_obj s1 he2 hg2
  have hjump : ∀ c, jumpOf s.e = some c → isJump c = true := by
    intro c hc
    cases hse : s.e <;> rw [hse] at hc <;> simp [jumpOf] at hc <;> subst hc <;> rfl
  obtain ⟨u1, u2⟩ := put_loop (if (jumpOf s.e).isNone then .ready else .done) (jumpOf s.e) hjump s1 he2 hg2 t1
  have fin : ∃ v w', (Instr.endRound e.r (jumpOf s.e)).run P w2 = .ok v w' ∧ Comes P f H w Q (.returned v) w' :=
    ⟨_, _, run_endRound (jumpOf s.e) t1, ⟨_, _, f2, rfl, hs, u1, ((k2.trans p2).trans s2).trans u2, .base _ rfl⟩⟩
  cases hse : s.e with
  | normal => rw [hse] at fin; exact fin
  | ret => rw [hse] at fin; exact fin
  | exit id => rw [hse] at fin; exact fin
  | goto t => rw [hse] at fin; exact fin

/-- a range over a function, by the call's contract -/
theorem Setup.rangeF (s : Setup P good nat G) {v : Operand} {ps : Array Tmp} {x y : Code} {env : Env} {H : IH} {Q : Out → Prop} {g : FuncId} {first captured : Array Value} {Qc : Value × IH → Prop} (hv : opdOk G v = true) (hx : codeOk G true x = true) (hy : codeOk G true y = true)
    (hval : env.val v = .func (.func g) first captured) (hent : entered P g = true)
    (hcall : CallI P G g (appR first.toList (.func (.yield H.size) #[] #[] :: captured.toList)) (H.push (.loop { state := .ready, pending := none, fn := 0, tmps := env.toArray, params := ps, assign := x, body := y, defers := 0 })) Qc)
    (hq : ∀ r, Qc r → (afterRange (iex P good nat 2) H.size env r).holds Q) : Holds P G false (.rangeFunc v ps x y) env H Q := by
  classical
  intro B F f a w hF hr hR hG henv hm
  let L : List Value := appR first.toList (.func (.yield H.size) #[] #[] :: captured.toList)
  let HL : IH := H.push (.loop { state := .ready, pending := none, fn := 0, tmps := env.toArray, params := ps, assign := x, body := y, defers := 0 })
  let nat1 : Nats := fun g1 => if g1 = g then some (fun args H1 => if args = L ∧ H1 = HL then .sp Qc .ret else .fail) else none
  have hs1 : NatSpec P G nat1 := by
    intro g1 k hk args args' H1 f1 w1 Q1 hR1 hG1 ha1 hq1
    simp only [nat1] at hk
    split at hk
    · rename_i hg1
      subst hg1
      cases hk
      change T.holds Q1 (if args = L ∧ H1 = HL then T.sp Qc T.ret else T.fail) at hq1
      split at hq1
      · rename_i hc
        obtain ⟨rfl, rfl⟩ := hc
        exact (hcall.mono fun r hr => hq1 r hr) args' f1 w1 hR1 hG1 ha1
      · exact hq1.elim
    · cases hk
  let run1 : Job → IH → T Out := fun j H => match j with
    | .code c env => iex P good nat 2 (.code c env) H
    | _ => .fail
  have hrun0 : CodeSpec P G (iex P good nat 2) := (sound_all s.ext s.spec s.good (fun _ _ hc hr => draw_sound s.mix hc hr) 2).1
  have hrun : CodeSpec P G run1 := hrun0
  have hc : CallSpec P G (enterT run1 nat1) := by
    intro g1 args args' H1 f1 w1 Q1 hR1 hG1 ha1 hq1
    unfold enterT at hq1
    split at hq1
    · rename_i k hk; exact hs1 g1 k hk args args' H1 f1 w1 Q1 hR1 hG1 ha1 hq1
    · exact hq1.elim
  have hr' : F.round = none := by
    cases h : F.round with
    | none => rfl
    | some l => rw [h] at hr; cases hr
  refine range_sound hc hrun hF hr' hR hG (opdOk_mono hG hv) (codeOk_mono hG _ _ hx) (codeOk_mono hG _ _ hy) henv hm ?_
  unfold rangeStep
  rw [hval]
  simp only [hent, cond_true]
  unfold enterT
  simp only [nat1, if_true, L, HL, and_self]
  exact fun r hr => hq r hr
end Go.Idl

namespace Go.Idl
variable {P : Program}

noncomputable def infoOk (P : Program) (el : TypeId) : Bool := match P.info? el with
  | some info => info.size == 1 && decide (info.bytes ≤ 64) && ((zeroT P el).map (·.cells.size)) == some info.size
  | none => false
/-- a slice type whose elements have one cell -/
structure El (P : Program) (st el : TypeId) : Prop where
  und : P.underlying st = some (.slice el)
  sz : szT P el = some 1
  ag : aggT P el = some false
  ok : infoOk P el = true
theorem El.info {P : Program} {st el : TypeId} (h : El P st el) : ∃ info, P.info? el = some info ∧ info.size = 1 ∧ info.bytes ≤ 64 ∧ ((zeroT P el).map (·.cells.size)) = some info.size := by
  have := h.ok
  unfold infoOk at this
  split at this
  · rename_i info hi
    simp only [Bool.and_eq_true, beq_iff_eq, decide_eq_true_eq] at this
    exact ⟨info, hi, this.1.1, this.1.2, this.2⟩
  · cases this

/-- a list that was made by appending: the whole of its block -/
def Grown (H : IH) (el : TypeId) (lo : Nat) (v : Value) (vs : List Value) : Prop :=
  (vs = [] ∧ v = .slice none 0 0) ∨ ∃ b, lo ≤ b ∧ b < H.size ∧ v = .slice (some ⟨b, 0, some el⟩) vs.length vs.length ∧ H.get b = some (.cells vs.toArray el roomFz)
/-- the block of a list -/
def blkIs : Value → Nat → Prop
  | .slice (some a) _ _, b => a.block = b
  | _, _ => False
theorem Grown.nil (H : IH) (el : TypeId) (lo : Nat) : Grown H el lo (.slice none 0 0) [] := .inl ⟨rfl, rfl⟩
theorem Grown.len {H : IH} {el : TypeId} {lo : Nat} {v : Value} {vs : List Value} (h : Grown H el lo v vs) : ∃ a, v = .slice a vs.length vs.length := by
  rcases h with ⟨rfl, rfl⟩ | ⟨b, _, _, rfl, _⟩
  · exact ⟨none, rfl⟩
  · exact ⟨_, rfl⟩
theorem Grown.keep {H H' : IH} {el : TypeId} {lo : Nat} {v : Value} {vs : List Value} (h : Grown H el lo v vs) (hs : H.size ≤ H'.size) (hk : ∀ b, lo ≤ b → b < H.size → blkIs v b → H'.get b = H.get b) : Grown H' el lo v vs := by
  rcases h with ⟨rfl, rfl⟩ | ⟨b, h1, h2, rfl, h3⟩
  · exact .nil _ _ _
  · exact .inr ⟨b, h1, Nat.lt_of_lt_of_le h2 hs, rfl, (hk b h1 h2 rfl).trans h3⟩
theorem Grown.lower {H : IH} {el : TypeId} {lo lo' : Nat} {v : Value} {vs : List Value} (h : Grown H el lo v vs) (hl : lo' ≤ lo) : Grown H el lo' v vs := by
  rcases h with ⟨rfl, rfl⟩ | ⟨b, h1, h2, rfl, h3⟩
  · exact .nil _ _ _
  · exact .inr ⟨b, Nat.le_trans hl h1, h2, rfl, h3⟩

theorem loads_all {H : IH} {b : Nat} {vs : List Value} {el : TypeId} {fz : Nat × Nat} (h : H.get b = some (.cells vs.toArray el fz)) : H.loads b 0 vs.length = some vs := by
  unfold IH.loads
  rw [h]
  simp
theorem oneCell_all {vs : List Value} (h : ∀ v ∈ vs, oneCell v = true) : vs.all oneCell = true := List.all_eq_true.2 h

theorem get_push2 {H : IH} {o o' : Obj} {b : Nat} (hb : b < H.size) : ((H.push o).push o').get b = H.get b := by
  rw [IH.get_push, IH.get_push, if_neg (by simp only [IH.size_push]; omega), if_neg (by omega)]
theorem get_push_lt {H : IH} {o : Obj} {b : Nat} (hb : b < H.size) : (H.push o).get b = H.get b := by rw [IH.get_push, if_neg (by omega)]
theorem get_push_eq {H : IH} {o : Obj} : (H.push o).get H.size = some o := by rw [IH.get_push, if_pos rfl]
theorem get_put_ne {H : IH} {o : Obj} {b x : Nat} (h : x ≠ b) : (H.put b o).get x = H.get x := by rw [IH.get_put, if_neg h]
theorem get_put_eq {H : IH} {o : Obj} {b : Nat} : (H.put b o).get b = some o := by rw [IH.get_put, if_pos rfl]

/-- one element more -/
theorem Grown.app {st el : TypeId} (he : El P st el) {H : IH} {lo : Nat} {v x : Value} {vs : List Value} (h : Grown H el lo v vs) (hx : oneCell x = true) (hall : vs.all oneCell = true) (hn : vs.length < 65536) (hb : H.base ≤ lo) (hlo : lo ≤ H.size) :
    ∃ v' H', iappend P #[st, st] [v, .slice (some ⟨H.size, 0, none⟩) 1 1] (H.push (.cells #[x] el)) = some (.val v' H') ∧ Grown H' el lo v' (vs ++ [x]) ∧ H'.size = H.size + 2 ∧ H'.base = H.base ∧
      (∀ b, b < H.size → ¬ blkIs v b → H'.get b = H.get b) ∧ ∀ b, blkIs v' b → H.size ≤ b := by
  obtain ⟨info, hi, hsz, hby, hz⟩ := he.info
  have hx1 : (List.all [x] oneCell) = true := by simp [hx]
  have hnews : inews P el info (.slice el) (.slice (some ⟨H.size, 0, none⟩) 1 1) (H.push (.cells #[x] el)) = some (1, [x]) := by
    unfold inews
    simp only [lenOfI, strOk, cond_true, firstI, hsz, IH.loads, IH.get_push, if_true]
    simp
  have hc : ∀ n, n < 65536 → (n + 1 ≤ 2 ^ 40 && (n + 1) * info.bytes ≤ 2 ^ 45 && [x].all oneCell && ((zeroT P el).map (·.cells.size)) == some info.size) = true := by
    intro n hn
    simp only [hz, beq_self_eq_true, Bool.and_true, hx1, Bool.and_eq_true, decide_eq_true_eq]
    refine ⟨by omega, ?_⟩
    have : (n + 1) * info.bytes ≤ 65536 * 64 := Nat.mul_le_mul (by omega) hby
    omega
  rcases h with ⟨rfl, rfl⟩ | ⟨b, h1, h2, rfl, h3⟩
  · refine ⟨.slice (some ⟨H.size + 1, 0, some el⟩) 1 1, (H.push (.cells #[x] el)).push (.cells #[x] el roomFz), ?_, .inr ⟨H.size + 1, by omega, by simp, by simp, ?_⟩, by simp, rfl, fun b hb' _ => get_push2 hb', ?_⟩
    · unfold iappend
      simp only [he.und, hi, hnews, iappend2]
      rw [if_neg (by omega)]
      unfold igrow
      rw [if_pos (hc 0 (by omega))]
      simp [firstI, ikill]
    · have := get_push_eq (H := H.push (.cells #[x] el)) (o := .cells #[x] el roomFz)
      simpa using this
    · intro b hb'
      have : H.size + 1 = b := hb'
      omega
  · have hne : b ≠ (H.push (.cells #[x] el)).size := by simp; omega
    have hg : (H.push (.cells #[x] el)).get b = some (.cells vs.toArray el roomFz) := by rw [get_push_lt h2]; exact h3
    have hold : (H.push (.cells #[x] el)).loads b 0 (vs.length * info.size) = some vs := by rw [hsz, Nat.mul_one]; exact loads_all hg
    refine ⟨.slice (some ⟨H.size + 1, 0, some el⟩) (vs.length + 1) (vs.length + 1), ((H.push (.cells #[x] el)).put b deadObj).push (.cells (vs ++ [x]).toArray el roomFz), ?_, .inr ⟨H.size + 1, by omega, ?_, by simp, ?_⟩, ?_, rfl, ?_, ?_⟩
    · unfold iappend
      simp only [he.und, hi, hnews, iappend2]
      rw [if_neg (by omega)]
      unfold igrow
      rw [if_pos (hc vs.length hn)]
      have hk : ikill el (H.push (.cells #[x] el)) (some ⟨b, 0, some el⟩) = some ((H.push (.cells #[x] el)).put b deadObj) := by
        unfold ikill
        simp only [hg]
        rw [if_pos]
        have hfree : freeFz roomFz = true := rfl
        have hbb : (H.push (.cells #[x] el)).base ≤ b := Nat.le_trans hb h1
        simp [hfree, hbb]
      simp only [firstI, hold, hk]
      rfl
    · show H.size + 1 < (H.size + 1) + 1
      omega
    · have := get_push_eq (H := (H.push (.cells #[x] el)).put b deadObj) (o := .cells (vs ++ [x]).toArray el roomFz)
      exact this
    · rfl
    · intro b' hb' hnb
      have hne' : b' ≠ b := fun h => hnb h.symm
      have e1 : (((H.push (.cells #[x] el)).put b deadObj).push (.cells (vs ++ [x]).toArray el roomFz)).get b' = ((H.push (.cells #[x] el)).put b deadObj).get b' := get_push_lt (by show b' < H.size + 1; omega)
      rw [e1, get_put_ne hne', get_push_lt hb']
    · intro b' hb'
      have : H.size + 1 = b' := hb'
      omega

/-! ### Rows of integers -/
/-- a list of integers that lies in a block of its own -/
def RowAt (H : IH) (el : TypeId) (lo hi : Nat) (v : Value) (zs : List Int) : Prop :=
  (zs = [] ∧ v = .slice none 0 0) ∨ ∃ b sp cap fz, lo ≤ b ∧ b < hi ∧ b < H.size ∧ v = .slice (some ⟨b, 0, sp⟩) zs.length cap ∧ H.get b = some (.cells (zs.map (Value.int .i64)).toArray el fz)
theorem Grown.row {H : IH} {el : TypeId} {lo : Nat} {v : Value} {zs : List Int} (h : Grown H el lo v (zs.map (Value.int .i64))) : RowAt H el lo H.size v zs := by
  rcases h with ⟨h1, rfl⟩ | ⟨b, h1, h2, rfl, h3⟩
  · exact .inl ⟨by simpa using h1, rfl⟩
  · exact .inr ⟨b, some el, _, roomFz, h1, h2, h2, by rw [List.length_map], h3⟩
theorem RowAt.keep {H H' : IH} {el : TypeId} {lo hi : Nat} {v : Value} {zs : List Int} (h : RowAt H el lo hi v zs) (hs : H.size ≤ H'.size) (hk : ∀ b c fz, lo ≤ b → b < hi → b < H.size → H.get b = some (.cells c el fz) → blkIs v b → H'.get b = H.get b) : RowAt H' el lo hi v zs := by
  rcases h with ⟨rfl, rfl⟩ | ⟨b, sp, cap, fz, h1, hh, h2, rfl, h3⟩
  · exact .inl ⟨rfl, rfl⟩
  · exact .inr ⟨b, sp, cap, fz, h1, hh, Nat.lt_of_lt_of_le h2 hs, rfl, (hk b _ _ h1 hh h2 h3 rfl).trans h3⟩
theorem RowAt.lower {H : IH} {el : TypeId} {lo lo' hi hi' : Nat} {v : Value} {zs : List Int} (h : RowAt H el lo hi v zs) (hl : lo' ≤ lo) (hr : hi ≤ hi') : RowAt H el lo' hi' v zs := by
  rcases h with ⟨rfl, rfl⟩ | ⟨b, sp, cap, fz, h1, hh, h2, rfl, h3⟩
  · exact .inl ⟨rfl, rfl⟩
  · exact .inr ⟨b, sp, cap, fz, Nat.le_trans hl h1, Nat.lt_of_lt_of_le hh hr, h2, rfl, h3⟩
theorem RowAt.ints {H : IH} {el : TypeId} {lo hi : Nat} {v : Value} {zs : List Int} (h : RowAt H el lo hi v zs) (hn : zs.length ≤ 1000) : intsOf H v = some zs := by
  rcases h with ⟨rfl, rfl⟩ | ⟨b, sp, cap, fz, h1, hh, h2, rfl, h3⟩
  · rfl
  · unfold intsOf
    simp only
    rw [if_pos ⟨hn, h2⟩]
    have key : ∀ (n o : Nat) (ys : List Int), zs.drop o = ys → ys.length = n → intsAt H b o n = some ys := by
      intro n
      induction n with
      | zero => intro o ys _ hl; have : ys = [] := List.length_eq_zero_iff.1 hl; subst this; rfl
      | succ n ih =>
        intro o ys hd hl
        cases ys with
        | nil => simp at hl
        | cons y ys =>
          have hy : zs[o]? = some y := by
            have := congrArg (fun l => l[0]?) hd
            simpa using this
          have hload : H.load b o = some (.int .i64 y) := by
            unfold IH.load
            rw [h3]
            simp [hy]
          unfold intsAt
          rw [hload]
          simp only
          have hd' : zs.drop (o + 1) = ys := by
            have := congrArg (List.drop 1) hd
            simpa [List.drop_drop] using this
          rw [ih (o + 1) ys hd' (by simpa using hl)]
          rfl
    exact key zs.length 0 zs (by simp) rfl
/-- a list of such rows -/
def IRows (H : IH) (el : TypeId) (lo hi : Nat) (rows : List Value) (zss : List (List Int)) : Prop := rows.length = zss.length ∧ ∀ (i : Nat) r zs, rows[i]? = some r → zss[i]? = some zs → RowAt H el lo hi r zs
theorem IRows.nil (H : IH) (el : TypeId) (lo hi : Nat) : IRows H el lo hi [] [] := ⟨rfl, fun i r zs h => by simp at h⟩
theorem IRows.keep {H H' : IH} {el : TypeId} {lo hi : Nat} {rows : List Value} {zss : List (List Int)} (h : IRows H el lo hi rows zss) (hs : H.size ≤ H'.size) (hk : ∀ b c fz, lo ≤ b → b < hi → b < H.size → H.get b = some (.cells c el fz) → H'.get b = H.get b) : IRows H' el lo hi rows zss :=
  ⟨h.1, fun i r zs h1 h2 => (h.2 i r zs h1 h2).keep hs fun b c fz q1 q2 q3 q4 _ => hk b c fz q1 q2 q3 q4⟩
theorem IRows.snoc {H : IH} {el : TypeId} {lo hi : Nat} {rows : List Value} {zss : List (List Int)} {r : Value} {zs : List Int} (h : IRows H el lo hi rows zss) (hr : RowAt H el lo hi r zs) : IRows H el lo hi (rows ++ [r]) (zss ++ [zs]) := by
  refine ⟨by simp [h.1], fun i r' zs' h1 h2 => ?_⟩
  by_cases hi : i < rows.length
  · rw [List.getElem?_append_left hi] at h1
    rw [List.getElem?_append_left (by rw [← h.1]; exact hi)] at h2
    exact h.2 i r' zs' h1 h2
  · rw [List.getElem?_append_right (by omega)] at h1
    rw [List.getElem?_append_right (by rw [← h.1]; omega), ← h.1] at h2
    cases hj : i - rows.length with
    | zero => rw [hj] at h1 h2; simp at h1 h2; subst h1 h2; exact hr
    | succ j => rw [hj] at h1; simp at h1
theorem IRows.lower {H : IH} {el : TypeId} {lo lo' hi hi' : Nat} {rows : List Value} {zss : List (List Int)} (h : IRows H el lo hi rows zss) (hl : lo' ≤ lo) (hh : hi ≤ hi') : IRows H el lo' hi' rows zss :=
  ⟨h.1, fun i r zs h1 h2 => (h.2 i r zs h1 h2).lower hl hh⟩
/-- a new list of rows, and what it holds -/
theorem pic_of {H : IH} {el el2 : TypeId} {lo lo2 hi : Nat} {v : Value} {rows : List Value} {zss : List (List Int)} (hv : Grown H el2 lo2 v rows) (hr : IRows H el lo hi rows zss) (h1 : zss.length ≤ 1000) (h2 : ∀ zs ∈ zss, zs.length ≤ 1000) : ∃ rs, picOf H v = some rs ∧ rs.map (·.2) = zss := by
  obtain ⟨hl, hr⟩ := hr
  refine ⟨rows.zip zss, ?_, by rw [List.map_snd_zip (by omega)]⟩
  rcases hv with ⟨rfl, rfl⟩ | ⟨b, q1, q2, rfl, q3⟩
  · rfl
  · unfold picOf
    simp only
    rw [if_pos ⟨by omega, q2⟩]
    have key : ∀ (n o : Nat) (ys : List (Value × List Int)), (rows.zip zss).drop o = ys → ys.length = n → rowsAt H b o n = some ys := by
      intro n
      induction n with
      | zero => intro o ys _ hl; have : ys = [] := List.length_eq_zero_iff.1 hl; subst this; rfl
      | succ n ih =>
        intro o ys hd hl'
        cases ys with
        | nil => simp at hl'
        | cons y ys =>
          have hy : (rows.zip zss)[o]? = some y := by
            have := congrArg (fun l => l[0]?) hd
            simpa using this
          obtain ⟨ho, _⟩ := List.getElem?_eq_some_iff.1 hy
          rw [List.length_zip] at ho
          have hy1 : rows[o]? = some y.1 ∧ zss[o]? = some y.2 := by
            rw [List.getElem?_zip_eq_some] at hy
            exact hy
          have hload : H.load b o = some y.1 := by
            unfold IH.load
            rw [q3]
            simp [hy1.1]
          unfold rowsAt
          rw [hload]
          simp only
          have hz := (hr o y.1 y.2 hy1.1 hy1.2).ints (h2 _ (List.mem_of_getElem? hy1.2))
          rw [hz]
          simp only
          have hd' : (rows.zip zss).drop (o + 1) = ys := by
            have := congrArg (List.drop 1) hd
            simpa [List.drop_drop] using this
          rw [ih (o + 1) ys hd' (by simpa using hl')]
          rfl
    have hlen : (rows.zip zss).length = rows.length := by rw [List.length_zip]; omega
    exact key rows.length 0 (rows.zip zss) (by simp) hlen

/-! ### One cell of a list of integers -/
theorem load_row {H : IH} {b : Nat} {zs : List Int} {el : TypeId} {fz : Nat × Nat} {i : Nat} {z : Int} (h : H.get b = some (.cells (zs.map (Value.int .i64)).toArray el fz)) (hz : zs[i]? = some z) : H.load b i = some (.int .i64 z) := by
  unfold IH.load
  rw [h]
  simp [hz]
theorem store_row {t : TypeId} (ht : szT P t = some 1) {H : IH} {b : Nat} {zs : List Int} {el : TypeId} {fz : Nat × Nat} {i : Nat} {z : Int} (h : H.get b = some (.cells (zs.map (Value.int .i64)).toArray el fz)) (hi : i < zs.length) (hf : freeFz fz = true) (hb : H.base ≤ b) :
    istoreAt P t (.pointer (some ⟨b, i, none⟩)) (.int .i64 z) H = some (H.put b (.cells ((zs.set i z).map (Value.int .i64)).toArray el fz)) := by
  unfold istoreAt
  have e1 : (Value.int IntKind.i64 z).cells = #[Value.int .i64 z] := rfl
  simp only [ht, e1]
  rw [if_pos (by rfl)]
  unfold IH.stores
  rw [h]
  simp only
  have hone : List.all [Value.int .i64 z] oneCell = true := rfl
  rw [if_pos]
  · congr 3
    apply Array.ext'
    show overwrite (zs.map (Value.int .i64)) i [Value.int .i64 z] = _
    unfold overwrite
    simp only [List.map_set, List.length_singleton]
    rw [List.set_eq_take_append_cons_drop, if_pos (by simpa using hi)]
    simp
  · simp [hf, hb, oneCell]; omega
theorem zeros_make {st el : TypeId} {k : IntKind} (hu : P.underlying st = some (.slice el)) {i : TypeInfo} (hi : P.info? el = some i) (hs : i.size = 1) (hby : i.bytes ≤ 64) (hz : zeroP P el = some (.int .i64 0)) {n : Nat} (hn : n ≤ 65536) {H : IH} :
    imakeSlice P st (.int k n) (.int k n) H = some (.val (.slice (some ⟨H.size, 0, none⟩) n n) (H.push (.cells ((List.replicate n (0 : Int)).map (Value.int .i64)).toArray el))) := by
  unfold imakeSlice
  simp only [hu, hi]
  have hc : (decide ((0 : Int) ≤ (n : Int)) && decide ((n : Int) ≤ (n : Int)) && decide ((i.bytes : Int) * (n : Int) ≤ 2 ^ 47) && decide ((n : Int) ≤ 2 ^ 47)) = true := by
    simp only [Bool.and_eq_true, decide_eq_true_eq]
    refine ⟨⟨⟨by omega, by omega⟩, ?_⟩, by omega⟩
    have h1 : i.bytes * n ≤ 64 * 65536 := Nat.mul_le_mul hby hn
    have h2 : (i.bytes : Int) * (n : Int) = ((i.bytes * n : Nat) : Int) := by simp
    rw [h2]; omega
  rw [if_pos hc]
  simp only [Int.toNat_natCast, hs, Nat.mul_one]
  have hr : zeroRow P el n = some ((List.replicate n (0 : Int)).map (Value.int .i64)).toArray := by
    unfold zeroRow
    by_cases h0 : n = 0
    · subst h0; rfl
    · rw [if_neg h0, hz]
      simp only [Option.map_some, Option.some.injEq]
      have e1 : (Value.int IntKind.i64 0).cells = #[Value.int .i64 0] := rfl
      rw [e1]
      apply Array.ext'
      apply List.ext_getElem?
      intro j
      by_cases hj : j < n
      · simp [hj, Nat.mod_one]
      · simp [hj]
  rw [hr]
end Go.Idl

namespace Go.Idl
variable {P : Program} {good : FuncId → Bool} {nat : Nats} {G : Nat → Bool} {rd : Bool}

/-- behind the first of two statements -/
abbrev ST (P : Program) (G : Nat → Bool) (rd : Bool) (y : Code) (Q : Out → Prop) (o : Out) : Prop :=
  match o.e with
  | .normal => Holds P G rd y o.env o.H Q
  | _ => Q o
/-- behind a block, and then a statement -/
def BT (P : Program) (G : Nat → Bool) (rd : Bool) (id : Nat) (y : Code) (Q : Out → Prop) (o : Out) : Prop :=
  match o.e with
  | .normal => Holds P G rd y o.env o.H Q
  | .exit id' => if id' = id then Holds P G rd y o.env o.H Q else Q o
  | _ => Q o
/-- a round of a loop -/
def LQ (I : Nat → Env → IH → Prop) (n : Nat) (id : Nat) (Q : Out → Prop) (o : Out) : Prop :=
  match o.e with
  | .normal => ∃ m env', m < n ∧ WkL o.env env' ∧ I m env' o.H
  | .exit id' => if id' = id then Q ⟨.normal, o.env, o.H⟩ else Q o
  | _ => Q o
theorem ST.go {y : Code} {Q : Out → Prop} {env : Env} {H : IH} (h : Holds P G rd y env H Q) : ST P G rd y Q ⟨.normal, env, H⟩ := h
theorem ST.rt {y : Code} {Q : Out → Prop} {env : Env} {H : IH} (h : Q ⟨.ret, env, H⟩) : ST P G rd y Q ⟨.ret, env, H⟩ := h
theorem ST.ex {y : Code} {Q : Out → Prop} {env : Env} {H : IH} {id : Nat} (h : Q ⟨.exit id, env, H⟩) : ST P G rd y Q ⟨.exit id, env, H⟩ := h
theorem BT.go {id : Nat} {y : Code} {Q : Out → Prop} {env : Env} {H : IH} (h : Holds P G rd y env H Q) : BT P G rd id y Q ⟨.normal, env, H⟩ := h
theorem BT.on {id : Nat} {y : Code} {Q : Out → Prop} {env : Env} {H : IH} (h : Holds P G rd y env H Q) : BT P G rd id y Q ⟨.exit id, env, H⟩ := by
  unfold BT; simp only [if_true]; exact h
theorem BT.rt {id : Nat} {y : Code} {Q : Out → Prop} {env : Env} {H : IH} (h : Q ⟨.ret, env, H⟩) : BT P G rd id y Q ⟨.ret, env, H⟩ := h
theorem BT.ex {id id' : Nat} {y : Code} {Q : Out → Prop} {env : Env} {H : IH} (hne : id' ≠ id) (h : Q ⟨.exit id', env, H⟩) : BT P G rd id y Q ⟨.exit id', env, H⟩ := by
  unfold BT; simp only [if_neg hne]; exact h
theorem BZ.go {id : Nat} {Q : Out → Prop} {env : Env} {H : IH} (h : Q ⟨.normal, env, H⟩) : blockQ id Q ⟨.normal, env, H⟩ := h
theorem BZ.rt {id : Nat} {Q : Out → Prop} {env : Env} {H : IH} (h : Q ⟨.ret, env, H⟩) : blockQ id Q ⟨.ret, env, H⟩ := h
theorem BZ.on {id : Nat} {Q : Out → Prop} {env : Env} {H : IH} (h : Q ⟨.normal, env, H⟩) : blockQ id Q ⟨.exit id, env, H⟩ := by
  unfold blockQ; simp only [if_true]; exact h
theorem LQ.go {I : Nat → Env → IH → Prop} {n id : Nat} {Q : Out → Prop} {env env' : Env} {H : IH} (m : Nat) (hm : m < n) (hw : WkL env env') (hi : I m env' H) : LQ I n id Q ⟨.normal, env, H⟩ := ⟨m, env', hm, hw, hi⟩
theorem LQ.brk {I : Nat → Env → IH → Prop} {n id : Nat} {Q : Out → Prop} {env : Env} {H : IH} (h : Q ⟨.normal, env, H⟩) : LQ I n id Q ⟨.exit id, env, H⟩ := by
  unfold LQ; simp only [if_true]; exact h
theorem LQ.ex {I : Nat → Env → IH → Prop} {n id id' : Nat} {Q : Out → Prop} {env : Env} {H : IH} (hne : id' ≠ id) (h : Q ⟨.exit id', env, H⟩) : LQ I n id Q ⟨.exit id', env, H⟩ := by
  unfold LQ; simp only [if_neg hne]; exact h
theorem LQ.rt {I : Nat → Env → IH → Prop} {n id : Nat} {Q : Out → Prop} {env : Env} {H : IH} (h : Q ⟨.ret, env, H⟩) : LQ I n id Q ⟨.ret, env, H⟩ := h

theorem Holds.seqW {x y : Code} {env : Env} {H : IH} {Q : Out → Prop} (hx : Holds P G rd x env H (ST P G rd y Q)) : Holds P G rd (.seq x y) env H Q :=
  .seqQ hx (fun o h he => by simp only [ST, he] at h; exact h) (fun o h he => by
    cases heo : o.e with
    | normal => exact absurd heo he
    | exit id => simp only [ST, heo] at h; exact h
    | goto l => simp only [ST, heo] at h; exact h
    | ret => simp only [ST, heo] at h; exact h)
theorem Holds.blockW {id : Nat} {x y : Code} {env : Env} {H : IH} {Q : Out → Prop} (hx : Holds P G rd x env H (BT P G rd id y Q)) : Holds P G rd (.seq (.block id x) y) env H Q := by
  refine .seqW (.block (hx.mono fun o h => ?_))
  unfold blockQ
  unfold BT at h
  cases heo : o.e with
  | normal => rw [heo] at h; simp only [ST, heo]; exact h
  | exit id' =>
    rw [heo] at h
    simp only at h ⊢
    by_cases hid : id' = id
    · rw [if_pos hid] at h ⊢; exact h
    · rw [if_neg hid] at h ⊢; simp only [ST, heo]; exact h
  | goto l => rw [heo] at h; simp only [ST, heo]; exact h
  | ret => rw [heo] at h; simp only [ST, heo]; exact h
theorem Holds.loopW {id : Nat} {x : Code} {env : Env} {H : IH} {Q : Out → Prop} (I : Nat → Env → IH → Prop) (n : Nat) (env0 : Env) (hw : WkL env env0) (h : I n env0 H) (hx : ∀ n env H, I n env H → Holds P G rd x env H (LQ I n id Q)) : Holds P G rd (.block id (.loop x)) env H Q := by
  refine .block (.loop (fun n e h => ∃ e', WkL e e' ∧ I n e' h) (n := n) (fun n env H ⟨e', hw', hi⟩ => .pre hw' ((hx n e' H hi).mono fun o ho => ?_)) ⟨env0, hw, h⟩)
  unfold LQ at ho
  unfold blockQ
  cases heo : o.e with
  | normal =>
    rw [heo] at ho
    obtain ⟨m, env', h2, h3, h4⟩ := ho
    exact ⟨m, h2, env', h3, h4⟩
  | exit id' => rw [heo] at ho; exact ho
  | goto l => rw [heo] at ho; exact ho
  | ret => rw [heo] at ho; exact ho

theorem Setup.headW (s : Setup P good nat G) {rid id : Nat} {ops : Array Oper} {v : Operand} {y : Code} {env env1 : Env} {H H1 : IH} {Q : Out → Prop} {I : Nat → Env → IH → Prop} {n : Nat} {ds : List (Option Tmp)} {t : Bool} (hok : opsOk G ops = true) (hds : ops.toList.map (·.dst) = ds)
    (h : iopsE P (iex P good nat 0) nat ds ops.toList env H = .ret (env1, H1)) (hokv : opdOk G v = true) (hv : env1.val v = .bool t)
    (hy : t = true → Holds P G rd y env1 H1 (LQ I n id Q)) (hx : t = false → Q ⟨.normal, env1, H1⟩) : Holds P G rd (.seq (.region rid ops false) (.seq (.cond v .skip (.exit id)) y)) env H (LQ I n id Q) :=
  s.head1 0 hok hds h hokv hv hy fun ht => .brk (hx ht)
theorem Setup.headW2 (s : Setup P good nat G) {rid id : Nat} {ops : Array Oper} {v : Operand} {y : Code} {env env1 : Env} {H H1 : IH} {Q : Out → Prop} {I : Nat → Env → IH → Prop} {n : Nat} {ds : List (Option Tmp)} {t : Bool} (hok : opsOk G ops = true) (hds : ops.toList.map (·.dst) = ds)
    (h : iopsE P (iex P good nat 0) nat ds ops.toList env H = .ret (env1, H1)) (hokv : opdOk G v = true) (hv : env1.val v = .bool t)
    (hy : t = true → Holds P G rd y env1 H1 (LQ I n id Q)) (hx : t = false → Q ⟨.normal, env1, H1⟩) : Holds P G rd (.seq (.seq (.region rid ops false) (.cond v .skip (.exit id))) y) env H (LQ I n id Q) :=
  s.head2 0 hok hds h hokv hv hy fun ht => .brk (hx ht)
/-- 'if c { x }' and then y -/
theorem Setup.ifW (s : Setup P good nat G) {rid : Nat} {ops : Array Oper} {v : Operand} {x x2 y : Code} {env env1 : Env} {H H1 : IH} {Q : Out → Prop} {ds : List (Option Tmp)} {t : Bool} (hok : opsOk G ops = true) (hds : ops.toList.map (·.dst) = ds)
    (h : iopsE P (iex P good nat 0) nat ds ops.toList env H = .ret (env1, H1)) (hokv : opdOk G v = true) (hv : env1.val v = .bool t)
    (hx : t = true → Holds P G rd x env1 H1 (ST P G rd y Q)) (hy : t = false → Holds P G rd x2 env1 H1 (ST P G rd y Q)) : Holds P G rd (.seq (.seq (.region rid ops false) (.cond v x x2)) y) env H Q :=
  .seqW (s.regE 0 hok hds h (.cond hokv hv hx hy))
theorem Setup.ifZ (s : Setup P good nat G) {rid : Nat} {ops : Array Oper} {v : Operand} {x x2 : Code} {env env1 : Env} {H H1 : IH} {Q : Out → Prop} {ds : List (Option Tmp)} {t : Bool} (hok : opsOk G ops = true) (hds : ops.toList.map (·.dst) = ds)
    (h : iopsE P (iex P good nat 0) nat ds ops.toList env H = .ret (env1, H1)) (hokv : opdOk G v = true) (hv : env1.val v = .bool t)
    (hx : t = true → Holds P G rd x env1 H1 Q) (hy : t = false → Holds P G rd x2 env1 H1 Q) : Holds P G rd (.seq (.region rid ops false) (.cond v x x2)) env H Q :=
  s.regE 0 hok hds h (.cond hokv hv hx hy)

/-- behind a branch that meets the other one again -/
def JT (J : Env → IH → Prop) (Q : Out → Prop) (o : Out) : Prop :=
  match o.e with
  | .normal => ∃ e', WkL o.env e' ∧ J e' o.H
  | _ => Q o
theorem JT.go {J : Env → IH → Prop} {Q : Out → Prop} {env env' : Env} {H : IH} (hw : WkL env env') (h : J env' H) : JT J Q ⟨.normal, env, H⟩ := ⟨env', hw, h⟩
theorem JT.rt {J : Env → IH → Prop} {Q : Out → Prop} {env : Env} {H : IH} (h : Q ⟨.ret, env, H⟩) : JT J Q ⟨.ret, env, H⟩ := h
theorem JT.ex {J : Env → IH → Prop} {Q : Out → Prop} {env : Env} {H : IH} {id : Nat} (h : Q ⟨.exit id, env, H⟩) : JT J Q ⟨.exit id, env, H⟩ := h
theorem Holds.seqJ {x y : Code} {env : Env} {H : IH} {Q : Out → Prop} (J : Env → IH → Prop) (hx : Holds P G rd x env H (JT J Q)) (hk : ∀ e h, J e h → Holds P G rd y e h Q) : Holds P G rd (.seq x y) env H Q :=
  .seqW (hx.mono fun o ho => by
    unfold JT at ho
    cases heo : o.e with
    | normal => rw [heo] at ho; obtain ⟨e', h1, h2⟩ := ho; simp only [ST, heo]; exact .pre h1 (hk e' o.H h2)
    | exit id => rw [heo] at ho; simp only [ST, heo]; exact ho
    | goto l => rw [heo] at ho; simp only [ST, heo]; exact ho
    | ret => rw [heo] at ho; simp only [ST, heo]; exact ho)
theorem Setup.ifJ (s : Setup P good nat G) (J : Env → IH → Prop) {rid : Nat} {ops : Array Oper} {v : Operand} {x x2 y : Code} {env env1 : Env} {H H1 : IH} {Q : Out → Prop} {ds : List (Option Tmp)} {t : Bool} (hok : opsOk G ops = true) (hds : ops.toList.map (·.dst) = ds)
    (h : iopsE P (iex P good nat 0) nat ds ops.toList env H = .ret (env1, H1)) (hokv : opdOk G v = true) (hv : env1.val v = .bool t)
    (hx : t = true → Holds P G rd x env1 H1 (JT J Q)) (hy : t = false → Holds P G rd x2 env1 H1 (JT J Q)) (hk : ∀ e h, J e h → Holds P G rd y e h Q) : Holds P G rd (.seq (.seq (.region rid ops false) (.cond v x x2)) y) env H Q :=
  .seqJ J (s.regE 0 hok hds h (.cond hokv hv hx hy)) hk

/-! ### Operations -/
theorem appC {o : Oper} {x y : Operand} {t u : TypeId} {env : Env} {H : IH} : icallOp P o ⟨.builtin .append, #[x, y], #[t, u]⟩ env H = (match iappend P #[t, u] [env.val x, env.val y] H with
    | some r => some r
    | none => idry P o env H) := rfl
theorem copyC {o : Oper} {x y : Operand} {t u : TypeId} {env : Env} {H : IH} : icallOp P o ⟨.builtin .copy, #[x, y], #[t, u]⟩ env H = (match icopy P #[t, u] [env.val x, env.val y] H with
    | some r => some r
    | none => idry P o env H) := rfl
theorem yA {H : IH} : skipO (some H) = some (.val undef H) := rfl
theorem addS_pure {g : FuncId} {α : Type} {pre : α → List Value → IH → Prop} {post : α → IH → Value → IH → Prop} (h : NatPure nat) : NatPure (addS nat g pre post) := by
  intro x y hx args H r hr
  unfold addS at hx
  cases hb : Nat.beq x g with
  | false => rw [hb] at hx; exact h x y hx args H r hr
  | true =>
    rw [hb] at hx
    cases hx
    unfold ofS at hr
    split at hr
    · cases hr
    · cases hr
theorem Old.of {H0 H H' : IH} (h : Old H0 H) (hs : H.size ≤ H'.size) (hb : H'.base = H.base) (hk : ∀ b, b < H0.size → H'.get b = H.get b) : Old H0 H' :=
  ⟨Nat.le_trans h.size hs, hb.trans h.base, fun b hb' => (hk b hb').trans (h.get b hb')⟩
theorem Grown.notOld {H : IH} {el : TypeId} {lo : Nat} {v : Value} {vs : List Value} (h : Grown H el lo v vs) {b : Nat} (hb : b < lo) : ¬ blkIs v b := by
  rcases h with ⟨rfl, rfl⟩ | ⟨b', h1, h2, rfl, h3⟩
  · exact fun h => h
  · intro h
    have : b' = b := h
    omega
end Go.Idl

namespace Go.Idl
variable {P : Program}

theorem read_int {st el : TypeId} (he : El P st el) {H : IH} {a : Option Addr} {n c : Nat} {zs : List Int} (hz : intsOf H (.slice a n c) = some zs) {i : Nat} {z : Int} (h : zs[i]? = some z) {k : IntKind} :
    ∃ p, iindexAt P st (.slice a n c) (.int k (i : Nat)) = some p ∧ iloadAt P el p H = some (.int .i64 z) := by
  obtain ⟨a', c', hsl, hlen, hget⟩ := intsOf_inv hz
  simp only [Value.slice.injEq] at hsl
  obtain ⟨rfl, rfl, rfl⟩ := hsl
  obtain ⟨b, o, sp, rfl, hl⟩ := hget i z h
  refine ⟨_, index_slice he.und he.sz (Int.natCast_nonneg i) (Int.ofNat_lt.2 (List.getElem?_eq_some_iff.1 h).1), ?_⟩
  simp only [Int.toNat_natCast]
  exact load_one he.ag hl
theorem Grown.read {st : TypeId} {el : TypeId} (he : El P st el) {H : IH} {lo : Nat} {v : Value} {vs : List Value} (h : Grown H el lo v vs) {i : Nat} {x : Value} (hi : vs[i]? = some x) {k : IntKind} :
    ∃ p, iindexAt P st v (.int k (i : Nat)) = some p ∧ iloadAt P el p H = some x := by
  have hlt := (List.getElem?_eq_some_iff.1 hi).1
  rcases h with ⟨rfl, rfl⟩ | ⟨b, h1, h2, rfl, h3⟩
  · simp at hlt
  · refine ⟨_, index_slice he.und he.sz (Int.natCast_nonneg i) (Int.ofNat_lt.2 hlt), ?_⟩
    simp only [Int.toNat_natCast]
    refine load_one he.ag ?_
    unfold IH.load
    rw [h3]
    simpa using hi
theorem Grown.write {st el : TypeId} (he : El P st el) {H : IH} {lo : Nat} {v : Value} {zs : List Int} (h : Grown H el lo v (zs.map (Value.int .i64))) {i : Nat} (hi : i < zs.length) (hb : H.base ≤ lo) (z : Int) {k : IntKind} :
    ∃ p H', iindexAt P st v (.int k (i : Nat)) = some p ∧ istoreAt P el p (.int .i64 z) H = some H' ∧ Grown H' el lo v ((zs.set i z).map (Value.int .i64)) ∧ H'.size = H.size ∧ H'.base = H.base ∧ ∀ b, ¬ blkIs v b → H'.get b = H.get b := by
  rcases h with ⟨h1, rfl⟩ | ⟨b, h1, h2, rfl, h3⟩
  · simp at h1; subst h1; simp at hi
  · have hlt : i < (zs.map (Value.int .i64)).length := by simpa using hi
    refine ⟨_, H.put b (.cells ((zs.set i z).map (Value.int .i64)).toArray el roomFz), index_slice he.und he.sz (Int.natCast_nonneg i) (Int.ofNat_lt.2 hlt), by simp only [Int.toNat_natCast, Nat.zero_add]; exact store_row he.sz h3 hi rfl (Nat.le_trans hb h1), .inr ⟨b, h1, h2, by simp, get_put_eq⟩, rfl, rfl, fun b' hb' => get_put_ne fun e => hb' e.symm⟩
theorem Grown.blk_lt {H : IH} {el : TypeId} {lo : Nat} {v : Value} {vs : List Value} (h : Grown H el lo v vs) {b : Nat} (hb : blkIs v b) : lo ≤ b ∧ b < H.size ∧ H.get b = some (.cells vs.toArray el roomFz) := by
  rcases h with ⟨rfl, rfl⟩ | ⟨b', h1, h2, rfl, h3⟩
  · exact hb.elim
  · have : b' = b := hb
    subst this
    exact ⟨h1, h2, h3⟩
/-- a list whose block is not of this element type stays -/
theorem IRows.keepEl {H H' : IH} {el el2 : TypeId} {lo hi lo2 : Nat} {rows : List Value} {zss : List (List Int)} {v : Value} {vs : List Value} (h : IRows H el lo hi rows zss) (hv : Grown H el2 lo2 v vs) (hne : el2 ≠ el) (hs : H.size ≤ H'.size) (hk : ∀ b, b < H.size → ¬ blkIs v b → H'.get b = H.get b) : IRows H' el lo hi rows zss :=
  h.keep hs fun b c fz _ _ q3 q4 => hk b q3 fun hb => by
    have := (hv.blk_lt hb).2.2
    rw [q4] at this
    simp at this
    exact hne this.2.1.symm
theorem Grown.get_cast {H : IH} {el : TypeId} {lo : Nat} {v : Value} {vs vs' : List Value} (h : Grown H el lo v vs) (e : vs = vs') : Grown H el lo v vs' := e ▸ h
theorem wrap_pred {k : Nat} (h1 : 1 ≤ k) (h2 : k ≤ 1000000) : IntKind.i64.wrap ((k : Int) - 1) = ((k - 1 : Nat) : Int) := by
  rw [wrap_id (by omega) (by omega)]; omega
end Go.Idl
namespace Go.Idl
variable {P : Program}
/-- two cells of a list, exchanged -/
theorem Grown.swap {st el : TypeId} (he : El P st el) {H : IH} {lo : Nat} {v : Value} {zs : List Int} (h : Grown H el lo v (zs.map (Value.int .i64))) {i j : Nat} {x y : Int} (hi : zs[i]? = some x) (hj : zs[j]? = some y) (hb : H.base ≤ lo) {k : IntKind} :
    ∃ p q H1 H2, iindexAt P st v (.int k (i : Nat)) = some p ∧ iindexAt P st v (.int k (j : Nat)) = some q ∧ iloadAt P el p H = some (.int .i64 x) ∧ iloadAt P el q H = some (.int .i64 y) ∧
      istoreAt P el p (.int .i64 y) H = some H1 ∧ istoreAt P el q (.int .i64 x) H1 = some H2 ∧ Grown H2 el lo v (((zs.set i y).set j x).map (Value.int .i64)) ∧ H2.size = H.size ∧ H2.base = H.base ∧ ∀ b, ¬ blkIs v b → H2.get b = H.get b := by
  obtain ⟨p, a1, a2⟩ := h.read he (i := i) (x := .int .i64 x) (by simp [hi]) (k := k)
  obtain ⟨q, b1, b2⟩ := h.read he (i := j) (x := .int .i64 y) (by simp [hj]) (k := k)
  obtain ⟨p', H1, c1, c2, c3, c4, c5, c6⟩ := h.write he (i := i) (List.getElem?_eq_some_iff.1 hi).1 hb y (k := k)
  obtain ⟨q', H2, d1, d2, d3, d4, d5, d6⟩ := c3.write he (i := j) (by simpa using (List.getElem?_eq_some_iff.1 hj).1) (by rw [c5]; exact hb) x (k := k)
  rw [a1] at c1; cases c1
  rw [b1] at d1; cases d1
  exact ⟨p, q, H1, H2, a1, b1, a2, b2, c2, d2, d3, d4.trans c4, d5.trans c5, fun b hb' => (d6 b hb').trans (c6 b hb')⟩
end Go.Idl
namespace Go.Idl
variable {P : Program} {good : FuncId → Bool} {nat : Nats} {G : Nat → Bool} {rd : Bool}
theorem IRows.one {H : IH} {el : TypeId} {lo hi : Nat} {rows : List Value} {zss : List (List Int)} (h : IRows H el lo hi rows zss) : rows.all oneCell = true := by
  rw [List.all_eq_true]
  intro r hr
  obtain ⟨i, hi'⟩ := List.mem_iff_getElem?.1 hr
  have hlt := (List.getElem?_eq_some_iff.1 hi').1
  have hz : zss[i]? = some (zss[i]'(by rw [← h.1]; exact hlt)) := List.getElem?_eq_getElem _
  rcases h.2 i r _ hi' hz with ⟨_, rfl⟩ | ⟨b, sp, cap, fz, _, _, _, rfl, _⟩ <;> rfl
/-- a drawn region at the end -/
theorem Setup.drawZ (s : Setup P good nat G) (hp : NatPure nat) (k : Nat) {id : Nat} {ops : Array Oper} {env env1 : Env} {H H1 : IH} {Q : Out → Prop} {ds : List (Option Tmp)} {lo : List (Nat × Nat × Nat)} (hok : opsOk G ops = true) (hd : drawOk ops = true)
    (ha : (ops.toList.all fun o => !isAlloc o) = true) (hc : ((ops.toList.take k).all calm) = true) (hlo : loose ops = lo) (hl : looseEarly lo k (cntE (ops.toList.take k)) = true)
    (hlen : lo.all (fun p => ((ops[p.1]?).bind (·.dst)).isSome) = true) (hds : ops.toList.map (·.dst) = ds)
    (h : iopsE P (iex P good nat 0) nat ds ops.toList env H = .ret (env1, H1)) (hs : (lo.all fun p => Nat.blt (dstOf ops p.1) env.length && simple (env1.at (dstOf ops p.1))) = true) (hq : Q ⟨.normal, env1, H1⟩) : Holds P G rd (.region id ops true) env H Q := by
  subst hds hlo
  have hs' : ∀ p ∈ loose ops, dstOf ops p.1 < env.length ∧ simple (env1.at (dstOf ops p.1)) = true := fun p hp' => by
    have := List.all_eq_true.1 hs p hp'
    simp only [Bool.and_eq_true] at this
    exact ⟨Nat.le_of_ble_eq_true this.1, this.2⟩
  have hi := idraw_of hp k hd ha hc hl (fun p hp' => ⟨(hs' p hp').1, List.all_eq_true.1 hlen p hp'⟩) (fun p hp' => (hs' p hp').2) h
  exact s.draw 0 hok hd hi hq
end Go.Idl
namespace Go.Idl
variable {P : Program}
theorem bin_mul {o : Oper} {t : TypeId} {k : IntKind} {a b : Int} {env : Env} {H : IH} : ibinOp P o .mul t (.int k a) (.int k b) env H = some (.val (.int k (k.wrap (a * b))) H) := bin_int rfl
theorem bin_quoN {o : Oper} {t : TypeId} {a b : Nat} {env : Env} {H : IH} (hb : 0 < b) (ha : a ≤ 9223372036854775807) : ibinOp P o .quo t (.int .i64 (a : Int)) (.int .i64 (b : Int)) env H = some (.val (.int .i64 ((a / b : Nat) : Int)) H) := by
  refine bin_int ?_
  unfold intBin
  simp only
  rw [if_neg (by omega)]
  have h1 : (a : Int).tdiv (b : Int) = ((a / b : Nat) : Int) := by rw [Int.tdiv_eq_ediv_of_nonneg (by omega)]; rfl
  have h2 : a / b ≤ a := Nat.div_le_self a b
  rw [h1]
  generalize a / b = q at h2
  rw [wrap_id (by omega) (by omega)]
theorem bin_remN {o : Oper} {t : TypeId} {a b : Nat} {env : Env} {H : IH} (hb : 0 < b) : ibinOp P o .rem t (.int .i64 (a : Int)) (.int .i64 (b : Int)) env H = some (.val (.int .i64 ((a % b : Nat) : Int)) H) := by
  refine bin_int ?_
  unfold intBin
  simp only
  rw [if_neg (by omega)]
  have h1 : (a : Int).tmod (b : Int) = ((a % b : Nat) : Int) := by rw [Int.tmod_eq_emod_of_nonneg (by omega)]; rfl
  rw [h1]
theorem read_row {st el : TypeId} (he : El P st el) {H : IH} {a : Option Addr} {n c : Nat} {rs : List (Value × List Int)} (hz : picOf H (.slice a n c) = some rs) {i : Nat} {r : Value × List Int} (h : rs[i]? = some r) {k : IntKind} :
    ∃ p, iindexAt P st (.slice a n c) (.int k (i : Nat)) = some p ∧ iloadAt P el p H = some r.1 ∧ intsOf H r.1 = some r.2 := by
  obtain ⟨a', c', hsl, hlen, hget⟩ := picOf_inv hz
  simp only [Value.slice.injEq] at hsl
  obtain ⟨rfl, rfl, rfl⟩ := hsl
  obtain ⟨⟨b, o, sp, rfl, _, hl⟩, h2⟩ := hget i r h
  refine ⟨_, index_slice he.und he.sz (Int.natCast_nonneg i) (Int.ofNat_lt.2 (List.getElem?_eq_some_iff.1 h).1), ?_, h2⟩
  simp only [Int.toNat_natCast]
  exact load_one he.ag hl
end Go.Idl

namespace Go.Idl
variable {P : Program}
def OwnAt (H : IH) (el : TypeId) (lo : Nat) (v : Value) (zs : List Int) : Prop :=
  ∃ b sp fz, lo ≤ b ∧ b < H.size ∧ v = .slice (some ⟨b, 0, sp⟩) zs.length zs.length ∧ H.get b = some (.cells (zs.map (Value.int .i64)).toArray el fz) ∧ freeFz fz = true
theorem OwnAt.row {H : IH} {el : TypeId} {lo : Nat} {v : Value} {zs : List Int} (h : OwnAt H el lo v zs) : RowAt H el lo H.size v zs := by
  obtain ⟨b, sp, fz, h1, h2, rfl, h3, _⟩ := h
  exact .inr ⟨b, sp, _, fz, h1, h2, h2, rfl, h3⟩
theorem OwnAt.ints {H : IH} {el : TypeId} {lo : Nat} {v : Value} {zs : List Int} (h : OwnAt H el lo v zs) (hn : zs.length ≤ 1000) : intsOf H v = some zs := h.row.ints hn
theorem OwnAt.keep {H H' : IH} {el : TypeId} {lo : Nat} {v : Value} {zs : List Int} (h : OwnAt H el lo v zs) (hs : H.size ≤ H'.size) (hk : ∀ b, lo ≤ b → b < H.size → blkIs v b → H'.get b = H.get b) : OwnAt H' el lo v zs := by
  obtain ⟨b, sp, fz, h1, h2, rfl, h3, h4⟩ := h
  exact ⟨b, sp, fz, h1, Nat.lt_of_lt_of_le h2 hs, rfl, (hk b h1 h2 rfl).trans h3, h4⟩
theorem OwnAt.lower {H : IH} {el : TypeId} {lo lo' : Nat} {v : Value} {zs : List Int} (h : OwnAt H el lo v zs) (hl : lo' ≤ lo) : OwnAt H el lo' v zs := by
  obtain ⟨b, sp, fz, h1, h2⟩ := h
  exact ⟨b, sp, fz, Nat.le_trans hl h1, h2⟩
theorem OwnAt.blk_lt {H : IH} {el : TypeId} {lo : Nat} {v : Value} {zs : List Int} (h : OwnAt H el lo v zs) {b : Nat} (hb : blkIs v b) : lo ≤ b ∧ b < H.size := by
  obtain ⟨b', sp, fz, h1, h2, rfl, h3, h4⟩ := h
  have : b' = b := hb
  subst this
  exact ⟨h1, h2⟩
theorem OwnAt.notOld {H : IH} {el : TypeId} {lo : Nat} {v : Value} {zs : List Int} (h : OwnAt H el lo v zs) {b : Nat} (hb : b < lo) : ¬ blkIs v b := fun h2 => by have := (h.blk_lt h2).1; omega
theorem OwnAt.len {H : IH} {el : TypeId} {lo : Nat} {v : Value} {zs : List Int} (h : OwnAt H el lo v zs) : ∃ a, v = .slice a zs.length zs.length := by
  obtain ⟨b', sp, fz, h1, h2, rfl, h3, h4⟩ := h
  exact ⟨_, rfl⟩
theorem OwnAt.cast {H : IH} {el : TypeId} {lo : Nat} {v : Value} {zs zs' : List Int} (h : OwnAt H el lo v zs) (e : zs = zs') : OwnAt H el lo v zs' := e ▸ h
theorem Grown.own {H : IH} {el : TypeId} {lo : Nat} {v : Value} {zs : List Int} (h : Grown H el lo v (zs.map (Value.int .i64))) (hne : zs ≠ []) : OwnAt H el lo v zs := by
  rcases h with ⟨h1, _⟩ | ⟨b, h1, h2, rfl, h3⟩
  · simp at h1; exact absurd h1 hne
  · exact ⟨b, some el, roomFz, h1, h2, by rw [List.length_map], h3, rfl⟩
theorem OwnAt.read {st el : TypeId} (he : El P st el) {H : IH} {lo : Nat} {v : Value} {zs : List Int} (h : OwnAt H el lo v zs) {i : Nat} {x : Int} (hi : zs[i]? = some x) {k : IntKind} :
    ∃ p, iindexAt P st v (.int k (i : Nat)) = some p ∧ iloadAt P el p H = some (.int .i64 x) := by
  obtain ⟨b, sp, fz, h1, h2, rfl, h3, h4⟩ := h
  refine ⟨_, index_slice he.und he.sz (Int.natCast_nonneg i) (Int.ofNat_lt.2 (List.getElem?_eq_some_iff.1 hi).1), ?_⟩
  simp only [Int.toNat_natCast, Nat.zero_add]
  exact load_one he.ag (load_row h3 hi)
theorem OwnAt.write {st el : TypeId} (he : El P st el) {H : IH} {lo : Nat} {v : Value} {zs : List Int} (h : OwnAt H el lo v zs) {i : Nat} (hi : i < zs.length) (hb : H.base ≤ lo) (z : Int) {k : IntKind} :
    ∃ p H', iindexAt P st v (.int k (i : Nat)) = some p ∧ istoreAt P el p (.int .i64 z) H = some H' ∧ OwnAt H' el lo v (zs.set i z) ∧ H'.size = H.size ∧ H'.base = H.base ∧ ∀ b, ¬ blkIs v b → H'.get b = H.get b := by
  obtain ⟨b, sp, fz, h1, h2, rfl, h3, h4⟩ := h
  refine ⟨_, H.put b (.cells ((zs.set i z).map (Value.int .i64)).toArray el fz), index_slice he.und he.sz (Int.natCast_nonneg i) (Int.ofNat_lt.2 hi), by simp only [Int.toNat_natCast, Nat.zero_add]; exact store_row he.sz h3 hi h4 (Nat.le_trans hb h1), ⟨b, sp, fz, h1, h2, by simp, get_put_eq, h4⟩, rfl, rfl, fun b' hb' => get_put_ne fun e => hb' e.symm⟩
theorem OwnAt.swap {st el : TypeId} (he : El P st el) {H : IH} {lo : Nat} {v : Value} {zs : List Int} (h : OwnAt H el lo v zs) {i j : Nat} {x y : Int} (hi : zs[i]? = some x) (hj : zs[j]? = some y) (hb : H.base ≤ lo) {k : IntKind} :
    ∃ p q H1 H2, iindexAt P st v (.int k (i : Nat)) = some p ∧ iindexAt P st v (.int k (j : Nat)) = some q ∧ iloadAt P el p H = some (.int .i64 x) ∧ iloadAt P el q H = some (.int .i64 y) ∧
      istoreAt P el p (.int .i64 y) H = some H1 ∧ istoreAt P el q (.int .i64 x) H1 = some H2 ∧ OwnAt H2 el lo v ((zs.set i y).set j x) ∧ H2.size = H.size ∧ H2.base = H.base ∧ ∀ b, ¬ blkIs v b → H2.get b = H.get b := by
  obtain ⟨p, a1, a2⟩ := h.read he hi (k := k)
  obtain ⟨q, b1, b2⟩ := h.read he hj (k := k)
  obtain ⟨p', H1, c1, c2, c3, c4, c5, c6⟩ := h.write he (i := i) (List.getElem?_eq_some_iff.1 hi).1 hb y (k := k)
  obtain ⟨q', H2, d1, d2, d3, d4, d5, d6⟩ := c3.write he (i := j) (by simpa using (List.getElem?_eq_some_iff.1 hj).1) (by rw [c5]; exact hb) x (k := k)
  rw [a1] at c1; cases c1
  rw [b1] at d1; cases d1
  exact ⟨p, q, H1, H2, a1, b1, a2, b2, c2, d2, d3, d4.trans c4, d5.trans c5, fun b hb' => (d6 b hb').trans (c6 b hb')⟩
/-- a new list of zeros -/
theorem OwnAt.zeros {H : IH} {el : TypeId} (n : Nat) : OwnAt (H.push (.cells ((List.replicate n (0 : Int)).map (Value.int .i64)).toArray el)) el H.size (.slice (some ⟨H.size, 0, none⟩) n n) (List.replicate n 0) :=
  ⟨H.size, none, _, Nat.le_refl _, by simp, by simp, get_push_eq, rfl⟩
end Go.Idl

namespace Go.Idl
variable {P : Program} {good : FuncId → Bool} {nat : Nats} {G : Nat → Bool} {rd : Bool}

/-- all that lies there lies there still -/
def Keeps (H H' : IH) : Prop := ∀ b o, H.get b = some o → H'.get b = some o
theorem Keeps.refl (H : IH) : Keeps H H := fun _ _ h => h
theorem Keeps.trans {H H1 H2 : IH} (a : Keeps H H1) (b : Keeps H1 H2) : Keeps H H2 := fun x o h => b x o (a x o h)
def WF (H : IH) : Prop := ∀ b, H.size ≤ b → H.get b = none
theorem WF.keeps {H : IH} (h : WF H) (o : Obj) : Keeps H (H.push o) := fun b o' hb => by
  rw [IH.get_push]
  split
  · rename_i e; subst e; rw [h _ (Nat.le_refl _)] at hb; cases hb
  · exact hb
theorem WF.push {H : IH} (h : WF H) (o : Obj) : WF (H.push o) := fun b hb => by
  simp only [IH.size_push] at hb
  rw [IH.get_push, if_neg (by omega)]
  exact h b (by omega)
theorem Holds.wf {c : Code} {env : Env} {H : IH} {Q : Out → Prop} (h : WF H → Holds P G rd c env H Q) : Holds P G rd c env H Q :=
  fun B F f a w hF hr hR hG henv hm => h hR.fresh B F f a w hF hr hR hG henv hm

def isNew (o : Oper) : Bool := match o.op with
  | .buildSlice .. => true
  | _ => false
def calmF (o : Oper) : Bool := calm o || isNew o
def isLoad (o : Oper) : Bool := match o.op with
  | .load .. => true
  | _ => false
theorem calm_new {o : Oper} (h : calm o = true) : isNew o = false := by
  unfold isNew
  split
  · rename_i heq
    unfold calm clsOf at h
    rw [heq] at h
    simp at h
  · rfl
theorem new_keep {o : Oper} {env : Env} {H : IH} {r : Value × IH} (hc : isNew o = true) (h : iop1 P (iex P good nat 0) nat o env H = .ret r) : ∃ ob, r.2 = H.push ob := by
  unfold isNew at hc
  split at hc
  · rename_i t len parts heq
    unfold iop1 at h
    have e1 : iop P o env H = ibuildSlice P t len (parts.toList.map fun p => (p.1, env.val p.2)) H := by unfold iop; rw [heq]
    rw [e1] at h
    unfold ibuildSlice at h
    split at h
    · split at h
      · split at h
        · split at h
          · split at h
            · cases h; exact ⟨_, rfl⟩
            · cases h
          · cases h
        · cases h
      · cases h
    · cases h
  · cases hc
theorem load_keeps {o : Oper} {env : Env} {H E : IH} {v : Value} (hl : isLoad o = true) (h : iop P o env H = some (.val v H)) (hk : Keeps H E) : iop P o env E = some (.val v E) := by
  unfold isLoad at hl
  split at hl
  · rename_i t a heq
    have e1 : ∀ X, iop P o env X = Step1.ofO X (iloadAt P t (env.val a) X) := fun X => by unfold iop; rw [heq]
    rw [e1] at h ⊢
    have key : iloadAt P t (env.val a) E = some v := by
      cases hi : iloadAt P t (env.val a) H with
      | none => rw [hi] at h; cases h
      | some u =>
        rw [hi] at h
        cases h
        unfold iloadAt at hi ⊢
        split at hi
        · split at hi
          · split at hi
            · split at hi
              · rename_i hlo
                cases hi
                unfold IH.loads at hlo ⊢
                split at hlo
                · rename_i c el fz hg
                  rw [hk _ _ hg]
                  simp only [hlo]
                · cases hlo
              · cases hi
            · cases hi
          · unfold IH.load at hi ⊢
            split at hi
            · rename_i c el fz hg
              rw [hk _ _ hg]
              exact hi
            · cases hi
          · cases hi
        · cases hi
    rw [key]; rfl
  · cases hl
def cntN (l : List Oper) : Nat := l.countP isNew
theorem cntN_cons (o : Oper) (l : List Oper) : cntN (o :: l) = (if isNew o then 1 else 0) + cntN l := by
  unfold cntN; rw [List.countP_cons]; omega

/-- what the run with records came to, out of the run without -/
structure DF (P : Program) (lo : List (Nat × Nat × Nat)) (l : List Oper) (i k : Nat) (env : Env) (H : IH) (eF : Env) (HF : IH) (hs : List IH) (rs : List Rec) : Prop where
  heaps : ∀ m E, m ≤ cntE (l.take k) → (H :: hs)[m]? = some E → Keeps H E
  recs : ∀ r ∈ rs, ∃ j p, r.i = i + j ∧ l[j]? = some r.o ∧ findL r.i lo = some p ∧ (j < k → cntN (l.take j) = 0 → clsOf r.o = .read → iop P r.o r.env H = some (.val r.v H)) ∧
    (∀ d, r.o.dst = some d → d < env.length → ¬ writes l (fun k' => j < k') d → eF.at d = r.v)

theorem alloc_noEff {o : Oper} (h : isAlloc o = true) : isEff o = false := by
  have : clsOf o = .alloc := by simpa [isAlloc] using h
  unfold isEff; rw [this]; rfl
theorem alloc_noNew {o : Oper} (h : isAlloc o = true) : isNew o = false := by
  have : clsOf o = .alloc := by simpa [isAlloc] using h
  unfold isNew
  split
  · rename_i heq
    unfold clsOf at this
    rw [heq] at this
    cases this
  · rfl

theorem df_of (hp : NatPure nat) {ops : Array Oper} {lo : List (Nat × Nat × Nat)} : ∀ (l : List Oper) (i k : Nat) (env : Env) (H : IH) (eF : Env) (HF : IH), (0 < k → WF H) → (∀ o ∈ l.take k, isAlloc o = true ∨ calmF o = true) →
    iopsE P (iex P good nat 0) nat (ops.toList.map (·.dst)) (l.filter fun o => !isAlloc o) env H = .ret (eF, HF) → ∃ hs rs, iopsD P (iex P good nat 0) nat ops lo l i env H = some (eF, HF, hs, rs) ∧ DF P lo l i k env H eF HF hs rs
  | [], i, k, env, H, eF, HF, _, _, h => by
    have h' : (T.ret (env, H) : T (Env × IH)) = .ret (eF, HF) := h
    cases h'
    refine ⟨[], [], rfl, ⟨fun m E hm hE => ?_, fun r hr => by cases hr⟩⟩
    simp [cntE] at hm
    subst hm
    simp at hE
    subst hE
    exact .refl _
  | o :: l, i, k, env, H, eF, HF, hwf, hc, h => by
    have hcl : ∀ o' ∈ l.take (k - 1), isAlloc o' = true ∨ calmF o' = true := by
      intro o' ho'
      cases k with
      | zero => simp at ho'
      | succ k => exact hc o' (by rw [List.take_succ_cons]; exact List.mem_cons_of_mem _ (by simpa using ho'))
    cases hao : isAlloc o with
    | true =>
      rw [List.filter_cons] at h
      simp only [hao, Bool.not_true, Bool.false_eq_true, if_false] at h
      obtain ⟨hs, rs, e1, e2⟩ := df_of hp l (i + 1) (k - 1) env H eF HF (fun hk => hwf (by omega)) hcl h
      refine ⟨hs, rs, by rw [iopsD_cons, hao]; exact e1, ⟨fun m E hm hE => e2.heaps m E ?_ hE, fun r hr => ?_⟩⟩
      · cases k with
        | zero => simp [cntE] at hm ⊢; exact hm
        | succ k =>
          rw [List.take_succ_cons, cntE_cons, alloc_noEff hao] at hm
          simpa using hm
      · obtain ⟨j, p, g1, g2, g3, g4, g5⟩ := e2.recs r hr
        refine ⟨j + 1, p, by omega, by simpa using g2, g3, fun hj hn hcl => g4 (by omega) (by rw [List.take_succ_cons, cntN_cons] at hn; omega) hcl, fun d hd hl hn => g5 d hd hl ?_⟩
        rintro ⟨k', p', q1, q2, q3, q4⟩
        exact hn ⟨k' + 1, p', by omega, by simpa using q2, q3, q4⟩
    | false =>
    rw [List.filter_cons] at h
    simp only [hao, Bool.not_false, if_true] at h
    rw [iopsD_cons, hao]
    simp only [cond_false]
    rw [qB, ← iwantedE_eq] at h
    unfold goE byWant at h
    have lift : ∀ (v : Value) (H' : IH) (hs : List IH) (rs rs' : List Rec), DF P lo l (i + 1) (k - 1) (env.putD o.dst v) H' eF HF hs rs → (0 < k → Keeps H H') → (0 < k → isNew o = false → H' = H) → (isEff o = false → H' = H) →
        (∀ r ∈ rs', r ∈ rs ∨ (r.i = i ∧ r.o = o ∧ r.env = env ∧ r.v = v ∧ (∃ p, findL i lo = some p) ∧ (0 < k → clsOf o = .read → iop P o env H = some (.val v H)) ∧ (∀ d, o.dst = some d → d < env.length → ¬ writes l (fun _ => True) d → eF.at d = v))) →
        DF P lo (o :: l) i k env H eF HF (consIf (clsOf o).eff H' hs) rs' := by
      intro v H' hs rs rs' de hH hH2 hH3 hr
      refine ⟨fun m E hm hE => ?_, fun r hr' => ?_⟩
      · cases k with
        | zero => simp [cntE] at hm; subst hm; simp at hE; subst hE; exact .refl _
        | succ k =>
          have hH' := hH (by omega)
          rw [List.take_succ_cons, cntE_cons] at hm
          simp only [Nat.add_sub_cancel] at de
          by_cases he : isEff o = true
          · have he' : (clsOf o).eff = true := he
            rw [he'] at hE
            cases m with
            | zero => simp at hE; subst hE; exact .refl _
            | succ m =>
              rw [if_pos he] at hm
              exact hH'.trans (de.heaps m E (by omega) (by simpa [consIf] using hE))
          · have he' : (clsOf o).eff = false := by simpa [isEff] using he
            rw [he'] at hE
            rw [if_neg he] at hm
            have := hH3 (by simpa using he)
            subst this
            exact de.heaps m E (by omega) (by simpa [consIf] using hE)
      · rcases hr r hr' with h1 | ⟨h1, h2, h3, h4, ⟨p, h5⟩, h6, h7⟩
        · obtain ⟨j, p, g1, g2, g3, g4, g5⟩ := de.recs r h1
          refine ⟨j + 1, p, by omega, by simpa using g2, g3, fun hj hn hcl => ?_, fun d hd hl hn => g5 d hd (by rw [length_putD]; exact hl) ?_⟩
          · rw [List.take_succ_cons, cntN_cons] at hn
            have hH' := hH2 (by omega) (by by_cases hx : isNew o = true <;> simp_all)
            rw [← hH']
            exact g4 (by omega) (by omega) hcl
          · rintro ⟨k', p', q1, q2, q3, q4⟩
            exact hn ⟨k' + 1, p', by omega, by simpa using q2, q3, q4⟩
        · refine ⟨0, p, by omega, by simp [h2], by rw [h1]; exact h5, fun hj _ hcl => ?_, fun d hd hl hn => ?_⟩
          · rw [h2, h3, h4]
            exact h6 (by omega) (by rw [← h2]; exact hcl)
          · rw [h4]
            refine h7 d (by rw [← h2]; exact hd) hl ?_
            rintro ⟨k', p', _, q2, q3, q4⟩
            exact hn ⟨k' + 1, p', by omega, by simpa using q2, q3, q4⟩
    split at h
    · rename_i hw
      rw [hw]
      cases ht : iop1 P (iex P good nat 0) nat o env H with
      | fail => rw [ht] at h; cases h
      | ch n k => rw [ht] at h; cases h
      | sp p k => rw [ht] at h; cases h
      | ret q =>
        rw [ht] at h
        have h2 : iopsE P (iex P good nat 0) nat (ops.toList.map (·.dst)) (l.filter fun o => !isAlloc o) (env.putD o.dst q.1) q.2 = .ret (eF, HF) := h
        have hcase : 0 < k → (calm o = true ∧ q.2 = H) ∨ (isNew o = true ∧ ∃ ob, q.2 = H.push ob) := by
          intro hk
          cases k with
          | zero => omega
          | succ k =>
            have := hc o (by rw [List.take_succ_cons]; exact List.mem_cons_self)
            rw [hao] at this
            have hcf : calmF o = true := by simpa using this
            unfold calmF at hcf
            by_cases hcm : calm o = true
            · exact .inl ⟨hcm, calm_keep hp hcm ht⟩
            · have hn : isNew o = true := by simpa [hcm] using hcf
              exact .inr ⟨hn, new_keep hn ht⟩
        have hwf' : 0 < k - 1 → WF q.2 := by
          intro hk
          rcases hcase (by omega) with ⟨_, e⟩ | ⟨_, ob, e⟩
          · rw [e]; exact hwf (by omega)
          · rw [e]; exact (hwf (by omega)).push ob
        obtain ⟨hs, rs, e1, e2⟩ := df_of hp l (i + 1) (k - 1) _ _ eF HF hwf' hcl h2
        have htr := iopsD_trace l _ _ _ _ _ _ _ e1
        refine ⟨consIf (clsOf o).eff q.2 hs, recIf (findL i lo) i o env q.1 rs, by simp only [byWant, thenD, Out1, consD, e1], lift q.1 q.2 hs rs _ e2 ?_ ?_ ?_ ?_⟩
        · intro hk
          rcases hcase hk with ⟨_, e⟩ | ⟨_, ob, e⟩
          · rw [e]; exact .refl _
          · rw [e]; exact (hwf hk).keeps ob
        · intro hk hnn
          rcases hcase hk with ⟨_, e⟩ | ⟨hn, _⟩
          · exact e
          · rw [hn] at hnn; cases hnn
        · intro hne
          exact (iop1_calm hne hao ht).1
        · intro r hr
          unfold recIf at hr
          split at hr
          · rename_i p hp'
            rcases List.mem_cons.1 hr with rfl | hr
            · refine .inr ⟨rfl, rfl, rfl, rfl, ⟨p, hp'⟩, fun hk hrd => ?_, fun d hd hl hn => ?_⟩
              · have hne : isEff o = false := by unfold isEff; rw [hrd]; rfl
                obtain ⟨g1, g2⟩ := iop1_calm hne hao ht
                exact g2
              · rw [htr.keep d hn, hd, at_putD_eq hl]
            · exact .inl hr
          · exact .inl hr
    · rename_i hw
      rw [hw]
      obtain ⟨hs, rs, e1, e2⟩ := df_of hp l (i + 1) (k - 1) _ _ eF HF (fun hk => hwf (by omega)) hcl h
      exact ⟨consIf (clsOf o).eff H hs, rs, by simp only [byWant, consS, e1], lift undef H hs rs _ e2 (fun _ => .refl _) (fun _ _ => rfl) (fun _ => rfl) fun r hr => .inl hr⟩
    · cases h

/-- the reads that are loose: ahead of all new slices, plain loads -/
def looseFirst (ops : Array Oper) (lo : List (Nat × Nat × Nat)) (k : Nat) : Bool := lo.all fun p => decide (p.1 < k) && (decide (p.2.2 ≤ cntE (ops.toList.take k)) && (decide (cntN (ops.toList.take p.1) = 0) && ((ops[p.1]?).map isLoad == some true)))
theorem fresh0 {H1 : IH} {hs : List IH} : ∀ (al : List Nat) (b : Nat), al.all (fun x => Nat.beq x 0) = true → freshAll H1 hs al b = true
  | [], _, _ => rfl
  | x :: al, b, h => by
    simp only [List.all_cons, Bool.and_eq_true] at h
    have hx : x = 0 := Nat.eq_of_beq_eq_true h.1
    subst hx
    have hdef : freshAll H1 hs (0 :: al) b = cond (sameFst b (H1.get b) hs 0) (freshAll H1 hs al (b + 1)) false := rfl
    have h0 : sameFst b (H1.get b) hs 0 = true := by cases hs <;> rfl
    rw [hdef, h0]
    exact fresh0 al (b + 1) h.2

theorem idraw_ofF (hp : NatPure nat) {ops : Array Oper} {env envA env1 : Env} {H HA H1 : IH} (k : Nat) (hwf : WF HA) (hd : drawOk ops = true) (hA : iopsA P ops.toList env H = some (envA, HA)) (hal : (allocs ops).all (fun x => Nat.beq x 0) = true)
    (hc : ((ops.toList.take k).all fun o => isAlloc o || calmF o) = true)
    (hl : looseFirst ops (loose ops) k = true) (hlen : ∀ p ∈ loose ops, dstOf ops p.1 < envA.length ∧ ((ops[p.1]?).bind (·.dst)).isSome = true) (hs : ∀ p ∈ loose ops, simple (env1.at (dstOf ops p.1)) = true)
    (h : iopsE P (iex P good nat 0) nat (ops.toList.map (·.dst)) (ops.toList.filter fun o => !isAlloc o) envA HA = .ret (env1, H1)) : idraw P (iex P good nat 0) nat ops env H = some (env1, H1) := by
  obtain ⟨hs', rs, e1, e2⟩ := df_of (lo := loose ops) hp ops.toList 0 k envA HA env1 H1 (fun _ => hwf) (fun o ho => by have := List.all_eq_true.1 hc o ho; simpa using this) h
  unfold idraw
  rw [hA]
  simp only [e1, drawEnd]
  have hst : allR (stableAt P (loose ops) (HA :: hs')) rs = true := by
    rw [allR_iff]
    intro r hr
    obtain ⟨j, p, h1, h2, h3, h4, h5⟩ := e2.recs r hr
    have hm := findL_mem _ h3
    have hle := List.all_eq_true.1 hl _ hm
    simp only [Bool.and_eq_true, decide_eq_true_eq, beq_iff_eq] at hle
    obtain ⟨hle1, hle2, hle3, hle4⟩ := hle
    have hj : r.i = j := by omega
    have hoj : ops[r.i]? = some r.o := by rw [hj]; simpa using h2
    have hrd := loose_read hm hoj
    have hv := h4 (by omega) (by rw [← hj]; exact hle3) hrd
    have hload : isLoad r.o = true := by simpa [hoj] using hle4
    unfold stableAt
    simp only [h3]
    refine stable_of _ 0 fun q E hq hq1 hq2 => ?_
    have hE := e2.heaps q E (by omega) hq
    rw [load_keeps hload hv hE]
    have hsm := hs _ hm
    obtain ⟨hlt, hsome⟩ := hlen _ hm
    simp only [hoj, Option.bind_some] at hsome
    obtain ⟨d, hdd⟩ := Option.isSome_iff_exists.1 hsome
    have hdst : dstOf ops r.i = d := by unfold dstOf; rw [hoj]; simp [hdd]
    simp only [hdst] at hlt hsm
    have hst := stat_of hd
    have heq := h5 d hdd hlt (by
      rintro ⟨k', p', q1, q2, q3, q4⟩
      exact hst.dst j k' r.o p' d (by omega) (by rw [← hj]; exact hoj) (by simpa using q2) hdd q4)
    show veq r.v r.v = true
    rw [← heq]
    exact veq_simple hsm
  rw [hst, fresh0 _ _ hal]
  rfl
theorem iopsA_keeps : ∀ (l : List Oper) (env e : Env) (H H' : IH), WF H → iopsA P l env H = some (e, H') → WF H'
  | [], _, _, _, _, hw, h => by cases h; exact hw
  | o :: l, env, e, H, H', hw, h => by
    unfold iopsA at h
    split at h
    · rename_i hal
      split at h
      · rename_i v H1 hi
        refine iopsA_keeps l _ _ _ _ ?_ h
        have hcl : clsOf o = .alloc := by simpa [isAlloc] using hal
        have hop : ∃ t, o.op = .alloc t := by
          unfold clsOf at hcl
          split at hcl <;> (try cases hcl) <;> (first | exact ⟨_, by assumption⟩ | skip)
          all_goals (split at hcl <;> cases hcl)
        obtain ⟨t, ht⟩ := hop
        have e1 : iop P o env H = ialloc P t H := by unfold iop; rw [ht]
        rw [e1] at hi
        unfold ialloc at hi
        split at hi
        · cases hi; exact hw.push _
        · cases hi
      · cases h
    · exact iopsA_keeps l _ _ _ _ hw h

theorem Setup.drawF (s : Setup P good nat G) (hp : NatPure nat) (k : Nat) {id : Nat} {ops : Array Oper} {env envA env1 : Env} {H HA H1 : IH} {Q : Out → Prop} {ds : List (Option Tmp)} {lo : List (Nat × Nat × Nat)} {l : List Oper} (hok : opsOk G ops = true) (hd : drawOk ops = true)
    (hal : (allocs ops).all (fun x => Nat.beq x 0) = true) (hc : ((ops.toList.take k).all fun o => isAlloc o || calmF o) = true) (hlo : loose ops = lo) (hl : looseFirst ops lo k = true)
    (hlen : lo.all (fun p => ((ops[p.1]?).bind (·.dst)).isSome) = true) (hds : ops.toList.map (·.dst) = ds) (hl2 : (ops.toList.filter fun o => !isAlloc o) = l) (hA : iopsA P ops.toList env H = some (envA, HA))
    (h : iopsE P (iex P good nat 0) nat ds l envA HA = .ret (env1, H1)) (hs : (lo.all fun p => Nat.blt (dstOf ops p.1) envA.length && simple (env1.at (dstOf ops p.1))) = true) (hq : Q ⟨.normal, env1, H1⟩) : Holds P G rd (.region id ops true) env H Q := by
  subst hds hlo hl2
  refine Holds.wf fun hwf => ?_
  have hs' : ∀ p ∈ loose ops, dstOf ops p.1 < envA.length ∧ simple (env1.at (dstOf ops p.1)) = true := fun p hp' => by
    have := List.all_eq_true.1 hs p hp'
    simp only [Bool.and_eq_true] at this
    exact ⟨Nat.le_of_ble_eq_true this.1, this.2⟩
  have hi := idraw_ofF hp k (iopsA_keeps _ _ _ _ _ hwf hA) hd hA hal hc hl (fun p hp' => ⟨(hs' p hp').1, List.all_eq_true.1 hlen p hp'⟩) (fun p hp' => (hs' p hp').2) h
  exact s.draw 0 hok hd hi hq
theorem iopsA_nil {env : Env} {H : IH} : iopsA P [] env H = some (env, H) := rfl
theorem iopsA_other {o : Oper} {l : List Oper} {env : Env} {H : IH} (h : isAlloc o = false) : iopsA P (o :: l) env H = iopsA P l env H := by
  rw [iopsA, h]; rfl
theorem iopsA_alloc {d : Option Tmp} {t ty : TypeId} {p : String} {a : Array Edge} {l : List Oper} {env : Env} {H H1 : IH} {v : Value} (h : ialloc P t H = some (.val v H1)) : iopsA P (⟨d, .alloc t, ty, p, a, none⟩ :: l) env H = iopsA P l (env.putD d v) H1 := by
  have e1 : isAlloc ⟨d, .alloc t, ty, p, a, none⟩ = true := rfl
  have e2 : iop P ⟨d, .alloc t, ty, p, a, none⟩ env H = some (.val v H1) := h
  rw [iopsA, e1, e2]; rfl

theorem filter_noAlloc {l : List Oper} (h : (l.all fun o => !isAlloc o) = true) : (l.filter fun o => !isAlloc o) = l := List.filter_eq_self.2 fun o ho => List.all_eq_true.1 h o ho
theorem allocs_none {ops : Array Oper} (h : (ops.toList.all fun o => !isAlloc o) = true) : allocs ops = [] := by
  unfold allocs allocsOf
  have : (ops.toList.zipIdx.filter fun p => isAlloc p.1) = [] := by
    rw [List.filter_eq_nil_iff]
    intro p hp'
    have h1 : ops.toList[p.2]? = some p.1 := mem_zip.1 (show (p.1, p.2) ∈ ops.toList.zipIdx from hp')
    have h2 := List.all_eq_true.1 h p.1 (List.mem_of_getElem? h1)
    simpa using h2
  rw [this]; rfl
theorem Setup.drawN (s : Setup P good nat G) (hp : NatPure nat) (k : Nat) {id : Nat} {ops : Array Oper} {env env1 : Env} {H H1 : IH} {Q : Out → Prop} {ds : List (Option Tmp)} {lo : List (Nat × Nat × Nat)} (hok : opsOk G ops = true) (hd : drawOk ops = true)
    (ha : (ops.toList.all fun o => !isAlloc o) = true) (hc : ((ops.toList.take k).all fun o => isAlloc o || calmF o) = true) (hlo : loose ops = lo) (hl : looseFirst ops lo k = true)
    (hlen : lo.all (fun p => ((ops[p.1]?).bind (·.dst)).isSome) = true) (hds : ops.toList.map (·.dst) = ds)
    (h : iopsE P (iex P good nat 0) nat ds ops.toList env H = .ret (env1, H1)) (hs : (lo.all fun p => Nat.blt (dstOf ops p.1) env.length && simple (env1.at (dstOf ops p.1))) = true) (hq : Q ⟨.normal, env1, H1⟩) : Holds P G rd (.region id ops true) env H Q :=
  s.drawF hp k hok hd (by rw [allocs_none ha]; rfl) hc hlo hl hlen hds (filter_noAlloc ha) (iopsA_none _ _ _ fun o ho => by have := List.all_eq_true.1 ha o ho; simpa using this) h hs hq
end Go.Idl

namespace Go.Idl
variable {P : Program} {good : FuncId → Bool} {nat : Nats} {G : Nat → Bool} {rd : Bool}

/-- the operations with the heap behind each that may turn it, the last one first -/
noncomputable def iopsXE (P : Program) (run : Job → IH → T Out) (nat : Nats) (ds : List (Option Tmp)) : List Oper → Env → IH → List IH → T (Env × IH × List IH)
  | [], env, H, hs => .ret (env, H, hs)
  | o :: l, env, H, hs => byWant (iwantedE ds o env) ((iop1 P run nat o env H).bind fun r => iopsXE P run nat ds l (env.putD o.dst r.1) r.2 (consIf (clsOf o).eff r.2 hs)) (iopsXE P run nat ds l (env.putD o.dst undef) H (consIf (clsOf o).eff H hs)) .fail
theorem yE {run : Job → IH → T Out} {ds : List (Option Tmp)} {env : Env} {H : IH} {hs : List IH} : iopsXE P run nat ds [] env H hs = .ret (env, H, hs) := Eq.trans rfl rfl
noncomputable def thenX (P : Program) (run : Job → IH → T Out) (nat : Nats) (ds : List (Option Tmp)) (d : Option Tmp) (c : Bool) (l : List Oper) (env : Env) (hs : List IH) (t : T (Value × IH)) : T (Env × IH × List IH) := t.bind fun r => iopsXE P run nat ds l (env.putD d r.1) r.2 (consIf c r.2 hs)
noncomputable def goX (P : Program) (run : Job → IH → T Out) (nat : Nats) (ds : List (Option Tmp)) (o : Oper) (l : List Oper) (env : Env) (H : IH) (hs : List IH) (c : Option Bool) : T (Env × IH × List IH) :=
  byWant c (thenX P run nat ds o.dst (clsOf o).eff l env hs (iop1 P run nat o env H)) (iopsXE P run nat ds l (env.putD o.dst undef) H (consIf (clsOf o).eff H hs)) .fail
theorem yD {run : Job → IH → T Out} {ds : List (Option Tmp)} {o : Oper} {l : List Oper} {env : Env} {H : IH} {hs : List IH} : iopsXE P run nat ds (o :: l) env H hs = goX P run nat ds o l env H hs (iwantedE ds o env) := Eq.trans rfl rfl
theorem yF {run : Job → IH → T Out} {ds : List (Option Tmp)} {o : Oper} {l : List Oper} {env : Env} {H : IH} {hs : List IH} : goX P run nat ds o l env H hs (some true) = thenX P run nat ds o.dst (clsOf o).eff l env hs (iop1 P run nat o env H) := Eq.trans rfl rfl
theorem yG {run : Job → IH → T Out} {ds : List (Option Tmp)} {o : Oper} {l : List Oper} {env : Env} {H : IH} {hs : List IH} : goX P run nat ds o l env H hs (some false) = iopsXE P run nat ds l (env.putD o.dst undef) H (consIf (clsOf o).eff H hs) := Eq.trans rfl rfl
theorem yH {run : Job → IH → T Out} {ds : List (Option Tmp)} {d : Option Tmp} {c : Bool} {l : List Oper} {env : Env} {hs : List IH} {v : Value} {H : IH} : thenX P run nat ds d c l env hs (.ret (v, H)) = iopsXE P run nat ds l (env.putD d v) H (consIf c H hs) := Eq.trans rfl rfl
theorem yJ {α : Type} (a : α) (l : List α) : consIf true a l = a :: l := rfl
theorem yK {α : Type} (a : α) (l : List α) : consIf false a l = l := rfl

structure DX (P : Program) (lo : List (Nat × Nat × Nat)) (l : List Oper) (i : Nat) (env : Env) (eF : Env) (rs : List Rec) : Prop where
  recs : ∀ r ∈ rs, ∃ j p, r.i = i + j ∧ l[j]? = some r.o ∧ findL r.i lo = some p ∧
    (∀ d, r.o.dst = some d → d < env.length → ¬ writes l (fun k' => j < k') d → eF.at d = r.v) ∧ (∀ x, ¬ writes l (fun k' => j ≤ k') x → eF.at x = r.env.at x)

theorem dx_of {ops : Array Oper} {lo : List (Nat × Nat × Nat)} : ∀ (l : List Oper) (i : Nat) (env : Env) (H : IH) (hs0 : List IH) (eF : Env) (HF : IH) (hF : List IH),
    iopsXE P (iex P good nat 0) nat (ops.toList.map (·.dst)) (l.filter fun o => !isAlloc o) env H hs0 = .ret (eF, HF, hF) → ∃ hs rs, iopsD P (iex P good nat 0) nat ops lo l i env H = some (eF, HF, hs, rs) ∧ hF = hs.reverse ++ hs0 ∧ DX P lo l i env eF rs
  | [], i, env, H, hs0, eF, HF, hF, h => by
    have h' : (T.ret (env, H, hs0) : T (Env × IH × List IH)) = .ret (eF, HF, hF) := h
    cases h'
    exact ⟨[], [], rfl, rfl, ⟨fun r hr => by cases hr⟩⟩
  | o :: l, i, env, H, hs0, eF, HF, hF, h => by
    cases hao : isAlloc o with
    | true =>
      rw [List.filter_cons] at h
      simp only [hao, Bool.not_true, Bool.false_eq_true, if_false] at h
      obtain ⟨hs, rs, e1, e2, e3⟩ := dx_of l (i + 1) env H hs0 eF HF hF h
      refine ⟨hs, rs, by rw [iopsD_cons, hao]; exact e1, e2, ⟨fun r hr => ?_⟩⟩
      obtain ⟨j, p, g1, g2, g3, g4, g5⟩ := e3.recs r hr
      refine ⟨j + 1, p, by omega, by simpa using g2, g3, fun d hd hl hn => g4 d hd hl ?_, fun x hn => g5 x ?_⟩
      · rintro ⟨k', p', q1, q2, q3, q4⟩
        exact hn ⟨k' + 1, p', by omega, by simpa using q2, q3, q4⟩
      · rintro ⟨k', p', q1, q2, q3, q4⟩
        exact hn ⟨k' + 1, p', by omega, by simpa using q2, q3, q4⟩
    | false =>
    rw [List.filter_cons] at h
    simp only [hao, Bool.not_false, if_true] at h
    rw [iopsD_cons, hao]
    simp only [cond_false]
    unfold iopsXE at h
    rw [← iwantedE_eq] at h
    unfold byWant at h
    have lift : ∀ (v : Value) (rs rs' : List Rec), DX P lo l (i + 1) (env.putD o.dst v) eF rs →
        (∀ r ∈ rs', r ∈ rs ∨ (r.i = i ∧ r.o = o ∧ r.env = env ∧ r.v = v ∧ (∃ p, findL i lo = some p) ∧ (∀ d, o.dst = some d → d < env.length → ¬ writes l (fun _ => True) d → eF.at d = v) ∧ (∀ x, o.dst ≠ some x → ¬ writes l (fun _ => True) x → eF.at x = env.at x))) →
        DX P lo (o :: l) i env eF rs' := by
      intro v rs rs' de hr
      refine ⟨fun r hr' => ?_⟩
      rcases hr r hr' with h1 | ⟨h1, h2, h3, h4, ⟨p, h5⟩, h6, h7⟩
      · obtain ⟨j, p, g1, g2, g3, g4, g5⟩ := de.recs r h1
        refine ⟨j + 1, p, by omega, by simpa using g2, g3, fun d hd hl hn => g4 d hd (by rw [length_putD]; exact hl) ?_, fun x hn => g5 x ?_⟩
        · rintro ⟨k', p', q1, q2, q3, q4⟩
          exact hn ⟨k' + 1, p', by omega, by simpa using q2, q3, q4⟩
        · rintro ⟨k', p', q1, q2, q3, q4⟩
          exact hn ⟨k' + 1, p', by omega, by simpa using q2, q3, q4⟩
      · refine ⟨0, p, by omega, by simp [h2], by rw [h1]; exact h5, fun d hd hl hn => ?_, fun x hn => ?_⟩
        · rw [h4]
          refine h6 d (by rw [← h2]; exact hd) hl ?_
          rintro ⟨k', p', _, q2, q3, q4⟩
          exact hn ⟨k' + 1, p', by omega, by simpa using q2, q3, q4⟩
        · rw [h3]
          refine h7 x (fun hd => hn ⟨0, o, by omega, by simp, hao, hd⟩) ?_
          rintro ⟨k', p', _, q2, q3, q4⟩
          exact hn ⟨k' + 1, p', by omega, by simpa using q2, q3, q4⟩
    split at h
    · rename_i hw
      rw [hw]
      cases ht : iop1 P (iex P good nat 0) nat o env H with
      | fail => rw [ht] at h; cases h
      | ch n k => rw [ht] at h; cases h
      | sp p k => rw [ht] at h; cases h
      | ret q =>
        rw [ht] at h
        have h2 : iopsXE P (iex P good nat 0) nat (ops.toList.map (·.dst)) (l.filter fun o => !isAlloc o) (env.putD o.dst q.1) q.2 (consIf (clsOf o).eff q.2 hs0) = .ret (eF, HF, hF) := h
        obtain ⟨hs, rs, e1, e2, e3⟩ := dx_of l (i + 1) _ _ _ eF HF hF h2
        have htr := iopsD_trace l _ _ _ _ _ _ _ e1
        refine ⟨consIf (clsOf o).eff q.2 hs, recIf (findL i lo) i o env q.1 rs, by simp only [byWant, thenD, Out1, consD, e1], ?_, lift q.1 rs _ e3 ?_⟩
        · rw [e2]
          cases (clsOf o).eff <;> simp [consIf]
        · intro r hr
          unfold recIf at hr
          split at hr
          · rename_i p hp'
            rcases List.mem_cons.1 hr with rfl | hr
            · refine .inr ⟨rfl, rfl, rfl, rfl, ⟨p, hp'⟩, fun d hd hl hn => ?_, fun x hd hn => ?_⟩
              · rw [htr.keep d hn, hd, at_putD_eq hl]
              · rw [htr.keep x hn, at_putD]
                rw [if_neg (by simp [hd])]
            · exact .inl hr
          · exact .inl hr
    · rename_i hw
      rw [hw]
      obtain ⟨hs, rs, e1, e2, e3⟩ := dx_of l (i + 1) _ _ _ eF HF hF h
      refine ⟨consIf (clsOf o).eff H hs, rs, by simp only [byWant, consS, e1], ?_, lift undef rs _ e3 fun r hr => .inl hr⟩
      rw [e2]
      cases (clsOf o).eff <;> simp [consIf]
    · cases h

/-- a read that is loose yields at a heap what it yielded -/
def LoadIs (P : Program) (ops : Array Oper) (i : Nat) (e : Env) (E : IH) : Prop :=
  match ops[i]? with
  | some o => (match o.op, o.dst with
    | .load t x, some d => iloadAt P t (e.val x) E = some (e.at d)
    | _, _ => False)
  | none => False
def LooseOK (P : Program) (ops : Array Oper) (e : Env) (hs : List IH) : List (Nat × Nat × Nat) → Prop
  | [] => True
  | p :: r => (∀ m E, p.2.1 ≤ m → m ≤ p.2.2 → hs[m]? = some E → LoadIs P ops p.1 e E) ∧ LooseOK P ops e hs r
theorem LooseOK.mem {ops : Array Oper} {e : Env} {hs : List IH} : ∀ {lo : List (Nat × Nat × Nat)}, LooseOK P ops e hs lo → ∀ p ∈ lo, ∀ m E, p.2.1 ≤ m → m ≤ p.2.2 → hs[m]? = some E → LoadIs P ops p.1 e E
  | q :: r, h, p, hp => by
    rcases List.mem_cons.1 hp with rfl | hp
    · exact h.1
    · exact h.2.mem p hp
/-- the loads that are loose: their addresses are not written from there on -/
def staticX (ops : Array Oper) (lo : List (Nat × Nat × Nat)) : Bool := lo.all fun p => match ops[p.1]? with
  | some o => (match o.op with
    | .load _ (.tmp y) => (ops.toList.drop p.1).all fun q => q.dst != some y
    | .load _ _ => true
    | _ => false)
  | none => false

theorem idraw_ofX {ops : Array Oper} {env envA env1 : Env} {H HA H1 : IH} {hF : List IH} (hd : drawOk ops = true) (hA : iopsA P ops.toList env H = some (envA, HA)) (hal : (allocs ops).all (fun x => Nat.beq x 0) = true)
    (hst : staticX ops (loose ops) = true) (hlen : ∀ p ∈ loose ops, dstOf ops p.1 < envA.length ∧ ((ops[p.1]?).bind (·.dst)).isSome = true) (hs : ∀ p ∈ loose ops, simple (env1.at (dstOf ops p.1)) = true)
    (h : iopsXE P (iex P good nat 0) nat (ops.toList.map (·.dst)) (ops.toList.filter fun o => !isAlloc o) envA HA [] = .ret (env1, H1, hF)) (hok : LooseOK P ops env1 (HA :: hF.reverse) (loose ops)) : idraw P (iex P good nat 0) nat ops env H = some (env1, H1) := by
  obtain ⟨hs', rs, e1, e0, e2⟩ := dx_of (lo := loose ops) ops.toList 0 envA HA [] env1 H1 hF h
  have hrev : hF.reverse = hs' := by rw [e0]; simp
  rw [hrev] at hok
  unfold idraw
  rw [hA]
  simp only [e1, drawEnd]
  have hst : allR (stableAt P (loose ops) (HA :: hs')) rs = true := by
    rw [allR_iff]
    intro r hr
    obtain ⟨j, p, h1, h2, h3, h5, h6⟩ := e2.recs r hr
    have hm := findL_mem _ h3
    have hj : r.i = j := by omega
    have hoj : ops[r.i]? = some r.o := by rw [hj]; simpa using h2
    have hsx := List.all_eq_true.1 hst _ hm
    simp only [hoj] at hsx
    unfold stableAt
    simp only [h3]
    refine stable_of _ 0 fun q E hq hq1 hq2 => ?_
    have hL := hok.mem _ hm q E (by simpa using hq1) (by simpa using hq2) hq
    unfold LoadIs at hL
    simp only [hoj] at hL
    have hsm := hs _ hm
    obtain ⟨hlt, hsome⟩ := hlen _ hm
    simp only [hoj, Option.bind_some] at hsome
    obtain ⟨d, hdd⟩ := Option.isSome_iff_exists.1 hsome
    have hdst : dstOf ops r.i = d := by unfold dstOf; rw [hoj]; simp [hdd]
    simp only [hdst] at hlt hsm
    have hstat := stat_of hd
    have heq := h5 d hdd hlt (by
      rintro ⟨k', p', q1, q2, q3, q4⟩
      exact hstat.dst j k' r.o p' d (by omega) (by rw [← hj]; exact hoj) (by simpa using q2) hdd q4)
    rw [hdd] at hL
    split at hL
    · rename_i t x d' hop hd'
      cases hd'
      have hval : r.env.val x = env1.val x := by
        cases x with
        | tmp y =>
          rw [hop] at hsx
          simp only [List.all_eq_true] at hsx
          have := h6 y (by
            rintro ⟨k', p', q1, q2, q3, q4⟩
            have hmem : p' ∈ ops.toList.drop r.i := by
              rw [List.mem_iff_getElem?]
              exact ⟨k' - r.i, by rw [List.getElem?_drop, show r.i + (k' - r.i) = k' by omega]; exact q2⟩
            have := hsx p' hmem
            rw [q4] at this
            simp at this)
          exact this.symm
        | _ => rfl
      have e3 : iop P r.o r.env E = Step1.ofO E (iloadAt P t (r.env.val x) E) := by unfold iop; rw [hop]
      rw [e3, hval, hL]
      show veq r.v (env1.at d) = true
      rw [← heq]
      exact veq_simple hsm
    · exact hL.elim
  rw [hst, fresh0 _ _ hal]
  rfl
theorem Setup.drawX (s : Setup P good nat G) {id : Nat} {ops : Array Oper} {env envA env1 : Env} {H HA H1 : IH} {hF : List IH} {Q : Out → Prop} {ds : List (Option Tmp)} {lo : List (Nat × Nat × Nat)} {l : List Oper} (hok : opsOk G ops = true) (hd : drawOk ops = true)
    (hal : (allocs ops).all (fun x => Nat.beq x 0) = true) (hlo : loose ops = lo) (hl : staticX ops lo = true)
    (hlen : lo.all (fun p => ((ops[p.1]?).bind (·.dst)).isSome) = true) (hds : ops.toList.map (·.dst) = ds) (hl2 : (ops.toList.filter fun o => !isAlloc o) = l) (hA : iopsA P ops.toList env H = some (envA, HA))
    (h : iopsXE P (iex P good nat 0) nat ds l envA HA [] = .ret (env1, H1, hF)) (hs : (lo.all fun p => Nat.blt (dstOf ops p.1) envA.length && simple (env1.at (dstOf ops p.1))) = true) (hk : LooseOK P ops env1 (HA :: hF.reverse) lo) (hq : Q ⟨.normal, env1, H1⟩) : Holds P G rd (.region id ops true) env H Q := by
  subst hds hlo hl2
  have hs' : ∀ p ∈ loose ops, dstOf ops p.1 < envA.length ∧ simple (env1.at (dstOf ops p.1)) = true := fun p hp' => by
    have := List.all_eq_true.1 hs p hp'
    simp only [Bool.and_eq_true] at this
    exact ⟨Nat.le_of_ble_eq_true this.1, this.2⟩
  have hi := idraw_ofX hd hA hal hl (fun p hp' => ⟨(hs' p hp').1, List.all_eq_true.1 hlen p hp'⟩) (fun p hp' => (hs' p hp').2) h hk
  exact s.draw 0 hok hd hi hq
theorem Setup.drawXN (s : Setup P good nat G) {id : Nat} {ops : Array Oper} {env env1 : Env} {H H1 : IH} {hF : List IH} {Q : Out → Prop} {ds : List (Option Tmp)} {lo : List (Nat × Nat × Nat)} (hok : opsOk G ops = true) (hd : drawOk ops = true)
    (ha : (ops.toList.all fun o => !isAlloc o) = true) (hlo : loose ops = lo) (hl : staticX ops lo = true)
    (hlen : lo.all (fun p => ((ops[p.1]?).bind (·.dst)).isSome) = true) (hds : ops.toList.map (·.dst) = ds)
    (h : iopsXE P (iex P good nat 0) nat ds ops.toList env H [] = .ret (env1, H1, hF)) (hs : (lo.all fun p => Nat.blt (dstOf ops p.1) env.length && simple (env1.at (dstOf ops p.1))) = true) (hk : LooseOK P ops env1 (H :: hF.reverse) lo) (hq : Q ⟨.normal, env1, H1⟩) : Holds P G rd (.region id ops true) env H Q :=
  s.drawX hok hd (by rw [allocs_none ha]; rfl) hlo hl hlen hds (filter_noAlloc ha) (iopsA_none _ _ _ fun o ho => by have := List.all_eq_true.1 ha o ho; simpa using this) h hs hk hq
end Go.Idl

namespace Go.Idl
variable {P : Program}
theorem load_cell {t : TypeId} (ht : aggT P t = some false) {H : IH} {b i : Nat} {l : List Value} {el : TypeId} {fz : Nat × Nat} {v : Value} (h : H.get b = some (.cells l.toArray el fz)) (hv : l[i]? = some v) : iloadAt P t (.pointer (some ⟨b, i, none⟩)) H = some v := by
  refine load_one ht ?_
  unfold IH.load
  rw [h]
  simpa using hv
theorem store_cell {t : TypeId} (ht : szT P t = some 1) {H : IH} {b i : Nat} {l : List Value} {el : TypeId} {fz : Nat × Nat} {v : Value} (hv : v.cells = #[v]) (h1 : oneCell v = true) (h : H.get b = some (.cells l.toArray el fz)) (hi : i < l.length) (hf : freeFz fz = true) (hb : H.base ≤ b) :
    istoreAt P t (.pointer (some ⟨b, i, none⟩)) v H = some (H.put b (.cells (l.set i v).toArray el fz)) := by
  unfold istoreAt
  simp only [ht, hv]
  rw [if_pos (by rfl)]
  unfold IH.stores
  rw [h]
  simp only
  rw [if_pos]
  · congr 3
    apply Array.ext'
    show overwrite l i [v] = _
    unfold overwrite
    simp only [List.length_singleton]
    rw [List.set_eq_take_append_cons_drop, if_pos hi]
    simp
  · simp [hf, hb, h1]; omega
theorem load_agg {t : TypeId} {n : Nat} (ht : aggT P t = some true) (hs : szT P t = some n) {H : IH} {b i : Nat} {l : List Value} {el : TypeId} {fz : Nat × Nat} (h : H.get b = some (.cells l.toArray el fz)) (hl : i + n ≤ l.length) : iloadAt P t (.pointer (some ⟨b, i, none⟩)) H = some (.agg ((l.drop i).take n).toArray) := by
  unfold iloadAt
  simp only [ht, hs]
  unfold IH.loads
  rw [h]
  simp only [List.size_toArray, if_pos hl]
theorem store_agg {t : TypeId} {H : IH} {b i : Nat} {l vs : List Value} {el : TypeId} {fz : Nat × Nat} (hs : szT P t = some vs.length) (h1 : vs.all oneCell = true) (h : H.get b = some (.cells l.toArray el fz)) (hl : i + vs.length ≤ l.length) (hf : freeFz fz = true) (hb : H.base ≤ b) :
    istoreAt P t (.pointer (some ⟨b, i, none⟩)) (.agg vs.toArray) H = some (H.put b (.cells (overwrite l i vs).toArray el fz)) := by
  unfold istoreAt
  have e1 : (Value.agg vs.toArray).cells = vs.toArray := rfl
  simp only [hs, e1, List.size_toArray, if_true]
  unfold IH.stores
  rw [h]
  simp only [List.size_toArray]
  rw [if_pos]
  simp only [hl, hf, hb, h1, decide_true, Bool.and_self]
theorem all_one {α : Type} {f : α → Bool} {p : α} (h : f p = true) : [p].all f = true := by simp [h]
theorem simple_slice {x : Value} {a : Option Addr} {n c : Nat} (h : x = .slice a n c) : simple x = true := by rw [h]; rfl
theorem cells_slice (a : Option Addr) (n c : Nat) : (Value.slice a n c).cells = #[.slice a n c] := rfl
theorem cells_int (k : IntKind) (z : Int) : (Value.int k z).cells = #[.int k z] := rfl
theorem cells_bool (z : Bool) : (Value.bool z).cells = #[.bool z] := rfl
end Go.Idl

namespace Go.Idl
variable {P : Program} {good : FuncId → Bool} {nat : Nats} {G : Nat → Bool} {rd : Bool}

open Classical in
/-- one round, as it is called just here -/
noncomputable def rkOne (l0 : Nat) (args0 : List Value) (H0 : IH) (Q0 : Value × IH → Prop) : Nat → List Value → IH → T (Value × IH) := fun l args H => if l = l0 ∧ args = args0 ∧ H = H0 then .sp Q0 .ret else .fail
theorem rkOne_eq {l : Nat} {args : List Value} {H : IH} {Q : Value × IH → Prop} : rkOne l args H Q l args H = .sp Q .ret := by unfold rkOne; rw [if_pos ⟨rfl, rfl, rfl⟩]
theorem rkOne_spec {l : Nat} {args : List Value} {H : IH} {Q : Value × IH → Prop} (h : RoundI P G l args H Q) : RkSpec P G (rkOne l args H Q) := by
  intro l' args' H' Q' hq
  unfold rkOne at hq
  split at hq
  · rename_i hc
    obtain ⟨rfl, rfl, rfl⟩ := hc
    exact h.mono fun r hr => hq r hr
  · exact hq.elim
theorem call_yield {o : Oper} {f : Operand} {args : Array Operand} {ts : Array TypeId} {env : Env} {H : IH} {l : Nat} (hf : env.val f = .func (.yield l) #[] #[]) : icallOp P o ⟨.value f, args, ts⟩ env H = some (.round l (mapR env.val args.toList) H) := by
  have : icall P ⟨.value f, args, ts⟩ env H = some (.round l (mapR env.val args.toList) H) := by
    unfold icall
    simp only [hf]
    rfl
  unfold icallOp
  rw [this]
theorem round_one {l : Nat} {args : List Value} {H : IH} {Q : Value × IH → Prop} : step1T (rkRun (rkOne l args H Q)) nat (some (.round l args H)) = .sp Q .ret := by
  rw [yM, rkOne_eq]; rfl

/-- what a round may turn: the blocks of T, and what is new -/
structure Fr (T : Nat → Prop) (H H' : IH) : Prop where
  size : H.size ≤ H'.size
  base : H'.base = H.base
  get : ∀ b, b < H.size → ¬ T b → H'.get b = H.get b
theorem Fr.refl (T : Nat → Prop) (H : IH) : Fr T H H := ⟨Nat.le_refl _, rfl, fun _ _ _ => rfl⟩
theorem Fr.trans {T T' : Nat → Prop} {H H1 H2 : IH} (a : Fr T H H1) (b : Fr T' H1 H2) (ht : ∀ x, x < H.size → T' x → T x) : Fr T H H2 :=
  ⟨Nat.le_trans a.size b.size, b.base.trans a.base, fun x hx hn => (b.get x (Nat.lt_of_lt_of_le hx a.size) fun h => hn (ht x hx h)).trans (a.get x hx hn)⟩
theorem Old.fr {H H' : IH} (h : Old H H') (T : Nat → Prop) : Fr T H H' := ⟨h.size, h.base, fun b hb _ => h.get b hb⟩
theorem intsOf_fr {T : Nat → Prop} {H H' : IH} (h : Fr T H H') {v : Value} {zs : List Int} (hz : intsOf H v = some zs) (hv : ∀ b, blkIs v b → ¬ T b) : intsOf H' v = some zs := by
  unfold intsOf at hz ⊢
  split at hz
  · exact hz
  · rename_i a n c
    split at hz
    · rename_i hn
      obtain ⟨h1, h2⟩ := hn
      rw [if_pos ⟨h1, Nat.lt_of_lt_of_le h2 h.size⟩]
      have hg := h.get a.block h2 (hv a.block rfl)
      have key : ∀ (n o : Nat), intsAt H' a.block o n = intsAt H a.block o n := by
        intro n
        induction n with
        | zero => intro o; rfl
        | succ n ih =>
          intro o
          unfold intsAt
          have : H'.load a.block o = H.load a.block o := by unfold IH.load; rw [hg]
          rw [this]
          split
          · rw [ih (o + 1)]
          · rfl
      rw [key]
      exact hz
    · cases hz
  · cases hz
theorem intsOf_blk {H : IH} {v : Value} {zs : List Int} (hz : intsOf H v = some zs) {b : Nat} (hb : blkIs v b) : b < H.size := by
  unfold intsOf at hz
  split at hz
  · exact hb.elim
  · split at hz
    · rename_i hn
      have : _ = b := hb
      rw [← this]
      exact hn.2
    · cases hz
  · cases hz

theorem Setup.rangeW (s : Setup P good nat G) {v : Operand} {ps : Array Tmp} {x y : Code} {env : Env} {H : IH} {Q : Out → Prop} {g : FuncId} {first captured : Array Value} (hv : opdOk G v = true) (hx : codeOk G true x = true) (hy : codeOk G true y = true)
    (hval : env.val v = .func (.func g) first captured) (hent : entered P g = true)
    (hk : ∀ lp : Loop, lp.state = .ready → lp.pending = none → lp.tmps.toList = env → lp.params = ps → lp.assign = x → lp.body = y → ∃ Qc, CallI P G g (appR first.toList (.func (.yield H.size) #[] #[] :: captured.toList)) (H.push (.loop lp)) Qc ∧
      ∀ r, Qc r → (afterRange (iex P good nat 2) H.size env r).holds Q) : Holds P G false (.rangeFunc v ps x y) env H Q := by
  obtain ⟨Qc, h1, h2⟩ := hk { state := .ready, pending := none, fn := 0, tmps := env.toArray, params := ps, assign := x, body := y, defers := 0 } rfl rfl rfl rfl rfl rfl
  exact s.rangeF hv hx hy hval hent h1 h2
theorem after_ok {l : Nat} {env : Env} {r : Value × IH} {lp : Loop} {run : Job → IH → T Out} {Q : Out → Prop} (hg : r.2.get l = some (.loop lp)) (hs : lp.state = .ready) (hp : lp.pending = none) (hq : ∀ lp', Q ⟨.normal, env, r.2.put l (.loop lp')⟩) :
    (afterRange run l env r).holds Q := by
  cases lp
  simp only at hs hp
  subst hs hp
  unfold afterRange
  rw [hg]
  exact hq _
/-- a round whose body goes on -/
theorem round_on {l : Nat} {args : List Value} {H : IH} {Q : Value × IH → Prop} {lp : Loop} {x y : Code} {env0 : Env} (hg : H.get l = some (.loop lp)) (hst : lp.state = .ready) (hpd : lp.pending = none) (hlen : args.length = lp.params.size) (hx : lp.assign = x) (hy : lp.body = y)
    (he : (lp.params.toList.zip args).foldl (fun e p => setR e p.1 p.2) lp.tmps.toList = env0)
    (ha : Holds P G true x env0 H fun o => o.e = .normal ∧ ∃ env1, WkL o.env env1 ∧ o.H.get l = some (.loop lp) ∧ ∀ lb : Loop, Holds P G true y env1 (o.H.put l (.loop lb)) fun s => s.H.get l = some (.loop lb) ∧
      ((s.e = .normal ∧ ∀ H', H' = s.H.put l (.loop lp) → Q (.bool true, H')) ∨ ((jumpOf s.e).isSome = true ∧ ∀ H', H' = s.H.put l (.loop { lp with state := .done, pending := jumpOf s.e }) → Q (.bool false, H')))) : RoundI P G l args H Q := by
  subst hx hy he
  refine roundI_of hg hst hlen ?_
  refine ha.mono fun o ⟨h1, env1, hw, h2, h3⟩ => ⟨h1, lp, h2, hst, ?_⟩
  refine .pre hw ((h3 _).mono fun s ⟨h4, h5⟩ => ⟨_, h4, ?_⟩)
  have hlp : ({ ({ lp with state := LoopState.busy } : Loop) with state := .ready, pending := none } : Loop) = lp := by
    cases lp
    simp only at hst hpd
    subst hst hpd
    rfl
  rcases h5 with ⟨he1, h6⟩ | ⟨hj, h6⟩
  · have h7 := h6 _ rfl
    have e0 : jumpOf s.e = none := by rw [he1]; rfl
    rw [e0]
    simp only [Option.isNone_none, if_true]
    rw [← hlp] at h7
    exact h7
  · have e1 : (jumpOf s.e).isNone = false := by
      cases hjj : jumpOf s.e with
      | none => rw [hjj] at hj; cases hj
      | some c => rfl
    have h7 := h6 _ rfl
    rw [e1]
    simp only [Bool.false_eq_true, if_false]
    exact h7
theorem after_ret {l : Nat} {env : Env} {r : Value × IH} {lp : Loop} {Q : Out → Prop} (hg : r.2.get l = some (.loop lp)) (hs : lp.state = .done) (hp : lp.pending = some .ret) (hq : ∀ lp', Q ⟨.ret, env, r.2.put l (.loop lp')⟩) :
    (afterRange (iex P good nat 2) l env r).holds Q := by
  cases lp
  simp only at hs hp
  subst hs hp
  unfold afterRange
  rw [hg]
  exact hq _
/-- old memory lies as it lay, but for the records of loops from a place on -/
structure OldL (n : Nat) (H H' : IH) : Prop where
  size : H.size ≤ H'.size
  base : H'.base = H.base
  get : ∀ b, b < H.size → (b < n ∨ ∀ lp, H.get b ≠ some (.loop lp)) → H'.get b = H.get b
theorem Old.l {H H' : IH} (h : Old H H') (n : Nat) : OldL n H H' := ⟨h.size, h.base, fun b hb _ => h.get b hb⟩
theorem OldL.put {n l : Nat} {H : IH} {lp lp' : Loop} (hl : n ≤ l) (hg : H.get l = some (.loop lp)) : OldL n H (H.put l (.loop lp')) := by
  refine ⟨Nat.le_refl _, rfl, fun b hb h => get_put_ne fun e => ?_⟩
  subst e
  rcases h with h | h
  · omega
  · exact h lp hg
end Go.Idl

namespace Go.Idl
variable {P : Program} {good : FuncId → Bool} {nat : Nats} {G : Nat → Bool} {rd : Bool}

def intV : Value → Bool
  | .int _ _ => true
  | _ => false
def simple2 : Value → Bool
  | .agg vs => vs.toList.all intV
  | v => simple v
theorem eqL_ints : ∀ (l : List Value), l.all intV = true → eqL (veqF 3) l l = true
  | [], _ => rfl
  | v :: l, h => by
    simp only [List.all_cons, Bool.and_eq_true] at h
    have h1 : veqF 3 v v = true := by
      cases v <;> first | cases h.1 | skip
      case int k n => show (k == k && n == n) = true; simp
    have h2 := eqL_ints l h.2
    have h3 : eqL (veqF 3) (v :: l) (v :: l) = cond (veqF 3 v v) (eqL (veqF 3) l l) false := rfl
    rw [h3, h1, h2]; rfl
theorem veq_simple2 {v : Value} (h : simple2 v = true) : veq v v = true := by
  cases v with
  | agg vs =>
    have : veq (.agg vs) (.agg vs) = eqL (veqF 3) vs.toList vs.toList := rfl
    rw [this]
    exact eqL_ints _ h
  | _ => exact veq_simple h
theorem idraw_ofY {ops : Array Oper} {env envA env1 : Env} {H HA H1 : IH} {hF : List IH} (hd : drawOk ops = true) (hA : iopsA P ops.toList env H = some (envA, HA)) (hal : (allocs ops).all (fun x => Nat.beq x 0) = true)
    (hst : staticX ops (loose ops) = true) (hlen : ∀ p ∈ loose ops, dstOf ops p.1 < envA.length ∧ ((ops[p.1]?).bind (·.dst)).isSome = true) (hs : ∀ p ∈ loose ops, simple2 (env1.at (dstOf ops p.1)) = true)
    (h : iopsXE P (iex P good nat 0) nat (ops.toList.map (·.dst)) (ops.toList.filter fun o => !isAlloc o) envA HA [] = .ret (env1, H1, hF)) (hok : LooseOK P ops env1 (HA :: hF.reverse) (loose ops)) : idraw P (iex P good nat 0) nat ops env H = some (env1, H1) := by
  obtain ⟨hs', rs, e1, e0, e2⟩ := dx_of (lo := loose ops) ops.toList 0 envA HA [] env1 H1 hF h
  have hrev : hF.reverse = hs' := by rw [e0]; simp
  rw [hrev] at hok
  unfold idraw
  rw [hA]
  simp only [e1, drawEnd]
  have hst : allR (stableAt P (loose ops) (HA :: hs')) rs = true := by
    rw [allR_iff]
    intro r hr
    obtain ⟨j, p, h1, h2, h3, h5, h6⟩ := e2.recs r hr
    have hm := findL_mem _ h3
    have hj : r.i = j := by omega
    have hoj : ops[r.i]? = some r.o := by rw [hj]; simpa using h2
    have hsx := List.all_eq_true.1 hst _ hm
    simp only [hoj] at hsx
    unfold stableAt
    simp only [h3]
    refine stable_of _ 0 fun q E hq hq1 hq2 => ?_
    have hL := hok.mem _ hm q E (by simpa using hq1) (by simpa using hq2) hq
    unfold LoadIs at hL
    simp only [hoj] at hL
    have hsm := hs _ hm
    obtain ⟨hlt, hsome⟩ := hlen _ hm
    simp only [hoj, Option.bind_some] at hsome
    obtain ⟨d, hdd⟩ := Option.isSome_iff_exists.1 hsome
    have hdst : dstOf ops r.i = d := by unfold dstOf; rw [hoj]; simp [hdd]
    simp only [hdst] at hlt hsm
    have hstat := stat_of hd
    have heq := h5 d hdd hlt (by
      rintro ⟨k', p', q1, q2, q3, q4⟩
      exact hstat.dst j k' r.o p' d (by omega) (by rw [← hj]; exact hoj) (by simpa using q2) hdd q4)
    rw [hdd] at hL
    split at hL
    · rename_i t x d' hop hd'
      cases hd'
      have hval : r.env.val x = env1.val x := by
        cases x with
        | tmp y =>
          rw [hop] at hsx
          simp only [List.all_eq_true] at hsx
          have := h6 y (by
            rintro ⟨k', p', q1, q2, q3, q4⟩
            have hmem : p' ∈ ops.toList.drop r.i := by
              rw [List.mem_iff_getElem?]
              exact ⟨k' - r.i, by rw [List.getElem?_drop, show r.i + (k' - r.i) = k' by omega]; exact q2⟩
            have := hsx p' hmem
            rw [q4] at this
            simp at this)
          exact this.symm
        | _ => rfl
      have e3 : iop P r.o r.env E = Step1.ofO E (iloadAt P t (r.env.val x) E) := by unfold iop; rw [hop]
      rw [e3, hval, hL]
      show veq r.v (env1.at d) = true
      rw [← heq]
      exact veq_simple2 hsm
    · exact hL.elim
  rw [hst, fresh0 _ _ hal]
  rfl
theorem Setup.drawY (s : Setup P good nat G) {id : Nat} {ops : Array Oper} {env envA env1 : Env} {H HA H1 : IH} {hF : List IH} {Q : Out → Prop} {ds : List (Option Tmp)} {lo : List (Nat × Nat × Nat)} {l : List Oper} (hok : opsOk G ops = true) (hd : drawOk ops = true)
    (hal : (allocs ops).all (fun x => Nat.beq x 0) = true) (hlo : loose ops = lo) (hl : staticX ops lo = true)
    (hlen : lo.all (fun p => ((ops[p.1]?).bind (·.dst)).isSome) = true) (hds : ops.toList.map (·.dst) = ds) (hl2 : (ops.toList.filter fun o => !isAlloc o) = l) (hA : iopsA P ops.toList env H = some (envA, HA))
    (h : iopsXE P (iex P good nat 0) nat ds l envA HA [] = .ret (env1, H1, hF)) (hs : (lo.all fun p => Nat.blt (dstOf ops p.1) envA.length && simple2 (env1.at (dstOf ops p.1))) = true) (hk : LooseOK P ops env1 (HA :: hF.reverse) lo) (hq : Q ⟨.normal, env1, H1⟩) : Holds P G rd (.region id ops true) env H Q := by
  subst hds hlo hl2
  have hs' : ∀ p ∈ loose ops, dstOf ops p.1 < envA.length ∧ simple2 (env1.at (dstOf ops p.1)) = true := fun p hp' => by
    have := List.all_eq_true.1 hs p hp'
    simp only [Bool.and_eq_true] at this
    exact ⟨Nat.le_of_ble_eq_true this.1, this.2⟩
  have hi := idraw_ofY hd hA hal hl (fun p hp' => ⟨(hs' p hp').1, List.all_eq_true.1 hlen p hp'⟩) (fun p hp' => (hs' p hp').2) h hk
  exact s.draw 0 hok hd hi hq
theorem Setup.drawYN (s : Setup P good nat G) {id : Nat} {ops : Array Oper} {env env1 : Env} {H H1 : IH} {hF : List IH} {Q : Out → Prop} {ds : List (Option Tmp)} {lo : List (Nat × Nat × Nat)} (hok : opsOk G ops = true) (hd : drawOk ops = true)
    (ha : (ops.toList.all fun o => !isAlloc o) = true) (hlo : loose ops = lo) (hl : staticX ops lo = true)
    (hlen : lo.all (fun p => ((ops[p.1]?).bind (·.dst)).isSome) = true) (hds : ops.toList.map (·.dst) = ds)
    (h : iopsXE P (iex P good nat 0) nat ds ops.toList env H [] = .ret (env1, H1, hF)) (hs : (lo.all fun p => Nat.blt (dstOf ops p.1) env.length && simple2 (env1.at (dstOf ops p.1))) = true) (hk : LooseOK P ops env1 (H :: hF.reverse) lo) (hq : Q ⟨.normal, env1, H1⟩) : Holds P G rd (.region id ops true) env H Q :=
  s.drawY hok hd (by rw [allocs_none ha]; rfl) hlo hl hlen hds (filter_noAlloc ha) (iopsA_none _ _ _ fun o ho => by have := List.all_eq_true.1 ha o ho; simpa using this) h hs hk hq
end Go.Idl
