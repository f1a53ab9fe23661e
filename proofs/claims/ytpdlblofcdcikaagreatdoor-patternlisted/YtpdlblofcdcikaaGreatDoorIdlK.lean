/- Contracts that say what holds behind a call; lists in memory; rules that follow the code. Conditions: none. -/
import Derived.Test.YtpdlblofcdcikaaGreatDoorIdlJ
set_option linter.unusedSimpArgs false
set_option linter.unusedVariables false
namespace Go.Idl
variable {P : Program} {good : FuncId → Bool} {nat : Nats} {G : Nat → Bool} {rd : Bool}

/-! ### Weaker environments -/
inductive WkL : List Value → List Value → Prop
  | nil : WkL [] []
  | same {v : Value} {l m : List Value} (h : WkL l m) : WkL (v :: l) (v :: m)
  | any {v : Value} {l m : List Value} (h : WkL l m) : WkL (v :: l) (unk :: m)
theorem WkL.refl : ∀ (l : List Value), WkL l l
  | [] => .nil
  | _ :: l => .same (WkL.refl l)
theorem WkL.rel {f : Inj} {l m : List Value} (h : WkL l m) : ∀ {x : List Value}, VRelL P f l x → VRelL P f m x := by
  induction h with
  | nil => intro x hx; exact hx
  | same _ ih =>
    intro x hx
    obtain ⟨v', x', rfl, h1, h2⟩ := hx.uncons
    exact .cons h1 (ih h2)
  | any _ ih =>
    intro x hx
    obtain ⟨v', x', rfl, h1, h2⟩ := hx.uncons
    exact .cons (.any v') (ih h2)
theorem WkL.trans {a b c : List Value} (h : WkL a b) : WkL b c → WkL a c := by
  induction h generalizing c with
  | nil => exact fun h => h
  | same _ ih =>
    intro k
    cases k with
    | same k => exact .same (ih k)
    | any k => exact .any (ih k)
  | any _ ih =>
    intro k
    cases k with
    | same k => exact .any (ih k)
    | any k => exact .any (ih k)
theorem Holds.pre {c : Code} {env env1 : Env} {H : IH} {Q : Out → Prop} (hw : WkL env env1) (h : Holds P G rd c env1 H Q) : Holds P G rd c env H Q :=
  fun B F f a w hF hr hR hG henv hm => h B F f a w hF hr hR hG (hw.rel henv) hm

/-- weaker than what is said -/
def Wk (R : Env → IH → Prop) : Env → IH → Prop := fun e h => ∃ e', WkL e e' ∧ R e' h
/-- a round of a loop: on, out of it, or returns; environments may be weaker -/
def LOw (I : Nat → Env → IH → Prop) (n : Nat) (id : Nat) (R : Env → IH → Prop) (Q : Out → Prop) (o : Out) : Prop :=
  (o.e = .normal ∧ ∃ m env', m < n ∧ WkL o.env env' ∧ I m env' o.H) ∨ (o.e = .exit id ∧ R o.env o.H) ∨ (o.e = .ret ∧ Q o)
theorem Holds.forW {id : Nat} {x : Code} {env : Env} {H : IH} {R : Env → IH → Prop} {Q : Out → Prop} (I : Nat → Env → IH → Prop) {n : Nat} {env0 : Env} (hw : WkL env env0) (h : I n env0 H) (hx : ∀ n env H, I n env H → Holds P G rd x env H (LOw I n id R Q)) :
    Holds P G rd (.block id (.loop x)) env H (NR R Q) :=
  .forR (fun n e h => ∃ e', WkL e e' ∧ I n e' h) (n := n) ⟨env0, hw, h⟩ fun n env H ⟨e', hw', hi⟩ => .pre hw' ((hx n e' H hi).mono fun o ho => by
    rcases ho with ⟨h1, m, env', h2, h3, h4⟩ | h | h
    · exact .inl ⟨h1, m, h2, env', h3, h4⟩
    · exact .inr (.inl h)
    · exact .inr (.inr h))

/-! ### Contracts that say what holds -/
open Classical in
noncomputable def ofS {α : Type} (pre : α → List Value → IH → Prop) (post : α → IH → Value → IH → Prop) : List Value → IH → T (Value × IH) := fun args H =>
  if h : ∃ x, pre x args H then .sp (fun r => post (Classical.choose h) H r.1 r.2) .ret else .fail
noncomputable def addS (nat : Nats) (g : FuncId) {α : Type} (pre : α → List Value → IH → Prop) (post : α → IH → Value → IH → Prop) : Nats := fun x => cond (Nat.beq x g) (some (ofS pre post)) (nat x)
theorem ofS_eq {α : Type} {pre : α → List Value → IH → Prop} {post : α → IH → Value → IH → Prop} (uniq : ∀ x y args H, pre x args H → pre y args H → x = y) {x : α} {args : List Value} {H : IH} (hx : pre x args H) :
    ofS pre post args H = .sp (fun r => post x H r.1 r.2) .ret := by
  have h : ∃ x, pre x args H := ⟨x, hx⟩
  unfold ofS
  rw [dif_pos h, uniq _ _ _ _ (Classical.choose_spec h) hx]
theorem enter_s {run : Job → IH → T Out} {g : FuncId} {α : Type} {pre : α → List Value → IH → Prop} {post : α → IH → Value → IH → Prop} (hn : nat g = some (ofS pre post)) (uniq : ∀ x y args H, pre x args H → pre y args H → x = y) {x : α} {args : List Value} {H : IH}
    (hx : pre x args H) : enterT run nat g args H = .sp (fun r => post x H r.1 r.2) .ret := by
  unfold enterT; rw [hn]; exact ofS_eq uniq hx
theorem addS_ext {g : FuncId} {α : Type} {pre : α → List Value → IH → Prop} {post : α → IH → Value → IH → Prop} (hn : NatExt nat) : NatExt (addS nat g pre post) := by
  intro x y h args H
  unfold addS at h
  cases hb : Nat.beq x g with
  | false => rw [hb] at h; exact hn x y h args H
  | true =>
    rw [hb] at h
    cases h
    unfold ofS
    split
    · exact trivial
    · exact trivial

/-- a call, wherever it stands -/
def CallI (P : Program) (G : Nat → Bool) (g : FuncId) (args : List Value) (H : IH) (Q : Value × IH → Prop) : Prop :=
  ∀ (args' : List Value) (f : Inj) (w : World), Rel P f H w → Glob G f → VRelL P f args args' → CallsIn Fence.wide 0 P g args'.toArray w (Comes P f H w Q)
theorem CallI.mono {g : FuncId} {args : List Value} {H : IH} {Q Q' : Value × IH → Prop} (h : CallI P G g args H Q) (hq : ∀ r, Q r → Q' r) : CallI P G g args H Q' := by
  intro args' f w hR hG ha
  refine CallsIn.mono (h args' f w hR hG ha) ?_
  rintro e w' ⟨v', r, f', k0, k1, k2, k3, k4⟩
  exact ⟨v', r, f', k0, hq r k1, k2, k3, k4⟩
theorem CallI.of {g : FuncId} {fn : Func} {c : Code} {args : List Value} {H : IH} {Q : Value × IH → Prop} {N : Nat} (hfn : P.funcs[g]? = some fn) (hb : fn.body = some c) (hN : fn.ntmps = N)
    (h : Holds P G false c (args ++ List.replicate (N - args.length) undef) H fun o => (o.e = .normal ∨ o.e = .ret) ∧ ∃ v, iresults P fn o.env o.H = some v ∧ Q (v, o.H)) : CallI P G g args H Q := by
  subst hN
  exact fun args' f w hR hG ha => call_holds hfn hb hR hG ha h

theorem Setup.addS (s : Setup P good nat G) {g : FuncId} {α : Type} (pre : α → List Value → IH → Prop) (post : α → IH → Value → IH → Prop)
    (hk : ∀ x args H, pre x args H → CallI P G g args H fun r => post x H r.1 r.2) : Setup P good (Go.Idl.addS nat g pre post) G := by
  refine ⟨s.mix, addS_ext s.ext, ?_, s.good⟩
  intro x y h args args' H f w Q hR hG ha hq
  unfold Go.Idl.addS at h
  cases hbx : Nat.beq x g with
  | false => rw [hbx] at h; exact s.spec x y h args args' H f w Q hR hG ha hq
  | true =>
    rw [hbx] at h
    have hx : x = g := Nat.eq_of_beq_eq_true hbx
    subst hx
    cases h
    unfold ofS at hq
    split at hq
    · rename_i he
      exact (hk _ args H (Classical.choose_spec he)).mono (fun r hr => hq r hr) args' f w hR hG ha
    · exact hq.elim

/-! ### Regions with such calls -/
theorem thenE_sp {run : Job → IH → T Out} {ds : List (Option Tmp)} {d : Option Tmp} {l : List Oper} {env : Env} {p : Value × IH → Prop} {k : Value × IH → T (Value × IH)} {Q : Env × IH → Prop} :
    (thenE P run nat ds d l env (.sp p k)).holds Q = ∀ v H, p (v, H) → (thenE P run nat ds d l env (k (v, H))).holds Q := by
  unfold thenE
  apply propext
  constructor
  · intro h v H hp; exact h (v, H) hp
  · intro h r hr; exact h r.1 r.2 hr
theorem holds_ret {α : Type} {Q : α → Prop} {a : α} : (T.ret a).holds Q = Q a := rfl
theorem Setup.regS (s : Setup P good nat G) {id : Nat} {ops : Array Oper} {y : Code} {env : Env} {H : IH} {Q : Out → Prop} {ds : List (Option Tmp)} (hok : opsOk G ops = true) (hds : ops.toList.map (·.dst) = ds)
    (h : (iopsE P (iex P good nat 0) nat ds ops.toList env H).holds fun r => Holds P G rd y r.1 r.2 Q) : Holds P G rd (.seq (.region id ops false) y) env H Q := by
  refine Holds.seqN (Q1 := fun e h => Holds P G rd y e h Q) (s.run 1 (by simp [codeOk, hok]) ?_) fun e h hy => hy
  have e : iex P good nat (0 + 1) (.code (.region id ops false) env) H = (iops P (iex P good nat 0) nat ops ops.toList env H).bind fun r => .ret ⟨.normal, r.1, r.2⟩ := rfl
  rw [e, T.holds_bind, iopsE_eq, hds]
  exact T.holds_mono (fun r hr => ⟨rfl, hr⟩) _ h
theorem Setup.regSZ (s : Setup P good nat G) {id : Nat} {ops : Array Oper} {env : Env} {H : IH} {Q : Out → Prop} {ds : List (Option Tmp)} (hok : opsOk G ops = true) (hds : ops.toList.map (·.dst) = ds)
    (h : (iopsE P (iex P good nat 0) nat ds ops.toList env H).holds fun r => Q ⟨.normal, r.1, r.2⟩) : Holds P G rd (.region id ops false) env H Q := by
  refine s.run 1 (by simp [codeOk, hok]) ?_
  have e : iex P good nat (0 + 1) (.code (.region id ops false) env) H = (iops P (iex P good nat 0) nat ops ops.toList env H).bind fun r => .ret ⟨.normal, r.1, r.2⟩ := rfl
  rw [e, T.holds_bind, iopsE_eq, hds]
  exact T.holds_mono (fun r hr => hr) _ h

/-! ### Rounds of a range over a function, as a contract -/
def RoundI (P : Program) (G : Nat → Bool) (l : Nat) (args : List Value) (H : IH) (Q : Value × IH → Prop) : Prop :=
  ∀ (args' : List Value) (f : Inj) (w : World) (e : Emb), Rel P f H w → Glob G f → f l = some e → VRelL P f args args' →
    ∃ fn tmps assign body, (Instr.yield e.r args'.toArray).run P w = .ok (.round e.r fn tmps assign body) w ∧ RoundIn Fence.wide 0 P e.r fn tmps assign body w (Comes P f H w Q)
theorem RoundI.mono {l : Nat} {args : List Value} {H : IH} {Q Q' : Value × IH → Prop} (h : RoundI P G l args H Q) (hq : ∀ r, Q r → Q' r) : RoundI P G l args H Q' := by
  intro args' f w e hR hG he ha
  obtain ⟨fn, tmps, assign, body, h1, h2⟩ := h args' f w e hR hG he ha
  refine ⟨fn, tmps, assign, body, h1, RoundIn.mono h2 ?_⟩
  rintro e w' ⟨v', r, f', k0, k1, k2, k3, k4⟩
  exact ⟨v', r, f', k0, hq r k1, k2, k3, k4⟩
noncomputable def rkRun (rk : Nat → List Value → IH → T (Value × IH)) : Job → IH → T Out
  | .round l args, H => (rk l args H).bind fun r => .ret ⟨.normal, [r.1], r.2⟩
  | _, _ => .fail
def RkSpec (P : Program) (G : Nat → Bool) (rk : Nat → List Value → IH → T (Value × IH)) : Prop := ∀ l args H Q, (rk l args H).holds Q → RoundI P G l args H Q
theorem rk_call (s : Setup P good nat G) {rk : Nat → List Value → IH → T (Value × IH)} : CallSpec P G (enterT (rkRun rk) nat) := by
  intro g args args' H f w Q hR hG ha h
  unfold enterT at h
  split at h
  · rename_i k hk; exact s.spec g k hk args args' H f w Q hR hG ha h
  · exact h.elim
theorem rk_bind {t : T (Value × IH)} {Q : Value × IH → Prop} (h : ((t.bind fun r => (.ret ⟨.normal, [r.1], r.2⟩ : T Out)).bind callOut).holds Q) : t.holds Q := by
  rw [T.holds_bind, T.holds_bind] at h
  exact T.holds_mono (fun r hr => hr) _ h
theorem rk_round {rk : Nat → List Value → IH → T (Value × IH)} (h : RkSpec P G rk) : RoundSpec P G (rkRun rk) := by
  intro l args args' H f w e Q hR hG he ha hq
  exact h l args H Q (rk_bind hq) args' f w e hR hG he ha
theorem Setup.regR (s : Setup P good nat G) {rk : Nat → List Value → IH → T (Value × IH)} (hrk : RkSpec P G rk) {id : Nat} {ops : Array Oper} {env : Env} {H : IH} {Q : Out → Prop} {ds : List (Option Tmp)} (hok : opsOk G ops = true) (hds : ops.toList.map (·.dst) = ds)
    (h : (iopsE P (rkRun rk) nat ds ops.toList env H).holds fun r => Q ⟨.normal, r.1, r.2⟩) : Holds P G rd (.region id ops false) env H Q := by
  intro B F f a w hF hr hR hG henv hm
  rw [← hds, ← iopsE_eq] at h
  refine wpIn_region_list (ops_sound hF (rk_call s) (rk_round hrk) ops.toList env H f a w _ hR hG henv hm (fun o ho => List.all_eq_true.1 (opsOk_mono hG hok) o ho) h ?_)
  intro r a' w' f' hq h1 h2 h3 h4
  exact ⟨⟨.normal, r.1, r.2⟩, f', hq, rfl, h1, h2, h3, h4⟩
theorem Setup.regRS (s : Setup P good nat G) {rk : Nat → List Value → IH → T (Value × IH)} (hrk : RkSpec P G rk) {id : Nat} {ops : Array Oper} {y : Code} {env : Env} {H : IH} {Q : Out → Prop} {ds : List (Option Tmp)} (hok : opsOk G ops = true) (hds : ops.toList.map (·.dst) = ds)
    (h : (iopsE P (rkRun rk) nat ds ops.toList env H).holds fun r => Holds P G rd y r.1 r.2 Q) : Holds P G rd (.seq (.region id ops false) y) env H Q :=
  Holds.seqN (Q1 := fun e h => Holds P G rd y e h Q) (s.regR hrk hok hds (T.holds_mono (fun r hr => ⟨rfl, hr⟩) _ h)) fun e h hy => hy
theorem step_roundR {rk : Nat → List Value → IH → T (Value × IH)} {l : Nat} {args : List Value} {H : IH} : step1T (rkRun rk) nat (some (.round l args H)) = ((rk l args H).bind fun r => (.ret ⟨.normal, [r.1], r.2⟩ : T Out)).bind callOut := rfl
theorem round_sp {p : Value × IH → Prop} : (((T.sp p .ret : T (Value × IH)).bind fun r => (.ret ⟨.normal, [r.1], r.2⟩ : T Out)).bind callOut) = .sp p .ret := rfl

open Classical in
/-- what rounds of one loop do -/
noncomputable def rkOf {α : Type} (l0 : Nat) (pre : α → List Value → IH → Prop) (post : α → IH → Value → IH → Prop) : Nat → List Value → IH → T (Value × IH) := fun l args H => if l = l0 then ofS pre post args H else .fail
theorem rkOf_eq {α : Type} {l0 : Nat} {pre : α → List Value → IH → Prop} {post : α → IH → Value → IH → Prop} (uniq : ∀ x y args H, pre x args H → pre y args H → x = y) {x : α} {args : List Value} {H : IH} (hx : pre x args H) :
    rkOf l0 pre post l0 args H = .sp (fun r => post x H r.1 r.2) .ret := by
  unfold rkOf; rw [if_pos rfl]; exact ofS_eq uniq hx
theorem rkOf_spec {α : Type} {l0 : Nat} {pre : α → List Value → IH → Prop} {post : α → IH → Value → IH → Prop} (h : ∀ x args H, pre x args H → RoundI P G l0 args H fun r => post x H r.1 r.2) : RkSpec P G (rkOf l0 pre post) := by
  intro l args H Q hq
  unfold rkOf at hq
  split at hq
  · rename_i hl
    subst hl
    unfold ofS at hq
    split at hq
    · rename_i he
      exact (h _ args H (Classical.choose_spec he)).mono fun r hr => hq r hr
    · exact hq.elim
  · exact hq.elim

theorem roundI_of {l : Nat} {args : List Value} {H : IH} {Q : Value × IH → Prop} {lp : Loop} (hg : H.get l = some (.loop lp)) (hst : lp.state = .ready) (hlen : args.length = lp.params.size)
    (hb : Holds P G true lp.assign ((lp.params.toList.zip args).foldl (fun e p => setR e p.1 p.2) lp.tmps.toList) H fun o => o.e = .normal ∧ ∃ lp1, o.H.get l = some (.loop lp1) ∧ lp1.state = .ready ∧
      Holds P G true lp.body o.env (o.H.put l (.loop { lp1 with state := .busy })) fun s => ∃ lp2, s.H.get l = some (.loop lp2) ∧
        Q (.bool (jumpOf s.e).isNone, s.H.put l (.loop { lp2 with state := if (jumpOf s.e).isNone then .ready else .done, pending := jumpOf s.e }))) : RoundI P G l args H Q := by
  intro args' f w e hR hG he ha
  obtain ⟨hro, lp', h1, g1, g2, g3, g4, g5, g6, g7, g8, g9, g10⟩ := loop_obj hR he hg
  refine ⟨lp'.fn, _, lp'.assign, lp'.body, run_yield h1 (by rw [g3, ← hlen, ha.1]; simp), ?_⟩
  have henv : VRelL P f ((lp.params.toList.zip args).foldl (fun e p => setR e p.1 p.2) lp.tmps.toList) ((lp'.params.zip args'.toArray).foldl (fun tmps (t, a) => tmps.setIfInBounds t a) lp'.tmps).toList := by
    rw [← Array.foldl_toList, Array.toList_zip]
    have := fold_arr (lp'.params.toList.zip args') lp'.tmps
    simp only [] at this ⊢
    rw [this, g3]
    exact fold_set lp.params.toList args args' _ _ ha g6
  refine roundIn_of_wpIn (F := Fence.wide) trivial ?_
  rw [g4, g5]
  refine wpIn_mono (hb w.heap.size (Fence.wide.inRound e.r) f _ w (free_round _) rfl hR hG henv (Nat.le_refl _)) ?_
  rintro ex a1 w1 ⟨o, f1, ⟨heo, lp1, hg1, hst1, hq⟩, rfl, k1, k2, k3, k4⟩
  rw [heo]
  have he1 := k2.le _ _ he
  obtain ⟨_, lp1', q1, q2, q3, q4, q5, q6, q7, q8, q9, q10, q11⟩ := loop_obj k1 he1 hg1
  refine ⟨_, run_beginRound q1 (by rw [q2, hst1]), ?_⟩
  obtain ⟨p1, p2⟩ := put_loop .busy lp1.pending q10 k1 he1 hg1 q1
  have e1 : ({ lp1' with state := .busy, pending := lp1.pending } : Loop) = { lp1' with state := .busy } := by rw [← q3]
  have e2 : ({ lp1 with state := .busy, pending := lp1.pending } : Loop) = { lp1 with state := .busy } := rfl
  rw [e1, e2] at p1
  rw [e1] at p2
  have hG1 := hG.mono k2.le
  refine wpIn_mono (hq w.heap.size (Fence.wide.inRound e.r) f1 a1 _ (free_round _) rfl p1 hG1 k3 (Marks.grow p2 _ k4)) ?_
  rintro ex2 a2 w2 ⟨s, f2, ⟨lp2, hg2, hs⟩, rfl, s1, s2, s3, s4⟩
  have he2 := s2.le _ _ he1
  obtain ⟨_, lp2', t1, t2, t3, t4, t5, t6, t7, t8, t9, t10, t11⟩ := loop_obj s1 he2 hg2
  have hjump : ∀ c, jumpOf s.e = some c → isJump c = true := by
    intro c hc
    cases hse : s.e <;> rw [hse] at hc <;> simp [jumpOf] at hc <;> subst hc <;> rfl
  obtain ⟨u1, u2⟩ := put_loop (if (jumpOf s.e).isNone then .ready else .done) (jumpOf s.e) hjump s1 he2 hg2 t1
  have fin : ∃ v w', (Instr.endRound e.r (jumpOf s.e)).run P w2 = .ok v w' ∧ Comes P f H w Q (.returned v) w' :=
    ⟨_, _, run_endRound (jumpOf s.e) t1, ⟨_, _, f2, rfl, hs, u1, ((k2.trans p2).trans s2).trans u2, .base _ rfl⟩⟩
  cases hse : s.e with
  | normal => rw [hse] at fin; exact fin
  | ret => rw [hse] at fin; exact fin
  | exit id => rw [hse] at fin; exact fin
  | goto t => rw [hse] at fin; exact fin

/-- a range over a function, by the call's contract -/
theorem Setup.rangeF (s : Setup P good nat G) {v : Operand} {ps : Array Tmp} {x y : Code} {env : Env} {H : IH} {Q : Out → Prop} {g : FuncId} {first captured : Array Value} {Qc : Value × IH → Prop} (hv : opdOk G v = true) (hx : codeOk G true x = true) (hy : codeOk G true y = true)
    (hval : env.val v = .func (.func g) first captured) (hent : entered P g = true)
    (hcall : CallI P G g (appR first.toList (.func (.yield H.size) #[] #[] :: captured.toList)) (H.push (.loop { state := .ready, pending := none, fn := 0, tmps := env.toArray, params := ps, assign := x, body := y, defers := 0 })) Qc)
    (hq : ∀ r, Qc r → (afterRange (iex P good nat 2) H.size env r).holds Q) : Holds P G false (.rangeFunc v ps x y) env H Q := by
  classical
  intro B F f a w hF hr hR hG henv hm
  let L : List Value := appR first.toList (.func (.yield H.size) #[] #[] :: captured.toList)
  let HL : IH := H.push (.loop { state := .ready, pending := none, fn := 0, tmps := env.toArray, params := ps, assign := x, body := y, defers := 0 })
  let nat1 : Nats := fun g1 => if g1 = g then some (fun args H1 => if args = L ∧ H1 = HL then .sp Qc .ret else .fail) else none
  have hs1 : NatSpec P G nat1 := by
    intro g1 k hk args args' H1 f1 w1 Q1 hR1 hG1 ha1 hq1
    simp only [nat1] at hk
    split at hk
    · rename_i hg1
      subst hg1
      cases hk
      change T.holds Q1 (if args = L ∧ H1 = HL then T.sp Qc T.ret else T.fail) at hq1
      split at hq1
      · rename_i hc
        obtain ⟨rfl, rfl⟩ := hc
        exact (hcall.mono fun r hr => hq1 r hr) args' f1 w1 hR1 hG1 ha1
      · exact hq1.elim
    · cases hk
  let run1 : Job → IH → T Out := fun j H => match j with
    | .code c env => iex P good nat 2 (.code c env) H
    | _ => .fail
  have hrun0 : CodeSpec P G (iex P good nat 2) := (sound_all s.ext s.spec s.good (fun _ _ hc hr => draw_sound s.mix hc hr) 2).1
  have hrun : CodeSpec P G run1 := hrun0
  have hc : CallSpec P G (enterT run1 nat1) := by
    intro g1 args args' H1 f1 w1 Q1 hR1 hG1 ha1 hq1
    unfold enterT at hq1
    split at hq1
    · rename_i k hk; exact hs1 g1 k hk args args' H1 f1 w1 Q1 hR1 hG1 ha1 hq1
    · exact hq1.elim
  have hr' : F.round = none := by
    cases h : F.round with
    | none => rfl
    | some l => rw [h] at hr; cases hr
  refine range_sound hc hrun hF hr' hR hG (opdOk_mono hG hv) (codeOk_mono hG _ _ hx) (codeOk_mono hG _ _ hy) henv hm ?_
  unfold rangeStep
  rw [hval]
  simp only [hent, cond_true]
  unfold enterT
  simp only [nat1, if_true, L, HL, and_self]
  exact fun r hr => hq r hr
end Go.Idl

namespace Go.Idl
variable {P : Program}

noncomputable def infoOk (P : Program) (el : TypeId) : Bool := match P.info? el with
  | some info => info.size == 1 && decide (info.bytes ≤ 64) && ((zeroT P el).map (·.cells.size)) == some info.size
  | none => false
/-- a slice type whose elements have one cell -/
structure El (P : Program) (st el : TypeId) : Prop where
  und : P.underlying st = some (.slice el)
  sz : szT P el = some 1
  ag : aggT P el = some false
  ok : infoOk P el = true
theorem El.info {P : Program} {st el : TypeId} (h : El P st el) : ∃ info, P.info? el = some info ∧ info.size = 1 ∧ info.bytes ≤ 64 ∧ ((zeroT P el).map (·.cells.size)) = some info.size := by
  have := h.ok
  unfold infoOk at this
  split at this
  · rename_i info hi
    simp only [Bool.and_eq_true, beq_iff_eq, decide_eq_true_eq] at this
    exact ⟨info, hi, this.1.1, this.1.2, this.2⟩
  · cases this

/-- a list that was made by appending: the whole of its block -/
def Grown (H : IH) (el : TypeId) (lo : Nat) (v : Value) (vs : List Value) : Prop :=
  (vs = [] ∧ v = .slice none 0 0) ∨ ∃ b, lo ≤ b ∧ b < H.size ∧ v = .slice (some ⟨b, 0, some el⟩) vs.length vs.length ∧ H.get b = some (.cells vs.toArray el roomFz)
/-- the block of a list -/
def blkIs : Value → Nat → Prop
  | .slice (some a) _ _, b => a.block = b
  | _, _ => False
theorem Grown.nil (H : IH) (el : TypeId) (lo : Nat) : Grown H el lo (.slice none 0 0) [] := .inl ⟨rfl, rfl⟩
theorem Grown.len {H : IH} {el : TypeId} {lo : Nat} {v : Value} {vs : List Value} (h : Grown H el lo v vs) : ∃ a, v = .slice a vs.length vs.length := by
  rcases h with ⟨rfl, rfl⟩ | ⟨b, _, _, rfl, _⟩
  · exact ⟨none, rfl⟩
  · exact ⟨_, rfl⟩
theorem Grown.keep {H H' : IH} {el : TypeId} {lo : Nat} {v : Value} {vs : List Value} (h : Grown H el lo v vs) (hs : H.size ≤ H'.size) (hk : ∀ b, lo ≤ b → b < H.size → blkIs v b → H'.get b = H.get b) : Grown H' el lo v vs := by
  rcases h with ⟨rfl, rfl⟩ | ⟨b, h1, h2, rfl, h3⟩
  · exact .nil _ _ _
  · exact .inr ⟨b, h1, Nat.lt_of_lt_of_le h2 hs, rfl, (hk b h1 h2 rfl).trans h3⟩
theorem Grown.lower {H : IH} {el : TypeId} {lo lo' : Nat} {v : Value} {vs : List Value} (h : Grown H el lo v vs) (hl : lo' ≤ lo) : Grown H el lo' v vs := by
  rcases h with ⟨rfl, rfl⟩ | ⟨b, h1, h2, rfl, h3⟩
  · exact .nil _ _ _
  · exact .inr ⟨b, Nat.le_trans hl h1, h2, rfl, h3⟩

theorem loads_all {H : IH} {b : Nat} {vs : List Value} {el : TypeId} {fz : Nat × Nat} (h : H.get b = some (.cells vs.toArray el fz)) : H.loads b 0 vs.length = some vs := by
  unfold IH.loads
  rw [h]
  simp
theorem oneCell_all {vs : List Value} (h : ∀ v ∈ vs, oneCell v = true) : vs.all oneCell = true := List.all_eq_true.2 h

theorem get_push2 {H : IH} {o o' : Obj} {b : Nat} (hb : b < H.size) : ((H.push o).push o').get b = H.get b := by
  rw [IH.get_push, IH.get_push, if_neg (by simp only [IH.size_push]; omega), if_neg (by omega)]
theorem get_push_lt {H : IH} {o : Obj} {b : Nat} (hb : b < H.size) : (H.push o).get b = H.get b := by rw [IH.get_push, if_neg (by omega)]
theorem get_push_eq {H : IH} {o : Obj} : (H.push o).get H.size = some o := by rw [IH.get_push, if_pos rfl]
theorem get_put_ne {H : IH} {o : Obj} {b x : Nat} (h : x ≠ b) : (H.put b o).get x = H.get x := by rw [IH.get_put, if_neg h]
theorem get_put_eq {H : IH} {o : Obj} {b : Nat} : (H.put b o).get b = some o := by rw [IH.get_put, if_pos rfl]

/-- one element more -/
theorem Grown.app {st el : TypeId} (he : El P st el) {H : IH} {lo : Nat} {v x : Value} {vs : List Value} (h : Grown H el lo v vs) (hx : oneCell x = true) (hall : vs.all oneCell = true) (hn : vs.length < 65536) (hb : H.base ≤ lo) (hlo : lo ≤ H.size) :
    ∃ v' H', iappend P #[st, st] [v, .slice (some ⟨H.size, 0, none⟩) 1 1] (H.push (.cells #[x] el)) = some (.val v' H') ∧ Grown H' el lo v' (vs ++ [x]) ∧ H'.size = H.size + 2 ∧ H'.base = H.base ∧
      (∀ b, b < H.size → ¬ blkIs v b → H'.get b = H.get b) ∧ ∀ b, blkIs v' b → H.size ≤ b := by
  obtain ⟨info, hi, hsz, hby, hz⟩ := he.info
  have hx1 : (List.all [x] oneCell) = true := by simp [hx]
  have hnews : inews P el info (.slice el) (.slice (some ⟨H.size, 0, none⟩) 1 1) (H.push (.cells #[x] el)) = some (1, [x]) := by
    unfold inews
    simp only [lenOfI, strOk, cond_true, firstI, hsz, IH.loads, IH.get_push, if_true]
    simp
  have hc : ∀ n, n < 65536 → (n + 1 ≤ 2 ^ 40 && (n + 1) * info.bytes ≤ 2 ^ 45 && [x].all oneCell && ((zeroT P el).map (·.cells.size)) == some info.size) = true := by
    intro n hn
    simp only [hz, beq_self_eq_true, Bool.and_true, hx1, Bool.and_eq_true, decide_eq_true_eq]
    refine ⟨by omega, ?_⟩
    have : (n + 1) * info.bytes ≤ 65536 * 64 := Nat.mul_le_mul (by omega) hby
    omega
  rcases h with ⟨rfl, rfl⟩ | ⟨b, h1, h2, rfl, h3⟩
  · refine ⟨.slice (some ⟨H.size + 1, 0, some el⟩) 1 1, (H.push (.cells #[x] el)).push (.cells #[x] el roomFz), ?_, .inr ⟨H.size + 1, by omega, by simp, by simp, ?_⟩, by simp, rfl, fun b hb' _ => get_push2 hb', ?_⟩
    · unfold iappend
      simp only [he.und, hi, hnews, iappend2]
      rw [if_neg (by omega)]
      unfold igrow
      rw [if_pos (hc 0 (by omega))]
      simp [firstI, ikill]
    · have := get_push_eq (H := H.push (.cells #[x] el)) (o := .cells #[x] el roomFz)
      simpa using this
    · intro b hb'
      have : H.size + 1 = b := hb'
      omega
  · have hne : b ≠ (H.push (.cells #[x] el)).size := by simp; omega
    have hg : (H.push (.cells #[x] el)).get b = some (.cells vs.toArray el roomFz) := by rw [get_push_lt h2]; exact h3
    have hold : (H.push (.cells #[x] el)).loads b 0 (vs.length * info.size) = some vs := by rw [hsz, Nat.mul_one]; exact loads_all hg
    refine ⟨.slice (some ⟨H.size + 1, 0, some el⟩) (vs.length + 1) (vs.length + 1), ((H.push (.cells #[x] el)).put b deadObj).push (.cells (vs ++ [x]).toArray el roomFz), ?_, .inr ⟨H.size + 1, by omega, ?_, by simp, ?_⟩, ?_, rfl, ?_, ?_⟩
    · unfold iappend
      simp only [he.und, hi, hnews, iappend2]
      rw [if_neg (by omega)]
      unfold igrow
      rw [if_pos (hc vs.length hn)]
      have hk : ikill el (H.push (.cells #[x] el)) (some ⟨b, 0, some el⟩) = some ((H.push (.cells #[x] el)).put b deadObj) := by
        unfold ikill
        simp only [hg]
        rw [if_pos]
        have hfree : freeFz roomFz = true := rfl
        have hbb : (H.push (.cells #[x] el)).base ≤ b := Nat.le_trans hb h1
        simp [hfree, hbb]
      simp only [firstI, hold, hk]
      rfl
    · show H.size + 1 < (H.size + 1) + 1
      omega
    · have := get_push_eq (H := (H.push (.cells #[x] el)).put b deadObj) (o := .cells (vs ++ [x]).toArray el roomFz)
      exact this
    · rfl
    · intro b' hb' hnb
      have hne' : b' ≠ b := fun h => hnb h.symm
      have e1 : (((H.push (.cells #[x] el)).put b deadObj).push (.cells (vs ++ [x]).toArray el roomFz)).get b' = ((H.push (.cells #[x] el)).put b deadObj).get b' := get_push_lt (by show b' < H.size + 1; omega)
      rw [e1, get_put_ne hne', get_push_lt hb']
    · intro b' hb'
      have : H.size + 1 = b' := hb'
      omega

/-! ### Rows of integers -/
/-- a list of integers that lies in a block of its own -/
def RowAt (H : IH) (el : TypeId) (lo hi : Nat) (v : Value) (zs : List Int) : Prop :=
  (zs = [] ∧ v = .slice none 0 0) ∨ ∃ b sp cap fz, lo ≤ b ∧ b < hi ∧ b < H.size ∧ v = .slice (some ⟨b, 0, sp⟩) zs.length cap ∧ H.get b = some (.cells (zs.map (Value.int .i64)).toArray el fz)
theorem Grown.row {H : IH} {el : TypeId} {lo : Nat} {v : Value} {zs : List Int} (h : Grown H el lo v (zs.map (Value.int .i64))) : RowAt H el lo H.size v zs := by
  rcases h with ⟨h1, rfl⟩ | ⟨b, h1, h2, rfl, h3⟩
  · exact .inl ⟨by simpa using h1, rfl⟩
  · exact .inr ⟨b, some el, _, roomFz, h1, h2, h2, by rw [List.length_map], h3⟩
theorem RowAt.keep {H H' : IH} {el : TypeId} {lo hi : Nat} {v : Value} {zs : List Int} (h : RowAt H el lo hi v zs) (hs : H.size ≤ H'.size) (hk : ∀ b c fz, lo ≤ b → b < hi → b < H.size → H.get b = some (.cells c el fz) → blkIs v b → H'.get b = H.get b) : RowAt H' el lo hi v zs := by
  rcases h with ⟨rfl, rfl⟩ | ⟨b, sp, cap, fz, h1, hh, h2, rfl, h3⟩
  · exact .inl ⟨rfl, rfl⟩
  · exact .inr ⟨b, sp, cap, fz, h1, hh, Nat.lt_of_lt_of_le h2 hs, rfl, (hk b _ _ h1 hh h2 h3 rfl).trans h3⟩
theorem RowAt.lower {H : IH} {el : TypeId} {lo lo' hi hi' : Nat} {v : Value} {zs : List Int} (h : RowAt H el lo hi v zs) (hl : lo' ≤ lo) (hr : hi ≤ hi') : RowAt H el lo' hi' v zs := by
  rcases h with ⟨rfl, rfl⟩ | ⟨b, sp, cap, fz, h1, hh, h2, rfl, h3⟩
  · exact .inl ⟨rfl, rfl⟩
  · exact .inr ⟨b, sp, cap, fz, Nat.le_trans hl h1, Nat.lt_of_lt_of_le hh hr, h2, rfl, h3⟩
theorem RowAt.ints {H : IH} {el : TypeId} {lo hi : Nat} {v : Value} {zs : List Int} (h : RowAt H el lo hi v zs) (hn : zs.length ≤ 1000) : intsOf H v = some zs := by
  rcases h with ⟨rfl, rfl⟩ | ⟨b, sp, cap, fz, h1, hh, h2, rfl, h3⟩
  · rfl
  · unfold intsOf
    simp only
    rw [if_pos ⟨hn, h2⟩]
    have key : ∀ (n o : Nat) (ys : List Int), zs.drop o = ys → ys.length = n → intsAt H b o n = some ys := by
      intro n
      induction n with
      | zero => intro o ys _ hl; have : ys = [] := List.length_eq_zero_iff.1 hl; subst this; rfl
      | succ n ih =>
        intro o ys hd hl
        cases ys with
        | nil => simp at hl
        | cons y ys =>
          have hy : zs[o]? = some y := by
            have := congrArg (fun l => l[0]?) hd
            simpa using this
          have hload : H.load b o = some (.int .i64 y) := by
            unfold IH.load
            rw [h3]
            simp [hy]
          unfold intsAt
          rw [hload]
          simp only
          have hd' : zs.drop (o + 1) = ys := by
            have := congrArg (List.drop 1) hd
            simpa [List.drop_drop] using this
          rw [ih (o + 1) ys hd' (by simpa using hl)]
          rfl
    exact key zs.length 0 zs (by simp) rfl
/-- a list of such rows -/
def IRows (H : IH) (el : TypeId) (lo hi : Nat) (rows : List Value) (zss : List (List Int)) : Prop := rows.length = zss.length ∧ ∀ (i : Nat) r zs, rows[i]? = some r → zss[i]? = some zs → RowAt H el lo hi r zs
theorem IRows.nil (H : IH) (el : TypeId) (lo hi : Nat) : IRows H el lo hi [] [] := ⟨rfl, fun i r zs h => by simp at h⟩
theorem IRows.keep {H H' : IH} {el : TypeId} {lo hi : Nat} {rows : List Value} {zss : List (List Int)} (h : IRows H el lo hi rows zss) (hs : H.size ≤ H'.size) (hk : ∀ b c fz, lo ≤ b → b < hi → b < H.size → H.get b = some (.cells c el fz) → H'.get b = H.get b) : IRows H' el lo hi rows zss :=
  ⟨h.1, fun i r zs h1 h2 => (h.2 i r zs h1 h2).keep hs fun b c fz q1 q2 q3 q4 _ => hk b c fz q1 q2 q3 q4⟩
theorem IRows.snoc {H : IH} {el : TypeId} {lo hi : Nat} {rows : List Value} {zss : List (List Int)} {r : Value} {zs : List Int} (h : IRows H el lo hi rows zss) (hr : RowAt H el lo hi r zs) : IRows H el lo hi (rows ++ [r]) (zss ++ [zs]) := by
  refine ⟨by simp [h.1], fun i r' zs' h1 h2 => ?_⟩
  by_cases hi : i < rows.length
  · rw [List.getElem?_append_left hi] at h1
    rw [List.getElem?_append_left (by rw [← h.1]; exact hi)] at h2
    exact h.2 i r' zs' h1 h2
  · rw [List.getElem?_append_right (by omega)] at h1
    rw [List.getElem?_append_right (by rw [← h.1]; omega), ← h.1] at h2
    cases hj : i - rows.length with
    | zero => rw [hj] at h1 h2; simp at h1 h2; subst h1 h2; exact hr
    | succ j => rw [hj] at h1; simp at h1
theorem IRows.lower {H : IH} {el : TypeId} {lo lo' hi hi' : Nat} {rows : List Value} {zss : List (List Int)} (h : IRows H el lo hi rows zss) (hl : lo' ≤ lo) (hh : hi ≤ hi') : IRows H el lo' hi' rows zss :=
  ⟨h.1, fun i r zs h1 h2 => (h.2 i r zs h1 h2).lower hl hh⟩
/-- a new list of rows, and what it holds -/
theorem pic_of {H : IH} {el el2 : TypeId} {lo lo2 hi : Nat} {v : Value} {rows : List Value} {zss : List (List Int)} (hv : Grown H el2 lo2 v rows) (hr : IRows H el lo hi rows zss) (h1 : zss.length ≤ 1000) (h2 : ∀ zs ∈ zss, zs.length ≤ 1000) : ∃ rs, picOf H v = some rs ∧ rs.map (·.2) = zss := by
  obtain ⟨hl, hr⟩ := hr
  refine ⟨rows.zip zss, ?_, by rw [List.map_snd_zip (by omega)]⟩
  rcases hv with ⟨rfl, rfl⟩ | ⟨b, q1, q2, rfl, q3⟩
  · rfl
  · unfold picOf
    simp only
    rw [if_pos ⟨by omega, q2⟩]
    have key : ∀ (n o : Nat) (ys : List (Value × List Int)), (rows.zip zss).drop o = ys → ys.length = n → rowsAt H b o n = some ys := by
      intro n
      induction n with
      | zero => intro o ys _ hl; have : ys = [] := List.length_eq_zero_iff.1 hl; subst this; rfl
      | succ n ih =>
        intro o ys hd hl'
        cases ys with
        | nil => simp at hl'
        | cons y ys =>
          have hy : (rows.zip zss)[o]? = some y := by
            have := congrArg (fun l => l[0]?) hd
            simpa using this
          obtain ⟨ho, _⟩ := List.getElem?_eq_some_iff.1 hy
          rw [List.length_zip] at ho
          have hy1 : rows[o]? = some y.1 ∧ zss[o]? = some y.2 := by
            rw [List.getElem?_zip_eq_some] at hy
            exact hy
          have hload : H.load b o = some y.1 := by
            unfold IH.load
            rw [q3]
            simp [hy1.1]
          unfold rowsAt
          rw [hload]
          simp only
          have hz := (hr o y.1 y.2 hy1.1 hy1.2).ints (h2 _ (List.mem_of_getElem? hy1.2))
          rw [hz]
          simp only
          have hd' : (rows.zip zss).drop (o + 1) = ys := by
            have := congrArg (List.drop 1) hd
            simpa [List.drop_drop] using this
          rw [ih (o + 1) ys hd' (by simpa using hl')]
          rfl
    have hlen : (rows.zip zss).length = rows.length := by rw [List.length_zip]; omega
    exact key rows.length 0 (rows.zip zss) (by simp) hlen

/-! ### One cell of a list of integers -/
theorem load_row {H : IH} {b : Nat} {zs : List Int} {el : TypeId} {fz : Nat × Nat} {i : Nat} {z : Int} (h : H.get b = some (.cells (zs.map (Value.int .i64)).toArray el fz)) (hz : zs[i]? = some z) : H.load b i = some (.int .i64 z) := by
  unfold IH.load
  rw [h]
  simp [hz]
theorem store_row {t : TypeId} (ht : szT P t = some 1) {H : IH} {b : Nat} {zs : List Int} {el : TypeId} {fz : Nat × Nat} {i : Nat} {z : Int} (h : H.get b = some (.cells (zs.map (Value.int .i64)).toArray el fz)) (hi : i < zs.length) (hf : freeFz fz = true) (hb : H.base ≤ b) :
    istoreAt P t (.pointer (some ⟨b, i, none⟩)) (.int .i64 z) H = some (H.put b (.cells ((zs.set i z).map (Value.int .i64)).toArray el fz)) := by
  unfold istoreAt
  have e1 : (Value.int IntKind.i64 z).cells = #[Value.int .i64 z] := rfl
  simp only [ht, e1]
  rw [if_pos (by rfl)]
  unfold IH.stores
  rw [h]
  simp only
  have hone : List.all [Value.int .i64 z] oneCell = true := rfl
  rw [if_pos]
  · congr 3
    apply Array.ext'
    show overwrite (zs.map (Value.int .i64)) i [Value.int .i64 z] = _
    unfold overwrite
    simp only [List.map_set, List.length_singleton]
    rw [List.set_eq_take_append_cons_drop, if_pos (by simpa using hi)]
    simp
  · simp [hf, hb, oneCell]; omega
theorem zeros_make {st el : TypeId} {k : IntKind} (hu : P.underlying st = some (.slice el)) {i : TypeInfo} (hi : P.info? el = some i) (hs : i.size = 1) (hby : i.bytes ≤ 64) (hz : zeroP P el = some (.int .i64 0)) {n : Nat} (hn : n ≤ 65536) {H : IH} :
    imakeSlice P st (.int k n) (.int k n) H = some (.val (.slice (some ⟨H.size, 0, none⟩) n n) (H.push (.cells ((List.replicate n (0 : Int)).map (Value.int .i64)).toArray el))) := by
  unfold imakeSlice
  simp only [hu, hi]
  have hc : (decide ((0 : Int) ≤ (n : Int)) && decide ((n : Int) ≤ (n : Int)) && decide ((i.bytes : Int) * (n : Int) ≤ 2 ^ 47) && decide ((n : Int) ≤ 2 ^ 47)) = true := by
    simp only [Bool.and_eq_true, decide_eq_true_eq]
    refine ⟨⟨⟨by omega, by omega⟩, ?_⟩, by omega⟩
    have h1 : i.bytes * n ≤ 64 * 65536 := Nat.mul_le_mul hby hn
    have h2 : (i.bytes : Int) * (n : Int) = ((i.bytes * n : Nat) : Int) := by simp
    rw [h2]; omega
  rw [if_pos hc]
  simp only [Int.toNat_natCast, hs, Nat.mul_one]
  have hr : zeroRow P el n = some ((List.replicate n (0 : Int)).map (Value.int .i64)).toArray := by
    unfold zeroRow
    by_cases h0 : n = 0
    · subst h0; rfl
    · rw [if_neg h0, hz]
      simp only [Option.map_some, Option.some.injEq]
      have e1 : (Value.int IntKind.i64 0).cells = #[Value.int .i64 0] := rfl
      rw [e1]
      apply Array.ext'
      apply List.ext_getElem?
      intro j
      by_cases hj : j < n
      · simp [hj, Nat.mod_one]
      · simp [hj]
  rw [hr]
end Go.Idl

namespace Go.Idl
variable {P : Program} {good : FuncId → Bool} {nat : Nats} {G : Nat → Bool} {rd : Bool}

/-- behind the first of two statements -/
abbrev ST (P : Program) (G : Nat → Bool) (rd : Bool) (y : Code) (Q : Out → Prop) (o : Out) : Prop :=
  match o.e with
  | .normal => Holds P G rd y o.env o.H Q
  | _ => Q o
/-- behind a block, and then a statement -/
def BT (P : Program) (G : Nat → Bool) (rd : Bool) (id : Nat) (y : Code) (Q : Out → Prop) (o : Out) : Prop :=
  match o.e with
  | .normal => Holds P G rd y o.env o.H Q
  | .exit id' => if id' = id then Holds P G rd y o.env o.H Q else Q o
  | _ => Q o
/-- a round of a loop -/
def LQ (I : Nat → Env → IH → Prop) (n : Nat) (id : Nat) (Q : Out → Prop) (o : Out) : Prop :=
  match o.e with
  | .normal => ∃ m env', m < n ∧ WkL o.env env' ∧ I m env' o.H
  | .exit id' => if id' = id then Q ⟨.normal, o.env, o.H⟩ else Q o
  | _ => Q o
theorem ST.go {y : Code} {Q : Out → Prop} {env : Env} {H : IH} (h : Holds P G rd y env H Q) : ST P G rd y Q ⟨.normal, env, H⟩ := h
theorem ST.rt {y : Code} {Q : Out → Prop} {env : Env} {H : IH} (h : Q ⟨.ret, env, H⟩) : ST P G rd y Q ⟨.ret, env, H⟩ := h
theorem ST.ex {y : Code} {Q : Out → Prop} {env : Env} {H : IH} {id : Nat} (h : Q ⟨.exit id, env, H⟩) : ST P G rd y Q ⟨.exit id, env, H⟩ := h
theorem BT.go {id : Nat} {y : Code} {Q : Out → Prop} {env : Env} {H : IH} (h : Holds P G rd y env H Q) : BT P G rd id y Q ⟨.normal, env, H⟩ := h
theorem BT.on {id : Nat} {y : Code} {Q : Out → Prop} {env : Env} {H : IH} (h : Holds P G rd y env H Q) : BT P G rd id y Q ⟨.exit id, env, H⟩ := by
  unfold BT; simp only [if_true]; exact h
theorem BT.rt {id : Nat} {y : Code} {Q : Out → Prop} {env : Env} {H : IH} (h : Q ⟨.ret, env, H⟩) : BT P G rd id y Q ⟨.ret, env, H⟩ := h
theorem BT.ex {id id' : Nat} {y : Code} {Q : Out → Prop} {env : Env} {H : IH} (hne : id' ≠ id) (h : Q ⟨.exit id', env, H⟩) : BT P G rd id y Q ⟨.exit id', env, H⟩ := by
  unfold BT; simp only [if_neg hne]; exact h
theorem BZ.go {id : Nat} {Q : Out → Prop} {env : Env} {H : IH} (h : Q ⟨.normal, env, H⟩) : blockQ id Q ⟨.normal, env, H⟩ := h
theorem BZ.rt {id : Nat} {Q : Out → Prop} {env : Env} {H : IH} (h : Q ⟨.ret, env, H⟩) : blockQ id Q ⟨.ret, env, H⟩ := h
theorem BZ.on {id : Nat} {Q : Out → Prop} {env : Env} {H : IH} (h : Q ⟨.normal, env, H⟩) : blockQ id Q ⟨.exit id, env, H⟩ := by
  unfold blockQ; simp only [if_true]; exact h
theorem LQ.go {I : Nat → Env → IH → Prop} {n id : Nat} {Q : Out → Prop} {env env' : Env} {H : IH} (m : Nat) (hm : m < n) (hw : WkL env env') (hi : I m env' H) : LQ I n id Q ⟨.normal, env, H⟩ := ⟨m, env', hm, hw, hi⟩
theorem LQ.brk {I : Nat → Env → IH → Prop} {n id : Nat} {Q : Out → Prop} {env : Env} {H : IH} (h : Q ⟨.normal, env, H⟩) : LQ I n id Q ⟨.exit id, env, H⟩ := by
  unfold LQ; simp only [if_true]; exact h
theorem LQ.ex {I : Nat → Env → IH → Prop} {n id id' : Nat} {Q : Out → Prop} {env : Env} {H : IH} (hne : id' ≠ id) (h : Q ⟨.exit id', env, H⟩) : LQ I n id Q ⟨.exit id', env, H⟩ := by
  unfold LQ; simp only [if_neg hne]; exact h
theorem LQ.rt {I : Nat → Env → IH → Prop} {n id : Nat} {Q : Out → Prop} {env : Env} {H : IH} (h : Q ⟨.ret, env, H⟩) : LQ I n id Q ⟨.ret, env, H⟩ := h

theorem Holds.seqW {x y : Code} {env : Env} {H : IH} {Q : Out → Prop} (hx : Holds P G rd x env H (ST P G rd y Q)) : Holds P G rd (.seq x y) env H Q :=
  .seqQ hx (fun o h he => by simp only [ST, he] at h; exact h) (fun o h he => by
    cases heo : o.e with
    | normal => exact absurd heo he
    | exit id => simp only [ST, heo] at h; exact h
    | goto l => simp only [ST, heo] at h; exact h
    | ret => simp only [ST, heo] at h; exact h)
theorem Holds.blockW {id : Nat} {x y : Code} {env : Env} {H : IH} {Q : Out → Prop} (hx : Holds P G rd x env H (BT P G rd id y Q)) : Holds P G rd (.seq (.block id x) y) env H Q := by
  refine .seqW (.block (hx.mono fun o h => ?_))
  unfold blockQ
  unfold BT at h
  cases heo : o.e with
  | normal => rw [heo] at h; simp only [ST, heo]; exact h
  | exit id' =>
    rw [heo] at h
    simp only at h ⊢
    by_cases hid : id' = id
    · rw [if_pos hid] at h ⊢; exact h
    · rw [if_neg hid] at h ⊢; simp only [ST, heo]; exact h
  | goto l => rw [heo] at h; simp only [ST, heo]; exact h
  | ret => rw [heo] at h; simp only [ST, heo]; exact h
theorem Holds.loopW {id : Nat} {x : Code} {env : Env} {H : IH} {Q : Out → Prop} (I : Nat → Env → IH → Prop) (n : Nat) (env0 : Env) (hw : WkL env env0) (h : I n env0 H) (hx : ∀ n env H, I n env H → Holds P G rd x env H (LQ I n id Q)) : Holds P G rd (.block id (.loop x)) env H Q := by
  refine .block (.loop (fun n e h => ∃ e', WkL e e' ∧ I n e' h) (n := n) (fun n env H ⟨e', hw', hi⟩ => .pre hw' ((hx n e' H hi).mono fun o ho => ?_)) ⟨env0, hw, h⟩)
  unfold LQ at ho
  unfold blockQ
  cases heo : o.e with
  | normal =>
    rw [heo] at ho
    obtain ⟨m, env', h2, h3, h4⟩ := ho
    exact ⟨m, h2, env', h3, h4⟩
  | exit id' => rw [heo] at ho; exact ho
  | goto l => rw [heo] at ho; exact ho
  | ret => rw [heo] at ho; exact ho

theorem Setup.headW (s : Setup P good nat G) {rid id : Nat} {ops : Array Oper} {v : Operand} {y : Code} {env env1 : Env} {H H1 : IH} {Q : Out → Prop} {I : Nat → Env → IH → Prop} {n : Nat} {ds : List (Option Tmp)} {t : Bool} (hok : opsOk G ops = true) (hds : ops.toList.map (·.dst) = ds)
    (h : iopsE P (iex P good nat 0) nat ds ops.toList env H = .ret (env1, H1)) (hokv : opdOk G v = true) (hv : env1.val v = .bool t)
    (hy : t = true → Holds P G rd y env1 H1 (LQ I n id Q)) (hx : t = false → Q ⟨.normal, env1, H1⟩) : Holds P G rd (.seq (.region rid ops false) (.seq (.cond v .skip (.exit id)) y)) env H (LQ I n id Q) :=
  s.head1 0 hok hds h hokv hv hy fun ht => .brk (hx ht)
theorem Setup.headW2 (s : Setup P good nat G) {rid id : Nat} {ops : Array Oper} {v : Operand} {y : Code} {env env1 : Env} {H H1 : IH} {Q : Out → Prop} {I : Nat → Env → IH → Prop} {n : Nat} {ds : List (Option Tmp)} {t : Bool} (hok : opsOk G ops = true) (hds : ops.toList.map (·.dst) = ds)
    (h : iopsE P (iex P good nat 0) nat ds ops.toList env H = .ret (env1, H1)) (hokv : opdOk G v = true) (hv : env1.val v = .bool t)
    (hy : t = true → Holds P G rd y env1 H1 (LQ I n id Q)) (hx : t = false → Q ⟨.normal, env1, H1⟩) : Holds P G rd (.seq (.seq (.region rid ops false) (.cond v .skip (.exit id))) y) env H (LQ I n id Q) :=
  s.head2 0 hok hds h hokv hv hy fun ht => .brk (hx ht)
/-- 'if c { x }' and then y -/
theorem Setup.ifW (s : Setup P good nat G) {rid : Nat} {ops : Array Oper} {v : Operand} {x x2 y : Code} {env env1 : Env} {H H1 : IH} {Q : Out → Prop} {ds : List (Option Tmp)} {t : Bool} (hok : opsOk G ops = true) (hds : ops.toList.map (·.dst) = ds)
    (h : iopsE P (iex P good nat 0) nat ds ops.toList env H = .ret (env1, H1)) (hokv : opdOk G v = true) (hv : env1.val v = .bool t)
    (hx : t = true → Holds P G rd x env1 H1 (ST P G rd y Q)) (hy : t = false → Holds P G rd x2 env1 H1 (ST P G rd y Q)) : Holds P G rd (.seq (.seq (.region rid ops false) (.cond v x x2)) y) env H Q :=
  .seqW (s.regE 0 hok hds h (.cond hokv hv hx hy))
theorem Setup.ifZ (s : Setup P good nat G) {rid : Nat} {ops : Array Oper} {v : Operand} {x x2 : Code} {env env1 : Env} {H H1 : IH} {Q : Out → Prop} {ds : List (Option Tmp)} {t : Bool} (hok : opsOk G ops = true) (hds : ops.toList.map (·.dst) = ds)
    (h : iopsE P (iex P good nat 0) nat ds ops.toList env H = .ret (env1, H1)) (hokv : opdOk G v = true) (hv : env1.val v = .bool t)
    (hx : t = true → Holds P G rd x env1 H1 Q) (hy : t = false → Holds P G rd x2 env1 H1 Q) : Holds P G rd (.seq (.region rid ops false) (.cond v x x2)) env H Q :=
  s.regE 0 hok hds h (.cond hokv hv hx hy)

/-- behind a branch that meets the other one again -/
def JT (J : Env → IH → Prop) (Q : Out → Prop) (o : Out) : Prop :=
  match o.e with
  | .normal => ∃ e', WkL o.env e' ∧ J e' o.H
  | _ => Q o
theorem JT.go {J : Env → IH → Prop} {Q : Out → Prop} {env env' : Env} {H : IH} (hw : WkL env env') (h : J env' H) : JT J Q ⟨.normal, env, H⟩ := ⟨env', hw, h⟩
theorem JT.rt {J : Env → IH → Prop} {Q : Out → Prop} {env : Env} {H : IH} (h : Q ⟨.ret, env, H⟩) : JT J Q ⟨.ret, env, H⟩ := h
theorem JT.ex {J : Env → IH → Prop} {Q : Out → Prop} {env : Env} {H : IH} {id : Nat} (h : Q ⟨.exit id, env, H⟩) : JT J Q ⟨.exit id, env, H⟩ := h
theorem Holds.seqJ {x y : Code} {env : Env} {H : IH} {Q : Out → Prop} (J : Env → IH → Prop) (hx : Holds P G rd x env H (JT J Q)) (hk : ∀ e h, J e h → Holds P G rd y e h Q) : Holds P G rd (.seq x y) env H Q :=
  .seqW (hx.mono fun o ho => by
    unfold JT at ho
    cases heo : o.e with
    | normal => rw [heo] at ho; obtain ⟨e', h1, h2⟩ := ho; simp only [ST, heo]; exact .pre h1 (hk e' o.H h2)
    | exit id => rw [heo] at ho; simp only [ST, heo]; exact ho
    | goto l => rw [heo] at ho; simp only [ST, heo]; exact ho
    | ret => rw [heo] at ho; simp only [ST, heo]; exact ho)
theorem Setup.ifJ (s : Setup P good nat G) (J : Env → IH → Prop) {rid : Nat} {ops : Array Oper} {v : Operand} {x x2 y : Code} {env env1 : Env} {H H1 : IH} {Q : Out → Prop} {ds : List (Option Tmp)} {t : Bool} (hok : opsOk G ops = true) (hds : ops.toList.map (·.dst) = ds)
    (h : iopsE P (iex P good nat 0) nat ds ops.toList env H = .ret (env1, H1)) (hokv : opdOk G v = true) (hv : env1.val v = .bool t)
    (hx : t = true → Holds P G rd x env1 H1 (JT J Q)) (hy : t = false → Holds P G rd x2 env1 H1 (JT J Q)) (hk : ∀ e h, J e h → Holds P G rd y e h Q) : Holds P G rd (.seq (.seq (.region rid ops false) (.cond v x x2)) y) env H Q :=
  .seqJ J (s.regE 0 hok hds h (.cond hokv hv hx hy)) hk

/-! ### Operations -/
theorem appC {o : Oper} {x y : Operand} {t u : TypeId} {env : Env} {H : IH} : icallOp P o ⟨.builtin .append, #[x, y], #[t, u]⟩ env H = (match iappend P #[t, u] [env.val x, env.val y] H with
    | some r => some r
    | none => idry P o env H) := rfl
theorem copyC {o : Oper} {x y : Operand} {t u : TypeId} {env : Env} {H : IH} : icallOp P o ⟨.builtin .copy, #[x, y], #[t, u]⟩ env H = (match icopy P #[t, u] [env.val x, env.val y] H with
    | some r => some r
    | none => idry P o env H) := rfl
theorem skipO_some {H : IH} : skipO (some H) = some (.val undef H) := rfl
theorem addS_pure {g : FuncId} {α : Type} {pre : α → List Value → IH → Prop} {post : α → IH → Value → IH → Prop} (h : NatPure nat) : NatPure (addS nat g pre post) := by
  intro x y hx args H r hr
  unfold addS at hx
  cases hb : Nat.beq x g with
  | false => rw [hb] at hx; exact h x y hx args H r hr
  | true =>
    rw [hb] at hx
    cases hx
    unfold ofS at hr
    split at hr
    · cases hr
    · cases hr
theorem Old.of {H0 H H' : IH} (h : Old H0 H) (hs : H.size ≤ H'.size) (hb : H'.base = H.base) (hk : ∀ b, b < H0.size → H'.get b = H.get b) : Old H0 H' :=
  ⟨Nat.le_trans h.size hs, hb.trans h.base, fun b hb' => (hk b hb').trans (h.get b hb')⟩
theorem Grown.notOld {H : IH} {el : TypeId} {lo : Nat} {v : Value} {vs : List Value} (h : Grown H el lo v vs) {b : Nat} (hb : b < lo) : ¬ blkIs v b := by
  rcases h with ⟨rfl, rfl⟩ | ⟨b', h1, h2, rfl, h3⟩
  · exact fun h => h
  · intro h
    have : b' = b := h
    omega
end Go.Idl

namespace Go.Idl
variable {P : Program}

theorem read_int {st el : TypeId} (he : El P st el) {H : IH} {a : Option Addr} {n c : Nat} {zs : List Int} (hz : intsOf H (.slice a n c) = some zs) {i : Nat} {z : Int} (h : zs[i]? = some z) {k : IntKind} :
    ∃ p, iindexAt P st (.slice a n c) (.int k (i : Nat)) = some p ∧ iloadAt P el p H = some (.int .i64 z) := by
  obtain ⟨a', c', hsl, hlen, hget⟩ := intsOf_inv hz
  simp only [Value.slice.injEq] at hsl
  obtain ⟨rfl, rfl, rfl⟩ := hsl
  obtain ⟨b, o, sp, rfl, hl⟩ := hget i z h
  refine ⟨_, index_slice he.und he.sz (Int.natCast_nonneg i) (Int.ofNat_lt.2 (List.getElem?_eq_some_iff.1 h).1), ?_⟩
  simp only [Int.toNat_natCast]
  exact load_one he.ag hl
theorem Grown.read {st : TypeId} {el : TypeId} (he : El P st el) {H : IH} {lo : Nat} {v : Value} {vs : List Value} (h : Grown H el lo v vs) {i : Nat} {x : Value} (hi : vs[i]? = some x) {k : IntKind} :
    ∃ p, iindexAt P st v (.int k (i : Nat)) = some p ∧ iloadAt P el p H = some x := by
  have hlt := (List.getElem?_eq_some_iff.1 hi).1
  rcases h with ⟨rfl, rfl⟩ | ⟨b, h1, h2, rfl, h3⟩
  · simp at hlt
  · refine ⟨_, index_slice he.und he.sz (Int.natCast_nonneg i) (Int.ofNat_lt.2 hlt), ?_⟩
    simp only [Int.toNat_natCast]
    refine load_one he.ag ?_
    unfold IH.load
    rw [h3]
    simpa using hi
theorem Grown.write {st el : TypeId} (he : El P st el) {H : IH} {lo : Nat} {v : Value} {zs : List Int} (h : Grown H el lo v (zs.map (Value.int .i64))) {i : Nat} (hi : i < zs.length) (hb : H.base ≤ lo) (z : Int) {k : IntKind} :
    ∃ p H', iindexAt P st v (.int k (i : Nat)) = some p ∧ istoreAt P el p (.int .i64 z) H = some H' ∧ Grown H' el lo v ((zs.set i z).map (Value.int .i64)) ∧ H'.size = H.size ∧ H'.base = H.base ∧ ∀ b, ¬ blkIs v b → H'.get b = H.get b := by
  rcases h with ⟨h1, rfl⟩ | ⟨b, h1, h2, rfl, h3⟩
  · simp at h1; subst h1; simp at hi
  · have hlt : i < (zs.map (Value.int .i64)).length := by simpa using hi
    refine ⟨_, H.put b (.cells ((zs.set i z).map (Value.int .i64)).toArray el roomFz), index_slice he.und he.sz (Int.natCast_nonneg i) (Int.ofNat_lt.2 hlt), by simp only [Int.toNat_natCast, Nat.zero_add]; exact store_row he.sz h3 hi rfl (Nat.le_trans hb h1), .inr ⟨b, h1, h2, by simp, get_put_eq⟩, rfl, rfl, fun b' hb' => get_put_ne fun e => hb' e.symm⟩
theorem Grown.blk_lt {H : IH} {el : TypeId} {lo : Nat} {v : Value} {vs : List Value} (h : Grown H el lo v vs) {b : Nat} (hb : blkIs v b) : lo ≤ b ∧ b < H.size ∧ H.get b = some (.cells vs.toArray el roomFz) := by
  rcases h with ⟨rfl, rfl⟩ | ⟨b', h1, h2, rfl, h3⟩
  · exact hb.elim
  · have : b' = b := hb
    subst this
    exact ⟨h1, h2, h3⟩
/-- a list whose block is not of this element type stays -/
theorem IRows.keepEl {H H' : IH} {el el2 : TypeId} {lo hi lo2 : Nat} {rows : List Value} {zss : List (List Int)} {v : Value} {vs : List Value} (h : IRows H el lo hi rows zss) (hv : Grown H el2 lo2 v vs) (hne : el2 ≠ el) (hs : H.size ≤ H'.size) (hk : ∀ b, b < H.size → ¬ blkIs v b → H'.get b = H.get b) : IRows H' el lo hi rows zss :=
  h.keep hs fun b c fz _ _ q3 q4 => hk b q3 fun hb => by
    have := (hv.blk_lt hb).2.2
    rw [q4] at this
    simp at this
    exact hne this.2.1.symm
theorem Grown.get_cast {H : IH} {el : TypeId} {lo : Nat} {v : Value} {vs vs' : List Value} (h : Grown H el lo v vs) (e : vs = vs') : Grown H el lo v vs' := e ▸ h
theorem wrap_pred {k : Nat} (h1 : 1 ≤ k) (h2 : k ≤ 1000000) : IntKind.i64.wrap ((k : Int) - 1) = ((k - 1 : Nat) : Int) := by
  rw [wrap_id (by omega) (by omega)]; omega
end Go.Idl
namespace Go.Idl
variable {P : Program}
/-- two cells of a list, exchanged -/
theorem Grown.swap {st el : TypeId} (he : El P st el) {H : IH} {lo : Nat} {v : Value} {zs : List Int} (h : Grown H el lo v (zs.map (Value.int .i64))) {i j : Nat} {x y : Int} (hi : zs[i]? = some x) (hj : zs[j]? = some y) (hb : H.base ≤ lo) {k : IntKind} :
    ∃ p q H1 H2, iindexAt P st v (.int k (i : Nat)) = some p ∧ iindexAt P st v (.int k (j : Nat)) = some q ∧ iloadAt P el p H = some (.int .i64 x) ∧ iloadAt P el q H = some (.int .i64 y) ∧
      istoreAt P el p (.int .i64 y) H = some H1 ∧ istoreAt P el q (.int .i64 x) H1 = some H2 ∧ Grown H2 el lo v (((zs.set i y).set j x).map (Value.int .i64)) ∧ H2.size = H.size ∧ H2.base = H.base ∧ ∀ b, ¬ blkIs v b → H2.get b = H.get b := by
  obtain ⟨p, a1, a2⟩ := h.read he (i := i) (x := .int .i64 x) (by simp [hi]) (k := k)
  obtain ⟨q, b1, b2⟩ := h.read he (i := j) (x := .int .i64 y) (by simp [hj]) (k := k)
  obtain ⟨p', H1, c1, c2, c3, c4, c5, c6⟩ := h.write he (i := i) (List.getElem?_eq_some_iff.1 hi).1 hb y (k := k)
  obtain ⟨q', H2, d1, d2, d3, d4, d5, d6⟩ := c3.write he (i := j) (by simpa using (List.getElem?_eq_some_iff.1 hj).1) (by rw [c5]; exact hb) x (k := k)
  rw [a1] at c1; cases c1
  rw [b1] at d1; cases d1
  exact ⟨p, q, H1, H2, a1, b1, a2, b2, c2, d2, d3, d4.trans c4, d5.trans c5, fun b hb' => (d6 b hb').trans (c6 b hb')⟩
end Go.Idl
namespace Go.Idl
variable {P : Program} {good : FuncId → Bool} {nat : Nats} {G : Nat → Bool} {rd : Bool}
theorem IRows.one {H : IH} {el : TypeId} {lo hi : Nat} {rows : List Value} {zss : List (List Int)} (h : IRows H el lo hi rows zss) : rows.all oneCell = true := by
  rw [List.all_eq_true]
  intro r hr
  obtain ⟨i, hi'⟩ := List.mem_iff_getElem?.1 hr
  have hlt := (List.getElem?_eq_some_iff.1 hi').1
  have hz : zss[i]? = some (zss[i]'(by rw [← h.1]; exact hlt)) := List.getElem?_eq_getElem _
  rcases h.2 i r _ hi' hz with ⟨_, rfl⟩ | ⟨b, sp, cap, fz, _, _, _, rfl, _⟩ <;> rfl
/-- a drawn region at the end -/
theorem Setup.drawZ (s : Setup P good nat G) (hp : NatPure nat) (k : Nat) {id : Nat} {ops : Array Oper} {env env1 : Env} {H H1 : IH} {Q : Out → Prop} {ds : List (Option Tmp)} {lo : List (Nat × Nat × Nat)} (hok : opsOk G ops = true) (hd : drawOk ops = true)
    (ha : (ops.toList.all fun o => !isAlloc o) = true) (hc : ((ops.toList.take k).all calm) = true) (hlo : loose ops = lo) (hl : looseEarly lo k (cntE (ops.toList.take k)) = true)
    (hlen : lo.all (fun p => ((ops[p.1]?).bind (·.dst)).isSome) = true) (hds : ops.toList.map (·.dst) = ds)
    (h : iopsE P (iex P good nat 0) nat ds ops.toList env H = .ret (env1, H1)) (hs : (lo.all fun p => Nat.blt (dstOf ops p.1) env.length && simple (env1.at (dstOf ops p.1))) = true) (hq : Q ⟨.normal, env1, H1⟩) : Holds P G rd (.region id ops true) env H Q := by
  subst hds hlo
  have hs' : ∀ p ∈ loose ops, dstOf ops p.1 < env.length ∧ simple (env1.at (dstOf ops p.1)) = true := fun p hp' => by
    have := List.all_eq_true.1 hs p hp'
    simp only [Bool.and_eq_true] at this
    exact ⟨Nat.le_of_ble_eq_true this.1, this.2⟩
  have hi := idraw_of hp k hd ha hc hl (fun p hp' => ⟨(hs' p hp').1, List.all_eq_true.1 hlen p hp'⟩) (fun p hp' => (hs' p hp').2) h
  exact s.draw 0 hok hd hi hq
end Go.Idl
namespace Go.Idl
variable {P : Program}
theorem bin_mul {o : Oper} {t : TypeId} {k : IntKind} {a b : Int} {env : Env} {H : IH} : ibinOp P o .mul t (.int k a) (.int k b) env H = some (.val (.int k (k.wrap (a * b))) H) := bin_int rfl
theorem bin_quoN {o : Oper} {t : TypeId} {a b : Nat} {env : Env} {H : IH} (hb : 0 < b) (ha : a ≤ 9223372036854775807) : ibinOp P o .quo t (.int .i64 (a : Int)) (.int .i64 (b : Int)) env H = some (.val (.int .i64 ((a / b : Nat) : Int)) H) := by
  refine bin_int ?_
  unfold intBin
  simp only
  rw [if_neg (by omega)]
  have h1 : (a : Int).tdiv (b : Int) = ((a / b : Nat) : Int) := by rw [Int.tdiv_eq_ediv_of_nonneg (by omega)]; rfl
  have h2 : a / b ≤ a := Nat.div_le_self a b
  rw [h1]
  generalize a / b = q at h2
  rw [wrap_id (by omega) (by omega)]
theorem bin_remN {o : Oper} {t : TypeId} {a b : Nat} {env : Env} {H : IH} (hb : 0 < b) : ibinOp P o .rem t (.int .i64 (a : Int)) (.int .i64 (b : Int)) env H = some (.val (.int .i64 ((a % b : Nat) : Int)) H) := by
  refine bin_int ?_
  unfold intBin
  simp only
  rw [if_neg (by omega)]
  have h1 : (a : Int).tmod (b : Int) = ((a % b : Nat) : Int) := by rw [Int.tmod_eq_emod_of_nonneg (by omega)]; rfl
  rw [h1]
theorem read_row {st el : TypeId} (he : El P st el) {H : IH} {a : Option Addr} {n c : Nat} {rs : List (Value × List Int)} (hz : picOf H (.slice a n c) = some rs) {i : Nat} {r : Value × List Int} (h : rs[i]? = some r) {k : IntKind} :
    ∃ p, iindexAt P st (.slice a n c) (.int k (i : Nat)) = some p ∧ iloadAt P el p H = some r.1 ∧ intsOf H r.1 = some r.2 := by
  obtain ⟨a', c', hsl, hlen, hget⟩ := picOf_inv hz
  simp only [Value.slice.injEq] at hsl
  obtain ⟨rfl, rfl, rfl⟩ := hsl
  obtain ⟨⟨b, o, sp, rfl, _, hl⟩, h2⟩ := hget i r h
  refine ⟨_, index_slice he.und he.sz (Int.natCast_nonneg i) (Int.ofNat_lt.2 (List.getElem?_eq_some_iff.1 h).1), ?_, h2⟩
  simp only [Int.toNat_natCast]
  exact load_one he.ag hl
end Go.Idl
