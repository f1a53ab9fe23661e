/- Contracts that say what holds behind a call; lists in memory; rules that follow the code; drawn regions with new memory; cells of structures. Conditions: none. -/
import Derived.Test.YtpdlblofcdcikaaGreatDoorIdlJ
set_option linter.unusedSimpArgs false
set_option linter.unusedVariables false
namespace Go.Idl
variable {P : Program} {good : FuncId → Bool} {nat : Nats} {G : Nat → Bool} {rd : Bool}

/-! ### Weaker environments -/
inductive WkL : List Value → List Value → Prop
  | nil : WkL [] []
  | same {v : Value} {l m : List Value} (h : WkL l m) : WkL (v :: l) (v :: m)
  | any {v : Value} {l m : List Value} (h : WkL l m) : WkL (v :: l) (unk :: m)
theorem WkL.refl : ∀ (l : List Value), WkL l l
  | [] => .nil
  | _ :: l => .same (WkL.refl l)
theorem WkL.rel {f : Inj} {l m : List Value} (h : WkL l m) : ∀ {x : List Value}, VRelL P f l x → VRelL P f m x := by
  induction h with
  | nil => intro x hx; exact hx
  | same _ ih =>
    intro x hx
    obtain ⟨v', x', rfl, h1, h2⟩ := hx.uncons
    exact .cons h1 (ih h2)
  | any _ ih =>
    intro x hx
    obtain ⟨v', x', rfl, h1, h2⟩ := hx.uncons
    exact .cons (.any v') (ih h2)
theorem WkL.trans {a b c : List Value} (h : WkL a b) : WkL b c → WkL a c := by
  induction h generalizing c with
  | nil => exact fun h => h
  | same _ ih =>
    intro k
    cases k with
    | same k => exact .same (ih k)
    | any k => exact .any (ih k)
  | any _ ih =>
    intro k
    cases k with
    | same k => exact .any (ih k)
    | any k => exact .any (ih k)
theorem Holds.pre {c : Code} {env env1 : Env} {H : IH} {Q : Out → Prop} (hw : WkL env env1) (h : Holds P G rd c env1 H Q) : Holds P G rd c env H Q :=
  fun B F f a w hF hr hR hG henv hm => h B F f a w hF hr hR hG (hw.rel henv) hm

/-- weaker than what is said -/
def Wk (R : Env → IH → Prop) : Env → IH → Prop := fun e h => ∃ e', WkL e e' ∧ R e' h
/-! ### Contracts that say what holds -/
open Classical in
noncomputable def ofS {α : Type} (pre : α → List Value → IH → Prop) (post : α → IH → Value → IH → Prop) : List Value → IH → T (Value × IH) := fun args H =>
  if h : ∃ x, pre x args H then .sp (fun r => post (Classical.choose h) H r.1 r.2) .ret else .fail
noncomputable def addS (nat : Nats) (g : FuncId) {α : Type} (pre : α → List Value → IH → Prop) (post : α → IH → Value → IH → Prop) : Nats := fun x => cond (Nat.beq x g) (some (ofS pre post)) (nat x)
theorem ofS_eq {α : Type} {pre : α → List Value → IH → Prop} {post : α → IH → Value → IH → Prop} (uniq : ∀ x y args H, pre x args H → pre y args H → x = y) {x : α} {args : List Value} {H : IH} (hx : pre x args H) :
    ofS pre post args H = .sp (fun r => post x H r.1 r.2) .ret := by
  have h : ∃ x, pre x args H := ⟨x, hx⟩
  unfold ofS
  rw [dif_pos h, uniq _ _ _ _ (Classical.choose_spec h) hx]
theorem addS_ext {g : FuncId} {α : Type} {pre : α → List Value → IH → Prop} {post : α → IH → Value → IH → Prop} (hn : NatExt nat) : NatExt (addS nat g pre post) := by
  intro x y h args H
  unfold addS at h
  cases hb : Nat.beq x g with
  | false => rw [hb] at h; exact hn x y h args H
  | true =>
    rw [hb] at h
    cases h
    unfold ofS
    split
    · exact trivial
    · exact trivial

/-- a call, wherever it stands -/
def CallI (P : Program) (G : Nat → Bool) (g : FuncId) (args : List Value) (H : IH) (Q : Value × IH → Prop) : Prop :=
  ∀ (args' : List Value) (f : Inj) (w : World), Rel P f H w → Glob G f → VRelL P f args args' → CallsIn Fence.wide 0 P g args'.toArray w (Comes P f H w Q)
theorem CallI.mono {g : FuncId} {args : List Value} {H : IH} {Q Q' : Value × IH → Prop} (h : CallI P G g args H Q) (hq : ∀ r, Q r → Q' r) : CallI P G g args H Q' := by
  intro args' f w hR hG ha
  refine CallsIn.mono (h args' f w hR hG ha) ?_
  rintro e w' ⟨v', r, f', k0, k1, k2, k3, k4⟩
  exact ⟨v', r, f', k0, hq r k1, k2, k3, k4⟩
theorem CallI.of {g : FuncId} {fn : Func} {c : Code} {args : List Value} {H : IH} {Q : Value × IH → Prop} {N : Nat} (hfn : P.funcs[g]? = some fn) (hb : fn.body = some c) (hN : fn.ntmps = N)
    (h : Holds P G false c (args ++ List.replicate (N - args.length) undef) H fun o => (o.e = .normal ∨ o.e = .ret) ∧ ∃ v, iresults P fn o.env o.H = some v ∧ Q (v, o.H)) : CallI P G g args H Q := by
  subst hN
  exact fun args' f w hR hG ha => call_holds hfn hb hR hG ha h

theorem Setup.addS (s : Setup P good nat G) {g : FuncId} {α : Type} (pre : α → List Value → IH → Prop) (post : α → IH → Value → IH → Prop)
    (hk : ∀ x args H, pre x args H → CallI P G g args H fun r => post x H r.1 r.2) : Setup P good (Go.Idl.addS nat g pre post) G := by
  refine ⟨s.mix, addS_ext s.ext, ?_, s.good⟩
  intro x y h args args' H f w Q hR hG ha hq
  unfold Go.Idl.addS at h
  cases hbx : Nat.beq x g with
  | false => rw [hbx] at h; exact s.spec x y h args args' H f w Q hR hG ha hq
  | true =>
    rw [hbx] at h
    have hx : x = g := Nat.eq_of_beq_eq_true hbx
    subst hx
    cases h
    unfold ofS at hq
    split at hq
    · rename_i he
      exact (hk _ args H (Classical.choose_spec he)).mono (fun r hr => hq r hr) args' f w hR hG ha
    · exact hq.elim

/-! ### Regions with such calls -/
/-! ### Rounds of a range over a function, as a contract -/
def RoundI (P : Program) (G : Nat → Bool) (l : Nat) (args : List Value) (H : IH) (Q : Value × IH → Prop) : Prop :=
  ∀ (args' : List Value) (f : Inj) (w : World) (e : Emb), Rel P f H w → Glob G f → f l = some e → VRelL P f args args' →
    ∃ fn tmps assign body, (Instr.yield e.r args'.toArray).run P w = .ok (.round e.r fn tmps assign body) w ∧ RoundIn Fence.wide 0 P e.r fn tmps assign body w (Comes P f H w Q)
theorem RoundI.mono {l : Nat} {args : List Value} {H : IH} {Q Q' : Value × IH → Prop} (h : RoundI P G l args H Q) (hq : ∀ r, Q r → Q' r) : RoundI P G l args H Q' := by
  intro args' f w e hR hG he ha
  obtain ⟨fn, tmps, assign, body, h1, h2⟩ := h args' f w e hR hG he ha
  refine ⟨fn, tmps, assign, body, h1, RoundIn.mono h2 ?_⟩
  rintro e w' ⟨v', r, f', k0, k1, k2, k3, k4⟩
  exact ⟨v', r, f', k0, hq r k1, k2, k3, k4⟩
noncomputable def rkRun (rk : Nat → List Value → IH → T (Value × IH)) : Job → IH → T Out
  | .round l args, H => (rk l args H).bind fun r => .ret ⟨.normal, [r.1], r.2⟩
  | _, _ => .fail
def RkSpec (P : Program) (G : Nat → Bool) (rk : Nat → List Value → IH → T (Value × IH)) : Prop := ∀ l args H Q, (rk l args H).holds Q → RoundI P G l args H Q
theorem rk_bind {t : T (Value × IH)} {Q : Value × IH → Prop} (h : ((t.bind fun r => (.ret ⟨.normal, [r.1], r.2⟩ : T Out)).bind callOut).holds Q) : t.holds Q := by
  rw [T.holds_bind, T.holds_bind] at h
  exact T.holds_mono (fun r hr => hr) _ h
theorem rk_round {rk : Nat → List Value → IH → T (Value × IH)} (h : RkSpec P G rk) : RoundSpec P G (rkRun rk) := by
  intro l args args' H f w e Q hR hG he ha hq
  exact h l args H Q (rk_bind hq) args' f w e hR hG he ha
theorem yK {rk : Nat → List Value → IH → T (Value × IH)} {l : Nat} {args : List Value} {H : IH} : step1T (rkRun rk) nat (some (.round l args H)) = ((rk l args H).bind fun r => (.ret ⟨.normal, [r.1], r.2⟩ : T Out)).bind callOut := rfl
theorem roundI_of {l : Nat} {args : List Value} {H : IH} {Q : Value × IH → Prop} {lp : Loop} (hg : H.get l = some (.loop lp)) (hst : lp.state = .ready) (hlen : args.length = lp.params.size)
    (hb : Holds P G true lp.assign ((lp.params.toList.zip args).foldl (fun e p => setR e p.1 p.2) lp.tmps.toList) H fun o => o.e = .normal ∧ ∃ lp1, o.H.get l = some (.loop lp1) ∧ lp1.state = .ready ∧
      Holds P G true lp.body o.env (o.H.put l (.loop { lp1 with state := .busy })) fun s => ∃ lp2, s.H.get l = some (.loop lp2) ∧
        Q (.bool (jumpOf s.e).isNone, s.H.put l (.loop { lp2 with state := if (jumpOf s.e).isNone then .ready else .done, pending := jumpOf s.e }))) : RoundI P G l args H Q := by
  intro args' f w e hR hG he ha
  obtain ⟨hro, lp', h1, g1, g2, g3, g4, g5, g6, g7, g8, g9, g10⟩ := loop_obj hR he hg
  refine ⟨lp'.fn, _, lp'.assign, lp'.body, run_yield h1 (by rw [g3, ← hlen, ha.1]; simp), ?_⟩
  have henv : VRelL P f ((lp.params.toList.zip args).foldl (fun e p => setR e p.1 p.2) lp.tmps.toList) ((lp'.params.zip args'.toArray).foldl (fun tmps (t, a) => tmps.setIfInBounds t a) lp'.tmps).toList := by
    rw [← Array.foldl_toList, Array.toList_zip]
    have := fold_arr (lp'.params.toList.zip args') lp'.tmps
    simp only [] at this ⊢
    rw [this, g3]
    exact fold_set lp.params.toList args args' _ _ ha g6
  refine roundIn_of_wpIn (F := Fence.wide) trivial ?_
  rw [g4, g5]
  refine wpIn_mono (hb w.heap.size (Fence.wide.inRound e.r) f _ w (free_round _) rfl hR hG henv (Nat.le_refl _)) ?_
  rintro ex a1 w1 ⟨o, f1, ⟨heo, lp1, hg1, hst1, hq⟩, rfl, k1, k2, k3, k4⟩
  rw [heo]
  have he1 := k2.le _ _ he
  obtain ⟨_, lp1', q1, q2, q3, q4, q5, q6, q7, q8, q9, q10, q11⟩ := loop_obj k1 he1 hg1
  refine ⟨_, run_beginRound q1 (by rw [q2, hst1]), ?_⟩
  obtain ⟨p1, p2⟩ := put_loop .busy lp1.pending q10 k1 he1 hg1 q1
  have e1 : ({ lp1' with state := .busy, pending := lp1.pending } : Loop) = { lp1' with state := .busy } := by rw [← q3]
  have e2 : ({ lp1 with state := .busy, pending := lp1.pending } : Loop) = { lp1 with state := .busy } := rfl
  rw [e1, e2] at p1
  rw [e1] at p2
  have hG1 := hG.mono k2.le
  refine wpIn_mono (hq w.heap.size (Fence.wide.inRound e.r) f1 a1 _ (free_round _) rfl p1 hG1 k3 (Marks.grow p2 _ k4)) ?_
  rintro ex2 a2 w2 ⟨s, f2, ⟨lp2, hg2, hs⟩, rfl, s1, s2, s3, s4⟩
  have he2 := s2.le _ _ he1
  obtain ⟨_, lp2', t1, t2, t3, t4, t5, t6, t7, t8, t9, t10, t11⟩ := loop_obj s1 he2 hg2
  have hjump : ∀ c, jumpOf s.e = some c → isJump c = true := by
    intro c hc
    cases hse : s.e <;> rw [hse] at hc <;> simp [jumpOf] at hc <;> subst hc <;> rfl
  obtain ⟨u1, u2⟩ := put_loop (if (jumpOf s.e).isNone then .ready else .done) (jumpOf s.e) hjump s1 he2 hg2 t1
  have fin : ∃ v w', (Instr.endRound e.r (jumpOf s.e)).run P w2 = .ok v w' ∧ Comes P f H w Q (.returned v) w' :=
    ⟨_, _, run_endRound (jumpOf s.e) t1, ⟨_, _, f2, rfl, hs, u1, ((k2.trans p2).trans s2).trans u2, .base _ rfl⟩⟩
  cases hse : s.e with
  | normal => rw [hse] at fin; exact fin
  | ret => rw [hse] at fin; exact fin
  | exit id => rw [hse] at fin; exact fin
  | goto t => rw [hse] at fin; exact fin

/-- a range over a function, by the call's contract -/
theorem Setup.rangeF (s : Setup P good nat G) {v : Operand} {ps : Array Tmp} {x y : Code} {env : Env} {H : IH} {Q : Out → Prop} {g : FuncId} {first captured : Array Value} {Qc : Value × IH → Prop} (hv : opdOk G v = true) (hx : codeOk G true x = true) (hy : codeOk G true y = true)
    (hval : env.val v = .func (.func g) first captured) (hent : entered P g = true)
    (hcall : CallI P G g (appR first.toList (.func (.yield H.size) #[] #[] :: captured.toList)) (H.push (.loop { state := .ready, pending := none, fn := 0, tmps := env.toArray, params := ps, assign := x, body := y, defers := 0 })) Qc)
    (hq : ∀ r, Qc r → (afterRange (iex P good nat 2) H.size env r).holds Q) : Holds P G false (.rangeFunc v ps x y) env H Q := by
  classical
  intro B F f a w hF hr hR hG henv hm
  let L : List Value := appR first.toList (.func (.yield H.size) #[] #[] :: captured.toList)
  let HL : IH := H.push (.loop { state := .ready, pending := none, fn := 0, tmps := env.toArray, params := ps, assign := x, body := y, defers := 0 })
  let nat1 : Nats := fun g1 => if g1 = g then some (fun args H1 => if args = L ∧ H1 = HL then .sp Qc .ret else .fail) else none
  have hs1 : NatSpec P G nat1 := by
    intro g1 k hk args args' H1 f1 w1 Q1 hR1 hG1 ha1 hq1
    simp only [nat1] at hk
    split at hk
    · rename_i hg1
      subst hg1
      cases hk
      change T.holds Q1 (if args = L ∧ H1 = HL then T.sp Qc T.ret else T.fail) at hq1
      split at hq1
      · rename_i hc
        obtain ⟨rfl, rfl⟩ := hc
        exact (hcall.mono fun r hr => hq1 r hr) args' f1 w1 hR1 hG1 ha1
      · exact hq1.elim
    · cases hk
  let run1 : Job → IH → T Out := fun j H => match j with
    | .code c env => iex P good nat 2 (.code c env) H
    | _ => .fail
  have hrun0 : CodeSpec P G (iex P good nat 2) := (sound_all s.ext s.spec s.good (fun _ _ hc hr => draw_sound s.mix hc hr) 2).1
  have hrun : CodeSpec P G run1 := hrun0
  have hc : CallSpec P G (enterT run1 nat1) := by
    intro g1 args args' H1 f1 w1 Q1 hR1 hG1 ha1 hq1
    unfold enterT at hq1
    split at hq1
    · rename_i k hk; exact hs1 g1 k hk args args' H1 f1 w1 Q1 hR1 hG1 ha1 hq1
    · exact hq1.elim
  have hr' : F.round = none := by
    cases h : F.round with
    | none => rfl
    | some l => rw [h] at hr; cases hr
  refine range_sound hc hrun hF hr' hR hG (opdOk_mono hG hv) (codeOk_mono hG _ _ hx) (codeOk_mono hG _ _ hy) henv hm ?_
  unfold rangeStep
  rw [hval]
  simp only [hent, cond_true]
  unfold enterT
  simp only [nat1, if_true, L, HL, and_self]
  exact fun r hr => hq r hr
end Go.Idl

namespace Go.Idl
variable {P : Program}

noncomputable def infoOk (P : Program) (el : TypeId) : Bool := match P.info? el with
  | some info => info.size == 1 && decide (info.bytes ≤ 64) && ((zeroT P el).map (·.cells.size)) == some info.size
  | none => false
/-- a slice type whose elements have one cell -/
structure El (P : Program) (st el : TypeId) : Prop where
  und : P.underlying st = some (.slice el)
  sz : szT P el = some 1
  ag : aggT P el = some false
  ok : infoOk P el = true
theorem El.info {P : Program} {st el : TypeId} (h : El P st el) : ∃ info, P.info? el = some info ∧ info.size = 1 ∧ info.bytes ≤ 64 ∧ ((zeroT P el).map (·.cells.size)) = some info.size := by
  have := h.ok
  unfold infoOk at this
  split at this
  · rename_i info hi
    simp only [Bool.and_eq_true, beq_iff_eq, decide_eq_true_eq] at this
    exact ⟨info, hi, this.1.1, this.1.2, this.2⟩
  · cases this

/-- a list that was made by appending: the whole of its block -/
def Grown (H : IH) (el : TypeId) (lo : Nat) (v : Value) (vs : List Value) : Prop :=
  (vs = [] ∧ v = .slice none 0 0) ∨ ∃ b, lo ≤ b ∧ b < H.size ∧ v = .slice (some ⟨b, 0, some el⟩) vs.length vs.length ∧ H.get b = some (.cells vs.toArray el roomFz)
/-- the block of a list -/
def blkIs : Value → Nat → Prop
  | .slice (some a) _ _, b => a.block = b
  | _, _ => False
theorem Grown.nil (H : IH) (el : TypeId) (lo : Nat) : Grown H el lo (.slice none 0 0) [] := .inl ⟨rfl, rfl⟩
theorem Grown.len {H : IH} {el : TypeId} {lo : Nat} {v : Value} {vs : List Value} (h : Grown H el lo v vs) : ∃ a, v = .slice a vs.length vs.length := by
  rcases h with ⟨rfl, rfl⟩ | ⟨b, _, _, rfl, _⟩
  · exact ⟨none, rfl⟩
  · exact ⟨_, rfl⟩
theorem Grown.keep {H H' : IH} {el : TypeId} {lo : Nat} {v : Value} {vs : List Value} (h : Grown H el lo v vs) (hs : H.size ≤ H'.size) (hk : ∀ b, lo ≤ b → b < H.size → blkIs v b → H'.get b = H.get b) : Grown H' el lo v vs := by
  rcases h with ⟨rfl, rfl⟩ | ⟨b, h1, h2, rfl, h3⟩
  · exact .nil _ _ _
  · exact .inr ⟨b, h1, Nat.lt_of_lt_of_le h2 hs, rfl, (hk b h1 h2 rfl).trans h3⟩
theorem get_push_lt {H : IH} {o : Obj} {b : Nat} (hb : b < H.size) : (H.push o).get b = H.get b := by rw [IH.get_push, if_neg (by omega)]
theorem get_push_eq {H : IH} {o : Obj} : (H.push o).get H.size = some o := by rw [IH.get_push, if_pos rfl]
theorem get_put_ne {H : IH} {o : Obj} {b x : Nat} (h : x ≠ b) : (H.put b o).get x = H.get x := by rw [IH.get_put, if_neg h]
theorem get_put_eq {H : IH} {o : Obj} {b : Nat} : (H.put b o).get b = some o := by rw [IH.get_put, if_pos rfl]

/-! ### Rows of integers -/
/-- a list of integers that lies in a block of its own -/
def RowAt (H : IH) (el : TypeId) (lo hi : Nat) (v : Value) (zs : List Int) : Prop :=
  (zs = [] ∧ v = .slice none 0 0) ∨ ∃ b sp cap fz, lo ≤ b ∧ b < hi ∧ b < H.size ∧ v = .slice (some ⟨b, 0, sp⟩) zs.length cap ∧ H.get b = some (.cells (zs.map (Value.int .i64)).toArray el fz)
theorem Grown.row {H : IH} {el : TypeId} {lo : Nat} {v : Value} {zs : List Int} (h : Grown H el lo v (zs.map (Value.int .i64))) : RowAt H el lo H.size v zs := by
  rcases h with ⟨h1, rfl⟩ | ⟨b, h1, h2, rfl, h3⟩
  · exact .inl ⟨by simpa using h1, rfl⟩
  · exact .inr ⟨b, some el, _, roomFz, h1, h2, h2, by rw [List.length_map], h3⟩
theorem RowAt.keep {H H' : IH} {el : TypeId} {lo hi : Nat} {v : Value} {zs : List Int} (h : RowAt H el lo hi v zs) (hs : H.size ≤ H'.size) (hk : ∀ b c fz, lo ≤ b → b < hi → b < H.size → H.get b = some (.cells c el fz) → blkIs v b → H'.get b = H.get b) : RowAt H' el lo hi v zs := by
  rcases h with ⟨rfl, rfl⟩ | ⟨b, sp, cap, fz, h1, hh, h2, rfl, h3⟩
  · exact .inl ⟨rfl, rfl⟩
  · exact .inr ⟨b, sp, cap, fz, h1, hh, Nat.lt_of_lt_of_le h2 hs, rfl, (hk b _ _ h1 hh h2 h3 rfl).trans h3⟩
/-- a list of such rows -/
def IRows (H : IH) (el : TypeId) (lo hi : Nat) (rows : List Value) (zss : List (List Int)) : Prop := rows.length = zss.length ∧ ∀ (i : Nat) r zs, rows[i]? = some r → zss[i]? = some zs → RowAt H el lo hi r zs
theorem IRows.nil (H : IH) (el : TypeId) (lo hi : Nat) : IRows H el lo hi [] [] := ⟨rfl, fun i r zs h => by simp at h⟩
theorem IRows.keep {H H' : IH} {el : TypeId} {lo hi : Nat} {rows : List Value} {zss : List (List Int)} (h : IRows H el lo hi rows zss) (hs : H.size ≤ H'.size) (hk : ∀ b c fz, lo ≤ b → b < hi → b < H.size → H.get b = some (.cells c el fz) → H'.get b = H.get b) : IRows H' el lo hi rows zss :=
  ⟨h.1, fun i r zs h1 h2 => (h.2 i r zs h1 h2).keep hs fun b c fz q1 q2 q3 q4 _ => hk b c fz q1 q2 q3 q4⟩
/-! ### One cell of a list of integers -/
theorem load_row {H : IH} {b : Nat} {zs : List Int} {el : TypeId} {fz : Nat × Nat} {i : Nat} {z : Int} (h : H.get b = some (.cells (zs.map (Value.int .i64)).toArray el fz)) (hz : zs[i]? = some z) : H.load b i = some (.int .i64 z) := by
  unfold IH.load
  rw [h]
  simp [hz]
theorem store_row {t : TypeId} (ht : szT P t = some 1) {H : IH} {b : Nat} {zs : List Int} {el : TypeId} {fz : Nat × Nat} {i : Nat} {z : Int} (h : H.get b = some (.cells (zs.map (Value.int .i64)).toArray el fz)) (hi : i < zs.length) (hf : freeFz fz = true) (hb : H.base ≤ b) :
    istoreAt P t (.pointer (some ⟨b, i, none⟩)) (.int .i64 z) H = some (H.put b (.cells ((zs.set i z).map (Value.int .i64)).toArray el fz)) := by
  unfold istoreAt
  have e1 : (Value.int IntKind.i64 z).cells = #[Value.int .i64 z] := rfl
  simp only [ht, e1]
  rw [if_pos (by rfl)]
  unfold IH.stores
  rw [h]
  simp only
  have hone : List.all [Value.int .i64 z] oneCell = true := rfl
  rw [if_pos]
  · congr 3
    apply Array.ext'
    show overwrite (zs.map (Value.int .i64)) i [Value.int .i64 z] = _
    unfold overwrite
    simp only [List.map_set, List.length_singleton]
    rw [List.set_eq_take_append_cons_drop, if_pos (by simpa using hi)]
    simp
  · simp [hf, hb, oneCell]; omega
end Go.Idl

namespace Go.Idl
variable {P : Program} {good : FuncId → Bool} {nat : Nats} {G : Nat → Bool} {rd : Bool}

/-- behind the first of two statements -/
abbrev ST (P : Program) (G : Nat → Bool) (rd : Bool) (y : Code) (Q : Out → Prop) (o : Out) : Prop :=
  match o.e with
  | .normal => Holds P G rd y o.env o.H Q
  | _ => Q o
/-- behind a block, and then a statement -/
def BT (P : Program) (G : Nat → Bool) (rd : Bool) (id : Nat) (y : Code) (Q : Out → Prop) (o : Out) : Prop :=
  match o.e with
  | .normal => Holds P G rd y o.env o.H Q
  | .exit id' => if id' = id then Holds P G rd y o.env o.H Q else Q o
  | _ => Q o
/-- a round of a loop -/
def LQ (I : Nat → Env → IH → Prop) (n : Nat) (id : Nat) (Q : Out → Prop) (o : Out) : Prop :=
  match o.e with
  | .normal => ∃ m env', m < n ∧ WkL o.env env' ∧ I m env' o.H
  | .exit id' => if id' = id then Q ⟨.normal, o.env, o.H⟩ else Q o
  | _ => Q o
theorem ST.go {y : Code} {Q : Out → Prop} {env : Env} {H : IH} (h : Holds P G rd y env H Q) : ST P G rd y Q ⟨.normal, env, H⟩ := h
theorem ST.rt {y : Code} {Q : Out → Prop} {env : Env} {H : IH} (h : Q ⟨.ret, env, H⟩) : ST P G rd y Q ⟨.ret, env, H⟩ := h
theorem ST.ex {y : Code} {Q : Out → Prop} {env : Env} {H : IH} {id : Nat} (h : Q ⟨.exit id, env, H⟩) : ST P G rd y Q ⟨.exit id, env, H⟩ := h
theorem BT.go {id : Nat} {y : Code} {Q : Out → Prop} {env : Env} {H : IH} (h : Holds P G rd y env H Q) : BT P G rd id y Q ⟨.normal, env, H⟩ := h
theorem BT.on {id : Nat} {y : Code} {Q : Out → Prop} {env : Env} {H : IH} (h : Holds P G rd y env H Q) : BT P G rd id y Q ⟨.exit id, env, H⟩ := by
  unfold BT; simp only [if_true]; exact h
theorem BT.rt {id : Nat} {y : Code} {Q : Out → Prop} {env : Env} {H : IH} (h : Q ⟨.ret, env, H⟩) : BT P G rd id y Q ⟨.ret, env, H⟩ := h
theorem BT.ex {id id' : Nat} {y : Code} {Q : Out → Prop} {env : Env} {H : IH} (hne : id' ≠ id) (h : Q ⟨.exit id', env, H⟩) : BT P G rd id y Q ⟨.exit id', env, H⟩ := by
  unfold BT; simp only [if_neg hne]; exact h
theorem BZ.go {id : Nat} {Q : Out → Prop} {env : Env} {H : IH} (h : Q ⟨.normal, env, H⟩) : blockQ id Q ⟨.normal, env, H⟩ := h
theorem BZ.rt {id : Nat} {Q : Out → Prop} {env : Env} {H : IH} (h : Q ⟨.ret, env, H⟩) : blockQ id Q ⟨.ret, env, H⟩ := h
theorem BZ.on {id : Nat} {Q : Out → Prop} {env : Env} {H : IH} (h : Q ⟨.normal, env, H⟩) : blockQ id Q ⟨.exit id, env, H⟩ := by
  unfold blockQ; simp only [if_true]; exact h
theorem LQ.go {I : Nat → Env → IH → Prop} {n id : Nat} {Q : Out → Prop} {env env' : Env} {H : IH} (m : Nat) (hm : m < n) (hw : WkL env env') (hi : I m env' H) : LQ I n id Q ⟨.normal, env, H⟩ := ⟨m, env', hm, hw, hi⟩
theorem LQ.ex {I : Nat → Env → IH → Prop} {n id id' : Nat} {Q : Out → Prop} {env : Env} {H : IH} (hne : id' ≠ id) (h : Q ⟨.exit id', env, H⟩) : LQ I n id Q ⟨.exit id', env, H⟩ := by
  unfold LQ; simp only [if_neg hne]; exact h
theorem LQ.rt {I : Nat → Env → IH → Prop} {n id : Nat} {Q : Out → Prop} {env : Env} {H : IH} (h : Q ⟨.ret, env, H⟩) : LQ I n id Q ⟨.ret, env, H⟩ := h

/-- behind a branch that meets the other one again -/
def JT (J : Env → IH → Prop) (Q : Out → Prop) (o : Out) : Prop :=
  match o.e with
  | .normal => ∃ e', WkL o.env e' ∧ J e' o.H
  | _ => Q o
theorem JT.go {J : Env → IH → Prop} {Q : Out → Prop} {env env' : Env} {H : IH} (hw : WkL env env') (h : J env' H) : JT J Q ⟨.normal, env, H⟩ := ⟨env', hw, h⟩
theorem JT.rt {J : Env → IH → Prop} {Q : Out → Prop} {env : Env} {H : IH} (h : Q ⟨.ret, env, H⟩) : JT J Q ⟨.ret, env, H⟩ := h
theorem JT.ex {J : Env → IH → Prop} {Q : Out → Prop} {env : Env} {H : IH} {id : Nat} (h : Q ⟨.exit id, env, H⟩) : JT J Q ⟨.exit id, env, H⟩ := h
/-! ### Operations -/
theorem Old.of {H0 H H' : IH} (h : Old H0 H) (hs : H.size ≤ H'.size) (hb : H'.base = H.base) (hk : ∀ b, b < H0.size → H'.get b = H.get b) : Old H0 H' :=
  ⟨Nat.le_trans h.size hs, hb.trans h.base, fun b hb' => (hk b hb').trans (h.get b hb')⟩
end Go.Idl

namespace Go.Idl
variable {P : Program}

theorem Grown.read {st : TypeId} {el : TypeId} (he : El P st el) {H : IH} {lo : Nat} {v : Value} {vs : List Value} (h : Grown H el lo v vs) {i : Nat} {x : Value} (hi : vs[i]? = some x) {k : IntKind} :
    ∃ p, iindexAt P st v (.int k (i : Nat)) = some p ∧ iloadAt P el p H = some x := by
  have hlt := (List.getElem?_eq_some_iff.1 hi).1
  rcases h with ⟨rfl, rfl⟩ | ⟨b, h1, h2, rfl, h3⟩
  · simp at hlt
  · refine ⟨_, index_slice he.und he.sz (Int.natCast_nonneg i) (Int.ofNat_lt.2 hlt), ?_⟩
    simp only [Int.toNat_natCast]
    refine load_one he.ag ?_
    unfold IH.load
    rw [h3]
    simpa using hi
theorem Grown.write {st el : TypeId} (he : El P st el) {H : IH} {lo : Nat} {v : Value} {zs : List Int} (h : Grown H el lo v (zs.map (Value.int .i64))) {i : Nat} (hi : i < zs.length) (hb : H.base ≤ lo) (z : Int) {k : IntKind} :
    ∃ p H', iindexAt P st v (.int k (i : Nat)) = some p ∧ istoreAt P el p (.int .i64 z) H = some H' ∧ Grown H' el lo v ((zs.set i z).map (Value.int .i64)) ∧ H'.size = H.size ∧ H'.base = H.base ∧ ∀ b, ¬ blkIs v b → H'.get b = H.get b := by
  rcases h with ⟨h1, rfl⟩ | ⟨b, h1, h2, rfl, h3⟩
  · simp at h1; subst h1; simp at hi
  · have hlt : i < (zs.map (Value.int .i64)).length := by simpa using hi
    refine ⟨_, H.put b (.cells ((zs.set i z).map (Value.int .i64)).toArray el roomFz), index_slice he.und he.sz (Int.natCast_nonneg i) (Int.ofNat_lt.2 hlt), by simp only [Int.toNat_natCast, Nat.zero_add]; exact store_row he.sz h3 hi rfl (Nat.le_trans hb h1), .inr ⟨b, h1, h2, by simp, get_put_eq⟩, rfl, rfl, fun b' hb' => get_put_ne fun e => hb' e.symm⟩
theorem wrap_pred {k : Nat} (h1 : 1 ≤ k) (h2 : k ≤ 1000000) : IntKind.i64.wrap ((k : Int) - 1) = ((k - 1 : Nat) : Int) := by
  rw [wrap_id (by omega) (by omega)]; omega
end Go.Idl
namespace Go.Idl
variable {P : Program}
end Go.Idl
namespace Go.Idl
variable {P : Program} {good : FuncId → Bool} {nat : Nats} {G : Nat → Bool} {rd : Bool}
theorem IRows.one {H : IH} {el : TypeId} {lo hi : Nat} {rows : List Value} {zss : List (List Int)} (h : IRows H el lo hi rows zss) : rows.all oneCell = true := by
  rw [List.all_eq_true]
  intro r hr
  obtain ⟨i, hi'⟩ := List.mem_iff_getElem?.1 hr
  have hlt := (List.getElem?_eq_some_iff.1 hi').1
  have hz : zss[i]? = some (zss[i]'(by rw [← h.1]; exact hlt)) := List.getElem?_eq_getElem _
  rcases h.2 i r _ hi' hz with ⟨_, rfl⟩ | ⟨b, sp, cap, fz, _, _, _, rfl, _⟩ <;> rfl
end Go.Idl
namespace Go.Idl
variable {P : Program}
end Go.Idl

namespace Go.Idl
variable {P : Program}
def OwnAt (H : IH) (el : TypeId) (lo : Nat) (v : Value) (zs : List Int) : Prop :=
  ∃ b sp fz, lo ≤ b ∧ b < H.size ∧ v = .slice (some ⟨b, 0, sp⟩) zs.length zs.length ∧ H.get b = some (.cells (zs.map (Value.int .i64)).toArray el fz) ∧ freeFz fz = true
theorem OwnAt.row {H : IH} {el : TypeId} {lo : Nat} {v : Value} {zs : List Int} (h : OwnAt H el lo v zs) : RowAt H el lo H.size v zs := by
  obtain ⟨b, sp, fz, h1, h2, rfl, h3, _⟩ := h
  exact .inr ⟨b, sp, _, fz, h1, h2, h2, rfl, h3⟩
theorem OwnAt.keep {H H' : IH} {el : TypeId} {lo : Nat} {v : Value} {zs : List Int} (h : OwnAt H el lo v zs) (hs : H.size ≤ H'.size) (hk : ∀ b, lo ≤ b → b < H.size → blkIs v b → H'.get b = H.get b) : OwnAt H' el lo v zs := by
  obtain ⟨b, sp, fz, h1, h2, rfl, h3, h4⟩ := h
  exact ⟨b, sp, fz, h1, Nat.lt_of_lt_of_le h2 hs, rfl, (hk b h1 h2 rfl).trans h3, h4⟩
theorem OwnAt.len {H : IH} {el : TypeId} {lo : Nat} {v : Value} {zs : List Int} (h : OwnAt H el lo v zs) : ∃ a, v = .slice a zs.length zs.length := by
  obtain ⟨b', sp, fz, h1, h2, rfl, h3, h4⟩ := h
  exact ⟨_, rfl⟩
theorem Grown.own {H : IH} {el : TypeId} {lo : Nat} {v : Value} {zs : List Int} (h : Grown H el lo v (zs.map (Value.int .i64))) (hne : zs ≠ []) : OwnAt H el lo v zs := by
  rcases h with ⟨h1, _⟩ | ⟨b, h1, h2, rfl, h3⟩
  · simp at h1; exact absurd h1 hne
  · exact ⟨b, some el, roomFz, h1, h2, by rw [List.length_map], h3, rfl⟩
theorem OwnAt.read {st el : TypeId} (he : El P st el) {H : IH} {lo : Nat} {v : Value} {zs : List Int} (h : OwnAt H el lo v zs) {i : Nat} {x : Int} (hi : zs[i]? = some x) {k : IntKind} :
    ∃ p, iindexAt P st v (.int k (i : Nat)) = some p ∧ iloadAt P el p H = some (.int .i64 x) := by
  obtain ⟨b, sp, fz, h1, h2, rfl, h3, h4⟩ := h
  refine ⟨_, index_slice he.und he.sz (Int.natCast_nonneg i) (Int.ofNat_lt.2 (List.getElem?_eq_some_iff.1 hi).1), ?_⟩
  simp only [Int.toNat_natCast, Nat.zero_add]
  exact load_one he.ag (load_row h3 hi)
theorem OwnAt.write {st el : TypeId} (he : El P st el) {H : IH} {lo : Nat} {v : Value} {zs : List Int} (h : OwnAt H el lo v zs) {i : Nat} (hi : i < zs.length) (hb : H.base ≤ lo) (z : Int) {k : IntKind} :
    ∃ p H', iindexAt P st v (.int k (i : Nat)) = some p ∧ istoreAt P el p (.int .i64 z) H = some H' ∧ OwnAt H' el lo v (zs.set i z) ∧ H'.size = H.size ∧ H'.base = H.base ∧ ∀ b, ¬ blkIs v b → H'.get b = H.get b := by
  obtain ⟨b, sp, fz, h1, h2, rfl, h3, h4⟩ := h
  refine ⟨_, H.put b (.cells ((zs.set i z).map (Value.int .i64)).toArray el fz), index_slice he.und he.sz (Int.natCast_nonneg i) (Int.ofNat_lt.2 hi), by simp only [Int.toNat_natCast, Nat.zero_add]; exact store_row he.sz h3 hi h4 (Nat.le_trans hb h1), ⟨b, sp, fz, h1, h2, by simp, get_put_eq, h4⟩, rfl, rfl, fun b' hb' => get_put_ne fun e => hb' e.symm⟩
end Go.Idl

namespace Go.Idl
variable {P : Program} {good : FuncId → Bool} {nat : Nats} {G : Nat → Bool} {rd : Bool}

/-- all that lies there lies there still -/
def Keeps (H H' : IH) : Prop := ∀ b o, H.get b = some o → H'.get b = some o
theorem Keeps.refl (H : IH) : Keeps H H := fun _ _ h => h
theorem Keeps.trans {H H1 H2 : IH} (a : Keeps H H1) (b : Keeps H1 H2) : Keeps H H2 := fun x o h => b x o (a x o h)
def WF (H : IH) : Prop := ∀ b, H.size ≤ b → H.get b = none
theorem WF.push {H : IH} (h : WF H) (o : Obj) : WF (H.push o) := fun b hb => by
  simp only [IH.size_push] at hb
  rw [IH.get_push, if_neg (by omega)]
  exact h b (by omega)
end Go.Idl

namespace Go.Idl
variable {P : Program} {good : FuncId → Bool} {nat : Nats} {G : Nat → Bool} {rd : Bool}

/-- a read that is loose yields at a heap what it yielded -/
def LoadIs (P : Program) (ops : Array Oper) (i : Nat) (e : Env) (E : IH) : Prop :=
  match ops[i]? with
  | some o => (match o.op, o.dst with
    | .load t x, some d => iloadAt P t (e.val x) E = some (e.at d)
    | _, _ => False)
  | none => False
def LooseOK (P : Program) (ops : Array Oper) (e : Env) (hs : List IH) : List (Nat × Nat × Nat) → Prop
  | [] => True
  | p :: r => (∀ m E, p.2.1 ≤ m → m ≤ p.2.2 → hs[m]? = some E → LoadIs P ops p.1 e E) ∧ LooseOK P ops e hs r
theorem LooseOK.mem {ops : Array Oper} {e : Env} {hs : List IH} : ∀ {lo : List (Nat × Nat × Nat)}, LooseOK P ops e hs lo → ∀ p ∈ lo, ∀ m E, p.2.1 ≤ m → m ≤ p.2.2 → hs[m]? = some E → LoadIs P ops p.1 e E
  | q :: r, h, p, hp => by
    rcases List.mem_cons.1 hp with rfl | hp
    · exact h.1
    · exact h.2.mem p hp
end Go.Idl

namespace Go.Idl
variable {P : Program}
end Go.Idl

namespace Go.Idl
variable {P : Program} {good : FuncId → Bool} {nat : Nats} {G : Nat → Bool} {rd : Bool}

open Classical in
/-- one round, as it is called just here -/
noncomputable def rkOne (l0 : Nat) (args0 : List Value) (H0 : IH) (Q0 : Value × IH → Prop) : Nat → List Value → IH → T (Value × IH) := fun l args H => if l = l0 ∧ args = args0 ∧ H = H0 then .sp Q0 .ret else .fail
theorem rkOne_eq {l : Nat} {args : List Value} {H : IH} {Q : Value × IH → Prop} : rkOne l args H Q l args H = .sp Q .ret := by unfold rkOne; rw [if_pos ⟨rfl, rfl, rfl⟩]
theorem rkOne_spec {l : Nat} {args : List Value} {H : IH} {Q : Value × IH → Prop} (h : RoundI P G l args H Q) : RkSpec P G (rkOne l args H Q) := by
  intro l' args' H' Q' hq
  unfold rkOne at hq
  split at hq
  · rename_i hc
    obtain ⟨rfl, rfl, rfl⟩ := hc
    exact h.mono fun r hr => hq r hr
  · exact hq.elim
theorem call_yield {o : Oper} {f : Operand} {args : Array Operand} {ts : Array TypeId} {env : Env} {H : IH} {l : Nat} (hf : env.val f = .func (.yield l) #[] #[]) : icallOp P o ⟨.value f, args, ts⟩ env H = some (.round l (mapR env.val args.toList) H) := by
  have : icall P ⟨.value f, args, ts⟩ env H = some (.round l (mapR env.val args.toList) H) := by
    unfold icall
    simp only [hf]
    rfl
  unfold icallOp
  rw [this]
theorem round_one {l : Nat} {args : List Value} {H : IH} {Q : Value × IH → Prop} : step1T (rkRun (rkOne l args H Q)) nat (some (.round l args H)) = .sp Q .ret := by
  rw [yK, rkOne_eq]; rfl

/-- what a round may turn: the blocks of T, and what is new -/
structure Fr (T : Nat → Prop) (H H' : IH) : Prop where
  size : H.size ≤ H'.size
  base : H'.base = H.base
  get : ∀ b, b < H.size → ¬ T b → H'.get b = H.get b
theorem Fr.refl (T : Nat → Prop) (H : IH) : Fr T H H := ⟨Nat.le_refl _, rfl, fun _ _ _ => rfl⟩
theorem Fr.trans {T T' : Nat → Prop} {H H1 H2 : IH} (a : Fr T H H1) (b : Fr T' H1 H2) (ht : ∀ x, x < H.size → T' x → T x) : Fr T H H2 :=
  ⟨Nat.le_trans a.size b.size, b.base.trans a.base, fun x hx hn => (b.get x (Nat.lt_of_lt_of_le hx a.size) fun h => hn (ht x hx h)).trans (a.get x hx hn)⟩
theorem Setup.rangeW (s : Setup P good nat G) {v : Operand} {ps : Array Tmp} {x y : Code} {env : Env} {H : IH} {Q : Out → Prop} {g : FuncId} {first captured : Array Value} (hv : opdOk G v = true) (hx : codeOk G true x = true) (hy : codeOk G true y = true)
    (hval : env.val v = .func (.func g) first captured) (hent : entered P g = true)
    (hk : ∀ lp : Loop, lp.state = .ready → lp.pending = none → lp.tmps.toList = env → lp.params = ps → lp.assign = x → lp.body = y → ∃ Qc, CallI P G g (appR first.toList (.func (.yield H.size) #[] #[] :: captured.toList)) (H.push (.loop lp)) Qc ∧
      ∀ r, Qc r → (afterRange (iex P good nat 2) H.size env r).holds Q) : Holds P G false (.rangeFunc v ps x y) env H Q := by
  obtain ⟨Qc, h1, h2⟩ := hk { state := .ready, pending := none, fn := 0, tmps := env.toArray, params := ps, assign := x, body := y, defers := 0 } rfl rfl rfl rfl rfl rfl
  exact s.rangeF hv hx hy hval hent h1 h2
theorem after_ok {l : Nat} {env : Env} {r : Value × IH} {lp : Loop} {run : Job → IH → T Out} {Q : Out → Prop} (hg : r.2.get l = some (.loop lp)) (hs : lp.state = .ready) (hp : lp.pending = none) (hq : ∀ lp', Q ⟨.normal, env, r.2.put l (.loop lp')⟩) :
    (afterRange run l env r).holds Q := by
  cases lp
  simp only at hs hp
  subst hs hp
  unfold afterRange
  rw [hg]
  exact hq _
/-- old memory lies as it lay, but for the records of loops from a place on -/
structure OldL (n : Nat) (H H' : IH) : Prop where
  size : H.size ≤ H'.size
  base : H'.base = H.base
  get : ∀ b, b < H.size → (b < n ∨ ∀ lp, H.get b ≠ some (.loop lp)) → H'.get b = H.get b
theorem Old.l {H H' : IH} (h : Old H H') (n : Nat) : OldL n H H' := ⟨h.size, h.base, fun b hb _ => h.get b hb⟩
theorem OldL.put {n l : Nat} {H : IH} {lp lp' : Loop} (hl : n ≤ l) (hg : H.get l = some (.loop lp)) : OldL n H (H.put l (.loop lp')) := by
  refine ⟨Nat.le_refl _, rfl, fun b hb h => get_put_ne fun e => ?_⟩
  subst e
  rcases h with h | h
  · omega
  · exact h lp hg
end Go.Idl
