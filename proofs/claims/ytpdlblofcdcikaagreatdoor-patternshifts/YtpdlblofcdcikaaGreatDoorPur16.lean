/- Regions that draw their order, on values without a heap. Conditions: none. -/
import Derived.Test.YtpdlblofcdcikaaGreatDoorPurB
set_option linter.unusedSimpArgs false
set_option linter.unusedVariables false
namespace Go.Idl
variable {P : Program} {G : Nat -> Bool} {nat : xU} {tab : aL} {nm : Nm}
noncomputable def qAA (P : Program) (tab : aL) (g : FuncId) (as : List PV) (ph : PHp) : PE := match fzA P as ph with
 | some (fargs, _) => (match tab g (rtA P g fargs) with
   | some r => cond (wU r || as.all qOR) (.ok r ph) .fail
   | none => .fail)
 | none => .fail
noncomputable def xV (P : Program) (tab : aL) (k : Nat) (o : Oper) (env : List PV) (ph : PHp) : PE := match o.op with
 | .call ⟨.value f, args, _⟩ => (match target (zD env f) (args.toList.map (zD env)) with
   | some (g, as) => qAA P tab g as ph
   | none => .fail)
 | _ => peO (qF4 P o env k ph)
theorem qM7 {n : Nat} : ∀ {cs : List PV} {ph : PHp}, cs.all qY4 = true -> ∃ ys, qIV (fz1 P n) cs ph = some (ys, ph)
 | [], ph, _ => ⟨[], rfl⟩
 | c :: cs, ph, h => by
   simp only [List.all_cons, Bool.and_eq_true] at h
   obtain ⟨ys, hy⟩ := qM7 (n := n) (ph := ph) h.2
   cases c with
   | f x =>
     have e : fz1 P n ph (.f x) = some (x, ph) := by cases n <;> rfl
     exact ⟨x :: ys, by unfold qIV; rw [e]; simp only [hy]⟩
   | _ => exact absurd h.1 Bool.false_ne_true
theorem qRI : ∀ {as : List PV} {ph : PHp}, as.all qOR = true -> ∃ ys, fzA P as ph = some (ys, ph)
 | [], ph, _ => ⟨[], rfl⟩
 | a :: as, ph, h => by
   simp only [List.all_cons, Bool.and_eq_true] at h
   obtain ⟨ys, hy⟩ := qRI (ph := ph) h.2
   have : ∃ y, fzP P ph a = some (y, ph) := by
    cases a with
    | f x => exact ⟨_, rfl⟩
    | agg cs =>
      obtain ⟨zs, hz⟩ := qM7 (P := P) (n := 4) (ph := ph) (cs := cs) h.1
      exact ⟨_, by unfold fzP; simp only [hz]; rfl⟩
    | _ => exact absurd h.1 Bool.false_ne_true
   obtain ⟨y, h1⟩ := this
   exact ⟨y :: ys, by unfold fzA; simp only [h1, hy]⟩
theorem qH6 {inl : FuncId -> Bool} {fv : PV} {args as : List PV} {g : FuncId} {ph : PHp} (h : target fv args = some (g, as)) : mI P tab inl fv args ph = dI P tab inl g as ph := by
 unfold target at h
 split at h
 ·rename_i g' a c
  unfold mI
  cases hc : (a.toList.isEmpty && c.toList.isEmpty) with
  | true => rw [hc] at h; cases h; simp only [hc, cond_true]
  | false => rw [hc] at h; cases h
 ·cases h; rfl
 ·cases h
theorem qTE {k : Nat} {o : Oper} {env : List PV} {ph ph' : PHp} {v : PV} (h : xV P tab k o env ph = .ok v ph') : aJ P tab (fun _ => false) k o env ph = .ok v ph' := by
 by_cases hc : ∃ f args ts, o.op = .call ⟨.value f, args, ts⟩
 ·obtain ⟨f, args, ts, ho⟩ := hc
  unfold xV at h
  unfold aJ
  rw [ho] at h ⊢
  simp only at h ⊢
  split at h
  ·rename_i g as ht
   rw [qH6 ht]
   show fQ P tab g as ph = _
   unfold qAA at h
   unfold fQ
   split at h
   ·rename_i fargs ph1 hf
    split at h
    ·rename_i r hr
     cases hp : wU r with
     | true => rw [hp] at h; rw [hf]; simp only [hr, hp]; exact h
     | false =>
       rw [hp] at h
       cases ha : as.all qOR with
       | false => rw [ha] at h; cases h
       | true =>
         rw [ha] at h
         obtain ⟨ys, hy⟩ := qRI (P := P) (ph := ph) ha
         rw [hy] at hf; cases hf
         rw [hy]; simp only [hr, hp]; exact h
    ·cases h
   ·cases h
  ·cases h
 ·unfold xV at h
  unfold aJ
  split
  ·rename_i f args ts ho; exact absurd ⟨f, args, ts, ho⟩ hc
  ·split at h
   ·rename_i f args ts ho; exact absurd ⟨f, args, ts, ho⟩ hc
   ·exact h
theorem pG {k : Nat} {o : Oper} {env env' : List PV} {ph : PHp} (h : ∀ x ∈ o.op.operands, zD env x = zD env' x) : xV P tab k o env ph = xV P tab k o env' ph := by
 unfold xV
 split
 ·rename_i f args ts hop
  rw [hop] at h
  have hf : zD env f = zD env' f := h f (by simp [Op.operands, Call.operands])
  have ha : args.toList.map (zD env) = args.toList.map (zD env') := List.map_congr_left fun x hx => h x (by simp [Op.operands, Call.operands, Array.mem_def, hx])
  rw [hf, ha]
 ·rw [qNO h]
theorem qJD {f : Operand} {args : Array Operand} {ts : Array TypeId} {k : Nat} {o : Oper} {env : List PV} {ph ph' : PHp} {v : PV} (ho : o.op = .call ⟨.value f, args, ts⟩) (h : xV P tab k o env ph = .ok v ph') : ph' = ph := by
 unfold xV at h
 rw [ho] at h
 simp only at h
 split at h
 ·unfold qAA at h
  split at h
  ·split at h
   ·rename_i r hr
    cases hc : (wU r || _) with
    | true => rw [hc] at h; cases h; rfl
    | false => rw [hc] at h; cases h
   ·cases h
  ·cases h
 ·cases h
theorem qSU {r : Option (PV × PHp)} {v : PV} {ph' : PHp} (h : peO r = .ok v ph') : r = some (v, ph') := by
 unfold peO at h
 split at h
 ·cases h; rfl
 ·cases h
noncomputable def wlO (nm : Nm) (o : Oper) (env : List PV) : List Nat := match o.op with
 | .call ⟨.value _, _, _⟩ => []
 | _ => yC nm o.dst :: dlO o env
theorem qUY {o : Oper} {env : List PV} {ph ph' : PHp} {v : PV} (h : xV P tab (yC nm o.dst) o env ph = .ok v ph') {l : Nat} (hl : l ∉ wlO nm o env) : qC l ph' = qC l ph := by
 by_cases hc : ∃ f args ts, o.op = .call ⟨.value f, args, ts⟩
 ·obtain ⟨f, args, ts, ho⟩ := hc
  rw [qJD ho h]
 ·have e : xV P tab (yC nm o.dst) o env ph = peO (qF4 P o env (yC nm o.dst) ph) := by
   unfold xV
   split
   ·rename_i f args ts ho; exact absurd ⟨f, args, ts, ho⟩ hc
   ·rfl
  have e2 : wlO nm o env = yC nm o.dst :: dlO o env := by
   unfold wlO
   split
   ·rename_i f args ts ho; exact absurd ⟨f, args, ts, ho⟩ hc
   ·rfl
  rw [e] at h
  rw [e2] at hl
  simp only [List.mem_cons, not_or] at hl
  exact q0W (qSU h) hl.1 hl.2
theorem qMN {o : Oper} {env : List PV} {k : Nat} {ph ph1 : PHp} {v : PV} (hf : kC o = false) (ha : qL o = false) (h : xV P tab k o env ph = .ok v ph1) :
 ph1 = ph ∧ ∀ (k' : Nat) (ph' : PHp), (∀ l ∈ dlO o env, qC l ph' = qC l ph) -> xV P tab k' o env ph' = .ok v ph' := by
 by_cases hc : ∃ f args ts, o.op = .call ⟨.value f, args, ts⟩
 ·obtain ⟨f, args, ts, ho⟩ := hc
  rcases qD3 hf ha with h1 | h1 <;> (unfold kR at h1; rw [ho] at h1; cases h1)
 ·have e : ∀ k ph, xV P tab k o env ph = peO (qF4 P o env k ph) := fun k ph => by
   unfold xV
   split
   ·rename_i f args ts ho; exact absurd ⟨f, args, ts, ho⟩ hc
   ·rfl
  rw [e] at h
  obtain ⟨h1, h2⟩ := q06 hf ha (qSU h)
  exact ⟨h1, fun k' ph' hd => by rw [e, h2 k' ph' hd]; rfl⟩
def yB (o : Oper) : Bool := kC o || qL o
theorem qLR {o : Oper} (h : yB o = false) : kC o = false ∧ qL o = false := by
 unfold yB at h
 rw [Bool.or_eq_false_iff] at h
 exact h
def aP (ops : Array Oper) : Bool := ops.toList.zipIdx.all fun p => ops.toList.zipIdx.all fun q => Nat.beq p.2 q.2 || (!yB p.1 || (!yB q.1 || (fM (Region.before ops) p.2 q.2 || fM (Region.before ops) q.2 p.2)))
theorem qIQ {ops : Array Oper} (h : aP ops = true) (k j : Nat) (q o : Oper) (hkj : k ≠ j) (hk : ops[k]? = some q) (ho : ops[j]? = some o) (hq : yB q = true) (he : yB o = true) : fM (Region.before ops) k j = true ∨ fM (Region.before ops) j k = true := by
 unfold aP at h
 have h1 := List.all_eq_true.1 h (q, k) (List.mk_mem_zipIdx_iff_getElem?.2 (by simpa using hk))
 have h2 := List.all_eq_true.1 h1 (o, j) (List.mk_mem_zipIdx_iff_getElem?.2 (by simpa using ho))
 simp only [hq, he, Bool.not_true, Bool.false_or, Bool.or_eq_true] at h2
 rcases h2 with h | h | h
 ·exact absurd (Nat.eq_of_beq_eq_true h) hkj
 ·exact .inl h
 ·exact .inr h
noncomputable def eB (b : Array Nat) (env0 : List PV) (E F : List (Nat × List Nat)) (N : List (Nat × Nat)) (V : List (Nat × PV)) : Bool :=
 (F.all fun f => E.all fun e => qWK b e.1 f.1 || f.2.all fun l => !e.2.contains l) && N.all fun n => kU n.2 env0 && V.all fun v => Nat.beq v.1 n.1 || (fM b n.1 v.1 || noK n.2 v.2)
def qPZ (c x : Bool) (t : PT) : PT := cond c (.chk x t) t
noncomputable def qJJ (P : Program) (tab : aL) (nm : Nm) (ds : List (Option Tmp)) (b : Array Nat) (env0 : List PV) : Nat -> List Oper -> List PV -> PHp -> List (Nat × List Nat) -> List (Nat × List Nat) -> List (Nat × Nat) -> List (Nat × PV) -> PT
 | i, [], env, ph, E, F, N, V => .chk (eB b env0 E F N V) (.ret env ph)
 | i, o :: l, env, ph, E, F, N, V => vQ (dA ds o env)
    (match xV P tab (yC nm o.dst) o env ph with
     | .ok v ph' => qPZ (needs o.op) (inP nm (yC nm o.dst) && sN (yC nm o.dst) ph) (qJJ P tab nm ds b env0 (i + 1) l (xQ env o.dst v) ph' (cond (yB o) ((i, wlO nm o env) :: E) E) (cond (yB o) F ((i, dlO o env) :: F)) (cond (needs o.op) ((i, yC nm o.dst) :: N) N) ((i, v) :: V))
     | _ => .fail)
    (qJJ P tab nm ds b env0 (i + 1) l (xQ env o.dst (.tup [])) ph E F N ((i, .tup []) :: V)) .fail
structure TrI (P : Program) (tab : aL) (nm : Nm) (ds : List (Option Tmp)) (b : Array Nat) (ops : List Oper) (env0 : List PV) (ph0 : PHp) (En : Nat -> List PV) (Hs : Nat -> PHp) (V : Nat -> PV) (j : Nat) (E F : List (Nat × List Nat)) (N : List (Nat × Nat)) (W : List (Nat × PV)) : Prop where
 e0 : En 0 = env0
 h0 : Hs 0 = ph0
 step : ∀ i o, ops[i]? = some o -> En (i + 1) = xQ (En i) o.dst (V i) ∧ (j + i, V i) ∈ W ∧
  ((dA ds o (En i) = some true ∧ xV P tab (yC nm o.dst) o (En i) (Hs i) = .ok (V i) (Hs (i + 1)) ∧ (needs o.op = true -> inP nm (yC nm o.dst) = true ∧ sN (yC nm o.dst) (Hs i) = true ∧ (j + i, yC nm o.dst) ∈ N) ∧
     (yB o = true -> (j + i, wlO nm o (En i)) ∈ E) ∧ (yB o = false -> (j + i, dlO o (En i)) ∈ F)) ∨
    (dA ds o (En i) = some false ∧ V i = .tup [] ∧ Hs (i + 1) = Hs i))
theorem qE7 {Q : List PV -> PHp -> Prop} {ds : List (Option Tmp)} {b : Array Nat} {env0 : List PV} : ∀ (l : List Oper) (j : Nat) (env : List PV) (ph : PHp) (E F : List (Nat × List Nat)) (N : List (Nat × Nat)) (W : List (Nat × PV)),
 (qJJ P tab nm ds b env0 j l env ph E F N W).holds P G Q -> ∃ En Hs V E' F' N' W', TrI P tab nm ds b l env ph En Hs V j E' F' N' W' ∧ (∀ x ∈ E, x ∈ E') ∧ (∀ x ∈ F, x ∈ F') ∧ (∀ x ∈ N, x ∈ N') ∧ (∀ x ∈ W, x ∈ W') ∧ eB b env0 E' F' N' W' = true ∧ Q (En l.length) (Hs l.length)
 | [], j, env, ph, E, F, N, W, h => ⟨fun _ => env, fun _ => ph, fun _ => .unk, E, F, N, W, ⟨rfl, rfl, fun i o h => by simp at h⟩, fun _ h => h, fun _ h => h, fun _ h => h, fun _ h => h, h.1, h.2⟩
 | o :: l, j, env, ph, E, F, N, W, h => by
   unfold qJJ vQ at h
   split at h
   ·rename_i hw
    split at h
    ·rename_i v ph' hx
     have hh : (needs o.op = true -> inP nm (yC nm o.dst) = true ∧ sN (yC nm o.dst) ph = true) ∧ (qJJ P tab nm ds b env0 (j + 1) l (xQ env o.dst v) ph' (cond (yB o) ((j, wlO nm o env) :: E) E) (cond (yB o) F ((j, dlO o env) :: F)) (cond (needs o.op) ((j, yC nm o.dst) :: N) N) ((j, v) :: W)).holds P G Q := by
      unfold qPZ at h
      cases hn : needs o.op with
      | true =>
        rw [hn] at h
        obtain ⟨hc, h⟩ := h
        rw [Bool.and_eq_true] at hc
        exact ⟨fun _ => hc, h⟩
      | false => rw [hn] at h; exact ⟨fun h => by (cases h), h⟩
     obtain ⟨hc, h⟩ := hh
     obtain ⟨En, Hs, V, E', F', N', W', t, a1, a2, a3, a4, a5, a6⟩ := qE7 l (j + 1) _ _ _ _ _ _ h
     refine ⟨fun i => Nat.casesOn i env fun i => En i, fun i => Nat.casesOn i ph fun i => Hs i, fun i => Nat.casesOn i v fun i => V i, E', F', N', W', ⟨rfl, rfl, fun i p hi => ?_⟩, fun x hx => a1 x ?_, fun x hx => a2 x ?_, fun x hx => a3 x ?_, fun x hx => a4 x (List.mem_cons_of_mem _ hx), a5, a6⟩
     ·cases i with
      | zero =>
        simp only [List.getElem?_cons_zero, Option.some.injEq] at hi
        subst hi
        have e0 : Hs 0 = ph' := t.h0
        have hx0 : xV P tab (yC nm o.dst) o env ph = .ok v (Hs 0) := by rw [e0]; exact hx
        refine ⟨t.e0, a4 _ List.mem_cons_self, .inl ⟨hw, hx0, fun hn => ?_, fun he => a1 _ (by rw [he]; exact List.mem_cons_self), fun he => a2 _ (by rw [he]; exact List.mem_cons_self)⟩⟩
        have hc := hc hn
        exact ⟨hc.1, hc.2, a3 _ (by rw [hn]; exact List.mem_cons_self)⟩
      | succ i =>
        have := t.step i p (by simpa using hi)
        rw [show j + 1 + i = j + (i + 1) by omega] at this
        exact this
     ·cases yB o
      ·exact hx
      ·exact List.mem_cons_of_mem _ hx
     ·cases yB o
      ·exact List.mem_cons_of_mem _ hx
      ·exact hx
     ·cases needs o.op
      ·exact hx
      ·exact List.mem_cons_of_mem _ hx
    ·exact h.elim
   ·rename_i hw
    obtain ⟨En, Hs, V, E', F', N', W', t, a1, a2, a3, a4, a5, a6⟩ := qE7 l (j + 1) _ _ _ _ _ _ h
    refine ⟨fun i => Nat.casesOn i env fun i => En i, fun i => Nat.casesOn i ph fun i => Hs i, fun i => Nat.casesOn i (.tup []) fun i => V i, E', F', N', W', ⟨rfl, rfl, fun i p hi => ?_⟩, a1, a2, a3, fun x hx => a4 x (List.mem_cons_of_mem _ hx), a5, a6⟩
    cases i with
    | zero =>
      simp only [List.getElem?_cons_zero, Option.some.injEq] at hi
      subst hi
      exact ⟨t.e0, a4 _ List.mem_cons_self, .inr ⟨hw, rfl, t.h0⟩⟩
    | succ i =>
      have := t.step i p (by simpa using hi)
      rw [show j + 1 + i = j + (i + 1) by omega] at this
      exact this
   ·exact h.elim
end Go.Idl
