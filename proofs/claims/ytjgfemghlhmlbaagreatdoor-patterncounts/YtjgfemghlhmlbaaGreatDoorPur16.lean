/- Regions that draw their order, on values without a heap. Conditions: none. -/
import Derived.Test.YtjgfemghlhmlbaaGreatDoorPurB
set_option linter.all false
namespace Go.Idl
variable [Gc]
variable {P : Program} {G : Nat -> Bool} {nat : xG} {tab : fM} {nm : Nm}
variable {a b ph ph' ph1 : PHp} {env env' : List PV} {k l : Nat} {o : Oper} {r : Option (PV × PHp)} {t : TypeId} {v x : PV}
noncomputable def qDA (P : Program) (tab : fM) (g : FuncId) (as : List PV) (ph : PHp) : PE := match fzA P as ph with
 | some (zJB, _) => (match tab g (rtA P g zJB) with
   | some r => cond (vY r || as.all qUH) (.ok r ph) .fail
   | none => .fail)
 | none => .fail
noncomputable def zY (P : Program) (tab : fM) (k : Nat) (o : Oper) (env : List PV) (ph : PHp) : PE := match o.op with
 | .call ⟨.value f, args, _⟩ => (match target (qN env f) (args.toList.map (qN env)) with
   | some (g, as) => qDA P tab g as ph
   | none => .fail)
 | _ => peO (qDM P o env k ph)
theorem qPJ {n : Nat} : ∀ {cs : List PV} {ph : PHp}, cs.all q7F = true -> ∃ ys, qIR (fz1 P n) cs ph = some (ys, ph)
 | [], ph, _ => ⟨[], rfl⟩
 | c :: cs, ph, h => by
   simp only [zSY, zQM] at h;obtain ⟨ys, hy⟩ := qPJ (n := n) (ph := ph) h.2
   cases c with
   | f x =>
     have e : fz1 P n ph (.f x) = some (x, ph) := by cases n <;> rfl
     exact ⟨x :: ys, by unfold qIR; rw [e]; simp only [hy]⟩
   | _ => exact absurd h.1 Bool.false_ne_true
theorem qWU : ∀ {as : List PV} {ph : PHp}, as.all qUH = true -> ∃ ys, fzA P as ph = some (ys, ph)
 | [], ph, _ => ⟨[], rfl⟩
 | a :: as, ph, h => by
   simp only [zSY, zQM] at h;obtain ⟨ys, hy⟩ := qWU (ph := ph) h.2
   have : ∃ y, fzP P ph a = some (y, ph) := by
    cases a with
    | f x => exact ⟨_, rfl⟩
    | agg cs =>
      obtain ⟨zs, hz⟩ := qPJ (P := P) (n := 4) (ph := ph) (cs := cs) h.1;exact ⟨_, by unfold fzP; simp only [hz]; rfl⟩
    | _ => exact absurd h.1 Bool.false_ne_true
   obtain ⟨y, h1⟩ := this;exact ⟨y :: ys, by unfold fzA; simp only [h1, hy]⟩
theorem qLP {inl : FuncId -> Bool} {fv : PV} {args as : List PV} {g : FuncId} (h : target fv args = some (g, as)) : oQ P tab inl fv args ph = eO P tab inl g as ph := by
 unfold target at h;split at h
 ·rename_i g' a c;unfold oQ
  cases hc : (a.toList.isEmpty && c.toList.isEmpty) with
  | true => rw [hc] at h; cases h; simp only [hc, cond_true]
  | false => rw [hc] at h; cases h
 ·cases h; rfl
 ·cases h
theorem q2F (h : peO r = .ok v ph') : r = some (v, ph') := by
 unfold peO at h;split at h
 ·cases h; rfl
 ·cases h
theorem qYX (h : zY P tab k o env ph = .ok v ph') : gV P tab (fun _ => false) k o env ph = .ok v ph' := by
 by_cases hc : ∃ f args ts, o.op = .call ⟨.value f, args, ts⟩
 ·obtain ⟨f, args, ts, ho⟩ := hc;unfold zY at h;unfold gV;rw [ho] at h ⊢;simp only at h ⊢;split at h
  ·rename_i g as ht;rw [qLP ht];show aB P tab g as ph = _;unfold qDA at h;unfold aB;split at h
   ·rename_i zJB ph1 hf;split at h
    ·rename_i r hr
     cases hp : vY r with
     | true => rw [hp] at h; rw [hf]; simp only [hr, hp]; exact h
     | false =>
       rw [hp] at h
       cases ha : as.all qUH with
       | false => rw [ha] at h; cases h
       | true =>
         rw [ha] at h;obtain ⟨ys, hy⟩ := qWU (P := P) (ph := ph) ha;rw [hy] at hf; cases hf;rw [hy]; simp only [hr, hp]; exact h
    ·cases h
   ·cases h
  ·cases h
 ·unfold zY at h;unfold gV;split
  ·rename_i f args ts ho; exact absurd ⟨f, args, ts, ho⟩ hc
  ·split at h
   ·rename_i f args ts ho; exact absurd ⟨f, args, ts, ho⟩ hc
   ·rw [qY3 (q2F h)]; rfl
theorem tH {o : Oper} (h : ∀ x ∈ o.op.operands, qN env x = qN env' x) : zY P tab k o env ph = zY P tab k o env' ph := by
 unfold zY;split
 ·rename_i f args ts hop;rw [hop] at h;have hf : qN env f = qN env' f := h f (by simp [Op.operands, Call.operands]);have ha : args.toList.map (qN env) = args.toList.map (qN env') := zRT fun x hx => h x (by simp [Op.operands, Call.operands, zRY, hx])
  rw [hf, ha]
 ·rw [qUA h]
theorem qNQ {f : Operand} {args : Array Operand} {ts : Array TypeId} (ho : o.op = .call ⟨.value f, args, ts⟩) (h : zY P tab k o env ph = .ok v ph') : ph' = ph := by
 unfold zY at h;rw [ho] at h;simp only at h;split at h
 ·unfold qDA at h;split at h
  ·split at h
   ·rename_i r hr
    cases hc : (vY r || _) with
    | true => rw [hc] at h; cases h; rfl
    | false => rw [hc] at h; cases h
   ·cases h
  ·cases h
 ·cases h
theorem bK (h : peO r = .ok v ph') : r = some (v, ph') := by
 unfold peO at h;split at h
 ·cases h; rfl
 ·cases h
theorem q1O {o : Oper} {env : List PV} (hf : yO o = false) (ha : qM o = false) (h : zY P tab k o env ph = .ok v ph1) :
 ph1 = ph ∧ ∀ (k' : Nat) (ph' : PHp), (∀ l ∈ dlO o env, qB l ph' = qB l ph) -> zY P tab k' o env ph' = .ok v ph' := by
 by_cases hc : ∃ f args ts, o.op = .call ⟨.value f, args, ts⟩
 ·obtain ⟨f, args, ts, ho⟩ := hc
  rcases qG9 hf ha with h1 | h1 <;> (unfold xH at h1; rw [ho] at h1; cases h1)
 ·have e : ∀ k ph, zY P tab k o env ph = peO (qDM P o env k ph) := fun k ph => by
   unfold zY;split
   ·rename_i f args ts ho; exact absurd ⟨f, args, ts, ho⟩ hc
   ·rfl
  rw [e] at h;obtain ⟨h1, h2⟩ := zBZ hf ha (bK h);exact ⟨h1, fun k' ph' hd => by rw [e, h2 k' ph' hd]; rfl⟩
def shp (k : Nat) (ph : PHp) : Option (TypeId × Nat) := (qB k ph).map fun o => (o.el, o.cs.length)
def q0S (l : Nat) (ph' ph : PHp) : Prop := (∀ k, l = 2 * k -> qB k ph' = qB k ph) ∧ ∀ k, l = 2 * k + 1 -> shp k ph' = shp k ph
theorem q0S.refl (l : Nat) (ph : PHp) : q0S l ph ph := ⟨fun _ _ => rfl, fun _ _ => rfl⟩
theorem q0S.symm {l : Nat} {a b : PHp} (h : q0S l a b) : q0S l b a := ⟨fun k e => (h.1 k e).symm, fun k e => (h.2 k e).symm⟩
theorem q0S.of (h : ∀ k, l = 2 * k ∨ l = 2 * k + 1 -> qB k a = qB k b) : q0S l a b := ⟨fun k e => h k (.inl e), fun k e => by unfold shp; rw [h k (.inr e)]⟩
noncomputable def dlT (o : Oper) (env : List PV) : List Nat := match o.op with
 | .indexAddr _ _ _ => (dlO o env).map fun k => 2 * k + 1
 | .fieldAddr _ _ _ => (dlO o env).map fun k => 2 * k + 1
 | .move _ => []
 | .assign _ => []
 | _ => (dlO o env).map fun k => 2 * k
noncomputable def wlT (nm : Nm) (o : Oper) (env : List PV) : List Nat := match o.op with
 | .call ⟨.value _, _, _⟩ => []
 | .store _ _ _ => (dlO o env).map fun k => 2 * k
 | _ => (zL nm o.dst :: dlO o env).flatMap fun k => [2 * k, 2 * k + 1]
theorem q5T {tt : Nat} (h : shp k ph' = shp k ph) : live? k tt ph' = live? k tt ph := by
 unfold live?;unfold shp at h
 cases h1 : qB k ph with
 | none =>
   rw [h1] at h;simp only [Option.map_none, zUU] at h;rw [h]
 | some a =>
   rw [h1] at h;simp only [zQW] at h;obtain ⟨b, h2, h3⟩ := zQY.1 h;injection h3 with h4 h5;rw [h2];simp only [h5]
theorem qK2 {a : PV} {i : Nat} (h : zX P t a i ph = some x) (hd : ∀ l ∈ dl1 a, shp l ph' = shp l ph) : zX P t a i ph' = some x := by
 cases a <;> first | exact h | skip
 rename_i k tt off;have := q5T (tt := tt) (hd k (by simp [dl1]));unfold zX at h ⊢;simp only [this];exact h
theorem qLF {a ix : PV} (h : zA P t a ix ph = some x) (hd : ∀ l ∈ dl1 a, shp l ph' = shp l ph) : zA P t a ix ph' = some x := by
 unfold zA at h ⊢;split at h
 ·split at h
  ·exact h
  ·rename_i k tt o n;have hs := hd k (by simp [dl1]);unfold shp at hs;split at h
   ·rename_i el' ob h1 h2;rw [h2] at hs;simp only [zQW] at hs;obtain ⟨ob', h3, h4⟩ := zQY.1 hs;injection h4 with h5 h6;simp only [h1, h3, h5, h6];exact h
   ·cases h
  ·rename_i k tt off;rw [q5T (tt := tt) (hd k (by simp [dl1]))]; exact h
  ·exact h
  ·cases h
 ·cases h
theorem q36 {a : PV} (h : bB P t a x ph = some ph') : (∀ l, l ∉ dl1 a -> qB l ph' = qB l ph) ∧ ∀ l, shp l ph' = shp l ph := by
 unfold bB at h;split at h
 ·rename_i k tt off;split at h
  ·rename_i ob hob;split at h
   ·rename_i n hn
    replace h := (uX h).2
    cases hc : (Nat.beq tt ob.cs.length && (Nat.beq n (zU x).length && (Nat.ble (off + n) ob.cs.length && (pnt x && (zU x).all p9)))) with
    | true =>
      rw [hc] at h; cases h;rw [zQM, zQM, zQM] at hc;have h1 : n = (zU x).length := zQN hc.2.1;have h2 : off + n <= ob.cs.length := zQ4 hc.2.2.1;refine ⟨fun l hl => by rw [zZ, if_neg (fun e => hl (by rw [e.1]; simp [dl1]))], fun l => ?_⟩;unfold shp;rw [zZ];split
      ·rename_i e;rw [e.1, hob];simp only [zQW];rw [mZ (by omega)]
      ·rfl
    | false => rw [hc] at h; cases h
   ·cases h
  ·cases h
 ·cases h
theorem gJ (hc : ¬ ∃ f args ts, o.op = .call ⟨.value f, args, ts⟩) (k : Nat) (env : List PV) (ph : PHp) : zY P tab k o env ph = peO (qDM P o env k ph) := by
 unfold zY;split
 ·rename_i f args ts ho; exact absurd ⟨f, args, ts, ho⟩ hc
 ·rfl
theorem qVA (h : zY P tab (zL nm o.dst) o env ph = .ok v ph') (hl : l ∉ wlT nm o env) : q0S l ph' ph := by
 by_cases hc : ∃ f args ts, o.op = .call ⟨.value f, args, ts⟩
 ·obtain ⟨f, args, ts, ho⟩ := hc;rw [qNQ ho h];exact .refl _ _
 ·by_cases hst : ∃ t a x, o.op = .store t a x
  ·obtain ⟨t, a, x, ho⟩ := hst;have h1 := bK ((gJ hc _ _ _).symm.trans h);obtain ⟨d, op, ty, pos, aft, g⟩ := o;cases ho;simp only [qDM] at h1;unfold ppS at h1;split at h1
   ·rename_i ph1 hs;cases h1;obtain ⟨a1, a2⟩ := q36 hs;refine ⟨fun k e => a1 k fun hk => hl ?_, fun k _ => a2 k⟩;exact zQ9.2 ⟨k, qC6 (o := ⟨d, .store t a x, ty, pos, aft, g⟩) (by simp [Op.operands]) hk, e.symm⟩
   ·cases h1
  ·have e2 : wlT nm o env = (zL nm o.dst :: dlO o env).flatMap fun k => [2 * k, 2 * k + 1] := by
    unfold wlT;split
    ·rename_i f args ts ho; exact absurd ⟨f, args, ts, ho⟩ hc
    ·rename_i t a x ho; exact absurd ⟨t, a, x, ho⟩ hst
    ·rfl
   have h1 := bK ((gJ hc _ _ _).symm.trans h);refine .of fun k hk => ?_
   have hn : k ∉ zL nm o.dst :: dlO o env := fun hm => hl (by
    rw [e2];refine List.mem_flatMap.2 ⟨k, hm, ?_⟩
    rcases hk with e | e <;> simp [e])
   simp only [zQ2, not_or] at hn;exact zCJ h1 hn.1 hn.2
theorem pV {o : Oper} {env : List PV} (hf : yO o = false) (ha : qM o = false) (h : zY P tab k o env ph = .ok v ph1) :
 ph1 = ph ∧ ∀ (k' : Nat) (ph' : PHp), (∀ l ∈ dlT o env, q0S l ph' ph) -> zY P tab k' o env ph' = .ok v ph' := by
 obtain ⟨e1, e2⟩ := q1O hf ha h;refine ⟨e1, fun k' ph' hd => ?_⟩;subst e1;have gen : dlT o env = (dlO o env).map (fun k => 2 * k) -> zY P tab k' o env ph' = .ok v ph' := fun hg => e2 k' ph' fun l hl => (hd (2 * l) (by rw [hg]; exact zQ9.2 ⟨l, hl, rfl⟩)).1 l rfl
 have sh : dlT o env = (dlO o env).map (fun k => 2 * k + 1) -> ∀ l ∈ dlO o env, shp l ph' = shp l ph1 := fun hg l hl => (hd (2 * l + 1) (by rw [hg]; exact zQ9.2 ⟨l, hl, rfl⟩)).2 l rfl
 obtain ⟨d, op, ty, pos, aft, g⟩ := o
 cases op <;> first | exact gen rfl | skip
 case move x =>
  have h1 := bK (r := some (qN env x, ph1)) h;cases h1;rfl
 case assign x =>
  have h1 := bK (r := some (qN env x, ph1)) h;cases h1;rfl
 case indexAddr t x ix =>
  have h1 := yA (bK h);show peO (pp1 ph' (zA P t (qN env x) (qN env ix) ph')) = _;rw [qLF h1.1 fun l hl => sh rfl l (qC6 (o := ⟨d, .indexAddr t x ix, ty, pos, aft, g⟩) (x := x) (by simp [Op.operands]) hl)];rfl
 case fieldAddr t x i =>
  have h1 := yA (bK h);show peO (pp1 ph' (zX P t (qN env x) i ph')) = _;rw [qK2 h1.1 fun l hl => sh rfl l (qC6 (o := ⟨d, .fieldAddr t x i, ty, pos, aft, g⟩) (x := x) (by simp [Op.operands]) hl)];rfl
def zJ (o : Oper) : Bool := yO o || qM o
theorem tO (h : zJ o = false) : yO o = false ∧ qM o = false := by
 unfold zJ at h;rw [Bool.or_eq_false_iff] at h;exact h
def gD (ops : Array Oper) : Bool := ops.toList.zipIdx.all fun p => ops.toList.zipIdx.all fun q => Nat.beq p.2 q.2 || (!zJ p.1 || (!zJ q.1 || (uM (Region.before ops) p.2 q.2 || uM (Region.before ops) q.2 p.2)))
theorem qI1 {ops : Array Oper} (h : gD ops = true) (k j : Nat) (q o : Oper) (hkj : k ≠ j) (hk : ops[k]? = some q) (ho : ops[j]? = some o) (hq : zJ q = true) (he : zJ o = true) : uM (Region.before ops) k j = true ∨ uM (Region.before ops) j k = true := by
 unfold gD at h;have h1 := zQR.1 h (q, k) (zS9.2 (by simpa using hk));have h2 := zQR.1 h1 (o, j) (zS9.2 (by simpa using ho));simp only [hq, he, zSF, zUC, zSQ] at h2;rcases h2 with h | h | h
 ·exact absurd (zQN h) hkj
 ·exact .inl h
 ·exact .inr h
def q3T (ops : List Oper) (j k : Nat) : Bool := match ops[j]?, ops[k]? with
 | some o, some q => (match o.op, q.op with
   | .lookup t (.tmp a) (.tmp c) false, .mapEntry t' (.tmp a') (.tmp c') => Nat.beq t t' && Nat.beq a a' && Nat.beq c c' && Nat.blt j k && ops.zipIdx.all fun p => !(Nat.ble j p.2) || !(Nat.blt p.2 k) || (match p.1.dst with | some d => !(Nat.beq d a) && !(Nat.beq d c) | none => true)
   | _, _ => false)
 | _, _ => false
structure DB where
 b : Array Nat
 x : Nat -> Nat -> Bool
def dBo (ops : Array Oper) : DB := ⟨Region.before ops, q3T ops.toList⟩
noncomputable def mH (b : DB) (zIK : List PV) (E F : List (Nat × List Nat)) (N : List (Nat × Nat)) (V : List (Nat × PV)) : Bool :=
 (F.all fun f => E.all fun e => q49 b.b e.1 f.1 || (b.x f.1 e.1 || f.2.all fun l => !e.2.contains l)) && N.all fun n => yD n.2 zIK && V.all fun v => Nat.beq v.1 n.1 || (uM b.b n.1 v.1 || noK n.2 v.2)
def q0M (c x : Bool) (t : PT) : PT := cond c (.chk x t) t
noncomputable def qIU (P : Program) (tab : fM) (nm : Nm) (ds : List (Option Tmp)) (b : DB) (zIK : List PV) : Nat -> List Oper -> List PV -> PHp -> List (Nat × List Nat) -> List (Nat × List Nat) -> List (Nat × Nat) -> List (Nat × PV) -> PT
 | i, [], env, ph, E, F, N, V => .chk (mH b zIK E F N V) (.ret env ph)
 | i, o :: l, env, ph, E, F, N, V => vX (fK ds o env)
    (match zY P tab (zL nm o.dst) o env ph with
     | .ok v ph' => q0M (needs o.op) (inP nm (zL nm o.dst) && dY (zL nm o.dst) ph) (qIU P tab nm ds b zIK (i + 1) l (yN env o.dst v) ph' (cond (zJ o) ((i, wlT nm o env) :: E) E) (cond (zJ o) F ((i, dlT o env) :: F)) (cond (needs o.op) ((i, zL nm o.dst) :: N) N) ((i, v) :: V))
     | _ => .fail)
    (qIU P tab nm ds b zIK (i + 1) l (yN env o.dst (.tup [])) ph E F N ((i, .tup []) :: V)) .fail
structure TrI (P : Program) (tab : fM) (nm : Nm) (ds : List (Option Tmp)) (b : DB) (ops : List Oper) (zIK : List PV) (ph0 : PHp) (En : Nat -> List PV) (Hs : Nat -> PHp) (V : Nat -> PV) (j : Nat) (E F : List (Nat × List Nat)) (N : List (Nat × Nat)) (W : List (Nat × PV)) : Prop where
 e0 : En 0 = zIK
 h0 : Hs 0 = ph0
 step : ∀ i o, ops[i]? = some o -> En (i + 1) = yN (En i) o.dst (V i) ∧ (j + i, V i) ∈ W ∧
  ((fK ds o (En i) = some true ∧ zY P tab (zL nm o.dst) o (En i) (Hs i) = .ok (V i) (Hs (i + 1)) ∧ (needs o.op = true -> inP nm (zL nm o.dst) = true ∧ dY (zL nm o.dst) (Hs i) = true ∧ (j + i, zL nm o.dst) ∈ N) ∧
     (zJ o = true -> (j + i, wlT nm o (En i)) ∈ E) ∧ (zJ o = false -> (j + i, dlT o (En i)) ∈ F)) ∨
    (fK ds o (En i) = some false ∧ V i = .tup [] ∧ Hs (i + 1) = Hs i))
theorem qGX {Q : List PV -> PHp -> Prop} {ds : List (Option Tmp)} {b : DB} {zIK : List PV} : ∀ (l : List Oper) (j : Nat) (env : List PV) (ph : PHp) (E F : List (Nat × List Nat)) (N : List (Nat × Nat)) (W : List (Nat × PV)),
 (qIU P tab nm ds b zIK j l env ph E F N W).holds P G Q -> ∃ En Hs V E' F' N' W', TrI P tab nm ds b l env ph En Hs V j E' F' N' W' ∧ (∀ x ∈ E, x ∈ E') ∧ (∀ x ∈ F, x ∈ F') ∧ (∀ x ∈ N, x ∈ N') ∧ (∀ x ∈ W, x ∈ W') ∧ mH b zIK E' F' N' W' = true ∧ Q (En l.length) (Hs l.length)
 | [], j, env, ph, E, F, N, W, h => ⟨fun _ => env, fun _ => ph, fun _ => .unk, E, F, N, W, ⟨rfl, rfl, fun i o h => by simp at h⟩, fun _ h => h, fun _ h => h, fun _ h => h, fun _ h => h, h.1, h.2⟩
 | o :: l, j, env, ph, E, F, N, W, h => by
   unfold qIU vX at h;split at h
   ·rename_i hw;split at h
    ·rename_i v ph' hx
     have hh : (needs o.op = true -> inP nm (zL nm o.dst) = true ∧ dY (zL nm o.dst) ph = true) ∧ (qIU P tab nm ds b zIK (j + 1) l (yN env o.dst v) ph' (cond (zJ o) ((j, wlT nm o env) :: E) E) (cond (zJ o) F ((j, dlT o env) :: F)) (cond (needs o.op) ((j, zL nm o.dst) :: N) N) ((j, v) :: W)).holds P G Q := by
      unfold q0M at h
      cases hn : needs o.op with
      | true =>
        rw [hn] at h;obtain ⟨hc, h⟩ := h;rw [zQM] at hc;exact ⟨fun _ => hc, h⟩
      | false => rw [hn] at h; exact ⟨fun h => by (cases h), h⟩
     obtain ⟨hc, h⟩ := hh;obtain ⟨En, Hs, V, E', F', N', W', t, a1, a2, a3, a4, a5, a6⟩ := qGX l (j + 1) _ _ _ _ _ _ h;refine ⟨fun i => Nat.casesOn i env fun i => En i, fun i => Nat.casesOn i ph fun i => Hs i, fun i => Nat.casesOn i v fun i => V i, E', F', N', W', ⟨rfl, rfl, fun i p hi => ?_⟩, fun x hx => a1 x ?_, fun x hx => a2 x ?_, fun x hx => a3 x ?_, fun x hx => a4 x (zQS _ hx), a5, a6⟩
     ·cases i with
      | zero =>
        simp only [zRJ, zQV] at hi;subst hi;have e0 : Hs 0 = ph' := t.h0;have hx0 : zY P tab (zL nm o.dst) o env ph = .ok v (Hs 0) := by rw [e0]; exact hx
        refine ⟨t.e0, a4 _ zQT, .inl ⟨hw, hx0, fun hn => ?_, fun he => a1 _ (by rw [he]; exact zQT), fun he => a2 _ (by rw [he]; exact zQT)⟩⟩;have hc := hc hn;exact ⟨hc.1, hc.2, a3 _ (by rw [hn]; exact zQT)⟩
      | succ i =>
        have := t.step i p (by simpa using hi);rw [show j + 1 + i = j + (i + 1) by omega] at this;exact this
     ·cases zJ o
      ·exact hx
      ·exact zQS _ hx
     ·cases zJ o
      ·exact zQS _ hx
      ·exact hx
     ·cases needs o.op
      ·exact hx
      ·exact zQS _ hx
    ·exact h.elim
   ·rename_i hw;obtain ⟨En, Hs, V, E', F', N', W', t, a1, a2, a3, a4, a5, a6⟩ := qGX l (j + 1) _ _ _ _ _ _ h;refine ⟨fun i => Nat.casesOn i env fun i => En i, fun i => Nat.casesOn i ph fun i => Hs i, fun i => Nat.casesOn i (.tup []) fun i => V i, E', F', N', W', ⟨rfl, rfl, fun i p hi => ?_⟩, a1, a2, a3, fun x hx => a4 x (zQS _ hx), a5, a6⟩
    cases i with
    | zero =>
      simp only [zRJ, zQV] at hi;subst hi;exact ⟨t.e0, a4 _ zQT, .inr ⟨hw, rfl, t.h0⟩⟩
    | succ i =>
      have := t.step i p (by simpa using hi);rw [show j + 1 + i = j + (i + 1) by omega] at this;exact this
   ·exact h.elim
def qAH (P : Program) (tab : fM) (o : Oper) (env : List PV) (a b : PHp) : Prop := ∀ (k : Nat) (v : PV), zY P tab k o env a = .ok v a ↔ zY P tab k o env b = .ok v b
theorem qAH.refl (a : PHp) : qAH P tab o env a a := fun _ _ => Iff.rfl
theorem qAH.trans {o : Oper} {env : List PV} {a b c : PHp} (h : qAH P tab o env a b) (g : qAH P tab o env b c) : qAH P tab o env a c := fun k v => (h k v).trans (g k v)
theorem qAH.tk {o : Oper} {env : List PV} (hf : yO o = false) (ha : qM o = false) (h : ∀ l ∈ dlT o env, q0S l b a) : qAH P tab o env a b := fun k v =>
 ⟨fun e => (pV hf ha e).2 k b h, fun e => (pV hf ha e).2 k a fun l hl => (h l hl).symm⟩
theorem qAH.look {q : Oper} {m c : Tmp} {kq : Nat} {y : PV} (ho : o.op = .lookup t (.tmp m) (.tmp c) false) (hq : q.op = .mapEntry t (.tmp m) (.tmp c)) (h1 : qN env' (.tmp m) = qN env (.tmp m)) (h2 : qN env' (.tmp c) = qN env (.tmp c)) (h : zY P tab kq q env' a = .ok y b) : qAH P tab o env a b := by
 have hc : ∀ {o : Oper}, (∀ c, o.op ≠ .call c) -> ¬ ∃ f args ts, o.op = .call ⟨.value f, args, ts⟩ := fun hn ⟨f, args, ts, e⟩ => hn _ e
 have h3 : kD P t (qN env' (.tmp m)) (qN env' (.tmp c)) a = some (y, b) := by
  have := bK ((gJ (hc fun c e => by rw [hq] at e; cases e) _ _ _).symm.trans h);unfold qDM at this;rw [hq] at this;exact this
 rw [h1, h2] at h3;have h4 := qD2 h3;intro k v;rw [gJ (hc fun c e => by rw [ho] at e; cases e), gJ (hc fun c e => by rw [ho] at e; cases e)];unfold qDM;rw [ho];simp only [pp1, h4]
 cases kI P t (qN env (.tmp m)) (qN env (.tmp c)) false a with
 | none => exact ⟨fun e => by (cases e), fun e => by (cases e)⟩
 | some x => exact ⟨fun e => by cases e; rfl, fun e => by cases e; rfl⟩
end Go.Idl
