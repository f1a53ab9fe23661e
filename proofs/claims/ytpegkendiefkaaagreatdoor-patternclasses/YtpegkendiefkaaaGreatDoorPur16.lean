/- Regions that draw their order, on values without a heap. Conditions: none. -/
import Derived.Test.YtpegkendiefkaaaGreatDoorPurB
set_option linter.all false
namespace Go.Idl
variable [Gc]
variable {P : Program} {G : Nat -> Bool} {nat : xI} {tab : gY} {nm : Nm}
variable {a b ph ph' ph1 : PHp} {env env' : List PV} {k l : Nat} {o : Oper} {r : Option (PV × PHp)} {t : TypeId} {v x : PV}
noncomputable def qBZ (P : Program) (tab : gY) (g : FuncId) (as : List PV) (ph : PHp) : PE := match fzA P as ph with
 | some (zIS, _) => (match tab g (rtA P g zIS) with
   | some r => cond (vZ r || as.all qT1) (.ok r ph) .fail
   | none => .fail)
 | none => .fail
noncomputable def yC (P : Program) (tab : gY) (k : Nat) (o : Oper) (env : List PV) (ph : PHp) : PE := match o.op with
 | .call ⟨.value f, args, _⟩ => (match target (qN env f) (args.toList.map (qN env)) with
   | some (g, as) => qBZ P tab g as ph
   | none => .fail)
 | _ => peO (qDS P o env k ph)
theorem qPV {n : Nat} : ∀ {cs : List PV} {ph : PHp}, cs.all q8R = true -> ∃ ys, qIQ (fz1 P n) cs ph = some (ys, ph)
 | [], ph, _ => ⟨[], rfl⟩
 | c :: cs, ph, h => by
   simp only [zV6, zTY] at h;obtain ⟨ys, hy⟩ := qPV (n := n) (ph := ph) h.2
   cases c with
   | f x =>
     have e : fz1 P n ph (.f x) = some (x, ph) := by cases n <;> rfl
     exact ⟨x :: ys, by unfold qIQ; rw [e]; simp only [hy]⟩
   | _ => exact absurd h.1 Bool.false_ne_true
theorem qZY : ∀ {as : List PV} {ph : PHp}, as.all qT1 = true -> ∃ ys, fzA P as ph = some (ys, ph)
 | [], ph, _ => ⟨[], rfl⟩
 | a :: as, ph, h => by
   simp only [zV6, zTY] at h;obtain ⟨ys, hy⟩ := qZY (ph := ph) h.2
   have : ∃ y, fzP P ph a = some (y, ph) := by
    cases a with
    | f x => exact ⟨_, rfl⟩
    | agg cs =>
      obtain ⟨zs, hz⟩ := qPV (P := P) (n := 4) (ph := ph) (cs := cs) h.1;exact ⟨_, by unfold fzP; simp only [hz]; rfl⟩
    | _ => exact absurd h.1 Bool.false_ne_true
   obtain ⟨y, h1⟩ := this;exact ⟨y :: ys, by unfold fzA; simp only [h1, hy]⟩
theorem qIW {inl : FuncId -> Bool} {fv : PV} {args as : List PV} {g : FuncId} (h : target fv args = some (g, as)) : pR P tab inl fv args ph = mI P tab inl g as ph := by
 unfold target at h;split at h
 ·rename_i g' a c;unfold pR
  cases hc : (a.toList.isEmpty && c.toList.isEmpty) with
  | true => rw [hc] at h; cases h; simp only [hc, cond_true]
  | false => rw [hc] at h; cases h
 ·cases h; rfl
 ·cases h
theorem q2O (h : peO r = .ok v ph') : r = some (v, ph') := by
 unfold peO at h;split at h
 ·cases h; rfl
 ·cases h
theorem qYS (h : yC P tab k o env ph = .ok v ph') : gZ P tab (fun _ => false) k o env ph = .ok v ph' := by
 by_cases hc : ∃ f args ts, o.op = .call ⟨.value f, args, ts⟩
 ·obtain ⟨f, args, ts, ho⟩ := hc;unfold yC at h;unfold gZ;rw [ho] at h ⊢;simp only at h ⊢;split at h
  ·rename_i g as ht;rw [qIW ht];show aK P tab g as ph = _;unfold qBZ at h;unfold aK;split at h
   ·rename_i zIS ph1 hf;split at h
    ·rename_i r hr
     cases hp : vZ r with
     | true => rw [hp] at h; rw [hf]; simp only [hr, hp]; exact h
     | false =>
       rw [hp] at h
       cases ha : as.all qT1 with
       | false => rw [ha] at h; cases h
       | true =>
         rw [ha] at h;obtain ⟨ys, hy⟩ := qZY (P := P) (ph := ph) ha;rw [hy] at hf; cases hf;rw [hy]; simp only [hr, hp]; exact h
    ·cases h
   ·cases h
  ·cases h
 ·unfold yC at h;unfold gZ;split
  ·rename_i f args ts ho; exact absurd ⟨f, args, ts, ho⟩ hc
  ·split at h
   ·rename_i f args ts ho; exact absurd ⟨f, args, ts, ho⟩ hc
   ·rw [qZI (q2O h)]; rfl
theorem tJ {o : Oper} (h : ∀ x ∈ o.op.operands, qN env x = qN env' x) : yC P tab k o env ph = yC P tab k o env' ph := by
 unfold yC;split
 ·rename_i f args ts hop;rw [hop] at h;have hf : qN env f = qN env' f := h f (by simp [Op.operands, Call.operands]);have ha : args.toList.map (qN env) = args.toList.map (qN env') := zU5 fun x hx => h x (by simp [Op.operands, Call.operands, zU9, hx])
  rw [hf, ha]
 ·rw [qSS h]
theorem qM2 {f : Operand} {args : Array Operand} {ts : Array TypeId} (ho : o.op = .call ⟨.value f, args, ts⟩) (h : yC P tab k o env ph = .ok v ph') : ph' = ph := by
 unfold yC at h;rw [ho] at h;simp only at h;split at h
 ·unfold qBZ at h;split at h
  ·split at h
   ·rename_i r hr
    cases hc : (vZ r || _) with
    | true => rw [hc] at h; cases h; rfl
    | false => rw [hc] at h; cases h
   ·cases h
  ·cases h
 ·cases h
theorem bT (h : peO r = .ok v ph') : r = some (v, ph') := by
 unfold peO at h;split at h
 ·cases h; rfl
 ·cases h
theorem q4A {o : Oper} {env : List PV} (hf : yR o = false) (ha : qM o = false) (h : yC P tab k o env ph = .ok v ph1) :
 ph1 = ph ∧ ∀ (k' : Nat) (ph' : PHp), (∀ l ∈ dlO o env, qD l ph' = qD l ph) -> yC P tab k' o env ph' = .ok v ph' := by
 by_cases hc : ∃ f args ts, o.op = .call ⟨.value f, args, ts⟩
 ·obtain ⟨f, args, ts, ho⟩ := hc
  rcases qGX hf ha with h1 | h1 <;> (unfold xJ at h1; rw [ho] at h1; cases h1)
 ·have e : ∀ k ph, yC P tab k o env ph = peO (qDS P o env k ph) := fun k ph => by
   unfold yC;split
   ·rename_i f args ts ho; exact absurd ⟨f, args, ts, ho⟩ hc
   ·rfl
  rw [e] at h;obtain ⟨h1, h2⟩ := zAK hf ha (bT h);exact ⟨h1, fun k' ph' hd => by rw [e, h2 k' ph' hd]; rfl⟩
def shp (k : Nat) (ph : PHp) : Option (TypeId × Nat) := (qD k ph).map fun o => (o.el, o.cs.length)
def q0G (l : Nat) (ph' ph : PHp) : Prop := (∀ k, l = 2 * k -> qD k ph' = qD k ph) ∧ ∀ k, l = 2 * k + 1 -> shp k ph' = shp k ph
theorem q0G.refl (l : Nat) (ph : PHp) : q0G l ph ph := ⟨fun _ _ => rfl, fun _ _ => rfl⟩
theorem q0G.symm {l : Nat} {a b : PHp} (h : q0G l a b) : q0G l b a := ⟨fun k e => (h.1 k e).symm, fun k e => (h.2 k e).symm⟩
theorem q0G.of (h : ∀ k, l = 2 * k ∨ l = 2 * k + 1 -> qD k a = qD k b) : q0G l a b := ⟨fun k e => h k (.inl e), fun k e => by unfold shp; rw [h k (.inr e)]⟩
noncomputable def dlT (o : Oper) (env : List PV) : List Nat := match o.op with
 | .indexAddr _ _ _ => (dlO o env).map fun k => 2 * k + 1
 | .fieldAddr _ _ _ => (dlO o env).map fun k => 2 * k + 1
 | .move _ => []
 | .assign _ => []
 | _ => (dlO o env).map fun k => 2 * k
noncomputable def wlT (nm : Nm) (o : Oper) (env : List PV) : List Nat := match o.op with
 | .call ⟨.value _, _, _⟩ => []
 | .store _ _ _ => (dlO o env).map fun k => 2 * k
 | _ => (zM nm o.dst :: dlO o env).flatMap fun k => [2 * k, 2 * k + 1]
theorem q5W {tt : Nat} (h : shp k ph' = shp k ph) : live? k tt ph' = live? k tt ph := by
 unfold live?;unfold shp at h
 cases h1 : qD k ph with
 | none =>
   rw [h1] at h;simp only [Option.map_none, zX7] at h;rw [h]
 | some a =>
   rw [h1] at h;simp only [zT7] at h;obtain ⟨b, h2, h3⟩ := zT6.1 h;injection h3 with h4 h5;rw [h2];simp only [h5]
theorem qJZ {a : PV} {i : Nat} (h : zY P t a i ph = some x) (hd : ∀ l ∈ dl1 a, shp l ph' = shp l ph) : zY P t a i ph' = some x := by
 cases a <;> first | exact h | skip
 rename_i k tt off;have := q5W (tt := tt) (hd k (by simp [dl1]));unfold zY at h ⊢;simp only [this];exact h
theorem qJA {a ix : PV} (h : zB P t a ix ph = some x) (hd : ∀ l ∈ dl1 a, shp l ph' = shp l ph) : zB P t a ix ph' = some x := by
 unfold zB at h ⊢;split at h
 ·split at h
  ·exact h
  ·rename_i k tt o n;have hs := hd k (by simp [dl1]);unfold shp at hs;split at h
   ·rename_i el' ob h1 h2;rw [h2] at hs;simp only [zT7] at hs;obtain ⟨ob', h3, h4⟩ := zT6.1 hs;injection h4 with h5 h6;simp only [h1, h3, h5, h6];exact h
   ·cases h
  ·rename_i k tt off;rw [q5W (tt := tt) (hd k (by simp [dl1]))]; exact h
  ·exact h
  ·cases h
 ·cases h
theorem q2F {a : PV} (h : bE P t a x ph = some ph') : (∀ l, l ∉ dl1 a -> qD l ph' = qD l ph) ∧ ∀ l, shp l ph' = shp l ph := by
 unfold bE at h;split at h
 ·rename_i k tt off;split at h
  ·rename_i ob hob;split at h
   ·rename_i n hn
    replace h := (gF h).2
    cases hc : (Nat.beq tt ob.cs.length && (Nat.beq n (zT x).length && (Nat.ble (off + n) ob.cs.length && (pnt x && (zT x).all rT)))) with
    | true =>
      rw [hc] at h; cases h;rw [zTY, zTY, zTY] at hc;have h1 : n = (zT x).length := zTZ hc.2.1;have h2 : off + n <= ob.cs.length := zUH hc.2.2.1;refine ⟨fun l hl => by rw [zZ, if_neg (fun e => hl (by rw [e.1]; simp [dl1]))], fun l => ?_⟩;unfold shp;rw [zZ];split
      ·rename_i e;rw [e.1, hob];simp only [zT7];rw [oG (by omega)]
      ·rfl
    | false => rw [hc] at h; cases h
   ·cases h
  ·cases h
 ·cases h
theorem uZ (hc : ¬ ∃ f args ts, o.op = .call ⟨.value f, args, ts⟩) (k : Nat) (env : List PV) (ph : PHp) : yC P tab k o env ph = peO (qDS P o env k ph) := by
 unfold yC;split
 ·rename_i f args ts ho; exact absurd ⟨f, args, ts, ho⟩ hc
 ·rfl
theorem qU7 (h : yC P tab (zM nm o.dst) o env ph = .ok v ph') (hl : l ∉ wlT nm o env) : q0G l ph' ph := by
 by_cases hc : ∃ f args ts, o.op = .call ⟨.value f, args, ts⟩
 ·obtain ⟨f, args, ts, ho⟩ := hc;rw [qM2 ho h];exact .refl _ _
 ·by_cases hst : ∃ t a x, o.op = .store t a x
  ·obtain ⟨t, a, x, ho⟩ := hst;have h1 := bT ((uZ hc _ _ _).symm.trans h);obtain ⟨d, op, ty, pos, aft, g⟩ := o;cases ho;simp only [qDS] at h1;unfold ppS at h1;split at h1
   ·rename_i ph1 hs;cases h1;obtain ⟨a1, a2⟩ := q2F hs;refine ⟨fun k e => a1 k fun hk => hl ?_, fun k _ => a2 k⟩;exact zUN.2 ⟨k, qBB (o := ⟨d, .store t a x, ty, pos, aft, g⟩) (by simp [Op.operands]) hk, e.symm⟩
   ·cases h1
  ·have e2 : wlT nm o env = (zM nm o.dst :: dlO o env).flatMap fun k => [2 * k, 2 * k + 1] := by
    unfold wlT;split
    ·rename_i f args ts ho; exact absurd ⟨f, args, ts, ho⟩ hc
    ·rename_i t a x ho; exact absurd ⟨t, a, x, ho⟩ hst
    ·rfl
   have h1 := bT ((uZ hc _ _ _).symm.trans h);refine .of fun k hk => ?_
   have hn : k ∉ zM nm o.dst :: dlO o env := fun hm => hl (by
    rw [e2];refine List.mem_flatMap.2 ⟨k, hm, ?_⟩
    rcases hk with e | e <;> simp [e])
   simp only [zUD, not_or] at hn;exact q99 h1 hn.1 hn.2
theorem nX {o : Oper} {env : List PV} (hf : yR o = false) (ha : qM o = false) (h : yC P tab k o env ph = .ok v ph1) :
 ph1 = ph ∧ ∀ (k' : Nat) (ph' : PHp), (∀ l ∈ dlT o env, q0G l ph' ph) -> yC P tab k' o env ph' = .ok v ph' := by
 obtain ⟨e1, e2⟩ := q4A hf ha h;refine ⟨e1, fun k' ph' hd => ?_⟩;subst e1;have gen : dlT o env = (dlO o env).map (fun k => 2 * k) -> yC P tab k' o env ph' = .ok v ph' := fun hg => e2 k' ph' fun l hl => (hd (2 * l) (by rw [hg]; exact zUN.2 ⟨l, hl, rfl⟩)).1 l rfl
 have sh : dlT o env = (dlO o env).map (fun k => 2 * k + 1) -> ∀ l ∈ dlO o env, shp l ph' = shp l ph1 := fun hg l hl => (hd (2 * l + 1) (by rw [hg]; exact zUN.2 ⟨l, hl, rfl⟩)).2 l rfl
 obtain ⟨d, op, ty, pos, aft, g⟩ := o
 cases op <;> first | exact gen rfl | skip
 case move x =>
  have h1 := bT (r := some (qN env x, ph1)) h;cases h1;rfl
 case assign x =>
  have h1 := bT (r := some (qN env x, ph1)) h;cases h1;rfl
 case indexAddr t x ix =>
  have h1 := yA (bT h);show peO (pp1 ph' (zB P t (qN env x) (qN env ix) ph')) = _;rw [qJA h1.1 fun l hl => sh rfl l (qBB (o := ⟨d, .indexAddr t x ix, ty, pos, aft, g⟩) (x := x) (by simp [Op.operands]) hl)];rfl
 case fieldAddr t x i =>
  have h1 := yA (bT h);show peO (pp1 ph' (zY P t (qN env x) i ph')) = _;rw [qJZ h1.1 fun l hl => sh rfl l (qBB (o := ⟨d, .fieldAddr t x i, ty, pos, aft, g⟩) (x := x) (by simp [Op.operands]) hl)];rfl
def zI (o : Oper) : Bool := yR o || qM o
theorem tF (h : zI o = false) : yR o = false ∧ qM o = false := by
 unfold zI at h;rw [Bool.or_eq_false_iff] at h;exact h
def uX (ops : Array Oper) : Bool := ops.toList.zipIdx.all fun p => ops.toList.zipIdx.all fun q => Nat.beq p.2 q.2 || (!zI p.1 || (!zI q.1 || (uR (Region.before ops) p.2 q.2 || uR (Region.before ops) q.2 p.2)))
theorem qLK {ops : Array Oper} (h : uX ops = true) (k j : Nat) (q o : Oper) (hkj : k ≠ j) (hk : ops[k]? = some q) (ho : ops[j]? = some o) (hq : zI q = true) (he : zI o = true) : uR (Region.before ops) k j = true ∨ uR (Region.before ops) j k = true := by
 unfold uX at h;have h1 := zT3.1 h (q, k) (zWJ.2 (by simpa using hk));have h2 := zT3.1 h1 (o, j) (zWJ.2 (by simpa using ho));simp only [hq, he, zVK, zX8, zWA] at h2;rcases h2 with h | h | h
 ·exact absurd (zTZ h) hkj
 ·exact .inl h
 ·exact .inr h
def q04 (ops : List Oper) (j k : Nat) : Bool := match ops[j]?, ops[k]? with
 | some o, some q => (match o.op, q.op with
   | .lookup t (.tmp a) (.tmp c) false, .mapEntry t' (.tmp a') (.tmp c') => Nat.beq t t' && Nat.beq a a' && Nat.beq c c' && Nat.blt j k && ops.zipIdx.all fun p => !(Nat.ble j p.2) || !(Nat.blt p.2 k) || (match p.1.dst with | some d => !(Nat.beq d a) && !(Nat.beq d c) | none => true)
   | _, _ => false)
 | _, _ => false
structure DB where
 b : Array Nat
 x : Nat -> Nat -> Bool
def dBo (ops : Array Oper) : DB := ⟨Region.before ops, q04 ops.toList⟩
noncomputable def mP (b : DB) (zHY : List PV) (E F : List (Nat × List Nat)) (N : List (Nat × Nat)) (V : List (Nat × PV)) : Bool :=
 (F.all fun f => E.all fun e => q5F b.b e.1 f.1 || (b.x f.1 e.1 || f.2.all fun l => !e.2.contains l)) && N.all fun n => yH n.2 zHY && V.all fun v => Nat.beq v.1 n.1 || (uR b.b n.1 v.1 || noK n.2 v.2)
def qV4 (c x : Bool) (t : PT) : PT := cond c (.chk x t) t
noncomputable def qJX (P : Program) (tab : gY) (nm : Nm) (ds : List (Option Tmp)) (b : DB) (zHY : List PV) : Nat -> List Oper -> List PV -> PHp -> List (Nat × List Nat) -> List (Nat × List Nat) -> List (Nat × Nat) -> List (Nat × PV) -> PT
 | i, [], env, ph, E, F, N, V => .chk (mP b zHY E F N V) (.ret env ph)
 | i, o :: l, env, ph, E, F, N, V => wN (fC ds o env)
    (match yC P tab (zM nm o.dst) o env ph with
     | .ok v ph' => qV4 (needs o.op) (inP nm (zM nm o.dst) && eO (zM nm o.dst) ph) (qJX P tab nm ds b zHY (i + 1) l (yO env o.dst v) ph' (cond (zI o) ((i, wlT nm o env) :: E) E) (cond (zI o) F ((i, dlT o env) :: F)) (cond (needs o.op) ((i, zM nm o.dst) :: N) N) ((i, v) :: V))
     | _ => .fail)
    (qJX P tab nm ds b zHY (i + 1) l (yO env o.dst (.tup [])) ph E F N ((i, .tup []) :: V)) .fail
structure TrI (P : Program) (tab : gY) (nm : Nm) (ds : List (Option Tmp)) (b : DB) (ops : List Oper) (zHY : List PV) (ph0 : PHp) (En : Nat -> List PV) (Hs : Nat -> PHp) (V : Nat -> PV) (j : Nat) (E F : List (Nat × List Nat)) (N : List (Nat × Nat)) (W : List (Nat × PV)) : Prop where
 e0 : En 0 = zHY
 h0 : Hs 0 = ph0
 step : ∀ i o, ops[i]? = some o -> En (i + 1) = yO (En i) o.dst (V i) ∧ (j + i, V i) ∈ W ∧
  ((fC ds o (En i) = some true ∧ yC P tab (zM nm o.dst) o (En i) (Hs i) = .ok (V i) (Hs (i + 1)) ∧ (needs o.op = true -> inP nm (zM nm o.dst) = true ∧ eO (zM nm o.dst) (Hs i) = true ∧ (j + i, zM nm o.dst) ∈ N) ∧
     (zI o = true -> (j + i, wlT nm o (En i)) ∈ E) ∧ (zI o = false -> (j + i, dlT o (En i)) ∈ F)) ∨
    (fC ds o (En i) = some false ∧ V i = .tup [] ∧ Hs (i + 1) = Hs i))
theorem qGA {Q : List PV -> PHp -> Prop} {ds : List (Option Tmp)} {b : DB} {zHY : List PV} : ∀ (l : List Oper) (j : Nat) (env : List PV) (ph : PHp) (E F : List (Nat × List Nat)) (N : List (Nat × Nat)) (W : List (Nat × PV)),
 (qJX P tab nm ds b zHY j l env ph E F N W).holds P G Q -> ∃ En Hs V E' F' N' W', TrI P tab nm ds b l env ph En Hs V j E' F' N' W' ∧ (∀ x ∈ E, x ∈ E') ∧ (∀ x ∈ F, x ∈ F') ∧ (∀ x ∈ N, x ∈ N') ∧ (∀ x ∈ W, x ∈ W') ∧ mP b zHY E' F' N' W' = true ∧ Q (En l.length) (Hs l.length)
 | [], j, env, ph, E, F, N, W, h => ⟨fun _ => env, fun _ => ph, fun _ => .unk, E, F, N, W, ⟨rfl, rfl, fun i o h => by simp at h⟩, fun _ h => h, fun _ h => h, fun _ h => h, fun _ h => h, h.1, h.2⟩
 | o :: l, j, env, ph, E, F, N, W, h => by
   unfold qJX wN at h;split at h
   ·rename_i hw;split at h
    ·rename_i v ph' hx
     have hh : (needs o.op = true -> inP nm (zM nm o.dst) = true ∧ eO (zM nm o.dst) ph = true) ∧ (qJX P tab nm ds b zHY (j + 1) l (yO env o.dst v) ph' (cond (zI o) ((j, wlT nm o env) :: E) E) (cond (zI o) F ((j, dlT o env) :: F)) (cond (needs o.op) ((j, zM nm o.dst) :: N) N) ((j, v) :: W)).holds P G Q := by
      unfold qV4 at h
      cases hn : needs o.op with
      | true =>
        rw [hn] at h;obtain ⟨hc, h⟩ := h;rw [zTY] at hc;exact ⟨fun _ => hc, h⟩
      | false => rw [hn] at h; exact ⟨fun h => by (cases h), h⟩
     obtain ⟨hc, h⟩ := hh;obtain ⟨En, Hs, V, E', F', N', W', t, a1, a2, a3, a4, a5, a6⟩ := qGA l (j + 1) _ _ _ _ _ _ h;refine ⟨fun i => Nat.casesOn i env fun i => En i, fun i => Nat.casesOn i ph fun i => Hs i, fun i => Nat.casesOn i v fun i => V i, E', F', N', W', ⟨rfl, rfl, fun i p hi => ?_⟩, fun x hx => a1 x ?_, fun x hx => a2 x ?_, fun x hx => a3 x ?_, fun x hx => a4 x (zT4 _ hx), a5, a6⟩
     ·cases i with
      | zero =>
        simp only [zUL, zT5] at hi;subst hi;have e0 : Hs 0 = ph' := t.h0;have hx0 : yC P tab (zM nm o.dst) o env ph = .ok v (Hs 0) := by rw [e0]; exact hx
        refine ⟨t.e0, a4 _ zT8, .inl ⟨hw, hx0, fun hn => ?_, fun he => a1 _ (by rw [he]; exact zT8), fun he => a2 _ (by rw [he]; exact zT8)⟩⟩;have hc := hc hn;exact ⟨hc.1, hc.2, a3 _ (by rw [hn]; exact zT8)⟩
      | succ i =>
        have := t.step i p (by simpa using hi);rw [show j + 1 + i = j + (i + 1) by omega] at this;exact this
     ·cases zI o
      ·exact hx
      ·exact zT4 _ hx
     ·cases zI o
      ·exact zT4 _ hx
      ·exact hx
     ·cases needs o.op
      ·exact hx
      ·exact zT4 _ hx
    ·exact h.elim
   ·rename_i hw;obtain ⟨En, Hs, V, E', F', N', W', t, a1, a2, a3, a4, a5, a6⟩ := qGA l (j + 1) _ _ _ _ _ _ h;refine ⟨fun i => Nat.casesOn i env fun i => En i, fun i => Nat.casesOn i ph fun i => Hs i, fun i => Nat.casesOn i (.tup []) fun i => V i, E', F', N', W', ⟨rfl, rfl, fun i p hi => ?_⟩, a1, a2, a3, fun x hx => a4 x (zT4 _ hx), a5, a6⟩
    cases i with
    | zero =>
      simp only [zUL, zT5] at hi;subst hi;exact ⟨t.e0, a4 _ zT8, .inr ⟨hw, rfl, t.h0⟩⟩
    | succ i =>
      have := t.step i p (by simpa using hi);rw [show j + 1 + i = j + (i + 1) by omega] at this;exact this
   ·exact h.elim
def qAA (P : Program) (tab : gY) (o : Oper) (env : List PV) (a b : PHp) : Prop := ∀ (k : Nat) (v : PV), yC P tab k o env a = .ok v a ↔ yC P tab k o env b = .ok v b
theorem qAA.refl (a : PHp) : qAA P tab o env a a := fun _ _ => Iff.rfl
theorem qAA.trans {o : Oper} {env : List PV} {a b c : PHp} (h : qAA P tab o env a b) (g : qAA P tab o env b c) : qAA P tab o env a c := fun k v => (h k v).trans (g k v)
theorem qAA.tk {o : Oper} {env : List PV} (hf : yR o = false) (ha : qM o = false) (h : ∀ l ∈ dlT o env, q0G l b a) : qAA P tab o env a b := fun k v =>
 ⟨fun e => (nX hf ha e).2 k b h, fun e => (nX hf ha e).2 k a fun l hl => (h l hl).symm⟩
theorem qAA.look {q : Oper} {m c : Tmp} {kq : Nat} {y : PV} (ho : o.op = .lookup t (.tmp m) (.tmp c) false) (hq : q.op = .mapEntry t (.tmp m) (.tmp c)) (h1 : qN env' (.tmp m) = qN env (.tmp m)) (h2 : qN env' (.tmp c) = qN env (.tmp c)) (h : yC P tab kq q env' a = .ok y b) : qAA P tab o env a b := by
 have hc : ∀ {o : Oper}, (∀ c, o.op ≠ .call c) -> ¬ ∃ f args ts, o.op = .call ⟨.value f, args, ts⟩ := fun hn ⟨f, args, ts, e⟩ => hn _ e
 have h3 : kD P t (qN env' (.tmp m)) (qN env' (.tmp c)) a = some (y, b) := by
  have := bT ((uZ (hc fun c e => by rw [hq] at e; cases e) _ _ _).symm.trans h);unfold qDS at this;rw [hq] at this;exact this
 rw [h1, h2] at h3;have h4 := qDV h3;intro k v;rw [uZ (hc fun c e => by rw [ho] at e; cases e), uZ (hc fun c e => by rw [ho] at e; cases e)];unfold qDS;rw [ho];simp only [pp1, h4]
 cases kI P t (qN env (.tmp m)) (qN env (.tmp c)) false a with
 | none => exact ⟨fun e => by (cases e), fun e => by (cases e)⟩
 | some x => exact ⟨fun e => by cases e; rfl, fun e => by cases e; rfl⟩
end Go.Idl
