/- Regions that draw their order, on values without a heap. Conditions: none. -/
import Derived.Test.YtpdlblofcdcikaaGreatDoorPurB
set_option linter.all false
namespace Go.Idl
variable [Gc]
variable {P : Program} {G : Nat -> Bool} {nat : yU} {tab : aV} {nm : Nm}
noncomputable def qC2 (P : Program) (tab : aV) (g : FuncId) (as : List PV) (ph : PHp) : PE := match fzA P as ph with
 | some (fargs, _) => (match tab g (rtA P g fargs) with
   | some r => cond (wV r || as.all qRE) (.ok r ph) .fail
   | none => .fail)
 | none => .fail
noncomputable def yF (P : Program) (tab : aV) (k : Nat) (o : Oper) (env : List PV) (ph : PHp) : PE := match o.op with
 | .call ⟨.value f, args, _⟩ => (match target (qL env f) (args.toList.map (qL env)) with
   | some (g, as) => qC2 P tab g as ph
   | none => .fail)
 | _ => peO (qHK P o env k ph)
theorem qPB {n : Nat} : ∀ {cs : List PV} {ph : PHp}, cs.all q3F = true -> ∃ ys, qKX (fz1 P n) cs ph = some (ys, ph)
 | [], ph, _ => ⟨[], rfl⟩
 | c :: cs, ph, h => by
   simp only [List.all_cons, Bool.and_eq_true] at h;obtain ⟨ys, hy⟩ := qPB (n := n) (ph := ph) h.2
   cases c with
   | f x =>
     have e : fz1 P n ph (.f x) = some (x, ph) := by cases n <;> rfl
     exact ⟨x :: ys, by unfold qKX; rw [e]; simp only [hy]⟩
   | _ => exact absurd h.1 Bool.false_ne_true
theorem qWG : ∀ {as : List PV} {ph : PHp}, as.all qRE = true -> ∃ ys, fzA P as ph = some (ys, ph)
 | [], ph, _ => ⟨[], rfl⟩
 | a :: as, ph, h => by
   simp only [List.all_cons, Bool.and_eq_true] at h;obtain ⟨ys, hy⟩ := qWG (ph := ph) h.2
   have : ∃ y, fzP P ph a = some (y, ph) := by
    cases a with
    | f x => exact ⟨_, rfl⟩
    | agg cs =>
      obtain ⟨zs, hz⟩ := qPB (P := P) (n := 4) (ph := ph) (cs := cs) h.1;exact ⟨_, by unfold fzP; simp only [hz]; rfl⟩
    | _ => exact absurd h.1 Bool.false_ne_true
   obtain ⟨y, h1⟩ := this;exact ⟨y :: ys, by unfold fzA; simp only [h1, hy]⟩
theorem qJ9 {inl : FuncId -> Bool} {fv : PV} {args as : List PV} {g : FuncId} {ph : PHp} (h : target fv args = some (g, as)) : o8 P tab inl fv args ph = eY P tab inl g as ph := by
 unfold target at h;split at h
 ·rename_i g' a c;unfold o8
  cases hc : (a.toList.isEmpty && c.toList.isEmpty) with
  | true => rw [hc] at h; cases h; simp only [hc, cond_true]
  | false => rw [hc] at h; cases h
 ·cases h; rfl
 ·cases h
theorem qUJ {k : Nat} {o : Oper} {env : List PV} {ph ph' : PHp} {v : PV} (h : yF P tab k o env ph = .ok v ph') : bA P tab (fun _ => false) k o env ph = .ok v ph' := by
 by_cases hc : ∃ f args ts, o.op = .call ⟨.value f, args, ts⟩
 ·obtain ⟨f, args, ts, ho⟩ := hc;unfold yF at h;unfold bA;rw [ho] at h ⊢;simp only at h ⊢;split at h
  ·rename_i g as ht;rw [qJ9 ht];show aK P tab g as ph = _;unfold qC2 at h;unfold aK;split at h
   ·rename_i fargs ph1 hf;split at h
    ·rename_i r hr
     cases hp : wV r with
     | true => rw [hp] at h; rw [hf]; simp only [hr, hp]; exact h
     | false =>
       rw [hp] at h
       cases ha : as.all qRE with
       | false => rw [ha] at h; cases h
       | true =>
         rw [ha] at h;obtain ⟨ys, hy⟩ := qWG (P := P) (ph := ph) ha;rw [hy] at hf; cases hf;rw [hy]; simp only [hr, hp]; exact h
    ·cases h
   ·cases h
  ·cases h
 ·unfold yF at h;unfold bA;split
  ·rename_i f args ts ho; exact absurd ⟨f, args, ts, ho⟩ hc
  ·split at h
   ·rename_i f args ts ho; exact absurd ⟨f, args, ts, ho⟩ hc
   ·exact h
theorem sH {k : Nat} {o : Oper} {env env' : List PV} {ph : PHp} (h : ∀ x ∈ o.op.operands, qL env x = qL env' x) : yF P tab k o env ph = yF P tab k o env' ph := by
 unfold yF;split
 ·rename_i f args ts hop;rw [hop] at h;have hf : qL env f = qL env' f := h f (by simp [Op.operands, Call.operands]);have ha : args.toList.map (qL env) = args.toList.map (qL env') := List.map_congr_left fun x hx => h x (by simp [Op.operands, Call.operands, Array.mem_def, hx])
  rw [hf, ha]
 ·rw [qQC h]
theorem qLC {f : Operand} {args : Array Operand} {ts : Array TypeId} {k : Nat} {o : Oper} {env : List PV} {ph ph' : PHp} {v : PV} (ho : o.op = .call ⟨.value f, args, ts⟩) (h : yF P tab k o env ph = .ok v ph') : ph' = ph := by
 unfold yF at h;rw [ho] at h;simp only at h;split at h
 ·unfold qC2 at h;split at h
  ·split at h
   ·rename_i r hr
    cases hc : (wV r || _) with
    | true => rw [hc] at h; cases h; rfl
    | false => rw [hc] at h; cases h
   ·cases h
  ·cases h
 ·cases h
theorem mJ {r : Option (PV × PHp)} {v : PV} {ph' : PHp} (h : peO r = .ok v ph') : r = some (v, ph') := by
 unfold peO at h;split at h
 ·cases h; rfl
 ·cases h
theorem qXV {o : Oper} {env : List PV} {k : Nat} {ph ph1 : PHp} {v : PV} (hf : yG o = false) (ha : qG o = false) (h : yF P tab k o env ph = .ok v ph1) :
 ph1 = ph ∧ ∀ (k' : Nat) (ph' : PHp), (∀ l ∈ dlO o env, qC l ph' = qC l ph) -> yF P tab k' o env ph' = .ok v ph' := by
 by_cases hc : ∃ f args ts, o.op = .call ⟨.value f, args, ts⟩
 ·obtain ⟨f, args, ts, ho⟩ := hc
  rcases qG6 hf ha with h1 | h1 <;> (unfold yA at h1; rw [ho] at h1; cases h1)
 ·have e : ∀ k ph, yF P tab k o env ph = peO (qHK P o env k ph) := fun k ph => by
   unfold yF;split
   ·rename_i f args ts ho; exact absurd ⟨f, args, ts, ho⟩ hc
   ·rfl
  rw [e] at h;obtain ⟨h1, h2⟩ := q50 hf ha (mJ h);exact ⟨h1, fun k' ph' hd => by rw [e, h2 k' ph' hd]; rfl⟩
def shp (k : Nat) (ph : PHp) : Option (TypeId × Nat) := (qC k ph).map fun o => (o.el, o.cs.length)
def qLF (l : Nat) (ph' ph : PHp) : Prop := (∀ k, l = 2 * k -> qC k ph' = qC k ph) ∧ ∀ k, l = 2 * k + 1 -> shp k ph' = shp k ph
theorem qLF.refl (l : Nat) (ph : PHp) : qLF l ph ph := ⟨fun _ _ => rfl, fun _ _ => rfl⟩
theorem qLF.symm {l : Nat} {a b : PHp} (h : qLF l a b) : qLF l b a := ⟨fun k e => (h.1 k e).symm, fun k e => (h.2 k e).symm⟩
theorem qLF.trans {l : Nat} {a b c : PHp} (h : qLF l a b) (g : qLF l b c) : qLF l a c := ⟨fun k e => (h.1 k e).trans (g.1 k e), fun k e => (h.2 k e).trans (g.2 k e)⟩
theorem qLF.of {l : Nat} {a b : PHp} (h : ∀ k, l = 2 * k ∨ l = 2 * k + 1 -> qC k a = qC k b) : qLF l a b := ⟨fun k e => h k (.inl e), fun k e => by unfold shp; rw [h k (.inr e)]⟩
noncomputable def dlT (o : Oper) (env : List PV) : List Nat := match o.op with
 | .indexAddr _ _ _ => (dlO o env).map fun k => 2 * k + 1
 | .fieldAddr _ _ _ => (dlO o env).map fun k => 2 * k + 1
 | .move _ => []
 | .assign _ => []
 | _ => (dlO o env).map fun k => 2 * k
noncomputable def wlT (nm : Nm) (o : Oper) (env : List PV) : List Nat := match o.op with
 | .call ⟨.value _, _, _⟩ => []
 | .store _ _ _ => (dlO o env).map fun k => 2 * k
 | _ => (zH nm o.dst :: dlO o env).flatMap fun k => [2 * k, 2 * k + 1]
theorem qZT {k tt : Nat} {ph ph' : PHp} (h : shp k ph' = shp k ph) : live? k tt ph' = live? k tt ph := by
 unfold live?;unfold shp at h
 cases h1 : qC k ph with
 | none =>
   rw [h1] at h;simp only [Option.map_none, Option.map_eq_none_iff] at h;rw [h]
 | some a =>
   rw [h1] at h;simp only [Option.map_some] at h;obtain ⟨b, h2, h3⟩ := Option.map_eq_some_iff.1 h;injection h3 with h4 h5;rw [h2];simp only [h5]
theorem qHT {t : TypeId} {a x : PV} {i : Nat} {ph ph' : PHp} (h : zS P t a i ph = some x) (hd : ∀ l ∈ dl1 a, shp l ph' = shp l ph) : zS P t a i ph' = some x := by
 cases a <;> first | exact h | skip
 rename_i k tt off;have := qZT (tt := tt) (hd k (by simp [dl1]));unfold zS at h ⊢;simp only [this];exact h
theorem qJO {t : TypeId} {a ix x : PV} {ph ph' : PHp} (h : qW P t a ix ph = some x) (hd : ∀ l ∈ dl1 a, shp l ph' = shp l ph) : qW P t a ix ph' = some x := by
 unfold qW at h ⊢;split at h
 ·split at h
  ·exact h
  ·rename_i k tt o n;have hs := hd k (by simp [dl1]);unfold shp at hs;split at h
   ·rename_i el' ob h1 h2;rw [h2] at hs;simp only [Option.map_some] at hs;obtain ⟨ob', h3, h4⟩ := Option.map_eq_some_iff.1 hs;injection h4 with h5 h6;simp only [h1, h3, h5, h6];exact h
   ·cases h
  ·rename_i k tt off;rw [qZT (tt := tt) (hd k (by simp [dl1]))]; exact h
  ·exact h
  ·cases h
 ·cases h
theorem qZE {t : TypeId} {a x : PV} {ph ph' : PHp} (h : nR P t a x ph = some ph') : (∀ l, l ∉ dl1 a -> qC l ph' = qC l ph) ∧ ∀ l, shp l ph' = shp l ph := by
 unfold nR at h;split at h
 ·rename_i k tt off;split at h
  ·rename_i ob hob;split at h
   ·rename_i n hn
    replace h := (gZ h).2
    cases hc : (Nat.beq tt ob.cs.length && (Nat.beq n (zK x).length && (Nat.ble (off + n) ob.cs.length && (pnt x && (zK x).all nH)))) with
    | true =>
      rw [hc] at h; cases h;rw [Bool.and_eq_true, Bool.and_eq_true, Bool.and_eq_true] at hc;have h1 : n = (zK x).length := Nat.eq_of_beq_eq_true hc.2.1;have h2 : off + n <= ob.cs.length := Nat.le_of_ble_eq_true hc.2.2.1;refine ⟨fun l hl => by rw [zW, if_neg (fun e => hl (by rw [e.1]; simp [dl1]))], fun l => ?_⟩;unfold shp;rw [zW];split
      ·rename_i e;rw [e.1, hob];simp only [Option.map_some];rw [dV (by omega)]
      ·rfl
    | false => rw [hc] at h; cases h
   ·cases h
  ·cases h
 ·cases h
theorem qD5 {o : Oper} (hc : ¬ ∃ f args ts, o.op = .call ⟨.value f, args, ts⟩) (k : Nat) (env : List PV) (ph : PHp) : yF P tab k o env ph = peO (qHK P o env k ph) := by
 unfold yF;split
 ·rename_i f args ts ho; exact absurd ⟨f, args, ts, ho⟩ hc
 ·rfl
theorem qTB {o : Oper} {env : List PV} {ph ph' : PHp} {v : PV} (h : yF P tab (zH nm o.dst) o env ph = .ok v ph') {l : Nat} (hl : l ∉ wlT nm o env) : qLF l ph' ph := by
 by_cases hc : ∃ f args ts, o.op = .call ⟨.value f, args, ts⟩
 ·obtain ⟨f, args, ts, ho⟩ := hc;rw [qLC ho h];exact .refl _ _
 ·by_cases hst : ∃ t a x, o.op = .store t a x
  ·obtain ⟨t, a, x, ho⟩ := hst;have h1 := mJ ((qD5 hc _ _ _).symm.trans h);obtain ⟨d, op, ty, pos, aft, g⟩ := o;cases ho;simp only [qHK] at h1;unfold ppS at h1;split at h1
   ·rename_i ph1 hs;cases h1;obtain ⟨a1, a2⟩ := qZE hs;refine ⟨fun k e => a1 k fun hk => hl ?_, fun k _ => a2 k⟩;exact List.mem_map.2 ⟨k, qB4 (o := ⟨d, .store t a x, ty, pos, aft, g⟩) (by simp [Op.operands]) hk, e.symm⟩
   ·cases h1
  ·have e2 : wlT nm o env = (zH nm o.dst :: dlO o env).flatMap fun k => [2 * k, 2 * k + 1] := by
    unfold wlT;split
    ·rename_i f args ts ho; exact absurd ⟨f, args, ts, ho⟩ hc
    ·rename_i t a x ho; exact absurd ⟨t, a, x, ho⟩ hst
    ·rfl
   have h1 := mJ ((qD5 hc _ _ _).symm.trans h);refine .of fun k hk => ?_
   have hn : k ∉ zH nm o.dst :: dlO o env := fun hm => hl (by
    rw [e2];refine List.mem_flatMap.2 ⟨k, hm, ?_⟩
    rcases hk with e | e <;> simp [e])
   simp only [List.mem_cons, not_or] at hn;exact q45 h1 hn.1 hn.2
theorem qKS {o : Oper} {env : List PV} {k : Nat} {ph ph1 : PHp} {v : PV} (hf : yG o = false) (ha : qG o = false) (h : yF P tab k o env ph = .ok v ph1) :
 ph1 = ph ∧ ∀ (k' : Nat) (ph' : PHp), (∀ l ∈ dlT o env, qLF l ph' ph) -> yF P tab k' o env ph' = .ok v ph' := by
 obtain ⟨e1, e2⟩ := qXV hf ha h;refine ⟨e1, fun k' ph' hd => ?_⟩;subst e1;have gen : dlT o env = (dlO o env).map (fun k => 2 * k) -> yF P tab k' o env ph' = .ok v ph' := fun hg => e2 k' ph' fun l hl => (hd (2 * l) (by rw [hg]; exact List.mem_map.2 ⟨l, hl, rfl⟩)).1 l rfl
 have sh : dlT o env = (dlO o env).map (fun k => 2 * k + 1) -> ∀ l ∈ dlO o env, shp l ph' = shp l ph1 := fun hg l hl => (hd (2 * l + 1) (by rw [hg]; exact List.mem_map.2 ⟨l, hl, rfl⟩)).2 l rfl
 obtain ⟨d, op, ty, pos, aft, g⟩ := o
 cases op <;> first | exact gen rfl | skip
 case move x =>
  have h1 := mJ (r := some (qL env x, ph1)) h;cases h1;rfl
 case assign x =>
  have h1 := mJ (r := some (qL env x, ph1)) h;cases h1;rfl
 case indexAddr t x ix =>
  have h1 := zP (mJ h);show peO (pp1 ph' (qW P t (qL env x) (qL env ix) ph')) = _;rw [qJO h1.1 fun l hl => sh rfl l (qB4 (o := ⟨d, .indexAddr t x ix, ty, pos, aft, g⟩) (x := x) (by simp [Op.operands]) hl)];rfl
 case fieldAddr t x i =>
  have h1 := zP (mJ h);show peO (pp1 ph' (zS P t (qL env x) i ph')) = _;rw [qHT h1.1 fun l hl => sh rfl l (qB4 (o := ⟨d, .fieldAddr t x i, ty, pos, aft, g⟩) (x := x) (by simp [Op.operands]) hl)];rfl
def zA (o : Oper) : Bool := yG o || qG o
theorem qPJ {o : Oper} (h : zA o = false) : yG o = false ∧ qG o = false := by
 unfold zA at h;rw [Bool.or_eq_false_iff] at h;exact h
def gN (ops : Array Oper) : Bool := ops.toList.zipIdx.all fun p => ops.toList.zipIdx.all fun q => Nat.beq p.2 q.2 || (!zA p.1 || (!zA q.1 || (gF (Region.before ops) p.2 q.2 || gF (Region.before ops) q.2 p.2)))
theorem qJW {ops : Array Oper} (h : gN ops = true) (k j : Nat) (q o : Oper) (hkj : k ≠ j) (hk : ops[k]? = some q) (ho : ops[j]? = some o) (hq : zA q = true) (he : zA o = true) : gF (Region.before ops) k j = true ∨ gF (Region.before ops) j k = true := by
 unfold gN at h;have h1 := List.all_eq_true.1 h (q, k) (List.mk_mem_zipIdx_iff_getElem?.2 (by simpa using hk));have h2 := List.all_eq_true.1 h1 (o, j) (List.mk_mem_zipIdx_iff_getElem?.2 (by simpa using ho));simp only [hq, he, Bool.not_true, Bool.false_or, Bool.or_eq_true] at h2;rcases h2 with h | h | h
 ·exact absurd (Nat.eq_of_beq_eq_true h) hkj
 ·exact .inl h
 ·exact .inr h
noncomputable def mY (b : Array Nat) (env0 : List PV) (E F : List (Nat × List Nat)) (N : List (Nat × Nat)) (V : List (Nat × PV)) : Bool :=
 (F.all fun f => E.all fun e => qZO b e.1 f.1 || f.2.all fun l => !e.2.contains l) && N.all fun n => yV n.2 env0 && V.all fun v => Nat.beq v.1 n.1 || (gF b n.1 v.1 || noK n.2 v.2)
def qWE (c x : Bool) (t : PT) : PT := cond c (.chk x t) t
noncomputable def qJ1 (P : Program) (tab : aV) (nm : Nm) (ds : List (Option Tmp)) (b : Array Nat) (env0 : List PV) : Nat -> List Oper -> List PV -> PHp -> List (Nat × List Nat) -> List (Nat × List Nat) -> List (Nat × Nat) -> List (Nat × PV) -> PT
 | i, [], env, ph, E, F, N, V => .chk (mY b env0 E F N V) (.ret env ph)
 | i, o :: l, env, ph, E, F, N, V => kL (eG ds o env)
    (match yF P tab (zH nm o.dst) o env ph with
     | .ok v ph' => qWE (needs o.op) (inP nm (zH nm o.dst) && pG (zH nm o.dst) ph) (qJ1 P tab nm ds b env0 (i + 1) l (yR env o.dst v) ph' (cond (zA o) ((i, wlT nm o env) :: E) E) (cond (zA o) F ((i, dlT o env) :: F)) (cond (needs o.op) ((i, zH nm o.dst) :: N) N) ((i, v) :: V))
     | _ => .fail)
    (qJ1 P tab nm ds b env0 (i + 1) l (yR env o.dst (.tup [])) ph E F N ((i, .tup []) :: V)) .fail
structure TrI (P : Program) (tab : aV) (nm : Nm) (ds : List (Option Tmp)) (b : Array Nat) (ops : List Oper) (env0 : List PV) (ph0 : PHp) (En : Nat -> List PV) (Hs : Nat -> PHp) (V : Nat -> PV) (j : Nat) (E F : List (Nat × List Nat)) (N : List (Nat × Nat)) (W : List (Nat × PV)) : Prop where
 e0 : En 0 = env0
 h0 : Hs 0 = ph0
 step : ∀ i o, ops[i]? = some o -> En (i + 1) = yR (En i) o.dst (V i) ∧ (j + i, V i) ∈ W ∧
  ((eG ds o (En i) = some true ∧ yF P tab (zH nm o.dst) o (En i) (Hs i) = .ok (V i) (Hs (i + 1)) ∧ (needs o.op = true -> inP nm (zH nm o.dst) = true ∧ pG (zH nm o.dst) (Hs i) = true ∧ (j + i, zH nm o.dst) ∈ N) ∧
     (zA o = true -> (j + i, wlT nm o (En i)) ∈ E) ∧ (zA o = false -> (j + i, dlT o (En i)) ∈ F)) ∨
    (eG ds o (En i) = some false ∧ V i = .tup [] ∧ Hs (i + 1) = Hs i))
theorem qHF {Q : List PV -> PHp -> Prop} {ds : List (Option Tmp)} {b : Array Nat} {env0 : List PV} : ∀ (l : List Oper) (j : Nat) (env : List PV) (ph : PHp) (E F : List (Nat × List Nat)) (N : List (Nat × Nat)) (W : List (Nat × PV)),
 (qJ1 P tab nm ds b env0 j l env ph E F N W).holds P G Q -> ∃ En Hs V E' F' N' W', TrI P tab nm ds b l env ph En Hs V j E' F' N' W' ∧ (∀ x ∈ E, x ∈ E') ∧ (∀ x ∈ F, x ∈ F') ∧ (∀ x ∈ N, x ∈ N') ∧ (∀ x ∈ W, x ∈ W') ∧ mY b env0 E' F' N' W' = true ∧ Q (En l.length) (Hs l.length)
 | [], j, env, ph, E, F, N, W, h => ⟨fun _ => env, fun _ => ph, fun _ => .unk, E, F, N, W, ⟨rfl, rfl, fun i o h => by simp at h⟩, fun _ h => h, fun _ h => h, fun _ h => h, fun _ h => h, h.1, h.2⟩
 | o :: l, j, env, ph, E, F, N, W, h => by
   unfold qJ1 kL at h;split at h
   ·rename_i hw;split at h
    ·rename_i v ph' hx
     have hh : (needs o.op = true -> inP nm (zH nm o.dst) = true ∧ pG (zH nm o.dst) ph = true) ∧ (qJ1 P tab nm ds b env0 (j + 1) l (yR env o.dst v) ph' (cond (zA o) ((j, wlT nm o env) :: E) E) (cond (zA o) F ((j, dlT o env) :: F)) (cond (needs o.op) ((j, zH nm o.dst) :: N) N) ((j, v) :: W)).holds P G Q := by
      unfold qWE at h
      cases hn : needs o.op with
      | true =>
        rw [hn] at h;obtain ⟨hc, h⟩ := h;rw [Bool.and_eq_true] at hc;exact ⟨fun _ => hc, h⟩
      | false => rw [hn] at h; exact ⟨fun h => by (cases h), h⟩
     obtain ⟨hc, h⟩ := hh;obtain ⟨En, Hs, V, E', F', N', W', t, a1, a2, a3, a4, a5, a6⟩ := qHF l (j + 1) _ _ _ _ _ _ h;refine ⟨fun i => Nat.casesOn i env fun i => En i, fun i => Nat.casesOn i ph fun i => Hs i, fun i => Nat.casesOn i v fun i => V i, E', F', N', W', ⟨rfl, rfl, fun i p hi => ?_⟩, fun x hx => a1 x ?_, fun x hx => a2 x ?_, fun x hx => a3 x ?_, fun x hx => a4 x (List.mem_cons_of_mem _ hx), a5, a6⟩
     ·cases i with
      | zero =>
        simp only [List.getElem?_cons_zero, Option.some.injEq] at hi;subst hi;have e0 : Hs 0 = ph' := t.h0;have hx0 : yF P tab (zH nm o.dst) o env ph = .ok v (Hs 0) := by rw [e0]; exact hx
        refine ⟨t.e0, a4 _ List.mem_cons_self, .inl ⟨hw, hx0, fun hn => ?_, fun he => a1 _ (by rw [he]; exact List.mem_cons_self), fun he => a2 _ (by rw [he]; exact List.mem_cons_self)⟩⟩;have hc := hc hn;exact ⟨hc.1, hc.2, a3 _ (by rw [hn]; exact List.mem_cons_self)⟩
      | succ i =>
        have := t.step i p (by simpa using hi);rw [show j + 1 + i = j + (i + 1) by omega] at this;exact this
     ·cases zA o
      ·exact hx
      ·exact List.mem_cons_of_mem _ hx
     ·cases zA o
      ·exact List.mem_cons_of_mem _ hx
      ·exact hx
     ·cases needs o.op
      ·exact hx
      ·exact List.mem_cons_of_mem _ hx
    ·exact h.elim
   ·rename_i hw;obtain ⟨En, Hs, V, E', F', N', W', t, a1, a2, a3, a4, a5, a6⟩ := qHF l (j + 1) _ _ _ _ _ _ h;refine ⟨fun i => Nat.casesOn i env fun i => En i, fun i => Nat.casesOn i ph fun i => Hs i, fun i => Nat.casesOn i (.tup []) fun i => V i, E', F', N', W', ⟨rfl, rfl, fun i p hi => ?_⟩, a1, a2, a3, fun x hx => a4 x (List.mem_cons_of_mem _ hx), a5, a6⟩
    cases i with
    | zero =>
      simp only [List.getElem?_cons_zero, Option.some.injEq] at hi;subst hi;exact ⟨t.e0, a4 _ List.mem_cons_self, .inr ⟨hw, rfl, t.h0⟩⟩
    | succ i =>
      have := t.step i p (by simpa using hi);rw [show j + 1 + i = j + (i + 1) by omega] at this;exact this
   ·exact h.elim
end Go.Idl
