/- Regions that draw their order, whose operations commute: the run. Conditions: none. -/
import Derived.Test.YtjboddididohgaaGreatDoorPur21
set_option linter.all false
namespace Go.Idl
variable [Gc]
variable [Frs]
variable {P : Program} {G : Nat -> Bool} {nat : y7} {tab : uH} {nm : Nm} {good : FuncId -> Bool} {rd : Bool}
def eD (o : Oper) : Bool := match o.op with
 | .call ⟨.value _, _, _⟩ => true
 | _ => false
noncomputable def qIS (ph : PHp) : PV -> Bool
 | .own k _ _ _ => (match qA k ph with
   | some ob => ob.cs.all qRA
   | none => false)
 | x => qHK x
noncomputable def qAF (o : Oper) (env : List PV) : List PV := match o.op with
 | .call ⟨.value f, args, _⟩ => (match target (qJ env f) (args.toList.map (qJ env)) with
   | some (_, as) => as
   | none => [.unk])
 | _ => []
noncomputable def wX (o : Oper) (env : List PV) (ph : PHp) : Bool := (qAF o env).all (qIS ph)
noncomputable def pfr (o : Oper) (env : List PV) : Option (TypeId × Nat × List FV) := match o.op with
 | .call ⟨.value f, args, _⟩ => (match target (qJ env f) (args.toList.map (qJ env)) with
   | some (g, [.f (.l el n cs)]) => (match Frs.fr g with
     | some el' => cond (Nat.beq el el') (some (el, n, cs)) none
     | none => none)
   | _ => none)
 | _ => none
noncomputable def qGY (o : Oper) (env : List PV) : Bool := match pfr o env with
 | some (_, _ + 1, _) => true
 | _ => false
noncomputable def okF (o : Oper) (env : List PV) : Bool := okE o || qGY o env
noncomputable def ndF (o : Oper) (env : List PV) : Bool := needs o.op || qGY o env
noncomputable def RF (o : Oper) (k : Nat) (env : List PV) : List Nat := cond (qGY o env) [k] (RC o k env)
noncomputable def xP (P : Program) (tab : uH) (k : Nat) (o : Oper) (env : List PV) (ph : PHp) : PE := match pfr o env with
 | some (el, n, cs) => cond (qWJ P el n cs) (.ok (frV k el n) (frH k el cs ph n)) .fail
 | none => cond ((okE o || (!qR o || eD o)) && wX o env ph) (zG P tab k o env ph) .fail
theorem qF5 {k : Nat} {o : Oper} {env : List PV} {ph ph' : PHp} {v : PV} (hf : pfr o env = none) (h : xP P tab k o env ph = .ok v ph') : zG P tab k o env ph = .ok v ph' ∧ (okE o || (!qR o || eD o)) = true ∧ wX o env ph = true := by
 unfold xP at h;rw [hf] at h;simp only at h
 cases hc : ((okE o || (!qR o || eD o)) && wX o env ph) with
 | false => rw [hc] at h; cases h
 | true => rw [hc] at h; rw [zJ5] at hc; exact ⟨h, hc⟩
theorem mZ {k : Nat} {o : Oper} {env : List PV} {ph ph' : PHp} {v : PV} (hf : pfr o env = none) (h : zG P tab k o env ph = .ok v ph') (h1 : (okE o || (!qR o || eD o)) = true) (h2 : wX o env ph = true) : xP P tab k o env ph = .ok v ph' := by
 unfold xP; rw [hf]; simp only [h1, h2, zLA, cond_true]; exact h
theorem qB0 {k : Nat} {o : Oper} {env : List PV} {ph ph' : PHp} {v : PV} {el : TypeId} {n : Nat} {cs : List FV} (hf : pfr o env = some (el, n, cs)) (h : xP P tab k o env ph = .ok v ph') : qWJ P el n cs = true ∧ v = frV k el n ∧ ph' = frH k el cs ph n := by
 unfold xP at h;rw [hf] at h;simp only at h
 cases hc : qWJ P el n cs with
 | false => rw [hc] at h; cases h
 | true => rw [hc] at h; cases h; exact ⟨rfl, rfl, rfl⟩
theorem nY {k : Nat} {o : Oper} {env : List PV} {el : TypeId} {n : Nat} {cs : List FV} (hf : pfr o env = some (el, n, cs)) (h : qWJ P el n cs = true) (ph : PHp) : xP P tab k o env ph = .ok (frV k el n) (frH k el cs ph n) := by
 unfold xP; rw [hf]; simp only [h, cond_true]
theorem qKO {o : Oper} {env : List PV} {el : TypeId} {n : Nat} {cs : List FV} (h : pfr o env = some (el, n, cs)) : ∃ f args ts g, o.op = .call ⟨.value f, args, ts⟩ ∧ target (qJ env f) (args.toList.map (qJ env)) = some (g, [.f (.l el n cs)]) ∧ Frs.fr g = some el := by
 unfold pfr at h;split at h
 case h_2 => cases h
 rename_i f args ts hop;split at h
 case h_2 => cases h
 rename_i g el1 n1 cs1 ht;split at h
 case h_2 => cases h
 rename_i el2 hg
 cases hc : Nat.beq el1 el2 with
 | false => rw [hc] at h; cases h
 | true =>
   rw [hc] at h;cases h;have := zJ6 hc;subst this;exact ⟨f, args, ts, g, hop, ht, hg⟩
theorem qH0 {o : Oper} {env : List PV} {el : TypeId} {n : Nat} {cs : List FV} (h : pfr o env = some (el, n, cs)) : okE o = false ∧ needs o.op = false := by
 obtain ⟨f, args, ts, g, hop, _⟩ := qKO h;unfold okE needs;rw [hop];exact ⟨rfl, rfl⟩
noncomputable def dlC (o : Oper) (env : List PV) : List Nat := match o.op with
 | .move _ | .assign _ => []
 | .call ⟨.value _, _, _⟩ => (qAF o env).flatMap dl1
 | _ => dlO o env
theorem qBD {n : Nat} : ∀ {cs : List PV}, cs.all qRA = true -> ∃ zs, ∀ ph, qDR (fz1 P n) cs ph = some (zs, ph)
 | [], _ => ⟨[], fun _ => rfl⟩
 | c :: cs, h => by
   simp only [zK9, zJ5] at h;obtain ⟨zs, hz⟩ := qBD (n := n) h.2
   cases c with
   | f x => exact ⟨x :: zs, fun ph => by
      unfold qDR;rw [show fz1 P n ph (.f x) = some (x, ph) by cases n <;> rfl]
      simp only [hz]⟩
   | _ => exact absurd h.1 zMO
theorem q39 {α : Type} {p : α -> Bool} {l : List α} (h : l.all p = true) (a b : Nat) : ((l.drop a).take b).all p = true := zJ8.2 fun x hx => zJ8.1 h x (zMV (zND hx))
theorem qET : ∀ {as : List PV} {ph ph1 : PHp} {ys : List PV}, (∀ a ∈ as, qHK a = true ∨ ∃ k t o n, a = .own k t o n ∧ ∀ ob, qA k ph = some ob -> ob.cs.all qRA = true) -> fzA P as ph = some (ys, ph1) ->
 ∀ ph', (∀ l ∈ as.flatMap dl1, qA l ph' = qA l ph) -> ∃ zDP, fzA P as ph' = some (ys, zDP)
 | [], ph, ph1, ys, _, h, ph', _ => by cases h; exact ⟨ph', rfl⟩
 | a :: as, ph, ph1, ys, hf, h, ph', hd => by
   have hd2 : ∀ l ∈ as.flatMap dl1, qA l ph' = qA l ph := fun l hl => hd l (by rw [zKZ]; exact zL0 _ hl)
   rcases hf a zKI with h0 | ⟨k, t, o, n, rfl, hob⟩
   ·have : ∃ y, ∀ ph, fzP P ph a = some (y, ph) := by
     cases a with
     | f x => exact ⟨_, fun _ => rfl⟩
     | agg cs =>
       obtain ⟨zs, hz⟩ := qBD (P := P) (n := 4) (cs := cs) h0;exact ⟨_, fun ph => by unfold fzP; simp only [hz]; rfl⟩
     | _ => exact absurd h0 zMO
    obtain ⟨y, hy⟩ := this;unfold fzA at h ⊢;rw [hy] at h ⊢;simp only at h ⊢;split at h
    ·rename_i zs p2 hz;cases h;obtain ⟨p', hp'⟩ := qET (fun b hb => hf b (zKD _ hb)) hz ph' hd2;exact ⟨p', by rw [hp']⟩
    ·cases h
   ·have hk : qA k ph' = qA k ph := hd k (by rw [zKZ]; exact zLR _ (by simp [dl1]))
    have key : ∃ y, ∀ q, qA k q = qA k ph -> fzP P q (.own k t o n) = some (y, rV k q) := by
     unfold fzA at h;split at h
     ·rename_i y p1 hp;unfold fzP fz1 at hp;simp only at hp;split at hp
      ·rename_i y0 p0 hp0;split at hp0
       ·rename_i ob zGL;split at hp0
        ·rename_i s hs
         cases hc : Nat.beq (t * s) ob.cs.length with
         | false => rw [hc] at hp0; cases hp0
         | true =>
           obtain ⟨zs, hz⟩ := qBD (P := P) (n := 3) (q39 (hob ob zGL) (o * s) (n * s));refine ⟨.f (.l ob.el n zs), fun q hq => ?_⟩;unfold fzP fz1;simp only [hq.trans zGL, hs, hc, cond_true, hz]
        ·cases hp0
       ·cases hp0
      ·cases hp
     ·cases h
    obtain ⟨y, hy⟩ := key;unfold fzA at h ⊢;rw [hy ph rfl] at h;rw [hy ph' hk];simp only at h ⊢;split at h
    ·rename_i zs p2 hz;cases h
     obtain ⟨p', hp'⟩ := qET (fun b hb => by
      rcases hf b (zKD _ hb) with h | ⟨k2, t2, o2, n2, rfl, h2⟩
      ·exact .inl h
      ·refine .inr ⟨k2, t2, o2, n2, rfl, fun ob zCB => ?_⟩;rw [xC] at zCB;split at zCB
       ·cases zCB
       ·exact h2 ob zCB) hz (rV k ph') fun l hl => by
       rw [xC, xC, hd2 l hl]
     exact ⟨p', by rw [hp']⟩
    ·cases h
theorem q4E {ph : PHp} {as : List PV} (h : as.all (qIS ph) = true) : ∀ a ∈ as, qHK a = true ∨ ∃ k t o n, a = .own k t o n ∧ ∀ ob, qA k ph = some ob -> ob.cs.all qRA = true := fun a ha => by
 have h1 := zJ8.1 h a ha
 cases a with
 | own k t o n =>
   refine .inr ⟨k, t, o, n, rfl, fun ob hob => ?_⟩;unfold qIS at h1;simp only [hob] at h1;exact h1
 | _ => exact .inl h1
theorem qQE {ph ph' : PHp} {as : List PV} (hd : ∀ l ∈ as.flatMap dl1, qA l ph' = qA l ph) : as.all (qIS ph') = as.all (qIS ph) := by
 induction as with
 | nil => rfl
 | cons a as ih =>
   rw [zK9, zK9, ih fun l hl => hd l (by rw [zKZ]; exact zL0 _ hl)]
   congr 1
   cases a with
   | own k t o n =>
     unfold qIS;simp only [hd k (by rw [zKZ]; exact zLR _ (by simp [dl1]))]
   | _ => rfl
theorem qPZ {o : Oper} {f : Operand} {args : Array Operand} {ts : Array TypeId} {env : List PV} {g : FuncId} {as : List PV} (ho : o.op = .call ⟨.value f, args, ts⟩) (ht : target (qJ env f) (args.toList.map (qJ env)) = some (g, as)) : qAF o env = as := by
 unfold qAF; rw [ho]; simp only [ht]
theorem qDY {o : Oper} (hc : ¬ ∃ f args ts, o.op = .call ⟨.value f, args, ts⟩) (env : List PV) : qAF o env = [] := by
 unfold qAF;split
 ·rename_i f args ts hop; exact absurd ⟨f, args, ts, hop⟩ hc
 ·rfl
theorem tF {o : Oper} {env : List PV} {k : Nat} {ph ph1 : PHp} {v : PV} (ho : okF o env = false) (h : xP P tab k o env ph = .ok v ph1) :
 ph1 = ph ∧ ∀ (k' : Nat) (ph' : PHp), (∀ l ∈ dlC o env, qA l ph' = qA l ph) -> xP P tab k' o env ph' = .ok v ph' := by
 unfold okF at ho;rw [zN6] at ho
 cases hpf : pfr o env with
 | some q =>
   obtain ⟨el, n, cs⟩ := q
   cases n with
   | succ n =>
     have := ho.2;unfold qGY at this;rw [hpf] at this;cases this
   | zero =>
     obtain ⟨a1, rfl, rfl⟩ := qB0 hpf h;exact ⟨rfl, fun k' ph' _ => nY hpf a1 ph'⟩
 | none =>
 have ho := ho.1;obtain ⟨h1, h2, h3⟩ := qF5 hpf h;by_cases hc : ∃ f args ts, o.op = .call ⟨.value f, args, ts⟩
 ·obtain ⟨f, args, ts, hop⟩ := hc;refine ⟨tJ hop h1, fun k' ph' hd => ?_⟩;have hdl : dlC o env = (qAF o env).flatMap dl1 := by unfold dlC; rw [hop]
  rw [hdl] at hd;refine mZ hpf ?_ h2 (by unfold wX at h3 ⊢; rw [qQE hd]; exact h3);unfold wX at h3;unfold zG at h1 ⊢;rw [hop] at h1 ⊢;simp only at h1 ⊢;split at h1
  ·rename_i g as ht;rw [qPZ hop ht] at h3 hd;unfold pW at h1 ⊢;split at h1
   ·rename_i ys p1 hz;obtain ⟨p', hp'⟩ := qET (q4E h3) hz ph' hd;rw [hp'];simp only;split at h1
    ·rename_i r hr
     cases hcc : (jP r || as.all qHK) with
     | true => rw [hcc] at h1; cases h1; rfl
     | false => rw [hcc] at h1; cases h1
    ·cases h1
   ·cases h1
  ·cases h1
 ·have hcv : eD o = false := by
   unfold eD;split
   ·rename_i f args ts hop; exact absurd ⟨f, args, ts, hop⟩ hc
   ·rfl
  have go : (∀ (k' : Nat) (ph' : PHp), (∀ l ∈ dlC o env, qA l ph' = qA l ph) -> zG P tab k' o env ph' = .ok v ph') -> ∀ (k' : Nat) (ph' : PHp), (∀ l ∈ dlC o env, qA l ph' = qA l ph) -> xP P tab k' o env ph' = .ok v ph' := fun g k' ph' hd => mZ hpf (g k' ph' hd) h2 (by unfold wX; rw [qDY hc]; rfl)
  rw [ho, hcv, zM6, zNU, zK4] at h2;obtain ⟨e1, e2⟩ := nQ h2;obtain ⟨d1, d2⟩ := qOC e1 e2 h1;subst d1;refine ⟨rfl, go ?_⟩;intro k' ph' hd;unfold dlC at hd;split at hd
  ·rename_i x hop;have h1 := wD ((yT hc _ _ _).symm.trans h1);rw [yT hc];unfold oQ at h1 ⊢;rw [hop] at h1 ⊢;cases h1;rfl
  ·rename_i x hop;have h1 := wD ((yT hc _ _ _).symm.trans h1);rw [yT hc];unfold oQ at h1 ⊢;rw [hop] at h1 ⊢;cases h1;rfl
  ·rename_i f args ts hop; exact absurd ⟨f, args, ts, hop⟩ hc
  ·exact d2 k' ph' hd
theorem qS4 {o : Oper} (ho : okE o = true) (k : Nat) (env : List PV) (ph : PHp) : zG P tab k o env ph = peO (oQ P o env k ph) := yT (fun ⟨f, args, ts, h⟩ => by
 unfold okE at ho;rw [h] at ho
 cases ho) k env ph
noncomputable def aD (R : List Nat) (ph : PHp) : PHp := R.filterMap fun l => (qA l ph).map fun ob => (l, ob)
noncomputable def q4U (b : Array Nat) (ph0 : PHp) (zAD : List PV) (E F : List (Nat × List Nat)) (N : List (Nat × Nat)) (V : List (Nat × PV)) (O : List (Nat × PHp)) : Bool :=
 (E.all fun e => (E ++ F).all fun f => Nat.beq e.1 f.1 || (qO6 b e.1 f.1 || f.2.all fun l => !e.2.contains l)) &&
   N.all fun n => zY n.2 zAD && (fG n.2 ph0 && ((V.all fun v => Nat.beq v.1 n.1 || (jZ b n.1 v.1 || noK n.2 v.2)) && O.all fun c => Nat.beq c.1 n.1 || (jZ b n.1 c.1 || fG n.2 c.2)))
noncomputable def qH4 (P : Program) (tab : uH) (nm : Nm) (ds : List (Option Tmp)) (b : Array Nat) (zAD : List PV) (ph0 : PHp) : Nat -> List Oper -> List PV -> PHp -> List (Nat × List Nat) -> List (Nat × List Nat) -> List (Nat × Nat) -> List (Nat × PV) -> List (Nat × PHp) -> PT
 | i, [], env, ph, E, F, N, V, O => .chk (q4U b ph0 zAD E F N V O) (.ret env ph)
 | i, o :: l, env, ph, E, F, N, V, O => jW (jX ds o env)
    (match xP P tab (qH nm o.dst) o env ph with
     | .ok v ph' => qCO (ndF o env) (inP nm (qH nm o.dst)) (qH4 P tab nm ds b zAD ph0 (i + 1) l (yI env o.dst v) ph' (cond (okF o env) ((i, RF o (qH nm o.dst) env) :: E) E) (cond (okF o env) F ((i, dlC o env) :: F)) (cond (ndF o env) ((i, qH nm o.dst) :: N) N) ((i, v) :: V) (cond (okF o env) ((i, aD (RF o (qH nm o.dst) env) ph') :: O) O))
     | _ => .fail)
    (qH4 P tab nm ds b zAD ph0 (i + 1) l (yI env o.dst (.tup [])) ph E F N ((i, .tup []) :: V) O) .fail
structure TrC (P : Program) (tab : uH) (nm : Nm) (ds : List (Option Tmp)) (ops : List Oper) (zAD : List PV) (ph0 : PHp) (En : Nat -> List PV) (Hs : Nat -> PHp) (V : Nat -> PV) (j : Nat) (E F : List (Nat × List Nat)) (N : List (Nat × Nat)) (W : List (Nat × PV)) (O : List (Nat × PHp)) : Prop where
 e0 : En 0 = zAD
 h0 : Hs 0 = ph0
 step : ∀ i o, ops[i]? = some o -> En (i + 1) = yI (En i) o.dst (V i) ∧ (j + i, V i) ∈ W ∧
  ((jX ds o (En i) = some true ∧ xP P tab (qH nm o.dst) o (En i) (Hs i) = .ok (V i) (Hs (i + 1)) ∧ (ndF o (En i) = true -> inP nm (qH nm o.dst) = true ∧ (j + i, qH nm o.dst) ∈ N) ∧
     (okF o (En i) = true -> (j + i, RF o (qH nm o.dst) (En i)) ∈ E ∧ (j + i, aD (RF o (qH nm o.dst) (En i)) (Hs (i + 1))) ∈ O) ∧ (okF o (En i) = false -> (j + i, dlC o (En i)) ∈ F)) ∨
    (jX ds o (En i) = some false ∧ V i = .tup [] ∧ Hs (i + 1) = Hs i))
theorem qAY {Q : List PV -> PHp -> Prop} {ds : List (Option Tmp)} {b : Array Nat} {zAD : List PV} {ph0 : PHp} : ∀ (l : List Oper) (j : Nat) (env : List PV) (ph : PHp) (E F : List (Nat × List Nat)) (N : List (Nat × Nat)) (W : List (Nat × PV)) (O : List (Nat × PHp)),
 (qH4 P tab nm ds b zAD ph0 j l env ph E F N W O).holds P G Q -> ∃ En Hs V E' F' N' W' O', TrC P tab nm ds l env ph En Hs V j E' F' N' W' O' ∧ (∀ x ∈ E, x ∈ E') ∧ (∀ x ∈ F, x ∈ F') ∧ (∀ x ∈ N, x ∈ N') ∧ (∀ x ∈ W, x ∈ W') ∧ (∀ x ∈ O, x ∈ O') ∧ q4U b ph0 zAD E' F' N' W' O' = true ∧ Q (En l.length) (Hs l.length)
 | [], j, env, ph, E, F, N, W, O, h => ⟨fun _ => env, fun _ => ph, fun _ => .unk, E, F, N, W, O, ⟨rfl, rfl, fun i o h => by simp at h⟩, fun _ h => h, fun _ h => h, fun _ h => h, fun _ h => h, fun _ h => h, h.1, h.2⟩
 | o :: l, j, env, ph, E, F, N, W, O, h => by
   unfold qH4 jW at h;split at h
   ·rename_i hw;split at h
    ·rename_i v ph' hx
     have hh : (ndF o env = true -> inP nm (qH nm o.dst) = true) ∧ (qH4 P tab nm ds b zAD ph0 (j + 1) l (yI env o.dst v) ph' (cond (okF o env) ((j, RF o (qH nm o.dst) env) :: E) E) (cond (okF o env) F ((j, dlC o env) :: F)) (cond (ndF o env) ((j, qH nm o.dst) :: N) N) ((j, v) :: W) (cond (okF o env) ((j, aD (RF o (qH nm o.dst) env) ph') :: O) O)).holds P G Q := by
      unfold qCO at h
      cases hn : ndF o env with
      | true => rw [hn] at h; exact ⟨fun _ => h.1, h.2⟩
      | false => rw [hn] at h; exact ⟨fun h => by (cases h), h⟩
     obtain ⟨hc, h⟩ := hh;obtain ⟨En, Hs, V, E', F', N', W', O', t, a1, a2, a3, a4, a7, a5, a6⟩ := qAY l (j + 1) _ _ _ _ _ _ _ h;refine ⟨fun i => Nat.casesOn i env fun i => En i, fun i => Nat.casesOn i ph fun i => Hs i, fun i => Nat.casesOn i v fun i => V i, E', F', N', W', O', ⟨rfl, rfl, fun i p hi => ?_⟩, fun x hx => a1 x ?_, fun x hx => a2 x ?_, fun x hx => a3 x ?_, fun x hx => a4 x (zKD _ hx), fun x hx => a7 x ?_, a5, a6⟩
     ·cases i with
      | zero =>
        simp only [zKU, zKC] at hi;subst hi;have e0 : Hs 0 = ph' := t.h0;have hx0 : xP P tab (qH nm o.dst) o env ph = .ok v (Hs 0) := by rw [e0]; exact hx
        refine ⟨t.e0, a4 _ zKI, .inl ⟨hw, hx0, fun hn => ?_, fun he => ?_, fun he => ?_⟩⟩
        ·have hn : ndF o env = true := hn;exact ⟨hc hn, a3 _ (by rw [hn]; exact zKI)⟩
        ·have he : okF o env = true := he;refine ⟨a1 _ (by rw [he]; exact zKI), a7 _ ?_⟩;show (j, aD (RF o (qH nm o.dst) env) (Hs 0)) ∈ _;rw [he, e0]; exact zKI
        ·have he : okF o env = false := he;exact a2 _ (by rw [he]; exact zKI)
      | succ i =>
        have := t.step i p (by simpa using hi);rw [show j + 1 + i = j + (i + 1) by omega] at this;exact this
     ·cases okF o env
      ·exact hx
      ·exact zKD _ hx
     ·cases okF o env
      ·exact zKD _ hx
      ·exact hx
     ·cases ndF o env
      ·exact hx
      ·exact zKD _ hx
     ·cases okF o env
      ·exact hx
      ·exact zKD _ hx
    ·exact h.elim
   ·rename_i hw;obtain ⟨En, Hs, V, E', F', N', W', O', t, a1, a2, a3, a4, a7, a5, a6⟩ := qAY l (j + 1) _ _ _ _ _ _ _ h;refine ⟨fun i => Nat.casesOn i env fun i => En i, fun i => Nat.casesOn i ph fun i => Hs i, fun i => Nat.casesOn i (.tup []) fun i => V i, E', F', N', W', O', ⟨rfl, rfl, fun i p hi => ?_⟩, a1, a2, a3, fun x hx => a4 x (zKD _ hx), a7, a5, a6⟩
    cases i with
    | zero =>
      simp only [zKU, zKC] at hi;subst hi;exact ⟨t.e0, a4 _ zKI, .inr ⟨hw, rfl, t.h0⟩⟩
    | succ i =>
      have := t.step i p (by simpa using hi);rw [show j + 1 + i = j + (i + 1) by omega] at this;exact this
   ·exact h.elim
def qBS (ops : Array Oper) : Bool :=
 let b := Region.before ops
 let l := ops.toList.zipIdx
 l.all fun (o, i) =>
  (o.after.all fun e => !Region.binds .any e || decide (e.on < i)) &&
  l.all fun (p, j) => decide (i = j) || (match o.dst with
   | some d => p.dst != some d && (!((wQ ops p).contains d) || cond (qI o) (jZ b i j) (qO6 b i j))
   | none => true)
theorem qW4 {ops : Array Oper} (h : qBS ops = true) : zB0 ops := by
 unfold qBS at h;simp only [zJ8] at h
 have h1 : ∀ i o, ops[i]? = some o -> ∀ e ∈ o.after, Region.binds .any e = true -> e.on < i := by
  intro i o ho e he hb;have := h (o, i) (fU.2 (by simpa using ho));simp only [zJ5, zL6] at this;have := this.1 e he;rw [hb] at this;simpa using this
 have h2 : ∀ (i j : Nat) (o p : Oper), i ≠ j -> ops[i]? = some o -> ops[j]? = some p ->
  (match o.dst with
    | some d => p.dst != some d && (!((wQ ops p).contains d) || cond (qI o) (jZ (Region.before ops) i j) (qO6 (Region.before ops) i j))
    | none => true) = true := by
  intro i j o p hij ho hp;have h3 := h (o, i) (fU.2 (by simpa using ho));simp only [zJ5, zJ8] at h3;have h4 := h3.2 (p, j) (fU.2 (by simpa using hp));simp only [hij, decide_false, zM6] at h4;exact h4
 refine ⟨h1, ?_, ?_⟩
 ·intro i j o p d hij ho hp hd;have := h2 i j o p hij ho hp;rw [hd] at this;simp only [zJ5, bne_iff_ne, ne_eq] at this;exact this.1
 ·intro i j o p d hij ho hp hd hr;have := h2 i j o p hij ho hp;rw [hd] at this;simp only [zJ5] at this;have := this.2;have hc : (wQ ops p).contains d = true := List.contains_iff_mem.2 hr;rw [hc] at this;simp only [zNT, zM6] at this
  cases ha : qI o with
  | true => rw [ha] at this; exact .inl this
  | false =>
    rw [ha] at this;simp only [cond_false, qO6, zLB] at this;rcases this with h | h
    ·exact .inl h
    ·exact .inr ⟨rfl, h⟩
open Classical in
noncomputable def lst (S : Array Bool) (Wt : Nat -> List Nat) (l : Nat) : Nat -> Nat
 | 0 => 0
 | n + 1 => if sel S n ∧ l ∈ Wt n then n + 1 else lst S Wt l n
theorem qBO {S : Array Bool} {Wt : Nat -> List Nat} {l : Nat} : ∀ (n : Nat), lst S Wt l n = 0 ∨ ∃ i, i < n ∧ lst S Wt l n = i + 1 ∧ sel S i ∧ l ∈ Wt i
 | 0 => .inl rfl
 | n + 1 => by
   unfold lst;by_cases h : sel S n ∧ l ∈ Wt n
   ·rw [if_pos h]; exact .inr ⟨n, zK1 _, rfl, h⟩
   ·rw [if_neg h]
    rcases qBO (S := S) (Wt := Wt) (l := l) n with h | ⟨i, h1, h2⟩
    ·exact .inl h
    ·exact .inr ⟨i, zLV h1, h2⟩
theorem qG3 {S S' : Array Bool} {Wt : Nat -> List Nat} {l : Nat} : ∀ (n : Nat), (∀ i, i < n -> l ∈ Wt i -> (sel S i ↔ sel S' i)) -> lst S Wt l n = lst S' Wt l n
 | 0, _ => rfl
 | n + 1, h => by
   unfold lst;have ih := qG3 n fun i hi => h i (by omega)
   by_cases hl : l ∈ Wt n
   ·have := h n (by omega) hl;by_cases hs : sel S n
    ·rw [if_pos ⟨hs, hl⟩, if_pos ⟨this.1 hs, hl⟩]
    ·rw [if_neg (fun q => hs q.1), if_neg (fun q => hs (this.2 q.1)), ih]
   ·rw [if_neg (fun q => hl q.2), if_neg (fun q => hl q.2), ih]
theorem pK {S : Array Bool} {Wt : Nat -> List Nat} {Hs : Nat -> PHp} {l j : Nat} : ∀ (n : Nat), (∀ i, i < n -> l ∉ Wt i -> qA l (Hs (i + 1)) = qA l (Hs i)) -> (∀ i, i < n -> l ∈ Wt i -> (sel S i ↔ i < j)) -> qA l (Hs (lst S Wt l n)) = qA l (Hs (min n j))
 | 0, _, _ => by rw [Nat.zero_min]; rfl
 | n + 1, h1, h2 => by
   have ih := pK n (fun i hi => h1 i (by omega)) fun i hi => h2 i (by omega)
   unfold lst;by_cases h : sel S n ∧ l ∈ Wt n
   ·rw [if_pos h];have := (h2 n (by omega) h.2).1 h.1;rw [zL4 (by omega)]
   ·rw [if_neg h, ih];by_cases hj : n < j
    ·have hl : l ∉ Wt n := fun hl => h ⟨(h2 n (by omega) hl).2 hj, hl⟩
     rw [zL4 (by omega), zL4 (by omega), h1 n (by omega) hl]
    ·rw [zNE (by omega), zNE (by omega)]
theorem sW {g : Nat -> Option PO} {l : Nat} : ∀ (L : PHp), qA l (L.filterMap fun p => (g p.1).map fun o => (p.1, o)) = if (qA l L).isSome then g l else none
 | [] => rfl
 | (k, o) :: L => by
   rw [zN9];by_cases e : l = k
   ·subst e;rw [show qA l ((l, o) :: L) = some o by simp [qA]];simp only [zM8, if_true]
    cases hg : g l with
    | none =>
      simp only [zN5];rw [sW L, hg]; split <;> rfl
    | some q => simp [qA]
   ·rw [zW e]
    cases hg : g k with
    | none => simp only [zN5]; exact sW L
    | some q => simp only [zKJ]; rw [zW e]; exact sW L
theorem qSR {k : Nat} : ∀ {L : PHp}, (∀ p ∈ L, zY k p.2.cs = true) -> fG k L = true
 | [], _ => rfl
 | (i, o) :: L, h => by
   simp only [fG, zJ5];exact ⟨h (i, o) zKI, qSR fun p hp => h p (zKD _ hp)⟩
theorem qON {k : Nat} : ∀ {L : PHp} {p : Nat × PO}, fG k L = true -> p ∈ L -> zY k p.2.cs = true
 | (i, o) :: L, p, h, hp => by
   simp only [fG, zJ5] at h;rcases zKS.1 hp with rfl | hp
   ·exact h.1
   ·exact qON h.2 hp
theorem qAX {m : Nat -> Nat} {a b : PHp} (h : ∀ l, qA l a = qA l b) : own m a = own m b := funext fun l => by unfold own; rw [h]
end Go.Idl
