/- The soundness of ideal runs, and rules for their use. Conditions: none. -/
import Derived.Test.YtpdlblofcdcikaaGreatDoorIdlF
set_option linter.all false
namespace Go.Idl
variable {P : Program} {good : FuncId -> Bool} {nat : yU}
def jD : yU := fun _ => none
theorem qUT : j3 jD := by intro f k h; cases h
theorem qQU {G : Nat -> Bool} : wF P G jD := by intro f k h; cases h
end Go.Idl
namespace Go.Idl
variable {P : Program} {good : FuncId -> Bool} {nat : yU}
theorem VRel.back {f f1 : Inj} {v v0 v' : Value} (h0 : VRel P f v v0) (hl : f.le f1) (h1 : VRel P f1 v v') : VRel P f v v' := by
 have same : ∀ {b : Nat} {e e' : Emb}, f b = some e -> f1 b = some e' -> e' = e := fun h h' => by
  have := hl _ _ h; rw [h'] at this; exact Option.some.inj this
 have nope : ∀ {v : Value}, zO v = true -> zO v = false -> False := fun a b => by rw [a] at b; cases b
 induction h0 generalizing v' with
 | any v => exact .any v'
 | undef => rw [h1.undef_inv]; exact .undef
 | base v hp => rw [h1.plain hp]; exact .base v hp
 | ptr h =>
   cases h1 with
   | base _ hp => exact (nope hp rfl).elim
   | ptr h' => rw [same h h']; exact .ptr h
 | sl h =>
   cases h1 with
   | base _ hp => exact (nope hp rfl).elim
   | sl h' => rw [same h h']; exact .sl h
   | gh h' hg' => have e := same h h'; subst e; exact .gh h hg'
 | gh h hg =>
   cases h1 with
   | base _ hp => exact (nope hp rfl).elim
   | sl h' => exact .gh h hg
   | gh h' hg' => exact .gh h hg
 | room h hc hn =>
   cases h1 with
   | base _ hp => exact (nope hp rfl).elim
   | room h' hc' hn' => have e := same h h'; subst e; exact .room h hc' hn'
   | room0 h' hs' hn' => have e := same h h'; subst e; exact .room0 h hs' hn'
 | room0 h hs hn =>
   cases h1 with
   | base _ hp => exact (nope hp rfl).elim
   | room h' hc' hn' => have e := same h h'; subst e; exact .room h hc' hn'
   | room0 h' hs' hn' => have e := same h h'; subst e; exact .room0 h hs' hn'
 | map h =>
   cases h1 with
   | base _ hp => exact (nope hp rfl).elim
   | map h' => rw [same h h']; exact .map h
 | @func g a a0 c c0 ha hc hav hcv i1 i2 =>
   cases h1 with
   | base _ hp =>
     refine .func rfl rfl (fun i v v' hv hv' => ?_) (fun i v v' hv hv' => ?_)
     ·rw [hv] at hv'; cases hv';have hlt : i < a0.size := by rw [<- ha]; exact (Array.getElem?_eq_some_iff.1 hv).1
      exact i1 i v a0[i] hv (Array.getElem?_eq_getElem hlt) (.base v (by
       have hp' : (q1Z (.func g) && (kU (yX 2) a.toList && kU (yX 2) c.toList)) = true := hp;simp only [Bool.and_eq_true, yD] at hp'
       exact wS 2 v (hp'.2.1 v (Array.mem_def.1 (Array.mem_of_getElem? hv)))))
     ·rw [hv] at hv'; cases hv';have hlt : i < c0.size := by rw [<- hc]; exact (Array.getElem?_eq_some_iff.1 hv).1
      exact i2 i v c0[i] hv (Array.getElem?_eq_getElem hlt) (.base v (by
       have hp' : (q1Z (.func g) && (kU (yX 2) a.toList && kU (yX 2) c.toList)) = true := hp;simp only [Bool.and_eq_true, yD] at hp'
       exact wS 2 v (hp'.2.2 v (Array.mem_def.1 (Array.mem_of_getElem? hv)))))
   | func ha' hc' hav' hcv' =>
     refine .func ha' hc' (fun i v v' hv hv' => ?_) (fun i v v' hv hv' => ?_)
     ·have hlt : i < a0.size := by rw [<- ha]; exact (Array.getElem?_eq_some_iff.1 hv).1
      exact i1 i v a0[i] hv (Array.getElem?_eq_getElem hlt) (hav' i v v' hv hv')
     ·have hlt : i < c0.size := by rw [<- hc]; exact (Array.getElem?_eq_some_iff.1 hv).1
      exact i2 i v c0[i] hv (Array.getElem?_eq_getElem hlt) (hcv' i v v' hv hv')
 | yield h =>
   cases h1 with
   | base _ hp => exact (nope hp rfl).elim
   | yield h' => rw [same h h']; exact .yield h
 | iface _ ih =>
   cases h1 with
   | base _ hp => exact .iface (ih (.base _ (wS 2 _ hp)))
   | iface h' => exact .iface (ih h')
 | @agg a a0 ha hav i1 =>
   cases h1 with
   | base _ hp =>
     refine .agg rfl (fun i v v' hv hv' => ?_);rw [hv] at hv'; cases hv';have hlt : i < a0.size := by rw [<- ha]; exact (Array.getElem?_eq_some_iff.1 hv).1
     exact i1 i v a0[i] hv (Array.getElem?_eq_getElem hlt) (.base v (xL.1 (qCL hp) v (Array.mem_def.1 (Array.mem_of_getElem? hv))))
   | agg ha' hav' =>
     refine .agg ha' (fun i v v' hv hv' => ?_);have hlt : i < a0.size := by rw [<- ha]; exact (Array.getElem?_eq_some_iff.1 hv).1
     exact i1 i v a0[i] hv (Array.getElem?_eq_getElem hlt) (hav' i v v' hv hv')
 | @tuple a a0 ha hav i1 =>
   cases h1 with
   | any v =>
     cases ha0 : a0[0]? with
     | none =>
       have h0 : a0.size = 0 := by
        have := Array.getElem?_eq_none_iff.1 ha0;omega
       rw [h0] at ha;simp at ha
     | some x => exact .any _
   | undef => exact .undef
   | base _ hp => exact (nope hp rfl).elim
   | tuple ha' hav' =>
     refine .tuple ha' (fun i v v' hv hv' => ?_);have hlt : i < a0.size := by rw [<- ha]; exact (Array.getElem?_eq_some_iff.1 hv).1
     exact i1 i v a0[i] hv (Array.getElem?_eq_getElem hlt) (hav' i v v' hv hv')
theorem qB.back {f f1 : Inj} {l l0 l' : List Value} (h0 : qB P f l l0) (hl : f.le f1) (h1 : qB P f1 l l') : qB P f l l' :=
 ⟨h1.1, fun i v v' hv hv' => by
   have hlt : i < l0.length := by rw [<- h0.1]; exact (List.getElem?_eq_some_iff.1 hv).1
   exact (h0.2 i v l0[i] hv (List.getElem?_eq_getElem hlt)).back hl (h1.2 i v v' hv hv')⟩
theorem qAJ.back {f f1 : Inj} {e : Emb} {o : Obj} {r0 r : Option Obj} (h0 : qAJ P f e o r0) (hl : f.le f1) (h1 : qAJ P f1 e o r) : qAJ P f e o r := by
 cases o <;> simp only [qAJ] at h0 h1 ⊢
 case cells c el fz =>
  obtain ⟨_, _, _, _, _, _, g4, _, _⟩ := h0;obtain ⟨c', el', fz', k1, k2, k3, k4, k5, k6⟩ := h1
  exact ⟨c', el', fz', k1, k2, k3, fun i v hv => by
   obtain ⟨v0, _, a⟩ := g4 i v hv;obtain ⟨v', b, c⟩ := k4 i v hv
   exact ⟨v', b, a.back hl c⟩, k5, k6⟩
 case map es clk =>
  obtain ⟨_, es0, _, g2, g3⟩ := h0;obtain ⟨k0, es', k1, k2, k3⟩ := h1
  exact ⟨k0, es', k1, k2, fun i x hx => by
   obtain ⟨x0, _, _, _, a⟩ := g3 i x hx;obtain ⟨x', b1, b2, b3, b4⟩ := k3 i x hx
   exact ⟨x', b1, b2, b3, a.back hl b4⟩⟩
 case stringIter s p => exact h1
 case mapIter m since seen last =>
  cases m with
  | none => simp only at h0
  | some m =>
    obtain ⟨_, _, em, seen0, st0, g1, _⟩ := h0;obtain ⟨k0, k01, em', seen', st', k1, k2, k3⟩ := h1;have := hl _ _ g1;rw [k1] at this;cases this;exact ⟨k0, k01, em, seen', st', g1, k2, k3⟩
 case loop lp =>
  obtain ⟨_, lp0, _, _, _, _, _, _, g7, g8, g9, _, _⟩ := h0;obtain ⟨k0, lp', k1, k2, k3, k4, k5, k6, k7, k8, k9, k10⟩ := h1;exact ⟨k0, lp', k1, k2, k3, k4, k5, k6, g7.back hl k7, g8, g9, k10⟩
theorem Rel.drop {f f1 : Inj} {H H1 : IH} {w w1 : World} (hR : Rel P f H w) (hR1 : Rel P f1 H1 w1) (hg : Grow f H w f1 H1 w1) (hs : ∀ b o, b < H.size -> H.get b = some o -> H1.get b = some o) : Rel P f H w1 ∧ Grow f H w f H w1 := by
 refine ⟨⟨hR.dom, hR.fresh, fun b e hb => hR1.bound b e (hg.le b e hb), fun b e o hb ho => ?_, hR.sep, hR.rosame⟩, ⟨Nat.le_refl _, fun _ _ h => h, f.le_refl, hg.size, fun r hr ho => ⟨ho, (hg.keep r hr ho).2⟩, fun _ _ h => h, hg.out⟩⟩;exact (hR.obj b e o hb ho).back hg.le (hR1.obj b e o (hg.le b e hb) (hs b o (hR.dom b e hb) ho))
structure Old (H H' : IH) : Prop where
 size : H.size <= H'.size
 base : H'.base = H.base
 get : ∀ b, b < H.size -> H'.get b = H.get b
theorem Old.refl (H : IH) : Old H H := ⟨Nat.le_refl _, rfl, fun _ _ => rfl⟩
theorem Old.trans {H H1 H2 : IH} (a : Old H H1) (b : Old H1 H2) : Old H H2 :=
 ⟨Nat.le_trans a.size b.size, b.base.trans a.base, fun x hx => (b.get x (Nat.lt_of_lt_of_le hx a.size)).trans (a.get x hx)⟩
theorem Old.push (H : IH) (o : Obj) : Old H (H.push o) := ⟨by simp, rfl, fun x hx => by rw [IH.get_push, if_neg (by omega)]⟩
theorem Old.put {H H' : IH} {b : Nat} {o : Obj} (h : Old H H') (hb : H.size <= b) : Old H (H'.put b o) :=
 ⟨h.size, h.base, fun x hx => by rw [IH.get_put, if_neg (by omega)]; exact h.get x hx⟩
def ofK (k : List Value -> IH -> Option Value) : List Value -> IH -> T (Value × IH) := fun args H => match k args H with
 | some v => .ret (v, H)
 | none => .fail
def addNat (nat : yU) (g : FuncId) (k : List Value -> IH -> Option Value) : yU := fun x => cond (Nat.beq x g) (some (ofK k)) (nat x)
theorem qD3 {g : FuncId} {k : List Value -> IH -> Option Value} (hn : j3 nat) : j3 (addNat nat g k) := by
 intro x y h args H;unfold addNat at h
 cases hb : Nat.beq x g with
 | false => rw [hb] at h; exact hn x y h args H
 | true =>
   rw [hb] at h;cases h;unfold ofK;split
   ·exact .refl _
   ·exact trivial
theorem Rel.empty (P : Program) (w : World) : Rel P (fun _ => none) ⟨.nil, 0, 0, []⟩ w :=
 ⟨fun b e h => (by cases h), fun b _ => rfl, fun b e h => (by cases h), fun b e o h => (by cases h), fun b1 b2 e1 e2 o1 o2 _ h => (by cases h), fun b1 b2 e1 e2 h => (by cases h)⟩
theorem Rel.addRo {f : Inj} {H : IH} {w : World} {r s : Nat} {c : Array Value} {el : TypeId} {fz : Nat × Nat} (hR : Rel P f H w) (hr : w.heap[r]? = some (.cells c el fz)) (hro : ∀ b e, f b = some e -> e.r = r -> e.ro = true)
 (cI : Array Value) (elI : TypeId) (hs : s + cI.size <= c.size) (hv : ∀ (i : Nat) v, cI[i]? = some v -> ∃ v', c[s + i]? = some v' ∧ VRel P f v v') :
 Rel P (f.add H.size ⟨r, s, c.size, true⟩) (H.push (.cells cI elI (0, 1))) w ∧ f.le (f.add H.size ⟨r, s, c.size, true⟩) := by
 have hnone : f H.size = none := o5 hR;have hle : f.le (f.add H.size ⟨r, s, c.size, true⟩) := Inj.le_add hnone;have hlt : r < w.heap.size := (Array.getElem?_eq_some_iff.1 hr).1;refine ⟨⟨?_, ?_, ?_, ?_, ?_, ?_⟩, hle⟩
 ·intro b e hb;by_cases e1 : b = H.size
  ·subst e1; simp
  ·rw [Inj.add_other e1] at hb; have := hR.dom b e hb; simp; omega
 ·intro b hb;simp only [IH.size_push] at hb;rw [IH.get_push, if_neg (by omega)];exact hR.fresh b (by omega)
 ·intro b e hb;by_cases e1 : b = H.size
  ·subst e1; rw [Inj.add_same] at hb; cases hb; exact hlt
  ·rw [Inj.add_other e1] at hb; exact hR.bound b e hb
 ·intro b e o hb ho;by_cases e1 : b = H.size
  ·subst e1; rw [Inj.add_same] at hb; cases hb;rw [IH.get_push, if_pos rfl] at ho; cases ho;refine ⟨c, el, fz, hr, rfl, hs, fun i v hi => ?_, fun h => by simp [uH] at h, fun h => by simp at h⟩;obtain ⟨v', h1, h2⟩ := hv i v hi;exact ⟨v', h1, h2.mono hle⟩
  ·rw [Inj.add_other e1] at hb;rw [IH.get_push, if_neg e1] at ho;exact (hR.obj b e o hb ho).mono hle
 ·intro b1 b2 e1 e2 o1 o2 hne h1 h2 g1 g2 l1 l2 hr';by_cases x1 : b1 = H.size
  ·subst x1;rw [Inj.add_same] at h1; cases h1;rw [Inj.add_other (Ne.symm hne)] at h2;exact ⟨rfl, hro b2 e2 h2 hr'.symm⟩
  ·rw [Inj.add_other x1] at h1;by_cases x2 : b2 = H.size
   ·subst x2;rw [Inj.add_same] at h2; cases h2;exact ⟨hro b1 e1 h1 hr', rfl⟩
   ·rw [Inj.add_other x2] at h2;rw [IH.get_push, if_neg x1] at g1;rw [IH.get_push, if_neg x2] at g2;exact hR.sep b1 b2 e1 e2 o1 o2 hne h1 h2 g1 g2 l1 l2 hr'
 ·intro b1 b2 e1 e2 h1 h2 hr';by_cases x1 : b1 = H.size
  ·subst x1;rw [Inj.add_same] at h1; cases h1;by_cases x2 : b2 = H.size
   ·subst x2; rw [Inj.add_same] at h2; cases h2; rfl
   ·rw [Inj.add_other x2] at h2; exact (hro b2 e2 h2 hr'.symm).symm
  ·rw [Inj.add_other x1] at h1;by_cases x2 : b2 = H.size
   ·subst x2; rw [Inj.add_same] at h2; cases h2; exact hro b1 e1 h1 hr'
   ·rw [Inj.add_other x2] at h2; exact hR.rosame b1 b2 e1 e2 h1 h2 hr'
end Go.Idl
namespace Go.Idl
variable {P : Program} {good : FuncId -> Bool} {nat : yU} {rd : Bool}
structure Weak (p o : Out) : Prop where
 e : o.e = p.e
 env : ∀ (P : Program) (f : Inj) (l : List Value), qB P f p.env l -> qB P f o.env l
 rel : ∀ (P : Program) (f : Inj) (w : World), Rel P f p.H w -> Rel P f o.H w
 size : p.H.size <= o.H.size
theorem qPW {B : Nat} {f : Inj} {H : IH} {w : World} {Q : Out -> Prop} {e : Exit} {a : Act} {w' : World} (h : jW P B f H w (fun p => ∃ o, Q o ∧ Weak p o) e a w') : jW P B f H w Q e a w' := by
 obtain ⟨p, f', ⟨o, hq, hs⟩, h1, h2, h3, h4, h5⟩ := h;exact ⟨o, f', hq, by rw [hs.e]; exact h1, hs.rel _ _ _ h2, h3.sizes (Nat.le_refl _) hs.size, hs.env _ _ _ h4, h5⟩
def Holds (P : Program) (G : Nat -> Bool) (rd : Bool) (c : Code) (env : Env) (H : IH) (Q : Out -> Prop) : Prop :=
 ∀ (B : Nat) (F : Fence) (f : Inj) (a : Act) (w : World), nG F -> rd = F.round.isSome -> Rel P f H w -> aQ G f -> qB P f env a.tmps.toList -> Marks B f w a.defers -> c.wpIn F 0 P (jW P B f H w Q) a w
structure Setup (P : Program) (good : FuncId -> Bool) (nat : yU) (G : Nat -> Bool) : Prop where
 mix : P.follows .mixedOrders = true
 ext : j3 nat
 spec : wF P G nat
 good : qRZ P good G
theorem Setup.run {G : Nat -> Bool} (s : Setup P good nat G) (n : Nat) {c : Code} {env : Env} {H : IH} {Q : Out -> Prop} (hc : codeOk G rd c = true) (h : (iex P good nat n (.code c env) H).holds Q) : Holds P G rd c env H Q := by
 intro B F f a w hF hr hR hG henv hm;exact (qJC s.ext s.spec s.good (fun _ _ hc hr => qD7 s.mix hc hr) n).1 B F rd c env H f a w Q hF hr hR hG (qP hG _ _ hc) henv hm h
theorem Holds.weak {G : Nat -> Bool} {c : Code} {env : Env} {H : IH} {Q Q' : Out -> Prop} (h : Holds P G rd c env H Q) (hq : ∀ p, Q p -> ∃ o, Q' o ∧ Weak p o) : Holds P G rd c env H Q' := by
 intro B F f a w hF hr hR hG henv hm;exact wpIn_mono (h B F f a w hF hr hR hG henv hm) fun e a w hx => qPW (kK (.refl _ _ _) hq hx)
theorem Holds.seq {G : Nat -> Bool} {x y : Code} {env env1 : Env} {H H1 : IH} {Q : Out -> Prop} (hx : Holds P G rd x env H fun o => o = ⟨.normal, env1, H1⟩) (hy : Holds P G rd y env1 H1 Q) : Holds P G rd (.seq x y) env H Q := by
 intro B F f a w hF hr hR hG henv hm;refine wpIn_seq (wpIn_mono (hx B F f a w hF hr hR hG henv hm) ?_);rintro e a' w' ⟨o, f', rfl, rfl, h1, h2, h3, h4⟩;exact wpIn_mono (hy B F f' a' w' hF hr h1 (hG.mono h2.le) h3 h4) fun e a w => kK h2 fun _ h => h
theorem pM {G : Nat -> Bool} {g : FuncId} {fn : Func} {c : Code} {args args' : List Value} {H : IH} {f : Inj} {w : World} {Q : Value × IH -> Prop} (hfn : P.funcs[g]? = some fn) (hb : fn.body = some c)
 (hR : Rel P f H w) (hG : aQ G f) (ha : qB P f args args')
 (h : Holds P G false c (args ++ List.replicate (fn.ntmps - args.length) undef) H fun o => (o.e = .normal ∨ o.e = .ret) ∧ ∃ v, yC P fn o.env o.H = some v ∧ Q (v, o.H)) : CallsIn Fence.wide 0 P g args'.toArray w (Comes P f H w Q) := by
 have henv : qB P f (args ++ List.replicate (fn.ntmps - args.length) undef) (args'.toArray ++ Array.replicate (fn.ntmps - args'.toArray.size) undef).toList := by
  have e1 : (args'.toArray ++ Array.replicate (fn.ntmps - args'.toArray.size) undef).toList = args' ++ List.replicate (fn.ntmps - args.length) undef := by simp [ha.1]
  rw [e1];refine ha.append ?_
  have key : ∀ n, qB P f (List.replicate n undef) (List.replicate n undef) := by
   intro n
   induction n with
   | zero => exact .nil
   | succ n ih => exact .cons .undef ih
  exact key _
 refine callsIn_of_wp_marks hfn hb trivial (wpIn_mono (h w.heap.size Fence.wide f _ w qHV rfl hR hG henv (Nat.le_refl _)) ?_);rintro e a' w' ⟨o, f', ⟨he, v, hv, hq⟩, rfl, k1, k2, k3, k4⟩
 have done : LeavesInM Fence.wide 0 P fn a'.tmps (Comes P f H w Q) a'.defers .returning w' := by
  refine bV a'.defers w' k1 k4 fun w2 hR2 hsame hsz hot => ?_
  obtain ⟨v', h3, h4⟩ := oU (fn := fn) k3 hR2 hv;refine ⟨v', h3, v', (v, o.H), f', rfl, hq, hR2, ⟨k2.isize, k2.stay, k2.le, by rw [hsz]; exact k2.size, fun r hr ho => ?_, k2.un, ⟨hot.1.trans k2.out.1, hot.2.1.trans k2.out.2.1, hot.2.2.trans k2.out.2.2⟩⟩, h4⟩;obtain ⟨q1, q2⟩ := k2.keep r hr ho;exact ⟨q1, by rw [hsame r (fun d hd => qG8 _ k4 r hr d hd)]; exact q2⟩
 rcases he with he | he
 ·rw [he]; exact done
 ·rw [he]; exact done
noncomputable def qMZ (l : List (Nat × Obj)) : Tr Obj := List.rec .nil (fun p _ ih => ih.set p.1 p.2) l
theorem qAP : ∀ (l : List (Nat × Obj)) (b : Nat) (o : Obj), (qMZ l).get b = some o -> (b, o) ∈ l
 | [], b, o, h => by cases h
 | p :: l, b, o, h => by
   have h' : ((qMZ l).set p.1 p.2).get b = some o := h;rw [Tr.get_set] at h';split at h'
   ·rename_i e; cases h'; subst e; exact List.mem_cons_self
   ·exact List.mem_cons_of_mem _ (qAP l b o h')
noncomputable def eO (l : List (Nat × Obj)) (n : Nat) : IH := ⟨qMZ l, n, 0, []⟩
noncomputable def hasAll (H : IH) (n : Nat) (l : List (Nat × Obj)) : Bool := kU (fun p => cond (q0C (H.get p.1) (some p.2)) (decide (p.1 < n)) false) l
noncomputable def wkV (a b : Value) : Bool := cond (veq b unk) true (veq a b)
theorem qWA {P : Program} {f : Inj} : ∀ (l m x : List Value), eqL wkV l m = true -> qB P f l x -> qB P f m x
 | [], m, x, h, hx => by
   have h' : m.isEmpty = true := h;have : m = [] := by simpa using h'
   rw [this, hx.nil_left]; exact .nil
 | a :: l, [], x, h, _ => by
   have h' : false = true := h;cases h'
 | a :: l, b :: m, x, h, hx => by
   have h' : cond (wkV a b) (eqL wkV l m) false = true := h;obtain ⟨a', x', rfl, ha, ht⟩ := hx.uncons
   cases hw : wkV a b with
   | false => rw [hw] at h'; cases h'
   | true =>
     rw [hw] at h';refine .cons ?_ (qWA l m x' h' ht);unfold wkV at hw
     cases hu : veq b unk with
     | true => rw [gW hu]; exact .any a'
     | false => rw [hu] at hw; rw [<- gW hw]; exact ha
noncomputable def xB (t : T Out) (env : Env) (l : List (Nat × Obj)) (n : Nat) : Bool :=
 match t with
 | .ret o => (match o.e with
   | .normal => cond (eqL wkV o.env env) (cond (Nat.beq o.H.size n) (hasAll o.H n l) false) false
   | _ => false)
 | _ => false
theorem IH.forget {H : IH} {l : List (Nat × Obj)} (hl : hasAll H H.size l = true) {f : Inj} {w : World} (h : Rel P f H w) : Rel P f (eO l H.size) w := by
 have hin : ∀ b o, (eO l H.size).get b = some o -> H.get b = some o ∧ b < H.size := by
  intro b o hb;have hm := qAP l b o hb;have := yD.1 hl _ hm;simp only at this
  cases ho : q0C (H.get b) (some o) with
  | false => rw [ho] at this; cases this
  | true => rw [ho] at this; exact ⟨cO ho, by simpa using this⟩
 refine ⟨h.dom, fun b hb => ?_, h.bound, fun b e o hb ho => h.obj b e o hb (hin b o ho).1, fun b1 b2 e1 e2 o1 o2 hne h1 h2 g1 g2 => h.sep b1 b2 e1 e2 o1 o2 hne h1 h2 (hin _ _ g1).1 (hin _ _ g2).1, h.rosame⟩
 cases hg : (eO l H.size).get b with
 | none => rfl
 | some o => have h1 := (hin b o hg).2; have h2 : H.size <= b := hb; omega
theorem qIQ {t : T Out} {env : Env} {l : List (Nat × Obj)} {n : Nat} (h : xB t env l n = true) : t.holds fun p => ∃ o, o = ⟨.normal, env, eO l n⟩ ∧ Weak p o := by
 unfold xB at h;split at h
 ·rename_i o;split at h
  ·rename_i he
   cases h1 : eqL wkV o.env env with
   | false => rw [h1] at h; cases h
   | true =>
     rw [h1] at h
     cases h2 : Nat.beq o.H.size n with
     | false => rw [h2] at h; cases h
     | true =>
       rw [h2] at h;have hn : o.H.size = n := Nat.eq_of_beq_eq_true h2;subst hn;exact ⟨_, rfl, he.symm, fun _ _ _ hh => qWA _ _ _ h1 hh, fun _ _ _ hh => IH.forget h hh, Nat.le_refl _⟩
  ·cases h
 ·cases h
theorem Setup.piece {G : Nat -> Bool} (s : Setup P good nat G) (n : Nat) {c : Code} {env env1 : Env} {H : IH} {l : List (Nat × Obj)} {m : Nat} (hc : codeOk G rd c = true) (h : xB (iex P good nat n (.code c env) H) env1 l m = true) :
 Holds P G rd c env H fun o => o = ⟨.normal, env1, eO l m⟩ :=
 (s.run n hc (qIQ h)).weak fun _ h => h
end Go.Idl
namespace Go.Idl
variable {P : Program} {good : FuncId -> Bool} {nat : yU} {G : Nat -> Bool} {rd : Bool}
theorem Holds.mono {c : Code} {env : Env} {H : IH} {Q Q' : Out -> Prop} (h : Holds P G rd c env H Q) (hq : ∀ o, Q o -> Q' o) : Holds P G rd c env H Q' := by
 intro B F f a w hF hr hR hG henv hm;exact wpIn_mono (h B F f a w hF hr hR hG henv hm) fun e a w => kK (.refl _ _ _) hq
theorem Holds.seqQ {x y : Code} {env : Env} {H : IH} {Q1 Q : Out -> Prop} (hx : Holds P G rd x env H Q1) (hy : ∀ o, Q1 o -> o.e = .normal -> Holds P G rd y o.env o.H Q) (ho : ∀ o, Q1 o -> o.e ≠ .normal -> Q o) : Holds P G rd (.seq x y) env H Q := by
 intro B F f a w hF hr hR hG henv hm;refine wpIn_seq (wpIn_mono (hx B F f a w hF hr hR hG henv hm) ?_);rintro e a' w' ⟨o, f', hq, rfl, h1, h2, h3, h4⟩
 cases he : o.e with
 | normal => exact wpIn_mono (hy o hq he B F f' a' w' hF hr h1 (hG.mono h2.le) h3 h4) fun e a w => kK h2 fun _ h => h
 | exit id => exact ⟨o, f', ho o hq (by rw [he]; simp), by rw [he], h1, h2, h3, h4⟩
 | goto l => exact ⟨o, f', ho o hq (by rw [he]; simp), by rw [he], h1, h2, h3, h4⟩
 | ret => exact ⟨o, f', ho o hq (by rw [he]; simp), by rw [he], h1, h2, h3, h4⟩
theorem Holds.seqN {x y : Code} {env : Env} {H : IH} {Q1 : Env -> IH -> Prop} {Q : Out -> Prop} (hx : Holds P G rd x env H fun o => o.e = .normal ∧ Q1 o.env o.H) (hy : ∀ env1 H1, Q1 env1 H1 -> Holds P G rd y env1 H1 Q) : Holds P G rd (.seq x y) env H Q :=
 .seqQ hx (fun _ h _ => hy _ _ h.2) (fun _ h hn => absurd h.1 hn)
theorem Holds.cond {v : Operand} {x y : Code} {env : Env} {H : IH} {Q : Out -> Prop} {t : Bool} (hok : vP G v = true) (hv : env.val v = .bool t) (hx : t = true -> Holds P G rd x env H Q) (hy : t = false -> Holds P G rd y env H Q) : Holds P G rd (.cond v x y) env H Q := by
 intro B F f a w hF hr hR hG henv hm;have hev := qAI henv (kM hG hok);rw [hv] at hev;refine wpIn_cond (t := t) hev.boolV ?_
 cases t with
 | true => exact hx rfl B F f a w hF hr hR hG henv hm
 | false => exact hy rfl B F f a w hF hr hR hG henv hm
def sK (id : Nat) (Q : Out -> Prop) (o : Out) : Prop :=
 match o.e with
 | .exit id' => if id' = id then Q ⟨.normal, o.env, o.H⟩ else Q o
 | _ => Q o
theorem Holds.block {id : Nat} {x : Code} {env : Env} {H : IH} {Q : Out -> Prop} (hx : Holds P G rd x env H (sK id Q)) : Holds P G rd (.block id x) env H Q := by
 intro B F f a w hF hr hR hG henv hm;refine wpIn_block (wpIn_mono (hx B F f a w hF hr hR hG henv hm) ?_);rintro e a' w' ⟨o, f', hq, rfl, h1, h2, h3, h4⟩;unfold sK at hq
 cases he : o.e with
 | normal => rw [he] at hq; exact ⟨o, f', hq, by rw [he], h1, h2, h3, h4⟩
 | exit id' =>
   rw [he] at hq;simp only [qJQ, Exit.inBlock];simp only at hq;by_cases hid : id' = id
   ·rw [if_pos hid];rw [if_pos hid] at hq;exact ⟨⟨.normal, o.env, o.H⟩, f', hq, rfl, h1, h2, h3, h4⟩
   ·rw [if_neg hid];rw [if_neg hid] at hq;exact ⟨o, f', hq, by rw [he]; rfl, h1, h2, h3, h4⟩
 | goto l => rw [he] at hq; exact ⟨o, f', hq, by rw [he], h1, h2, h3, h4⟩
 | ret => rw [he] at hq; exact ⟨o, f', hq, by rw [he], h1, h2, h3, h4⟩
theorem Holds.skip {env : Env} {H : IH} {Q : Out -> Prop} (h : Q ⟨.normal, env, H⟩) : Holds P G rd .skip env H Q := by
 intro B F f a w hF hr hR hG henv hm;exact wpIn_skip (j6 (e := .normal) hR henv hm h)
theorem Holds.label {l : Nat} {env : Env} {H : IH} {Q : Out -> Prop} (h : Q ⟨.normal, env, H⟩) : Holds P G rd (.label l) env H Q := by
 intro B F f a w hF hr hR hG henv hm;exact wpIn_label (j6 (e := .normal) hR henv hm h)
theorem Holds.ret {env : Env} {H : IH} {Q : Out -> Prop} (h : Q ⟨.ret, env, H⟩) : Holds P G rd .ret env H Q := by
 intro B F f a w hF hr hR hG henv hm;exact wpIn_ret (j6 (e := .ret) hR henv hm h)
theorem Holds.exit {id : Nat} {env : Env} {H : IH} {Q : Out -> Prop} (h : Q ⟨.exit id, env, H⟩) : Holds P G rd (.exit id) env H Q := by
 intro B F f a w hF hr hR hG henv hm;exact wpIn_exit (j6 (e := .exit id) hR henv hm h)
theorem Holds.scope {x : Code} {env : Env} {H : IH} {Q : Out -> Prop} (hx : Holds P G rd x env H fun o => (∀ l, o.e ≠ .goto l) ∧ Q o) : Holds P G rd (.scope x) env H Q := by
 intro B F f a w hF hr hR hG henv hm;refine wH (wpIn_mono (hx B F f a w hF hr hR hG henv hm) ?_);rintro e a' w' ⟨o, f', ⟨hn, hq⟩, rfl, h1, h2, h3, h4⟩
 cases he : o.e with
 | normal => exact ⟨o, f', hq, by rw [he], h1, h2, h3, h4⟩
 | exit id => exact ⟨o, f', hq, by rw [he], h1, h2, h3, h4⟩
 | goto l => exact absurd he (hn l)
 | ret => exact ⟨o, f', hq, by rw [he], h1, h2, h3, h4⟩
theorem Holds.loop {x : Code} {Q : Out -> Prop} (I : Nat -> Env -> IH -> Prop)
 (hx : ∀ n env H, I n env H -> Holds P G rd x env H fun o => match o.e with
   | .normal => ∃ m, m < n ∧ I m o.env o.H
   | _ => Q o) {n : Nat} {env : Env} {H : IH} (h : I n env H) : Holds P G rd (.loop x) env H Q := by
 intro B F f a w hF hr hR hG henv hm
 let J : Act -> World -> Nat -> Prop := fun a1 w1 m => ∃ env1 H1 f1, I m env1 H1 ∧ Rel P f1 H1 w1 ∧ Grow f H w f1 H1 w1 ∧ qB P f1 env1 a1.tmps.toList ∧ Marks B f1 w1 a1.defers
 refine wpIn_loop (fun a1 w1 => ∃ m, J a1 w1 m) (fun a1 w1 => least (J a1 w1)) ⟨n, env, H, f, h, hR, .refl _ _ _, henv, hm⟩ ?_;intro a1 w1 hI;obtain ⟨⟨env1, H1, f1, hi, r1, g1, v1, m1⟩, hmin⟩ := dI hI;generalize hm0 : least (J a1 w1) = m at *;refine wpIn_mono (hx m env1 H1 hi B F f1 a1 w1 hF hr r1 (hG.mono g1.le) v1 m1) ?_;rintro e a2 w2 ⟨o, f2, hq, rfl, k1, k2, k3, k4⟩
 cases he : o.e with
 | normal =>
   rw [he] at hq;obtain ⟨m', hlt, hi'⟩ := hq
   have hJ : J a2 w2 m' := ⟨o.env, o.H, f2, hi', k1, g1.trans k2, k3, k4⟩
   exact ⟨⟨m', hJ⟩, by have := (dI ⟨m', hJ⟩).2 m' hJ; show least (J a2 w2) < _; omega⟩
 | exit id => rw [he] at hq; exact ⟨o, f2, hq, by rw [he], k1, g1.trans k2, k3, k4⟩
 | goto l => rw [he] at hq; exact ⟨o, f2, hq, by rw [he], k1, g1.trans k2, k3, k4⟩
 | ret => rw [he] at hq; exact ⟨o, f2, hq, by rw [he], k1, g1.trans k2, k3, k4⟩
theorem Setup.region (s : Setup P good nat G) (n : Nat) {id : Nat} {ops : Array Oper} {env env1 : Env} {H H1 : IH} {Q : Out -> Prop} (hok : jB G ops = true) (h : qRS P (iex P good nat n) nat ops ops.toList env H = .ret (env1, H1))
 (hq : Q ⟨.normal, env1, H1⟩) : Holds P G rd (.region id ops false) env H Q := by
 refine s.run (n + 1) (by simp [codeOk, hok]) ?_;have e : iex P good nat (n + 1) (.code (.region id ops false) env) H = (qRS P (iex P good nat n) nat ops ops.toList env H).bind fun r => .ret ⟨.normal, r.1, r.2⟩ := rfl
 rw [e, h];exact hq
theorem Setup.draw (s : Setup P good nat G) (n : Nat) {id : Nat} {ops : Array Oper} {env env1 : Env} {H H1 : IH} {Q : Out -> Prop} (hok : jB G ops = true) (hd : wR ops = true) (h : qDE P (iex P good nat n) nat ops env H = some (env1, H1))
 (hq : Q ⟨.normal, env1, H1⟩) : Holds P G rd (.region id ops true) env H Q := by
 refine s.run (n + 1) (by simp [codeOk, hok, hd]) ?_;have e : iex P good nat (n + 1) (.code (.region id ops true) env) H = tZ (qDE P (iex P good nat n) nat ops env H) := rfl;rw [e, h];exact hq
theorem Setup.plain (s : Setup P good nat G) {g : FuncId} {fn : Func} {c : Code} (k : List Value -> IH -> Option Value) (hfn : P.funcs[g]? = some fn) (hb : fn.body = some c)
 (hk : ∀ args H v, k args H = some v -> zO v = true ∧ Holds P G false c (args ++ List.replicate (fn.ntmps - args.length) undef) H fun o => (o.e = .normal ∨ o.e = .ret) ∧ yC P fn o.env o.H = some v ∧ Old H o.H) : Setup P good (addNat nat g k) G := by
 refine ⟨s.mix, qD3 s.ext, ?_, s.good⟩;intro x y h args args' H f w Q hR hG ha hq;unfold addNat at h
 cases hbx : Nat.beq x g with
 | false => rw [hbx] at h; exact s.spec x y h args args' H f w Q hR hG ha hq
 | true =>
   rw [hbx] at h;have hx : x = g := Nat.eq_of_beq_eq_true hbx;subst hx;cases h;unfold ofK at hq;split at hq
   ·rename_i v hv;obtain ⟨hp, hh⟩ := hk args H v hv;have := pM (Q := fun r => r.1 = v ∧ Old H r.2) hfn hb hR hG ha (hh.mono fun o ho => ⟨ho.1, v, ho.2.1, rfl, ho.2.2⟩);refine CallsIn.mono this ?_;rintro e w' ⟨v', r, f', rfl, ⟨rfl, hold⟩, k1, k2, k3⟩;obtain ⟨d1, d2⟩ := hR.drop k1 k2 fun b o hb ho => by rw [hold.get b hb]; exact ho
    exact ⟨v', (r.1, H), f, rfl, hq, d1, d2, by rw [k3.plain hp]; exact .base r.1 hp⟩
   ·exact hq.elim
end Go.Idl
namespace Go.Idl
variable {P : Program} {good : FuncId -> Bool} {nat : yU} {G : Nat -> Bool} {rd : Bool}
theorem Rel.same {f : Inj} {H : IH} {w w' : World} (h : Rel P f H w) (hs : w.heap.size <= w'.heap.size) (hw : ∀ r, r < w.heap.size -> w'.heap[r]? = w.heap[r]?) (hout : w'.os = w.os ∧ w'.output = w.output ∧ w'.tape = w.tape) : Rel P f H w' ∧ Grow f H w f H w' :=
 ⟨⟨h.dom, h.fresh, fun b e hb => Nat.lt_of_lt_of_le (h.bound b e hb) hs, fun b e o hb ho => by rw [hw _ (h.bound b e hb)]; exact h.obj b e o hb ho, h.sep, h.rosame⟩,
   ⟨Nat.le_refl _, fun _ _ h => h, f.le_refl, hs, fun r hr ho => ⟨ho, hw r hr⟩, fun _ _ h => h, hout⟩⟩
theorem Setup.addC (s : Setup P good nat G) {g : FuncId} (k : List Value -> IH -> Option Value)
 (hk : ∀ args H v, k args H = some v -> ∀ (args' : List Value) (f : Inj) (w : World), Rel P f H w -> aQ G f -> qB P f args args' -> CallsIn Fence.wide 0 P g args'.toArray w (Comes P f H w fun r => r = (v, H))) : Setup P good (addNat nat g k) G := by
 refine ⟨s.mix, qD3 s.ext, ?_, s.good⟩;intro x y h args args' H f w Q hR hG ha hq;unfold addNat at h
 cases hbx : Nat.beq x g with
 | false => rw [hbx] at h; exact s.spec x y h args args' H f w Q hR hG ha hq
 | true =>
   rw [hbx] at h;have hx : x = g := Nat.eq_of_beq_eq_true hbx;subst hx;cases h;unfold ofK at hq;split at hq
   ·rename_i v hv;refine CallsIn.mono (hk args H v hv args' f w hR hG ha) ?_;rintro e w' ⟨v', r, f', rfl, rfl, k1, k2, k3⟩;exact ⟨v', (v, H), f', rfl, hq, k1, k2, k3⟩
   ·exact hq.elim
def bI (n : Nat) : Inj := fun g => cond (Nat.blt g n) (some ⟨g, 0, 0, true⟩) none
def zL (n : Nat) : Nat -> Bool := fun g => Nat.blt g n
theorem kQ {n g : Nat} {e : Emb} (h : bI n g = some e) : g < n ∧ e = ⟨g, 0, 0, true⟩ := by
 unfold bI at h
 cases hb : Nat.blt g n with
 | false => rw [hb] at h; cases h
 | true => rw [hb] at h; cases h; exact ⟨Nat.le_of_ble_eq_true hb, rfl⟩
theorem sF (n : Nat) : aQ (zL n) (bI n) := by
 intro g hg;have hg' : Nat.blt g n = true := hg;rw [dF];exact ⟨⟨g, 0, 0, true⟩, by unfold bI; rw [hg']; rfl, rfl, rfl⟩
theorem qCO (n : Nat) {w : World} (h : n <= w.heap.size) : Rel P (bI n) (eO [] n) w := by
 have hnone : ∀ b, (eO [] n).get b = none := fun _ => rfl
 refine ⟨fun b e hb => (kQ hb).1, fun b _ => hnone b, fun b e hb => ?_, fun b e o _ ho => ?_, fun b1 b2 e1 e2 o1 o2 _ _ _ g1 => ?_, fun b1 b2 e1 e2 h1 h2 _ => ?_⟩
 ·obtain ⟨h1, rfl⟩ := kQ hb; exact Nat.lt_of_lt_of_le h1 h
 ·rw [hnone] at ho; cases ho
 ·rw [hnone] at g1; cases g1
 ·rw [(kQ h1).2, (kQ h2).2]
theorem qYE {n : Nat} {g : FuncId} {fn : Func} {c : Code} {v : Value} (hv : zO v = true) (hfn : P.funcs[g]? = some fn) (hb : fn.body = some c)
 (h : Holds P (zL n) false c (List.replicate fn.ntmps undef) (eO [] n) fun o => (o.e = .normal ∨ o.e = .ret) ∧ yC P fn o.env o.H = some v)
 {H : IH} {f : Inj} {w : World} (hR : Rel P f H w) (hG : aQ (zL n) f) : CallsIn Fence.wide 0 P g #[] w (Comes P f H w fun r => r = (v, H)) := by
 have hn : n <= w.heap.size := by
  cases n with
  | zero => exact Nat.zero_le _
  | succ n =>
    have hg : zL (n + 1) n = true := Nat.ble_eq_true_of_le (Nat.le_refl _);obtain ⟨e, h1, h2, _⟩ := dF.1 (hG n hg);have := hR.bound n e h1;omega
 have h0 := pM (P := P) (G := zL n) (args := []) (args' := []) (H := eO [] n) (f := bI n) (w := w) (Q := fun r => r.1 = v) hfn hb (qCO n hn) (sF n) .nil
  (by
    have e1 : ([] ++ List.replicate (fn.ntmps - ([] : List Value).length) undef : List Value) = List.replicate fn.ntmps undef := by simp
    rw [e1]
    exact h.mono fun o ho => ⟨ho.1, v, ho.2, rfl⟩)
 refine CallsIn.mono h0 ?_;rintro e w' ⟨v', r, f', rfl, rfl, k1, k2, k3⟩;obtain ⟨d1, d2⟩ := hR.same k2.size (fun r hr => (k2.keep r hr fun ⟨b, e, hb, _, hro⟩ => by rw [(kQ hb).2] at hro; cases hro).2) k2.out;exact ⟨v', (r.1, H), f, rfl, rfl, d1, d2, by rw [k3.plain hv]; exact .base r.1 hv⟩
theorem Setup.step (s : Setup P good nat G) (n : Nat) {c x y : Code} {env env1 : Env} {H : IH} {l : List (Nat × Obj)} {m : Nat} {Q : Out -> Prop} (hc : c = .seq x y) (hok : codeOk G rd x = true)
 (hp : xB (iex P good nat n (.code x env) H) env1 l m = true) (hy : Holds P G rd y env1 (eO l m) Q) : Holds P G rd c env H Q := by
 rw [hc];exact .seq (s.piece n hok hp) hy
noncomputable def qWU (P : Program) (fn : Func) (o : Out) (v : Value) : Bool :=
 match yC P fn o.env o.H with
 | some u => veq u v
 | none => false
noncomputable def qW1 (P : Program) (fn : Func) (t : T Out) (v : Value) : Bool :=
 match t with
 | .ret o => (match o.e with
   | .normal => qWU P fn o v
   | .ret => qWU P fn o v
   | _ => false)
 | _ => false
theorem qNU {fn : Func} {o : Out} {v : Value} (h : qWU P fn o v = true) : yC P fn o.env o.H = some v := by
 unfold qWU at h;split at h
 ·rename_i u hu; rw [hu, gW h]
 ·cases h
theorem qLV {fn : Func} {t : T Out} {v : Value} (h : qW1 P fn t v = true) : t.holds fun o => (o.e = .normal ∨ o.e = .ret) ∧ yC P fn o.env o.H = some v := by
 unfold qW1 at h;split at h
 ·rename_i o;split at h
  ·rename_i he; exact ⟨.inl he, qNU h⟩
  ·rename_i he; exact ⟨.inr he, qNU h⟩
  ·cases h
 ·cases h
theorem Setup.last (s : Setup P good nat G) (n : Nat) {c : Code} {env : Env} {H : IH} {fn : Func} {v : Value} (hok : codeOk G rd c = true) (h : qW1 P fn (iex P good nat n (.code c env) H) v = true) :
 Holds P G rd c env H fun o => (o.e = .normal ∨ o.e = .ret) ∧ yC P fn o.env o.H = some v :=
 s.run n hok (qLV h)
def qI : Nat -> Code -> Code
 | 0, c => c
 | n+1, .seq _ b => qI n b
 | _, c => c
def zB : Code -> Code
 | .seq a _ => a
 | c => c
noncomputable def yN (n : Nat) (l : List (Nat × Value)) : Env := l.foldr (fun p e => xU e p.1 p.2) (List.replicate n unk)
noncomputable def q5I (P : Program) (G : Nat -> Bool) (f : Nat) : Bool :=
 match P.funcs[f]? with
 | some fn => (match fn.body with
   | some c => codeOk G false c
   | none => true)
 | none => true
noncomputable def qBS (P : Program) (G : Nat -> Bool) : Nat -> Nat -> Bool
 | _, 0 => true
 | a, n + 1 => cond (q5I P G a) (qBS P G (a + 1) n) false
theorem bD : ∀ (n a f : Nat), qBS P G a n = true -> a <= f -> f < a + n -> q5I P G f = true
 | 0, a, f, _, h1, h2 => by omega
 | n + 1, a, f, h, h1, h2 => by
   unfold qBS at h
   cases ha : q5I P G a with
   | false => rw [ha] at h; cases h
   | true =>
     rw [ha] at h;by_cases e : a = f
     ·rw [<- e]; exact ha
     ·exact bD n (a + 1) f h (by omega) (by omega)
theorem qYR (h : ∀ f, f < P.funcs.size -> q5I P G f = true) : qRZ P good G := by
 intro f fn c _ hfn hb;have := h f (Array.getElem?_eq_some_iff.1 hfn).1;unfold q5I at this;rw [hfn] at this;simp only [hb] at this;exact this
end Go.Idl
namespace Go.Idl
variable {P : Program} {good : FuncId -> Bool} {nat : yU} {rd : Bool}
theorem yK {α : Type} (a : α) (l : List α) : zM (a :: l) 0 = some a := Eq.trans rfl rfl
theorem yJ {α : Type} (a : α) (l : List α) (n : Nat) : zM (a :: l) (n + 1) = zM l n := Eq.trans rfl rfl
theorem j5 {α : Type} (a b : α) (l : List α) : xU (a :: l) 0 b = b :: l := Eq.trans rfl rfl
theorem vM {α : Type} (a b : α) (l : List α) (n : Nat) : xU (a :: l) (n + 1) b = a :: xU l n b := Eq.trans rfl rfl
theorem wW (env : Env) (t : Tmp) : env.val (.tmp t) = (zM env t).getD undef := Eq.trans rfl rfl
theorem vE (env : Env) (v : Value) : env.val (.const v) = v := Eq.trans rfl rfl
theorem uP (env : Env) (f : FuncId) : env.val (.func f) = .func (.func f) #[] #[] := rfl
theorem vH (env : Env) (t : Tmp) (v : Value) : env.putD (some t) v = xU env t v := Eq.trans rfl rfl
theorem vC (env : Env) (v : Value) : env.putD none v = env := Eq.trans rfl rfl
theorem uZ {run : Job -> IH -> T Out} {v : Value} {H : IH} : qCQ run nat (some (.val v H)) = .ret (v, H) := Eq.trans rfl rfl
theorem kS {run : Job -> IH -> T Out} {g : FuncId} {args : List Value} {H : IH} : qCQ run nat (some (.enter g args H)) = yI run nat g args H := Eq.trans rfl rfl
section
variable {o : Oper} {t : TypeId} {k : IntKind} {a b : Int} {env : Env} {H : IH}
theorem aD {op : BinOp} {v : Value} (h : mE op k a b = some v) : zN P o op t (.int k a) (.int k b) env H = some (.val v H) := by
 unfold zN intBin2 asI;simp only [qSE, cond_true, h]
theorem bO : zN P o .lss t (.int k a) (.int k b) env H = some (.val (.bool (decide (a < b))) H) := aD rfl
theorem bQ : zN P o .leq t (.int k a) (.int k b) env H = some (.val (.bool (decide (a <= b))) H) := aD rfl
theorem bL : zN P o .gtr t (.int k a) (.int k b) env H = some (.val (.bool (decide (b < a))) H) := aD rfl
theorem bR : zN P o .geq t (.int k a) (.int k b) env H = some (.val (.bool (decide (b <= a))) H) := aD rfl
theorem bF : zN P o .eql t (.int k a) (.int k b) env H = some (.val (.bool (a == b)) H) := aD rfl
theorem bK : zN P o .neq t (.int k a) (.int k b) env H = some (.val (.bool (a != b)) H) := aD rfl
theorem bW : zN P o .add t (.int k a) (.int k b) env H = some (.val (.int k (k.wrap (a + b))) H) := aD rfl
theorem aT : zN P o .sub t (.int k a) (.int k b) env H = some (.val (.int k (k.wrap (a - b))) H) := aD rfl
theorem j4 {c : Bool} {x y : Value} : qHS (.bool c) x y H = some (.val (cond c x y) H) := rfl
end
theorem aA {t e : TypeId} {b o len cap : Nat} {sp : Option TypeId} {k : IntKind} {i : Int} (ht : P.underlying t = some (.slice e)) (hs : szT P e = some 1) (h0 : 0 <= i) (hi : i < (len : Int)) :
 xE P t (.slice (some ⟨b, o, sp⟩) len cap) (.int k i) = some (.pointer (some ⟨b, o + i.toNat, none⟩)) := by
 unfold xE;simp only [ht, hs];rw [if_pos (by simp [h0, hi]), Nat.mul_one]
theorem qFT {t : TypeId} {b i : Nat} {H : IH} {v : Value} (ht : qKY P t = some false) (h : H.load b i = some v) : yQ P t (.pointer (some ⟨b, i, none⟩)) H = some v := by
 unfold yQ;simp only [ht, h]
noncomputable def enters (P : Program) (g : FuncId) : Bool := match P.funcs[g]? with
 | some fn => fn.body.isSome && (fn.name != "runtime.NumGoroutine")
 | none => false
theorem qC4 {o : Oper} {f : Operand} {args : Array Operand} {ts : Array TypeId} {env : Env} {H : IH} {g : FuncId} {first captured : Array Value} (hf : env.val f = .func (.func g) first captured) (he : enters P g = true) :
 qU P o ⟨.value f, args, ts⟩ env H = some (.enter g (qFV first.toList (qFV (xP env.val args.toList) captured.toList)) H) := by
 have : vG P ⟨.value f, args, ts⟩ env H = some (.enter g (qFV first.toList (qFV (xP env.val args.toList) captured.toList)) H) := by
  unfold enters at he;unfold vG;simp only [hf];split at he
  ·rename_i fn hfn;simp only [Bool.and_eq_true] at he;simp only [hfn, he.1, he.2, if_true]
  ·cases he
 unfold qU;rw [this]
end Go.Idl
namespace Go.Idl
variable {P : Program} {good : FuncId -> Bool} {nat : yU} {G : Nat -> Bool} {rd : Bool}
theorem Setup.regSeq (s : Setup P good nat G) (n : Nat) {id : Nat} {ops : Array Oper} {y : Code} {env env1 : Env} {H H1 : IH} {Q : Out -> Prop} (hok : jB G ops = true) (h : qRS P (iex P good nat n) nat ops ops.toList env H = .ret (env1, H1))
 (hy : Holds P G rd y env1 H1 Q) : Holds P G rd (.seq (.region id ops false) y) env H Q :=
 Holds.seqN (Q1 := fun e h => e = env1 ∧ h = H1) (s.region n hok h ⟨rfl, rfl, rfl⟩) fun e h ⟨h1, h2⟩ => by rw [h1, h2]; exact hy
noncomputable def qTY (w : Bool) : Option Value -> Option Bool
 | some v => qVE w v
 | none => none
noncomputable def qIW (w : Bool) (env : Env) : Option Tmp -> Option Bool
 | some t => qTY w (zM env t)
 | none => some false
theorem qPZ {ops : Array Oper} {d : Option Tmp} {op : Op} {ty : TypeId} {p : String} {a : Array Edge} {env : Env} {j : Nat} {w : Bool} :
 kC ops ⟨d, op, ty, p, a, some (j, w)⟩ env = qIW w env ((ops[j]?).bind (·.dst)) := by
 unfold kC qIW;simp only;split
 ·rename_i t ht; simp only [ht]; rfl
 ·rename_i ht; simp only [ht]
theorem kG {w : Bool} {env : Env} {t : Tmp} : qIW w env (some t) = qTY w (zM env t) := rfl
theorem kR {w b : Bool} : qTY w (some (.bool b)) = some (b == w) := rfl
theorem xH {w : Bool} : qTY w (some undef) = some false := rfl
theorem qJL {o : Oper} {g : FuncId} {args : Array Operand} {ts : Array TypeId} {env : Env} {H : IH} (he : enters P g = true) :
 qU P o ⟨.value (.func g), args, ts⟩ env H = some (.enter g (xP env.val args.toList) H) := by
 rw [qC4 (g := g) (first := #[]) (captured := #[]) rfl he];simp [aS]
theorem uW {α β : Type} (g : α -> β) : xP g [] = [] := rfl
theorem jY {α β : Type} (g : α -> β) (a : α) (l : List α) : xP g (a :: l) = g a :: xP g l := rfl
theorem qZ0 {o : Oper} {x : Operand} {t : TypeId} {env : Env} {H : IH} : qU P o ⟨.builtin .len, #[x], #[t]⟩ env H = (match bJ P #[t] [env.val x] H with
 | some r => some r
 | none => xW P o env H) := rfl
theorem qEC {t e : TypeId} {a : Option Addr} {n c : Nat} {H : IH} (ht : P.underlying t = some (.slice e)) : bJ P #[t] [.slice a n c] H = some (.val (goInt n) H) := by
 unfold bJ;simp [ht]
theorem qOV {fn : Func} {t : Tmp} {env : Env} {H : IH} {v : Value} (hr : fn.results = #[.tmp t]) (h : zM env t = some v) : yC P fn env H = some v := by
 unfold yC;rw [hr];simp [qJS, qR6, h, one]
end Go.Idl
namespace Go.Idl
theorem rY : (true == true) = true := rfl
theorem sG : (true == false) = false := rfl
theorem sS : (false == true) = false := rfl
theorem sM : (false == false) = true := rfl
end Go.Idl
namespace Go.Idl
variable {P : Program} {good : FuncId -> Bool} {nat : yU} {G : Nat -> Bool} {rd : Bool}
noncomputable def qBB (ds : List (Option Tmp)) (j : Nat) : Option Tmp := match ds[j]? with
 | some d => d
 | none => none
theorem kH {d : Option Tmp} {ds : List (Option Tmp)} : qBB (d :: ds) 0 = d := rfl
theorem kJ {d : Option Tmp} {ds : List (Option Tmp)} {j : Nat} : qBB (d :: ds) (j + 1) = qBB ds j := by simp [qBB]
noncomputable def dW (ds : List (Option Tmp)) (o : Oper) (env : Env) : Option Bool := match o.guard with
 | none => some true
 | some (j, w) => qIW w env (qBB ds j)
theorem mQ (ops : Array Oper) (o : Oper) (env : Env) : kC ops o env = dW (ops.toList.map (·.dst)) o env := by
 obtain ⟨d, op, ty, p, a, g⟩ := o
 cases g with
 | none => rfl
 | some jw =>
   obtain ⟨j, w⟩ := jw;rw [qPZ];show qIW w env _ = qIW w env _
   congr 1
   unfold qBB;rw [List.getElem?_map];have : ops.toList[j]? = ops[j]? := by simp
   rw [this];cases ops[j]? <;> rfl
noncomputable def aM (P : Program) (run : Job -> IH -> T Out) (nat : yU) (ds : List (Option Tmp)) : List Oper -> Env -> IH -> T (Env × IH)
 | [], env, H => .ret (env, H)
 | o :: l, env, H => kL (dW ds o env) ((aH P run nat o env H).bind fun r => aM P run nat ds l (env.putD o.dst r.1) r.2) (aM P run nat ds l (env.putD o.dst undef) H) .fail
theorem o7 {run : Job -> IH -> T Out} (ops : Array Oper) : ∀ (l : List Oper) (env : Env) (H : IH), qRS P run nat ops l env H = aM P run nat (ops.toList.map (·.dst)) l env H
 | [], env, H => rfl
 | o :: l, env, H => by
   rw [qB0];unfold aM;rw [mQ, o7 ops l]
   congr 2
   funext r
   exact o7 ops l _ _
theorem kI {ds : List (Option Tmp)} {d : Option Tmp} {op : Op} {ty : TypeId} {p : String} {a : Array Edge} {env : Env} : dW ds ⟨d, op, ty, p, a, none⟩ env = some true := rfl
theorem kF {ds : List (Option Tmp)} {d : Option Tmp} {op : Op} {ty : TypeId} {p : String} {a : Array Edge} {env : Env} {j : Nat} {w : Bool} : dW ds ⟨d, op, ty, p, a, some (j, w)⟩ env = qIW w env (qBB ds j) := rfl
theorem uG {run : Job -> IH -> T Out} {ds : List (Option Tmp)} {env : Env} {H : IH} : aM P run nat ds [] env H = .ret (env, H) := Eq.trans rfl rfl
noncomputable def q2W (P : Program) (run : Job -> IH -> T Out) (nat : yU) (ds : List (Option Tmp)) (d : Option Tmp) (l : List Oper) (env : Env) (t : T (Value × IH)) : T (Env × IH) := t.bind fun r => aM P run nat ds l (env.putD d r.1) r.2
noncomputable def goE (P : Program) (run : Job -> IH -> T Out) (nat : yU) (ds : List (Option Tmp)) (o : Oper) (l : List Oper) (env : Env) (H : IH) (c : Option Bool) : T (Env × IH) :=
 kL c (q2W P run nat ds o.dst l env (aH P run nat o env H)) (aM P run nat ds l (env.putD o.dst undef) H) .fail
theorem kX {run : Job -> IH -> T Out} {ds : List (Option Tmp)} {o : Oper} {l : List Oper} {env : Env} {H : IH} : aM P run nat ds (o :: l) env H = goE P run nat ds o l env H (dW ds o env) := Eq.trans rfl rfl
theorem uE {run : Job -> IH -> T Out} {ds : List (Option Tmp)} {o : Oper} {l : List Oper} {env : Env} {H : IH} : goE P run nat ds o l env H (some true) = q2W P run nat ds o.dst l env (aH P run nat o env H) := Eq.trans rfl rfl
theorem vI {run : Job -> IH -> T Out} {ds : List (Option Tmp)} {o : Oper} {l : List Oper} {env : Env} {H : IH} : goE P run nat ds o l env H (some false) = aM P run nat ds l (env.putD o.dst undef) H := Eq.trans rfl rfl
theorem vJ {run : Job -> IH -> T Out} {ds : List (Option Tmp)} {d : Option Tmp} {l : List Oper} {env : Env} {v : Value} {H : IH} : q2W P run nat ds d l env (.ret (v, H)) = aM P run nat ds l (env.putD d v) H := Eq.trans rfl rfl
theorem Setup.regE (s : Setup P good nat G) (n : Nat) {id : Nat} {ops : Array Oper} {y : Code} {env env1 : Env} {H H1 : IH} {Q : Out -> Prop} {ds : List (Option Tmp)} (hok : jB G ops = true) (hds : ops.toList.map (·.dst) = ds)
 (h : aM P (iex P good nat n) nat ds ops.toList env H = .ret (env1, H1)) (hy : Holds P G rd y env1 H1 Q) : Holds P G rd (.seq (.region id ops false) y) env H Q :=
 s.regSeq n hok (by rw [o7, hds]; exact h) hy
theorem Setup.regZ (s : Setup P good nat G) (n : Nat) {id : Nat} {ops : Array Oper} {env env1 : Env} {H H1 : IH} {Q : Out -> Prop} {ds : List (Option Tmp)} (hok : jB G ops = true) (hds : ops.toList.map (·.dst) = ds)
 (h : aM P (iex P good nat n) nat ds ops.toList env H = .ret (env1, H1)) (hq : Q ⟨.normal, env1, H1⟩) : Holds P G rd (.region id ops false) env H Q :=
 s.region n hok (by rw [o7, hds]; exact h) hq
end Go.Idl
namespace Go.Idl
variable {P : Program} {good : FuncId -> Bool} {nat : yU} {G : Nat -> Bool} {rd : Bool}
end Go.Idl
namespace Go.Idl
end Go.Idl
namespace Go.Idl
variable {P : Program}
noncomputable def q2K (P : Program) (op : UnOp) (v : Value) (H : IH) : Option Step1 := xW P ⟨none, .unOp op 0 (.const v), 0, "", #[], none⟩ [] H
theorem sP {op : UnOp} {t : TypeId} {x : Operand} {d : Option Tmp} {ty : TypeId} {p : String} {a : Array Edge} {g : Option (Nat × Bool)} {env : Env} {H : IH} : xW P ⟨d, .unOp op t x, ty, p, a, g⟩ env H = q2K P op (env.val x) H := rfl
theorem sW {n : Int} {H : IH} : q2K P .neg (.int .i64 n) H = some (.val (.int .i64 (IntKind.i64.wrap (0 - n))) H) := rfl
theorem r9 {b : Bool} {H : IH} : q2K P .not (.bool b) H = some (.val (.bool !b) H) := rfl
end Go.Idl
namespace Go.Idl
variable {P : Program} {good : FuncId -> Bool} {nat : yU} {G : Nat -> Bool} {rd : Bool}
def qCP (nat : yU) : Prop := ∀ g k, nat g = some k -> ∀ args H r, k args H = .ret r -> r.2 = H
theorem qDU : qCP jD := by intro g k h; cases h
def calm (o : Oper) : Bool := match yA o with
 | .pure | .read | .call => true
 | _ => false
theorem qTQ (hp : qCP nat) {o : Oper} {env : Env} {H : IH} {r : Value × IH} (hc : calm o = true) (h : aH P (iex P good nat 0) nat o env H = .ret r) : r.2 = H := by
 have key : ∀ s, iop P o env H = some s -> (∃ v, s = .val v H) ∨ (∃ g args, s = .enter g args H) ∨ ∃ l args, s = .round l args H := by
  intro s hs;unfold calm at hc
  cases hcl : yA o with
  | pure => obtain ⟨v, h1, _⟩ := rX hcl H s hs; exact .inl ⟨v, h1⟩
  | read => exact .inl (qAW hcl hs)
  | call =>
    have : ∃ f args ts, o.op = .call ⟨.value f, args, ts⟩ := by
     unfold yA at hcl
     split at hcl <;> (try cases hcl)
     ·split at hcl <;> cases hcl
     ·rename_i c hoc
      split at hcl <;> (try cases hcl)
      rename_i f hf;obtain ⟨callee, args, ts⟩ := c;cases hf;exact ⟨f, args, ts, hoc⟩
    obtain ⟨f, args, ts, ho⟩ := this;unfold iop at hs;rw [ho] at hs;simp only [qU] at hs;split at hs
    ·rename_i q hq;cases hs;unfold vG at hq;simp only at hq;split at hq
     ·split at hq
      ·split at hq
       ·split at hq
        ·cases hq; exact .inr (.inl ⟨_, _, rfl⟩)
        ·cases hq
       ·split at hq
        ·split at hq
         ·cases hq; exact .inl ⟨_, rfl⟩
         ·cases hq
        ·cases hq
      ·cases hq
     ·split at hq
      ·cases hq; exact .inr (.inr ⟨_, _, rfl⟩)
      ·cases hq
     ·cases hq
    ·obtain ⟨v, h1, _⟩ := Loose.dry o env H s hs; exact .inl ⟨v, h1⟩
  | alloc => rw [hcl] at hc; cases hc
  | fresh => rw [hcl] at hc; cases hc
  | write => rw [hcl] at hc; cases hc
 unfold aH at h
 cases hs : iop P o env H with
 | none => rw [hs] at h; cases h
 | some s =>
   rw [hs] at h
   rcases key s hs with ⟨v, rfl⟩ | ⟨g, args, rfl⟩ | ⟨l, args, rfl⟩
   ·cases h; rfl
   ·have h' : yI (iex P good nat 0) nat g args H = .ret r := h;unfold yI at h';split at h'
    ·rename_i k hk; exact hp g k hk args H r h'
    ·cases h'
   ·cases h
structure DE (P : Program) (lo : List (Nat × Nat × Nat)) (l : List Oper) (i k : Nat) (env : Env) (H : IH) (eF : Env) (HF : IH) (hs : List IH) (rs : List Rec) : Prop where
 heaps : ∀ m, m <= fE (l.take k) -> (H :: hs)[m]? = some H
 recs : ∀ r ∈ rs, ∃ j p, r.i = i + j ∧ l[j]? = some r.o ∧ bS r.i lo = some p ∧ (j < k -> yA r.o = .read -> iop P r.o r.env H = some (.val r.v H)) ∧
  (∀ d, r.o.dst = some d -> d < env.length -> ¬ writes l (fun k' => j < k') d -> eF.at d = r.v)
theorem q2G (hp : qCP nat) {ops : Array Oper} {lo : List (Nat × Nat × Nat)} : ∀ (l : List Oper) (i k : Nat) (env : Env) (H : IH) (eF : Env) (HF : IH), (∀ o ∈ l, qG o = false) -> (∀ o ∈ l.take k, calm o = true) ->
 aM P (iex P good nat 0) nat (ops.toList.map (·.dst)) l env H = .ret (eF, HF) -> ∃ hs rs, qHQ P (iex P good nat 0) nat ops lo l i env H = some (eF, HF, hs, rs) ∧ DE P lo l i k env H eF HF hs rs
 | [], i, k, env, H, eF, HF, _, _, h => by
   have h' : (T.ret (env, H) : T (Env × IH)) = .ret (eF, HF) := h;cases h';refine ⟨[], [], rfl, ⟨fun m hm => ?_, fun r hr => by cases hr⟩⟩;simp [fE] at hm;subst hm; rfl
 | o :: l, i, k, env, H, eF, HF, ha, hc, h => by
   have hao := ha o List.mem_cons_self;rw [rJ, hao];simp only [cond_false];rw [kX, <- mQ] at h;unfold goE kL at h
   have hcl : ∀ o' ∈ l.take (k - 1), calm o' = true := by
    intro o' ho'
    cases k with
    | zero => simp at ho'
    | succ k => exact hc o' (by rw [List.take_succ_cons]; exact List.mem_cons_of_mem _ (by simpa using ho'))
   have hal : ∀ o' ∈ l, qG o' = false := fun o' ho' => ha o' (List.mem_cons_of_mem _ ho')
   have lift : ∀ (v : Value) (H' : IH) (hs : List IH) (rs rs' : List Rec), DE P lo l (i + 1) (k - 1) (env.putD o.dst v) H' eF HF hs rs -> (0 < k -> H' = H) ->
    (∀ r ∈ rs', r ∈ rs ∨ (r.i = i ∧ r.o = o ∧ r.env = env ∧ r.v = v ∧ (∃ p, bS i lo = some p) ∧ (0 < k -> yA o = .read -> iop P o env H = some (.val v H)) ∧ (∀ d, o.dst = some d -> d < env.length -> ¬ writes l (fun _ => True) d -> eF.at d = v))) ->
    DE P lo (o :: l) i k env H eF HF (oV (yA o).eff H' hs) rs' := by
    intro v H' hs rs rs' de hH hr;refine ⟨fun m hm => ?_, fun r hr' => ?_⟩
    ·cases k with
     | zero => simp [fE] at hm; subst hm; rfl
     | succ k =>
       have hH' := hH (by omega);subst hH';rw [List.take_succ_cons, oF] at hm;simp only [Nat.add_sub_cancel] at de;by_cases he : yG o = true
       ·have he' : (yA o).eff = true := he;rw [he']
        cases m with
        | zero => rfl
        | succ m =>
          rw [if_pos he] at hm;exact de.heaps m (by omega)
       ·have he' : (yA o).eff = false := by simpa [yG] using he
        rw [he'];rw [if_neg he] at hm;exact de.heaps m (by omega)
    ·rcases hr r hr' with h1 | ⟨h1, h2, h3, h4, ⟨p, h5⟩, h6, h7⟩
     ·obtain ⟨j, p, g1, g2, g3, g4, g5⟩ := de.recs r h1;refine ⟨j + 1, p, by omega, by simpa using g2, g3, fun hj hcl => ?_, fun d hd hl hn => g5 d hd (by rw [w9]; exact hl) ?_⟩
      ·have hH' := hH (by omega);rw [<- hH'];exact g4 (by omega) hcl
      ·rintro ⟨k', p', q1, q2, q3, q4⟩;exact hn ⟨k' + 1, p', by omega, by simpa using q2, q3, q4⟩
     ·refine ⟨0, p, by omega, by simp [h2], by rw [h1]; exact h5, fun hj hcl => ?_, fun d hd hl hn => ?_⟩
      ·rw [h2, h3, h4];exact h6 (by omega) (by rw [<- h2]; exact hcl)
      ·rw [h4];refine h7 d (by rw [<- h2]; exact hd) hl ?_;rintro ⟨k', p', _, q2, q3, q4⟩;exact hn ⟨k' + 1, p', by omega, by simpa using q2, q3, q4⟩
   split at h
   ·rename_i hw;rw [hw]
    cases ht : aH P (iex P good nat 0) nat o env H with
    | fail => rw [ht] at h; cases h
    | ch n k => rw [ht] at h; cases h
    | sp p k => rw [ht] at h; cases h
    | ret q =>
      rw [ht] at h;have h2 : aM P (iex P good nat 0) nat (ops.toList.map (·.dst)) l (env.putD o.dst q.1) q.2 = .ret (eF, HF) := h;obtain ⟨hs, rs, e1, e2⟩ := q2G hp l (i + 1) (k - 1) _ _ eF HF hal hcl h2;have htr := wU l _ _ _ _ _ _ _ e1;refine ⟨oV (yA o).eff q.2 hs, qQP (bS i lo) i o env q.1 rs, by simp only [kL, qV6, qXC, qX5, e1], lift q.1 q.2 hs rs _ e2 ?_ ?_⟩
      ·intro hk
       cases k with
       | zero => omega
       | succ k => exact qTQ hp (hc o (by rw [List.take_succ_cons]; exact List.mem_cons_self)) ht
      ·intro r hr;unfold qQP at hr;split at hr
       ·rename_i p hp';rcases List.mem_cons.1 hr with rfl | hr
        ·refine .inr ⟨rfl, rfl, rfl, rfl, ⟨p, hp'⟩, fun hk hrd => ?_, fun d hd hl hn => ?_⟩
         ·have hne : yG o = false := by unfold yG; rw [hrd]; rfl
          obtain ⟨g1, g2⟩ := qCH hne hao ht;exact g2
         ·rw [htr.keep d hn, hd, dN hl]
        ·exact .inl hr
       ·exact .inl hr
   ·rename_i hw;rw [hw];obtain ⟨hs, rs, e1, e2⟩ := q2G hp l (i + 1) (k - 1) _ _ eF HF hal hcl h;exact ⟨oV (yA o).eff H hs, rs, by simp only [kL, qVH, e1], lift undef H hs rs _ e2 (fun _ => rfl) fun r hr => .inl hr⟩
   ·cases h
def simple : Value -> Bool
 | .int _ _ => true
 | .bool _ => true
 | .slice _ _ _ => true
 | .pointer _ => true
 | .map _ => true
 | _ => false
theorem qQS {v : Value} (h : simple v = true) : veq v v = true := by
 cases v <;> first | cases h | skip
 case bool b => cases b <;> rfl
 case int k n => show (k == k && n == n) = true; simp
 case pointer a => show (a == a) = true; simp
 case map a => show (a == a) = true; simp
 case slice a l c => show (a == a && (l == l && c == c)) = true; simp
noncomputable def qHU (ops : Array Oper) (i : Nat) : Tmp := ((ops[i]?).bind (·.dst)).getD 0
def qE2 (lo : List (Nat × Nat × Nat)) (k n : Nat) : Bool := lo.all fun p => decide (p.1 < k) && decide (p.2.2 <= n)
theorem qJY {i : Nat} {p : Nat × Nat} : ∀ (l : List (Nat × Nat × Nat)), bS i l = some p -> (i, p) ∈ l
 | [], h => by cases h
 | a :: l, h => by
   have hdef : bS i (a :: l) = cond (Nat.beq a.1 i) (some a.2) (bS i l) := rfl;rw [hdef] at h
   cases hb : Nat.beq a.1 i with
   | true =>
     rw [hb] at h;cases h;have := Nat.eq_of_beq_eq_true hb;rw [<- this];exact List.mem_cons_self
   | false => rw [hb] at h; exact List.mem_cons_of_mem _ (qJY l h)
theorem qQY {ops : Array Oper} {i : Nat} {p : Nat × Nat} (h : (i, p) ∈ loose ops) {o : Oper} (ho : ops[i]? = some o) : yA o = .read := by
 unfold loose qGN at h;rw [List.mem_filterMap] at h;obtain ⟨⟨q, k⟩, hq, ha⟩ := h;simp only at ha;split at ha
 ·cases ha
 ·cases ha;obtain ⟨h1, h2⟩ := List.mem_filter.1 hq;have h3 : ops[i]? = some q := by have := mP.1 h1; simpa using this
  rw [ho] at h3;cases h3;simpa using h2
theorem qKF {lo hi : Nat} {r : Rec} : ∀ (hs : List IH) (m : Nat), (∀ k E, hs[k]? = some E -> lo <= m + k -> m + k <= hi -> fI r.v (iop P r.o r.env E) = true) -> y5 P lo hi r hs m = true
 | [], _, _ => rfl
 | h :: hs, m, hst => by
   have hdef : y5 P lo hi r (h :: hs) m = cond (Nat.ble lo m && Nat.ble m hi) (cond (fI r.v (iop P r.o r.env h)) (y5 P lo hi r hs (m + 1)) false) (y5 P lo hi r hs (m + 1)) := rfl;have ih : y5 P lo hi r hs (m + 1) = true := qKF hs (m + 1) fun k E hk h1 h2 => hst (k + 1) E (by simpa using hk) (by omega) (by omega)
   rw [hdef, ih]
   cases hc : (Nat.ble lo m && Nat.ble m hi) with
   | false => rfl
   | true =>
     simp only [Bool.and_eq_true] at hc;rw [hst 0 h rfl (Nat.le_of_ble_eq_true hc.1) (Nat.le_of_ble_eq_true hc.2)];rfl
theorem qDZ : ∀ (l : List Oper) (env : Env) (H : IH), (∀ o ∈ l, qG o = false) -> qA1 P l env H = some (env, H)
 | [], _, _, _ => rfl
 | o :: l, env, H, h => by
   unfold qA1;rw [h o List.mem_cons_self];exact qDZ l env H fun o' ho' => h o' (List.mem_cons_of_mem _ ho')
theorem qXU (hp : qCP nat) {ops : Array Oper} {env env1 : Env} {H H1 : IH} (k : Nat) (hd : wR ops = true) (ha : (ops.toList.all fun o => !qG o) = true) (hc : ((ops.toList.take k).all calm) = true)
 (hl : qE2 (loose ops) k (fE (ops.toList.take k)) = true) (hlen : ∀ p ∈ loose ops, qHU ops p.1 < env.length ∧ ((ops[p.1]?).bind (·.dst)).isSome = true) (hs : ∀ p ∈ loose ops, simple (env1.at (qHU ops p.1)) = true)
 (h : aM P (iex P good nat 0) nat (ops.toList.map (·.dst)) ops.toList env H = .ret (env1, H1)) : qDE P (iex P good nat 0) nat ops env H = some (env1, H1) := by
 have ha' : ∀ o ∈ ops.toList, qG o = false := fun o ho => by have := List.all_eq_true.1 ha o ho; simpa using this
 obtain ⟨hs', rs, e1, e2⟩ := q2G (lo := loose ops) hp ops.toList 0 k env H env1 H1 ha' (fun o ho => List.all_eq_true.1 hc o ho) h;unfold qDE;rw [qDZ _ _ _ ha'];simp only [e1, qGT]
 have hal : sQ ops = [] := by
  unfold sQ qGY
  have : (ops.toList.zipIdx.filter fun p => qG p.1) = [] := by
   rw [List.filter_eq_nil_iff];intro p hp';have h1 : ops.toList[p.2]? = some p.1 := mP.1 (show (p.1, p.2) ∈ ops.toList.zipIdx from hp');rw [ha' p.1 (List.mem_of_getElem? h1)];simp
  rw [this]; rfl
 have hst : kU (dU P (loose ops) (H :: hs')) rs = true := by
  rw [yD];intro r hr;obtain ⟨j, p, h1, h2, h3, h4, h5⟩ := e2.recs r hr;have hm := qJY _ h3;have hle := List.all_eq_true.1 hl _ hm;simp only [Bool.and_eq_true, decide_eq_true_eq] at hle;have hj : r.i = j := by omega
  have hoj : ops[r.i]? = some r.o := by rw [hj]; simpa using h2
  have hrd := qQY hm hoj;have hv := h4 (by omega) hrd;unfold dU;simp only [h3];refine qKF _ 0 fun q E hq hq1 hq2 => ?_
  have hE := e2.heaps q (by omega);rw [hq] at hE;cases hE;rw [hv];have hsm := hs _ hm;obtain ⟨hlt, hsome⟩ := hlen _ hm;simp only [hoj, Option.bind_some] at hsome;obtain ⟨d, hdd⟩ := Option.isSome_iff_exists.1 hsome;have hdst : qHU ops r.i = d := by unfold qHU; rw [hoj]; simp [hdd]
  simp only [hdst] at hlt hsm;have hst := qFX hd
  have heq := h5 d hdd hlt (by
   rintro ⟨k', p', q1, q2, q3, q4⟩
   exact hst.dst j k' r.o p' d (by omega) (by rw [<- hj]; exact hoj) (by simpa using q2) hdd q4)
  show veq r.v r.v = true;rw [<- heq];exact qQS hsm
 rw [hst, hal];rfl
theorem Setup.drawE (s : Setup P good nat G) (hp : qCP nat) (k : Nat) {id : Nat} {ops : Array Oper} {y : Code} {env env1 : Env} {H H1 : IH} {Q : Out -> Prop} {ds : List (Option Tmp)} {lo : List (Nat × Nat × Nat)} (hok : jB G ops = true) (hd : wR ops = true)
 (ha : (ops.toList.all fun o => !qG o) = true) (hc : ((ops.toList.take k).all calm) = true) (hlo : loose ops = lo) (hl : qE2 lo k (fE (ops.toList.take k)) = true)
 (hlen : lo.all (fun p => ((ops[p.1]?).bind (·.dst)).isSome) = true) (hds : ops.toList.map (·.dst) = ds)
 (h : aM P (iex P good nat 0) nat ds ops.toList env H = .ret (env1, H1)) (hs : (lo.all fun p => Nat.blt (qHU ops p.1) env.length && simple (env1.at (qHU ops p.1))) = true) (hy : Holds P G rd y env1 H1 Q) : Holds P G rd (.seq (.region id ops true) y) env H Q := by
 subst hds hlo
 have hs' : ∀ p ∈ loose ops, qHU ops p.1 < env.length ∧ simple (env1.at (qHU ops p.1)) = true := fun p hp' => by
  have := List.all_eq_true.1 hs p hp';simp only [Bool.and_eq_true] at this;exact ⟨Nat.le_of_ble_eq_true this.1, this.2⟩
 have hi := qXU hp k hd ha hc hl (fun p hp' => ⟨(hs' p hp').1, List.all_eq_true.1 hlen p hp'⟩) (fun p hp' => (hs' p hp').2) h;exact Holds.seqN (Q1 := fun e h => e = env1 ∧ h = H1) (s.draw 0 hok hd hi ⟨rfl, rfl, rfl⟩) fun e h ⟨h1, h2⟩ => by rw [h1, h2]; exact hy
end Go.Idl
namespace Go.Idl
variable {P : Program} {good : FuncId -> Bool} {nat : yU} {G : Nat -> Bool} {rd : Bool}
end Go.Idl
namespace Go.Idl
end Go.Idl
namespace Go.Idl
variable {P : Program}
def rU (f : Inj) : Prop := ∀ b e, f b = some e -> e.ro = true
theorem rU.add {f : Inj} {b : Nat} {e : Emb} (h : rU f) (he : e.ro = true) : rU (f.add b e) := by
 intro x y hx;by_cases e1 : x = b
 ·subst e1; rw [Inj.add_same] at hx; cases hx; exact he
 ·rw [Inj.add_other e1] at hx; exact h x y hx
theorem Rel.addGhost {f : Inj} {H : IH} {w : World} (hR : Rel P f H w) (hro : rU f) (h0 : 0 < w.heap.size) : Rel P (f.add H.size ⟨0, 1, 0, true⟩) (H.push y8) w ∧ f.le (f.add H.size ⟨0, 1, 0, true⟩) := by
 have hnone : f H.size = none := o5 hR;have hle : f.le (f.add H.size ⟨0, 1, 0, true⟩) := Inj.le_add hnone;have hro' : rU (f.add H.size ⟨0, 1, 0, true⟩) := hro.add rfl;refine ⟨⟨?_, ?_, ?_, ?_, ?_, ?_⟩, hle⟩
 ·intro b e hb;by_cases e1 : b = H.size
  ·subst e1; simp
  ·rw [Inj.add_other e1] at hb; have := hR.dom b e hb; simp; omega
 ·intro b hb;simp only [IH.size_push] at hb;rw [IH.get_push, if_neg (by omega)];exact hR.fresh b (by omega)
 ·intro b e hb;by_cases e1 : b = H.size
  ·subst e1; rw [Inj.add_same] at hb; cases hb; exact h0
  ·rw [Inj.add_other e1] at hb; exact hR.bound b e hb
 ·intro b e o hb ho;by_cases e1 : b = H.size
  ·subst e1;rw [IH.get_push, if_pos rfl] at ho; cases ho;exact trivial
  ·rw [Inj.add_other e1] at hb;rw [IH.get_push, if_neg e1] at ho;exact (hR.obj b e o hb ho).mono hle
 ·intro b1 b2 e1 e2 o1 o2 _ h1 h2 _ _ _ _ _;exact ⟨hro' b1 e1 h1, hro' b2 e2 h2⟩
 ·intro b1 b2 e1 e2 h1 h2 _;rw [hro' b1 e1 h1, hro' b2 e2 h2]
theorem qQJ {w : World} {a : Addr} {v : Value} (h : w.cell? a = some v) : a.spot = none ∧ ∃ c el fz, w.heap[a.block]? = some (.cells c el fz) ∧ c[a.off]? = some v := by
 unfold World.cell? at h;split at h
 ·rename_i c el fz hc;split at h
  ·cases h
  ·rename_i hs;exact ⟨by simpa using hs, c, el, fz, hc, h⟩
 ·cases h
theorem qTD {w : World} {a : Addr} {v : Value} {c : Array Value} {el : TypeId} {fz : Nat × Nat} {i : Nat} (hb : w.heap[a.block]? = some (.cells c el fz)) (hs : a.spot = none) (h : w.cell? (a.add i) = some v) : c[a.off + i]? = some v := by
 unfold Addr.add at h;by_cases hi : i = 0
 ·subst hi;rw [if_pos rfl] at h;unfold World.cell? at h;rw [hb] at h;simpa [hs] using h
 ·rw [if_neg hi] at h;unfold World.cell? at h;simpa [hb] using h
theorem q4Y {f : Inj} {H : IH} {w : World} (hR : Rel P f H w) (hro : rU f) {a : Addr} {L C : Nat} (hLC : L <= C) (hC : 0 < C) (us : List Value) (hus : us.length = L) (V : Nat -> Value) (hcell : ∀ i, i < C -> w.cell? (a.add i) = some (V i))
 (hv : ∀ i u, us[i]? = some u -> VRel P f u (V i)) : ∃ el, Rel P (f.add H.size ⟨a.block, a.off, (match w.heap[a.block]? with | some (.cells c _ _) => c.size | _ => 0), true⟩) (H.push (.cells us.toArray el (0, 1))) w ∧
   f.le (f.add H.size ⟨a.block, a.off, (match w.heap[a.block]? with | some (.cells c _ _) => c.size | _ => 0), true⟩) ∧ a.spot = none := by
 have h0 := hcell 0 hC;have e0 : a.add 0 = a := by simp [Addr.add]
 rw [e0] at h0;obtain ⟨hs, c, el, fz, hb, hc0⟩ := qQJ h0
 have hsize : a.off + us.toArray.size <= c.size := by
  simp only [List.size_toArray, hus];by_cases hL : L = 0
  ·have := (Array.getElem?_eq_some_iff.1 hc0).1; omega
  ·have := (Array.getElem?_eq_some_iff.1 (qTD hb hs (hcell (L - 1) (by omega)))).1; omega
 have := hR.addRo (r := a.block) (s := a.off) hb (fun b e hbe _ => hro b e hbe) us.toArray el hsize fun i v hi => by
  have hi' : us[i]? = some v := by simpa using hi
  have hlt : i < L := by rw [<- hus]; exact (List.getElem?_eq_some_iff.1 hi').1
  exact ⟨V i, qTD hb hs (hcell i (by omega)), hv i v hi'⟩
 refine ⟨el, ?_, ?_, hs⟩
 ·simp only [hb]; exact this.1
 ·simp only [hb]; exact this.2
end Go.Idl
namespace Go.Idl
variable {P : Program}
end Go.Idl
namespace Go.Idl
variable {P : Program} {good : FuncId -> Bool} {nat : yU} {G : Nat -> Bool} {rd : Bool}
inductive WkL : List Value -> List Value -> Prop
 | nil : WkL [] []
 | same {v : Value} {l m : List Value} (h : WkL l m) : WkL (v :: l) (v :: m)
 | any {v : Value} {l m : List Value} (h : WkL l m) : WkL (v :: l) (unk :: m)
theorem WkL.refl : ∀ (l : List Value), WkL l l
 | [] => .nil
 | _ :: l => .same (WkL.refl l)
theorem WkL.rel {f : Inj} {l m : List Value} (h : WkL l m) : ∀ {x : List Value}, qB P f l x -> qB P f m x := by
 induction h with
 | nil => intro x hx; exact hx
 | same _ ih =>
   intro x hx;obtain ⟨v', x', rfl, h1, h2⟩ := hx.uncons;exact .cons h1 (ih h2)
 | any _ ih =>
   intro x hx;obtain ⟨v', x', rfl, h1, h2⟩ := hx.uncons;exact .cons (.any v') (ih h2)
theorem WkL.trans {a b c : List Value} (h : WkL a b) : WkL b c -> WkL a c := by
 induction h generalizing c with
 | nil => exact fun h => h
 | same _ ih =>
   intro k
   cases k with
   | same k => exact .same (ih k)
   | any k => exact .any (ih k)
 | any _ ih =>
   intro k
   cases k with
   | same k => exact .any (ih k)
   | any k => exact .any (ih k)
theorem Holds.pre {c : Code} {env env1 : Env} {H : IH} {Q : Out -> Prop} (hw : WkL env env1) (h : Holds P G rd c env1 H Q) : Holds P G rd c env H Q :=
 fun B F f a w hF hr hR hG henv hm => h B F f a w hF hr hR hG (hw.rel henv) hm
def Wk (R : Env -> IH -> Prop) : Env -> IH -> Prop := fun e h => ∃ e', WkL e e' ∧ R e' h
open Classical in
noncomputable def ofS {α : Type} (pre : α -> List Value -> IH -> Prop) (post : α -> IH -> Value -> IH -> Prop) : List Value -> IH -> T (Value × IH) := fun args H =>
 if h : ∃ x, pre x args H then .sp (fun r => post (Classical.choose h) H r.1 r.2) .ret else .fail
noncomputable def addS (nat : yU) (g : FuncId) {α : Type} (pre : α -> List Value -> IH -> Prop) (post : α -> IH -> Value -> IH -> Prop) : yU := fun x => cond (Nat.beq x g) (some (ofS pre post)) (nat x)
theorem q4X {α : Type} {pre : α -> List Value -> IH -> Prop} {post : α -> IH -> Value -> IH -> Prop} (uniq : ∀ x y args H, pre x args H -> pre y args H -> x = y) {x : α} {args : List Value} {H : IH} (hx : pre x args H) :
 ofS pre post args H = .sp (fun r => post x H r.1 r.2) .ret := by
 have h : ∃ x, pre x args H := ⟨x, hx⟩
 unfold ofS;rw [dif_pos h, uniq _ _ _ _ (Classical.choose_spec h) hx]
theorem qXW {g : FuncId} {α : Type} {pre : α -> List Value -> IH -> Prop} {post : α -> IH -> Value -> IH -> Prop} (hn : j3 nat) : j3 (addS nat g pre post) := by
 intro x y h args H;unfold addS at h
 cases hb : Nat.beq x g with
 | false => rw [hb] at h; exact hn x y h args H
 | true =>
   rw [hb] at h;cases h;unfold ofS;split
   ·exact trivial
   ·exact trivial
def gK (P : Program) (G : Nat -> Bool) (g : FuncId) (args : List Value) (H : IH) (Q : Value × IH -> Prop) : Prop :=
 ∀ (args' : List Value) (f : Inj) (w : World), Rel P f H w -> aQ G f -> qB P f args args' -> CallsIn Fence.wide 0 P g args'.toArray w (Comes P f H w Q)
theorem gK.mono {g : FuncId} {args : List Value} {H : IH} {Q Q' : Value × IH -> Prop} (h : gK P G g args H Q) (hq : ∀ r, Q r -> Q' r) : gK P G g args H Q' := by
 intro args' f w hR hG ha;refine CallsIn.mono (h args' f w hR hG ha) ?_;rintro e w' ⟨v', r, f', k0, k1, k2, k3, k4⟩;exact ⟨v', r, f', k0, hq r k1, k2, k3, k4⟩
theorem gK.of {g : FuncId} {fn : Func} {c : Code} {args : List Value} {H : IH} {Q : Value × IH -> Prop} {N : Nat} (hfn : P.funcs[g]? = some fn) (hb : fn.body = some c) (hN : fn.ntmps = N)
 (h : Holds P G false c (args ++ List.replicate (N - args.length) undef) H fun o => (o.e = .normal ∨ o.e = .ret) ∧ ∃ v, yC P fn o.env o.H = some v ∧ Q (v, o.H)) : gK P G g args H Q := by
 subst hN;exact fun args' f w hR hG ha => pM hfn hb hR hG ha h
theorem Setup.addS (s : Setup P good nat G) {g : FuncId} {α : Type} (pre : α -> List Value -> IH -> Prop) (post : α -> IH -> Value -> IH -> Prop)
 (hk : ∀ x args H, pre x args H -> gK P G g args H fun r => post x H r.1 r.2) : Setup P good (Go.Idl.addS nat g pre post) G := by
 refine ⟨s.mix, qXW s.ext, ?_, s.good⟩;intro x y h args args' H f w Q hR hG ha hq;unfold Go.Idl.addS at h
 cases hbx : Nat.beq x g with
 | false => rw [hbx] at h; exact s.spec x y h args args' H f w Q hR hG ha hq
 | true =>
   rw [hbx] at h;have hx : x = g := Nat.eq_of_beq_eq_true hbx;subst hx;cases h;unfold ofS at hq;split at hq
   ·rename_i he;exact (hk _ args H (Classical.choose_spec he)).mono (fun r hr => hq r hr) args' f w hR hG ha
   ·exact hq.elim
theorem Setup.regS (s : Setup P good nat G) {id : Nat} {ops : Array Oper} {y : Code} {env : Env} {H : IH} {Q : Out -> Prop} {ds : List (Option Tmp)} (hok : jB G ops = true) (hds : ops.toList.map (·.dst) = ds)
 (h : (aM P (iex P good nat 0) nat ds ops.toList env H).holds fun r => Holds P G rd y r.1 r.2 Q) : Holds P G rd (.seq (.region id ops false) y) env H Q := by
 refine Holds.seqN (Q1 := fun e h => Holds P G rd y e h Q) (s.run 1 (by simp [codeOk, hok]) ?_) fun e h hy => hy
 have e : iex P good nat (0 + 1) (.code (.region id ops false) env) H = (qRS P (iex P good nat 0) nat ops ops.toList env H).bind fun r => .ret ⟨.normal, r.1, r.2⟩ := rfl
 rw [e, T.holds_bind, o7, hds];exact T.holds_mono (fun r hr => ⟨rfl, hr⟩) _ h
def qCS (P : Program) (G : Nat -> Bool) (l : Nat) (args : List Value) (H : IH) (Q : Value × IH -> Prop) : Prop :=
 ∀ (args' : List Value) (f : Inj) (w : World) (e : Emb), Rel P f H w -> aQ G f -> f l = some e -> qB P f args args' ->
  ∃ fn tmps assign body, (Instr.yield e.r args'.toArray).run P w = .ok (.round e.r fn tmps assign body) w ∧ RoundIn Fence.wide 0 P e.r fn tmps assign body w (Comes P f H w Q)
theorem qCS.mono {l : Nat} {args : List Value} {H : IH} {Q Q' : Value × IH -> Prop} (h : qCS P G l args H Q) (hq : ∀ r, Q r -> Q' r) : qCS P G l args H Q' := by
 intro args' f w e hR hG he ha;obtain ⟨fn, tmps, assign, body, h1, h2⟩ := h args' f w e hR hG he ha;refine ⟨fn, tmps, assign, body, h1, RoundIn.mono h2 ?_⟩;rintro e w' ⟨v', r, f', k0, k1, k2, k3, k4⟩;exact ⟨v', r, f', k0, hq r k1, k2, k3, k4⟩
noncomputable def qV1 (rk : Nat -> List Value -> IH -> T (Value × IH)) : Job -> IH -> T Out
 | .round l args, H => (rk l args H).bind fun r => .ret ⟨.normal, [r.1], r.2⟩
 | _, _ => .fail
def qZ9 (P : Program) (G : Nat -> Bool) (rk : Nat -> List Value -> IH -> T (Value × IH)) : Prop := ∀ l args H Q, (rk l args H).holds Q -> qCS P G l args H Q
theorem q1T {t : T (Value × IH)} {Q : Value × IH -> Prop} (h : ((t.bind fun r => (.ret ⟨.normal, [r.1], r.2⟩ : T Out)).bind wY).holds Q) : t.holds Q := by
 rw [T.holds_bind, T.holds_bind] at h;exact T.holds_mono (fun r hr => hr) _ h
theorem qXZ {rk : Nat -> List Value -> IH -> T (Value × IH)} (h : qZ9 P G rk) : kZ P G (qV1 rk) := by
 intro l args args' H f w e Q hR hG he ha hq;exact h l args H Q (q1T hq) args' f w e hR hG he ha
theorem qLQ {rk : Nat -> List Value -> IH -> T (Value × IH)} {l : Nat} {args : List Value} {H : IH} : qCQ (qV1 rk) nat (some (.round l args H)) = ((rk l args H).bind fun r => (.ret ⟨.normal, [r.1], r.2⟩ : T Out)).bind wY := rfl
theorem qTE {l : Nat} {args : List Value} {H : IH} {Q : Value × IH -> Prop} {lp : Loop} (hg : H.get l = some (.loop lp)) (hst : lp.state = .ready) (hlen : args.length = lp.params.size)
 (hb : Holds P G true lp.assign ((lp.params.toList.zip args).foldl (fun e p => xU e p.1 p.2) lp.tmps.toList) H fun o => o.e = .normal ∧ ∃ lp1, o.H.get l = some (.loop lp1) ∧ lp1.state = .ready ∧
   Holds P G true lp.body o.env (o.H.put l (.loop { lp1 with state := .busy })) fun s => ∃ lp2, s.H.get l = some (.loop lp2) ∧
    Q (.bool (yO s.e).isNone, s.H.put l (.loop { lp2 with state := if (yO s.e).isNone then .ready else .done, pending := yO s.e }))) : qCS P G l args H Q := by
 intro args' f w e hR hG he ha;obtain ⟨hro, lp', h1, g1, g2, g3, g4, g5, g6, g7, g8, g9, g10⟩ := u7 hR he hg;refine ⟨lp'.fn, _, lp'.assign, lp'.body, run_yield h1 (by rw [g3, <- hlen, ha.1]; simp), ?_⟩
 have henv : qB P f ((lp.params.toList.zip args).foldl (fun e p => xU e p.1 p.2) lp.tmps.toList) ((lp'.params.zip args'.toArray).foldl (fun tmps (t, a) => tmps.setIfInBounds t a) lp'.tmps).toList := by
  rw [<- Array.foldl_toList, Array.toList_zip];have := qG9 (lp'.params.toList.zip args') lp'.tmps;simp only [] at this ⊢;rw [this, g3];exact qF3 lp.params.toList args args' _ _ ha g6
 refine roundIn_of_wpIn (F := Fence.wide) trivial ?_;rw [g4, g5];refine wpIn_mono (hb w.heap.size (Fence.wide.inRound e.r) f _ w (dL _) rfl hR hG henv (Nat.le_refl _)) ?_;rintro ex a1 w1 ⟨o, f1, ⟨heo, lp1, hg1, hst1, hq⟩, rfl, k1, k2, k3, k4⟩;rw [heo];have he1 := k2.le _ _ he;obtain ⟨_, lp1', q1, q2, q3, q4, q5, q6, q7, q8, q9, q10, q11⟩ := u7 k1 he1 hg1;refine ⟨_, run_beginRound q1 (by rw [q2, hst1]), ?_⟩;obtain ⟨p1, p2⟩ := oN .busy lp1.pending q10 k1 he1 hg1 q1;have e1 : ({ lp1' with state := .busy, pending := lp1.pending } : Loop) = { lp1' with state := .busy } := by rw [<- q3]
 have e2 : ({ lp1 with state := .busy, pending := lp1.pending } : Loop) = { lp1 with state := .busy } := rfl;rw [e1, e2] at p1;rw [e1] at p2;have hG1 := hG.mono k2.le;refine wpIn_mono (hq w.heap.size (Fence.wide.inRound e.r) f1 a1 _ (dL _) rfl p1 hG1 k3 (Marks.grow p2 _ k4)) ?_;rintro ex2 a2 w2 ⟨s, f2, ⟨lp2, hg2, hs⟩, rfl, s1, s2, s3, s4⟩;have he2 := s2.le _ _ he1;obtain ⟨_, lp2', t1, t2, t3, t4, t5, t6, t7, t8, t9, t10, t11⟩ := u7 s1 he2 hg2
 have hjump : ∀ c, yO s.e = some c -> qJV c = true := by
  intro c hc;cases hse : s.e <;> rw [hse] at hc <;> simp [yO] at hc <;> subst hc <;> rfl
 obtain ⟨u1, u2⟩ := oN (if (yO s.e).isNone then .ready else .done) (yO s.e) hjump s1 he2 hg2 t1
 have fin : ∃ v w', (Instr.endRound e.r (yO s.e)).run P w2 = .ok v w' ∧ Comes P f H w Q (.returned v) w' :=
  ⟨_, _, run_endRound (yO s.e) t1, ⟨_, _, f2, rfl, hs, u1, ((k2.trans p2).trans s2).trans u2, .base _ rfl⟩⟩
 cases hse : s.e with
 | normal => rw [hse] at fin; exact fin
 | ret => rw [hse] at fin; exact fin
 | exit id => rw [hse] at fin; exact fin
 | goto t => rw [hse] at fin; exact fin
theorem Setup.rangeF (s : Setup P good nat G) {v : Operand} {ps : Array Tmp} {x y : Code} {env : Env} {H : IH} {Q : Out -> Prop} {g : FuncId} {first captured : Array Value} {Qc : Value × IH -> Prop} (hv : vP G v = true) (hx : codeOk G true x = true) (hy : codeOk G true y = true)
 (hval : env.val v = .func (.func g) first captured) (hent : entered P g = true)
 (hcall : gK P G g (qFV first.toList (.func (.yield H.size) #[] #[] :: captured.toList)) (H.push (.loop { state := .ready, pending := none, fn := 0, tmps := env.toArray, params := ps, assign := x, body := y, defers := 0 })) Qc)
 (hq : ∀ r, Qc r -> (jN (iex P good nat 2) H.size env r).holds Q) : Holds P G false (.rangeFunc v ps x y) env H Q := by
 classical
 intro B F f a w hF hr hR hG henv hm
 let L : List Value := qFV first.toList (.func (.yield H.size) #[] #[] :: captured.toList)
 let HL : IH := H.push (.loop { state := .ready, pending := none, fn := 0, tmps := env.toArray, params := ps, assign := x, body := y, defers := 0 })
 let q1H : yU := fun g1 => if g1 = g then some (fun args H1 => if args = L ∧ H1 = HL then .sp Qc .ret else .fail) else none
 have hs1 : wF P G q1H := by
  intro g1 k hk args args' H1 f1 w1 Q1 hR1 hG1 ha1 hq1;simp only [q1H] at hk;split at hk
  ·rename_i hg1;subst hg1;cases hk;change T.holds Q1 (if args = L ∧ H1 = HL then T.sp Qc T.ret else T.fail) at hq1;split at hq1
   ·rename_i hc;obtain ⟨rfl, rfl⟩ := hc;exact (hcall.mono fun r hr => hq1 r hr) args' f1 w1 hR1 hG1 ha1
   ·exact hq1.elim
  ·cases hk
 let run1 : Job -> IH -> T Out := fun j H => match j with
  | .code c env => iex P good nat 2 (.code c env) H
  | _ => .fail
 have hrun0 : xV P G (iex P good nat 2) := (qJC s.ext s.spec s.good (fun _ _ hc hr => qD7 s.mix hc hr) 2).1;have hrun : xV P G run1 := hrun0
 have hc : jX P G (yI run1 q1H) := by
  intro g1 args args' H1 f1 w1 Q1 hR1 hG1 ha1 hq1;unfold yI at hq1;split at hq1
  ·rename_i k hk; exact hs1 g1 k hk args args' H1 f1 w1 Q1 hR1 hG1 ha1 hq1
  ·exact hq1.elim
 have hr' : F.round = none := by
  cases h : F.round with
  | none => rfl
  | some l => rw [h] at hr; cases hr
 refine qB6 hc hrun hF hr' hR hG (kM hG hv) (qP hG _ _ hx) (qP hG _ _ hy) henv hm ?_;unfold gX;rw [hval];simp only [hent, cond_true];unfold yI;simp only [q1H, if_true, L, HL, and_self];exact fun r hr => hq r hr
end Go.Idl
namespace Go.Idl
variable {P : Program}
noncomputable def q0F (P : Program) (el : TypeId) : Bool := match P.info? el with
 | some info => info.size == 1 && decide (info.bytes <= 64) && ((vZ P el).map (·.cells.size)) == some info.size
 | none => false
structure El (P : Program) (st el : TypeId) : Prop where
 und : P.underlying st = some (.slice el)
 sz : szT P el = some 1
 ag : qKY P el = some false
 ok : q0F P el = true
theorem El.info {P : Program} {st el : TypeId} (h : El P st el) : ∃ info, P.info? el = some info ∧ info.size = 1 ∧ info.bytes <= 64 ∧ ((vZ P el).map (·.cells.size)) = some info.size := by
 have := h.ok;unfold q0F at this;split at this
 ·rename_i info hi;simp only [Bool.and_eq_true, beq_iff_eq, decide_eq_true_eq] at this;exact ⟨info, hi, this.1.1, this.1.2, this.2⟩
 ·cases this
def Grown (H : IH) (el : TypeId) (lo : Nat) (v : Value) (vs : List Value) : Prop :=
 (vs = [] ∧ v = .slice none 0 0) ∨ ∃ b, lo <= b ∧ b < H.size ∧ v = .slice (some ⟨b, 0, some el⟩) vs.length vs.length ∧ H.get b = some (.cells vs.toArray el qX)
def qSO : Value -> Nat -> Prop
 | .slice (some a) _ _, b => a.block = b
 | _, _ => False
theorem Grown.nil (H : IH) (el : TypeId) (lo : Nat) : Grown H el lo (.slice none 0 0) [] := .inl ⟨rfl, rfl⟩
theorem Grown.len {H : IH} {el : TypeId} {lo : Nat} {v : Value} {vs : List Value} (h : Grown H el lo v vs) : ∃ a, v = .slice a vs.length vs.length := by
 rcases h with ⟨rfl, rfl⟩ | ⟨b, _, _, rfl, _⟩
 ·exact ⟨none, rfl⟩
 ·exact ⟨_, rfl⟩
theorem Grown.keep {H H' : IH} {el : TypeId} {lo : Nat} {v : Value} {vs : List Value} (h : Grown H el lo v vs) (hs : H.size <= H'.size) (hk : ∀ b, lo <= b -> b < H.size -> qSO v b -> H'.get b = H.get b) : Grown H' el lo v vs := by
 rcases h with ⟨rfl, rfl⟩ | ⟨b, h1, h2, rfl, h3⟩
 ·exact .nil _ _ _
 ·exact .inr ⟨b, h1, Nat.lt_of_lt_of_le h2 hs, rfl, (hk b h1 h2 rfl).trans h3⟩
theorem qUC {H : IH} {b : Nat} {vs : List Value} {el : TypeId} {fz : Nat × Nat} (h : H.get b = some (.cells vs.toArray el fz)) : H.loads b 0 vs.length = some vs := by
 unfold IH.loads;rw [h];simp
theorem jL {H : IH} {o : Obj} {b : Nat} (hb : b < H.size) : (H.push o).get b = H.get b := by rw [IH.get_push, if_neg (by omega)]
theorem wD {H : IH} {o : Obj} : (H.push o).get H.size = some o := by rw [IH.get_push, if_pos rfl]
theorem zT {H : IH} {o : Obj} {b x : Nat} (h : x ≠ b) : (H.put b o).get x = H.get x := by rw [IH.get_put, if_neg h]
theorem jJ {H : IH} {o : Obj} {b : Nat} : (H.put b o).get b = some o := by rw [IH.get_put, if_pos rfl]
def qP0 (H : IH) (el : TypeId) (lo hi : Nat) (v : Value) (zs : List Int) : Prop :=
 (zs = [] ∧ v = .slice none 0 0) ∨ ∃ b sp cap fz, lo <= b ∧ b < hi ∧ b < H.size ∧ v = .slice (some ⟨b, 0, sp⟩) zs.length cap ∧ H.get b = some (.cells (zs.map (Value.int .i64)).toArray el fz)
theorem Grown.row {H : IH} {el : TypeId} {lo : Nat} {v : Value} {zs : List Int} (h : Grown H el lo v (zs.map (Value.int .i64))) : qP0 H el lo H.size v zs := by
 rcases h with ⟨h1, rfl⟩ | ⟨b, h1, h2, rfl, h3⟩
 ·exact .inl ⟨by simpa using h1, rfl⟩
 ·exact .inr ⟨b, some el, _, qX, h1, h2, h2, by rw [List.length_map], h3⟩
theorem qP0.keep {H H' : IH} {el : TypeId} {lo hi : Nat} {v : Value} {zs : List Int} (h : qP0 H el lo hi v zs) (hs : H.size <= H'.size) (hk : ∀ b c fz, lo <= b -> b < hi -> b < H.size -> H.get b = some (.cells c el fz) -> qSO v b -> H'.get b = H.get b) : qP0 H' el lo hi v zs := by
 rcases h with ⟨rfl, rfl⟩ | ⟨b, sp, cap, fz, h1, hh, h2, rfl, h3⟩
 ·exact .inl ⟨rfl, rfl⟩
 ·exact .inr ⟨b, sp, cap, fz, h1, hh, Nat.lt_of_lt_of_le h2 hs, rfl, (hk b _ _ h1 hh h2 h3 rfl).trans h3⟩
def qK3 (H : IH) (el : TypeId) (lo hi : Nat) (rows : List Value) (zss : List (List Int)) : Prop := rows.length = zss.length ∧ ∀ (i : Nat) r zs, rows[i]? = some r -> zss[i]? = some zs -> qP0 H el lo hi r zs
theorem qK3.nil (H : IH) (el : TypeId) (lo hi : Nat) : qK3 H el lo hi [] [] := ⟨rfl, fun i r zs h => by simp at h⟩
theorem qK3.keep {H H' : IH} {el : TypeId} {lo hi : Nat} {rows : List Value} {zss : List (List Int)} (h : qK3 H el lo hi rows zss) (hs : H.size <= H'.size) (hk : ∀ b c fz, lo <= b -> b < hi -> b < H.size -> H.get b = some (.cells c el fz) -> H'.get b = H.get b) : qK3 H' el lo hi rows zss :=
 ⟨h.1, fun i r zs h1 h2 => (h.2 i r zs h1 h2).keep hs fun b c fz q1 q2 q3 q4 _ => hk b c fz q1 q2 q3 q4⟩
theorem qZM {H : IH} {b : Nat} {zs : List Int} {el : TypeId} {fz : Nat × Nat} {i : Nat} {z : Int} (h : H.get b = some (.cells (zs.map (Value.int .i64)).toArray el fz)) (hz : zs[i]? = some z) : H.load b i = some (.int .i64 z) := by
 unfold IH.load;rw [h];simp [hz]
theorem qH1 {t : TypeId} (ht : szT P t = some 1) {H : IH} {b : Nat} {zs : List Int} {el : TypeId} {fz : Nat × Nat} {i : Nat} {z : Int} (h : H.get b = some (.cells (zs.map (Value.int .i64)).toArray el fz)) (hi : i < zs.length) (hf : uH fz = true) (hb : H.base <= b) :
 xD P t (.pointer (some ⟨b, i, none⟩)) (.int .i64 z) H = some (H.put b (.cells ((zs.set i z).map (Value.int .i64)).toArray el fz)) := by
 unfold xD;have e1 : (Value.int IntKind.i64 z).cells = #[Value.int .i64 z] := rfl;simp only [ht, e1];rw [if_pos (by rfl)];unfold IH.stores;rw [h];simp only;have hone : List.all [Value.int .i64 z] oneCell = true := rfl;rw [if_pos]
 ·congr 3
  apply Array.ext';show overwrite (zs.map (Value.int .i64)) i [Value.int .i64 z] = _;unfold overwrite;simp only [List.map_set, List.length_singleton];rw [List.set_eq_take_append_cons_drop, if_pos (by simpa using hi)];simp
 ·simp [hf, hb, oneCell]; omega
end Go.Idl
namespace Go.Idl
variable {P : Program} {good : FuncId -> Bool} {nat : yU} {G : Nat -> Bool} {rd : Bool}
abbrev ST (P : Program) (G : Nat -> Bool) (rd : Bool) (y : Code) (Q : Out -> Prop) (o : Out) : Prop :=
 match o.e with
 | .normal => Holds P G rd y o.env o.H Q
 | _ => Q o
def BT (P : Program) (G : Nat -> Bool) (rd : Bool) (id : Nat) (y : Code) (Q : Out -> Prop) (o : Out) : Prop :=
 match o.e with
 | .normal => Holds P G rd y o.env o.H Q
 | .exit id' => if id' = id then Holds P G rd y o.env o.H Q else Q o
 | _ => Q o
def LQ (I : Nat -> Env -> IH -> Prop) (n : Nat) (id : Nat) (Q : Out -> Prop) (o : Out) : Prop :=
 match o.e with
 | .normal => ∃ m env', m < n ∧ WkL o.env env' ∧ I m env' o.H
 | .exit id' => if id' = id then Q ⟨.normal, o.env, o.H⟩ else Q o
 | _ => Q o
theorem ST.go {y : Code} {Q : Out -> Prop} {env : Env} {H : IH} (h : Holds P G rd y env H Q) : ST P G rd y Q ⟨.normal, env, H⟩ := h
theorem ST.rt {y : Code} {Q : Out -> Prop} {env : Env} {H : IH} (h : Q ⟨.ret, env, H⟩) : ST P G rd y Q ⟨.ret, env, H⟩ := h
theorem ST.ex {y : Code} {Q : Out -> Prop} {env : Env} {H : IH} {id : Nat} (h : Q ⟨.exit id, env, H⟩) : ST P G rd y Q ⟨.exit id, env, H⟩ := h
theorem BT.go {id : Nat} {y : Code} {Q : Out -> Prop} {env : Env} {H : IH} (h : Holds P G rd y env H Q) : BT P G rd id y Q ⟨.normal, env, H⟩ := h
theorem BT.on {id : Nat} {y : Code} {Q : Out -> Prop} {env : Env} {H : IH} (h : Holds P G rd y env H Q) : BT P G rd id y Q ⟨.exit id, env, H⟩ := by
 unfold BT; simp only [if_true]; exact h
theorem BT.rt {id : Nat} {y : Code} {Q : Out -> Prop} {env : Env} {H : IH} (h : Q ⟨.ret, env, H⟩) : BT P G rd id y Q ⟨.ret, env, H⟩ := h
theorem BT.ex {id id' : Nat} {y : Code} {Q : Out -> Prop} {env : Env} {H : IH} (hne : id' ≠ id) (h : Q ⟨.exit id', env, H⟩) : BT P G rd id y Q ⟨.exit id', env, H⟩ := by
 unfold BT; simp only [if_neg hne]; exact h
theorem BZ.go {id : Nat} {Q : Out -> Prop} {env : Env} {H : IH} (h : Q ⟨.normal, env, H⟩) : sK id Q ⟨.normal, env, H⟩ := h
theorem BZ.rt {id : Nat} {Q : Out -> Prop} {env : Env} {H : IH} (h : Q ⟨.ret, env, H⟩) : sK id Q ⟨.ret, env, H⟩ := h
theorem BZ.on {id : Nat} {Q : Out -> Prop} {env : Env} {H : IH} (h : Q ⟨.normal, env, H⟩) : sK id Q ⟨.exit id, env, H⟩ := by
 unfold sK; simp only [if_true]; exact h
theorem LQ.go {I : Nat -> Env -> IH -> Prop} {n id : Nat} {Q : Out -> Prop} {env env' : Env} {H : IH} (m : Nat) (hm : m < n) (hw : WkL env env') (hi : I m env' H) : LQ I n id Q ⟨.normal, env, H⟩ := ⟨m, env', hm, hw, hi⟩
theorem LQ.ex {I : Nat -> Env -> IH -> Prop} {n id id' : Nat} {Q : Out -> Prop} {env : Env} {H : IH} (hne : id' ≠ id) (h : Q ⟨.exit id', env, H⟩) : LQ I n id Q ⟨.exit id', env, H⟩ := by
 unfold LQ; simp only [if_neg hne]; exact h
theorem LQ.rt {I : Nat -> Env -> IH -> Prop} {n id : Nat} {Q : Out -> Prop} {env : Env} {H : IH} (h : Q ⟨.ret, env, H⟩) : LQ I n id Q ⟨.ret, env, H⟩ := h
theorem Setup.ifZ (s : Setup P good nat G) {rid : Nat} {ops : Array Oper} {v : Operand} {x x2 : Code} {env env1 : Env} {H H1 : IH} {Q : Out -> Prop} {ds : List (Option Tmp)} {t : Bool} (hok : jB G ops = true) (hds : ops.toList.map (·.dst) = ds)
 (h : aM P (iex P good nat 0) nat ds ops.toList env H = .ret (env1, H1)) (hokv : vP G v = true) (hv : env1.val v = .bool t)
 (hx : t = true -> Holds P G rd x env1 H1 Q) (hy : t = false -> Holds P G rd x2 env1 H1 Q) : Holds P G rd (.seq (.region rid ops false) (.cond v x x2)) env H Q :=
 s.regE 0 hok hds h (.cond hokv hv hx hy)
def JT (J : Env -> IH -> Prop) (Q : Out -> Prop) (o : Out) : Prop :=
 match o.e with
 | .normal => ∃ e', WkL o.env e' ∧ J e' o.H
 | _ => Q o
theorem JT.go {J : Env -> IH -> Prop} {Q : Out -> Prop} {env env' : Env} {H : IH} (hw : WkL env env') (h : J env' H) : JT J Q ⟨.normal, env, H⟩ := ⟨env', hw, h⟩
theorem JT.rt {J : Env -> IH -> Prop} {Q : Out -> Prop} {env : Env} {H : IH} (h : Q ⟨.ret, env, H⟩) : JT J Q ⟨.ret, env, H⟩ := h
theorem JT.ex {J : Env -> IH -> Prop} {Q : Out -> Prop} {env : Env} {H : IH} {id : Nat} (h : Q ⟨.exit id, env, H⟩) : JT J Q ⟨.exit id, env, H⟩ := h
theorem qZN {o : Oper} {x y : Operand} {t u : TypeId} {env : Env} {H : IH} : qU P o ⟨.builtin .append, #[x, y], #[t, u]⟩ env H = (match uD P #[t, u] [env.val x, env.val y] H with
 | some r => some r
 | none => xW P o env H) := rfl
theorem qHM {o : Oper} {x y : Operand} {t u : TypeId} {env : Env} {H : IH} : qU P o ⟨.builtin .copy, #[x, y], #[t, u]⟩ env H = (match qA3 P #[t, u] [env.val x, env.val y] H with
 | some r => some r
 | none => xW P o env H) := rfl
theorem kN {H : IH} : qCV (some H) = some (.val undef H) := rfl
theorem Old.of {H0 H H' : IH} (h : Old H0 H) (hs : H.size <= H'.size) (hb : H'.base = H.base) (hk : ∀ b, b < H0.size -> H'.get b = H.get b) : Old H0 H' :=
 ⟨Nat.le_trans h.size hs, hb.trans h.base, fun b hb' => (hk b hb').trans (h.get b hb')⟩
end Go.Idl
namespace Go.Idl
variable {P : Program}
theorem Grown.read {st : TypeId} {el : TypeId} (he : El P st el) {H : IH} {lo : Nat} {v : Value} {vs : List Value} (h : Grown H el lo v vs) {i : Nat} {x : Value} (hi : vs[i]? = some x) {k : IntKind} :
 ∃ p, xE P st v (.int k (i : Nat)) = some p ∧ yQ P el p H = some x := by
 have hlt := (List.getElem?_eq_some_iff.1 hi).1
 rcases h with ⟨rfl, rfl⟩ | ⟨b, h1, h2, rfl, h3⟩
 ·simp at hlt
 ·refine ⟨_, aA he.und he.sz (Int.natCast_nonneg i) (Int.ofNat_lt.2 hlt), ?_⟩;simp only [Int.toNat_natCast];refine qFT he.ag ?_;unfold IH.load;rw [h3];simpa using hi
theorem Grown.write {st el : TypeId} (he : El P st el) {H : IH} {lo : Nat} {v : Value} {zs : List Int} (h : Grown H el lo v (zs.map (Value.int .i64))) {i : Nat} (hi : i < zs.length) (hb : H.base <= lo) (z : Int) {k : IntKind} :
 ∃ p H', xE P st v (.int k (i : Nat)) = some p ∧ xD P el p (.int .i64 z) H = some H' ∧ Grown H' el lo v ((zs.set i z).map (Value.int .i64)) ∧ H'.size = H.size ∧ H'.base = H.base ∧ ∀ b, ¬ qSO v b -> H'.get b = H.get b := by
 rcases h with ⟨h1, rfl⟩ | ⟨b, h1, h2, rfl, h3⟩
 ·simp at h1; subst h1; simp at hi
 ·have hlt : i < (zs.map (Value.int .i64)).length := by simpa using hi
  refine ⟨_, H.put b (.cells ((zs.set i z).map (Value.int .i64)).toArray el qX), aA he.und he.sz (Int.natCast_nonneg i) (Int.ofNat_lt.2 hlt), by simp only [Int.toNat_natCast, Nat.zero_add]; exact qH1 he.sz h3 hi rfl (Nat.le_trans hb h1), .inr ⟨b, h1, h2, by simp, jJ⟩, rfl, rfl, fun b' hb' => zT fun e => hb' e.symm⟩
end Go.Idl
namespace Go.Idl
variable {P : Program}
end Go.Idl
namespace Go.Idl
variable {P : Program} {good : FuncId -> Bool} {nat : yU} {G : Nat -> Bool} {rd : Bool}
theorem qK3.one {H : IH} {el : TypeId} {lo hi : Nat} {rows : List Value} {zss : List (List Int)} (h : qK3 H el lo hi rows zss) : rows.all oneCell = true := by
 rw [List.all_eq_true];intro r hr;obtain ⟨i, hi'⟩ := List.mem_iff_getElem?.1 hr;have hlt := (List.getElem?_eq_some_iff.1 hi').1;have hz : zss[i]? = some (zss[i]'(by rw [<- h.1]; exact hlt)) := List.getElem?_eq_getElem _;rcases h.2 i r _ hi' hz with ⟨_, rfl⟩ | ⟨b, sp, cap, fz, _, _, _, rfl, _⟩ <;> rfl
end Go.Idl
namespace Go.Idl
variable {P : Program}
end Go.Idl
namespace Go.Idl
variable {P : Program}
def OwnAt (H : IH) (el : TypeId) (lo : Nat) (v : Value) (zs : List Int) : Prop :=
 ∃ b sp fz, lo <= b ∧ b < H.size ∧ v = .slice (some ⟨b, 0, sp⟩) zs.length zs.length ∧ H.get b = some (.cells (zs.map (Value.int .i64)).toArray el fz) ∧ uH fz = true
theorem OwnAt.row {H : IH} {el : TypeId} {lo : Nat} {v : Value} {zs : List Int} (h : OwnAt H el lo v zs) : qP0 H el lo H.size v zs := by
 obtain ⟨b, sp, fz, h1, h2, rfl, h3, _⟩ := h;exact .inr ⟨b, sp, _, fz, h1, h2, h2, rfl, h3⟩
theorem OwnAt.keep {H H' : IH} {el : TypeId} {lo : Nat} {v : Value} {zs : List Int} (h : OwnAt H el lo v zs) (hs : H.size <= H'.size) (hk : ∀ b, lo <= b -> b < H.size -> qSO v b -> H'.get b = H.get b) : OwnAt H' el lo v zs := by
 obtain ⟨b, sp, fz, h1, h2, rfl, h3, h4⟩ := h;exact ⟨b, sp, fz, h1, Nat.lt_of_lt_of_le h2 hs, rfl, (hk b h1 h2 rfl).trans h3, h4⟩
theorem OwnAt.len {H : IH} {el : TypeId} {lo : Nat} {v : Value} {zs : List Int} (h : OwnAt H el lo v zs) : ∃ a, v = .slice a zs.length zs.length := by
 obtain ⟨b', sp, fz, h1, h2, rfl, h3, h4⟩ := h;exact ⟨_, rfl⟩
theorem Grown.own {H : IH} {el : TypeId} {lo : Nat} {v : Value} {zs : List Int} (h : Grown H el lo v (zs.map (Value.int .i64))) (hne : zs ≠ []) : OwnAt H el lo v zs := by
 rcases h with ⟨h1, _⟩ | ⟨b, h1, h2, rfl, h3⟩
 ·simp at h1; exact absurd h1 hne
 ·exact ⟨b, some el, qX, h1, h2, by rw [List.length_map], h3, rfl⟩
theorem OwnAt.read {st el : TypeId} (he : El P st el) {H : IH} {lo : Nat} {v : Value} {zs : List Int} (h : OwnAt H el lo v zs) {i : Nat} {x : Int} (hi : zs[i]? = some x) {k : IntKind} :
 ∃ p, xE P st v (.int k (i : Nat)) = some p ∧ yQ P el p H = some (.int .i64 x) := by
 obtain ⟨b, sp, fz, h1, h2, rfl, h3, h4⟩ := h;refine ⟨_, aA he.und he.sz (Int.natCast_nonneg i) (Int.ofNat_lt.2 (List.getElem?_eq_some_iff.1 hi).1), ?_⟩;simp only [Int.toNat_natCast, Nat.zero_add];exact qFT he.ag (qZM h3 hi)
theorem OwnAt.write {st el : TypeId} (he : El P st el) {H : IH} {lo : Nat} {v : Value} {zs : List Int} (h : OwnAt H el lo v zs) {i : Nat} (hi : i < zs.length) (hb : H.base <= lo) (z : Int) {k : IntKind} :
 ∃ p H', xE P st v (.int k (i : Nat)) = some p ∧ xD P el p (.int .i64 z) H = some H' ∧ OwnAt H' el lo v (zs.set i z) ∧ H'.size = H.size ∧ H'.base = H.base ∧ ∀ b, ¬ qSO v b -> H'.get b = H.get b := by
 obtain ⟨b, sp, fz, h1, h2, rfl, h3, h4⟩ := h;refine ⟨_, H.put b (.cells ((zs.set i z).map (Value.int .i64)).toArray el fz), aA he.und he.sz (Int.natCast_nonneg i) (Int.ofNat_lt.2 hi), by simp only [Int.toNat_natCast, Nat.zero_add]; exact qH1 he.sz h3 hi h4 (Nat.le_trans hb h1), ⟨b, sp, fz, h1, h2, by simp, jJ, h4⟩, rfl, rfl, fun b' hb' => zT fun e => hb' e.symm⟩
end Go.Idl
namespace Go.Idl
variable {P : Program} {good : FuncId -> Bool} {nat : yU} {G : Nat -> Bool} {rd : Bool}
def Keeps (H H' : IH) : Prop := ∀ b o, H.get b = some o -> H'.get b = some o
theorem Keeps.refl (H : IH) : Keeps H H := fun _ _ h => h
theorem Keeps.trans {H H1 H2 : IH} (a : Keeps H H1) (b : Keeps H1 H2) : Keeps H H2 := fun x o h => b x o (a x o h)
def WF (H : IH) : Prop := ∀ b, H.size <= b -> H.get b = none
theorem WF.push {H : IH} (h : WF H) (o : Obj) : WF (H.push o) := fun b hb => by
 simp only [IH.size_push] at hb;rw [IH.get_push, if_neg (by omega)];exact h b (by omega)
theorem Holds.wf {c : Code} {env : Env} {H : IH} {Q : Out -> Prop} (h : WF H -> Holds P G rd c env H Q) : Holds P G rd c env H Q :=
 fun B F f a w hF hr hR hG henv hm => h hR.fresh B F f a w hF hr hR hG henv hm
end Go.Idl
namespace Go.Idl
variable {P : Program} {good : FuncId -> Bool} {nat : yU} {G : Nat -> Bool} {rd : Bool}
def qZ3 (P : Program) (ops : Array Oper) (i : Nat) (e : Env) (E : IH) : Prop :=
 match ops[i]? with
 | some o => (match o.op, o.dst with
   | .load t x, some d => yQ P t (e.val x) E = some (e.at d)
   | _, _ => False)
 | none => False
def qL4 (P : Program) (ops : Array Oper) (e : Env) (hs : List IH) : List (Nat × Nat × Nat) -> Prop
 | [] => True
 | p :: r => (∀ m E, p.2.1 <= m -> m <= p.2.2 -> hs[m]? = some E -> qZ3 P ops p.1 e E) ∧ qL4 P ops e hs r
theorem qL4.mem {ops : Array Oper} {e : Env} {hs : List IH} : ∀ {lo : List (Nat × Nat × Nat)}, qL4 P ops e hs lo -> ∀ p ∈ lo, ∀ m E, p.2.1 <= m -> m <= p.2.2 -> hs[m]? = some E -> qZ3 P ops p.1 e E
 | q :: r, h, p, hp => by
   rcases List.mem_cons.1 hp with rfl | hp
   ·exact h.1
   ·exact h.2.mem p hp
end Go.Idl
namespace Go.Idl
variable {P : Program}
theorem qCG {t : TypeId} (ht : qKY P t = some false) {H : IH} {b i : Nat} {l : List Value} {el : TypeId} {fz : Nat × Nat} {v : Value} (h : H.get b = some (.cells l.toArray el fz)) (hv : l[i]? = some v) : yQ P t (.pointer (some ⟨b, i, none⟩)) H = some v := by
 refine qFT ht ?_;unfold IH.load;rw [h];simpa using hv
theorem qQM {t : TypeId} (ht : szT P t = some 1) {H : IH} {b i : Nat} {l : List Value} {el : TypeId} {fz : Nat × Nat} {v : Value} (hv : v.cells = #[v]) (h1 : oneCell v = true) (h : H.get b = some (.cells l.toArray el fz)) (hi : i < l.length) (hf : uH fz = true) (hb : H.base <= b) :
 xD P t (.pointer (some ⟨b, i, none⟩)) v H = some (H.put b (.cells (l.set i v).toArray el fz)) := by
 unfold xD;simp only [ht, hv];rw [if_pos (by rfl)];unfold IH.stores;rw [h];simp only;rw [if_pos]
 ·congr 3
  apply Array.ext';show overwrite l i [v] = _;unfold overwrite;simp only [List.length_singleton];rw [List.set_eq_take_append_cons_drop, if_pos hi];simp
 ·simp [hf, hb, h1]; omega
end Go.Idl
namespace Go.Idl
variable {P : Program} {good : FuncId -> Bool} {nat : yU} {G : Nat -> Bool} {rd : Bool}
open Classical in
noncomputable def qK0 (l0 : Nat) (args0 : List Value) (H0 : IH) (Q0 : Value × IH -> Prop) : Nat -> List Value -> IH -> T (Value × IH) := fun l args H => if l = l0 ∧ args = args0 ∧ H = H0 then .sp Q0 .ret else .fail
theorem qW7 {l : Nat} {args : List Value} {H : IH} {Q : Value × IH -> Prop} : qK0 l args H Q l args H = .sp Q .ret := by unfold qK0; rw [if_pos ⟨rfl, rfl, rfl⟩]
theorem qPS {l : Nat} {args : List Value} {H : IH} {Q : Value × IH -> Prop} (h : qCS P G l args H Q) : qZ9 P G (qK0 l args H Q) := by
 intro l' args' H' Q' hq;unfold qK0 at hq;split at hq
 ·rename_i hc;obtain ⟨rfl, rfl, rfl⟩ := hc;exact h.mono fun r hr => hq r hr
 ·exact hq.elim
theorem qQ3 {o : Oper} {f : Operand} {args : Array Operand} {ts : Array TypeId} {env : Env} {H : IH} {l : Nat} (hf : env.val f = .func (.yield l) #[] #[]) : qU P o ⟨.value f, args, ts⟩ env H = some (.round l (xP env.val args.toList) H) := by
 have : vG P ⟨.value f, args, ts⟩ env H = some (.round l (xP env.val args.toList) H) := by
  unfold vG;simp only [hf];rfl
 unfold qU;rw [this]
theorem qU4 {l : Nat} {args : List Value} {H : IH} {Q : Value × IH -> Prop} : qCQ (qV1 (qK0 l args H Q)) nat (some (.round l args H)) = .sp Q .ret := by
 rw [qLQ, qW7]; rfl
structure Fr (T : Nat -> Prop) (H H' : IH) : Prop where
 size : H.size <= H'.size
 base : H'.base = H.base
 get : ∀ b, b < H.size -> ¬ T b -> H'.get b = H.get b
theorem Fr.refl (T : Nat -> Prop) (H : IH) : Fr T H H := ⟨Nat.le_refl _, rfl, fun _ _ _ => rfl⟩
theorem Fr.trans {T T' : Nat -> Prop} {H H1 H2 : IH} (a : Fr T H H1) (b : Fr T' H1 H2) (ht : ∀ x, x < H.size -> T' x -> T x) : Fr T H H2 :=
 ⟨Nat.le_trans a.size b.size, b.base.trans a.base, fun x hx hn => (b.get x (Nat.lt_of_lt_of_le hx a.size) fun h => hn (ht x hx h)).trans (a.get x hx hn)⟩
theorem Setup.rangeW (s : Setup P good nat G) {v : Operand} {ps : Array Tmp} {x y : Code} {env : Env} {H : IH} {Q : Out -> Prop} {g : FuncId} {first captured : Array Value} (hv : vP G v = true) (hx : codeOk G true x = true) (hy : codeOk G true y = true)
 (hval : env.val v = .func (.func g) first captured) (hent : entered P g = true)
 (hk : ∀ lp : Loop, lp.state = .ready -> lp.pending = none -> lp.tmps.toList = env -> lp.params = ps -> lp.assign = x -> lp.body = y -> ∃ Qc, gK P G g (qFV first.toList (.func (.yield H.size) #[] #[] :: captured.toList)) (H.push (.loop lp)) Qc ∧
   ∀ r, Qc r -> (jN (iex P good nat 2) H.size env r).holds Q) : Holds P G false (.rangeFunc v ps x y) env H Q := by
 obtain ⟨Qc, h1, h2⟩ := hk { state := .ready, pending := none, fn := 0, tmps := env.toArray, params := ps, assign := x, body := y, defers := 0 } rfl rfl rfl rfl rfl rfl;exact s.rangeF hv hx hy hval hent h1 h2
theorem qXA {l : Nat} {env : Env} {r : Value × IH} {lp : Loop} {run : Job -> IH -> T Out} {Q : Out -> Prop} (hg : r.2.get l = some (.loop lp)) (hs : lp.state = .ready) (hp : lp.pending = none) (hq : ∀ lp', Q ⟨.normal, env, r.2.put l (.loop lp')⟩) :
 (jN run l env r).holds Q := by
 cases lp;simp only at hs hp;subst hs hp;unfold jN;rw [hg];exact hq _
structure OldL (n : Nat) (H H' : IH) : Prop where
 size : H.size <= H'.size
 base : H'.base = H.base
 get : ∀ b, b < H.size -> (b < n ∨ ∀ lp, H.get b ≠ some (.loop lp)) -> H'.get b = H.get b
theorem Old.l {H H' : IH} (h : Old H H') (n : Nat) : OldL n H H' := ⟨h.size, h.base, fun b hb _ => h.get b hb⟩
theorem OldL.put {n l : Nat} {H : IH} {lp lp' : Loop} (hl : n <= l) (hg : H.get l = some (.loop lp)) : OldL n H (H.put l (.loop lp')) := by
 refine ⟨Nat.le_refl _, rfl, fun b hb h => zT fun e => ?_⟩;subst e;rcases h with h | h
 ·omega
 ·exact h lp hg
end Go.Idl
