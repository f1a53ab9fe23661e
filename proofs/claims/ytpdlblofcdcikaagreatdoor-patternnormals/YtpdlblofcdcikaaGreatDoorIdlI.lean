/- The soundness of ideal runs, and rules for their use. Conditions: none. -/
import Derived.Test.YtpdlblofcdcikaaGreatDoorIdlF
import Derived.Test.YtpdlblofcdcikaaGreatDoorIdlH
set_option linter.unusedSimpArgs false
set_option linter.unusedVariables false
namespace Go.Idl
variable {P : Program} {good : FuncId → Bool} {nat : Nats}

/-- no contract -/
def noNat : Nats := fun _ => none
theorem noNat_ext : NatExt noNat := by intro f k h; cases h
theorem noNat_spec {G : Nat → Bool} : NatSpec P G noNat := by intro f k h; cases h

end Go.Idl

namespace Go.Idl
variable {P : Program} {good : FuncId → Bool} {nat : Nats}

theorem VRel.back {f f1 : Inj} {v v0 v' : Value} (h0 : VRel P f v v0) (hl : f.le f1) (h1 : VRel P f1 v v') : VRel P f v v' := by
  have same : ∀ {b : Nat} {e e' : Emb}, f b = some e → f1 b = some e' → e' = e := fun h h' => by
    have := hl _ _ h; rw [h'] at this; exact Option.some.inj this
  have nope : ∀ {v : Value}, plainV v = true → plainV v = false → False := fun a b => by rw [a] at b; cases b
  induction h0 generalizing v' with
  | any v => exact .any v'
  | undef => rw [h1.undef_inv]; exact .undef
  | base v hp => rw [h1.plain hp]; exact .base v hp
  | ptr h =>
    cases h1 with
    | base _ hp => exact (nope hp rfl).elim
    | ptr h' => rw [same h h']; exact .ptr h
  | sl h =>
    cases h1 with
    | base _ hp => exact (nope hp rfl).elim
    | sl h' => rw [same h h']; exact .sl h
    | gh h' hg' => have e := same h h'; subst e; exact .gh h hg'
  | gh h hg =>
    cases h1 with
    | base _ hp => exact (nope hp rfl).elim
    | sl h' => exact .gh h hg
    | gh h' hg' => exact .gh h hg
  | room h hc hn =>
    cases h1 with
    | base _ hp => exact (nope hp rfl).elim
    | room h' hc' hn' => have e := same h h'; subst e; exact .room h hc' hn'
    | room0 h' hs' hn' => have e := same h h'; subst e; exact .room0 h hs' hn'
  | room0 h hs hn =>
    cases h1 with
    | base _ hp => exact (nope hp rfl).elim
    | room h' hc' hn' => have e := same h h'; subst e; exact .room h hc' hn'
    | room0 h' hs' hn' => have e := same h h'; subst e; exact .room0 h hs' hn'
  | map h =>
    cases h1 with
    | base _ hp => exact (nope hp rfl).elim
    | map h' => rw [same h h']; exact .map h
  | @func g a a0 c c0 ha hc hav hcv i1 i2 =>
    cases h1 with
    | base _ hp =>
      refine .func rfl rfl (fun i v v' hv hv' => ?_) (fun i v v' hv hv' => ?_)
      · rw [hv] at hv'; cases hv'
        have hlt : i < a0.size := by rw [← ha]; exact (Array.getElem?_eq_some_iff.1 hv).1
        exact i1 i v a0[i] hv (Array.getElem?_eq_getElem hlt) (.base v (by
          have hp' : (isFn (.func g) && (allR (plainF 2) a.toList && allR (plainF 2) c.toList)) = true := hp
          simp only [Bool.and_eq_true, allR_iff] at hp'
          exact plainF_mono 2 v (hp'.2.1 v (Array.mem_def.1 (Array.mem_of_getElem? hv)))))
      · rw [hv] at hv'; cases hv'
        have hlt : i < c0.size := by rw [← hc]; exact (Array.getElem?_eq_some_iff.1 hv).1
        exact i2 i v c0[i] hv (Array.getElem?_eq_getElem hlt) (.base v (by
          have hp' : (isFn (.func g) && (allR (plainF 2) a.toList && allR (plainF 2) c.toList)) = true := hp
          simp only [Bool.and_eq_true, allR_iff] at hp'
          exact plainF_mono 2 v (hp'.2.2 v (Array.mem_def.1 (Array.mem_of_getElem? hv)))))
    | func ha' hc' hav' hcv' =>
      refine .func ha' hc' (fun i v v' hv hv' => ?_) (fun i v v' hv hv' => ?_)
      · have hlt : i < a0.size := by rw [← ha]; exact (Array.getElem?_eq_some_iff.1 hv).1
        exact i1 i v a0[i] hv (Array.getElem?_eq_getElem hlt) (hav' i v v' hv hv')
      · have hlt : i < c0.size := by rw [← hc]; exact (Array.getElem?_eq_some_iff.1 hv).1
        exact i2 i v c0[i] hv (Array.getElem?_eq_getElem hlt) (hcv' i v v' hv hv')
  | yield h =>
    cases h1 with
    | base _ hp => exact (nope hp rfl).elim
    | yield h' => rw [same h h']; exact .yield h
  | iface _ ih =>
    cases h1 with
    | base _ hp => exact .iface (ih (.base _ (plainF_mono 2 _ hp)))
    | iface h' => exact .iface (ih h')
  | @agg a a0 ha hav i1 =>
    cases h1 with
    | base _ hp =>
      refine .agg rfl (fun i v v' hv hv' => ?_)
      rw [hv] at hv'; cases hv'
      have hlt : i < a0.size := by rw [← ha]; exact (Array.getElem?_eq_some_iff.1 hv).1
      exact i1 i v a0[i] hv (Array.getElem?_eq_getElem hlt) (.base v (plainL_iff.1 (plain_agg hp) v (Array.mem_def.1 (Array.mem_of_getElem? hv))))
    | agg ha' hav' =>
      refine .agg ha' (fun i v v' hv hv' => ?_)
      have hlt : i < a0.size := by rw [← ha]; exact (Array.getElem?_eq_some_iff.1 hv).1
      exact i1 i v a0[i] hv (Array.getElem?_eq_getElem hlt) (hav' i v v' hv hv')
  | @tuple a a0 ha hav i1 =>
    cases h1 with
    | any v =>
      cases ha0 : a0[0]? with
      | none =>
        have h0 : a0.size = 0 := by
          have := Array.getElem?_eq_none_iff.1 ha0
          omega
        rw [h0] at ha
        simp at ha
      | some x => exact .any _
    | undef => exact .undef
    | base _ hp => exact (nope hp rfl).elim
    | tuple ha' hav' =>
      refine .tuple ha' (fun i v v' hv hv' => ?_)
      have hlt : i < a0.size := by rw [← ha]; exact (Array.getElem?_eq_some_iff.1 hv).1
      exact i1 i v a0[i] hv (Array.getElem?_eq_getElem hlt) (hav' i v v' hv hv')

theorem VRelL.back {f f1 : Inj} {l l0 l' : List Value} (h0 : VRelL P f l l0) (hl : f.le f1) (h1 : VRelL P f1 l l') : VRelL P f l l' :=
  ⟨h1.1, fun i v v' hv hv' => by
    have hlt : i < l0.length := by rw [← h0.1]; exact (List.getElem?_eq_some_iff.1 hv).1
    exact (h0.2 i v l0[i] hv (List.getElem?_eq_getElem hlt)).back hl (h1.2 i v v' hv hv')⟩

theorem ORel.back {f f1 : Inj} {e : Emb} {o : Obj} {r0 r : Option Obj} (h0 : ORel P f e o r0) (hl : f.le f1) (h1 : ORel P f1 e o r) : ORel P f e o r := by
  cases o <;> simp only [ORel] at h0 h1 ⊢
  case cells c el fz =>
    obtain ⟨_, _, _, _, _, _, g4, _, _⟩ := h0
    obtain ⟨c', el', fz', k1, k2, k3, k4, k5, k6⟩ := h1
    exact ⟨c', el', fz', k1, k2, k3, fun i v hv => by
      obtain ⟨v0, _, a⟩ := g4 i v hv
      obtain ⟨v', b, c⟩ := k4 i v hv
      exact ⟨v', b, a.back hl c⟩, k5, k6⟩
  case map es clk =>
    obtain ⟨_, es0, _, g2, g3⟩ := h0
    obtain ⟨k0, es', k1, k2, k3⟩ := h1
    exact ⟨k0, es', k1, k2, fun i x hx => by
      obtain ⟨x0, _, _, _, a⟩ := g3 i x hx
      obtain ⟨x', b1, b2, b3, b4⟩ := k3 i x hx
      exact ⟨x', b1, b2, b3, a.back hl b4⟩⟩
  case stringIter s p => exact h1
  case mapIter m since seen last =>
    cases m with
    | none => simp only at h0
    | some m =>
      obtain ⟨_, _, em, seen0, st0, g1, _⟩ := h0
      obtain ⟨k0, k01, em', seen', st', k1, k2, k3⟩ := h1
      have := hl _ _ g1
      rw [k1] at this
      cases this
      exact ⟨k0, k01, em, seen', st', g1, k2, k3⟩
  case loop lp =>
    obtain ⟨_, lp0, _, _, _, _, _, _, g7, g8, g9, _, _⟩ := h0
    obtain ⟨k0, lp', k1, k2, k3, k4, k5, k6, k7, k8, k9, k10⟩ := h1
    exact ⟨k0, lp', k1, k2, k3, k4, k5, k6, g7.back hl k7, g8, g9, k10⟩

/-- what a run left behind, beside what was there, is forgotten -/
theorem Rel.drop {f f1 : Inj} {H H1 : IH} {w w1 : World} (hR : Rel P f H w) (hR1 : Rel P f1 H1 w1) (hg : Grow f H w f1 H1 w1) (hs : ∀ b o, b < H.size → H.get b = some o → H1.get b = some o) : Rel P f H w1 ∧ Grow f H w f H w1 := by
  refine ⟨⟨hR.dom, hR.fresh, fun b e hb => hR1.bound b e (hg.le b e hb), fun b e o hb ho => ?_, hR.sep, hR.rosame⟩, ⟨Nat.le_refl _, fun _ _ h => h, f.le_refl, hg.size, fun r hr ho => ⟨ho, (hg.keep r hr ho).2⟩, fun _ _ h => h, hg.out⟩⟩
  exact (hR.obj b e o hb ho).back hg.le (hR1.obj b e o (hg.le b e hb) (hs b o (hR.dom b e hb) ho))

/-- old memory lies as it lay -/
structure Old (H H' : IH) : Prop where
  size : H.size ≤ H'.size
  base : H'.base = H.base
  get : ∀ b, b < H.size → H'.get b = H.get b
theorem Old.refl (H : IH) : Old H H := ⟨Nat.le_refl _, rfl, fun _ _ => rfl⟩
theorem Old.trans {H H1 H2 : IH} (a : Old H H1) (b : Old H1 H2) : Old H H2 :=
  ⟨Nat.le_trans a.size b.size, b.base.trans a.base, fun x hx => (b.get x (Nat.lt_of_lt_of_le hx a.size)).trans (a.get x hx)⟩
theorem Old.push (H : IH) (o : Obj) : Old H (H.push o) := ⟨by simp, rfl, fun x hx => by rw [IH.get_push, if_neg (by omega)]⟩
theorem Old.put {H H' : IH} {b : Nat} {o : Obj} (h : Old H H') (hb : H.size ≤ b) : Old H (H'.put b o) :=
  ⟨h.size, h.base, fun x hx => by rw [IH.get_put, if_neg (by omega)]; exact h.get x hx⟩

def ofK (k : List Value → IH → Option Value) : List Value → IH → T (Value × IH) := fun args H => match k args H with
  | some v => .ret (v, H)
  | none => .fail
def addNat (nat : Nats) (g : FuncId) (k : List Value → IH → Option Value) : Nats := fun x => cond (Nat.beq x g) (some (ofK k)) (nat x)
theorem addNat_ext {g : FuncId} {k : List Value → IH → Option Value} (hn : NatExt nat) : NatExt (addNat nat g k) := by
  intro x y h args H
  unfold addNat at h
  cases hb : Nat.beq x g with
  | false => rw [hb] at h; exact hn x y h args H
  | true =>
    rw [hb] at h
    cases h
    unfold ofK
    split
    · exact .refl _
    · exact trivial

/-! ### Memory that is only read -/
theorem Rel.empty (P : Program) (w : World) : Rel P (fun _ => none) ⟨.nil, 0, 0, []⟩ w :=
  ⟨fun b e h => (by cases h), fun b _ => rfl, fun b e h => (by cases h), fun b e o h => (by cases h), fun b1 b2 e1 e2 o1 o2 _ h => (by cases h), fun b1 b2 e1 e2 h => (by cases h)⟩

theorem Rel.addRo {f : Inj} {H : IH} {w : World} {r s : Nat} {c : Array Value} {el : TypeId} {fz : Nat × Nat} (hR : Rel P f H w) (hr : w.heap[r]? = some (.cells c el fz)) (hro : ∀ b e, f b = some e → e.r = r → e.ro = true)
    (cI : Array Value) (elI : TypeId) (hs : s + cI.size ≤ c.size) (hv : ∀ (i : Nat) v, cI[i]? = some v → ∃ v', c[s + i]? = some v' ∧ VRel P f v v') :
    Rel P (f.add H.size ⟨r, s, c.size, true⟩) (H.push (.cells cI elI (0, 1))) w ∧ f.le (f.add H.size ⟨r, s, c.size, true⟩) := by
  have hnone : f H.size = none := addN_none hR
  have hle : f.le (f.add H.size ⟨r, s, c.size, true⟩) := Inj.le_add hnone
  have hlt : r < w.heap.size := (Array.getElem?_eq_some_iff.1 hr).1
  refine ⟨⟨?_, ?_, ?_, ?_, ?_, ?_⟩, hle⟩
  · intro b e hb
    by_cases e1 : b = H.size
    · subst e1; simp
    · rw [Inj.add_other e1] at hb; have := hR.dom b e hb; simp; omega
  · intro b hb
    simp only [IH.size_push] at hb
    rw [IH.get_push, if_neg (by omega)]
    exact hR.fresh b (by omega)
  · intro b e hb
    by_cases e1 : b = H.size
    · subst e1; rw [Inj.add_same] at hb; cases hb; exact hlt
    · rw [Inj.add_other e1] at hb; exact hR.bound b e hb
  · intro b e o hb ho
    by_cases e1 : b = H.size
    · subst e1; rw [Inj.add_same] at hb; cases hb
      rw [IH.get_push, if_pos rfl] at ho; cases ho
      refine ⟨c, el, fz, hr, rfl, hs, fun i v hi => ?_, fun h => by simp [freeFz] at h, fun h => by simp at h⟩
      obtain ⟨v', h1, h2⟩ := hv i v hi
      exact ⟨v', h1, h2.mono hle⟩
    · rw [Inj.add_other e1] at hb
      rw [IH.get_push, if_neg e1] at ho
      exact (hR.obj b e o hb ho).mono hle
  · intro b1 b2 e1 e2 o1 o2 hne h1 h2 g1 g2 l1 l2 hr'
    by_cases x1 : b1 = H.size
    · subst x1
      rw [Inj.add_same] at h1; cases h1
      rw [Inj.add_other (Ne.symm hne)] at h2
      exact ⟨rfl, hro b2 e2 h2 hr'.symm⟩
    · rw [Inj.add_other x1] at h1
      by_cases x2 : b2 = H.size
      · subst x2
        rw [Inj.add_same] at h2; cases h2
        exact ⟨hro b1 e1 h1 hr', rfl⟩
      · rw [Inj.add_other x2] at h2
        rw [IH.get_push, if_neg x1] at g1
        rw [IH.get_push, if_neg x2] at g2
        exact hR.sep b1 b2 e1 e2 o1 o2 hne h1 h2 g1 g2 l1 l2 hr'
  · intro b1 b2 e1 e2 h1 h2 hr'
    by_cases x1 : b1 = H.size
    · subst x1
      rw [Inj.add_same] at h1; cases h1
      by_cases x2 : b2 = H.size
      · subst x2; rw [Inj.add_same] at h2; cases h2; rfl
      · rw [Inj.add_other x2] at h2; exact (hro b2 e2 h2 hr'.symm).symm
    · rw [Inj.add_other x1] at h1
      by_cases x2 : b2 = H.size
      · subst x2; rw [Inj.add_same] at h2; cases h2; exact hro b1 e1 h1 hr'
      · rw [Inj.add_other x2] at h2; exact hR.rosame b1 b2 e1 e2 h1 h2 hr'
end Go.Idl

namespace Go.Idl
variable {P : Program} {good : FuncId → Bool} {nat : Nats} {rd : Bool}

/-- what is known is less -/
structure Weak (p o : Out) : Prop where
  e : o.e = p.e
  env : ∀ (P : Program) (f : Inj) (l : List Value), VRelL P f p.env l → VRelL P f o.env l
  rel : ∀ (P : Program) (f : Inj) (w : World), Rel P f p.H w → Rel P f o.H w
  size : p.H.size ≤ o.H.size

theorem weak_xpost {B : Nat} {f : Inj} {H : IH} {w : World} {Q : Out → Prop} {e : Exit} {a : Act} {w' : World} (h : XPost P B f H w (fun p => ∃ o, Q o ∧ Weak p o) e a w') : XPost P B f H w Q e a w' := by
  obtain ⟨p, f', ⟨o, hq, hs⟩, h1, h2, h3, h4, h5⟩ := h
  exact ⟨o, f', hq, by rw [hs.e]; exact h1, hs.rel _ _ _ h2, h3.sizes (Nat.le_refl _) hs.size, hs.env _ _ _ h4, h5⟩

/-- code that comes to what is said, wherever it stands -/
def Holds (P : Program) (G : Nat → Bool) (rd : Bool) (c : Code) (env : Env) (H : IH) (Q : Out → Prop) : Prop :=
  ∀ (B : Nat) (F : Fence) (f : Inj) (a : Act) (w : World), Free F → rd = F.round.isSome → Rel P f H w → Glob G f → VRelL P f env a.tmps.toList → Marks B f w a.defers → c.wpIn F 0 P (XPost P B f H w Q) a w

structure Setup (P : Program) (good : FuncId → Bool) (nat : Nats) (G : Nat → Bool) : Prop where
  mix : P.follows .mixedOrders = true
  ext : NatExt nat
  spec : NatSpec P G nat
  good : Goods P good G

theorem Setup.run {G : Nat → Bool} (s : Setup P good nat G) (n : Nat) {c : Code} {env : Env} {H : IH} {Q : Out → Prop} (hc : codeOk G rd c = true) (h : (iex P good nat n (.code c env) H).holds Q) : Holds P G rd c env H Q := by
  intro B F f a w hF hr hR hG henv hm
  exact (sound_all s.ext s.spec s.good (fun _ _ hc hr => draw_sound s.mix hc hr) n).1 B F rd c env H f a w Q hF hr hR hG (codeOk_mono hG _ _ hc) henv hm h

theorem Holds.weak {G : Nat → Bool} {c : Code} {env : Env} {H : IH} {Q Q' : Out → Prop} (h : Holds P G rd c env H Q) (hq : ∀ p, Q p → ∃ o, Q' o ∧ Weak p o) : Holds P G rd c env H Q' := by
  intro B F f a w hF hr hR hG henv hm
  exact wpIn_mono (h B F f a w hF hr hR hG henv hm) fun e a w hx => weak_xpost (xpost_mono (.refl _ _ _) hq hx)

theorem Holds.seq {G : Nat → Bool} {x y : Code} {env env1 : Env} {H H1 : IH} {Q : Out → Prop} (hx : Holds P G rd x env H fun o => o = ⟨.normal, env1, H1⟩) (hy : Holds P G rd y env1 H1 Q) : Holds P G rd (.seq x y) env H Q := by
  intro B F f a w hF hr hR hG henv hm
  refine wpIn_seq (wpIn_mono (hx B F f a w hF hr hR hG henv hm) ?_)
  rintro e a' w' ⟨o, f', rfl, rfl, h1, h2, h3, h4⟩
  exact wpIn_mono (hy B F f' a' w' hF hr h1 (hG.mono h2.le) h3 h4) fun e a w => xpost_mono h2 fun _ h => h

/-- a function, from its code -/
theorem call_holds {G : Nat → Bool} {g : FuncId} {fn : Func} {c : Code} {args args' : List Value} {H : IH} {f : Inj} {w : World} {Q : Value × IH → Prop} (hfn : P.funcs[g]? = some fn) (hb : fn.body = some c)
    (hR : Rel P f H w) (hG : Glob G f) (ha : VRelL P f args args')
    (h : Holds P G false c (args ++ List.replicate (fn.ntmps - args.length) undef) H fun o => (o.e = .normal ∨ o.e = .ret) ∧ ∃ v, iresults P fn o.env o.H = some v ∧ Q (v, o.H)) : CallsIn Fence.wide 0 P g args'.toArray w (Comes P f H w Q) := by
  have henv : VRelL P f (args ++ List.replicate (fn.ntmps - args.length) undef) (args'.toArray ++ Array.replicate (fn.ntmps - args'.toArray.size) undef).toList := by
    have e1 : (args'.toArray ++ Array.replicate (fn.ntmps - args'.toArray.size) undef).toList = args' ++ List.replicate (fn.ntmps - args.length) undef := by simp [ha.1]
    rw [e1]
    refine ha.append ?_
    have key : ∀ n, VRelL P f (List.replicate n undef) (List.replicate n undef) := by
      intro n
      induction n with
      | zero => exact .nil
      | succ n ih => exact .cons .undef ih
    exact key _
  refine callsIn_of_wp_marks hfn hb trivial (wpIn_mono (h w.heap.size Fence.wide f _ w free_wide rfl hR hG henv (Nat.le_refl _)) ?_)
  rintro e a' w' ⟨o, f', ⟨he, v, hv, hq⟩, rfl, k1, k2, k3, k4⟩
  have done : LeavesInM Fence.wide 0 P fn a'.tmps (Comes P f H w Q) a'.defers .returning w' := by
    refine leaves_sound a'.defers w' k1 k4 fun w2 hR2 hsame hsz hot => ?_
    obtain ⟨v', h3, h4⟩ := results_sound (fn := fn) k3 hR2 hv
    refine ⟨v', h3, v', (v, o.H), f', rfl, hq, hR2, ⟨k2.isize, k2.stay, k2.le, by rw [hsz]; exact k2.size, fun r hr ho => ?_, k2.un, ⟨hot.1.trans k2.out.1, hot.2.1.trans k2.out.2.1, hot.2.2.trans k2.out.2.2⟩⟩, h4⟩
    obtain ⟨q1, q2⟩ := k2.keep r hr ho
    exact ⟨q1, by rw [hsame r (fun d hd => marks_ge _ k4 r hr d hd)]; exact q2⟩
  rcases he with he | he
  · rw [he]; exact done
  · rw [he]; exact done

/-! ### States as they are written down -/
noncomputable def ofPairs (l : List (Nat × Obj)) : Tr Obj := List.rec .nil (fun p _ ih => ih.set p.1 p.2) l
theorem ofPairs_get : ∀ (l : List (Nat × Obj)) (b : Nat) (o : Obj), (ofPairs l).get b = some o → (b, o) ∈ l
  | [], b, o, h => by cases h
  | p :: l, b, o, h => by
    have h' : ((ofPairs l).set p.1 p.2).get b = some o := h
    rw [Tr.get_set] at h'
    split at h'
    · rename_i e; cases h'; subst e; exact List.mem_cons_self
    · exact List.mem_cons_of_mem _ (ofPairs_get l b o h')
noncomputable def mkIH (l : List (Nat × Obj)) (n : Nat) : IH := ⟨ofPairs l, n, 0, []⟩

noncomputable def hasAll (H : IH) (n : Nat) (l : List (Nat × Obj)) : Bool := allR (fun p => cond (ooeq (H.get p.1) (some p.2)) (decide (p.1 < n)) false) l
/-- a value, or that it is not known -/
noncomputable def wkV (a b : Value) : Bool := cond (veq b unk) true (veq a b)
theorem wkL_rel {P : Program} {f : Inj} : ∀ (l m x : List Value), eqL wkV l m = true → VRelL P f l x → VRelL P f m x
  | [], m, x, h, hx => by
    have h' : m.isEmpty = true := h
    have : m = [] := by simpa using h'
    rw [this, hx.nil_left]; exact .nil
  | a :: l, [], x, h, _ => by
    have h' : false = true := h
    cases h'
  | a :: l, b :: m, x, h, hx => by
    have h' : cond (wkV a b) (eqL wkV l m) false = true := h
    obtain ⟨a', x', rfl, ha, ht⟩ := hx.uncons
    cases hw : wkV a b with
    | false => rw [hw] at h'; cases h'
    | true =>
      rw [hw] at h'
      refine .cons ?_ (wkL_rel l m x' h' ht)
      unfold wkV at hw
      cases hu : veq b unk with
      | true => rw [veq_sound hu]; exact .any a'
      | false => rw [hu] at hw; rw [← veq_sound hw]; exact ha
/-- it ends as is written down -/
noncomputable def endsAs (t : T Out) (env : Env) (l : List (Nat × Obj)) (n : Nat) : Bool :=
  match t with
  | .ret o => (match o.e with
    | .normal => cond (eqL wkV o.env env) (cond (Nat.beq o.H.size n) (hasAll o.H n l) false) false
    | _ => false)
  | _ => false

theorem IH.forget {H : IH} {l : List (Nat × Obj)} (hl : hasAll H H.size l = true) {f : Inj} {w : World} (h : Rel P f H w) : Rel P f (mkIH l H.size) w := by
  have hin : ∀ b o, (mkIH l H.size).get b = some o → H.get b = some o ∧ b < H.size := by
    intro b o hb
    have hm := ofPairs_get l b o hb
    have := allR_iff.1 hl _ hm
    simp only at this
    cases ho : ooeq (H.get b) (some o) with
    | false => rw [ho] at this; cases this
    | true => rw [ho] at this; exact ⟨ooeq_sound ho, by simpa using this⟩
  refine ⟨h.dom, fun b hb => ?_, h.bound, fun b e o hb ho => h.obj b e o hb (hin b o ho).1, fun b1 b2 e1 e2 o1 o2 hne h1 h2 g1 g2 => h.sep b1 b2 e1 e2 o1 o2 hne h1 h2 (hin _ _ g1).1 (hin _ _ g2).1, h.rosame⟩
  cases hg : (mkIH l H.size).get b with
  | none => rfl
  | some o => have h1 := (hin b o hg).2; have h2 : H.size ≤ b := hb; omega

theorem endsAs_holds {t : T Out} {env : Env} {l : List (Nat × Obj)} {n : Nat} (h : endsAs t env l n = true) : t.holds fun p => ∃ o, o = ⟨.normal, env, mkIH l n⟩ ∧ Weak p o := by
  unfold endsAs at h
  split at h
  · rename_i o
    split at h
    · rename_i he
      cases h1 : eqL wkV o.env env with
      | false => rw [h1] at h; cases h
      | true =>
        rw [h1] at h
        cases h2 : Nat.beq o.H.size n with
        | false => rw [h2] at h; cases h
        | true =>
          rw [h2] at h
          have hn : o.H.size = n := Nat.eq_of_beq_eq_true h2
          subst hn
          exact ⟨_, rfl, he.symm, fun _ _ _ hh => wkL_rel _ _ _ h1 hh, fun _ _ _ hh => IH.forget h hh, Nat.le_refl _⟩
    · cases h
  · cases h

theorem Setup.piece {G : Nat → Bool} (s : Setup P good nat G) (n : Nat) {c : Code} {env env1 : Env} {H : IH} {l : List (Nat × Obj)} {m : Nat} (hc : codeOk G rd c = true) (h : endsAs (iex P good nat n (.code c env) H) env1 l m = true) :
    Holds P G rd c env H fun o => o = ⟨.normal, env1, mkIH l m⟩ :=
  (s.run n hc (endsAs_holds h)).weak fun _ h => h
end Go.Idl

namespace Go.Idl
variable {P : Program} {good : FuncId → Bool} {nat : Nats} {G : Nat → Bool} {rd : Bool}

theorem Holds.mono {c : Code} {env : Env} {H : IH} {Q Q' : Out → Prop} (h : Holds P G rd c env H Q) (hq : ∀ o, Q o → Q' o) : Holds P G rd c env H Q' := by
  intro B F f a w hF hr hR hG henv hm
  exact wpIn_mono (h B F f a w hF hr hR hG henv hm) fun e a w => xpost_mono (.refl _ _ _) hq

theorem Holds.seqQ {x y : Code} {env : Env} {H : IH} {Q1 Q : Out → Prop} (hx : Holds P G rd x env H Q1) (hy : ∀ o, Q1 o → o.e = .normal → Holds P G rd y o.env o.H Q) (ho : ∀ o, Q1 o → o.e ≠ .normal → Q o) : Holds P G rd (.seq x y) env H Q := by
  intro B F f a w hF hr hR hG henv hm
  refine wpIn_seq (wpIn_mono (hx B F f a w hF hr hR hG henv hm) ?_)
  rintro e a' w' ⟨o, f', hq, rfl, h1, h2, h3, h4⟩
  cases he : o.e with
  | normal => exact wpIn_mono (hy o hq he B F f' a' w' hF hr h1 (hG.mono h2.le) h3 h4) fun e a w => xpost_mono h2 fun _ h => h
  | exit id => exact ⟨o, f', ho o hq (by rw [he]; simp), by rw [he], h1, h2, h3, h4⟩
  | goto l => exact ⟨o, f', ho o hq (by rw [he]; simp), by rw [he], h1, h2, h3, h4⟩
  | ret => exact ⟨o, f', ho o hq (by rw [he]; simp), by rw [he], h1, h2, h3, h4⟩

theorem Holds.cond {v : Operand} {x y : Code} {env : Env} {H : IH} {Q : Out → Prop} {t : Bool} (hok : opdOk G v = true) (hv : env.val v = .bool t) (hx : t = true → Holds P G rd x env H Q) (hy : t = false → Holds P G rd y env H Q) : Holds P G rd (.cond v x y) env H Q := by
  intro B F f a w hF hr hR hG henv hm
  have hev := eval_rel henv (opdOk_mono hG hok)
  rw [hv] at hev
  refine wpIn_cond (t := t) hev.boolV ?_
  cases t with
  | true => exact hx rfl B F f a w hF hr hR hG henv hm
  | false => exact hy rfl B F f a w hF hr hR hG henv hm

def blockQ (id : Nat) (Q : Out → Prop) (o : Out) : Prop :=
  match o.e with
  | .exit id' => if id' = id then Q ⟨.normal, o.env, o.H⟩ else Q o
  | _ => Q o

theorem Holds.block {id : Nat} {x : Code} {env : Env} {H : IH} {Q : Out → Prop} (hx : Holds P G rd x env H (blockQ id Q)) : Holds P G rd (.block id x) env H Q := by
  intro B F f a w hF hr hR hG henv hm
  refine wpIn_block (wpIn_mono (hx B F f a w hF hr hR hG henv hm) ?_)
  rintro e a' w' ⟨o, f', hq, rfl, h1, h2, h3, h4⟩
  unfold blockQ at hq
  cases he : o.e with
  | normal => rw [he] at hq; exact ⟨o, f', hq, by rw [he], h1, h2, h3, h4⟩
  | exit id' =>
    rw [he] at hq
    simp only [exitOf, Exit.inBlock]
    simp only at hq
    by_cases hid : id' = id
    · rw [if_pos hid]
      rw [if_pos hid] at hq
      exact ⟨⟨.normal, o.env, o.H⟩, f', hq, rfl, h1, h2, h3, h4⟩
    · rw [if_neg hid]
      rw [if_neg hid] at hq
      exact ⟨o, f', hq, by rw [he]; rfl, h1, h2, h3, h4⟩
  | goto l => rw [he] at hq; exact ⟨o, f', hq, by rw [he], h1, h2, h3, h4⟩
  | ret => rw [he] at hq; exact ⟨o, f', hq, by rw [he], h1, h2, h3, h4⟩

theorem Holds.skip {env : Env} {H : IH} {Q : Out → Prop} (h : Q ⟨.normal, env, H⟩) : Holds P G rd .skip env H Q := by
  intro B F f a w hF hr hR hG henv hm
  exact wpIn_skip (xpost_ret (e := .normal) hR henv hm h)
theorem Holds.label {l : Nat} {env : Env} {H : IH} {Q : Out → Prop} (h : Q ⟨.normal, env, H⟩) : Holds P G rd (.label l) env H Q := by
  intro B F f a w hF hr hR hG henv hm
  exact wpIn_label (xpost_ret (e := .normal) hR henv hm h)
theorem Holds.ret {env : Env} {H : IH} {Q : Out → Prop} (h : Q ⟨.ret, env, H⟩) : Holds P G rd .ret env H Q := by
  intro B F f a w hF hr hR hG henv hm
  exact wpIn_ret (xpost_ret (e := .ret) hR henv hm h)
theorem Holds.exit {id : Nat} {env : Env} {H : IH} {Q : Out → Prop} (h : Q ⟨.exit id, env, H⟩) : Holds P G rd (.exit id) env H Q := by
  intro B F f a w hF hr hR hG henv hm
  exact wpIn_exit (xpost_ret (e := .exit id) hR henv hm h)

theorem Holds.scope {x : Code} {env : Env} {H : IH} {Q : Out → Prop} (hx : Holds P G rd x env H fun o => (∀ l, o.e ≠ .goto l) ∧ Q o) : Holds P G rd (.scope x) env H Q := by
  intro B F f a w hF hr hR hG henv hm
  refine wpIn_scope_straight (wpIn_mono (hx B F f a w hF hr hR hG henv hm) ?_)
  rintro e a' w' ⟨o, f', ⟨hn, hq⟩, rfl, h1, h2, h3, h4⟩
  cases he : o.e with
  | normal => exact ⟨o, f', hq, by rw [he], h1, h2, h3, h4⟩
  | exit id => exact ⟨o, f', hq, by rw [he], h1, h2, h3, h4⟩
  | goto l => exact absurd he (hn l)
  | ret => exact ⟨o, f', hq, by rw [he], h1, h2, h3, h4⟩

/-- a loop: what holds at its head, with a number that falls -/
theorem Holds.loop {x : Code} {Q : Out → Prop} (I : Nat → Env → IH → Prop)
    (hx : ∀ n env H, I n env H → Holds P G rd x env H fun o => match o.e with
      | .normal => ∃ m, m < n ∧ I m o.env o.H
      | _ => Q o) {n : Nat} {env : Env} {H : IH} (h : I n env H) : Holds P G rd (.loop x) env H Q := by
  intro B F f a w hF hr hR hG henv hm
  let J : Act → World → Nat → Prop := fun a1 w1 m => ∃ env1 H1 f1, I m env1 H1 ∧ Rel P f1 H1 w1 ∧ Grow f H w f1 H1 w1 ∧ VRelL P f1 env1 a1.tmps.toList ∧ Marks B f1 w1 a1.defers
  refine wpIn_loop (fun a1 w1 => ∃ m, J a1 w1 m) (fun a1 w1 => least (J a1 w1)) ⟨n, env, H, f, h, hR, .refl _ _ _, henv, hm⟩ ?_
  intro a1 w1 hI
  obtain ⟨⟨env1, H1, f1, hi, r1, g1, v1, m1⟩, hmin⟩ := least_spec hI
  generalize hm0 : least (J a1 w1) = m at *
  refine wpIn_mono (hx m env1 H1 hi B F f1 a1 w1 hF hr r1 (hG.mono g1.le) v1 m1) ?_
  rintro e a2 w2 ⟨o, f2, hq, rfl, k1, k2, k3, k4⟩
  cases he : o.e with
  | normal =>
    rw [he] at hq
    obtain ⟨m', hlt, hi'⟩ := hq
    have hJ : J a2 w2 m' := ⟨o.env, o.H, f2, hi', k1, g1.trans k2, k3, k4⟩
    exact ⟨⟨m', hJ⟩, by have := (least_spec ⟨m', hJ⟩).2 m' hJ; show least (J a2 w2) < _; omega⟩
  | exit id => rw [he] at hq; exact ⟨o, f2, hq, by rw [he], k1, g1.trans k2, k3, k4⟩
  | goto l => rw [he] at hq; exact ⟨o, f2, hq, by rw [he], k1, g1.trans k2, k3, k4⟩
  | ret => rw [he] at hq; exact ⟨o, f2, hq, by rw [he], k1, g1.trans k2, k3, k4⟩

/-! ### Regions -/
theorem Setup.region (s : Setup P good nat G) (n : Nat) {id : Nat} {ops : Array Oper} {env env1 : Env} {H H1 : IH} {Q : Out → Prop} (hok : opsOk G ops = true) (h : iops P (iex P good nat n) nat ops ops.toList env H = .ret (env1, H1))
    (hq : Q ⟨.normal, env1, H1⟩) : Holds P G rd (.region id ops false) env H Q := by
  refine s.run (n + 1) (by simp [codeOk, hok]) ?_
  have e : iex P good nat (n + 1) (.code (.region id ops false) env) H = (iops P (iex P good nat n) nat ops ops.toList env H).bind fun r => .ret ⟨.normal, r.1, r.2⟩ := rfl
  rw [e, h]
  exact hq
theorem Setup.draw (s : Setup P good nat G) (n : Nat) {id : Nat} {ops : Array Oper} {env env1 : Env} {H H1 : IH} {Q : Out → Prop} (hok : opsOk G ops = true) (hd : drawOk ops = true) (h : idraw P (iex P good nat n) nat ops env H = some (env1, H1))
    (hq : Q ⟨.normal, env1, H1⟩) : Holds P G rd (.region id ops true) env H Q := by
  refine s.run (n + 1) (by simp [codeOk, hok, hd]) ?_
  have e : iex P good nat (n + 1) (.code (.region id ops true) env) H = drawStep (idraw P (iex P good nat n) nat ops env H) := rfl
  rw [e, h]
  exact hq

/-! ### Contracts -/
/-- a contract of a function with a value without addresses, from its code -/
theorem Setup.plain (s : Setup P good nat G) {g : FuncId} {fn : Func} {c : Code} (k : List Value → IH → Option Value) (hfn : P.funcs[g]? = some fn) (hb : fn.body = some c)
    (hk : ∀ args H v, k args H = some v → plainV v = true ∧ Holds P G false c (args ++ List.replicate (fn.ntmps - args.length) undef) H fun o => (o.e = .normal ∨ o.e = .ret) ∧ iresults P fn o.env o.H = some v ∧ Old H o.H) : Setup P good (addNat nat g k) G := by
  refine ⟨s.mix, addNat_ext s.ext, ?_, s.good⟩
  intro x y h args args' H f w Q hR hG ha hq
  unfold addNat at h
  cases hbx : Nat.beq x g with
  | false => rw [hbx] at h; exact s.spec x y h args args' H f w Q hR hG ha hq
  | true =>
    rw [hbx] at h
    have hx : x = g := Nat.eq_of_beq_eq_true hbx
    subst hx
    cases h
    unfold ofK at hq
    split at hq
    · rename_i v hv
      obtain ⟨hp, hh⟩ := hk args H v hv
      have := call_holds (Q := fun r => r.1 = v ∧ Old H r.2) hfn hb hR hG ha (hh.mono fun o ho => ⟨ho.1, v, ho.2.1, rfl, ho.2.2⟩)
      refine CallsIn.mono this ?_
      rintro e w' ⟨v', r, f', rfl, ⟨rfl, hold⟩, k1, k2, k3⟩
      obtain ⟨d1, d2⟩ := hR.drop k1 k2 fun b o hb ho => by rw [hold.get b hb]; exact ho
      exact ⟨v', (r.1, H), f, rfl, hq, d1, d2, by rw [k3.plain hp]; exact .base r.1 hp⟩
    · exact hq.elim
end Go.Idl

namespace Go.Idl
variable {P : Program} {good : FuncId → Bool} {nat : Nats} {G : Nat → Bool} {rd : Bool}

/-- old memory of the world is as it was -/
theorem Rel.same {f : Inj} {H : IH} {w w' : World} (h : Rel P f H w) (hs : w.heap.size ≤ w'.heap.size) (hw : ∀ r, r < w.heap.size → w'.heap[r]? = w.heap[r]?) (hout : w'.os = w.os ∧ w'.output = w.output ∧ w'.tape = w.tape) : Rel P f H w' ∧ Grow f H w f H w' :=
  ⟨⟨h.dom, h.fresh, fun b e hb => Nat.lt_of_lt_of_le (h.bound b e hb) hs, fun b e o hb ho => by rw [hw _ (h.bound b e hb)]; exact h.obj b e o hb ho, h.sep, h.rosame⟩,
    ⟨Nat.le_refl _, fun _ _ h => h, f.le_refl, hs, fun r hr ho => ⟨ho, hw r hr⟩, fun _ _ h => h, hout⟩⟩

theorem Setup.addC (s : Setup P good nat G) {g : FuncId} (k : List Value → IH → Option Value)
    (hk : ∀ args H v, k args H = some v → ∀ (args' : List Value) (f : Inj) (w : World), Rel P f H w → Glob G f → VRelL P f args args' → CallsIn Fence.wide 0 P g args'.toArray w (Comes P f H w fun r => r = (v, H))) : Setup P good (addNat nat g k) G := by
  refine ⟨s.mix, addNat_ext s.ext, ?_, s.good⟩
  intro x y h args args' H f w Q hR hG ha hq
  unfold addNat at h
  cases hbx : Nat.beq x g with
  | false => rw [hbx] at h; exact s.spec x y h args args' H f w Q hR hG ha hq
  | true =>
    rw [hbx] at h
    have hx : x = g := Nat.eq_of_beq_eq_true hbx
    subst hx
    cases h
    unfold ofK at hq
    split at hq
    · rename_i v hv
      refine CallsIn.mono (hk args H v hv args' f w hR hG ha) ?_
      rintro e w' ⟨v', r, f', rfl, rfl, k1, k2, k3⟩
      exact ⟨v', (v, H), f', rfl, hq, k1, k2, k3⟩
    · exact hq.elim

/-- the globals alone, nothing known of them -/
def globInj (n : Nat) : Inj := fun g => cond (Nat.blt g n) (some ⟨g, 0, 0, true⟩) none
def globG (n : Nat) : Nat → Bool := fun g => Nat.blt g n
theorem globInj_some {n g : Nat} {e : Emb} (h : globInj n g = some e) : g < n ∧ e = ⟨g, 0, 0, true⟩ := by
  unfold globInj at h
  cases hb : Nat.blt g n with
  | false => rw [hb] at h; cases h
  | true => rw [hb] at h; cases h; exact ⟨Nat.le_of_ble_eq_true hb, rfl⟩
theorem globInj_glob (n : Nat) : Glob (globG n) (globInj n) := by
  intro g hg
  have hg' : Nat.blt g n = true := hg
  rw [globOk_iff]
  exact ⟨⟨g, 0, 0, true⟩, by unfold globInj; rw [hg']; rfl, rfl, rfl⟩
theorem globInj_rel (n : Nat) {w : World} (h : n ≤ w.heap.size) : Rel P (globInj n) (mkIH [] n) w := by
  have hnone : ∀ b, (mkIH [] n).get b = none := fun _ => rfl
  refine ⟨fun b e hb => (globInj_some hb).1, fun b _ => hnone b, fun b e hb => ?_, fun b e o _ ho => ?_, fun b1 b2 e1 e2 o1 o2 _ _ _ g1 => ?_, fun b1 b2 e1 e2 h1 h2 _ => ?_⟩
  · obtain ⟨h1, rfl⟩ := globInj_some hb; exact Nat.lt_of_lt_of_le h1 h
  · rw [hnone] at ho; cases ho
  · rw [hnone] at g1; cases g1
  · rw [(globInj_some h1).2, (globInj_some h2).2]

/-- a function without arguments, run on a heap of its own -/
theorem call_own {n : Nat} {g : FuncId} {fn : Func} {c : Code} {v : Value} (hv : plainV v = true) (hfn : P.funcs[g]? = some fn) (hb : fn.body = some c)
    (h : Holds P (globG n) false c (List.replicate fn.ntmps undef) (mkIH [] n) fun o => (o.e = .normal ∨ o.e = .ret) ∧ iresults P fn o.env o.H = some v)
    {H : IH} {f : Inj} {w : World} (hR : Rel P f H w) (hG : Glob (globG n) f) : CallsIn Fence.wide 0 P g #[] w (Comes P f H w fun r => r = (v, H)) := by
  have hn : n ≤ w.heap.size := by
    cases n with
    | zero => exact Nat.zero_le _
    | succ n =>
      have hg : globG (n + 1) n = true := Nat.ble_eq_true_of_le (Nat.le_refl _)
      obtain ⟨e, h1, h2, _⟩ := globOk_iff.1 (hG n hg)
      have := hR.bound n e h1
      omega
  have h0 := call_holds (P := P) (G := globG n) (args := []) (args' := []) (H := mkIH [] n) (f := globInj n) (w := w) (Q := fun r => r.1 = v) hfn hb (globInj_rel n hn) (globInj_glob n) .nil
    (by
      have e1 : ([] ++ List.replicate (fn.ntmps - ([] : List Value).length) undef : List Value) = List.replicate fn.ntmps undef := by simp
      rw [e1]
      exact h.mono fun o ho => ⟨ho.1, v, ho.2, rfl⟩)
  refine CallsIn.mono h0 ?_
  rintro e w' ⟨v', r, f', rfl, rfl, k1, k2, k3⟩
  obtain ⟨d1, d2⟩ := hR.same k2.size (fun r hr => (k2.keep r hr fun ⟨b, e, hb, _, hro⟩ => by rw [(globInj_some hb).2] at hro; cases hro).2) k2.out
  exact ⟨v', (r.1, H), f, rfl, rfl, d1, d2, by rw [k3.plain hv]; exact .base r.1 hv⟩

/-- one statement of a list -/
theorem Setup.step (s : Setup P good nat G) (n : Nat) {c x y : Code} {env env1 : Env} {H : IH} {l : List (Nat × Obj)} {m : Nat} {Q : Out → Prop} (hc : c = .seq x y) (hok : codeOk G rd x = true)
    (hp : endsAs (iex P good nat n (.code x env) H) env1 l m = true) (hy : Holds P G rd y env1 (mkIH l m) Q) : Holds P G rd c env H Q := by
  rw [hc]
  exact .seq (s.piece n hok hp) hy

noncomputable def resAs (P : Program) (fn : Func) (o : Out) (v : Value) : Bool :=
  match iresults P fn o.env o.H with
  | some u => veq u v
  | none => false
/-- it ends, and hands this back -/
noncomputable def retAs (P : Program) (fn : Func) (t : T Out) (v : Value) : Bool :=
  match t with
  | .ret o => (match o.e with
    | .normal => resAs P fn o v
    | .ret => resAs P fn o v
    | _ => false)
  | _ => false
theorem resAs_eq {fn : Func} {o : Out} {v : Value} (h : resAs P fn o v = true) : iresults P fn o.env o.H = some v := by
  unfold resAs at h
  split at h
  · rename_i u hu; rw [hu, veq_sound h]
  · cases h
theorem retAs_holds {fn : Func} {t : T Out} {v : Value} (h : retAs P fn t v = true) : t.holds fun o => (o.e = .normal ∨ o.e = .ret) ∧ iresults P fn o.env o.H = some v := by
  unfold retAs at h
  split at h
  · rename_i o
    split at h
    · rename_i he; exact ⟨.inl he, resAs_eq h⟩
    · rename_i he; exact ⟨.inr he, resAs_eq h⟩
    · cases h
  · cases h
theorem Setup.last (s : Setup P good nat G) (n : Nat) {c : Code} {env : Env} {H : IH} {fn : Func} {v : Value} (hok : codeOk G rd c = true) (h : retAs P fn (iex P good nat n (.code c env) H) v = true) :
    Holds P G rd c env H fun o => (o.e = .normal ∨ o.e = .ret) ∧ iresults P fn o.env o.H = some v :=
  s.run n hok (retAs_holds h)

/-- the statements of a list -/
def dropS : Nat → Code → Code
  | 0, c => c
  | n+1, .seq _ b => dropS n b
  | _, c => c
def headS : Code → Code
  | .seq a _ => a
  | c => c
noncomputable def mkEnv (n : Nat) (l : List (Nat × Value)) : Env := l.foldr (fun p e => setR e p.1 p.2) (List.replicate n unk)

/-! ### Every function's code is such as an ideal run may meet -/
noncomputable def okAt (P : Program) (G : Nat → Bool) (f : Nat) : Bool :=
  match P.funcs[f]? with
  | some fn => (match fn.body with
    | some c => codeOk G false c
    | none => true)
  | none => true
noncomputable def okFrom (P : Program) (G : Nat → Bool) : Nat → Nat → Bool
  | _, 0 => true
  | a, n + 1 => cond (okAt P G a) (okFrom P G (a + 1) n) false
theorem okFrom_at : ∀ (n a f : Nat), okFrom P G a n = true → a ≤ f → f < a + n → okAt P G f = true
  | 0, a, f, _, h1, h2 => by omega
  | n + 1, a, f, h, h1, h2 => by
    unfold okFrom at h
    cases ha : okAt P G a with
    | false => rw [ha] at h; cases h
    | true =>
      rw [ha] at h
      by_cases e : a = f
      · rw [← e]; exact ha
      · exact okFrom_at n (a + 1) f h (by omega) (by omega)
theorem goods_of (h : ∀ f, f < P.funcs.size → okAt P G f = true) : Goods P good G := by
  intro f fn c _ hfn hb
  have := h f (Array.getElem?_eq_some_iff.1 hfn).1
  unfold okAt at this
  rw [hfn] at this
  simp only [hb] at this
  exact this
end Go.Idl
