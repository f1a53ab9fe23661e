/- The soundness of ideal runs, and rules for their use. Conditions: none. -/
import Derived.Test.YtjgfemghlhmlbaaGreatDoorIdlF
set_option linter.all false
namespace Go.Idl
variable {P : Program} {good : FuncId -> Bool} {nat : xG}
def qSZ : xG := fun _ => none
theorem qWP : jY qSZ := by intro f k h; cases h
theorem qS5 {G : Nat -> Bool} : fQ P G qSZ := by intro f k h; cases h
end Go.Idl
namespace Go.Idl
variable {P : Program} {good : FuncId -> Bool} {nat : xG}
structure Old (H H' : IH) : Prop where
 size : H.size <= H'.size
 base : H'.base = H.base
 get : ∀ b, b < H.size -> H'.get b = H.get b
theorem Old.refl (H : IH) : Old H H := ⟨zQO _, rfl, fun _ _ => rfl⟩
theorem Old.trans {H H1 H2 : IH} (a : Old H H1) (b : Old H1 H2) : Old H H2 :=
 ⟨zQ6 a.size b.size, b.base.trans a.base, fun x hx => (b.get x (zQZ hx a.size)).trans (a.get x hx)⟩
theorem Old.push (H : IH) (o : Obj) : Old H (H.push o) := ⟨by simp, rfl, fun x hx => by rw [IH.zIM, if_neg (by omega)]⟩
def ofK (k : List Value -> IH -> Option Value) : List Value -> IH -> T (Value × IH) := fun args H => match k args H with
 | some v => .ret (v, H)
 | none => .fail
def addNat (nat : xG) (g : FuncId) (k : List Value -> IH -> Option Value) : xG := fun x => cond (Nat.beq x g) (some (ofK k)) (nat x)
theorem qSJ {g : FuncId} {k : List Value -> IH -> Option Value} (hn : jY nat) : jY (addNat nat g k) := by
 intro x y h args H;unfold addNat at h
 cases hb : Nat.beq x g with
 | false => rw [hb] at h; exact hn x y h args H
 | true =>
   rw [hb] at h;cases h;unfold ofK;split
   ·exact .refl _
   ·exact trivial
theorem Rel.zNZ {f : Inj} {H : IH} {w : World} {r s : Nat} {c : Array Value} {el : TypeId} {fz : Nat × Nat} (hR : Rel P f H w) (hr : w.heap[r]? = some (.cells c el fz)) (hro : ∀ b e, f b = some e -> e.r = r -> e.ro = true)
 (cI : Array Value) (elI : TypeId) (hs : s + cI.size <= c.size) (hv : ∀ (i : Nat) v, cI[i]? = some v -> ∃ v', c[s + i]? = some v' ∧ zIB P f v v') :
 Rel P (f.add H.size ⟨r, s, c.size, true⟩) (H.push (.cells cI elI (0, 1))) w ∧ f.le (f.add H.size ⟨r, s, c.size, true⟩) := by
 have hnone : f H.size = none := mY hR;have hle : f.le (f.add H.size ⟨r, s, c.size, true⟩) := Inj.zJC hnone;have hlt : r < w.heap.size := (zQ1.1 hr).1;refine ⟨⟨?_, ?_, ?_, ?_, ?_, ?_⟩, hle⟩
 ·intro b e hb;by_cases e1 : b = H.size
  ·subst e1; simp
  ·rw [Inj.zID e1] at hb; have := hR.dom b e hb; simp; omega
 ·intro b hb;simp only [IH.size_push] at hb;rw [IH.zIM, if_neg (by omega)];exact hR.fresh b (by omega)
 ·intro b e hb;by_cases e1 : b = H.size
  ·subst e1; rw [Inj.add_same] at hb; cases hb; exact hlt
  ·rw [Inj.zID e1] at hb; exact hR.bound b e hb
 ·intro b e o hb ho;by_cases e1 : b = H.size
  ·subst e1; rw [Inj.add_same] at hb; cases hb;rw [IH.zIM, if_pos rfl] at ho; cases ho;refine ⟨c, el, fz, hr, rfl, hs, fun i v hi => ?_, fun h => by simp [eY] at h, fun h => by simp at h⟩;obtain ⟨v', h1, h2⟩ := hv i v hi;exact ⟨v', h1, h2.mono hle⟩
  ·rw [Inj.zID e1] at hb;rw [IH.zIM, if_neg e1] at ho;exact (hR.obj b e o hb ho).mono hle
 ·intro b1 b2 e1 e2 o1 o2 hne h1 h2 g1 g2 l1 l2 hr';by_cases x1 : b1 = H.size
  ·subst x1;rw [Inj.add_same] at h1; cases h1;rw [Inj.zID (Ne.symm hne)] at h2;exact ⟨rfl, hro b2 e2 h2 hr'.symm⟩
  ·rw [Inj.zID x1] at h1;by_cases x2 : b2 = H.size
   ·subst x2;rw [Inj.add_same] at h2; cases h2;exact ⟨hro b1 e1 h1 hr', rfl⟩
   ·rw [Inj.zID x2] at h2;rw [IH.zIM, if_neg x1] at g1;rw [IH.zIM, if_neg x2] at g2;exact hR.sep b1 b2 e1 e2 o1 o2 hne h1 h2 g1 g2 l1 l2 hr'
 ·intro b1 b2 e1 e2 h1 h2 hr';by_cases x1 : b1 = H.size
  ·subst x1;rw [Inj.add_same] at h1; cases h1;by_cases x2 : b2 = H.size
   ·subst x2; rw [Inj.add_same] at h2; cases h2; rfl
   ·rw [Inj.zID x2] at h2; exact (hro b2 e2 h2 hr'.symm).symm
  ·rw [Inj.zID x1] at h1;by_cases x2 : b2 = H.size
   ·subst x2; rw [Inj.add_same] at h2; cases h2; exact hro b1 e1 h1 hr'
   ·rw [Inj.zID x2] at h2; exact hR.zIY b1 b2 e1 e2 h1 h2 hr'
end Go.Idl
namespace Go.Idl
variable {P : Program} {good : FuncId -> Bool} {nat : xG} {rd : Bool}
variable {G : Nat -> Bool} {H : IH} {Q : Out -> Prop} {c : Code} {env zIE : Env} {f : Inj} {l : List (Nat × Obj)} {w : World}
structure Weak (p o : Out) : Prop where
 e : o.e = p.e
 env : ∀ (P : Program) (f : Inj) (l : List Value), qC P f p.env l -> qC P f o.env l
 rel : ∀ (P : Program) (f : Inj) (w : World), Rel P f p.H w -> Rel P f o.H w
 size : p.H.size <= o.H.size
theorem qS8 {B : Nat} {e : Exit} {a : Act} {w' : World} (h : jG P B f H w (fun p => ∃ o, Q o ∧ Weak p o) e a w') : jG P B f H w Q e a w' := by
 obtain ⟨p, f', ⟨o, hq, hs⟩, h1, h2, h3, h4, h5⟩ := h;exact ⟨o, f', hq, by rw [hs.e]; exact h1, hs.rel _ _ _ h2, h3.sizes (zQO _) hs.size, hs.env _ _ _ h4, h5⟩
def Holds (P : Program) (G : Nat -> Bool) (rd : Bool) (c : Code) (env : Env) (H : IH) (Q : Out -> Prop) : Prop :=
 ∀ (B : Nat) (F : Fence) (f : Inj) (a : Act) (w : World), nO F -> rd = F.round.isSome -> Rel P f H w -> aP G f -> qC P f env a.tmps.toList -> Marks B f w a.defers -> c.wpIn F 0 P (jG P B f H w Q) a w
structure Setup (P : Program) (good : FuncId -> Bool) (nat : xG) (G : Nat -> Bool) : Prop where
 mix : P.follows .mixedOrders = true
 ext : jY nat
 spec : fQ P G nat
 good : qY1 P good G
theorem Setup.run (s : Setup P good nat G) (n : Nat) (hc : codeOk G rd c = true) (h : (iex P good nat n (.code c env) H).holds Q) : Holds P G rd c env H Q := by
 intro B F f a w hF hr hR hG zII hm;exact (qW4 s.ext s.spec s.good (fun _ _ hc hr => qT9 s.mix hc hr) n).1 B F rd c env H f a w Q hF hr hR hG (qX hG _ _ hc) zII hm h
theorem Holds.weak {Q' : Out -> Prop} (h : Holds P G rd c env H Q) (hq : ∀ p, Q p -> ∃ o, Q' o ∧ Weak p o) : Holds P G rd c env H Q' := by
 intro B F f a w hF hr hR hG zII hm;exact wpIn_mono (h B F f a w hF hr hR hG zII hm) fun e a w hx => qS8 (kR (.refl _ _ _) hq hx)
theorem Holds.seq {x y : Code} {H1 : IH} (hx : Holds P G rd x env H fun o => o = ⟨.normal, zIE, H1⟩) (hy : Holds P G rd y zIE H1 Q) : Holds P G rd (.seq x y) env H Q := by
 intro B F f a w hF hr hR hG zII hm;refine wpIn_seq (wpIn_mono (hx B F f a w hF hr hR hG zII hm) ?_);rintro e a' w' ⟨o, f', rfl, rfl, h1, h2, h3, h4⟩;exact wpIn_mono (hy B F f' a' w' hF hr h1 (hG.mono h2.le) h3 h4) fun e a w => kR h2 fun _ h => h
theorem qFI {g : FuncId} {fn : Func} {args args' : List Value} {Q : Value × IH -> Prop} (hfn : P.funcs[g]? = some fn) (hb : fn.body = some c)
 (hR : Rel P f H w) (hG : aP G f) (ha : qC P f args args')
 (h : Holds P G false c (args ++ List.replicate (fn.ntmps - args.length) undef) H fun o => (o.e = .normal ∨ o.e = .ret) ∧ ∃ v, yR P fn o.env o.H = some v ∧ Q (v, o.H)) : CallsIn Fence.wide 0 P g args'.toArray w (Comes P f H w Q) := by
 have zII : qC P f (args ++ List.replicate (fn.ntmps - args.length) undef) (args'.toArray ++ Array.replicate (fn.ntmps - args'.toArray.size) undef).toList := by
  have e1 : (args'.toArray ++ Array.replicate (fn.ntmps - args'.toArray.size) undef).toList = args' ++ List.replicate (fn.ntmps - args.length) undef := by simp [ha.1]
  rw [e1];refine ha.append ?_
  have key : ∀ n, qC P f (List.replicate n undef) (List.replicate n undef) := by
   intro n
   induction n with
   | zero => exact .nil
   | succ n ih => exact .cons .undef ih
  exact key _
 refine callsIn_of_wp_marks hfn hb trivial (wpIn_mono (h w.heap.size Fence.wide f _ w qLC rfl hR hG zII (zQO _)) ?_);rintro e a' w' ⟨o, f', ⟨he, v, hv, hq⟩, rfl, k1, k2, k3, k4⟩
 have done : LeavesInM Fence.wide 0 P fn a'.tmps (Comes P f H w Q) a'.defers .returning w' := by
  refine bL a'.defers w' k1 k4 fun w2 hR2 hsame hsz hot => ?_
  obtain ⟨v', h3, h4⟩ := oC (fn := fn) k3 hR2 hv;refine ⟨v', h3, v', (v, o.H), f', rfl, hq, hR2, ⟨k2.zI8, k2.stay, k2.le, by rw [hsz]; exact k2.size, fun r hr ho => ?_, k2.un, ⟨hot.1.trans k2.out.1, hot.2.1.trans k2.out.2.1, hot.2.2.trans k2.out.2.2⟩⟩, h4⟩;obtain ⟨q1, q2⟩ := k2.keep r hr ho;exact ⟨q1, by rw [hsame r (fun d hd => qH9 _ k4 r hr d hd)]; exact q2⟩
 rcases he with he | he
 ·rw [he]; exact done
 ·rw [he]; exact done
noncomputable def qOH (l : List (Nat × Obj)) : Tr Obj := List.rec .nil (fun p _ ih => ih.set p.1 p.2) l
theorem qBY : ∀ (l : List (Nat × Obj)) (b : Nat) (o : Obj), (qOH l).get b = some o -> (b, o) ∈ l
 | [], b, o, h => by cases h
 | p :: l, b, o, h => by
   have h' : ((qOH l).set p.1 p.2).get b = some o := h;rw [Tr.zJU] at h';split at h'
   ·rename_i e; cases h'; subst e; exact zQT
   ·exact zQS _ (qBY l b o h')
noncomputable def qP6 (l : List (Nat × Obj)) (n : Nat) : IH := ⟨qOH l, n, 0, []⟩
noncomputable def hasAll (H : IH) (n : Nat) (l : List (Nat × Obj)) : Bool := yY (fun p => cond (q5L (H.get p.1) (some p.2)) (decide (p.1 < n)) false) l
noncomputable def wkV (a b : Value) : Bool := cond (veq b unk) true (veq a b)
theorem qZQ {P : Program} {f : Inj} : ∀ (l m x : List Value), eqL wkV l m = true -> qC P f l x -> qC P f m x
 | [], m, x, h, hx => by
   have h' : m.isEmpty = true := h;have : m = [] := by simpa using h'
   rw [this, hx.zIG]; exact .nil
 | a :: l, [], x, h, _ => by
   have h' : false = true := h;cases h'
 | a :: l, b :: m, x, h, hx => by
   have h' : cond (wkV a b) (eqL wkV l m) false = true := h;obtain ⟨a', x', rfl, ha, ht⟩ := hx.zIF
   cases hw : wkV a b with
   | false => rw [hw] at h'; cases h'
   | true =>
     rw [hw] at h';refine .cons ?_ (qZQ l m x' h' ht);unfold wkV at hw
     cases hu : veq b unk with
     | true => rw [uY hu]; exact .any a'
     | false => rw [hu] at hw; rw [<- uY hw]; exact ha
noncomputable def qLQ (t : T Out) (env : Env) (l : List (Nat × Obj)) (n : Nat) : Bool :=
 match t with
 | .ret o => (match o.e with
   | .normal => cond (eqL wkV o.env env) (cond (Nat.beq o.H.size n) (hasAll o.H n l) false) false
   | _ => false)
 | _ => false
theorem IH.forget (hl : hasAll H H.size l = true) (h : Rel P f H w) : Rel P f (qP6 l H.size) w := by
 have hin : ∀ b o, (qP6 l H.size).get b = some o -> H.get b = some o ∧ b < H.size := by
  intro b o hb;have hm := qBY l b o hb;have := xB.1 hl _ hm;simp only at this
  cases ho : q5L (H.get b) (some o) with
  | false => rw [ho] at this; cases this
  | true => rw [ho] at this; exact ⟨cZ ho, by simpa using this⟩
 refine ⟨h.dom, fun b hb => ?_, h.bound, fun b e o hb ho => h.obj b e o hb (hin b o ho).1, fun b1 b2 e1 e2 o1 o2 hne h1 h2 g1 g2 => h.sep b1 b2 e1 e2 o1 o2 hne h1 h2 (hin _ _ g1).1 (hin _ _ g2).1, h.zIY⟩
 cases hg : (qP6 l H.size).get b with
 | none => rfl
 | some o => have h1 := (hin b o hg).2; have h2 : H.size <= b := hb; omega
theorem qKT {t : T Out} {n : Nat} (h : qLQ t env l n = true) : t.holds fun p => ∃ o, o = ⟨.normal, env, qP6 l n⟩ ∧ Weak p o := by
 unfold qLQ at h;split at h
 ·rename_i o;split at h
  ·rename_i he
   cases h1 : eqL wkV o.env env with
   | false => rw [h1] at h; cases h
   | true =>
     rw [h1] at h
     cases h2 : Nat.beq o.H.size n with
     | false => rw [h2] at h; cases h
     | true =>
       rw [h2] at h;have hn : o.H.size = n := zQN h2;subst hn;exact ⟨_, rfl, he.symm, fun _ _ _ hh => qZQ _ _ _ h1 hh, fun _ _ _ hh => IH.forget h hh, zQO _⟩
  ·cases h
 ·cases h
theorem Setup.piece (s : Setup P good nat G) (n : Nat) {m : Nat} (hc : codeOk G rd c = true) (h : qLQ (iex P good nat n (.code c env) H) zIE l m = true) :
 Holds P G rd c env H fun o => o = ⟨.normal, zIE, qP6 l m⟩ :=
 (s.run n hc (qKT h)).weak fun _ h => h
end Go.Idl
namespace Go.Idl
variable {P : Program} {good : FuncId -> Bool} {nat : xG} {G : Nat -> Bool} {rd : Bool}
variable {H : IH} {Q : Out -> Prop} {env : Env} {x y : Code}
theorem Holds.mono {c : Code} {Q' : Out -> Prop} (h : Holds P G rd c env H Q) (hq : ∀ o, Q o -> Q' o) : Holds P G rd c env H Q' := by
 intro B F f a w hF hr hR hG zII hm;exact wpIn_mono (h B F f a w hF hr hR hG zII hm) fun e a w => kR (.refl _ _ _) hq
theorem Holds.zPF {Q1 : Out -> Prop} (hx : Holds P G rd x env H Q1) (hy : ∀ o, Q1 o -> o.e = .normal -> Holds P G rd y o.env o.H Q) (ho : ∀ o, Q1 o -> o.e ≠ .normal -> Q o) : Holds P G rd (.seq x y) env H Q := by
 intro B F f a w hF hr hR hG zII hm;refine wpIn_seq (wpIn_mono (hx B F f a w hF hr hR hG zII hm) ?_);rintro e a' w' ⟨o, f', hq, rfl, h1, h2, h3, h4⟩
 cases he : o.e with
 | normal => exact wpIn_mono (hy o hq he B F f' a' w' hF hr h1 (hG.mono h2.le) h3 h4) fun e a w => kR h2 fun _ h => h
 | exit id => exact ⟨o, f', ho o hq (by rw [he]; simp), by rw [he], h1, h2, h3, h4⟩
 | goto l => exact ⟨o, f', ho o hq (by rw [he]; simp), by rw [he], h1, h2, h3, h4⟩
 | ret => exact ⟨o, f', ho o hq (by rw [he]; simp), by rw [he], h1, h2, h3, h4⟩
theorem Holds.cond {v : Operand} {t : Bool} (hok : gK G v = true) (hv : env.val v = .bool t) (hx : t = true -> Holds P G rd x env H Q) (hy : t = false -> Holds P G rd y env H Q) : Holds P G rd (.cond v x y) env H Q := by
 intro B F f a w hF hr hR hG zII hm;have hev := qAM zII (jN hG hok);rw [hv] at hev;refine wpIn_cond (t := t) hev.zKF ?_
 cases t with
 | true => exact hx rfl B F f a w hF hr hR hG zII hm
 | false => exact hy rfl B F f a w hF hr hR hG zII hm
def qZ6 (id : Nat) (Q : Out -> Prop) (o : Out) : Prop :=
 match o.e with
 | .exit id' => if id' = id then Q ⟨.normal, o.env, o.H⟩ else Q o
 | _ => Q o
theorem Holds.block {id : Nat} (hx : Holds P G rd x env H (qZ6 id Q)) : Holds P G rd (.block id x) env H Q := by
 intro B F f a w hF hr hR hG zII hm;refine wpIn_block (wpIn_mono (hx B F f a w hF hr hR hG zII hm) ?_);rintro e a' w' ⟨o, f', hq, rfl, h1, h2, h3, h4⟩;unfold qZ6 at hq
 cases he : o.e with
 | normal => rw [he] at hq; exact ⟨o, f', hq, by rw [he], h1, h2, h3, h4⟩
 | exit id' =>
   rw [he] at hq;simp only [qJO, Exit.inBlock];simp only at hq;by_cases hid : id' = id
   ·rw [if_pos hid];rw [if_pos hid] at hq;exact ⟨⟨.normal, o.env, o.H⟩, f', hq, rfl, h1, h2, h3, h4⟩
   ·rw [if_neg hid];rw [if_neg hid] at hq;exact ⟨o, f', hq, by rw [he]; rfl, h1, h2, h3, h4⟩
 | goto l => rw [he] at hq; exact ⟨o, f', hq, by rw [he], h1, h2, h3, h4⟩
 | ret => rw [he] at hq; exact ⟨o, f', hq, by rw [he], h1, h2, h3, h4⟩
theorem Holds.skip (h : Q ⟨.normal, env, H⟩) : Holds P G rd .skip env H Q := by
 intro B F f a w hF hr hR hG zII hm;exact wpIn_skip (j3 (e := .normal) hR zII hm h)
theorem Holds.label {l : Nat} (h : Q ⟨.normal, env, H⟩) : Holds P G rd (.label l) env H Q := by
 intro B F f a w hF hr hR hG zII hm;exact wpIn_label (j3 (e := .normal) hR zII hm h)
theorem Holds.ret {env : Env} {H : IH} {Q : Out -> Prop} (h : Q ⟨.ret, env, H⟩) : Holds P G rd .ret env H Q := by
 intro B F f a w hF hr hR hG zII hm;exact wpIn_ret (j3 (e := .ret) hR zII hm h)
theorem Holds.exit {id : Nat} {env : Env} {H : IH} {Q : Out -> Prop} (h : Q ⟨.exit id, env, H⟩) : Holds P G rd (.exit id) env H Q := by
 intro B F f a w hF hr hR hG zII hm;exact wpIn_exit (j3 (e := .exit id) hR zII hm h)
theorem Holds.scope (hx : Holds P G rd x env H fun o => (∀ l, o.e ≠ .goto l) ∧ Q o) : Holds P G rd (.scope x) env H Q := by
 intro B F f a w hF hr hR hG zII hm;refine wB (wpIn_mono (hx B F f a w hF hr hR hG zII hm) ?_);rintro e a' w' ⟨o, f', ⟨hn, hq⟩, rfl, h1, h2, h3, h4⟩
 cases he : o.e with
 | normal => exact ⟨o, f', hq, by rw [he], h1, h2, h3, h4⟩
 | exit id => exact ⟨o, f', hq, by rw [he], h1, h2, h3, h4⟩
 | goto l => exact absurd he (hn l)
 | ret => exact ⟨o, f', hq, by rw [he], h1, h2, h3, h4⟩
theorem Holds.loop (I : Nat -> Env -> IH -> Prop)
 (hx : ∀ n env H, I n env H -> Holds P G rd x env H fun o => match o.e with
   | .normal => ∃ m, m < n ∧ I m o.env o.H
   | _ => Q o) {n : Nat} {env : Env} {H : IH} (h : I n env H) : Holds P G rd (.loop x) env H Q := by
 intro B F f a w hF hr hR hG zII hm
 let J : Act -> World -> Nat -> Prop := fun a1 w1 m => ∃ zIE H1 f1, I m zIE H1 ∧ Rel P f1 H1 w1 ∧ Grow f H w f1 H1 w1 ∧ qC P f1 zIE a1.tmps.toList ∧ Marks B f1 w1 a1.defers
 refine wpIn_loop (fun a1 w1 => ∃ m, J a1 w1 m) (fun a1 w1 => least (J a1 w1)) ⟨n, env, H, f, h, hR, .refl _ _ _, zII, hm⟩ ?_;intro a1 w1 hI;obtain ⟨⟨zIE, H1, f1, hi, r1, g1, v1, m1⟩, hmin⟩ := bU hI;generalize hm0 : least (J a1 w1) = m at *;refine wpIn_mono (hx m zIE H1 hi B F f1 a1 w1 hF hr r1 (hG.mono g1.le) v1 m1) ?_;rintro e a2 w2 ⟨o, f2, hq, rfl, k1, k2, k3, k4⟩
 cases he : o.e with
 | normal =>
   rw [he] at hq;obtain ⟨m', hlt, hi'⟩ := hq
   have hJ : J a2 w2 m' := ⟨o.env, o.H, f2, hi', k1, g1.trans k2, k3, k4⟩
   exact ⟨⟨m', hJ⟩, by have := (bU ⟨m', hJ⟩).2 m' hJ; show least (J a2 w2) < _; omega⟩
 | exit id => rw [he] at hq; exact ⟨o, f2, hq, by rw [he], k1, g1.trans k2, k3, k4⟩
 | goto l => rw [he] at hq; exact ⟨o, f2, hq, by rw [he], k1, g1.trans k2, k3, k4⟩
 | ret => rw [he] at hq; exact ⟨o, f2, hq, by rw [he], k1, g1.trans k2, k3, k4⟩
end Go.Idl
namespace Go.Idl
variable {P : Program} {good : FuncId -> Bool} {nat : xG} {G : Nat -> Bool} {rd : Bool}
variable {H : IH} {c : Code} {env : Env} {f : Inj} {fn : Func} {g : FuncId} {n : Nat} {v : Value} {w : World}
theorem Rel.same {w' : World} (h : Rel P f H w) (hs : w.heap.size <= w'.heap.size) (hw : ∀ r, r < w.heap.size -> w'.heap[r]? = w.heap[r]?) (hout : w'.os = w.os ∧ w'.output = w.output ∧ w'.tape = w.tape) : Rel P f H w' ∧ Grow f H w f H w' :=
 ⟨⟨h.dom, h.fresh, fun b e hb => zQZ (h.bound b e hb) hs, fun b e o hb ho => by rw [hw _ (h.bound b e hb)]; exact h.obj b e o hb ho, h.sep, h.zIY⟩,
   ⟨zQO _, fun _ _ h => h, f.le_refl, hs, fun r hr ho => ⟨ho, hw r hr⟩, fun _ _ h => h, hout⟩⟩
theorem Setup.zPG (s : Setup P good nat G) (k : List Value -> IH -> Option Value)
 (hk : ∀ args H v, k args H = some v -> ∀ (args' : List Value) (f : Inj) (w : World), Rel P f H w -> aP G f -> qC P f args args' -> CallsIn Fence.wide 0 P g args'.toArray w (Comes P f H w fun r => r = (v, H))) : Setup P good (addNat nat g k) G := by
 refine ⟨s.mix, qSJ s.ext, ?_, s.good⟩;intro x y h args args' H f w Q hR hG ha hq;unfold addNat at h
 cases hbx : Nat.beq x g with
 | false => rw [hbx] at h; exact s.spec x y h args args' H f w Q hR hG ha hq
 | true =>
   rw [hbx] at h;have hx : x = g := zQN hbx;subst hx;cases h;unfold ofK at hq;split at hq
   ·rename_i v hv;refine CallsIn.mono (hk args H v hv args' f w hR hG ha) ?_;rintro e w' ⟨v', r, f', rfl, rfl, k1, k2, k3⟩;exact ⟨v', (v, H), f', rfl, hq, k1, k2, k3⟩
   ·exact hq.elim
def aV (n : Nat) : Inj := fun g => cond (Nat.blt g n) (some ⟨g, 0, 0, true⟩) none
def wP (n : Nat) : Nat -> Bool := fun g => Nat.blt g n
theorem kU {g : Nat} {e : Emb} (h : aV n g = some e) : g < n ∧ e = ⟨g, 0, 0, true⟩ := by
 unfold aV at h
 cases hb : Nat.blt g n with
 | false => rw [hb] at h; cases h
 | true => rw [hb] at h; cases h; exact ⟨zQ4 hb, rfl⟩
theorem tK (n : Nat) : aP (wP n) (aV n) := by
 intro g hg;have hg' : Nat.blt g n = true := hg;rw [dO];exact ⟨⟨g, 0, 0, true⟩, by unfold aV; rw [hg']; rfl, rfl, rfl⟩
theorem qB1 (n : Nat) (h : n <= w.heap.size) : Rel P (aV n) (qP6 [] n) w := by
 have hnone : ∀ b, (qP6 [] n).get b = none := fun _ => rfl
 refine ⟨fun b e hb => (kU hb).1, fun b _ => hnone b, fun b e hb => ?_, fun b e o _ ho => ?_, fun b1 b2 e1 e2 o1 o2 _ _ _ g1 => ?_, fun b1 b2 e1 e2 h1 h2 _ => ?_⟩
 ·obtain ⟨h1, rfl⟩ := kU hb; exact zQZ h1 h
 ·rw [hnone] at ho; cases ho
 ·rw [hnone] at g1; cases g1
 ·rw [(kU h1).2, (kU h2).2]
theorem q2J (hv : zG v = true) (hfn : P.funcs[g]? = some fn) (hb : fn.body = some c)
 (h : Holds P (wP n) false c (List.replicate fn.ntmps undef) (qP6 [] n) fun o => (o.e = .normal ∨ o.e = .ret) ∧ yR P fn o.env o.H = some v)
 (hR : Rel P f H w) (hG : aP (wP n) f) : CallsIn Fence.wide 0 P g #[] w (Comes P f H w fun r => r = (v, H)) := by
 have hn : n <= w.heap.size := by
  cases n with
  | zero => exact zR4 _
  | succ n =>
    have hg : wP (n + 1) n = true := zRM (zQO _);obtain ⟨e, h1, h2, _⟩ := dO.1 (hG n hg);have := hR.bound n e h1;omega
 have h0 := qFI (P := P) (G := wP n) (args := []) (args' := []) (H := qP6 [] n) (f := aV n) (w := w) (Q := fun r => r.1 = v) hfn hb (qB1 n hn) (tK n) .nil
  (by
    have e1 : ([] ++ List.replicate (fn.ntmps - ([] : List Value).length) undef : List Value) = List.replicate fn.ntmps undef := by simp
    rw [e1]
    exact h.mono fun o ho => ⟨ho.1, v, ho.2, rfl⟩)
 refine CallsIn.mono h0 ?_;rintro e w' ⟨v', r, f', rfl, rfl, k1, k2, k3⟩;obtain ⟨d1, d2⟩ := hR.same k2.size (fun r hr => (k2.keep r hr fun ⟨b, e, hb, _, hro⟩ => by rw [(kU hb).2] at hro; cases hro).2) k2.out;exact ⟨v', (r.1, H), f, rfl, rfl, d1, d2, by rw [k3.plain hv]; exact .base r.1 hv⟩
theorem Setup.step (s : Setup P good nat G) (n : Nat) {x y : Code} {zIE : Env} {l : List (Nat × Obj)} {m : Nat} {Q : Out -> Prop} (hc : c = .seq x y) (hok : codeOk G rd x = true)
 (hp : qLQ (iex P good nat n (.code x env) H) zIE l m = true) (hy : Holds P G rd y zIE (qP6 l m) Q) : Holds P G rd c env H Q := by
 rw [hc];exact .seq (s.piece n hok hp) hy
noncomputable def q2M (P : Program) (fn : Func) (o : Out) (v : Value) : Bool :=
 match yR P fn o.env o.H with
 | some u => veq u v
 | none => false
noncomputable def q31 (P : Program) (fn : Func) (t : T Out) (v : Value) : Bool :=
 match t with
 | .ret o => (match o.e with
   | .normal => q2M P fn o v
   | .ret => q2M P fn o v
   | _ => false)
 | _ => false
theorem qRB {o : Out} (h : q2M P fn o v = true) : yR P fn o.env o.H = some v := by
 unfold q2M at h;split at h
 ·rename_i u hu; rw [hu, uY h]
 ·cases h
theorem qOF {t : T Out} (h : q31 P fn t v = true) : t.holds fun o => (o.e = .normal ∨ o.e = .ret) ∧ yR P fn o.env o.H = some v := by
 unfold q31 at h;split at h
 ·rename_i o;split at h
  ·rename_i he; exact ⟨.inl he, qRB h⟩
  ·rename_i he; exact ⟨.inr he, qRB h⟩
  ·cases h
 ·cases h
theorem Setup.last (s : Setup P good nat G) (n : Nat) (hok : codeOk G rd c = true) (h : q31 P fn (iex P good nat n (.code c env) H) v = true) :
 Holds P G rd c env H fun o => (o.e = .normal ∨ o.e = .ret) ∧ yR P fn o.env o.H = some v :=
 s.run n hok (qOF h)
def jS : Nat -> Code -> Code
 | 0, c => c
 | n+1, .seq _ b => jS n b
 | _, c => c
def q8W : Code -> Code
 | .seq a _ => a
 | c => c
noncomputable def zFD (n : Nat) (l : List (Nat × Value)) : Env := l.foldr (fun p e => yQ e p.1 p.2) (List.replicate n unk)
noncomputable def zC5 (P : Program) (G : Nat -> Bool) (f : Nat) : Bool :=
 match P.funcs[f]? with
 | some fn => (match fn.body with
   | some c => codeOk G false c
   | none => true)
 | none => true
noncomputable def qE0 (P : Program) (G : Nat -> Bool) : Nat -> Nat -> Bool
 | _, 0 => true
 | a, n + 1 => cond (zC5 P G a) (qE0 P G (a + 1) n) false
theorem nV : ∀ (n a f : Nat), qE0 P G a n = true -> a <= f -> f < a + n -> zC5 P G f = true
 | 0, a, f, _, h1, h2 => by omega
 | n + 1, a, f, h, h1, h2 => by
   unfold qE0 at h
   cases ha : zC5 P G a with
   | false => rw [ha] at h; cases h
   | true =>
     rw [ha] at h;by_cases e : a = f
     ·rw [<- e]; exact ha
     ·exact nV n (a + 1) f h (by omega) (by omega)
theorem q02 (h : ∀ f, f < P.funcs.size -> zC5 P G f = true) : qY1 P good G := by
 intro f fn c _ hfn hb;have := h f (zQ1.1 hfn).1;unfold zC5 at this;rw [hfn] at this;simp only [hb] at this;exact this
end Go.Idl
namespace Go.Idl
variable {P : Program} {good : FuncId -> Bool} {nat : xG} {rd : Bool}
section
variable {o : Oper} {t : TypeId} {k : IntKind} {a b : Int} {env : Env} {H : IH}
theorem q8V {op : BinOp} {v : Value} (h : dZ op k a b = some v) : xV P o op t (.int k a) (.int k b) env H = some (.val v H) := by
 unfold xV zI2 asI;simp only [qWW, cond_true, h]
end
noncomputable def enters (P : Program) (g : FuncId) : Bool := match P.funcs[g]? with
 | some fn => fn.body.isSome && (fn.name != "runtime.NumGoroutine")
 | none => false
theorem qI4 {o : Oper} {f : Operand} {args : Array Operand} {ts : Array TypeId} {env : Env} {H : IH} {g : FuncId} {first captured : Array Value} (hf : env.val f = .func (.func g) first captured) (he : enters P g = true) :
 yH P o ⟨.value f, args, ts⟩ env H = some (.enter g (qL4 first.toList (qL4 (kV env.val args.toList) captured.toList)) H) := by
 have : fB P ⟨.value f, args, ts⟩ env H = some (.enter g (qL4 first.toList (qL4 (kV env.val args.toList) captured.toList)) H) := by
  unfold enters at he;unfold fB;simp only [hf];split at he
  ·rename_i fn hfn;simp only [zQM] at he;simp only [hfn, he.1, he.2, if_true]
  ·cases he
 unfold yH;rw [this]
end Go.Idl
namespace Go.Idl
variable {P : Program} {good : FuncId -> Bool} {nat : xG} {G : Nat -> Bool} {rd : Bool}
noncomputable def zAH (w : Bool) : Option Value -> Option Bool
 | some v => q0G w v
 | none => none
noncomputable def qTW (w : Bool) (env : Env) : Option Tmp -> Option Bool
 | some t => zAH w (zM env t)
 | none => some false
theorem qT8 {ops : Array Oper} {d : Option Tmp} {op : Op} {ty : TypeId} {p : String} {a : Array Edge} {env : Env} {j : Nat} {w : Bool} :
 xY ops ⟨d, op, ty, p, a, some (j, w)⟩ env = qTW w env ((ops[j]?).bind (·.dst)) := by
 unfold xY qTW;simp only;split
 ·rename_i t ht; simp only [ht]; rfl
 ·rename_i ht; simp only [ht]
end Go.Idl
namespace Go.Idl
end Go.Idl
namespace Go.Idl
variable {P : Program} {good : FuncId -> Bool} {nat : xG} {G : Nat -> Bool} {rd : Bool}
noncomputable def qT3 (ds : List (Option Tmp)) (j : Nat) : Option Tmp := match ds[j]? with
 | some d => d
 | none => none
noncomputable def qR3 (ds : List (Option Tmp)) (o : Oper) (env : Env) : Option Bool := match o.guard with
 | none => some true
 | some (j, w) => qTW w env (qT3 ds j)
theorem qOZ (ops : Array Oper) (o : Oper) (env : Env) : xY ops o env = qR3 (ops.toList.map (·.dst)) o env := by
 obtain ⟨d, op, ty, p, a, g⟩ := o
 cases g with
 | none => rfl
 | some jw =>
   obtain ⟨j, w⟩ := jw;rw [qT8];show qTW w env _ = qTW w env _
   congr 1
   unfold qT3;rw [zQU];have : ops.toList[j]? = ops[j]? := by simp
   rw [this];cases ops[j]? <;> rfl
end Go.Idl
namespace Go.Idl
variable {P : Program} {good : FuncId -> Bool} {nat : xG} {G : Nat -> Bool} {rd : Bool}
end Go.Idl
namespace Go.Idl
end Go.Idl
namespace Go.Idl
variable {P : Program}
end Go.Idl
namespace Go.Idl
variable {P : Program} {good : FuncId -> Bool} {nat : xG} {G : Nat -> Bool} {rd : Bool}
end Go.Idl
namespace Go.Idl
variable {P : Program} {good : FuncId -> Bool} {nat : xG} {G : Nat -> Bool} {rd : Bool}
end Go.Idl
namespace Go.Idl
end Go.Idl
namespace Go.Idl
variable {P : Program}
def sU (f : Inj) : Prop := ∀ b e, f b = some e -> e.ro = true
theorem sU.add {f : Inj} {b : Nat} {e : Emb} (h : sU f) (he : e.ro = true) : sU (f.add b e) := by
 intro x y hx;by_cases e1 : x = b
 ·subst e1; rw [Inj.add_same] at hx; cases hx; exact he
 ·rw [Inj.zID e1] at hx; exact h x y hx
theorem Rel.zLE {f : Inj} {H : IH} {w : World} (hR : Rel P f H w) (hro : sU f) (h0 : 0 < w.heap.size) : Rel P (f.add H.size ⟨0, 1, 0, true⟩) (H.push yZ) w ∧ f.le (f.add H.size ⟨0, 1, 0, true⟩) := by
 have hnone : f H.size = none := mY hR;have hle : f.le (f.add H.size ⟨0, 1, 0, true⟩) := Inj.zJC hnone;have zLX : sU (f.add H.size ⟨0, 1, 0, true⟩) := hro.add rfl;refine ⟨⟨?_, ?_, ?_, ?_, ?_, ?_⟩, hle⟩
 ·intro b e hb;by_cases e1 : b = H.size
  ·subst e1; simp
  ·rw [Inj.zID e1] at hb; have := hR.dom b e hb; simp; omega
 ·intro b hb;simp only [IH.size_push] at hb;rw [IH.zIM, if_neg (by omega)];exact hR.fresh b (by omega)
 ·intro b e hb;by_cases e1 : b = H.size
  ·subst e1; rw [Inj.add_same] at hb; cases hb; exact h0
  ·rw [Inj.zID e1] at hb; exact hR.bound b e hb
 ·intro b e o hb ho;by_cases e1 : b = H.size
  ·subst e1;rw [IH.zIM, if_pos rfl] at ho; cases ho;exact trivial
  ·rw [Inj.zID e1] at hb;rw [IH.zIM, if_neg e1] at ho;exact (hR.obj b e o hb ho).mono hle
 ·intro b1 b2 e1 e2 o1 o2 _ h1 h2 _ _ _ _ _;exact ⟨zLX b1 e1 h1, zLX b2 e2 h2⟩
 ·intro b1 b2 e1 e2 h1 h2 _;rw [zLX b1 e1 h1, zLX b2 e2 h2]
theorem qS4 {w : World} {a : Addr} {v : Value} (h : w.cell? a = some v) : a.spot = none ∧ ∃ c el fz, w.heap[a.block]? = some (.cells c el fz) ∧ c[a.off]? = some v := by
 unfold World.cell? at h;split at h
 ·rename_i c el fz hc;split at h
  ·cases h
  ·rename_i hs;exact ⟨by simpa using hs, c, el, fz, hc, h⟩
 ·cases h
theorem qZO {w : World} {a : Addr} {v : Value} {c : Array Value} {el : TypeId} {fz : Nat × Nat} {i : Nat} (hb : w.heap[a.block]? = some (.cells c el fz)) (hs : a.spot = none) (h : w.cell? (a.add i) = some v) : c[a.off + i]? = some v := by
 unfold Addr.add at h;by_cases hi : i = 0
 ·subst hi;rw [if_pos rfl] at h;unfold World.cell? at h;rw [hb] at h;simpa [hs] using h
 ·rw [if_neg hi] at h;unfold World.cell? at h;simpa [hb] using h
theorem zDC {f : Inj} {H : IH} {w : World} (hR : Rel P f H w) (hro : sU f) {a : Addr} {L C : Nat} (hLC : L <= C) (hC : 0 < C) (us : List Value) (hus : us.length = L) (V : Nat -> Value) (hcell : ∀ i, i < C -> w.cell? (a.add i) = some (V i))
 (hv : ∀ i u, us[i]? = some u -> zIB P f u (V i)) : ∃ el, Rel P (f.add H.size ⟨a.block, a.off, (match w.heap[a.block]? with | some (.cells c _ _) => c.size | _ => 0), true⟩) (H.push (.cells us.toArray el (0, 1))) w ∧
   f.le (f.add H.size ⟨a.block, a.off, (match w.heap[a.block]? with | some (.cells c _ _) => c.size | _ => 0), true⟩) ∧ a.spot = none := by
 have h0 := hcell 0 hC;have e0 : a.add 0 = a := by simp [Addr.add]
 rw [e0] at h0;obtain ⟨hs, c, el, fz, hb, hc0⟩ := qS4 h0
 have hsize : a.off + us.toArray.size <= c.size := by
  simp only [zTS, hus];by_cases hL : L = 0
  ·have := (zQ1.1 hc0).1; omega
  ·have := (zQ1.1 (qZO hb hs (hcell (L - 1) (by omega)))).1; omega
 have := hR.zNZ (r := a.block) (s := a.off) hb (fun b e hbe _ => hro b e hbe) us.toArray el hsize fun i v hi => by
  have hi' : us[i]? = some v := by simpa using hi
  have hlt : i < L := by rw [<- hus]; exact (zQQ.1 hi').1
  exact ⟨V i, qZO hb hs (hcell i (by omega)), hv i v hi'⟩
 refine ⟨el, ?_, ?_, hs⟩
 ·simp only [hb]; exact this.1
 ·simp only [hb]; exact this.2
end Go.Idl
namespace Go.Idl
variable {P : Program}
end Go.Idl
namespace Go.Idl
variable {P : Program} {good : FuncId -> Bool} {nat : xG} {G : Nat -> Bool} {rd : Bool}
variable {H : IH} {Q : Value × IH -> Prop} {args : List Value} {g : FuncId}
inductive WkL : List Value -> List Value -> Prop
 | nil : WkL [] []
 | same {v : Value} {l m : List Value} (h : WkL l m) : WkL (v :: l) (v :: m)
 | any {v : Value} {l m : List Value} (h : WkL l m) : WkL (v :: l) (unk :: m)
def Wk (R : Env -> IH -> Prop) : Env -> IH -> Prop := fun e h => ∃ e', WkL e e' ∧ R e' h
open Classical in
noncomputable def ofS {α : Type} (pre : α -> List Value -> IH -> Prop) (post : α -> IH -> Value -> IH -> Prop) : List Value -> IH -> T (Value × IH) := fun args H =>
 if h : ∃ x, pre x args H then .sp (fun r => post (Classical.choose h) H r.1 r.2) .ret else .fail
noncomputable def zJ2 (nat : xG) (g : FuncId) {α : Type} (pre : α -> List Value -> IH -> Prop) (post : α -> IH -> Value -> IH -> Prop) : xG := fun x => cond (Nat.beq x g) (some (ofS pre post)) (nat x)
theorem zA0 {α : Type} {pre : α -> List Value -> IH -> Prop} {post : α -> IH -> Value -> IH -> Prop} (uniq : ∀ x y args H, pre x args H -> pre y args H -> x = y) {x : α} {args : List Value} {H : IH} (hx : pre x args H) :
 ofS pre post args H = .sp (fun r => post x H r.1 r.2) .ret := by
 have h : ∃ x, pre x args H := ⟨x, hx⟩
 unfold ofS;rw [dif_pos h, uniq _ _ _ _ (Classical.choose_spec h) hx]
theorem q3F {α : Type} {pre : α -> List Value -> IH -> Prop} {post : α -> IH -> Value -> IH -> Prop} (hn : jY nat) : jY (zJ2 nat g pre post) := by
 intro x y h args H;unfold zJ2 at h
 cases hb : Nat.beq x g with
 | false => rw [hb] at h; exact hn x y h args H
 | true =>
   rw [hb] at h;cases h;unfold ofS;split
   ·exact trivial
   ·exact trivial
def qAC (P : Program) (G : Nat -> Bool) (g : FuncId) (args : List Value) (H : IH) (Q : Value × IH -> Prop) : Prop :=
 ∀ (args' : List Value) (f : Inj) (w : World), Rel P f H w -> aP G f -> qC P f args args' -> CallsIn Fence.wide 0 P g args'.toArray w (Comes P f H w Q)
theorem qAC.mono {g : FuncId} {args : List Value} {H : IH} {Q Q' : Value × IH -> Prop} (h : qAC P G g args H Q) (hq : ∀ r, Q r -> Q' r) : qAC P G g args H Q' := by
 intro args' f w hR hG ha;refine CallsIn.mono (h args' f w hR hG ha) ?_;rintro e w' ⟨v', r, f', k0, k1, k2, k3, k4⟩;exact ⟨v', r, f', k0, hq r k1, k2, k3, k4⟩
theorem qAC.of {fn : Func} {c : Code} {N : Nat} (hfn : P.funcs[g]? = some fn) (hb : fn.body = some c) (hN : fn.ntmps = N)
 (h : Holds P G false c (args ++ List.replicate (N - args.length) undef) H fun o => (o.e = .normal ∨ o.e = .ret) ∧ ∃ v, yR P fn o.env o.H = some v ∧ Q (v, o.H)) : qAC P G g args H Q := by
 subst hN;exact fun args' f w hR hG ha => qFI hfn hb hR hG ha h
theorem Setup.zJ2 (s : Setup P good nat G) {g : FuncId} {α : Type} (pre : α -> List Value -> IH -> Prop) (post : α -> IH -> Value -> IH -> Prop)
 (hk : ∀ x args H, pre x args H -> qAC P G g args H fun r => post x H r.1 r.2) : Setup P good (Go.Idl.zJ2 nat g pre post) G := by
 refine ⟨s.mix, q3F s.ext, ?_, s.good⟩;intro x y h args args' H f w Q hR hG ha hq;unfold Go.Idl.zJ2 at h
 cases hbx : Nat.beq x g with
 | false => rw [hbx] at h; exact s.spec x y h args args' H f w Q hR hG ha hq
 | true =>
   rw [hbx] at h;have hx : x = g := zQN hbx;subst hx;cases h;unfold ofS at hq;split at hq
   ·rename_i he;exact (hk _ args H (Classical.choose_spec he)).mono (fun r hr => hq r hr) args' f w hR hG ha
   ·exact hq.elim
def qEJ (P : Program) (G : Nat -> Bool) (l : Nat) (args : List Value) (H : IH) (Q : Value × IH -> Prop) : Prop :=
 ∀ (args' : List Value) (f : Inj) (w : World) (e : Emb), Rel P f H w -> aP G f -> f l = some e -> qC P f args args' ->
  ∃ fn tmps assign body, (Instr.yield e.r args'.toArray).run P w = .ok (.round e.r fn tmps assign body) w ∧ RoundIn Fence.wide 0 P e.r fn tmps assign body w (Comes P f H w Q)
theorem qEJ.mono {l : Nat} {args : List Value} {H : IH} {Q Q' : Value × IH -> Prop} (h : qEJ P G l args H Q) (hq : ∀ r, Q r -> Q' r) : qEJ P G l args H Q' := by
 intro args' f w e hR hG he ha;obtain ⟨fn, tmps, assign, body, h1, h2⟩ := h args' f w e hR hG he ha;refine ⟨fn, tmps, assign, body, h1, RoundIn.mono h2 ?_⟩;rintro e w' ⟨v', r, f', k0, k1, k2, k3, k4⟩;exact ⟨v', r, f', k0, hq r k1, k2, k3, k4⟩
noncomputable def qWF (rk : Nat -> List Value -> IH -> T (Value × IH)) : Job -> IH -> T Out
 | .round l args, H => (rk l args H).bind fun r => .ret ⟨.normal, [r.1], r.2⟩
 | _, _ => .fail
def q5O (P : Program) (G : Nat -> Bool) (rk : Nat -> List Value -> IH -> T (Value × IH)) : Prop := ∀ l args H Q, (rk l args H).holds Q -> qEJ P G l args H Q
theorem q7N {t : T (Value × IH)} (h : ((t.bind fun r => (.ret ⟨.normal, [r.1], r.2⟩ : T Out)).bind wI).holds Q) : t.holds Q := by
 rw [T.zIN, T.zIN] at h;exact T.zIO (fun r hr => hr) _ h
theorem q2O {rk : Nat -> List Value -> IH -> T (Value × IH)} (h : q5O P G rk) : jA P G (qWF rk) := by
 intro l args args' H f w e Q hR hG he ha hq;exact h l args H Q (q7N hq) args' f w e hR hG he ha
theorem qO7 {rk : Nat -> List Value -> IH -> T (Value × IH)} {l : Nat} : qEN (qWF rk) nat (some (.round l args H)) = ((rk l args H).bind fun r => (.ret ⟨.normal, [r.1], r.2⟩ : T Out)).bind wI := rfl
end Go.Idl
namespace Go.Idl
variable {P : Program}
variable {H : IH} {b : Nat} {o : Obj}
theorem wG (hb : b < H.size) : (H.push o).get b = H.get b := by rw [IH.zIM, if_neg (by omega)]
theorem gU : (H.push o).get H.size = some o := by rw [IH.zIM, if_pos rfl]
theorem sQ {x : Nat} (h : x ≠ b) : (H.put b o).get x = H.get x := by rw [IH.get_put, if_neg h]
theorem rU : (H.put b o).get b = some o := by rw [IH.get_put, if_pos rfl]
end Go.Idl
namespace Go.Idl
variable {P : Program} {good : FuncId -> Bool} {nat : xG} {G : Nat -> Bool} {rd : Bool}
end Go.Idl
namespace Go.Idl
variable {P : Program}
end Go.Idl
namespace Go.Idl
variable {P : Program}
end Go.Idl
namespace Go.Idl
variable {P : Program} {good : FuncId -> Bool} {nat : xG} {G : Nat -> Bool} {rd : Bool}
end Go.Idl
namespace Go.Idl
variable {P : Program}
end Go.Idl
namespace Go.Idl
variable {P : Program}
end Go.Idl
namespace Go.Idl
variable {P : Program} {good : FuncId -> Bool} {nat : xG} {G : Nat -> Bool} {rd : Bool}
end Go.Idl
namespace Go.Idl
variable {P : Program} {good : FuncId -> Bool} {nat : xG} {G : Nat -> Bool} {rd : Bool}
end Go.Idl
namespace Go.Idl
variable {P : Program}
end Go.Idl
namespace Go.Idl
variable {P : Program} {good : FuncId -> Bool} {nat : xG} {G : Nat -> Bool} {rd : Bool}
variable {H : IH} {Q : Value × IH -> Prop} {args : List Value} {l : Nat}
open Classical in
noncomputable def qNX (l0 : Nat) (zN0 : List Value) (H0 : IH) (Q0 : Value × IH -> Prop) : Nat -> List Value -> IH -> T (Value × IH) := fun l args H => if l = l0 ∧ args = zN0 ∧ H = H0 then .sp Q0 .ret else .fail
theorem q4B : qNX l args H Q l args H = .sp Q .ret := by unfold qNX; rw [if_pos ⟨rfl, rfl, rfl⟩]
theorem qTQ (h : qEJ P G l args H Q) : q5O P G (qNX l args H Q) := by
 intro l' args' H' Q' hq;unfold qNX at hq;split at hq
 ·rename_i hc;obtain ⟨rfl, rfl, rfl⟩ := hc;exact h.mono fun r hr => hq r hr
 ·exact hq.elim
theorem qSI {o : Oper} {f : Operand} {args : Array Operand} {ts : Array TypeId} {env : Env} {l : Nat} (hf : env.val f = .func (.yield l) #[] #[]) : yH P o ⟨.value f, args, ts⟩ env H = some (.round l (kV env.val args.toList) H) := by
 have : fB P ⟨.value f, args, ts⟩ env H = some (.round l (kV env.val args.toList) H) := by
  unfold fB;simp only [hf];rfl
 unfold yH;rw [this]
theorem q0O : qEN (qWF (qNX l args H Q)) nat (some (.round l args H)) = .sp Q .ret := by
 rw [qO7, q4B]; rfl
end Go.Idl
