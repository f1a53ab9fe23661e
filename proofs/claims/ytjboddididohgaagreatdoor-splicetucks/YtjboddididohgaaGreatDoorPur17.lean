/- Regions that draw their order, on values without a heap: whatever the order. Conditions: none. -/
import Derived.Test.YtjboddididohgaaGreatDoorPur16
import Derived.OrdersIn
set_option linter.all false
namespace Go.Idl
variable [Gc]
variable {P : Program} {G : Nat -> Bool} {nat : y7} {tab : uH} {nm : Nm} {good : FuncId -> Bool} {rd : Bool}
structure zBZ (ops : Array Oper) : Prop where
 back : ∀ j o, ops[j]? = some o -> ∀ e ∈ o.after, Region.binds .any e = true -> e.on < j
 dst : ∀ (i j : Nat) (o p : Oper) (d : Tmp), i ≠ j -> ops[i]? = some o -> ops[j]? = some p -> o.dst = some d -> p.dst ≠ some d
 reads : ∀ (i j : Nat) (o p : Oper) (d : Tmp), i ≠ j -> ops[i]? = some o -> ops[j]? = some p -> o.dst = some d -> d ∈ wN ops p ->
  jZ (Region.before ops) i j = true ∨ (qJ o = false ∧ jZ (Region.before ops) j i = true)
theorem Stat.z {ops : Array Oper} (st : Stat ops) : zBZ ops := ⟨st.back, st.dst, st.reads⟩
noncomputable def pat (env : List PV) (t : Nat) : PV := (zF env t).getD .unk
theorem nS {env : List PV} {t : Nat} (h : env.length <= t) : pat env t = .unk := by simp [pat, qF, zLB h]
theorem qFO (env : List PV) (d : Option Tmp) (v : PV) (t : Nat) : pat (yH env d v) t = if d = some t ∧ t < env.length then v else pat env t := by
 cases d with
 | none => simp [yH]
 | some d =>
   simp only [yH, pat, qF, zC, zKX, zJ8];by_cases h : d = t
   ·subst h;by_cases hl : d < env.length
    ·simp [hl]
    ·simp [hl]
   ·simp [h]
theorem qU9 (env : List PV) (d : Option Tmp) (v : PV) : (yH env d v).length = env.length := by
 cases d with
 | none => rfl
 | some d => simp [yH, zC]
theorem qST {a b : List PV} (hl : a.length = b.length) {t : Nat} (h : pat a t = pat b t) : zF a t = zF b t := by
 simp only [pat, qF] at h ⊢;by_cases ht : t < a.length
 ·rw [zJ5 ht, zJ5 (by omega)] at h ⊢;simpa using h
 ·rw [zLB (by omega), zLB (by omega)]
theorem qBZ {a b : List PV} (hl : a.length = b.length) (h : ∀ t, pat a t = pat b t) : a = b := by
 apply zK9;intro t;have := qST hl (h t)
 rwa [qF, qF] at this
section
variable {n0 : Nat} {ops : Array Oper} {zAC : List PV} {ph0 : PHp} {En : Nat -> List PV} {Hs : Nat -> PHp} {V : Nat -> PV} {E F : List (Nat × List Nat)} {N : List (Nat × Nat)} {W : List (Nat × PV)}
theorem qQL {ds : List (Option Tmp)} {b : DB} (t : TrI P tab nm ds b (ops.toList.take n0) zAC ph0 En Hs V 0 E F N W) (hn : n0 <= ops.size) {i : Nat} {o : Oper} (h : ops[i]? = some o) (hi : i < n0) :
 En (i + 1) = yH (En i) o.dst (V i) ∧ (0 + i, V i) ∈ W ∧
 ((jT ds o (En i) = some true ∧ zG P tab (qH nm o.dst) o (En i) (Hs i) = .ok (V i) (Hs (i + 1)) ∧ (needs o.op = true -> inP nm (qH nm o.dst) = true ∧ fI (qH nm o.dst) (Hs i) = true ∧ (0 + i, qH nm o.dst) ∈ N) ∧
    (qW o = true -> (0 + i, wlT nm o (En i)) ∈ E) ∧ (qW o = false -> (0 + i, dlT o (En i)) ∈ F)) ∨
   (jT ds o (En i) = some false ∧ V i = .tup [] ∧ Hs (i + 1) = Hs i)) := t.step i o (by rw [List.getElem?_take_of_lt hi]; simpa using h)
structure TrE (n0 : Nat) (ops : Array Oper) (zAC : List PV) (En : Nat -> List PV) (V : Nat -> PV) : Prop where
 e0 : En 0 = zAC
 step : ∀ i o, ops[i]? = some o -> i < n0 -> En (i + 1) = yH (En i) o.dst (V i)
theorem TrI.e {ds : List (Option Tmp)} {b : DB} (t : TrI P tab nm ds b (ops.toList.take n0) zAC ph0 En Hs V 0 E F N W) (hn : n0 <= ops.size) : TrE n0 ops zAC En V := ⟨t.e0, fun i o h hi => (qQL t hn h hi).1⟩
theorem fE (t : TrE n0 ops zAC En V) (hn : n0 <= ops.size) : ∀ i, i <= n0 -> (En i).length = zAC.length
 | 0, _ => by rw [t.e0]
 | i + 1, h => by
   obtain ⟨o, ho⟩ : ∃ o, ops[i]? = some o := ⟨_, zKH (by omega)⟩
   rw [t.step _ _ ho (by omega), qU9, fE t hn i (by omega)]
theorem qGD (t : TrE n0 ops zAC En V) (hn : n0 <= ops.size) {x : Nat} : ∀ i, i <= n0 -> (∀ k o, k < i -> ops[k]? = some o -> o.dst ≠ some x) -> pat (En i) x = pat zAC x
 | 0, _, _ => by rw [t.e0]
 | i + 1, h, hk => by
   obtain ⟨o, ho⟩ : ∃ o, ops[i]? = some o := ⟨_, zKH (by omega)⟩
   rw [t.step _ _ ho (by omega), qFO, if_neg (fun hc => hk i o (by omega) ho hc.1)];exact qGD t hn i (by omega) fun k o hk1 => hk k o (by omega)
theorem qQB (t : TrE n0 ops zAC En V) (hn : n0 <= ops.size) (st : zBZ ops) {k x : Nat} {o : Oper} (ho : ops[k]? = some o) (hd : o.dst = some x) (hx : x < zAC.length) : ∀ i, i <= n0 -> k < i -> pat (En i) x = V k
 | 0, _, h => by omega
 | i + 1, h, hk => by
   obtain ⟨p, hp⟩ : ∃ o, ops[i]? = some o := ⟨_, zKH (by omega)⟩
   rw [t.step _ _ hp (by omega), qFO];by_cases e : k = i
   ·subst e;rw [ho] at hp; cases hp;rw [if_pos ⟨hd, by rw [fE t hn k (by omega)]; exact hx⟩]
   ·rw [if_neg (fun hc => st.dst k i o p x e ho hp hd hc.1)];exact qQB t hn st ho hd hx i (by omega) (by omega)
theorem qOF {ds : List (Option Tmp)} {b : DB} (t : TrI P tab nm ds b (ops.toList.take n0) zAC ph0 En Hs V 0 E F N W) (hn : n0 <= ops.size) (hal : gZ ops = true) {i : Nat} {o : Oper} (ho : ops[i]? = some o) (hi : i < n0) (he : qW o = false) : Hs (i + 1) = Hs i := by
 rcases (qQL t hn ho hi).2.2 with ⟨_, h, _⟩ | ⟨_, _, h⟩
 ·exact (nE (nZ he).1 (nZ he).2 h).1
 ·exact h
theorem qPA {ds : List (Option Tmp)} {b : DB} (t : TrI P tab nm ds b (ops.toList.take n0) zAC ph0 En Hs V 0 E F N W) (hn : n0 <= ops.size) (hal : gZ ops = true) : ∀ (n p q : Nat), q = p + n -> q <= n0 -> (∀ k o, ops[k]? = some o -> qW o = true -> (k < p ↔ k < q)) -> Hs p = Hs q
 | 0, p, q, hq, _, _ => by rw [hq]; rfl
 | n + 1, p, q, hq, hle, h => by
   obtain ⟨o, ho⟩ : ∃ o, ops[p]? = some o := ⟨_, zKH (by omega)⟩
   have he : qW o = false := by
    cases he : qW o with
    | false => rfl
    | true => have := h p o ho he; omega
   rw [<- qOF t hn hal ho (by omega) he];refine qPA t hn hal n (p + 1) q (by omega) hle fun k o' hk hk' => ?_
   have := h k o' hk hk';constructor
   ·intro h1; omega
   ·intro h1; have := this.2 h1; omega
theorem qGE {ds : List (Option Tmp)} {b : DB} (t : TrI P tab nm ds b (ops.toList.take n0) zAC ph0 En Hs V 0 E F N W) (hn : n0 <= ops.size) {x j : Nat} : ∀ i, i <= n0 -> j <= i -> (∀ k o, j <= k -> k < i -> ops[k]? = some o -> o.dst ≠ some x) -> pat (En i) x = pat (En j) x
 | i, h, hj, hk => by
   by_cases e : j = i
   ·rw [e]
   ·cases i with
    | zero => omega
    | succ i =>
      obtain ⟨o, ho⟩ : ∃ o, ops[i]? = some o := ⟨_, zKH (by omega)⟩
      rw [(qQL t hn ho (by omega)).1, qFO, if_neg (fun hc => hk i o (by omega) (by omega) ho hc.1)];exact qGE t hn i (by omega) (by omega) fun k o h1 h2 => hk k o h1 (by omega)
theorem qLA {ds : List (Option Tmp)} {b : DB} (t : TrI P tab nm ds b (ops.toList.take n0) zAC ph0 En Hs V 0 E F N W) (hn : n0 <= ops.size) (hal : gZ ops = true) {j : Nat} {oj : Oper} (hoj : ops[j]? = some oj) (hf : yM oj = false) (ha : qJ oj = false) : ∀ (n p q : Nat), q = p + n -> q <= n0 ->
 (∀ k o, p <= k -> k < q -> ops[k]? = some o -> qW o = true -> ∀ ws, (k, ws) ∈ E -> (∀ l ∈ dlT oj (En j), l ∉ ws) ∨ qXN ops.toList j k = true) -> dS P tab oj (En j) (Hs p) (Hs q)
 | 0, p, q, hq, _, _ => by rw [hq]; exact .refl _
 | n + 1, p, q, hq, hle, h => by
   obtain ⟨o, ho⟩ : ∃ o, ops[p]? = some o := ⟨_, zKH (by omega)⟩
   have h1 : dS P tab oj (En j) (Hs p) (Hs (p + 1)) := by
    cases he : qW o with
    | false => rw [qOF t hn hal ho (by omega) he]; exact .refl _
    | true =>
      rcases (qQL t hn ho (by omega)).2.2 with ⟨_, hx, _, hE, _⟩ | ⟨_, _, hx⟩
      ·have hE := hE he;rw [zKP] at hE;rcases h p o (zJ3 _) (by omega) ho he _ hE with h2 | h2
       ·exact .tk hf ha fun l hl => qS4 hx (h2 l hl)
       ·have toL : ∀ i : Nat, ops.toList[i]? = ops[i]? := fun i => zM6 ..
        unfold qXN at h2;rw [toL, toL, hoj, ho] at h2;simp only at h2;split at h2
        ·rename_i ty a c ty' a' c' e1 e2;simp only [zJ1] at h2;obtain ⟨⟨⟨⟨c1, c2⟩, c3⟩, c4⟩, c5⟩ := h2;cases zJ2 c1;cases zJ2 c2;cases zJ2 c3;have hjp : j < p := zKB c4
         have nw : ∀ k o, j <= k -> k < p -> ops[k]? = some o -> o.dst ≠ some a ∧ o.dst ≠ some c := fun k o k1 k2 k3 => by
          have := zJ4.1 c5 (o, k) (zMC.2 (by rw [toL]; exact k3));have g1 : Nat.ble j k = true := zKW k1;have g2 : Nat.blt k p = true := zKW k2;simp only [g1, g2, zNP, zM2] at this
          cases hd : o.dst with
          | none => exact ⟨fun e => by (cases e), fun e => by (cases e)⟩
          | some d =>
            rw [hd] at this;simp only [zJ1, zKO] at this;exact ⟨fun e => by cases e; rw [rC] at this; exact absurd this.1 (by decide), fun e => by cases e; rw [rC] at this; exact absurd this.2 (by decide)⟩
         exact .look e1 e2 (qGE t hn p (by omega) (by omega) fun k o k1 k2 k3 => (nw k o k1 k2 k3).1) (qGE t hn p (by omega) (by omega) fun k o k1 k2 k3 => (nw k o k1 k2 k3).2) hx
        ·cases h2
      ·rw [hx]; exact .refl _
   exact h1.trans (qLA t hn hal hoj hf ha n (p + 1) q (by omega) hle fun k o' hk1 hk2 => h k o' (by omega) hk2)
open Classical in
noncomputable def qC9 (ops : Array Oper) (S : Array Bool) (zAC eF : List PV) : List PV := (List.range zAC.length).map fun t => if wr ops S t then pat eF t else pat zAC t
theorem jO (S : Array Bool) (eF : List PV) : (qC9 ops S zAC eF).length = zAC.length := by simp [qC9]
open Classical in
theorem uZ {S : Array Bool} {eF : List PV} (hl : eF.length = zAC.length) (t : Nat) : pat (qC9 ops S zAC eF) t = if wr ops S t then pat eF t else pat zAC t := by
 by_cases ht : t < zAC.length
 ·simp [qC9, pat, qF, zN5 ht]
 ·rw [nS (by rw [jO]; omega), nS (by omega), nS (by omega)];simp
theorem qZU (t : TrE n0 ops zAC En V) (hn : n0 <= ops.size) (st : zBZ ops) {S : Array Bool} (zBX : Clo ops S) (hsl : ∀ i, sel S i -> i < n0) {j : Nat} {o : Oper} (ho : ops[j]? = some o) (hjn0 : j <= n0) (hj : ¬ sel S j) (hp : ∀ i, jZ (Region.before ops) i j = true -> sel S i) :
 ∀ x ∈ wN ops o, pat (qC9 ops S zAC (En n0)) x = pat (En j) x := by
 intro x hx;have hjn := (zKC.1 ho).1
 have before : ∀ {k : Nat} {q : Oper}, k ≠ j -> ops[k]? = some q -> q.dst = some x -> jZ (Region.before ops) k j = true ∨ jZ (Region.before ops) j k = true := fun hk hq hd => by
  rcases st.reads _ j _ o x hk hq ho hd hx with h | ⟨_, h⟩
  ·exact .inl h
  ·exact .inr h
 rw [uZ (fE t hn _ (zJ3 _))];by_cases hw : wr ops S x
 ·rw [if_pos hw];obtain ⟨i, oi, hi, hs, hd⟩ := hw;have hij : i ≠ j := fun e => hj (e ▸ hs)
  have hb : jZ (Region.before ops) i j = true := by
   rcases before hij hi hd with h | h
   ·exact h
   ·exact absurd (zBX j i h hs) hj
  have hlt := vD st.back j i hb;by_cases hx' : x < zAC.length
  ·have := hsl i hs;rw [qQB t hn st hi hd hx' _ (zJ3 _) (by omega), qQB t hn st hi hd hx' j (by omega) hlt]
  ·rw [nS (env := En n0) (t := x) (by rw [fE t hn _ (zJ3 _)]; exact zNT hx'), nS (env := En j) (t := x) (by rw [fE t hn j (by omega)]; exact zNT hx')]
 ·rw [if_neg hw];refine (qGD t hn j (by omega) fun k q hk hq hd => ?_).symm;rcases before (by omega) hq hd with h | h
  ·exact hw ⟨k, q, hq, hp k h, hd⟩
  ·have := vD st.back k j h; omega
theorem qOO (t : TrE n0 ops zAC En V) (hn : n0 <= ops.size) (st : zBZ ops) {S : Array Bool} {j : Nat} {o : Oper} (ho : ops[j]? = some o) (hj0 : j < n0) (hjs : j < S.size) :
 qC9 ops (S.setIfInBounds j true) zAC (En n0) = yH (qC9 ops S zAC (En n0)) o.dst (V j) := by
 have hl := fE t hn _ (zJ3 _);have hjn := (zKC.1 ho).1;apply qBZ
 ·rw [qU9, jO, jO]
 intro x;rw [qFO, jO, uZ hl, uZ hl];by_cases hd : o.dst = some x
 ·have hw : wr ops (S.setIfInBounds j true) x := ⟨j, o, ho, (yK hjs).2 (.inl rfl), hd⟩
  rw [if_pos hw];by_cases hx : x < zAC.length
  ·rw [if_pos ⟨hd, hx⟩, qQB t hn st ho hd hx _ (zJ3 _) hj0]
  ·rw [if_neg (c := o.dst = some x ∧ x < zAC.length) (fun h => hx h.2), nS (by omega), nS (by omega)]; simp
 ·rw [if_neg (c := o.dst = some x ∧ x < zAC.length) (fun h => hd h.1)]
  have : wr ops (S.setIfInBounds j true) x ↔ wr ops S x := by
   constructor
   ·rintro ⟨i, oi, h1, h2, h3⟩;rcases (yK hjs).1 h2 with rfl | h2
    ·rw [ho] at h1; cases h1; exact absurd h3 hd
    ·exact ⟨i, oi, h1, h2, h3⟩
   ·rintro ⟨i, oi, h1, h2, h3⟩;exact ⟨i, oi, h1, (yK hjs).2 (.inr h2), h3⟩
  by_cases hw : wr ops S x
  ·rw [if_pos hw, if_pos (this.2 hw)]
  ·rw [if_neg hw, if_neg (fun h => hw (this.1 h))]
theorem qCR {o : Oper} {a c : List PV} (h : ∀ t ∈ wN ops o, pat a t = pat c t) : ∀ x ∈ o.op.operands, qK a x = qK c x := by
 intro x hx
 cases x with
 | tmp t => exact h t (zLL _ (zMA.2 ⟨.tmp t, zK3.1 hx, rfl⟩))
 | _ => rfl
theorem qAX {o : Oper} {a c : List PV} (hl : a.length = c.length) (h : ∀ t ∈ wN ops o, pat a t = pat c t) : jT (ops.toList.map (·.dst)) o a = jT (ops.toList.map (·.dst)) o c := by
 unfold jT;split
 ·rfl
 ·rename_i g w hg
  have hd : qQF (ops.toList.map (·.dst)) g = (ops[g]?).bind (·.dst) := by
   unfold qQF;rw [zKG];have : ops.toList[g]? = ops[g]? := by simp
   rw [this];cases ops[g]? <;> rfl
  unfold qN0;rw [hd]
  cases ht : (ops[g]?).bind (·.dst) with
  | none => rfl
  | some t =>
    simp only;rw [qST hl (h t (zLW _ (by rw [hg]; simp [ht])))]
def q9F (ops : Array Oper) (S : Array Bool) (p : Nat) : Prop := ∀ (j : Nat) (o : Oper), ops[j]? = some o -> qW o = true -> (sel S j ↔ j < p)
structure zDN (P : Program) (B : Nat) (nm : Nm) (ops : Array Oper) (zAC : List PV) (n0 : Nat) (En : Nat -> List PV) (Hs : Nat -> PHp) (Z0 : Nat -> Prop) (H0 : IH) (m0 : Nat -> Nat) (ph0 : PHp) (f0 : Inj) (w0 : World) (S : Array Bool) (a : Act) (w : World) (p : Nat) (Z : Nat -> Prop) (H : IH) (m : Nat -> Nat) (f : Inj) (q98 : Env) : Prop where
 size : S.size = ops.size
 clo : Clo ops S
 cut : q9F ops S p
 ple : p <= n0
 sl : ∀ i, sel S i -> i < n0
 rel : Rel P f H w
 grow : Grow f0 H0 w0 f H w
 zBO : qC P f q98 a.tmps.toList
 marks : Marks B f w a.defers
 hp : Hp P Z H (own m (Hs p))
 hb : H.base <= H.size
 env : VRL P Z H (own m (Hs p)) (qC9 ops S zAC (En n0)) q98
 step : Step Z0 H0 (own m0 ph0) Z H (own m (Hs p))
 kr : KR (inP nm) (own m0 ph0) (own m (Hs p))
theorem qME {k : Nat} : ∀ {l : List PV}, (∀ t, noK k (pat l t) = true) -> z8 k l = true
 | [], _ => rfl
 | x :: l, h => by
   simp only [z8, zJ1];refine ⟨h 0, qME fun t => ?_⟩;have := h (t + 1);exact this
theorem qSS {k : Nat} {l : List PV} (h : z8 k l = true) (t : Nat) : noK k (pat l t) = true := by
 unfold pat;rw [qF]
 cases he : l[t]? with
 | none => rfl
 | some x => exact wJ h he
theorem qQC {B : Nat} {F0 : Fence} (hF : dH F0) (hns : vC P G nat) (ht : qQY P nat tab) (t : TrI P tab nm (ops.toList.map (·.dst)) (dBo ops) (ops.toList.take n0) zAC ph0 En Hs V 0 E F N W) (hn : n0 <= ops.size) (hlast : ∀ i j, i < n0 -> n0 <= j -> j < ops.size -> jZ (Region.before ops) i j = true) (st : zBZ ops) (hal : gZ ops = true)
 (hck : dI (dBo ops) zAC E F N W = true) {K : Exit -> Act -> World -> Prop} {Z0 : Nat -> Prop} {H0 : IH} {m0 : Nat -> Nat} {f0 : Inj} {w0 : World}
 (hdone : ∀ (fuel : Nat) (S : Array Bool) (Z : Nat -> Prop) (H : IH) (m : Nat -> Nat) (f : Inj) (q98 : Env) (a : Act) (w : World), unl ops S <= fuel -> S.size = ops.size -> (∀ i, i < ops.size -> (sel S i ↔ i < n0)) -> Rel P f H w -> Grow f0 H0 w0 f H w -> qC P f q98 a.tmps.toList -> Marks B f w a.defers -> Hp P Z H (own m (Hs n0)) -> H.base <= H.size -> VRL P Z H (own m (Hs n0)) (En n0) q98 ->
   Step Z0 H0 (own m0 ph0) Z H (own m (Hs n0)) -> KR (inP nm) (own m0 ph0) (own m (Hs n0)) -> wpAnyIn F0 0 P .any ops K fuel S a w)
 (hG : uY G f0) (hok : uE (zD f0) ops = true) :
 ∀ (fuel : Nat) (S : Array Bool) (a : Act) (w : World), unl ops S <= fuel -> (∃ p Z H m f q98, zDN P B nm ops zAC n0 En Hs Z0 H0 m0 ph0 f0 w0 S a w p Z H m f q98) -> wpAnyIn F0 0 P .any ops K fuel S a w := by
 intro fuel;have hl := fE (t.e hn) hn _ (zJ3 _)
 have zA0 : ∀ {S : Array Bool}, S.size = ops.size -> Region.ready .any ops S = [] -> ∀ j, j < ops.size -> sel S j := by
  intro S hsz hr j
  induction j using Nat.strongRecOn with
  | _ j ih =>
    intro hj;by_cases hs : sel S j
    ·exact hs
    ·exfalso
     have : j ∈ Region.ready .any ops S := by
      rw [mem_ready];refine ⟨?_, ops[j], by simp [hj], fun e he hb => ?_⟩
      ·unfold sel at hs;rw [zKE] at hs ⊢;rw [zKH (by omega)] at hs ⊢;simpa using hs
      ·have hlt := st.back j ops[j] (by simp [hj]) e he hb;exact ih e.on hlt (by omega)
     rw [hr] at this;cases this
 have done : ∀ {fuel : Nat} {S : Array Bool} {a : Act} {w : World} {p : Nat} {Z : Nat -> Prop} {H : IH} {m : Nat -> Nat} {f : Inj} {q98 : Env}, unl ops S <= fuel -> zDN P B nm ops zAC n0 En Hs Z0 H0 m0 ph0 f0 w0 S a w p Z H m f q98 -> (∀ j, j < n0 -> sel S j) -> wpAnyIn F0 0 P .any ops K fuel S a w := by
  intro fuel S a w p Z H m f q98 hu s hall;have hcut : ∀ k o, ops[k]? = some o -> qW o = true -> (k < p ↔ k < n0) := fun k o hk he => (s.cut k o hk he).symm.trans ⟨fun h => s.sl k h, fun h => hall k h⟩
  have hpe : Hs p = Hs n0 := qPA t hn hal (n0 - p) p n0 (by have := s.ple; omega) (zJ3 _) hcut
  have hcur : qC9 ops S zAC (En n0) = En n0 := by
   apply qBZ
   ·rw [jO, hl]
   intro x;rw [uZ hl];by_cases hw : wr ops S x
   ·rw [if_pos hw]
   ·rw [if_neg hw];exact (qGD (t.e hn) hn _ (zJ3 _) fun k o hk ho hd => hw ⟨k, o, ho, hall k hk, hd⟩).symm
  have e1 := s.hp;have e2 := s.env;have e3 := s.step;have e4 := s.kr;rw [hpe] at e1 e2 e3 e4;rw [hcur] at e2;exact hdone fuel S Z H m f q98 a w hu s.size (fun i _ => ⟨s.sl i, hall i⟩) s.rel s.grow s.zBO s.marks e1 s.hb e2 e3 e4
 induction fuel with
 | zero =>
   rintro S a w hu ⟨p, Z, H, m, f, q98, s⟩
   have hall : ∀ j, j < n0 -> sel S j := by
    intro j hj;have hz : unl ops S = 0 := by omega
    unfold unl at hz;have := zNC.1 hz j (zMU.2 (by omega));unfold sel;simpa using this
   exact done hu s hall
 | succ fuel ih =>
   rintro S a w hu ⟨p, Z, H, m, f, q98, s⟩;by_cases hall : ∀ j, j < n0 -> sel S j
   ·exact done hu s hall
   refine ⟨fun hrd => absurd (fun j hj => zA0 s.size hrd j (by omega)) hall, fun j hj => ?_⟩;rw [mem_ready] at hj;obtain ⟨hjl, o, ho, zCI⟩ := hj;have hlt := (zKC.1 ho).1;have hjs : j < S.size := by rw [s.size]; exact hlt
   have hnj : ¬ sel S j := by
    unfold sel;rw [zKE, zKH hjs] at hjl ⊢;simp only [zLY] at hjl ⊢;rw [hjl]; simp
   have hpre : ∀ i, jZ (Region.before ops) i j = true -> sel S i := by
    intro i hb;obtain ⟨e, he, hbd, h3⟩ := (qFC st.back ho).1 hb;have := zCI e he hbd;rcases h3 with rfl | h3
    ·exact this
    ·exact s.clo _ _ h3 this
   have hj0 : j < n0 := by
    rcases Nat.lt_or_ge j n0 with h | h
    ·exact h
    ·exact absurd (fun i hi => hpre i (hlast i j hi h hlt)) hall
   have zGB : ∀ i, sel (S.setIfInBounds j true) i -> i < n0 := fun i hi => by
    rcases (yK hjs).1 hi with rfl | h
    ·exact hj0
    ·exact s.sl i h
   have hu' : unl ops (S.setIfInBounds j true) <= fuel := by
    have := qK4 hlt s.size hnj; omega
   have zBN := qKG hjs s.clo hpre
   have hok' : o.op.operands.toList.all (kU (zD f)) = true := by
    have h1 := kE (zI s.grow.le) hok;unfold uE at h1;exact zJ4.1 h1 o (zKZ (toL ho))
   have hag := qZU (t.e hn) hn st s.clo s.sl ho (by omega) hnj hpre;have hlen : (qC9 ops S zAC (En n0)).length = (En j).length := by rw [jO, fE (t.e hn) hn j (by omega)]
   have hval := qCR hag;have hwc := qAX (ops := ops) hlen hag;have hGf := hG.mono s.grow.le;obtain ⟨q1, q2, q3⟩ := qQL t hn ho hj0;unfold wpOpIn;rw [ho];simp only
   -- the next stand
   have zHJ : ∃ p', p' <= n0 ∧ q9F ops (S.setIfInBounds j true) p' ∧ (qW o = true -> p' = j + 1) ∧ (qW o = false -> p' = p) := by
    cases he : qW o with
    | true =>
      refine ⟨j + 1, hj0, ?_, fun _ => rfl, fun h => (by cases h)⟩;intro k q hk hq;rw [yK hjs];by_cases hkj : k = j
      ·subst hkj; simp
      ·rcases qH3 hal k j q o hkj hk ho hq he with h | h
       ·have := vD st.back j k h;exact ⟨fun _ => by omega, fun _ => .inr (hpre k h)⟩
       ·have := vD st.back k j h;refine ⟨fun hs => ?_, fun h2 => by omega⟩;rcases hs with hs | hs
        ·exact absurd hs hkj
        ·exact absurd (s.clo j k h hs) hnj
    | false =>
      refine ⟨p, s.ple, ?_, fun h => (by cases h), fun _ => rfl⟩;intro k q hk hq;rw [yK hjs];have hkj : k ≠ j := by intro e; subst e; rw [ho] at hk; cases hk; rw [he] at hq; cases hq
      simp only [hkj, false_or];exact s.cut k q hk hq
   have zB5 : qW o = true -> Hs p = Hs j := fun he => by
    have key : ∀ k q, ops[k]? = some q -> qW q = true -> (k < p ↔ k < j) := fun k q hk hq => by
     refine (s.cut k q hk hq).symm.trans ?_;by_cases hkj : k = j
     ·subst hkj; exact ⟨fun h => absurd h hnj, fun h => absurd h (zNB _)⟩
     ·rcases qH3 hal k j q o hkj hk ho hq he with h | h
      ·have := vD st.back j k h;exact ⟨fun _ => this, fun _ => hpre k h⟩
      ·have := vD st.back k j h;exact ⟨fun hs => absurd (s.clo j k h hs) hnj, fun hlt => by omega⟩
    by_cases hpj : p <= j
    ·exact qPA t hn hal (j - p) p j (by omega) (by omega) key
    ·exact (qPA t hn hal (p - j) j p (by omega) s.ple fun k q hk hq => (key k q hk hq).symm).symm
   obtain ⟨p', zEY, hcut', hpE, hpF⟩ := zHJ;have zCL := qOO (t.e hn) hn st ho hj0 hjs
   rcases q3 with ⟨g1, g2, g3, g4, g5⟩ | ⟨g1, g2, g3⟩
   ·rw [<- hwc] at g1;rw [yV s.zBO (pO s.env g1), if_pos rfl]
    -- the operation at this state
    have hx : ∃ php, zG P tab (qH nm o.dst) o (qC9 ops S zAC (En n0)) (Hs p) = .ok (V j) php ∧ php = Hs p' := by
     cases he : qW o with
     | true =>
       refine ⟨Hs (j + 1), ?_, by rw [hpE he]⟩;rw [zB5 he, fP hval]; exact g2
     | false =>
       have d1 := (nE (nZ he).1 (nZ he).2 g2).1;refine ⟨Hs p, ?_, by rw [hpF he]⟩;rw [fP hval];rw [d1] at g2;have hFj := g5 he;unfold dI at hck;rw [zJ1] at hck;have zHK := zJ4.1 hck.1 _ hFj
       have zGC : ∀ k q, ops[k]? = some q -> qW q = true -> (¬ (k < p ↔ k < j)) -> ∀ ws, (k, ws) ∈ E -> (∀ l ∈ dlT o (En j), l ∉ ws) ∨ qXN ops.toList j k = true := by
        intro k q hk hq hne ws hws;have := zJ4.1 zHK _ hws;simp only [zKP, zK7, zJ4] at this;rcases this with h | h | h
        ·exfalso;have hsk := s.cut k q hk hq;unfold qOE at h;rw [zK7] at h;rcases h with h | h
         ·have h1 := hpre k h;have h2 := vD st.back j k h;exact hne ⟨fun _ => h2, fun _ => hsk.1 h1⟩
         ·have h2 := vD st.back k j h;have h1 : ¬ sel S k := fun hs => hnj (s.clo j k h hs)
          exact hne ⟨fun hh => absurd (hsk.2 hh) h1, fun hh => by omega⟩
        ·exact .inr h
        ·refine .inl fun l hl hm => ?_
         have := h l hl;simp [hm] at this
       by_cases hpj : p <= j
       ·refine ((qLA t hn hal ho (nZ he).1 (nZ he).2 (j - p) p j (by omega) (by omega) fun k q h1 h2 hk hq ws hws => ?_) _ _).2 g2;exact zGC k q hk hq (fun h => by have := h.2 h2; omega) ws hws
       ·refine ((qLA t hn hal ho (nZ he).1 (nZ he).2 (p - j) j p (by omega) s.ple fun k q h1 h2 hk hq ws hws => ?_) _ _).1 g2;exact zGC k q hk hq (fun h => by have := h.1 h2; omega) ws hws
    obtain ⟨php, hx, rfl⟩ := hx
    have hfresh : needs o.op = true -> fresh nm (qH nm o.dst) (qC9 ops S zAC (En n0)) (Hs p) = true := by
     intro hnd
     have he : qW o = true := by
      unfold qW yM qJ y8
      cases hop : o.op <;> rw [hop] at hnd <;> first | (cases hnd; done) | rfl | skip
      ·cases hg : o.guard.isNone <;> rfl
      ·rename_i c;obtain ⟨cal, args, ts⟩ := c
       cases cal with
       | builtin b => cases b <;> first | (cases hnd; done) | rfl
       | _ => cases hnd
     obtain ⟨i1, i2, i3⟩ := g3 hnd;unfold fresh;rw [i1, zB5 he, i2, zME, zOC];unfold dI at hck;rw [zJ1] at hck;have hN := zJ4.1 hck.2 _ i3;rw [zJ1] at hN;refine qME fun x => ?_
     rw [uZ hl];by_cases hw : wr ops S x
     ·rw [if_pos hw];obtain ⟨i, oi, hi, hs, hd⟩ := hw;by_cases hx' : x < zAC.length
      ·have hin := (zKC.1 hi).1;rw [qQB (t.e hn) hn st hi hd hx' _ (zJ3 _) (s.sl i hs)];have hW := zJ4.1 hN.2 _ (qQL t hn hi (s.sl i hs)).2.1;simp only [zKP, zK7] at hW;rcases hW with h | h | h
       ·have := zJ2 h;subst this;exact absurd hs hnj
       ·exact absurd (s.clo j i h hs) hnj
       ·exact h
      ·rw [nS (env := En n0) (t := x) (by rw [hl]; exact zNT hx')]; rfl
     ·rw [if_neg hw];exact qSS hN.1 x
    refine qMI (nm := nm) hF hns ht s.rel hGf s.zBO hok' s.hp s.hb s.env (qHR hx) hfresh fun Z' m' u H' f' v' w' b1 b2 b3 b4 b5 k1 k2 k3 => ?_
    refine ih _ _ _ hu' ⟨p', Z', H', m', f', q98.zAQ o.dst u, by simp [s.size], zBN, hcut', zEY, zGB, k1, s.grow.trans k2, kJ (s.zBO.mono k2.le) k3 _, by rw [put_defers]; exact Marks.grow k2 _ s.marks, b1, by rw [b4.base]; exact zKL s.hb b4.size, ?_, s.step.trans b4, s.kr.trans b5⟩;rw [zCL];exact b3.zAQ b2 _
   ·rw [<- hwc] at g1;rw [yV s.zBO (pO s.env g1), if_neg (by simp)]
    have hpp : Hs p' = Hs p := by
     cases he : qW o with
     | true => rw [hpE he, g3, zB5 he]
     | false => rw [hpF he]
    have e1 := s.hp;have e2 := s.env;have e3 := s.step;have e4 := s.kr;rw [<- hpp] at e1 e2 e3 e4;refine ⟨fun g _ => hF.fn g, ih _ _ _ hu' ⟨p', Z, H, m, f, q98.zAQ o.dst undef, by simp [s.size], zBN, hcut', zEY, zGB, s.rel, s.grow, kJ s.zBO .undef _, by rw [put_defers]; exact s.marks, e1, s.hb, ?_, e3, e4⟩⟩;rw [zCL, g2];exact e2.zAQ (VRL.zCK (vs := #[]) .nil) _
theorem qGO {F0 : Fence} {K : Exit -> Act -> World -> Prop} : ∀ {fuel : Nat} {S : Array Bool} {a : Act} {w : World}, S.size = ops.size -> (∀ i, i < ops.size -> sel S i) -> K .normal a w -> wpAnyIn F0 0 P .any ops K fuel S a w := by
 intro fuel S a w hsz hall hk
 have hr : ∀ x, x ∉ Region.ready .any ops S := by
  intro x hx;rw [mem_ready] at hx;obtain ⟨h1, o, ho, _⟩ := hx;have hlt := (zKC.1 ho).1;have := hall x hlt;unfold sel at this;rw [zKE, zKH (by rw [hsz]; exact hlt)] at h1 this;simp only [zLY] at h1 this;rw [h1] at this; cases this
 cases fuel with
 | zero => exact ⟨List.eq_nil_iff_forall_not_mem.2 hr, hk⟩
 | succ fuel => exact ⟨fun _ => hk, fun j hj => absurd hj (hr j)⟩
theorem zA1.zGD (s : zA1 P good nat G tab) {env : List PV} {ph : PHp} {Qt : List PV -> PHp -> Prop} {B : Nat} (hn : n0 <= ops.size) (hlast : ∀ i j, i < n0 -> n0 <= j -> j < ops.size -> jZ (Region.before ops) i j = true) (hok : uE G ops = true) (hd : gY ops = true) (hal : gZ ops = true)
 (h : (qHB P tab nm (ops.toList.map (·.dst)) (dBo ops) env 0 (ops.toList.take n0) env ph [] [] [] []).holds P G Qt) {Z : Nat -> Prop} {H : IH} {m : Nat -> Nat} {q98 : Env} {F : Fence} {f : Inj} {a : Act} {w : World} {K : Exit -> Act -> World -> Prop}
 (hp : Hp P Z H (own m ph)) (hb : H.base <= H.size) (he : VRL P Z H (own m ph) env q98) (hF : dH F) (hR : Rel P f H w) (hG : uY G f) (zAG : qC P f q98 a.tmps.toList) (hm : Marks B f w a.defers)
 (hdone : ∀ (e : List PV) (p : PHp) (fuel : Nat) (S : Array Bool) (Z' : Nat -> Prop) (H' : IH) (m' : Nat -> Nat) (f' : Inj) (zAW : Env) (a' : Act) (w' : World), Qt e p -> unl ops S <= fuel -> S.size = ops.size -> (∀ i, i < ops.size -> (sel S i ↔ i < n0)) -> Rel P f' H' w' -> Grow f H w f' H' w' -> qC P f' zAW a'.tmps.toList -> Marks B f' w' a'.defers -> Hp P Z' H' (own m' p) -> H'.base <= H'.size -> VRL P Z' H' (own m' p) e zAW ->
   Step Z H (own m ph) Z' H' (own m' p) -> KR (inP nm) (own m ph) (own m' p) -> wpAnyIn F 0 P .any ops K fuel S a' w') : wpAnyIn F 0 P .any ops K ops.size (Array.replicate ops.size false) a { w with drawn := w.drawn + 1 } := by
 obtain ⟨En, Hs, V, E', F', N', W', t, _, _, _, _, hck, hq⟩ := qE1 _ _ _ _ _ _ _ _ h;have st := (qLQ hd).z;have hl : (ops.toList.take n0).length = n0 := by simp; omega
 rw [hl] at hq;refine qQC (B := B) hF s.s.spec s.t t hn hlast st hal hck (Z0 := Z) (H0 := H) (m0 := m) (f0 := f) (w0 := w) ?_ hG (kE hG hok) _ _ _ _ ?_ ⟨0, Z, H, m, f, q98, ?_⟩
 ·intro fuel S Z' H' m' f' zAW a' w' k1 k2 k3 k4 k5 k6 k7 k8 k9 k10 k11 k12;exact hdone _ _ fuel S Z' H' m' f' zAW a' w' hq k1 k2 k3 k4 k5 k6 k7 k8 k9 k10 k11 k12
 ·unfold unl;have := zNW (p := fun j => !(Array.replicate ops.size false).getD j false) (l := List.range ops.size);simpa using this
 ·have hsel : ∀ i, ¬ sel (Array.replicate ops.size false) i := by
   intro i h;unfold sel at h;rw [zKE, zNH] at h;split at h <;> simp at h
  have hcur : qC9 ops (Array.replicate ops.size false) env (En n0) = env := by
   apply qBZ (jO _ _);intro x;rw [uZ (fE (t.e hn) hn _ (zJ3 _)), if_neg];rintro ⟨j, o, _, h2, _⟩;exact hsel j h2
  have hw : Grow f H w f H { w with drawn := w.drawn + 1 } := Grow.world rfl;have h0 := t.h0;refine ⟨by simp, fun i j _ hj => absurd hj (hsel j), fun j o _ _ => ⟨fun h => absurd h (hsel j), fun h => by omega⟩, zL4 _, fun i h => absurd h (hsel i), hR.world rfl, hw, zAG, Marks.grow hw _ hm, by rw [h0]; exact hp, hb, by rw [h0, hcur]; exact he, by rw [h0]; exact .refl _ _ _, by rw [h0]; exact .refl _ _⟩
end
theorem zA1.drw (s : zA1 P good nat G tab) {id : Nat} {ops : Array Oper} {env : List PV} {ph : PHp} {Q : PQ} {ds : List (Option Tmp)} (hok : uE G ops = true) (hd : gY ops = true) (hal : gZ ops = true) (hds : ops.toList.map (·.dst) = ds)
 (h : (qHB P tab nm ds (dBo ops) env 0 ops.toList env ph [] [] [] []).holds P G fun e p => Q .normal e p) : Runs P G rd nm (.region id ops true) env ph Q := by
 intro Z H m q98 hp hb he B F f a w hF hr hR hG zAG hm;subst hds;have ht : ops.toList.take ops.size = ops.toList := by rw [<- zKU]; exact List.take_length
 refine wpIn_region_any s.s.mix (s.zGD (B := B) (n0 := ops.size) (K := jY P B f H w _) (zJ3 _) (fun i j _ h1 h2 => by omega) hok hd hal (by rw [ht]; exact h) hp hb he hF hR hG zAG hm ?_);intro e p fuel S Z' H' m' f' zAW a' w' hq k1 k2 k3 k4 k5 k6 k7 k8 k9 k10 k11 k12;exact qGO k2 (fun i hi => (k3 i hi).2 hi) ⟨⟨.normal, zAW, H'⟩, f', ⟨Z', m', e, p, k8, k10, k11, k12, hq⟩, rfl, k4, k5, k6, k7⟩
end Go.Idl
