/- Regions that draw their order, on values without a heap: whatever the order. Conditions: none. -/
import Derived.Test.YtjgfemghlhmlbaaGreatDoorPur16
import Derived.OrdersIn
set_option linter.all false
namespace Go.Idl
variable [Gc]
variable {P : Program} {G : Nat -> Bool} {nat : xG} {tab : fM} {nm : Nm} {good : FuncId -> Bool} {rd : Bool}
variable {B i j t : Nat} {F0 : Fence} {K : Exit -> Act -> World -> Prop} {S : Array Bool} {a b c env : List PV} {ds : List (Option Tmp)} {o : Oper} {ph : PHp}
noncomputable def pat (env : List PV) (t : Nat) : PV := (zM env t).getD .unk
theorem tT (h : env.length <= t) : pat env t = .unk := by simp [pat, qD, zQX h]
theorem qG0 (env : List PV) (d : Option Tmp) (v : PV) (t : Nat) : pat (yN env d v) t = if d = some t ∧ t < env.length then v else pat env t := by
 cases d with
 | none => simp [yN]
 | some d =>
   simp only [yN, pat, qD, qW, zRD, zQV];by_cases h : d = t
   ·subst h;by_cases hl : d < env.length
    ·simp [hl]
    ·simp [hl]
   ·simp [h]
theorem q0A (env : List PV) (d : Option Tmp) (v : PV) : (yN env d v).length = env.length := by
 cases d with
 | none => rfl
 | some d => simp [yN, qW]
theorem qZM (hl : a.length = b.length) (h : pat a t = pat b t) : zM a t = zM b t := by
 simp only [pat, qD] at h ⊢;by_cases ht : t < a.length
 ·rw [zQP ht, zQP (by omega)] at h ⊢;simpa using h
 ·rw [zQX (by omega), zQX (by omega)]
theorem qM3 (hl : a.length = b.length) (h : ∀ t, pat a t = pat b t) : a = b := by
 apply zRC;intro t;have := qZM hl (h t)
 rwa [qD, qD] at this
section
variable {n0 : Nat} {ops : Array Oper} {zIK : List PV} {ph0 : PHp} {En : Nat -> List PV} {Hs : Nat -> PHp} {V : Nat -> PV} {E F : List (Nat × List Nat)} {N : List (Nat × Nat)} {W : List (Nat × PV)}
theorem qLH {b : DB} (t : TrI P tab nm ds b (ops.toList.take n0) zIK ph0 En Hs V 0 E F N W) (hn : n0 <= ops.size) (h : ops[i]? = some o) (hi : i < n0) :
 En (i + 1) = yN (En i) o.dst (V i) ∧ (0 + i, V i) ∈ W ∧
 ((fK ds o (En i) = some true ∧ zY P tab (zL nm o.dst) o (En i) (Hs i) = .ok (V i) (Hs (i + 1)) ∧ (needs o.op = true -> inP nm (zL nm o.dst) = true ∧ dY (zL nm o.dst) (Hs i) = true ∧ (0 + i, zL nm o.dst) ∈ N) ∧
    (zJ o = true -> (0 + i, wlT nm o (En i)) ∈ E) ∧ (zJ o = false -> (0 + i, dlT o (En i)) ∈ F)) ∨
   (fK ds o (En i) = some false ∧ V i = .tup [] ∧ Hs (i + 1) = Hs i)) := t.step i o (by rw [List.getElem?_take_of_lt hi]; simpa using h)
theorem oU {ds : List (Option Tmp)} {b : DB} (t : TrI P tab nm ds b (ops.toList.take n0) zIK ph0 En Hs V 0 E F N W) (hn : n0 <= ops.size) : ∀ i, i <= n0 -> (En i).length = zIK.length
 | 0, _ => by rw [t.e0]
 | i + 1, h => by
   obtain ⟨o, ho⟩ : ∃ o, ops[i]? = some o := ⟨_, zQ5 (by omega)⟩
   rw [(qLH t hn ho (by omega)).1, q0A, oU t hn i (by omega)]
theorem qOW {ds : List (Option Tmp)} {b : DB} (t : TrI P tab nm ds b (ops.toList.take n0) zIK ph0 En Hs V 0 E F N W) (hn : n0 <= ops.size) {x : Nat} : ∀ i, i <= n0 -> (∀ k o, k < i -> ops[k]? = some o -> o.dst ≠ some x) -> pat (En i) x = pat zIK x
 | 0, _, _ => by rw [t.e0]
 | i + 1, h, hk => by
   obtain ⟨o, ho⟩ : ∃ o, ops[i]? = some o := ⟨_, zQ5 (by omega)⟩
   rw [(qLH t hn ho (by omega)).1, qG0, if_neg (fun hc => hk i o (by omega) ho hc.1)];exact qOW t hn i (by omega) fun k o hk1 => hk k o (by omega)
theorem qXJ {ds : List (Option Tmp)} {b : DB} (t : TrI P tab nm ds b (ops.toList.take n0) zIK ph0 En Hs V 0 E F N W) (hn : n0 <= ops.size) (st : Stat ops) {k x : Nat} {o : Oper} (ho : ops[k]? = some o) (hd : o.dst = some x) (hx : x < zIK.length) : ∀ i, i <= n0 -> k < i -> pat (En i) x = V k
 | 0, _, h => by omega
 | i + 1, h, hk => by
   obtain ⟨p, hp⟩ : ∃ o, ops[i]? = some o := ⟨_, zQ5 (by omega)⟩
   rw [(qLH t hn hp (by omega)).1, qG0];by_cases e : k = i
   ·subst e;rw [ho] at hp; cases hp;rw [if_pos ⟨hd, by rw [oU t hn k (by omega)]; exact hx⟩]
   ·rw [if_neg (fun hc => st.dst k i o p x e ho hp hd hc.1)];exact qXJ t hn st ho hd hx i (by omega) (by omega)
theorem qR4 {b : DB} (t : TrI P tab nm ds b (ops.toList.take n0) zIK ph0 En Hs V 0 E F N W) (hn : n0 <= ops.size) (hal : gD ops = true) (ho : ops[i]? = some o) (hi : i < n0) (he : zJ o = false) : Hs (i + 1) = Hs i := by
 rcases (qLH t hn ho hi).2.2 with ⟨_, h, _⟩ | ⟨_, _, h⟩
 ·exact (pV (tO he).1 (tO he).2 h).1
 ·exact h
theorem qQ2 {ds : List (Option Tmp)} {b : DB} (t : TrI P tab nm ds b (ops.toList.take n0) zIK ph0 En Hs V 0 E F N W) (hn : n0 <= ops.size) (hal : gD ops = true) : ∀ (n p q : Nat), q = p + n -> q <= n0 -> (∀ k o, ops[k]? = some o -> zJ o = true -> (k < p ↔ k < q)) -> Hs p = Hs q
 | 0, p, q, hq, _, _ => by rw [hq]; rfl
 | n + 1, p, q, hq, hle, h => by
   obtain ⟨o, ho⟩ : ∃ o, ops[p]? = some o := ⟨_, zQ5 (by omega)⟩
   have he : zJ o = false := by
    cases he : zJ o with
    | false => rfl
    | true => have := h p o ho he; omega
   rw [<- qR4 t hn hal ho (by omega) he];refine qQ2 t hn hal n (p + 1) q (by omega) hle fun k o' hk hk' => ?_
   have := h k o' hk hk';constructor
   ·intro h1; omega
   ·intro h1; have := this.2 h1; omega
theorem qIM {ds : List (Option Tmp)} {b : DB} (t : TrI P tab nm ds b (ops.toList.take n0) zIK ph0 En Hs V 0 E F N W) (hn : n0 <= ops.size) {x j : Nat} : ∀ i, i <= n0 -> j <= i -> (∀ k o, j <= k -> k < i -> ops[k]? = some o -> o.dst ≠ some x) -> pat (En i) x = pat (En j) x
 | i, h, hj, hk => by
   by_cases e : j = i
   ·rw [e]
   ·cases i with
    | zero => omega
    | succ i =>
      obtain ⟨o, ho⟩ : ∃ o, ops[i]? = some o := ⟨_, zQ5 (by omega)⟩
      rw [(qLH t hn ho (by omega)).1, qG0, if_neg (fun hc => hk i o (by omega) (by omega) ho hc.1)];exact qIM t hn i (by omega) (by omega) fun k o h1 h2 => hk k o h1 (by omega)
theorem qM5 {ds : List (Option Tmp)} {b : DB} (t : TrI P tab nm ds b (ops.toList.take n0) zIK ph0 En Hs V 0 E F N W) (hn : n0 <= ops.size) (hal : gD ops = true) {j : Nat} {oj : Oper} (hoj : ops[j]? = some oj) (hf : yO oj = false) (ha : qM oj = false) : ∀ (n p q : Nat), q = p + n -> q <= n0 ->
 (∀ k o, p <= k -> k < q -> ops[k]? = some o -> zJ o = true -> ∀ ws, (k, ws) ∈ E -> (∀ l ∈ dlT oj (En j), l ∉ ws) ∨ q3T ops.toList j k = true) -> qAH P tab oj (En j) (Hs p) (Hs q)
 | 0, p, q, hq, _, _ => by rw [hq]; exact .refl _
 | n + 1, p, q, hq, hle, h => by
   obtain ⟨o, ho⟩ : ∃ o, ops[p]? = some o := ⟨_, zQ5 (by omega)⟩
   have h1 : qAH P tab oj (En j) (Hs p) (Hs (p + 1)) := by
    cases he : zJ o with
    | false => rw [qR4 t hn hal ho (by omega) he]; exact .refl _
    | true =>
      rcases (qLH t hn ho (by omega)).2.2 with ⟨_, hx, _, hE, _⟩ | ⟨_, _, hx⟩
      ·have hE := hE he;rw [zRK] at hE;rcases h p o (zQO _) (by omega) ho he _ hE with h2 | h2
       ·exact .tk hf ha fun l hl => qVA hx (h2 l hl)
       ·have toL : ∀ i : Nat, ops.toList[i]? = ops[i]? := fun i => zT7 ..
        unfold q3T at h2;rw [toL, toL, hoj, ho] at h2;simp only at h2;split at h2
        ·rename_i ty a c ty' a' c' e1 e2;simp only [zQM] at h2;obtain ⟨⟨⟨⟨c1, c2⟩, c3⟩, c4⟩, c5⟩ := h2;cases zQN c1;cases zQN c2;cases zQN c3;have hjp : j < p := zQ4 c4
         have nw : ∀ k o, j <= k -> k < p -> ops[k]? = some o -> o.dst ≠ some a ∧ o.dst ≠ some c := fun k o k1 k2 k3 => by
          have := zQR.1 c5 (o, k) (zS9.2 (by rw [toL]; exact k3));have g1 : Nat.ble j k = true := zRM k1;have g2 : Nat.blt k p = true := zRM k2;simp only [g1, g2, zSF, zUC] at this
          cases hd : o.dst with
          | none => exact ⟨fun e => by (cases e), fun e => by (cases e)⟩
          | some d =>
            rw [hd] at this;simp only [zQM, zRN] at this;exact ⟨fun e => by cases e; rw [nG] at this; exact absurd this.1 (by decide), fun e => by cases e; rw [nG] at this; exact absurd this.2 (by decide)⟩
         exact .look e1 e2 (qIM t hn p (by omega) (by omega) fun k o k1 k2 k3 => (nw k o k1 k2 k3).1) (qIM t hn p (by omega) (by omega) fun k o k1 k2 k3 => (nw k o k1 k2 k3).2) hx
        ·cases h2
      ·rw [hx]; exact .refl _
   exact h1.trans (qM5 t hn hal hoj hf ha n (p + 1) q (by omega) hle fun k o' hk1 hk2 => h k o' (by omega) hk2)
open Classical in
noncomputable def qTR (ops : Array Oper) (S : Array Bool) (zIK eF : List PV) : List PV := (List.range zIK.length).map fun t => if wr ops S t then pat eF t else pat zIK t
theorem fI (S : Array Bool) (eF : List PV) : (qTR ops S zIK eF).length = zIK.length := by simp [qTR]
open Classical in
theorem rA {eF : List PV} (hl : eF.length = zIK.length) (t : Nat) : pat (qTR ops S zIK eF) t = if wr ops S t then pat eF t else pat zIK t := by
 by_cases ht : t < zIK.length
 ·simp [qTR, pat, qD, zS1 ht]
 ·rw [tT (by rw [fI]; omega), tT (by omega), tT (by omega)];simp
theorem zBA {b : DB} (t : TrI P tab nm ds b (ops.toList.take n0) zIK ph0 En Hs V 0 E F N W) (hn : n0 <= ops.size) (st : Stat ops) (hal : gD ops = true) (zJZ : Clo ops S) (hsl : ∀ i, sel S i -> i < n0) {o : Oper} (ho : ops[j]? = some o) (hjn0 : j <= n0) (hj : ¬ sel S j) (hp : ∀ i, uM (Region.before ops) i j = true -> sel S i) :
 ∀ x ∈ dV ops o, pat (qTR ops S zIK (En n0)) x = pat (En j) x := by
 intro x hx;have hjn := (zQ1.1 ho).1
 have before : ∀ {k : Nat} {q : Oper}, k ≠ j -> ops[k]? = some q -> q.dst = some x -> uM (Region.before ops) k j = true ∨ uM (Region.before ops) j k = true := fun hk hq hd => by
  rcases st.reads _ j _ o x hk hq ho hd hx with h | ⟨_, h⟩
  ·exact .inl h
  ·exact .inr h
 rw [rA (oU t hn _ (zQO _))];by_cases hw : wr ops S x
 ·rw [if_pos hw];obtain ⟨i, oi, hi, hs, hd⟩ := hw;have hij : i ≠ j := fun e => hj (e ▸ hs)
  have hb : uM (Region.before ops) i j = true := by
   rcases before hij hi hd with h | h
   ·exact h
   ·exact absurd (zJZ j i h hs) hj
  have hlt := uG st.back j i hb;by_cases hx' : x < zIK.length
  ·have := hsl i hs;rw [qXJ t hn st hi hd hx' _ (zQO _) (by omega), qXJ t hn st hi hd hx' j (by omega) hlt]
  ·rw [tT (env := En n0) (t := x) (by rw [oU t hn _ (zQO _)]; exact zUZ hx'), tT (env := En j) (t := x) (by rw [oU t hn j (by omega)]; exact zUZ hx')]
 ·rw [if_neg hw];refine (qOW t hn j (by omega) fun k q hk hq hd => ?_).symm;rcases before (by omega) hq hd with h | h
  ·exact hw ⟨k, q, hq, hp k h, hd⟩
  ·have := uG st.back k j h; omega
theorem q21 {b : DB} (t : TrI P tab nm ds b (ops.toList.take n0) zIK ph0 En Hs V 0 E F N W) (hn : n0 <= ops.size) (st : Stat ops) (ho : ops[j]? = some o) (hj0 : j < n0) (hjs : j < S.size) :
 qTR ops (S.setIfInBounds j true) zIK (En n0) = yN (qTR ops S zIK (En n0)) o.dst (V j) := by
 have hl := oU t hn _ (zQO _);have hjn := (zQ1.1 ho).1;apply qM3
 ·rw [q0A, fI, fI]
 intro x;rw [qG0, fI, rA hl, rA hl];by_cases hd : o.dst = some x
 ·have hw : wr ops (S.setIfInBounds j true) x := ⟨j, o, ho, (y8 hjs).2 (.inl rfl), hd⟩
  rw [if_pos hw];by_cases hx : x < zIK.length
  ·rw [if_pos ⟨hd, hx⟩, qXJ t hn st ho hd hx _ (zQO _) hj0]
  ·rw [if_neg (c := o.dst = some x ∧ x < zIK.length) (fun h => hx h.2), tT (by omega), tT (by omega)]; simp
 ·rw [if_neg (c := o.dst = some x ∧ x < zIK.length) (fun h => hd h.1)]
  have : wr ops (S.setIfInBounds j true) x ↔ wr ops S x := by
   constructor
   ·rintro ⟨i, oi, h1, h2, h3⟩;rcases (y8 hjs).1 h2 with rfl | h2
    ·rw [ho] at h1; cases h1; exact absurd h3 hd
    ·exact ⟨i, oi, h1, h2, h3⟩
   ·rintro ⟨i, oi, h1, h2, h3⟩;exact ⟨i, oi, h1, (y8 hjs).2 (.inr h2), h3⟩
  by_cases hw : wr ops S x
  ·rw [if_pos hw, if_pos (this.2 hw)]
  ·rw [if_neg hw, if_neg (fun h => hw (this.1 h))]
theorem qTG {o : Oper} (h : ∀ t ∈ dV ops o, pat a t = pat c t) : ∀ x ∈ o.op.operands, qN a x = qN c x := by
 intro x hx
 cases x with
 | tmp t => exact h t (zTB _ (zT1.2 ⟨.tmp t, zRY.1 hx, rfl⟩))
 | _ => rfl
theorem qON {o : Oper} (hl : a.length = c.length) (h : ∀ t ∈ dV ops o, pat a t = pat c t) : fK (ops.toList.map (·.dst)) o a = fK (ops.toList.map (·.dst)) o c := by
 unfold fK;split
 ·rfl
 ·rename_i g w hg
  have hd : qT3 (ops.toList.map (·.dst)) g = (ops[g]?).bind (·.dst) := by
   unfold qT3;rw [zQU];have : ops.toList[g]? = ops[g]? := by simp
   rw [this];cases ops[g]? <;> rfl
  unfold qQ4;rw [hd]
  cases ht : (ops[g]?).bind (·.dst) with
  | none => rfl
  | some t =>
    simp only;rw [qZM hl (h t (zU2 _ (by rw [hg]; simp [ht])))]
def zGA (ops : Array Oper) (S : Array Bool) (p : Nat) : Prop := ∀ (j : Nat) (o : Oper), ops[j]? = some o -> zJ o = true -> (sel S j ↔ j < p)
structure zLH (P : Program) (B : Nat) (nm : Nm) (ops : Array Oper) (zIK : List PV) (n0 : Nat) (En : Nat -> List PV) (Hs : Nat -> PHp) (Z0 : Nat -> Prop) (H0 : IH) (m0 : Nat -> Nat) (ph0 : PHp) (f0 : Inj) (w0 : World) (S : Array Bool) (a : Act) (w : World) (p : Nat) (Z : Nat -> Prop) (H : IH) (m : Nat -> Nat) (f : Inj) (zIC : Env) : Prop where
 size : S.size = ops.size
 clo : Clo ops S
 cut : zGA ops S p
 ple : p <= n0
 sl : ∀ i, sel S i -> i < n0
 rel : Rel P f H w
 grow : Grow f0 H0 w0 f H w
 zKY : qC P f zIC a.tmps.toList
 marks : Marks B f w a.defers
 hp : Hp P Z H (own m (Hs p))
 hb : H.base <= H.size
 env : VRL P Z H (own m (Hs p)) (qTR ops S zIK (En n0)) zIC
 step : Step Z0 H0 (own m0 ph0) Z H (own m (Hs p))
 kr : KR (inP nm) (own m0 ph0) (own m (Hs p))
theorem qVO {k : Nat} : ∀ {l : List PV}, (∀ t, noK k (pat l t) = true) -> yD k l = true
 | [], _ => rfl
 | x :: l, h => by
   simp only [yD, zQM];refine ⟨h 0, qVO fun t => ?_⟩;have := h (t + 1);exact this
theorem q76 {k : Nat} {l : List PV} (h : yD k l = true) (t : Nat) : noK k (pat l t) = true := by
 unfold pat;rw [qD]
 cases he : l[t]? with
 | none => rfl
 | some x => exact vO h he
theorem qTB (hF : nO F0) (hns : fQ P G nat) (ht : q3S P nat tab) (t : TrI P tab nm (ops.toList.map (·.dst)) (dBo ops) (ops.toList.take n0) zIK ph0 En Hs V 0 E F N W) (hn : n0 <= ops.size) (hlast : ∀ i j, i < n0 -> n0 <= j -> j < ops.size -> uM (Region.before ops) i j = true) (st : Stat ops) (hal : gD ops = true)
 (hck : mH (dBo ops) zIK E F N W = true) {Z0 : Nat -> Prop} {H0 : IH} {m0 : Nat -> Nat} {f0 : Inj} {w0 : World}
 (hdone : ∀ (fuel : Nat) (S : Array Bool) (Z : Nat -> Prop) (H : IH) (m : Nat -> Nat) (f : Inj) (zIC : Env) (a : Act) (w : World), unl ops S <= fuel -> S.size = ops.size -> (∀ i, i < ops.size -> (sel S i ↔ i < n0)) -> Rel P f H w -> Grow f0 H0 w0 f H w -> qC P f zIC a.tmps.toList -> Marks B f w a.defers -> Hp P Z H (own m (Hs n0)) -> H.base <= H.size -> VRL P Z H (own m (Hs n0)) (En n0) zIC ->
   Step Z0 H0 (own m0 ph0) Z H (own m (Hs n0)) -> KR (inP nm) (own m0 ph0) (own m (Hs n0)) -> wpAnyIn F0 0 P .any ops K fuel S a w)
 (hG : aP G f0) (hok : fE (zN f0) ops = true) :
 ∀ (fuel : Nat) (S : Array Bool) (a : Act) (w : World), unl ops S <= fuel -> (∃ p Z H m f zIC, zLH P B nm ops zIK n0 En Hs Z0 H0 m0 ph0 f0 w0 S a w p Z H m f zIC) -> wpAnyIn F0 0 P .any ops K fuel S a w := by
 intro fuel;have hl := oU t hn _ (zQO _)
 have zJD : ∀ {S : Array Bool}, S.size = ops.size -> Region.ready .any ops S = [] -> ∀ j, j < ops.size -> sel S j := by
  intro S hsz hr j
  induction j using Nat.strongRecOn with
  | _ j ih =>
    intro hj;by_cases hs : sel S j
    ·exact hs
    ·exfalso
     have : j ∈ Region.ready .any ops S := by
      rw [mem_ready];refine ⟨?_, ops[j], by simp [hj], fun e he hb => ?_⟩
      ·unfold sel at hs;rw [zQ3] at hs ⊢;rw [zQ5 (by omega)] at hs ⊢;simpa using hs
      ·have hlt := st.back j ops[j] (by simp [hj]) e he hb;exact ih e.on hlt (by omega)
     rw [hr] at this;cases this
 have done : ∀ {fuel : Nat} {S : Array Bool} {a : Act} {w : World} {p : Nat} {Z : Nat -> Prop} {H : IH} {m : Nat -> Nat} {f : Inj} {zIC : Env}, unl ops S <= fuel -> zLH P B nm ops zIK n0 En Hs Z0 H0 m0 ph0 f0 w0 S a w p Z H m f zIC -> (∀ j, j < n0 -> sel S j) -> wpAnyIn F0 0 P .any ops K fuel S a w := by
  intro fuel S a w p Z H m f zIC hu s hall;have hcut : ∀ k o, ops[k]? = some o -> zJ o = true -> (k < p ↔ k < n0) := fun k o hk he => (s.cut k o hk he).symm.trans ⟨fun h => s.sl k h, fun h => hall k h⟩
  have hpe : Hs p = Hs n0 := qQ2 t hn hal (n0 - p) p n0 (by have := s.ple; omega) (zQO _) hcut
  have hcur : qTR ops S zIK (En n0) = En n0 := by
   apply qM3
   ·rw [fI, hl]
   intro x;rw [rA hl];by_cases hw : wr ops S x
   ·rw [if_pos hw]
   ·rw [if_neg hw];exact (qOW t hn _ (zQO _) fun k o hk ho hd => hw ⟨k, o, ho, hall k hk, hd⟩).symm
  have e1 := s.hp;have e2 := s.env;have e3 := s.step;have e4 := s.kr;rw [hpe] at e1 e2 e3 e4;rw [hcur] at e2;exact hdone fuel S Z H m f zIC a w hu s.size (fun i _ => ⟨s.sl i, hall i⟩) s.rel s.grow s.zKY s.marks e1 s.hb e2 e3 e4
 induction fuel with
 | zero =>
   rintro S a w hu ⟨p, Z, H, m, f, zIC, s⟩
   have hall : ∀ j, j < n0 -> sel S j := by
    intro j hj;have hz : unl ops S = 0 := by omega
    unfold unl at hz;have := zVC.1 hz j (zRF.2 (by omega));unfold sel;simpa using this
   exact done hu s hall
 | succ fuel ih =>
   rintro S a w hu ⟨p, Z, H, m, f, zIC, s⟩;by_cases hall : ∀ j, j < n0 -> sel S j
   ·exact done hu s hall
   refine ⟨fun hrd => absurd (fun j hj => zJD s.size hrd j (by omega)) hall, fun j hj => ?_⟩;rw [mem_ready] at hj;obtain ⟨hjl, o, ho, zLD⟩ := hj;have hlt := (zQ1.1 ho).1;have hjs : j < S.size := by rw [s.size]; exact hlt
   have hnj : ¬ sel S j := by
    unfold sel;rw [zQ3, zQ5 hjs] at hjl ⊢;simp only [zS6] at hjl ⊢;rw [hjl]; simp
   have hpre : ∀ i, uM (Region.before ops) i j = true -> sel S i := by
    intro i hb;obtain ⟨e, he, hbd, h3⟩ := (qOQ st.back ho).1 hb;have := zLD e he hbd;rcases h3 with rfl | h3
    ·exact this
    ·exact s.clo _ _ h3 this
   have hj0 : j < n0 := by
    rcases zR9 j n0 with h | h
    ·exact h
    ·exact absurd (fun i hi => hpre i (hlast i j hi h hlt)) hall
   have zN7 : ∀ i, sel (S.setIfInBounds j true) i -> i < n0 := fun i hi => by
    rcases (y8 hjs).1 hi with rfl | h
    ·exact hj0
    ·exact s.sl i h
   have hu' : unl ops (S.setIfInBounds j true) <= fuel := by
    have := qXV hlt s.size hnj; omega
   have zJ5 := q0E hjs s.clo hpre
   have hok' : o.op.operands.toList.all (gK (zN f)) = true := by
    have h1 := jL (zO s.grow.le) hok;unfold fE at h1;exact zQR.1 h1 o (zRL (toL ho))
   have hag := zBA t hn st hal s.clo s.sl ho (by omega) hnj hpre;have hlen : (qTR ops S zIK (En n0)).length = (En j).length := by rw [fI, oU t hn j (by omega)]
   have hval := qTG hag;have hwc := qON (ops := ops) hlen hag;have hGf := hG.mono s.grow.le;obtain ⟨q1, q2, q3⟩ := qLH t hn ho hj0;unfold wpOpIn;rw [ho];simp only
   -- the next stand
   have zPJ : ∃ p', p' <= n0 ∧ zGA ops (S.setIfInBounds j true) p' ∧ (zJ o = true -> p' = j + 1) ∧ (zJ o = false -> p' = p) := by
    cases he : zJ o with
    | true =>
      refine ⟨j + 1, hj0, ?_, fun _ => rfl, fun h => (by cases h)⟩;intro k q hk hq;rw [y8 hjs];by_cases hkj : k = j
      ·subst hkj; simp
      ·rcases qI1 hal k j q o hkj hk ho hq he with h | h
       ·have := uG st.back j k h;exact ⟨fun _ => by omega, fun _ => .inr (hpre k h)⟩
       ·have := uG st.back k j h;refine ⟨fun hs => ?_, fun h2 => by omega⟩;rcases hs with hs | hs
        ·exact absurd hs hkj
        ·exact absurd (s.clo j k h hs) hnj
    | false =>
      refine ⟨p, s.ple, ?_, fun h => (by cases h), fun _ => rfl⟩;intro k q hk hq;rw [y8 hjs];have hkj : k ≠ j := by intro e; subst e; rw [ho] at hk; cases hk; rw [he] at hq; cases hq
      simp only [hkj, false_or];exact s.cut k q hk hq
   have zJ6 : zJ o = true -> Hs p = Hs j := fun he => by
    have key : ∀ k q, ops[k]? = some q -> zJ q = true -> (k < p ↔ k < j) := fun k q hk hq => by
     refine (s.cut k q hk hq).symm.trans ?_;by_cases hkj : k = j
     ·subst hkj; exact ⟨fun h => absurd h hnj, fun h => absurd h (Nat.lt_irrefl _)⟩
     ·rcases qI1 hal k j q o hkj hk ho hq he with h | h
      ·have := uG st.back j k h;exact ⟨fun _ => this, fun _ => hpre k h⟩
      ·have := uG st.back k j h;exact ⟨fun hs => absurd (s.clo j k h hs) hnj, fun hlt => by omega⟩
    by_cases hpj : p <= j
    ·exact qQ2 t hn hal (j - p) p j (by omega) (by omega) key
    ·exact (qQ2 t hn hal (p - j) j p (by omega) s.ple fun k q hk hq => (key k q hk hq).symm).symm
   obtain ⟨p', zMM, hcut', hpE, hpF⟩ := zPJ;have zMN := q21 t hn st ho hj0 hjs
   rcases q3 with ⟨g1, g2, g3, g4, g5⟩ | ⟨g1, g2, g3⟩
   ·rw [<- hwc] at g1;rw [xR s.zKY (qB4 s.env g1), if_pos rfl]
    -- the operation at this state
    have hx : ∃ php, zY P tab (zL nm o.dst) o (qTR ops S zIK (En n0)) (Hs p) = .ok (V j) php ∧ php = Hs p' := by
     cases he : zJ o with
     | true =>
       refine ⟨Hs (j + 1), ?_, by rw [hpE he]⟩;rw [zJ6 he, tH hval]; exact g2
     | false =>
       have d1 := (pV (tO he).1 (tO he).2 g2).1;refine ⟨Hs p, ?_, by rw [hpF he]⟩;rw [tH hval];rw [d1] at g2;have hFj := g5 he;unfold mH at hck;rw [zQM] at hck;have zPK := zQR.1 hck.1 _ hFj
       have zN8 : ∀ k q, ops[k]? = some q -> zJ q = true -> (¬ (k < p ↔ k < j)) -> ∀ ws, (k, ws) ∈ E -> (∀ l ∈ dlT o (En j), l ∉ ws) ∨ q3T ops.toList j k = true := by
        intro k q hk hq hne ws hws;have := zQR.1 zPK _ hws;simp only [zRK, zSQ, zQR] at this;rcases this with h | h | h
        ·exfalso;have hsk := s.cut k q hk hq;unfold q49 at h;rw [zSQ] at h;rcases h with h | h
         ·have h1 := hpre k h;have h2 := uG st.back j k h;exact hne ⟨fun _ => h2, fun _ => hsk.1 h1⟩
         ·have h2 := uG st.back k j h;have h1 : ¬ sel S k := fun hs => hnj (s.clo j k h hs)
          exact hne ⟨fun hh => absurd (hsk.2 hh) h1, fun hh => by omega⟩
        ·exact .inr h
        ·refine .inl fun l hl hm => ?_
         have := h l hl;simp [hm] at this
       by_cases hpj : p <= j
       ·refine ((qM5 t hn hal ho (tO he).1 (tO he).2 (j - p) p j (by omega) (by omega) fun k q h1 h2 hk hq ws hws => ?_) _ _).2 g2;exact zN8 k q hk hq (fun h => by have := h.2 h2; omega) ws hws
       ·refine ((qM5 t hn hal ho (tO he).1 (tO he).2 (p - j) j p (by omega) s.ple fun k q h1 h2 hk hq ws hws => ?_) _ _).1 g2;exact zN8 k q hk hq (fun h => by have := h.1 h2; omega) ws hws
    obtain ⟨php, hx, rfl⟩ := hx
    have hfresh : needs o.op = true -> fresh nm (zL nm o.dst) (qTR ops S zIK (En n0)) (Hs p) = true := by
     intro hnd
     have he : zJ o = true := by
      unfold zJ yO qM xH
      cases hop : o.op <;> rw [hop] at hnd <;> first | (cases hnd; done) | rfl | skip
      ·cases hg : o.guard.isNone <;> rfl
      ·rename_i c;obtain ⟨cal, args, ts⟩ := c
       cases cal with
       | builtin b => cases b <;> first | (cases hnd; done) | rfl
       | _ => cases hnd
     obtain ⟨i1, i2, i3⟩ := g3 hnd;unfold fresh;rw [i1, zJ6 he, i2, zS2, zTR];unfold mH at hck;rw [zQM] at hck;have hN := zQR.1 hck.2 _ i3;rw [zQM] at hN;refine qVO fun x => ?_
     rw [rA hl];by_cases hw : wr ops S x
     ·rw [if_pos hw];obtain ⟨i, oi, hi, hs, hd⟩ := hw;by_cases hx' : x < zIK.length
      ·have hin := (zQ1.1 hi).1;rw [qXJ t hn st hi hd hx' _ (zQO _) (s.sl i hs)];have hW := zQR.1 hN.2 _ (qLH t hn hi (s.sl i hs)).2.1;simp only [zRK, zSQ] at hW;rcases hW with h | h | h
       ·have := zQN h;subst this;exact absurd hs hnj
       ·exact absurd (s.clo j i h hs) hnj
       ·exact h
      ·rw [tT (env := En n0) (t := x) (by rw [hl]; exact zUZ hx')]; rfl
     ·rw [if_neg hw];exact q76 hN.1 x
    refine q0J (nm := nm) hF hns ht s.rel hGf s.zKY hok' s.hp s.hb s.env (qYX hx) hfresh fun Z' m' u H' f' v' w' b1 b2 b3 b4 b5 k1 k2 k3 => ?_
    refine ih _ _ _ hu' ⟨p', Z', H', m', f', zIC.zIX o.dst u, by simp [s.size], zJ5, hcut', zMM, zN7, k1, s.grow.trans k2, jW (s.zKY.mono k2.le) k3 _, by rw [put_defers]; exact Marks.grow k2 _ s.marks, b1, by rw [b4.base]; exact zQ6 s.hb b4.size, ?_, s.step.trans b4, s.kr.trans b5⟩;rw [zMN];exact b3.zIX b2 _
   ·rw [<- hwc] at g1;rw [xR s.zKY (qB4 s.env g1), if_neg (by simp)]
    have hpp : Hs p' = Hs p := by
     cases he : zJ o with
     | true => rw [hpE he, g3, zJ6 he]
     | false => rw [hpF he]
    have e1 := s.hp;have e2 := s.env;have e3 := s.step;have e4 := s.kr;rw [<- hpp] at e1 e2 e3 e4;refine ⟨fun g _ => hF.fn g, ih _ _ _ hu' ⟨p', Z, H, m, f, zIC.zIX o.dst undef, by simp [s.size], zJ5, hcut', zMM, zN7, s.rel, s.grow, jW s.zKY .undef _, by rw [put_defers]; exact s.marks, e1, s.hb, ?_, e3, e4⟩⟩;rw [zMN, g2];exact e2.zIX (VRL.zKD (vs := #[]) .nil) _
theorem qQR : ∀ {fuel : Nat} {S : Array Bool} {a : Act} {w : World}, S.size = ops.size -> (∀ i, i < ops.size -> sel S i) -> K .normal a w -> wpAnyIn F0 0 P .any ops K fuel S a w := by
 intro fuel S a w hsz hall hk
 have hr : ∀ x, x ∉ Region.ready .any ops S := by
  intro x hx;rw [mem_ready] at hx;obtain ⟨h1, o, ho, _⟩ := hx;have hlt := (zQ1.1 ho).1;have := hall x hlt;unfold sel at this;rw [zQ3, zQ5 (by rw [hsz]; exact hlt)] at h1 this;simp only [zS6] at h1 this;rw [h1] at this; cases this
 cases fuel with
 | zero => exact ⟨List.eq_nil_iff_forall_not_mem.2 hr, hk⟩
 | succ fuel => exact ⟨fun _ => hk, fun j hj => absurd hj (hr j)⟩
theorem zI6.zN9 (s : zI6 P good nat G tab) {Qt : List PV -> PHp -> Prop} (hn : n0 <= ops.size) (hlast : ∀ i j, i < n0 -> n0 <= j -> j < ops.size -> uM (Region.before ops) i j = true) (hok : fE G ops = true) (hd : aA ops = true) (hal : gD ops = true)
 (h : (qIU P tab nm (ops.toList.map (·.dst)) (dBo ops) env 0 (ops.toList.take n0) env ph [] [] [] []).holds P G Qt) {Z : Nat -> Prop} {H : IH} {m : Nat -> Nat} {zIC : Env} {F : Fence} {f : Inj} {a : Act} {w : World}
 (hp : Hp P Z H (own m ph)) (hb : H.base <= H.size) (he : VRL P Z H (own m ph) env zIC) (hF : nO F) (hR : Rel P f H w) (hG : aP G f) (zII : qC P f zIC a.tmps.toList) (hm : Marks B f w a.defers)
 (hdone : ∀ (e : List PV) (p : PHp) (fuel : Nat) (S : Array Bool) (Z' : Nat -> Prop) (H' : IH) (m' : Nat -> Nat) (f' : Inj) (zIT : Env) (a' : Act) (w' : World), Qt e p -> unl ops S <= fuel -> S.size = ops.size -> (∀ i, i < ops.size -> (sel S i ↔ i < n0)) -> Rel P f' H' w' -> Grow f H w f' H' w' -> qC P f' zIT a'.tmps.toList -> Marks B f' w' a'.defers -> Hp P Z' H' (own m' p) -> H'.base <= H'.size -> VRL P Z' H' (own m' p) e zIT ->
   Step Z H (own m ph) Z' H' (own m' p) -> KR (inP nm) (own m ph) (own m' p) -> wpAnyIn F 0 P .any ops K fuel S a' w') : wpAnyIn F 0 P .any ops K ops.size (Array.replicate ops.size false) a { w with drawn := w.drawn + 1 } := by
 obtain ⟨En, Hs, V, E', F', N', W', t, _, _, _, _, hck, hq⟩ := qGX _ _ _ _ _ _ _ _ h;have st := qNT hd;have hl : (ops.toList.take n0).length = n0 := by simp; omega
 rw [hl] at hq;refine qTB (B := B) hF s.s.spec s.t t hn hlast st hal hck (Z0 := Z) (H0 := H) (m0 := m) (f0 := f) (w0 := w) ?_ hG (jL hG hok) _ _ _ _ ?_ ⟨0, Z, H, m, f, zIC, ?_⟩
 ·intro fuel S Z' H' m' f' zIT a' w' k1 k2 k3 k4 k5 k6 k7 k8 k9 k10 k11 k12;exact hdone _ _ fuel S Z' H' m' f' zIT a' w' hq k1 k2 k3 k4 k5 k6 k7 k8 k9 k10 k11 k12
 ·unfold unl;have := List.countP_le_length (p := fun j => !(Array.replicate ops.size false).getD j false) (l := List.range ops.size);simpa using this
 ·have hsel : ∀ i, ¬ sel (Array.replicate ops.size false) i := by
   intro i h;unfold sel at h;rw [zQ3, Array.getElem?_replicate] at h;split at h <;> simp at h
  have hcur : qTR ops (Array.replicate ops.size false) env (En n0) = env := by
   apply qM3 (fI _ _);intro x;rw [rA (oU t hn _ (zQO _)), if_neg];rintro ⟨j, o, _, h2, _⟩;exact hsel j h2
  have hw : Grow f H w f H { w with drawn := w.drawn + 1 } := Grow.world rfl;have h0 := t.h0;refine ⟨by simp, fun i j _ hj => absurd hj (hsel j), fun j o _ _ => ⟨fun h => absurd h (hsel j), fun h => by omega⟩, zR4 _, fun i h => absurd h (hsel i), hR.world rfl, hw, zII, Marks.grow hw _ hm, by rw [h0]; exact hp, hb, by rw [h0, hcur]; exact he, by rw [h0]; exact .refl _ _ _, by rw [h0]; exact .refl _ _⟩
end
theorem zI6.drw (s : zI6 P good nat G tab) {id : Nat} {ops : Array Oper} {Q : PQ} (hok : fE G ops = true) (hd : aA ops = true) (hal : gD ops = true) (hds : ops.toList.map (·.dst) = ds)
 (h : (qIU P tab nm ds (dBo ops) env 0 ops.toList env ph [] [] [] []).holds P G fun e p => Q .normal e p) : Runs P G rd nm (.region id ops true) env ph Q := by
 intro Z H m zIC hp hb he B F f a w hF hr hR hG zII hm;subst hds;have ht : ops.toList.take ops.size = ops.toList := by rw [<- zRG]; exact zS7
 refine wpIn_region_any s.s.mix (s.zN9 (B := B) (n0 := ops.size) (K := jG P B f H w _) (zQO _) (fun i j _ h1 h2 => by omega) hok hd hal (by rw [ht]; exact h) hp hb he hF hR hG zII hm ?_);intro e p fuel S Z' H' m' f' zIT a' w' hq k1 k2 k3 k4 k5 k6 k7 k8 k9 k10 k11 k12;exact qQR k2 (fun i hi => (k3 i hi).2 hi) ⟨⟨.normal, zIT, H'⟩, f', ⟨Z', m', e, p, k8, k10, k11, k12, hq⟩, rfl, k4, k5, k6, k7⟩
end Go.Idl
