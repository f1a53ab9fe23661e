/- Regions that draw their order, on values without a heap: whatever the order. Conditions: none. -/
import Derived.Test.YtpegkendiefkaaaGreatDoorPur16
import Derived.OrdersIn
set_option linter.all false
namespace Go.Idl
variable [Gc]
variable {P : Program} {G : Nat -> Bool} {nat : xI} {tab : gY} {nm : Nm} {good : FuncId -> Bool} {rd : Bool}
variable {B i j t : Nat} {F0 : Fence} {K : Exit -> Act -> World -> Prop} {S : Array Bool} {a b c env : List PV} {ds : List (Option Tmp)} {o : Oper} {ph : PHp}
noncomputable def pat (env : List PV) (t : Nat) : PV := (zL env t).getD .unk
theorem sW (h : env.length <= t) : pat env t = .unk := by simp [pat, qF, zUF h]
theorem qHR (env : List PV) (d : Option Tmp) (v : PV) (t : Nat) : pat (yO env d v) t = if d = some t ∧ t < env.length then v else pat env t := by
 cases d with
 | none => simp [yO]
 | some d =>
   simp only [yO, pat, qF, qV, zUM, zT5];by_cases h : d = t
   ·subst h;by_cases hl : d < env.length
    ·simp [hl]
    ·simp [hl]
   ·simp [h]
theorem qUV (env : List PV) (d : Option Tmp) (v : PV) : (yO env d v).length = env.length := by
 cases d with
 | none => rfl
 | some d => simp [yO, qV]
theorem qZE (hl : a.length = b.length) (h : pat a t = pat b t) : zL a t = zL b t := by
 simp only [pat, qF] at h ⊢;by_cases ht : t < a.length
 ·rw [zT1 ht, zT1 (by omega)] at h ⊢;simpa using h
 ·rw [zUF (by omega), zUF (by omega)]
theorem qOL (hl : a.length = b.length) (h : ∀ t, pat a t = pat b t) : a = b := by
 apply zUX;intro t;have := qZE hl (h t)
 rwa [qF, qF] at this
section
variable {n0 : Nat} {ops : Array Oper} {zHY : List PV} {ph0 : PHp} {En : Nat -> List PV} {Hs : Nat -> PHp} {V : Nat -> PV} {E F : List (Nat × List Nat)} {N : List (Nat × Nat)} {W : List (Nat × PV)}
theorem qLP {b : DB} (t : TrI P tab nm ds b (ops.toList.take n0) zHY ph0 En Hs V 0 E F N W) (hn : n0 <= ops.size) (h : ops[i]? = some o) (hi : i < n0) :
 En (i + 1) = yO (En i) o.dst (V i) ∧ (0 + i, V i) ∈ W ∧
 ((fC ds o (En i) = some true ∧ yC P tab (zM nm o.dst) o (En i) (Hs i) = .ok (V i) (Hs (i + 1)) ∧ (needs o.op = true -> inP nm (zM nm o.dst) = true ∧ eO (zM nm o.dst) (Hs i) = true ∧ (0 + i, zM nm o.dst) ∈ N) ∧
    (zI o = true -> (0 + i, wlT nm o (En i)) ∈ E) ∧ (zI o = false -> (0 + i, dlT o (En i)) ∈ F)) ∨
   (fC ds o (En i) = some false ∧ V i = .tup [] ∧ Hs (i + 1) = Hs i)) := t.step i o (by rw [List.getElem?_take_of_lt hi]; simpa using h)
theorem pW {ds : List (Option Tmp)} {b : DB} (t : TrI P tab nm ds b (ops.toList.take n0) zHY ph0 En Hs V 0 E F N W) (hn : n0 <= ops.size) : ∀ i, i <= n0 -> (En i).length = zHY.length
 | 0, _ => by rw [t.e0]
 | i + 1, h => by
   obtain ⟨o, ho⟩ : ∃ o, ops[i]? = some o := ⟨_, zUJ (by omega)⟩
   rw [(qLP t hn ho (by omega)).1, qUV, pW t hn i (by omega)]
theorem qN1 {ds : List (Option Tmp)} {b : DB} (t : TrI P tab nm ds b (ops.toList.take n0) zHY ph0 En Hs V 0 E F N W) (hn : n0 <= ops.size) {x : Nat} : ∀ i, i <= n0 -> (∀ k o, k < i -> ops[k]? = some o -> o.dst ≠ some x) -> pat (En i) x = pat zHY x
 | 0, _, _ => by rw [t.e0]
 | i + 1, h, hk => by
   obtain ⟨o, ho⟩ : ∃ o, ops[i]? = some o := ⟨_, zUJ (by omega)⟩
   rw [(qLP t hn ho (by omega)).1, qHR, if_neg (fun hc => hk i o (by omega) ho hc.1)];exact qN1 t hn i (by omega) fun k o hk1 => hk k o (by omega)
theorem qUQ {ds : List (Option Tmp)} {b : DB} (t : TrI P tab nm ds b (ops.toList.take n0) zHY ph0 En Hs V 0 E F N W) (hn : n0 <= ops.size) (st : Stat ops) {k x : Nat} {o : Oper} (ho : ops[k]? = some o) (hd : o.dst = some x) (hx : x < zHY.length) : ∀ i, i <= n0 -> k < i -> pat (En i) x = V k
 | 0, _, h => by omega
 | i + 1, h, hk => by
   obtain ⟨p, hp⟩ : ∃ o, ops[i]? = some o := ⟨_, zUJ (by omega)⟩
   rw [(qLP t hn hp (by omega)).1, qHR];by_cases e : k = i
   ·subst e;rw [ho] at hp; cases hp;rw [if_pos ⟨hd, by rw [pW t hn k (by omega)]; exact hx⟩]
   ·rw [if_neg (fun hc => st.dst k i o p x e ho hp hd hc.1)];exact qUQ t hn st ho hd hx i (by omega) (by omega)
theorem qO3 {b : DB} (t : TrI P tab nm ds b (ops.toList.take n0) zHY ph0 En Hs V 0 E F N W) (hn : n0 <= ops.size) (hal : uX ops = true) (ho : ops[i]? = some o) (hi : i < n0) (he : zI o = false) : Hs (i + 1) = Hs i := by
 rcases (qLP t hn ho hi).2.2 with ⟨_, h, _⟩ | ⟨_, _, h⟩
 ·exact (nX (tF he).1 (tF he).2 h).1
 ·exact h
theorem qQM {ds : List (Option Tmp)} {b : DB} (t : TrI P tab nm ds b (ops.toList.take n0) zHY ph0 En Hs V 0 E F N W) (hn : n0 <= ops.size) (hal : uX ops = true) : ∀ (n p q : Nat), q = p + n -> q <= n0 -> (∀ k o, ops[k]? = some o -> zI o = true -> (k < p ↔ k < q)) -> Hs p = Hs q
 | 0, p, q, hq, _, _ => by rw [hq]; rfl
 | n + 1, p, q, hq, hle, h => by
   obtain ⟨o, ho⟩ : ∃ o, ops[p]? = some o := ⟨_, zUJ (by omega)⟩
   have he : zI o = false := by
    cases he : zI o with
    | false => rfl
    | true => have := h p o ho he; omega
   rw [<- qO3 t hn hal ho (by omega) he];refine qQM t hn hal n (p + 1) q (by omega) hle fun k o' hk hk' => ?_
   have := h k o' hk hk';constructor
   ·intro h1; omega
   ·intro h1; have := this.2 h1; omega
theorem qIK {ds : List (Option Tmp)} {b : DB} (t : TrI P tab nm ds b (ops.toList.take n0) zHY ph0 En Hs V 0 E F N W) (hn : n0 <= ops.size) {x j : Nat} : ∀ i, i <= n0 -> j <= i -> (∀ k o, j <= k -> k < i -> ops[k]? = some o -> o.dst ≠ some x) -> pat (En i) x = pat (En j) x
 | i, h, hj, hk => by
   by_cases e : j = i
   ·rw [e]
   ·cases i with
    | zero => omega
    | succ i =>
      obtain ⟨o, ho⟩ : ∃ o, ops[i]? = some o := ⟨_, zUJ (by omega)⟩
      rw [(qLP t hn ho (by omega)).1, qHR, if_neg (fun hc => hk i o (by omega) (by omega) ho hc.1)];exact qIK t hn i (by omega) (by omega) fun k o h1 h2 => hk k o h1 (by omega)
theorem qOH {ds : List (Option Tmp)} {b : DB} (t : TrI P tab nm ds b (ops.toList.take n0) zHY ph0 En Hs V 0 E F N W) (hn : n0 <= ops.size) (hal : uX ops = true) {j : Nat} {oj : Oper} (hoj : ops[j]? = some oj) (hf : yR oj = false) (ha : qM oj = false) : ∀ (n p q : Nat), q = p + n -> q <= n0 ->
 (∀ k o, p <= k -> k < q -> ops[k]? = some o -> zI o = true -> ∀ ws, (k, ws) ∈ E -> (∀ l ∈ dlT oj (En j), l ∉ ws) ∨ q04 ops.toList j k = true) -> qAA P tab oj (En j) (Hs p) (Hs q)
 | 0, p, q, hq, _, _ => by rw [hq]; exact .refl _
 | n + 1, p, q, hq, hle, h => by
   obtain ⟨o, ho⟩ : ∃ o, ops[p]? = some o := ⟨_, zUJ (by omega)⟩
   have h1 : qAA P tab oj (En j) (Hs p) (Hs (p + 1)) := by
    cases he : zI o with
    | false => rw [qO3 t hn hal ho (by omega) he]; exact .refl _
    | true =>
      rcases (qLP t hn ho (by omega)).2.2 with ⟨_, hx, _, hE, _⟩ | ⟨_, _, hx⟩
      ·have hE := hE he;rw [zU2] at hE;rcases h p o (zT0 _) (by omega) ho he _ hE with h2 | h2
       ·exact .tk hf ha fun l hl => qU7 hx (h2 l hl)
       ·have toL : ∀ i : Nat, ops.toList[i]? = ops[i]? := fun i => zXE ..
        unfold q04 at h2;rw [toL, toL, hoj, ho] at h2;simp only at h2;split at h2
        ·rename_i ty a c ty' a' c' e1 e2;simp only [zTY] at h2;obtain ⟨⟨⟨⟨c1, c2⟩, c3⟩, c4⟩, c5⟩ := h2;cases zTZ c1;cases zTZ c2;cases zTZ c3;have hjp : j < p := zUH c4
         have nw : ∀ k o, j <= k -> k < p -> ops[k]? = some o -> o.dst ≠ some a ∧ o.dst ≠ some c := fun k o k1 k2 k3 => by
          have := zT3.1 c5 (o, k) (zWJ.2 (by rw [toL]; exact k3));have g1 : Nat.ble j k = true := zUG k1;have g2 : Nat.blt k p = true := zUG k2;simp only [g1, g2, zVK, zX8] at this
          cases hd : o.dst with
          | none => exact ⟨fun e => by (cases e), fun e => by (cases e)⟩
          | some d =>
            rw [hd] at this;simp only [zTY, zU0] at this;exact ⟨fun e => by cases e; rw [nP] at this; exact absurd this.1 (by decide), fun e => by cases e; rw [nP] at this; exact absurd this.2 (by decide)⟩
         exact .look e1 e2 (qIK t hn p (by omega) (by omega) fun k o k1 k2 k3 => (nw k o k1 k2 k3).1) (qIK t hn p (by omega) (by omega) fun k o k1 k2 k3 => (nw k o k1 k2 k3).2) hx
        ·cases h2
      ·rw [hx]; exact .refl _
   exact h1.trans (qOH t hn hal hoj hf ha n (p + 1) q (by omega) hle fun k o' hk1 hk2 => h k o' (by omega) hk2)
open Classical in
noncomputable def qSD (ops : Array Oper) (S : Array Bool) (zHY eF : List PV) : List PV := (List.range zHY.length).map fun t => if wr ops S t then pat eF t else pat zHY t
theorem gQ (S : Array Bool) (eF : List PV) : (qSD ops S zHY eF).length = zHY.length := by simp [qSD]
open Classical in
theorem rM {eF : List PV} (hl : eF.length = zHY.length) (t : Nat) : pat (qSD ops S zHY eF) t = if wr ops S t then pat eF t else pat zHY t := by
 by_cases ht : t < zHY.length
 ·simp [qSD, pat, qF, zVZ ht]
 ·rw [sW (by rw [gQ]; omega), sW (by omega), sW (by omega)];simp
theorem zA1 {b : DB} (t : TrI P tab nm ds b (ops.toList.take n0) zHY ph0 En Hs V 0 E F N W) (hn : n0 <= ops.size) (st : Stat ops) (hal : uX ops = true) (zJI : Clo ops S) (hsl : ∀ i, sel S i -> i < n0) {o : Oper} (ho : ops[j]? = some o) (hjn0 : j <= n0) (hj : ¬ sel S j) (hp : ∀ i, uR (Region.before ops) i j = true -> sel S i) :
 ∀ x ∈ mF ops o, pat (qSD ops S zHY (En n0)) x = pat (En j) x := by
 intro x hx;have hjn := (zUC.1 ho).1
 have before : ∀ {k : Nat} {q : Oper}, k ≠ j -> ops[k]? = some q -> q.dst = some x -> uR (Region.before ops) k j = true ∨ uR (Region.before ops) j k = true := fun hk hq hd => by
  rcases st.reads _ j _ o x hk hq ho hd hx with h | ⟨_, h⟩
  ·exact .inl h
  ·exact .inr h
 rw [rM (pW t hn _ (zT0 _))];by_cases hw : wr ops S x
 ·rw [if_pos hw];obtain ⟨i, oi, hi, hs, hd⟩ := hw;have hij : i ≠ j := fun e => hj (e ▸ hs)
  have hb : uR (Region.before ops) i j = true := by
   rcases before hij hi hd with h | h
   ·exact h
   ·exact absurd (zJI j i h hs) hj
  have hlt := uF st.back j i hb;by_cases hx' : x < zHY.length
  ·have := hsl i hs;rw [qUQ t hn st hi hd hx' _ (zT0 _) (by omega), qUQ t hn st hi hd hx' j (by omega) hlt]
  ·rw [sW (env := En n0) (t := x) (by rw [pW t hn _ (zT0 _)]; exact Nat.le_of_not_lt hx'), sW (env := En j) (t := x) (by rw [pW t hn j (by omega)]; exact Nat.le_of_not_lt hx')]
 ·rw [if_neg hw];refine (qN1 t hn j (by omega) fun k q hk hq hd => ?_).symm;rcases before (by omega) hq hd with h | h
  ·exact hw ⟨k, q, hq, hp k h, hd⟩
  ·have := uF st.back k j h; omega
theorem q0J {b : DB} (t : TrI P tab nm ds b (ops.toList.take n0) zHY ph0 En Hs V 0 E F N W) (hn : n0 <= ops.size) (st : Stat ops) (ho : ops[j]? = some o) (hj0 : j < n0) (hjs : j < S.size) :
 qSD ops (S.setIfInBounds j true) zHY (En n0) = yO (qSD ops S zHY (En n0)) o.dst (V j) := by
 have hl := pW t hn _ (zT0 _);have hjn := (zUC.1 ho).1;apply qOL
 ·rw [qUV, gQ, gQ]
 intro x;rw [qHR, gQ, rM hl, rM hl];by_cases hd : o.dst = some x
 ·have hw : wr ops (S.setIfInBounds j true) x := ⟨j, o, ho, (xB hjs).2 (.inl rfl), hd⟩
  rw [if_pos hw];by_cases hx : x < zHY.length
  ·rw [if_pos ⟨hd, hx⟩, qUQ t hn st ho hd hx _ (zT0 _) hj0]
  ·rw [if_neg (c := o.dst = some x ∧ x < zHY.length) (fun h => hx h.2), sW (by omega), sW (by omega)]; simp
 ·rw [if_neg (c := o.dst = some x ∧ x < zHY.length) (fun h => hd h.1)]
  have : wr ops (S.setIfInBounds j true) x ↔ wr ops S x := by
   constructor
   ·rintro ⟨i, oi, h1, h2, h3⟩;rcases (xB hjs).1 h2 with rfl | h2
    ·rw [ho] at h1; cases h1; exact absurd h3 hd
    ·exact ⟨i, oi, h1, h2, h3⟩
   ·rintro ⟨i, oi, h1, h2, h3⟩;exact ⟨i, oi, h1, (xB hjs).2 (.inr h2), h3⟩
  by_cases hw : wr ops S x
  ·rw [if_pos hw, if_pos (this.2 hw)]
  ·rw [if_neg hw, if_neg (fun h => hw (this.1 h))]
theorem qTB {o : Oper} (h : ∀ t ∈ mF ops o, pat a t = pat c t) : ∀ x ∈ o.op.operands, qN a x = qN c x := by
 intro x hx
 cases x with
 | tmp t => exact h t (zV8 _ (zW7.2 ⟨.tmp t, zU9.1 hx, rfl⟩))
 | _ => rfl
theorem qM3 {o : Oper} (hl : a.length = c.length) (h : ∀ t ∈ mF ops o, pat a t = pat c t) : fC (ops.toList.map (·.dst)) o a = fC (ops.toList.map (·.dst)) o c := by
 unfold fC;split
 ·rfl
 ·rename_i g w hg
  have hd : qSZ (ops.toList.map (·.dst)) g = (ops[g]?).bind (·.dst) := by
   unfold qSZ;rw [zT9];have : ops.toList[g]? = ops[g]? := by simp
   rw [this];cases ops[g]? <;> rfl
  unfold qRT;rw [hd]
  cases ht : (ops[g]?).bind (·.dst) with
  | none => rfl
  | some t =>
    simp only;rw [qZE hl (h t (zXB _ (by rw [hg]; simp [ht])))]
def zFT (ops : Array Oper) (S : Array Bool) (p : Nat) : Prop := ∀ (j : Nat) (o : Oper), ops[j]? = some o -> zI o = true -> (sel S j ↔ j < p)
structure zLH (P : Program) (B : Nat) (nm : Nm) (ops : Array Oper) (zHY : List PV) (n0 : Nat) (En : Nat -> List PV) (Hs : Nat -> PHp) (Z0 : Nat -> Prop) (H0 : IH) (m0 : Nat -> Nat) (ph0 : PHp) (f0 : Inj) (w0 : World) (S : Array Bool) (a : Act) (w : World) (p : Nat) (Z : Nat -> Prop) (H : IH) (m : Nat -> Nat) (f : Inj) (zHR : Env) : Prop where
 size : S.size = ops.size
 clo : Clo ops S
 cut : zFT ops S p
 ple : p <= n0
 sl : ∀ i, sel S i -> i < n0
 rel : Rel P f H w
 grow : Grow f0 H0 w0 f H w
 zKS : qE P f zHR a.tmps.toList
 marks : Marks B f w a.defers
 hp : Hp P Z H (own m (Hs p))
 hb : H.base <= H.size
 env : VRL P Z H (own m (Hs p)) (qSD ops S zHY (En n0)) zHR
 step : Step Z0 H0 (own m0 ph0) Z H (own m (Hs p))
 kr : KR (inP nm) (own m0 ph0) (own m (Hs p))
theorem qW4 {k : Nat} : ∀ {l : List PV}, (∀ t, noK k (pat l t) = true) -> yH k l = true
 | [], _ => rfl
 | x :: l, h => by
   simp only [yH, zTY];refine ⟨h 0, qW4 fun t => ?_⟩;have := h (t + 1);exact this
theorem q71 {k : Nat} {l : List PV} (h : yH k l = true) (t : Nat) : noK k (pat l t) = true := by
 unfold pat;rw [qF]
 cases he : l[t]? with
 | none => rfl
 | some x => exact vR h he
theorem qSP (hF : oV F0) (hns : fG P G nat) (ht : q1D P nat tab) (t : TrI P tab nm (ops.toList.map (·.dst)) (dBo ops) (ops.toList.take n0) zHY ph0 En Hs V 0 E F N W) (hn : n0 <= ops.size) (hlast : ∀ i j, i < n0 -> n0 <= j -> j < ops.size -> uR (Region.before ops) i j = true) (st : Stat ops) (hal : uX ops = true)
 (hck : mP (dBo ops) zHY E F N W = true) {Z0 : Nat -> Prop} {H0 : IH} {m0 : Nat -> Nat} {f0 : Inj} {w0 : World}
 (hdone : ∀ (fuel : Nat) (S : Array Bool) (Z : Nat -> Prop) (H : IH) (m : Nat -> Nat) (f : Inj) (zHR : Env) (a : Act) (w : World), unl ops S <= fuel -> S.size = ops.size -> (∀ i, i < ops.size -> (sel S i ↔ i < n0)) -> Rel P f H w -> Grow f0 H0 w0 f H w -> qE P f zHR a.tmps.toList -> Marks B f w a.defers -> Hp P Z H (own m (Hs n0)) -> H.base <= H.size -> VRL P Z H (own m (Hs n0)) (En n0) zHR ->
   Step Z0 H0 (own m0 ph0) Z H (own m (Hs n0)) -> KR (inP nm) (own m0 ph0) (own m (Hs n0)) -> wpAnyIn F0 0 P .any ops K fuel S a w)
 (hG : aZ G f0) (hok : fF (zN f0) ops = true) :
 ∀ (fuel : Nat) (S : Array Bool) (a : Act) (w : World), unl ops S <= fuel -> (∃ p Z H m f zHR, zLH P B nm ops zHY n0 En Hs Z0 H0 m0 ph0 f0 w0 S a w p Z H m f zHR) -> wpAnyIn F0 0 P .any ops K fuel S a w := by
 intro fuel;have hl := pW t hn _ (zT0 _)
 have zIU : ∀ {S : Array Bool}, S.size = ops.size -> Region.ready .any ops S = [] -> ∀ j, j < ops.size -> sel S j := by
  intro S hsz hr j
  induction j using Nat.strongRecOn with
  | _ j ih =>
    intro hj;by_cases hs : sel S j
    ·exact hs
    ·exfalso
     have : j ∈ Region.ready .any ops S := by
      rw [mem_ready];refine ⟨?_, ops[j], by simp [hj], fun e he hb => ?_⟩
      ·unfold sel at hs;rw [zUE] at hs ⊢;rw [zUJ (by omega)] at hs ⊢;simpa using hs
      ·have hlt := st.back j ops[j] (by simp [hj]) e he hb;exact ih e.on hlt (by omega)
     rw [hr] at this;cases this
 have done : ∀ {fuel : Nat} {S : Array Bool} {a : Act} {w : World} {p : Nat} {Z : Nat -> Prop} {H : IH} {m : Nat -> Nat} {f : Inj} {zHR : Env}, unl ops S <= fuel -> zLH P B nm ops zHY n0 En Hs Z0 H0 m0 ph0 f0 w0 S a w p Z H m f zHR -> (∀ j, j < n0 -> sel S j) -> wpAnyIn F0 0 P .any ops K fuel S a w := by
  intro fuel S a w p Z H m f zHR hu s hall;have hcut : ∀ k o, ops[k]? = some o -> zI o = true -> (k < p ↔ k < n0) := fun k o hk he => (s.cut k o hk he).symm.trans ⟨fun h => s.sl k h, fun h => hall k h⟩
  have hpe : Hs p = Hs n0 := qQM t hn hal (n0 - p) p n0 (by have := s.ple; omega) (zT0 _) hcut
  have hcur : qSD ops S zHY (En n0) = En n0 := by
   apply qOL
   ·rw [gQ, hl]
   intro x;rw [rM hl];by_cases hw : wr ops S x
   ·rw [if_pos hw]
   ·rw [if_neg hw];exact (qN1 t hn _ (zT0 _) fun k o hk ho hd => hw ⟨k, o, ho, hall k hk, hd⟩).symm
  have e1 := s.hp;have e2 := s.env;have e3 := s.step;have e4 := s.kr;rw [hpe] at e1 e2 e3 e4;rw [hcur] at e2;exact hdone fuel S Z H m f zHR a w hu s.size (fun i _ => ⟨s.sl i, hall i⟩) s.rel s.grow s.zKS s.marks e1 s.hb e2 e3 e4
 induction fuel with
 | zero =>
   rintro S a w hu ⟨p, Z, H, m, f, zHR, s⟩
   have hall : ∀ j, j < n0 -> sel S j := by
    intro j hj;have hz : unl ops S = 0 := by omega
    unfold unl at hz;have := zYJ.1 hz j (zUW.2 (by omega));unfold sel;simpa using this
   exact done hu s hall
 | succ fuel ih =>
   rintro S a w hu ⟨p, Z, H, m, f, zHR, s⟩;by_cases hall : ∀ j, j < n0 -> sel S j
   ·exact done hu s hall
   refine ⟨fun hrd => absurd (fun j hj => zIU s.size hrd j (by omega)) hall, fun j hj => ?_⟩;rw [mem_ready] at hj;obtain ⟨hjl, o, ho, zLD⟩ := hj;have hlt := (zUC.1 ho).1;have hjs : j < S.size := by rw [s.size]; exact hlt
   have hnj : ¬ sel S j := by
    unfold sel;rw [zUE, zUJ hjs] at hjl ⊢;simp only [zWH] at hjl ⊢;rw [hjl]; simp
   have hpre : ∀ i, uR (Region.before ops) i j = true -> sel S i := by
    intro i hb;obtain ⟨e, he, hbd, h3⟩ := (qNE st.back ho).1 hb;have := zLD e he hbd;rcases h3 with rfl | h3
    ·exact this
    ·exact s.clo _ _ h3 this
   have hj0 : j < n0 := by
    rcases zV5 j n0 with h | h
    ·exact h
    ·exact absurd (fun i hi => hpre i (hlast i j hi h hlt)) hall
   have zPP : ∀ i, sel (S.setIfInBounds j true) i -> i < n0 := fun i hi => by
    rcases (xB hjs).1 hi with rfl | h
    ·exact hj0
    ·exact s.sl i h
   have hu' : unl ops (S.setIfInBounds j true) <= fuel := by
    have := qW2 hlt s.size hnj; omega
   have zJP := qWG hjs s.clo hpre
   have hok' : o.op.operands.toList.all (gD (zN f)) = true := by
    have h1 := jP (zO s.grow.le) hok;unfold fF at h1;exact zT3.1 h1 o (zUP (toL ho))
   have hag := zA1 t hn st hal s.clo s.sl ho (by omega) hnj hpre;have hlen : (qSD ops S zHY (En n0)).length = (En j).length := by rw [gQ, pW t hn j (by omega)]
   have hval := qTB hag;have hwc := qM3 (ops := ops) hlen hag;have hGf := hG.mono s.grow.le;obtain ⟨q1, q2, q3⟩ := qLP t hn ho hj0;unfold wpOpIn;rw [ho];simp only
   -- the next stand
   have zRX : ∃ p', p' <= n0 ∧ zFT ops (S.setIfInBounds j true) p' ∧ (zI o = true -> p' = j + 1) ∧ (zI o = false -> p' = p) := by
    cases he : zI o with
    | true =>
      refine ⟨j + 1, hj0, ?_, fun _ => rfl, fun h => (by cases h)⟩;intro k q hk hq;rw [xB hjs];by_cases hkj : k = j
      ·subst hkj; simp
      ·rcases qLK hal k j q o hkj hk ho hq he with h | h
       ·have := uF st.back j k h;exact ⟨fun _ => by omega, fun _ => .inr (hpre k h)⟩
       ·have := uF st.back k j h;refine ⟨fun hs => ?_, fun h2 => by omega⟩;rcases hs with hs | hs
        ·exact absurd hs hkj
        ·exact absurd (s.clo j k h hs) hnj
    | false =>
      refine ⟨p, s.ple, ?_, fun h => (by cases h), fun _ => rfl⟩;intro k q hk hq;rw [xB hjs];have hkj : k ≠ j := by intro e; subst e; rw [ho] at hk; cases hk; rw [he] at hq; cases hq
      simp only [hkj, false_or];exact s.cut k q hk hq
   have zJQ : zI o = true -> Hs p = Hs j := fun he => by
    have key : ∀ k q, ops[k]? = some q -> zI q = true -> (k < p ↔ k < j) := fun k q hk hq => by
     refine (s.cut k q hk hq).symm.trans ?_;by_cases hkj : k = j
     ·subst hkj; exact ⟨fun h => absurd h hnj, fun h => absurd h (Nat.lt_irrefl _)⟩
     ·rcases qLK hal k j q o hkj hk ho hq he with h | h
      ·have := uF st.back j k h;exact ⟨fun _ => this, fun _ => hpre k h⟩
      ·have := uF st.back k j h;exact ⟨fun hs => absurd (s.clo j k h hs) hnj, fun hlt => by omega⟩
    by_cases hpj : p <= j
    ·exact qQM t hn hal (j - p) p j (by omega) (by omega) key
    ·exact (qQM t hn hal (p - j) j p (by omega) s.ple fun k q hk hq => (key k q hk hq).symm).symm
   obtain ⟨p', zM9, hcut', hpE, hpF⟩ := zRX;have zNA := q0J t hn st ho hj0 hjs
   rcases q3 with ⟨g1, g2, g3, g4, g5⟩ | ⟨g1, g2, g3⟩
   ·rw [<- hwc] at g1;rw [xV s.zKS (qC4 s.env g1), if_pos rfl]
    -- the operation at this state
    have hx : ∃ php, yC P tab (zM nm o.dst) o (qSD ops S zHY (En n0)) (Hs p) = .ok (V j) php ∧ php = Hs p' := by
     cases he : zI o with
     | true =>
       refine ⟨Hs (j + 1), ?_, by rw [hpE he]⟩;rw [zJQ he, tJ hval]; exact g2
     | false =>
       have d1 := (nX (tF he).1 (tF he).2 g2).1;refine ⟨Hs p, ?_, by rw [hpF he]⟩;rw [tJ hval];rw [d1] at g2;have hFj := g5 he;unfold mP at hck;rw [zTY] at hck;have zRY := zT3.1 hck.1 _ hFj
       have zPQ : ∀ k q, ops[k]? = some q -> zI q = true -> (¬ (k < p ↔ k < j)) -> ∀ ws, (k, ws) ∈ E -> (∀ l ∈ dlT o (En j), l ∉ ws) ∨ q04 ops.toList j k = true := by
        intro k q hk hq hne ws hws;have := zT3.1 zRY _ hws;simp only [zU2, zWA, zT3] at this;rcases this with h | h | h
        ·exfalso;have hsk := s.cut k q hk hq;unfold q5F at h;rw [zWA] at h;rcases h with h | h
         ·have h1 := hpre k h;have h2 := uF st.back j k h;exact hne ⟨fun _ => h2, fun _ => hsk.1 h1⟩
         ·have h2 := uF st.back k j h;have h1 : ¬ sel S k := fun hs => hnj (s.clo j k h hs)
          exact hne ⟨fun hh => absurd (hsk.2 hh) h1, fun hh => by omega⟩
        ·exact .inr h
        ·refine .inl fun l hl hm => ?_
         have := h l hl;simp [hm] at this
       by_cases hpj : p <= j
       ·refine ((qOH t hn hal ho (tF he).1 (tF he).2 (j - p) p j (by omega) (by omega) fun k q h1 h2 hk hq ws hws => ?_) _ _).2 g2;exact zPQ k q hk hq (fun h => by have := h.2 h2; omega) ws hws
       ·refine ((qOH t hn hal ho (tF he).1 (tF he).2 (p - j) j p (by omega) s.ple fun k q h1 h2 hk hq ws hws => ?_) _ _).1 g2;exact zPQ k q hk hq (fun h => by have := h.1 h2; omega) ws hws
    obtain ⟨php, hx, rfl⟩ := hx
    have hfresh : needs o.op = true -> fresh nm (zM nm o.dst) (qSD ops S zHY (En n0)) (Hs p) = true := by
     intro hnd
     have he : zI o = true := by
      unfold zI yR qM xJ
      cases hop : o.op <;> rw [hop] at hnd <;> first | (cases hnd; done) | rfl | skip
      ·cases hg : o.guard.isNone <;> rfl
      ·rename_i c;obtain ⟨cal, args, ts⟩ := c
       cases cal with
       | builtin b => cases b <;> first | (cases hnd; done) | rfl
       | _ => cases hnd
     obtain ⟨i1, i2, i3⟩ := g3 hnd;unfold fresh;rw [i1, zJQ he, i2, zWZ, Bool.true_and];unfold mP at hck;rw [zTY] at hck;have hN := zT3.1 hck.2 _ i3;rw [zTY] at hN;refine qW4 fun x => ?_
     rw [rM hl];by_cases hw : wr ops S x
     ·rw [if_pos hw];obtain ⟨i, oi, hi, hs, hd⟩ := hw;by_cases hx' : x < zHY.length
      ·have hin := (zUC.1 hi).1;rw [qUQ t hn st hi hd hx' _ (zT0 _) (s.sl i hs)];have hW := zT3.1 hN.2 _ (qLP t hn hi (s.sl i hs)).2.1;simp only [zU2, zWA] at hW;rcases hW with h | h | h
       ·have := zTZ h;subst this;exact absurd hs hnj
       ·exact absurd (s.clo j i h hs) hnj
       ·exact h
      ·rw [sW (env := En n0) (t := x) (by rw [hl]; exact Nat.le_of_not_lt hx')]; rfl
     ·rw [if_neg hw];exact q71 hN.1 x
    refine qT3 (nm := nm) hF hns ht s.rel hGf s.zKS hok' s.hp s.hb s.env (qYS hx) hfresh fun Z' m' u H' f' v' w' b1 b2 b3 b4 b5 k1 k2 k3 => ?_
    refine ih _ _ _ hu' ⟨p', Z', H', m', f', zHR.zIE o.dst u, by simp [s.size], zJP, hcut', zM9, zPP, k1, s.grow.trans k2, jZ (s.zKS.mono k2.le) k3 _, by rw [put_defers]; exact Marks.grow k2 _ s.marks, b1, by rw [b4.base]; exact zUS s.hb b4.size, ?_, s.step.trans b4, s.kr.trans b5⟩;rw [zNA];exact b3.zIE b2 _
   ·rw [<- hwc] at g1;rw [xV s.zKS (qC4 s.env g1), if_neg (by simp)]
    have hpp : Hs p' = Hs p := by
     cases he : zI o with
     | true => rw [hpE he, g3, zJQ he]
     | false => rw [hpF he]
    have e1 := s.hp;have e2 := s.env;have e3 := s.step;have e4 := s.kr;rw [<- hpp] at e1 e2 e3 e4;refine ⟨fun g _ => hF.fn g, ih _ _ _ hu' ⟨p', Z, H, m, f, zHR.zIE o.dst undef, by simp [s.size], zJP, hcut', zM9, zPP, s.rel, s.grow, jZ s.zKS .undef _, by rw [put_defers]; exact s.marks, e1, s.hb, ?_, e3, e4⟩⟩;rw [zNA, g2];exact e2.zIE (VRL.zJX (vs := #[]) .nil) _
theorem qQY : ∀ {fuel : Nat} {S : Array Bool} {a : Act} {w : World}, S.size = ops.size -> (∀ i, i < ops.size -> sel S i) -> K .normal a w -> wpAnyIn F0 0 P .any ops K fuel S a w := by
 intro fuel S a w hsz hall hk
 have hr : ∀ x, x ∉ Region.ready .any ops S := by
  intro x hx;rw [mem_ready] at hx;obtain ⟨h1, o, ho, _⟩ := hx;have hlt := (zUC.1 ho).1;have := hall x hlt;unfold sel at this;rw [zUE, zUJ (by rw [hsz]; exact hlt)] at h1 this;simp only [zWH] at h1 this;rw [h1] at this; cases this
 cases fuel with
 | zero => exact ⟨List.eq_nil_iff_forall_not_mem.2 hr, hk⟩
 | succ fuel => exact ⟨fun _ => hk, fun j hj => absurd hj (hr j)⟩
theorem zIN.zPR (s : zIN P good nat G tab) {Qt : List PV -> PHp -> Prop} (hn : n0 <= ops.size) (hlast : ∀ i j, i < n0 -> n0 <= j -> j < ops.size -> uR (Region.before ops) i j = true) (hok : fF G ops = true) (hd : aH ops = true) (hal : uX ops = true)
 (h : (qJX P tab nm (ops.toList.map (·.dst)) (dBo ops) env 0 (ops.toList.take n0) env ph [] [] [] []).holds P G Qt) {Z : Nat -> Prop} {H : IH} {m : Nat -> Nat} {zHR : Env} {F : Fence} {f : Inj} {a : Act} {w : World}
 (hp : Hp P Z H (own m ph)) (hb : H.base <= H.size) (he : VRL P Z H (own m ph) env zHR) (hF : oV F) (hR : Rel P f H w) (hG : aZ G f) (zHX : qE P f zHR a.tmps.toList) (hm : Marks B f w a.defers)
 (hdone : ∀ (e : List PV) (p : PHp) (fuel : Nat) (S : Array Bool) (Z' : Nat -> Prop) (H' : IH) (m' : Nat -> Nat) (f' : Inj) (zIA : Env) (a' : Act) (w' : World), Qt e p -> unl ops S <= fuel -> S.size = ops.size -> (∀ i, i < ops.size -> (sel S i ↔ i < n0)) -> Rel P f' H' w' -> Grow f H w f' H' w' -> qE P f' zIA a'.tmps.toList -> Marks B f' w' a'.defers -> Hp P Z' H' (own m' p) -> H'.base <= H'.size -> VRL P Z' H' (own m' p) e zIA ->
   Step Z H (own m ph) Z' H' (own m' p) -> KR (inP nm) (own m ph) (own m' p) -> wpAnyIn F 0 P .any ops K fuel S a' w') : wpAnyIn F 0 P .any ops K ops.size (Array.replicate ops.size false) a { w with drawn := w.drawn + 1 } := by
 obtain ⟨En, Hs, V, E', F', N', W', t, _, _, _, _, hck, hq⟩ := qGA _ _ _ _ _ _ _ _ h;have st := qNZ hd;have hl : (ops.toList.take n0).length = n0 := by simp; omega
 rw [hl] at hq;refine qSP (B := B) hF s.s.spec s.t t hn hlast st hal hck (Z0 := Z) (H0 := H) (m0 := m) (f0 := f) (w0 := w) ?_ hG (jP hG hok) _ _ _ _ ?_ ⟨0, Z, H, m, f, zHR, ?_⟩
 ·intro fuel S Z' H' m' f' zIA a' w' k1 k2 k3 k4 k5 k6 k7 k8 k9 k10 k11 k12;exact hdone _ _ fuel S Z' H' m' f' zIA a' w' hq k1 k2 k3 k4 k5 k6 k7 k8 k9 k10 k11 k12
 ·unfold unl;have := List.countP_le_length (p := fun j => !(Array.replicate ops.size false).getD j false) (l := List.range ops.size);simpa using this
 ·have hsel : ∀ i, ¬ sel (Array.replicate ops.size false) i := by
   intro i h;unfold sel at h;rw [zUE, Array.getElem?_replicate] at h;split at h <;> simp at h
  have hcur : qSD ops (Array.replicate ops.size false) env (En n0) = env := by
   apply qOL (gQ _ _);intro x;rw [rM (pW t hn _ (zT0 _)), if_neg];rintro ⟨j, o, _, h2, _⟩;exact hsel j h2
  have hw : Grow f H w f H { w with drawn := w.drawn + 1 } := Grow.world rfl;have h0 := t.h0;refine ⟨by simp, fun i j _ hj => absurd hj (hsel j), fun j o _ _ => ⟨fun h => absurd h (hsel j), fun h => by omega⟩, zVN _, fun i h => absurd h (hsel i), hR.world rfl, hw, zHX, Marks.grow hw _ hm, by rw [h0]; exact hp, hb, by rw [h0, hcur]; exact he, by rw [h0]; exact .refl _ _ _, by rw [h0]; exact .refl _ _⟩
end
theorem zIN.drw (s : zIN P good nat G tab) {id : Nat} {ops : Array Oper} {Q : PQ} (hok : fF G ops = true) (hd : aH ops = true) (hal : uX ops = true) (hds : ops.toList.map (·.dst) = ds)
 (h : (qJX P tab nm ds (dBo ops) env 0 ops.toList env ph [] [] [] []).holds P G fun e p => Q .normal e p) : Runs P G rd nm (.region id ops true) env ph Q := by
 intro Z H m zHR hp hb he B F f a w hF hr hR hG zHX hm;subst hds;have ht : ops.toList.take ops.size = ops.toList := by rw [<- zUU]; exact zU8
 refine wpIn_region_any s.s.mix (s.zPR (B := B) (n0 := ops.size) (K := jJ P B f H w _) (zT0 _) (fun i j _ h1 h2 => by omega) hok hd hal (by rw [ht]; exact h) hp hb he hF hR hG zHX hm ?_);intro e p fuel S Z' H' m' f' zIA a' w' hq k1 k2 k3 k4 k5 k6 k7 k8 k9 k10 k11 k12;exact qQY k2 (fun i hi => (k3 i hi).2 hi) ⟨⟨.normal, zIA, H'⟩, f', ⟨Z', m', e, p, k8, k10, k11, k12, hq⟩, rfl, k4, k5, k6, k7⟩
end Go.Idl
