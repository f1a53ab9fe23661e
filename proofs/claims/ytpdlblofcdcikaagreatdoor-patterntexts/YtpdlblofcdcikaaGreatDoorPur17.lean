/- Regions that draw their order, on values without a heap: whatever the order. Conditions: none. -/
import Derived.Test.YtpdlblofcdcikaaGreatDoorPur16
import Derived.OrdersIn
set_option linter.all false
namespace Go.Idl
variable [Gc]
variable {P : Program} {G : Nat -> Bool} {nat : yU} {tab : aV} {nm : Nm} {good : FuncId -> Bool} {rd : Bool}
noncomputable def pat (env : List PV) (t : Nat) : PV := (zM env t).getD .unk
theorem sU {env : List PV} {t : Nat} (h : env.length <= t) : pat env t = .unk := by simp [pat, qH, List.getElem?_eq_none h]
theorem qNA (env : List PV) (d : Option Tmp) (v : PV) (t : Nat) : pat (yR env d v) t = if d = some t ∧ t < env.length then v else pat env t := by
 cases d with
 | none => simp [yR]
 | some d =>
   simp only [yR, pat, qH, zV, List.getElem?_set, Option.some.injEq];by_cases h : d = t
   ·subst h;by_cases hl : d < env.length
    ·simp [hl]
    ·simp [hl, List.getElem?_eq_none (Nat.le_of_not_lt hl)]
   ·simp [h]
theorem qUM (env : List PV) (d : Option Tmp) (v : PV) : (yR env d v).length = env.length := by
 cases d with
 | none => rfl
 | some d => simp [yR, zV]
theorem qV9 {a b : List PV} (hl : a.length = b.length) {t : Nat} (h : pat a t = pat b t) : zM a t = zM b t := by
 simp only [pat, qH] at h ⊢;by_cases ht : t < a.length
 ·rw [List.getElem?_eq_getElem ht, List.getElem?_eq_getElem (by omega)] at h ⊢;simpa using h
 ·rw [List.getElem?_eq_none (by omega), List.getElem?_eq_none (by omega)]
theorem qLX {a b : List PV} (hl : a.length = b.length) (h : ∀ t, pat a t = pat b t) : a = b := by
 apply List.ext_getElem?;intro t;have := qV9 hl (h t)
 rwa [qH, qH] at this
section
variable {n0 : Nat} {ops : Array Oper} {env0 : List PV} {ph0 : PHp} {En : Nat -> List PV} {Hs : Nat -> PHp} {V : Nat -> PV} {E F : List (Nat × List Nat)} {N : List (Nat × Nat)} {W : List (Nat × PV)}
theorem qMO {ds : List (Option Tmp)} {b : Array Nat} (t : TrI P tab nm ds b (ops.toList.take n0) env0 ph0 En Hs V 0 E F N W) (hn : n0 <= ops.size) {i : Nat} {o : Oper} (h : ops[i]? = some o) (hi : i < n0) :
 En (i + 1) = yR (En i) o.dst (V i) ∧ (0 + i, V i) ∈ W ∧
 ((eG ds o (En i) = some true ∧ yF P tab (zH nm o.dst) o (En i) (Hs i) = .ok (V i) (Hs (i + 1)) ∧ (needs o.op = true -> inP nm (zH nm o.dst) = true ∧ pG (zH nm o.dst) (Hs i) = true ∧ (0 + i, zH nm o.dst) ∈ N) ∧
    (zA o = true -> (0 + i, wlT nm o (En i)) ∈ E) ∧ (zA o = false -> (0 + i, dlT o (En i)) ∈ F)) ∨
   (eG ds o (En i) = some false ∧ V i = .tup [] ∧ Hs (i + 1) = Hs i)) := t.step i o (by rw [List.getElem?_take_of_lt hi]; simpa using h)
theorem nU {ds : List (Option Tmp)} {b : Array Nat} (t : TrI P tab nm ds b (ops.toList.take n0) env0 ph0 En Hs V 0 E F N W) (hn : n0 <= ops.size) : ∀ i, i <= n0 -> (En i).length = env0.length
 | 0, _ => by rw [t.e0]
 | i + 1, h => by
   obtain ⟨o, ho⟩ : ∃ o, ops[i]? = some o := ⟨_, Array.getElem?_eq_getElem (by omega)⟩
   rw [(qMO t hn ho (by omega)).1, qUM, nU t hn i (by omega)]
theorem qMQ {ds : List (Option Tmp)} {b : Array Nat} (t : TrI P tab nm ds b (ops.toList.take n0) env0 ph0 En Hs V 0 E F N W) (hn : n0 <= ops.size) {x : Nat} : ∀ i, i <= n0 -> (∀ k o, k < i -> ops[k]? = some o -> o.dst ≠ some x) -> pat (En i) x = pat env0 x
 | 0, _, _ => by rw [t.e0]
 | i + 1, h, hk => by
   obtain ⟨o, ho⟩ : ∃ o, ops[i]? = some o := ⟨_, Array.getElem?_eq_getElem (by omega)⟩
   rw [(qMO t hn ho (by omega)).1, qNA, if_neg (fun hc => hk i o (by omega) ho hc.1)];exact qMQ t hn i (by omega) fun k o hk1 => hk k o (by omega)
theorem qTX {ds : List (Option Tmp)} {b : Array Nat} (t : TrI P tab nm ds b (ops.toList.take n0) env0 ph0 En Hs V 0 E F N W) (hn : n0 <= ops.size) (st : Stat ops) {k x : Nat} {o : Oper} (ho : ops[k]? = some o) (hd : o.dst = some x) (hx : x < env0.length) : ∀ i, i <= n0 -> k < i -> pat (En i) x = V k
 | 0, _, h => by omega
 | i + 1, h, hk => by
   obtain ⟨p, hp⟩ : ∃ o, ops[i]? = some o := ⟨_, Array.getElem?_eq_getElem (by omega)⟩
   rw [(qMO t hn hp (by omega)).1, qNA];by_cases e : k = i
   ·subst e;rw [ho] at hp; cases hp;rw [if_pos ⟨hd, by rw [nU t hn k (by omega)]; exact hx⟩]
   ·rw [if_neg (fun hc => st.dst k i o p x e ho hp hd hc.1)];exact qTX t hn st ho hd hx i (by omega) (by omega)
theorem qO0 {ds : List (Option Tmp)} {b : Array Nat} (t : TrI P tab nm ds b (ops.toList.take n0) env0 ph0 En Hs V 0 E F N W) (hn : n0 <= ops.size) (hal : gN ops = true) {i : Nat} {o : Oper} (ho : ops[i]? = some o) (hi : i < n0) (he : zA o = false) : Hs (i + 1) = Hs i := by
 rcases (qMO t hn ho hi).2.2 with ⟨_, h, _⟩ | ⟨_, _, h⟩
 ·exact (qKS (qPJ he).1 (qPJ he).2 h).1
 ·exact h
theorem qN4 {ds : List (Option Tmp)} {b : Array Nat} (t : TrI P tab nm ds b (ops.toList.take n0) env0 ph0 En Hs V 0 E F N W) (hn : n0 <= ops.size) (hal : gN ops = true) : ∀ (n p q : Nat), q = p + n -> q <= n0 -> (∀ k o, ops[k]? = some o -> zA o = true -> (k < p ↔ k < q)) -> Hs p = Hs q
 | 0, p, q, hq, _, _ => by rw [hq]; rfl
 | n + 1, p, q, hq, hle, h => by
   obtain ⟨o, ho⟩ : ∃ o, ops[p]? = some o := ⟨_, Array.getElem?_eq_getElem (by omega)⟩
   have he : zA o = false := by
    cases he : zA o with
    | false => rfl
    | true => have := h p o ho he; omega
   rw [<- qO0 t hn hal ho (by omega) he];refine qN4 t hn hal n (p + 1) q (by omega) hle fun k o' hk hk' => ?_
   have := h k o' hk hk';constructor
   ·intro h1; omega
   ·intro h1; have := this.2 h1; omega
theorem qL9 {ds : List (Option Tmp)} {b : Array Nat} (t : TrI P tab nm ds b (ops.toList.take n0) env0 ph0 En Hs V 0 E F N W) (hn : n0 <= ops.size) (hal : gN ops = true) {l : Nat} : ∀ (n p q : Nat), q = p + n -> q <= n0 -> (∀ k o, p <= k -> k < q -> ops[k]? = some o -> zA o = true -> ∀ ws, (k, ws) ∈ E -> ws = wlT nm o (En k) -> l ∉ ws) -> qLF l (Hs q) (Hs p)
 | 0, p, q, hq, _, _ => by rw [hq]; exact .refl _ _
 | n + 1, p, q, hq, hle, h => by
   obtain ⟨o, ho⟩ : ∃ o, ops[p]? = some o := ⟨_, Array.getElem?_eq_getElem (by omega)⟩
   have h1 : qLF l (Hs (p + 1)) (Hs p) := by
    cases he : zA o with
    | false => rw [qO0 t hn hal ho (by omega) he]; exact .refl _ _
    | true =>
      rcases (qMO t hn ho (by omega)).2.2 with ⟨_, hx, _, hE, _⟩ | ⟨_, _, hx⟩
      ·have hE := hE he;rw [Nat.zero_add] at hE;exact qTB hx (h p o (Nat.le_refl _) (by omega) ho he _ hE rfl)
      ·rw [hx]; exact .refl _ _
   exact (qL9 t hn hal n (p + 1) q (by omega) hle fun k o' hk1 hk2 => h k o' (by omega) hk2).trans h1
open Classical in
noncomputable def qP7 (ops : Array Oper) (S : Array Bool) (env0 eF : List PV) : List PV := (List.range env0.length).map fun t => if wr ops S t then pat eF t else pat env0 t
theorem fT (S : Array Bool) (eF : List PV) : (qP7 ops S env0 eF).length = env0.length := by simp [qP7]
open Classical in
theorem pV {S : Array Bool} {eF : List PV} (hl : eF.length = env0.length) (t : Nat) : pat (qP7 ops S env0 eF) t = if wr ops S t then pat eF t else pat env0 t := by
 by_cases ht : t < env0.length
 ·simp [qP7, pat, qH, List.getElem?_range ht]
 ·rw [sU (by rw [fT]; omega), sU (by omega), sU (by omega)];simp
theorem q5M {ds : List (Option Tmp)} {b : Array Nat} (t : TrI P tab nm ds b (ops.toList.take n0) env0 ph0 En Hs V 0 E F N W) (hn : n0 <= ops.size) (st : Stat ops) (hal : gN ops = true) {S : Array Bool} (hclo : Clo ops S) (hsl : ∀ i, sel S i -> i < n0) {j : Nat} {o : Oper} (ho : ops[j]? = some o) (hjn0 : j <= n0) (hj : ¬ sel S j) (hp : ∀ i, gF (Region.before ops) i j = true -> sel S i) :
 ∀ x ∈ mD ops o, pat (qP7 ops S env0 (En n0)) x = pat (En j) x := by
 intro x hx;have hjn := (Array.getElem?_eq_some_iff.1 ho).1
 have before : ∀ {k : Nat} {q : Oper}, k ≠ j -> ops[k]? = some q -> q.dst = some x -> gF (Region.before ops) k j = true ∨ gF (Region.before ops) j k = true := fun hk hq hd => by
  rcases st.reads _ j _ o x hk hq ho hd hx with h | ⟨_, h⟩
  ·exact .inl h
  ·exact .inr h
 rw [pV (nU t hn _ (Nat.le_refl _))];by_cases hw : wr ops S x
 ·rw [if_pos hw];obtain ⟨i, oi, hi, hs, hd⟩ := hw;have hij : i ≠ j := fun e => hj (e ▸ hs)
  have hb : gF (Region.before ops) i j = true := by
   rcases before hij hi hd with h | h
   ·exact h
   ·exact absurd (hclo j i h hs) hj
  have hlt := uR st.back j i hb;by_cases hx' : x < env0.length
  ·have := hsl i hs;rw [qTX t hn st hi hd hx' _ (Nat.le_refl _) (by omega), qTX t hn st hi hd hx' j (by omega) hlt]
  ·rw [sU (env := En n0) (t := x) (by rw [nU t hn _ (Nat.le_refl _)]; exact Nat.le_of_not_lt hx'), sU (env := En j) (t := x) (by rw [nU t hn j (by omega)]; exact Nat.le_of_not_lt hx')]
 ·rw [if_neg hw];refine (qMQ t hn j (by omega) fun k q hk hq hd => ?_).symm;rcases before (by omega) hq hd with h | h
  ·exact hw ⟨k, q, hq, hp k h, hd⟩
  ·have := uR st.back k j h; omega
theorem qW0 {ds : List (Option Tmp)} {b : Array Nat} (t : TrI P tab nm ds b (ops.toList.take n0) env0 ph0 En Hs V 0 E F N W) (hn : n0 <= ops.size) (st : Stat ops) {S : Array Bool} {j : Nat} {o : Oper} (ho : ops[j]? = some o) (hj0 : j < n0) (hjs : j < S.size) :
 qP7 ops (S.setIfInBounds j true) env0 (En n0) = yR (qP7 ops S env0 (En n0)) o.dst (V j) := by
 have hl := nU t hn _ (Nat.le_refl _);have hjn := (Array.getElem?_eq_some_iff.1 ho).1;apply qLX
 ·rw [qUM, fT, fT]
 intro x;rw [qNA, fT, pV hl, pV hl];by_cases hd : o.dst = some x
 ·have hw : wr ops (S.setIfInBounds j true) x := ⟨j, o, ho, (y9 hjs).2 (.inl rfl), hd⟩
  rw [if_pos hw];by_cases hx : x < env0.length
  ·rw [if_pos ⟨hd, hx⟩, qTX t hn st ho hd hx _ (Nat.le_refl _) hj0]
  ·rw [if_neg (c := o.dst = some x ∧ x < env0.length) (fun h => hx h.2), sU (by omega), sU (by omega)]; simp
 ·rw [if_neg (c := o.dst = some x ∧ x < env0.length) (fun h => hd h.1)]
  have : wr ops (S.setIfInBounds j true) x ↔ wr ops S x := by
   constructor
   ·rintro ⟨i, oi, h1, h2, h3⟩;rcases (y9 hjs).1 h2 with rfl | h2
    ·rw [ho] at h1; cases h1; exact absurd h3 hd
    ·exact ⟨i, oi, h1, h2, h3⟩
   ·rintro ⟨i, oi, h1, h2, h3⟩;exact ⟨i, oi, h1, (y9 hjs).2 (.inr h2), h3⟩
  by_cases hw : wr ops S x
  ·rw [if_pos hw, if_pos (this.2 hw)]
  ·rw [if_neg hw, if_neg (fun h => hw (this.1 h))]
theorem qQ8 {o : Oper} {a c : List PV} (h : ∀ t ∈ mD ops o, pat a t = pat c t) : ∀ x ∈ o.op.operands, qL a x = qL c x := by
 intro x hx
 cases x with
 | tmp t => exact h t (List.mem_append_left _ (List.mem_filterMap.2 ⟨.tmp t, Array.mem_def.1 hx, rfl⟩))
 | _ => rfl
theorem qK7 {o : Oper} {a c : List PV} (hl : a.length = c.length) (h : ∀ t ∈ mD ops o, pat a t = pat c t) : eG (ops.toList.map (·.dst)) o a = eG (ops.toList.map (·.dst)) o c := by
 unfold eG;split
 ·rfl
 ·rename_i g w hg
  have hd : qBB (ops.toList.map (·.dst)) g = (ops[g]?).bind (·.dst) := by
   unfold qBB;rw [List.getElem?_map];have : ops.toList[g]? = ops[g]? := by simp
   rw [this];cases ops[g]? <;> rfl
  unfold qPH;rw [hd]
  cases ht : (ops[g]?).bind (·.dst) with
  | none => rfl
  | some t =>
    simp only;rw [qV9 hl (h t (List.mem_append_right _ (by rw [hg]; simp [ht])))]
def q8B (ops : Array Oper) (S : Array Bool) (p : Nat) : Prop := ∀ (j : Nat) (o : Oper), ops[j]? = some o -> zA o = true -> (sel S j ↔ j < p)
structure StandP (P : Program) (B : Nat) (nm : Nm) (ops : Array Oper) (env0 : List PV) (n0 : Nat) (En : Nat -> List PV) (Hs : Nat -> PHp) (Z0 : Nat -> Prop) (H0 : IH) (m0 : Nat -> Nat) (ph0 : PHp) (f0 : Inj) (w0 : World) (S : Array Bool) (a : Act) (w : World) (p : Nat) (Z : Nat -> Prop) (H : IH) (m : Nat -> Nat) (f : Inj) (ienv : Env) : Prop where
 size : S.size = ops.size
 clo : Clo ops S
 cut : q8B ops S p
 ple : p <= n0
 sl : ∀ i, sel S i -> i < n0
 rel : Rel P f H w
 grow : Grow f0 H0 w0 f H w
 venv : qB P f ienv a.tmps.toList
 marks : Marks B f w a.defers
 hp : Hp P Z H (own m (Hs p))
 hb : H.base <= H.size
 env : VRL P Z H (own m (Hs p)) (qP7 ops S env0 (En n0)) ienv
 step : Step Z0 H0 (own m0 ph0) Z H (own m (Hs p))
 kr : KR (inP nm) (own m0 ph0) (own m (Hs p))
theorem qVM {k : Nat} : ∀ {l : List PV}, (∀ t, noK k (pat l t) = true) -> yV k l = true
 | [], _ => rfl
 | x :: l, h => by
   simp only [yV, Bool.and_eq_true];refine ⟨h 0, qVM fun t => ?_⟩;have := h (t + 1);exact this
theorem q15 {k : Nat} {l : List PV} (h : yV k l = true) (t : Nat) : noK k (pat l t) = true := by
 unfold pat;rw [qH]
 cases he : l[t]? with
 | none => rfl
 | some x => exact gD h he
theorem qQD {B : Nat} {F0 : Fence} (hF : nG F0) (hns : wF P G nat) (ht : qSN P nat tab) (t : TrI P tab nm (ops.toList.map (·.dst)) (Region.before ops) (ops.toList.take n0) env0 ph0 En Hs V 0 E F N W) (hn : n0 <= ops.size) (hlast : ∀ i j, i < n0 -> n0 <= j -> j < ops.size -> gF (Region.before ops) i j = true) (st : Stat ops) (hal : gN ops = true)
 (hck : mY (Region.before ops) env0 E F N W = true) {K : Exit -> Act -> World -> Prop} {Z0 : Nat -> Prop} {H0 : IH} {m0 : Nat -> Nat} {f0 : Inj} {w0 : World}
 (hdone : ∀ (fuel : Nat) (S : Array Bool) (Z : Nat -> Prop) (H : IH) (m : Nat -> Nat) (f : Inj) (ienv : Env) (a : Act) (w : World), unl ops S <= fuel -> S.size = ops.size -> (∀ i, i < ops.size -> (sel S i ↔ i < n0)) -> Rel P f H w -> Grow f0 H0 w0 f H w -> qB P f ienv a.tmps.toList -> Marks B f w a.defers -> Hp P Z H (own m (Hs n0)) -> H.base <= H.size -> VRL P Z H (own m (Hs n0)) (En n0) ienv ->
   Step Z0 H0 (own m0 ph0) Z H (own m (Hs n0)) -> KR (inP nm) (own m0 ph0) (own m (Hs n0)) -> wpAnyIn F0 0 P .any ops K fuel S a w)
 (hG : aQ G f0) (hok : jB (zG f0) ops = true) :
 ∀ (fuel : Nat) (S : Array Bool) (a : Act) (w : World), unl ops S <= fuel -> (∃ p Z H m f ienv, StandP P B nm ops env0 n0 En Hs Z0 H0 m0 ph0 f0 w0 S a w p Z H m f ienv) -> wpAnyIn F0 0 P .any ops K fuel S a w := by
 intro fuel;have hl := nU t hn _ (Nat.le_refl _)
 have all_of_ready : ∀ {S : Array Bool}, S.size = ops.size -> Region.ready .any ops S = [] -> ∀ j, j < ops.size -> sel S j := by
  intro S hsz hr j
  induction j using Nat.strongRecOn with
  | _ j ih =>
    intro hj;by_cases hs : sel S j
    ·exact hs
    ·exfalso
     have : j ∈ Region.ready .any ops S := by
      rw [mem_ready];refine ⟨?_, ops[j], by simp [hj], fun e he hb => ?_⟩
      ·unfold sel at hs;rw [Array.getD_eq_getD_getElem?] at hs ⊢;rw [Array.getElem?_eq_getElem (by omega)] at hs ⊢;simpa using hs
      ·have hlt := st.back j ops[j] (by simp [hj]) e he hb;exact ih e.on hlt (by omega)
     rw [hr] at this;cases this
 have done : ∀ {fuel : Nat} {S : Array Bool} {a : Act} {w : World} {p : Nat} {Z : Nat -> Prop} {H : IH} {m : Nat -> Nat} {f : Inj} {ienv : Env}, unl ops S <= fuel -> StandP P B nm ops env0 n0 En Hs Z0 H0 m0 ph0 f0 w0 S a w p Z H m f ienv -> (∀ j, j < n0 -> sel S j) -> wpAnyIn F0 0 P .any ops K fuel S a w := by
  intro fuel S a w p Z H m f ienv hu s hall;have hcut : ∀ k o, ops[k]? = some o -> zA o = true -> (k < p ↔ k < n0) := fun k o hk he => (s.cut k o hk he).symm.trans ⟨fun h => s.sl k h, fun h => hall k h⟩
  have hpe : Hs p = Hs n0 := qN4 t hn hal (n0 - p) p n0 (by have := s.ple; omega) (Nat.le_refl _) hcut
  have hcur : qP7 ops S env0 (En n0) = En n0 := by
   apply qLX
   ·rw [fT, hl]
   intro x;rw [pV hl];by_cases hw : wr ops S x
   ·rw [if_pos hw]
   ·rw [if_neg hw];exact (qMQ t hn _ (Nat.le_refl _) fun k o hk ho hd => hw ⟨k, o, ho, hall k hk, hd⟩).symm
  have e1 := s.hp;have e2 := s.env;have e3 := s.step;have e4 := s.kr;rw [hpe] at e1 e2 e3 e4;rw [hcur] at e2;exact hdone fuel S Z H m f ienv a w hu s.size (fun i _ => ⟨s.sl i, hall i⟩) s.rel s.grow s.venv s.marks e1 s.hb e2 e3 e4
 induction fuel with
 | zero =>
   rintro S a w hu ⟨p, Z, H, m, f, ienv, s⟩
   have hall : ∀ j, j < n0 -> sel S j := by
    intro j hj;have hz : unl ops S = 0 := by omega
    unfold unl at hz;have := List.countP_eq_zero.1 hz j (List.mem_range.2 (by omega));unfold sel;simpa using this
   exact done hu s hall
 | succ fuel ih =>
   rintro S a w hu ⟨p, Z, H, m, f, ienv, s⟩;by_cases hall : ∀ j, j < n0 -> sel S j
   ·exact done hu s hall
   refine ⟨fun hrd => absurd (fun j hj => all_of_ready s.size hrd j (by omega)) hall, fun j hj => ?_⟩;rw [mem_ready] at hj;obtain ⟨hjl, o, ho, hedge⟩ := hj;have hlt := (Array.getElem?_eq_some_iff.1 ho).1;have hjs : j < S.size := by rw [s.size]; exact hlt
   have hnj : ¬ sel S j := by
    unfold sel;rw [Array.getD_eq_getD_getElem?, Array.getElem?_eq_getElem hjs] at hjl ⊢;simp only [Option.getD_some] at hjl ⊢;rw [hjl]; simp
   have hpre : ∀ i, gF (Region.before ops) i j = true -> sel S i := by
    intro i hb;obtain ⟨e, he, hbd, h3⟩ := (qLO st.back ho).1 hb;have := hedge e he hbd;rcases h3 with rfl | h3
    ·exact this
    ·exact s.clo _ _ h3 this
   have hj0 : j < n0 := by
    rcases Nat.lt_or_ge j n0 with h | h
    ·exact h
    ·exact absurd (fun i hi => hpre i (hlast i j hi h hlt)) hall
   have hsl' : ∀ i, sel (S.setIfInBounds j true) i -> i < n0 := fun i hi => by
    rcases (y9 hjs).1 hi with rfl | h
    ·exact hj0
    ·exact s.sl i h
   have hu' : unl ops (S.setIfInBounds j true) <= fuel := by
    have := qVI hlt s.size hnj; omega
   have hclo' := qVQ hjs s.clo hpre
   have hok' : o.op.operands.toList.all (vP (zG f)) = true := by
    have h1 := jP (zI s.grow.le) hok;unfold jB at h1;exact List.all_eq_true.1 h1 o (List.mem_of_getElem? (toL ho))
   have hag := q5M t hn st hal s.clo s.sl ho (by omega) hnj hpre;have hlen : (qP7 ops S env0 (En n0)).length = (En j).length := by rw [fT, nU t hn j (by omega)]
   have hval := qQ8 hag;have hwc := qK7 (ops := ops) hlen hag;have hGf := hG.mono s.grow.le;obtain ⟨q1, q2, q3⟩ := qMO t hn ho hj0;unfold wpOpIn;rw [ho];simp only
   -- the next stand
   have cutN : ∃ p', p' <= n0 ∧ q8B ops (S.setIfInBounds j true) p' ∧ (zA o = true -> p' = j + 1) ∧ (zA o = false -> p' = p) := by
    cases he : zA o with
    | true =>
      refine ⟨j + 1, hj0, ?_, fun _ => rfl, fun h => (by cases h)⟩;intro k q hk hq;rw [y9 hjs];by_cases hkj : k = j
      ·subst hkj; simp
      ·rcases qJW hal k j q o hkj hk ho hq he with h | h
       ·have := uR st.back j k h;exact ⟨fun _ => by omega, fun _ => .inr (hpre k h)⟩
       ·have := uR st.back k j h;refine ⟨fun hs => ?_, fun h2 => by omega⟩;rcases hs with hs | hs
        ·exact absurd hs hkj
        ·exact absurd (s.clo j k h hs) hnj
    | false =>
      refine ⟨p, s.ple, ?_, fun h => (by cases h), fun _ => rfl⟩;intro k q hk hq;rw [y9 hjs];have hkj : k ≠ j := by intro e; subst e; rw [ho] at hk; cases hk; rw [he] at hq; cases hq
      simp only [hkj, false_or];exact s.cut k q hk hq
   have hcutE : zA o = true -> Hs p = Hs j := fun he => by
    have key : ∀ k q, ops[k]? = some q -> zA q = true -> (k < p ↔ k < j) := fun k q hk hq => by
     refine (s.cut k q hk hq).symm.trans ?_;by_cases hkj : k = j
     ·subst hkj; exact ⟨fun h => absurd h hnj, fun h => absurd h (Nat.lt_irrefl _)⟩
     ·rcases qJW hal k j q o hkj hk ho hq he with h | h
      ·have := uR st.back j k h;exact ⟨fun _ => this, fun _ => hpre k h⟩
      ·have := uR st.back k j h;exact ⟨fun hs => absurd (s.clo j k h hs) hnj, fun hlt => by omega⟩
    by_cases hpj : p <= j
    ·exact qN4 t hn hal (j - p) p j (by omega) (by omega) key
    ·exact (qN4 t hn hal (p - j) j p (by omega) s.ple fun k q hk hq => (key k q hk hq).symm).symm
   obtain ⟨p', hp'le, hcut', hpE, hpF⟩ := cutN;have hcurN := qW0 t hn st ho hj0 hjs
   rcases q3 with ⟨g1, g2, g3, g4, g5⟩ | ⟨g1, g2, g3⟩
   ·rw [<- hwc] at g1;rw [yZ s.venv (rM s.env g1), if_pos rfl]
    -- the operation at this state
    have hx : ∃ php, yF P tab (zH nm o.dst) o (qP7 ops S env0 (En n0)) (Hs p) = .ok (V j) php ∧ php = Hs p' := by
     cases he : zA o with
     | true =>
       refine ⟨Hs (j + 1), ?_, by rw [hpE he]⟩;rw [hcutE he, sH hval]; exact g2
     | false =>
       obtain ⟨d1, d2⟩ := qKS (qPJ he).1 (qPJ he).2 g2;refine ⟨Hs p, ?_, by rw [hpF he]⟩;rw [sH hval];refine d2 _ _ fun l hl => ?_
       have hFj := g5 he;unfold mY at hck;rw [Bool.and_eq_true] at hck;have hchk := List.all_eq_true.1 hck.1 _ hFj
       have nowr : ∀ k q, ops[k]? = some q -> zA q = true -> (¬ (k < p ↔ k < j)) -> ∀ ws, (k, ws) ∈ E -> l ∉ ws := by
        intro k q hk hq hne ws hws;have := List.all_eq_true.1 hchk _ hws;simp only [Nat.zero_add, Bool.or_eq_true, List.all_eq_true] at this;rcases this with h | h
        ·exfalso;have hsk := s.cut k q hk hq;unfold qZO at h;rw [Bool.or_eq_true] at h;rcases h with h | h
         ·have h1 := hpre k h;have h2 := uR st.back j k h;exact hne ⟨fun _ => h2, fun _ => hsk.1 h1⟩
         ·have h2 := uR st.back k j h;have h1 : ¬ sel S k := fun hs => hnj (s.clo j k h hs)
          exact hne ⟨fun hh => absurd (hsk.2 hh) h1, fun hh => by omega⟩
        ·have := h l hl;intro hm;simp [hm] at this
       by_cases hpj : p <= j
       ·refine (qL9 t hn hal (j - p) p j (by omega) (by omega) fun k q h1 h2 hk hq ws hws _ => ?_).symm;exact nowr k q hk hq (fun h => by have := h.2 h2; omega) ws hws
       ·refine qL9 t hn hal (p - j) j p (by omega) s.ple fun k q h1 h2 hk hq ws hws _ => ?_
        exact nowr k q hk hq (fun h => by have := h.1 h2; omega) ws hws
    obtain ⟨php, hx, rfl⟩ := hx
    have hfresh : needs o.op = true -> fresh nm (zH nm o.dst) (qP7 ops S env0 (En n0)) (Hs p) = true := by
     intro hnd
     have he : zA o = true := by
      unfold zA yG qG yA
      cases hop : o.op <;> rw [hop] at hnd <;> first | (cases hnd; done) | rfl | skip
      ·cases hg : o.guard.isNone <;> rfl
      ·rename_i c;obtain ⟨cal, args, ts⟩ := c
       cases cal with
       | builtin b => cases b <;> first | (cases hnd; done) | rfl
       | _ => cases hnd
     obtain ⟨i1, i2, i3⟩ := g3 hnd;unfold fresh;rw [i1, hcutE he, i2, Bool.and_true, Bool.true_and];unfold mY at hck;rw [Bool.and_eq_true] at hck;have hN := List.all_eq_true.1 hck.2 _ i3;rw [Bool.and_eq_true] at hN;refine qVM fun x => ?_
     rw [pV hl];by_cases hw : wr ops S x
     ·rw [if_pos hw];obtain ⟨i, oi, hi, hs, hd⟩ := hw;by_cases hx' : x < env0.length
      ·have hin := (Array.getElem?_eq_some_iff.1 hi).1;rw [qTX t hn st hi hd hx' _ (Nat.le_refl _) (s.sl i hs)];have hW := List.all_eq_true.1 hN.2 _ (qMO t hn hi (s.sl i hs)).2.1;simp only [Nat.zero_add, Bool.or_eq_true] at hW;rcases hW with h | h | h
       ·have := Nat.eq_of_beq_eq_true h;subst this;exact absurd hs hnj
       ·exact absurd (s.clo j i h hs) hnj
       ·exact h
      ·rw [sU (env := En n0) (t := x) (by rw [hl]; exact Nat.le_of_not_lt hx')]; rfl
     ·rw [if_neg hw];exact q15 hN.1 x
    refine qK8 (nm := nm) hF hns ht s.rel hGf s.venv hok' s.hp s.hb s.env (qUJ hx) hfresh fun Z' m' u H' f' v' w' b1 b2 b3 b4 b5 k1 k2 k3 => ?_
    refine ih _ _ _ hu' ⟨p', Z', H', m', f', ienv.putD o.dst u, by simp [s.size], hclo', hcut', hp'le, hsl', k1, s.grow.trans k2, kV (s.venv.mono k2.le) k3 _, by rw [put_defers]; exact Marks.grow k2 _ s.marks, b1, by rw [b4.base]; exact Nat.le_trans s.hb b4.size, ?_, s.step.trans b4, s.kr.trans b5⟩;rw [hcurN];exact b3.putD b2 _
   ·rw [<- hwc] at g1;rw [yZ s.venv (rM s.env g1), if_neg (by simp)]
    have hpp : Hs p' = Hs p := by
     cases he : zA o with
     | true => rw [hpE he, g3, hcutE he]
     | false => rw [hpF he]
    have e1 := s.hp;have e2 := s.env;have e3 := s.step;have e4 := s.kr;rw [<- hpp] at e1 e2 e3 e4;refine ⟨fun g _ => hF.fn g, ih _ _ _ hu' ⟨p', Z, H, m, f, ienv.putD o.dst undef, by simp [s.size], hclo', hcut', hp'le, hsl', s.rel, s.grow, kV s.venv .undef _, by rw [put_defers]; exact s.marks, e1, s.hb, ?_, e3, e4⟩⟩;rw [hcurN, g2];exact e2.putD (VRL.tup' (vs := #[]) .nil) _
theorem qND {F0 : Fence} {K : Exit -> Act -> World -> Prop} : ∀ {fuel : Nat} {S : Array Bool} {a : Act} {w : World}, S.size = ops.size -> (∀ i, i < ops.size -> sel S i) -> K .normal a w -> wpAnyIn F0 0 P .any ops K fuel S a w := by
 intro fuel S a w hsz hall hk
 have hr : ∀ x, x ∉ Region.ready .any ops S := by
  intro x hx;rw [mem_ready] at hx;obtain ⟨h1, o, ho, _⟩ := hx;have hlt := (Array.getElem?_eq_some_iff.1 ho).1;have := hall x hlt;unfold sel at this;rw [Array.getD_eq_getD_getElem?, Array.getElem?_eq_getElem (by rw [hsz]; exact hlt)] at h1 this;simp only [Option.getD_some] at h1 this;rw [h1] at this; cases this
 cases fuel with
 | zero => exact ⟨List.eq_nil_iff_forall_not_mem.2 hr, hk⟩
 | succ fuel => exact ⟨fun _ => hk, fun j hj => absurd hj (hr j)⟩
theorem PSet.drwW (s : PSet P good nat G tab) {env : List PV} {ph : PHp} {Qt : List PV -> PHp -> Prop} {B : Nat} (hn : n0 <= ops.size) (hlast : ∀ i j, i < n0 -> n0 <= j -> j < ops.size -> gF (Region.before ops) i j = true) (hok : jB G ops = true) (hd : wR ops = true) (hal : gN ops = true)
 (h : (qJ1 P tab nm (ops.toList.map (·.dst)) (Region.before ops) env 0 (ops.toList.take n0) env ph [] [] [] []).holds P G Qt) {Z : Nat -> Prop} {H : IH} {m : Nat -> Nat} {ienv : Env} {F : Fence} {f : Inj} {a : Act} {w : World} {K : Exit -> Act -> World -> Prop}
 (hp : Hp P Z H (own m ph)) (hb : H.base <= H.size) (he : VRL P Z H (own m ph) env ienv) (hF : nG F) (hR : Rel P f H w) (hG : aQ G f) (henv : qB P f ienv a.tmps.toList) (hm : Marks B f w a.defers)
 (hdone : ∀ (e : List PV) (p : PHp) (fuel : Nat) (S : Array Bool) (Z' : Nat -> Prop) (H' : IH) (m' : Nat -> Nat) (f' : Inj) (ienv' : Env) (a' : Act) (w' : World), Qt e p -> unl ops S <= fuel -> S.size = ops.size -> (∀ i, i < ops.size -> (sel S i ↔ i < n0)) -> Rel P f' H' w' -> Grow f H w f' H' w' -> qB P f' ienv' a'.tmps.toList -> Marks B f' w' a'.defers -> Hp P Z' H' (own m' p) -> H'.base <= H'.size -> VRL P Z' H' (own m' p) e ienv' ->
   Step Z H (own m ph) Z' H' (own m' p) -> KR (inP nm) (own m ph) (own m' p) -> wpAnyIn F 0 P .any ops K fuel S a' w') : wpAnyIn F 0 P .any ops K ops.size (Array.replicate ops.size false) a { w with drawn := w.drawn + 1 } := by
 obtain ⟨En, Hs, V, E', F', N', W', t, _, _, _, _, hck, hq⟩ := qHF _ _ _ _ _ _ _ _ h;have st := qFX hd;have hl : (ops.toList.take n0).length = n0 := by simp; omega
 rw [hl] at hq;refine qQD (B := B) hF s.s.spec s.t t hn hlast st hal hck (Z0 := Z) (H0 := H) (m0 := m) (f0 := f) (w0 := w) ?_ hG (jP hG hok) _ _ _ _ ?_ ⟨0, Z, H, m, f, ienv, ?_⟩
 ·intro fuel S Z' H' m' f' ienv' a' w' k1 k2 k3 k4 k5 k6 k7 k8 k9 k10 k11 k12;exact hdone _ _ fuel S Z' H' m' f' ienv' a' w' hq k1 k2 k3 k4 k5 k6 k7 k8 k9 k10 k11 k12
 ·unfold unl;have := List.countP_le_length (p := fun j => !(Array.replicate ops.size false).getD j false) (l := List.range ops.size);simpa using this
 ·have hsel : ∀ i, ¬ sel (Array.replicate ops.size false) i := by
   intro i h;unfold sel at h;rw [Array.getD_eq_getD_getElem?, Array.getElem?_replicate] at h;split at h <;> simp at h
  have hcur : qP7 ops (Array.replicate ops.size false) env (En n0) = env := by
   apply qLX (fT _ _);intro x;rw [pV (nU t hn _ (Nat.le_refl _)), if_neg];rintro ⟨j, o, _, h2, _⟩;exact hsel j h2
  have hw : Grow f H w f H { w with drawn := w.drawn + 1 } := Grow.world rfl;have h0 := t.h0;refine ⟨by simp, fun i j _ hj => absurd hj (hsel j), fun j o _ _ => ⟨fun h => absurd h (hsel j), fun h => by omega⟩, Nat.zero_le _, fun i h => absurd h (hsel i), hR.world rfl, hw, henv, Marks.grow hw _ hm, by rw [h0]; exact hp, hb, by rw [h0, hcur]; exact he, by rw [h0]; exact .refl _ _ _, by rw [h0]; exact .refl _ _⟩
end
theorem PSet.drw (s : PSet P good nat G tab) {id : Nat} {ops : Array Oper} {env : List PV} {ph : PHp} {Q : PQ} {ds : List (Option Tmp)} (hok : jB G ops = true) (hd : wR ops = true) (hal : gN ops = true) (hds : ops.toList.map (·.dst) = ds)
 (h : (qJ1 P tab nm ds (Region.before ops) env 0 ops.toList env ph [] [] [] []).holds P G fun e p => Q .normal e p) : Runs P G rd nm (.region id ops true) env ph Q := by
 intro Z H m ienv hp hb he B F f a w hF hr hR hG henv hm;subst hds;have ht : ops.toList.take ops.size = ops.toList := by rw [<- Array.length_toList]; exact List.take_length
 refine wpIn_region_any s.s.mix (s.drwW (B := B) (n0 := ops.size) (K := jW P B f H w _) (Nat.le_refl _) (fun i j _ h1 h2 => by omega) hok hd hal (by rw [ht]; exact h) hp hb he hF hR hG henv hm ?_);intro e p fuel S Z' H' m' f' ienv' a' w' hq k1 k2 k3 k4 k5 k6 k7 k8 k9 k10 k11 k12;exact qND k2 (fun i hi => (k3 i hi).2 hi) ⟨⟨.normal, ienv', H'⟩, f', ⟨Z', m', e, p, k8, k10, k11, k12, hq⟩, rfl, k4, k5, k6, k7⟩
end Go.Idl
