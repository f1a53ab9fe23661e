/- Regions that draw their order, on values without a heap: whatever the order. Conditions: none. -/
import Derived.Test.YtpdlblofcdcikaaGreatDoorPur16
import Derived.OrdersIn
set_option linter.unusedSimpArgs false
set_option linter.unusedVariables false
namespace Go.Idl
variable {P : Program} {G : Nat -> Bool} {nat : xU} {tab : aL} {nm : Nm} {good : FuncId -> Bool} {rd : Bool}
noncomputable def pat (env : List PV) (t : Nat) : PV := (yN env t).getD .unk
theorem pQ {env : List PV} {t : Nat} (h : env.length <= t) : pat env t = .unk := by simp [pat, qG, List.getElem?_eq_none h]
theorem qKI (env : List PV) (d : Option Tmp) (v : PV) (t : Nat) : pat (xQ env d v) t = if d = some t ∧ t < env.length then v else pat env t := by
 cases d with
 | none => simp [xQ]
 | some d =>
   simp only [xQ, pat, qG, xA, List.getElem?_set, Option.some.injEq]
   by_cases h : d = t
   ·subst h
    by_cases hl : d < env.length
    ·simp [hl]
    ·simp [hl, List.getElem?_eq_none (Nat.le_of_not_lt hl)]
   ·simp [h]
theorem qTA (env : List PV) (d : Option Tmp) (v : PV) : (xQ env d v).length = env.length := by
 cases d with
 | none => rfl
 | some d => simp [xQ, xA]
theorem qRV {a b : List PV} (hl : a.length = b.length) {t : Nat} (h : pat a t = pat b t) : yN a t = yN b t := by
 simp only [pat, qG] at h ⊢
 by_cases ht : t < a.length
 ·rw [List.getElem?_eq_getElem ht, List.getElem?_eq_getElem (by omega)] at h ⊢
  simpa using h
 ·rw [List.getElem?_eq_none (by omega), List.getElem?_eq_none (by omega)]
theorem qI3 {a b : List PV} (hl : a.length = b.length) (h : ∀ t, pat a t = pat b t) : a = b := by
 apply List.ext_getElem?
 intro t
 have := qRV hl (h t)
 rwa [qG, qG] at this
section
variable {ops : Array Oper} {env0 : List PV} {ph0 : PHp} {En : Nat -> List PV} {Hs : Nat -> PHp} {V : Nat -> PV} {E F : List (Nat × List Nat)} {N : List (Nat × Nat)} {W : List (Nat × PV)}
theorem qJ0 {ds : List (Option Tmp)} {b : Array Nat} (t : TrI P tab nm ds b ops.toList env0 ph0 En Hs V 0 E F N W) {i : Nat} {o : Oper} (h : ops[i]? = some o) :
 En (i + 1) = xQ (En i) o.dst (V i) ∧ (0 + i, V i) ∈ W ∧
 ((dA ds o (En i) = some true ∧ xV P tab (yC nm o.dst) o (En i) (Hs i) = .ok (V i) (Hs (i + 1)) ∧ (needs o.op = true -> inP nm (yC nm o.dst) = true ∧ sN (yC nm o.dst) (Hs i) = true ∧ (0 + i, yC nm o.dst) ∈ N) ∧
    (yB o = true -> (0 + i, wlO nm o (En i)) ∈ E) ∧ (yB o = false -> (0 + i, dlO o (En i)) ∈ F)) ∨
   (dA ds o (En i) = some false ∧ V i = .tup [] ∧ Hs (i + 1) = Hs i)) := t.step i o (by simpa using h)
theorem nC {ds : List (Option Tmp)} {b : Array Nat} (t : TrI P tab nm ds b ops.toList env0 ph0 En Hs V 0 E F N W) : ∀ i, i <= ops.size -> (En i).length = env0.length
 | 0, _ => by rw [t.e0]
 | i + 1, h => by
   obtain ⟨o, ho⟩ : ∃ o, ops[i]? = some o := ⟨_, Array.getElem?_eq_getElem (by omega)⟩
   rw [(qJ0 t ho).1, qTA, nC t i (by omega)]
theorem qK1 {ds : List (Option Tmp)} {b : Array Nat} (t : TrI P tab nm ds b ops.toList env0 ph0 En Hs V 0 E F N W) {x : Nat} : ∀ i, i <= ops.size -> (∀ k o, k < i -> ops[k]? = some o -> o.dst ≠ some x) -> pat (En i) x = pat env0 x
 | 0, _, _ => by rw [t.e0]
 | i + 1, h, hn => by
   obtain ⟨o, ho⟩ : ∃ o, ops[i]? = some o := ⟨_, Array.getElem?_eq_getElem (by omega)⟩
   rw [(qJ0 t ho).1, qKI, if_neg (fun hc => hn i o (by omega) ho hc.1)]
   exact qK1 t i (by omega) fun k o hk => hn k o (by omega)
theorem qPN {ds : List (Option Tmp)} {b : Array Nat} (t : TrI P tab nm ds b ops.toList env0 ph0 En Hs V 0 E F N W) (st : Stat ops) {k x : Nat} {o : Oper} (ho : ops[k]? = some o) (hd : o.dst = some x) (hx : x < env0.length) : ∀ i, i <= ops.size -> k < i -> pat (En i) x = V k
 | 0, _, h => by omega
 | i + 1, h, hk => by
   obtain ⟨p, hp⟩ : ∃ o, ops[i]? = some o := ⟨_, Array.getElem?_eq_getElem (by omega)⟩
   rw [(qJ0 t hp).1, qKI]
   by_cases e : k = i
   ·subst e
    rw [ho] at hp; cases hp
    rw [if_pos ⟨hd, by rw [nC t k (by omega)]; exact hx⟩]
   ·rw [if_neg (fun hc => st.dst k i o p x e ho hp hd hc.1)]
    exact qPN t st ho hd hx i (by omega) (by omega)
theorem qLC {ds : List (Option Tmp)} {b : Array Nat} (t : TrI P tab nm ds b ops.toList env0 ph0 En Hs V 0 E F N W) (hal : aP ops = true) {i : Nat} {o : Oper} (ho : ops[i]? = some o) (he : yB o = false) : Hs (i + 1) = Hs i := by
 rcases (qJ0 t ho).2.2 with ⟨_, h, _⟩ | ⟨_, _, h⟩
 ·exact (qMN (qLR he).1 (qLR he).2 h).1
 ·exact h
theorem qL8 {ds : List (Option Tmp)} {b : Array Nat} (t : TrI P tab nm ds b ops.toList env0 ph0 En Hs V 0 E F N W) (hal : aP ops = true) : ∀ (n p q : Nat), q = p + n -> q <= ops.size -> (∀ k o, ops[k]? = some o -> yB o = true -> (k < p ↔ k < q)) -> Hs p = Hs q
 | 0, p, q, hq, _, _ => by rw [hq]; rfl
 | n + 1, p, q, hq, hle, h => by
   obtain ⟨o, ho⟩ : ∃ o, ops[p]? = some o := ⟨_, Array.getElem?_eq_getElem (by omega)⟩
   have he : yB o = false := by
    cases he : yB o with
    | false => rfl
    | true => have := h p o ho he; omega
   rw [<- qLC t hal ho he]
   refine qL8 t hal n (p + 1) q (by omega) hle fun k o' hk hk' => ?_
   have := h k o' hk hk'
   constructor
   ·intro h1; omega
   ·intro h1; have := this.2 h1; omega
theorem qJG {ds : List (Option Tmp)} {b : Array Nat} (t : TrI P tab nm ds b ops.toList env0 ph0 En Hs V 0 E F N W) (hal : aP ops = true) {l : Nat} : ∀ (n p q : Nat), q = p + n -> q <= ops.size -> (∀ k o, p <= k -> k < q -> ops[k]? = some o -> yB o = true -> ∀ ws, (k, ws) ∈ E -> ws = wlO nm o (En k) -> l ∉ ws) -> qC l (Hs q) = qC l (Hs p)
 | 0, p, q, hq, _, _ => by rw [hq]; rfl
 | n + 1, p, q, hq, hle, h => by
   obtain ⟨o, ho⟩ : ∃ o, ops[p]? = some o := ⟨_, Array.getElem?_eq_getElem (by omega)⟩
   have h1 : qC l (Hs (p + 1)) = qC l (Hs p) := by
    cases he : yB o with
    | false => rw [qLC t hal ho he]
    | true =>
      rcases (qJ0 t ho).2.2 with ⟨_, hx, _, hE, _⟩ | ⟨_, _, hx⟩
      ·have hE := hE he
       rw [Nat.zero_add] at hE
       exact qUY hx (h p o (Nat.le_refl _) (by omega) ho he _ hE rfl)
      ·rw [hx]
   rw [qJG t hal n (p + 1) q (by omega) hle fun k o' hk1 hk2 => h k o' (by omega) hk2, h1]
open Classical in
noncomputable def qNH (ops : Array Oper) (S : Array Bool) (env0 eF : List PV) : List PV := (List.range env0.length).map fun t => if wr ops S t then pat eF t else pat env0 t
theorem gW (S : Array Bool) (eF : List PV) : (qNH ops S env0 eF).length = env0.length := by simp [qNH]
open Classical in
theorem oN {S : Array Bool} {eF : List PV} (hl : eF.length = env0.length) (t : Nat) : pat (qNH ops S env0 eF) t = if wr ops S t then pat eF t else pat env0 t := by
 by_cases ht : t < env0.length
 ·simp [qNH, pat, qG, List.getElem?_range ht]
 ·rw [pQ (by rw [gW]; omega), pQ (by omega), pQ (by omega)]
  simp
theorem q0K {ds : List (Option Tmp)} {b : Array Nat} (t : TrI P tab nm ds b ops.toList env0 ph0 En Hs V 0 E F N W) (st : Stat ops) (hal : aP ops = true) {S : Array Bool} (hclo : Clo ops S) {j : Nat} {o : Oper} (ho : ops[j]? = some o) (hj : ¬ sel S j) (hp : ∀ i, fM (Region.before ops) i j = true -> sel S i) :
 ∀ x ∈ dN ops o, pat (qNH ops S env0 (En ops.size)) x = pat (En j) x := by
 intro x hx
 have hjn := (Array.getElem?_eq_some_iff.1 ho).1
 have before : ∀ {k : Nat} {q : Oper}, k ≠ j -> ops[k]? = some q -> q.dst = some x -> fM (Region.before ops) k j = true ∨ fM (Region.before ops) j k = true := fun hk hq hd => by
  rcases st.reads _ j _ o x hk hq ho hd hx with h | ⟨_, h⟩
  ·exact .inl h
  ·exact .inr h
 rw [oN (nC t _ (Nat.le_refl _))]
 by_cases hw : wr ops S x
 ·rw [if_pos hw]
  obtain ⟨i, oi, hi, hs, hd⟩ := hw
  have hij : i ≠ j := fun e => hj (e ▸ hs)
  have hb : fM (Region.before ops) i j = true := by
   rcases before hij hi hd with h | h
   ·exact h
   ·exact absurd (hclo j i h hs) hj
  have hlt := uW st.back j i hb
  by_cases hx' : x < env0.length
  ·rw [qPN t st hi hd hx' _ (Nat.le_refl _) (by omega), qPN t st hi hd hx' j (by omega) hlt]
  ·rw [pQ (env := En ops.size) (t := x) (by rw [nC t _ (Nat.le_refl _)]; exact Nat.le_of_not_lt hx'), pQ (env := En j) (t := x) (by rw [nC t j (by omega)]; exact Nat.le_of_not_lt hx')]
 ·rw [if_neg hw]
  refine (qK1 t j (by omega) fun k q hk hq hd => ?_).symm
  rcases before (by omega) hq hd with h | h
  ·exact hw ⟨k, q, hq, hp k h, hd⟩
  ·have := uW st.back k j h; omega
theorem qUN {ds : List (Option Tmp)} {b : Array Nat} (t : TrI P tab nm ds b ops.toList env0 ph0 En Hs V 0 E F N W) (st : Stat ops) {S : Array Bool} {j : Nat} {o : Oper} (ho : ops[j]? = some o) (hjs : j < S.size) :
 qNH ops (S.setIfInBounds j true) env0 (En ops.size) = xQ (qNH ops S env0 (En ops.size)) o.dst (V j) := by
 have hl := nC t _ (Nat.le_refl _)
 have hjn := (Array.getElem?_eq_some_iff.1 ho).1
 apply qI3
 ·rw [qTA, gW, gW]
 intro x
 rw [qKI, gW, oN hl, oN hl]
 by_cases hd : o.dst = some x
 ·have hw : wr ops (S.setIfInBounds j true) x := ⟨j, o, ho, (jA hjs).2 (.inl rfl), hd⟩
  rw [if_pos hw]
  by_cases hx : x < env0.length
  ·rw [if_pos ⟨hd, hx⟩, qPN t st ho hd hx _ (Nat.le_refl _) hjn]
  ·rw [if_neg (c := o.dst = some x ∧ x < env0.length) (fun h => hx h.2), pQ (by omega), pQ (by omega)]; simp
 ·rw [if_neg (c := o.dst = some x ∧ x < env0.length) (fun h => hd h.1)]
  have : wr ops (S.setIfInBounds j true) x ↔ wr ops S x := by
   constructor
   ·rintro ⟨i, oi, h1, h2, h3⟩
    rcases (jA hjs).1 h2 with rfl | h2
    ·rw [ho] at h1; cases h1; exact absurd h3 hd
    ·exact ⟨i, oi, h1, h2, h3⟩
   ·rintro ⟨i, oi, h1, h2, h3⟩
    exact ⟨i, oi, h1, (jA hjs).2 (.inr h2), h3⟩
  by_cases hw : wr ops S x
  ·rw [if_pos hw, if_pos (this.2 hw)]
  ·rw [if_neg hw, if_neg (fun h => hw (this.1 h))]
theorem qNW {o : Oper} {a c : List PV} (h : ∀ t ∈ dN ops o, pat a t = pat c t) : ∀ x ∈ o.op.operands, zD a x = zD c x := by
 intro x hx
 cases x with
 | tmp t => exact h t (List.mem_append_left _ (List.mem_filterMap.2 ⟨.tmp t, Array.mem_def.1 hx, rfl⟩))
 | _ => rfl
theorem qI5 {o : Oper} {a c : List PV} (hl : a.length = c.length) (h : ∀ t ∈ dN ops o, pat a t = pat c t) : dA (ops.toList.map (·.dst)) o a = dA (ops.toList.map (·.dst)) o c := by
 unfold dA
 split
 ·rfl
 ·rename_i g w hg
  have hd : tH (ops.toList.map (·.dst)) g = (ops[g]?).bind (·.dst) := by
   unfold tH
   rw [List.getElem?_map]
   have : ops.toList[g]? = ops[g]? := by simp
   rw [this]
   cases ops[g]? <;> rfl
  unfold qML
  rw [hd]
  cases ht : (ops[g]?).bind (·.dst) with
  | none => rfl
  | some t =>
    simp only
    rw [qRV hl (h t (List.mem_append_right _ (by rw [hg]; simp [ht])))]
def q34 (ops : Array Oper) (S : Array Bool) (p : Nat) : Prop := ∀ (j : Nat) (o : Oper), ops[j]? = some o -> yB o = true -> (sel S j ↔ j < p)
structure StandP (P : Program) (B : Nat) (nm : Nm) (ops : Array Oper) (env0 : List PV) (En : Nat -> List PV) (Hs : Nat -> PHp) (Z0 : Nat -> Prop) (H0 : IH) (m0 : Nat -> Nat) (ph0 : PHp) (f0 : Inj) (w0 : World) (S : Array Bool) (a : Act) (w : World) (p : Nat) (Z : Nat -> Prop) (H : IH) (m : Nat -> Nat) (f : Inj) (ienv : Env) : Prop where
 size : S.size = ops.size
 clo : Clo ops S
 cut : q34 ops S p
 ple : p <= ops.size
 rel : Rel P f H w
 grow : Grow f0 H0 w0 f H w
 venv : qA P f ienv a.tmps.toList
 marks : Marks B f w a.defers
 hp : Hp P Z H (own m (Hs p))
 hb : H.base <= H.size
 env : VRL P Z H (own m (Hs p)) (qNH ops S env0 (En ops.size)) ienv
 step : Step Z0 H0 (own m0 ph0) Z H (own m (Hs p))
 kr : KR (inP nm) (own m0 ph0) (own m (Hs p))
theorem qSG {k : Nat} : ∀ {l : List PV}, (∀ t, noK k (pat l t) = true) -> kU k l = true
 | [], _ => rfl
 | x :: l, h => by
   simp only [kU, Bool.and_eq_true]
   refine ⟨h 0, qSG fun t => ?_⟩
   have := h (t + 1)
   exact this
theorem qZQ {k : Nat} {l : List PV} (h : kU k l = true) (t : Nat) : noK k (pat l t) = true := by
 unfold pat
 rw [qG]
 cases he : l[t]? with
 | none => rfl
 | some x => exact uT h he
theorem qNS {B : Nat} {F0 : Fence} (hF : mJ F0) (hns : wT P G nat) (ht : qOU P nat tab) (t : TrI P tab nm (ops.toList.map (·.dst)) (Region.before ops) ops.toList env0 ph0 En Hs V 0 E F N W) (st : Stat ops) (hal : aP ops = true)
 (hck : eB (Region.before ops) env0 E F N W = true) {K : Exit -> Act -> World -> Prop} {Z0 : Nat -> Prop} {H0 : IH} {m0 : Nat -> Nat} {f0 : Inj} {w0 : World}
 (hdone : ∀ (Z : Nat -> Prop) (H : IH) (m : Nat -> Nat) (f : Inj) (ienv : Env) (a : Act) (w : World), Rel P f H w -> Grow f0 H0 w0 f H w -> qA P f ienv a.tmps.toList -> Marks B f w a.defers -> Hp P Z H (own m (Hs ops.size)) -> VRL P Z H (own m (Hs ops.size)) (En ops.size) ienv ->
   Step Z0 H0 (own m0 ph0) Z H (own m (Hs ops.size)) -> KR (inP nm) (own m0 ph0) (own m (Hs ops.size)) -> K .normal a w)
 (hG : aB G f0) (hok : jX (yG f0) ops = true) :
 ∀ (fuel : Nat) (S : Array Bool) (a : Act) (w : World), unl ops S <= fuel -> (∃ p Z H m f ienv, StandP P B nm ops env0 En Hs Z0 H0 m0 ph0 f0 w0 S a w p Z H m f ienv) -> wpAnyIn F0 0 P .any ops K fuel S a w := by
 intro fuel
 have hl := nC t _ (Nat.le_refl _)
 have all_of_ready : ∀ {S : Array Bool}, S.size = ops.size -> Region.ready .any ops S = [] -> ∀ j, j < ops.size -> sel S j := by
  intro S hsz hr j
  induction j using Nat.strongRecOn with
  | _ j ih =>
    intro hj
    by_cases hs : sel S j
    ·exact hs
    ·exfalso
     have : j ∈ Region.ready .any ops S := by
      rw [mem_ready]
      refine ⟨?_, ops[j], by simp [hj], fun e he hb => ?_⟩
      ·unfold sel at hs
       rw [Array.getD_eq_getD_getElem?] at hs ⊢
       rw [Array.getElem?_eq_getElem (by omega)] at hs ⊢
       simpa using hs
      ·have hlt := st.back j ops[j] (by simp [hj]) e he hb
       exact ih e.on hlt (by omega)
     rw [hr] at this
     cases this
 have done : ∀ {S : Array Bool} {a : Act} {w : World} {p : Nat} {Z : Nat -> Prop} {H : IH} {m : Nat -> Nat} {f : Inj} {ienv : Env}, StandP P B nm ops env0 En Hs Z0 H0 m0 ph0 f0 w0 S a w p Z H m f ienv -> (∀ j, j < ops.size -> sel S j) -> K .normal a w := by
  intro S a w p Z H m f ienv s hall
  have hcut : q34 ops S ops.size := fun j o ho _ => ⟨fun _ => (Array.getElem?_eq_some_iff.1 ho).1, fun h => hall j h⟩
  have hpe : Hs p = Hs ops.size := qL8 t hal (ops.size - p) p ops.size (by have := s.ple; omega) (Nat.le_refl _) fun k o hk he => (s.cut k o hk he).symm.trans (hcut k o hk he)
  have hcur : qNH ops S env0 (En ops.size) = En ops.size := by
   apply qI3
   ·rw [gW, hl]
   intro x
   rw [oN hl]
   by_cases hw : wr ops S x
   ·rw [if_pos hw]
   ·rw [if_neg hw]
    exact (qK1 t _ (Nat.le_refl _) fun k o hk ho hd => hw ⟨k, o, ho, hall k hk, hd⟩).symm
  have e1 := s.hp
  have e2 := s.env
  have e3 := s.step
  have e4 := s.kr
  rw [hpe] at e1 e2 e3 e4
  rw [hcur] at e2
  exact hdone Z H m f ienv a w s.rel s.grow s.venv s.marks e1 e2 e3 e4
 induction fuel with
 | zero =>
   rintro S a w hu ⟨p, Z, H, m, f, ienv, s⟩
   have hall : ∀ j, j < ops.size -> sel S j := by
    intro j hj
    have hz : unl ops S = 0 := by omega
    unfold unl at hz
    have := List.countP_eq_zero.1 hz j (List.mem_range.2 hj)
    unfold sel
    simpa using this
   refine ⟨?_, done s hall⟩
   cases hrd : Region.ready .any ops S with
   | nil => rfl
   | cons x l =>
     have hx : x ∈ Region.ready .any ops S := by rw [hrd]; exact List.mem_cons_self
     rw [mem_ready] at hx
     obtain ⟨h1, o, ho, _⟩ := hx
     have hlt := (Array.getElem?_eq_some_iff.1 ho).1
     have := hall x hlt
     unfold sel at this
     rw [Array.getD_eq_getD_getElem?, Array.getElem?_eq_getElem (by rw [s.size]; exact hlt)] at h1 this
     simp only [Option.getD_some] at h1 this
     rw [h1] at this; cases this
 | succ fuel ih =>
   rintro S a w hu ⟨p, Z, H, m, f, ienv, s⟩
   refine ⟨fun hrd => done s (all_of_ready s.size hrd), fun j hj => ?_⟩
   rw [mem_ready] at hj
   obtain ⟨hjl, o, ho, hedge⟩ := hj
   have hlt := (Array.getElem?_eq_some_iff.1 ho).1
   have hjs : j < S.size := by rw [s.size]; exact hlt
   have hnj : ¬ sel S j := by
    unfold sel
    rw [Array.getD_eq_getD_getElem?, Array.getElem?_eq_getElem hjs] at hjl ⊢
    simp only [Option.getD_some] at hjl ⊢
    rw [hjl]; simp
   have hpre : ∀ i, fM (Region.before ops) i j = true -> sel S i := by
    intro i hb
    obtain ⟨e, he, hbd, h3⟩ := (qJ2 st.back ho).1 hb
    have := hedge e he hbd
    rcases h3 with rfl | h3
    ·exact this
    ·exact s.clo _ _ h3 this
   have hu' : unl ops (S.setIfInBounds j true) <= fuel := by
    have := qPU hlt s.size hnj; omega
   have hclo' := qQB hjs s.clo hpre
   have hok' : o.op.operands.toList.all (jY (yG f)) = true := by
    have h1 := wK (yH s.grow.le) hok
    unfold jX at h1
    exact List.all_eq_true.1 h1 o (List.mem_of_getElem? (toL ho))
   have hag := q0K t st hal s.clo ho hnj hpre
   have hlen : (qNH ops S env0 (En ops.size)).length = (En j).length := by rw [gW, nC t j (by omega)]
   have hval := qNW hag
   have hwc := qI5 (ops := ops) hlen hag
   have hGf := hG.mono s.grow.le
   obtain ⟨q1, q2, q3⟩ := qJ0 t ho
   unfold wpOpIn
   rw [ho]
   simp only
   -- the next stand
   have cutN : ∃ p', p' <= ops.size ∧ q34 ops (S.setIfInBounds j true) p' ∧ (yB o = true -> p' = j + 1) ∧ (yB o = false -> p' = p) := by
    cases he : yB o with
    | true =>
      refine ⟨j + 1, hlt, ?_, fun _ => rfl, fun h => (by cases h)⟩
      intro k q hk hq
      rw [jA hjs]
      by_cases hkj : k = j
      ·subst hkj; simp
      ·rcases qIQ hal k j q o hkj hk ho hq he with h | h
       ·have := uW st.back j k h
        exact ⟨fun _ => by omega, fun _ => .inr (hpre k h)⟩
       ·have := uW st.back k j h
        refine ⟨fun hs => ?_, fun h2 => by omega⟩
        rcases hs with hs | hs
        ·exact absurd hs hkj
        ·exact absurd (s.clo j k h hs) hnj
    | false =>
      refine ⟨p, s.ple, ?_, fun h => (by cases h), fun _ => rfl⟩
      intro k q hk hq
      rw [jA hjs]
      have hkj : k ≠ j := by intro e; subst e; rw [ho] at hk; cases hk; rw [he] at hq; cases hq
      simp only [hkj, false_or]
      exact s.cut k q hk hq
   have hcutE : yB o = true -> Hs p = Hs j := fun he => by
    have key : ∀ k q, ops[k]? = some q -> yB q = true -> (k < p ↔ k < j) := fun k q hk hq => by
     refine (s.cut k q hk hq).symm.trans ?_
     by_cases hkj : k = j
     ·subst hkj; exact ⟨fun h => absurd h hnj, fun h => absurd h (Nat.lt_irrefl _)⟩
     ·rcases qIQ hal k j q o hkj hk ho hq he with h | h
      ·have := uW st.back j k h
       exact ⟨fun _ => this, fun _ => hpre k h⟩
      ·have := uW st.back k j h
       exact ⟨fun hs => absurd (s.clo j k h hs) hnj, fun hlt => by omega⟩
    by_cases hpj : p <= j
    ·exact qL8 t hal (j - p) p j (by omega) (by omega) key
    ·exact (qL8 t hal (p - j) j p (by omega) s.ple fun k q hk hq => (key k q hk hq).symm).symm
   obtain ⟨p', hp'le, hcut', hpE, hpF⟩ := cutN
   have hcurN := qUN t st ho hjs
   rcases q3 with ⟨g1, g2, g3, g4, g5⟩ | ⟨g1, g2, g3⟩
   ·rw [<- hwc] at g1
    rw [xY s.venv (oQ s.env g1), if_pos rfl]
    -- the operation at this state
    have hx : ∃ php, xV P tab (yC nm o.dst) o (qNH ops S env0 (En ops.size)) (Hs p) = .ok (V j) php ∧ php = Hs p' := by
     cases he : yB o with
     | true =>
       refine ⟨Hs (j + 1), ?_, by rw [hpE he]⟩
       rw [hcutE he, pG hval]; exact g2
     | false =>
       obtain ⟨d1, d2⟩ := qMN (qLR he).1 (qLR he).2 g2
       refine ⟨Hs p, ?_, by rw [hpF he]⟩
       rw [pG hval]
       refine d2 _ _ fun l hl => ?_
       have hFj := g5 he
       unfold eB at hck
       rw [Bool.and_eq_true] at hck
       have hchk := List.all_eq_true.1 hck.1 _ hFj
       have nowr : ∀ k q, ops[k]? = some q -> yB q = true -> (¬ (k < p ↔ k < j)) -> ∀ ws, (k, ws) ∈ E -> l ∉ ws := by
        intro k q hk hq hne ws hws
        have := List.all_eq_true.1 hchk _ hws
        simp only [Nat.zero_add, Bool.or_eq_true, List.all_eq_true] at this
        rcases this with h | h
        ·exfalso
         have hsk := s.cut k q hk hq
         unfold qWK at h
         rw [Bool.or_eq_true] at h
         rcases h with h | h
         ·have h1 := hpre k h
          have h2 := uW st.back j k h
          exact hne ⟨fun _ => h2, fun _ => hsk.1 h1⟩
         ·have h2 := uW st.back k j h
          have h1 : ¬ sel S k := fun hs => hnj (s.clo j k h hs)
          exact hne ⟨fun hh => absurd (hsk.2 hh) h1, fun hh => by omega⟩
        ·have := h l hl
         intro hm
         simp [hm] at this
       by_cases hpj : p <= j
       ·refine (qJG t hal (j - p) p j (by omega) (by omega) fun k q h1 h2 hk hq ws hws _ => ?_).symm
        exact nowr k q hk hq (fun h => by have := h.2 h2; omega) ws hws
       ·refine qJG t hal (p - j) j p (by omega) s.ple fun k q h1 h2 hk hq ws hws _ => ?_
        exact nowr k q hk hq (fun h => by have := h.1 h2; omega) ws hws
    obtain ⟨php, hx, rfl⟩ := hx
    have hfresh : needs o.op = true -> fresh nm (yC nm o.dst) (qNH ops S env0 (En ops.size)) (Hs p) = true := by
     intro hn
     have he : yB o = true := by
      unfold yB kC qL kR
      cases hop : o.op <;> rw [hop] at hn <;> first | (cases hn; done) | rfl | skip
      ·cases hg : o.guard.isNone <;> rfl
      ·rename_i c
       obtain ⟨cal, args, ts⟩ := c
       cases cal with
       | builtin b => cases b <;> first | (cases hn; done) | rfl
       | _ => cases hn
     obtain ⟨i1, i2, i3⟩ := g3 hn
     unfold fresh
     rw [i1, hcutE he, i2, Bool.and_true, Bool.true_and]
     unfold eB at hck
     rw [Bool.and_eq_true] at hck
     have hN := List.all_eq_true.1 hck.2 _ i3
     rw [Bool.and_eq_true] at hN
     refine qSG fun x => ?_
     rw [oN hl]
     by_cases hw : wr ops S x
     ·rw [if_pos hw]
      obtain ⟨i, oi, hi, hs, hd⟩ := hw
      by_cases hx' : x < env0.length
      ·have hin := (Array.getElem?_eq_some_iff.1 hi).1
       rw [qPN t st hi hd hx' _ (Nat.le_refl _) hin]
       have hW := List.all_eq_true.1 hN.2 _ (qJ0 t hi).2.1
       simp only [Nat.zero_add, Bool.or_eq_true] at hW
       rcases hW with h | h | h
       ·have := Nat.eq_of_beq_eq_true h
        subst this
        exact absurd hs hnj
       ·exact absurd (s.clo j i h hs) hnj
       ·exact h
      ·rw [pQ (env := En ops.size) (t := x) (by rw [hl]; exact Nat.le_of_not_lt hx')]; rfl
     ·rw [if_neg hw]
      exact qZQ hN.1 x
    refine qK4 (nm := nm) hF hns ht s.rel hGf s.venv hok' s.hp s.hb s.env (qTE hx) hfresh fun Z' m' u H' f' v' w' b1 b2 b3 b4 b5 k1 k2 k3 => ?_
    refine ih _ _ _ hu' ⟨p', Z', H', m', f', ienv.putD o.dst u, by simp [s.size], hclo', hcut', hp'le, k1, s.grow.trans k2, jU (s.venv.mono k2.le) k3 _, by rw [put_defers]; exact Marks.grow k2 _ s.marks, b1, by rw [b4.base]; exact Nat.le_trans s.hb b4.size, ?_, s.step.trans b4, s.kr.trans b5⟩
    rw [hcurN]
    exact b3.putD b2 _
   ·rw [<- hwc] at g1
    rw [xY s.venv (oQ s.env g1), if_neg (by simp)]
    have hpp : Hs p' = Hs p := by
     cases he : yB o with
     | true => rw [hpE he, g3, hcutE he]
     | false => rw [hpF he]
    have e1 := s.hp
    have e2 := s.env
    have e3 := s.step
    have e4 := s.kr
    rw [<- hpp] at e1 e2 e3 e4
    refine ⟨fun g _ => hF.fn g, ih _ _ _ hu' ⟨p', Z, H, m, f, ienv.putD o.dst undef, by simp [s.size], hclo', hcut', hp'le, s.rel, s.grow, jU s.venv .undef _, by rw [put_defers]; exact s.marks, e1, s.hb, ?_, e3, e4⟩⟩
    rw [hcurN, g2]
    exact e2.putD (VRL.tup' (vs := #[]) .nil) _
end
theorem PSet.drw (s : PSet P good nat G tab) {id : Nat} {ops : Array Oper} {env : List PV} {ph : PHp} {Q : PQ} {ds : List (Option Tmp)} (hok : jX G ops = true) (hd : aM ops = true) (hal : aP ops = true) (hds : ops.toList.map (·.dst) = ds)
 (h : (qJJ P tab nm ds (Region.before ops) env 0 ops.toList env ph [] [] [] []).holds P G fun e p => Q .normal e p) : Runs P G rd nm (.region id ops true) env ph Q := by
 intro Z H m ienv hp hb he B F f a w hF hr hR hG henv hm
 subst hds
 obtain ⟨En, Hs, V, E', F', N', W', t, _, _, _, _, hck, hq⟩ := qE7 _ _ _ _ _ _ _ _ h
 have st := qPT hd
 have hn : ops.toList.length = ops.size := by simp
 rw [hn] at hq
 refine wpIn_region_any s.s.mix (qNS (B := B) hF s.s.spec s.t t st hal hck (K := uE P B f H w _) (Z0 := Z) (H0 := H) (m0 := m) (f0 := f) (w0 := w) ?_ hG (wK hG hok) _ _ _ _ ?_ ⟨0, Z, H, m, f, ienv, ?_⟩)
 ·intro Z' H' m' f' ienv' a' w' k1 k2 k3 k4 k5 k6 k7 k8
  exact ⟨⟨.normal, ienv', H'⟩, f', ⟨Z', m', En ops.size, Hs ops.size, k5, k6, k7, k8, hq⟩, rfl, k1, k2, k3, k4⟩
 ·unfold unl
  have := List.countP_le_length (p := fun j => !(Array.replicate ops.size false).getD j false) (l := List.range ops.size)
  simpa using this
 ·have hsel : ∀ i, ¬ sel (Array.replicate ops.size false) i := by
   intro i h
   unfold sel at h
   rw [Array.getD_eq_getD_getElem?, Array.getElem?_replicate] at h
   split at h <;> simp at h
  have hcur : qNH ops (Array.replicate ops.size false) env (En ops.size) = env := by
   apply qI3 (gW _ _)
   intro x
   rw [oN (nC t _ (Nat.le_refl _)), if_neg]
   rintro ⟨j, o, _, h2, _⟩
   exact hsel j h2
  have hw : Grow f H w f H { w with drawn := w.drawn + 1 } := Grow.world rfl
  have h0 := t.h0
  refine ⟨by simp, fun i j _ hj => absurd hj (hsel j), fun j o _ _ => ⟨fun h => absurd h (hsel j), fun h => by omega⟩, Nat.zero_le _, hR.world rfl, hw, henv, Marks.grow hw _ hm, by rw [h0]; exact hp, hb, by rw [h0, hcur]; exact he, by rw [h0]; exact .refl _ _ _, by rw [h0]; exact .refl _ _⟩
end Go.Idl
