/- The operations of a region on values without a heap, calls included. Conditions: none. -/
import Derived.Test.YtpdlblofcdcikaaGreatDoorPur9
set_option linter.unusedSimpArgs false
set_option linter.unusedVariables false
namespace Go.Idl
variable {P : Program} {Z : Nat → Prop} {H : IH} {M : Nat → Option (Nat × PO)} {m : Nat → Nat} {ph : PHp} {G : Nat → Bool}

theorem Hp.old {Z' : Nat → Prop} {H' : IH} (h : Hp P Z H (own m ph)) (ho : Old H H') (hz : ∀ b, Z b → Z' b) (hz1 : ∀ b, Z' b → b < H'.size) (hz2 : ∀ b, Z' b → b < H.size → Z b) : Hp P Z' H' (own m ph) := by
  refine ⟨hz1, fun k b ob hk => ?_, h.inj⟩
  rcases h.obj k b ob hk with h1 | ⟨a1, a2, a3, vs, a4, a5, a6⟩
  · exact .inl h1
  · exact .inr ⟨Nat.lt_of_lt_of_le a1 ho.size, by rw [ho.base]; exact a2, fun h => a3 (hz2 b h a1), vs, (ho.get b a1).trans a4, a5.mono (p := fun _ => false) hz ho.size (fun b _ hb => ho.get b hb) (.refl _ _) (fun j hj => by cases hj), a6⟩
theorem Step.old {Z' : Nat → Prop} {H' : IH} (ho : Old H H') (hz : ∀ b, Z b → Z' b) (hz2 : ∀ b, Z' b → b < H.size → Z b) : Step Z H M Z' H' M :=
  ⟨ho.size, ho.base, hz, fun b hb _ => ho.get b hb, fun b h hb => .inl (hz2 b h hb), fun _ h _ => h⟩

/-- results without addresses -/
def plainR : PV → Bool
  | .f (.v _) => true
  | .agg cs => (pl1L cs).isSome
  | .tup cs => (plL cs).isSome
  | _ => false
theorem pl1_any {x : PV} {v : Value} (h : VR P Z H M x v) (hp : (pl1 x).isSome = true) (Z' : Nat → Prop) (H' : IH) (M' : Nat → Option (Nat × PO)) : VR P Z' H' M' x v := by
  unfold pl1 at hp
  split at hp
  · cases h with
    | f h => cases h with
      | v a b => exact .f (.v a b)
  · cases hp
theorem pl1L_any (Z' : Nat → Prop) (H' : IH) (M' : Nat → Option (Nat × PO)) : ∀ {xs : List PV} {vs : List Value}, VRL P Z H M xs vs → (pl1L xs).isSome = true → VRL P Z' H' M' xs vs
  | [], vs, h, _ => by rw [h.nil_left]; exact .nil
  | x :: xs, _, h, hp => by
    obtain ⟨v, vs, rfl, h1, h2⟩ := h.uncons
    unfold pl1L at hp
    split at hp
    · rename_i a ha
      split at hp
      · rename_i as has
        exact .cons (pl1_any h1 (by rw [ha]; rfl) _ _ _) (pl1L_any Z' H' M' h2 (by rw [has]; rfl))
      · cases hp
    · cases hp
theorem VR.aggL {cs : List PV} {v : Value} (h : VR P Z H M (.agg cs) v) : ∃ vs, v = .agg vs ∧ VRL P Z H M cs vs.toList := by
  cases h with
  | agg hl hc => exact ⟨_, rfl, by simpa using hl, fun i x v a b => hc i x v a (by simpa using b)⟩
theorem VR.tupL {cs : List PV} {v : Value} (h : VR P Z H M (.tup cs) v) : ∃ vs, v = .tuple vs ∧ VRL P Z H M cs vs.toList := by
  cases h with
  | tup hl hc => exact ⟨_, rfl, by simpa using hl, fun i x v a b => hc i x v a (by simpa using b)⟩
theorem VRL.agg' {cs : List PV} {vs : Array Value} (h : VRL P Z H M cs vs.toList) : VR P Z H M (.agg cs) (.agg vs) := .agg (by simpa using h.len) fun i x v a b => h.val i x v a (by simpa using b)
theorem VRL.tup' {cs : List PV} {vs : Array Value} (h : VRL P Z H M cs vs.toList) : VR P Z H M (.tup cs) (.tuple vs) := .tup (by simpa using h.len) fun i x v a b => h.val i x v a (by simpa using b)
theorem pl_any {x : PV} {v : Value} (h : VR P Z H M x v) (hp : (pl x).isSome = true) (Z' : Nat → Prop) (H' : IH) (M' : Nat → Option (Nat × PO)) : VR P Z' H' M' x v := by
  unfold pl at hp
  split at hp
  · exact pl1_any h rfl _ _ _
  · rename_i cs
    obtain ⟨vs, rfl, hr⟩ := h.aggL
    refine (pl1L_any Z' H' M' hr ?_).agg'
    split at hp
    · rename_i as has; rw [has]; rfl
    · cases hp
  · cases hp
theorem plL_any (Z' : Nat → Prop) (H' : IH) (M' : Nat → Option (Nat × PO)) : ∀ {xs : List PV} {vs : List Value}, VRL P Z H M xs vs → (plL xs).isSome = true → VRL P Z' H' M' xs vs
  | [], vs, h, _ => by rw [h.nil_left]; exact .nil
  | x :: xs, _, h, hp => by
    obtain ⟨v, vs, rfl, h1, h2⟩ := h.uncons
    unfold plL at hp
    split at hp
    · rename_i a ha
      split at hp
      · rename_i as has
        exact .cons (pl_any h1 (by rw [ha]; rfl) _ _ _) (plL_any Z' H' M' h2 (by rw [has]; rfl))
      · cases hp
    · cases hp
theorem plainR_any {x : PV} {v : Value} (h : VR P Z H M x v) (hp : plainR x = true) (Z' : Nat → Prop) (H' : IH) (M' : Nat → Option (Nat × PO)) : VR P Z' H' M' x v := by
  unfold plainR at hp
  split at hp
  · exact pl1_any h rfl _ _ _
  · obtain ⟨vs, rfl, hr⟩ := h.aggL
    exact (pl1L_any Z' H' M' hr hp).agg'
  · obtain ⟨vs, rfl, hr⟩ := h.tupL
    exact (plL_any Z' H' M' hr hp).tup'
  · cases hp

/-! ### Nil slices, told as lists -/
def cellTs (P : Program) : Nat → TypeId → List TypeId
  | 0, t => [t]
  | n + 1, t => match P.underlying t with
    | some (.struct fields) => fields.toList.flatMap fun f => cellTs P n f.type
    | some (.array k el) => (List.replicate k (cellTs P n el)).flatten
    | _ => [t]
def rt0 (P : Program) (t : TypeId) : PV → PV
  | .f (.v (.slice none 0 0)) => match elemT P t with
    | some el => .f (.l el 0 [])
    | none => fvv (.slice none 0 0)
  | x => x
def rtL (f : TypeId → PV → PV) : List TypeId → List PV → List PV
  | t :: ts, x :: xs => f t x :: rtL f ts xs
  | _, xs => xs
def rt1 (P : Program) (t : TypeId) : PV → PV
  | .agg cs => .agg (rtL (rt0 P) (cellTs P 8 t) cs)
  | x => rt0 P t x
def rtA (P : Program) (g : FuncId) (args : List PV) : List PV := match P.funcs[g]? with
  | some fn => rtL (rt1 P) fn.params.toList args
  | none => args
theorem rt0_ok {t : TypeId} {x : PV} {v : Value} (h : VR P Z H M x v) : VR P Z H M (rt0 P t x) v := by
  unfold rt0
  split
  · split
    · have := pl_ok h rfl
      subst this
      exact .f (.nil (fun _ => rfl) fun _ h => by cases h)
    · exact h
  · exact h
theorem rtL_ok {f : TypeId → PV → PV} (hf : ∀ t x v, VR P Z H M x v → VR P Z H M (f t x) v) : ∀ {ts : List TypeId} {xs : List PV} {vs : List Value}, VRL P Z H M xs vs → VRL P Z H M (rtL f ts xs) vs
  | [], xs, vs, h => by cases xs <;> exact h
  | t :: ts, [], vs, h => h
  | t :: ts, x :: xs, vs, h => by
    obtain ⟨v, vs', rfl, h1, h2⟩ := h.uncons
    exact .cons (hf t x v h1) (rtL_ok hf h2)
theorem rt1_ok {t : TypeId} {x : PV} {v : Value} (h : VR P Z H M x v) : VR P Z H M (rt1 P t x) v := by
  unfold rt1
  split
  · obtain ⟨vs, rfl, hr⟩ := h.aggL
    exact (rtL_ok (fun t x v h => rt0_ok h) hr).agg'
  · exact rt0_ok h
theorem rtA_ok {g : FuncId} {xs : List PV} {vs : List Value} (h : VRL P Z H M xs vs) : VRL P Z H M (rtA P g xs) vs := by
  unfold rtA
  split
  · exact rtL_ok (fun t x v h => rt1_ok h) h
  · exact h

/-! ### Contracts -/
abbrev PTab := FuncId → List PV → Option PV
/-- a contract of a function: of what is not written its result, in old memory or new -/
def Ctr (P : Program) (k : List Value → IH → T (Value × IH)) (pargs : List PV) (r : PV) : Prop :=
  ∀ (Z : Nat → Prop) (H : IH) (args : List Value), VRL P Z H (fun _ => none) pargs args → (∀ b, Z b → b < H.size) → H.base ≤ H.size → ∀ Q : Value × IH → Prop,
    (∀ v H' (Z' : Nat → Prop), Old H H' → (∀ b, Z b → Z' b) → (∀ b, Z' b → b < H'.size) → (∀ b, Z' b → b < H.size → Z b) → VR P Z' H' (fun _ => none) r v → Q (v, H')) → (k args H).holds Q
def frz1 : PV → Bool
  | .f _ => true
  | _ => false
def frzA : PV → Bool
  | .agg cs => cs.all frz1
  | x => frz1 x
/-- no object in it -/
def frzR : PV → Bool
  | .tup cs => cs.all frzA
  | x => frzA x
theorem frz1_any {x : PV} {v : Value} {M' : Nat → Option (Nat × PO)} (h : VR P Z H M x v) (hp : frz1 x = true) : VR P Z H M' x v := by
  unfold frz1 at hp
  split at hp
  · cases h with
    | f h => exact .f h
  · cases hp
theorem frzA_any {x : PV} {v : Value} {M' : Nat → Option (Nat × PO)} (h : VR P Z H M x v) (hp : frzA x = true) : VR P Z H M' x v := by
  unfold frzA at hp
  split at hp
  · obtain ⟨vs, rfl, hr⟩ := h.aggL
    exact VRL.agg' ⟨hr.len, fun i x v a b => frz1_any (hr.val i x v a b) (List.all_eq_true.1 hp x (List.mem_of_getElem? a))⟩
  · exact frz1_any h hp
theorem frzR_any {x : PV} {v : Value} {M' : Nat → Option (Nat × PO)} (h : VR P Z H M x v) (hp : frzR x = true) : VR P Z H M' x v := by
  unfold frzR at hp
  split at hp
  · obtain ⟨vs, rfl, hr⟩ := h.tupL
    exact VRL.tup' ⟨hr.len, fun i x v a b => frzA_any (hr.val i x v a b) (List.all_eq_true.1 hp x (List.mem_of_getElem? a))⟩
  · exact frzA_any h hp
def TabOk (P : Program) (nat : Nats) (tab : PTab) : Prop := ∀ g pargs r, tab g pargs = some r → enters P g = true ∧ frzR r = true ∧ ∃ k, nat g = some k ∧ Ctr P k pargs r
/-- a function's own labels: from which on, and which -/
structure Nm where
  b : Nat
  p : Nat → Bool
/-- a call just here -/
def CallP (P : Program) (G : Nat → Bool) (nm : Nm) (g : FuncId) (args : List PV) (ph : PHp) (R : PV → PHp → Prop) : Prop :=
  enters P g = true ∧ ∀ (Z : Nat → Prop) (H : IH) (m : Nat → Nat) (iargs : List Value), Hp P Z H (own m ph) → H.base ≤ H.size → VRL P Z H (own m ph) args iargs →
    CallI P G g iargs H fun r => ∃ Z' m' pv ph', Hp P Z' r.2 (own m' ph') ∧ VR P Z' r.2 (own m' ph') pv r.1 ∧ Step Z H (own m ph) Z' r.2 (own m' ph') ∧ KR nm.p (own m ph) (own m' ph') ∧ R pv ph'

/-! ### Operations of a region -/
inductive PE where
  | fail
  | ok (v : PV) (ph : PHp)
  | call (g : FuncId) (args : List PV) (ph : PHp)
  | rnd (l : Nat) (args : List PV) (ph : PHp)
inductive PT where
  | fail
  | ret (env : List PV) (ph : PHp)
  | chk (c : Bool) (t : PT)
  | call (nm : Nm) (g : FuncId) (args : List PV) (ph : PHp) (k : PV → PHp → PT)
  | rnd (l : Nat) (args : List PV) (ph : PHp) (k : PV → PHp → PT)
def PT.holds (P : Program) (G : Nat → Bool) (Q : List PV → PHp → Prop) : PT → Prop
  | .fail => False
  | .ret env ph => Q env ph
  | .chk c t => c = true ∧ t.holds P G Q
  | .call nm g args ph k => ∃ R, CallP P G nm g args ph R ∧ ∀ v ph', R v ph' → (k v ph').holds P G Q
  | .rnd _ _ _ _ => False
noncomputable def pcallT (P : Program) (tab : PTab) (g : FuncId) (args : List PV) (ph : PHp) : PE := match fzA P args ph with
  | some (fargs, ph1) => (match tab g (rtA P g fargs) with
    | some r => .ok r (cond (plainR r) ph ph1)
    | none => .fail)
  | none => .fail
noncomputable def pcallG (P : Program) (tab : PTab) (inl : FuncId → Bool) (g : FuncId) (args : List PV) (ph : PHp) : PE := cond (inl g) (.call g args ph) (pcallT P tab g args ph)
noncomputable def pcallV (P : Program) (tab : PTab) (inl : FuncId → Bool) (fv : PV) (args : List PV) (ph : PHp) : PE := match fv with
  | .f (.v (.func (.func g) a c)) => cond (a.toList.isEmpty && c.toList.isEmpty) (pcallG P tab inl g args ph) .fail
  | .yl l => .rnd l args ph
  | .fn g first cap => pcallG P tab inl g (first ++ (args ++ cap)) ph
  | _ => .fail
def peO : Option (PV × PHp) → PE
  | some r => .ok r.1 r.2
  | none => .fail
noncomputable def pexec (P : Program) (tab : PTab) (inl : FuncId → Bool) (k : Nat) (o : Oper) (env : List PV) (ph : PHp) : PE := match o.op with
  | .call ⟨.value f, args, _⟩ => pcallV P tab inl (pval env f) (args.toList.map (pval env)) ph
  | _ => peO (pop1 P o env k ph)
def pwantV (want : Bool) : PV → Option Bool
  | .f (.v (.bool b)) => some (b == want)
  | .tup cs => cond cs.isEmpty (some false) none
  | _ => none
noncomputable def pwantT (w : Bool) (env : List PV) : Option Tmp → Option Bool
  | some t => (match nthR env t with
    | some v => pwantV w v
    | none => none)
  | none => some false
noncomputable def pwant (ds : List (Option Tmp)) (o : Oper) (env : List PV) : Option Bool := match o.guard with
  | none => some true
  | some (j, w) => pwantT w env (dstAt ds j)
/-- the labels of a function's own objects -/
def wid (b : Nat) : Nat := cond (Nat.blt b 1000) 1 (cond (Nat.blt b 1000000) 1000 (cond (Nat.blt b 1000000000) 1000000 1000000000))
def inB (b k : Nat) : Bool := Nat.beq ((k / 1000) % wid b) (b / 1000)
def inP (nm : Nm) (k : Nat) : Bool := nm.p k
/-- the labels of a call that is run just here -/
def subN (nm : Nm) (g : FuncId) : Nm := ⟨nm.b + wid nm.b * 1000 * (g + 1), fun k => inB (nm.b + wid nm.b * 1000 * (g + 1)) k && nm.p k⟩
def clean (p : Nat → Bool) (env : List PV) : PHp → Bool
  | [] => true
  | (k, _) :: ph => (!p k || noKL k env) && clean p env ph
def labOf (nm : Nm) (d : Option Tmp) : Nat := match d with
  | some t => nm.b + t
  | none => nm.b
def fresh (nm : Nm) (k : Nat) (env : List PV) (ph : PHp) : Bool := inP nm k && (noKL k env && noKH k ph)
def pchk (c : Bool) (k : Nat) (nm : Nm) (env : List PV) (ph : PHp) (t : PT) : PT := cond c (.chk (fresh nm k env ph) t) t
noncomputable def pops (P : Program) (tab : PTab) (inl : FuncId → Bool) (nm : Nm) (ds : List (Option Tmp)) : List Oper → List PV → PHp → PT
  | [], env, ph => .ret env ph
  | o :: l, env, ph => byWant (pwant ds o env)
      (match pexec P tab inl (labOf nm o.dst) o env ph with
       | .fail => .fail
       | .ok v ph' => pchk (needs o.op) (labOf nm o.dst) nm env ph (pops P tab inl nm ds l (pputD env o.dst v) ph')
       | .call g args ph' => .call (subN nm g) g args ph' fun v ph2 => .chk (clean (subN nm g).p env ph2) (pops P tab inl nm ds l (pputD env o.dst v) ph2)
       | .rnd x args ph' => .rnd x args ph' fun v ph2 => pops P tab inl nm ds l (pputD env o.dst v) ph2)
      (pops P tab inl nm ds l (pputD env o.dst (.tup [])) ph) .fail

theorem KR.trans {p : Nat → Bool} {M1 M2 M3 : Nat → Option (Nat × PO)} (a : KR p M1 M2) (b : KR p M2 M3) : KR p M1 M3 := fun k b' ob' h => by
  rcases b k b' ob' h with ⟨ob, h1, h2, h3, h4⟩ | ⟨b1, ob, h1, h2, h3⟩ | h
  · rcases a k b' ob h1 with ⟨o2, q1, q2, q3, q4⟩ | ⟨b2, o2, q1, q2, q3⟩ | q
    · exact .inl ⟨o2, q1, q2.trans h2, q3.trans h3, q4.trans h4⟩
    · exact .inr (.inl ⟨b2, o2, q1, by omega, q3.trans h3⟩)
    · exact .inr (.inr q)
  · rcases a k b1 ob h1 with ⟨o2, q1, q2, q3, q4⟩ | ⟨b2, o2, q1, q2, q3⟩ | q
    · exact .inr (.inl ⟨b1, o2, q1, by omega, q3.trans h3⟩)
    · exact .inr (.inl ⟨b2, o2, q1, by omega, q3.trans h3⟩)
    · exact .inr (.inr q)
  · exact .inr (.inr h)
theorem KR.up {p q : Nat → Bool} {M1 M2 : Nat → Option (Nat × PO)} (a : KR p M1 M2) (h : ∀ k, p k = true → q k = true) : KR q M1 M2 := fun k b ob hk => by
  rcases a k b ob hk with h1 | h1 | h1
  · exact .inl h1
  · exact .inr (.inl h1)
  · exact .inr (.inr (h k h1))
theorem VRL.putD {env : List PV} {ienv : Env} (h : VRL P Z H M env ienv) {x : PV} {v : Value} (hx : VR P Z H M x v) (d : Option Tmp) : VRL P Z H M (pputD env d x) (ienv.putD d v) := by
  cases d with
  | none => exact h
  | some t =>
    show VRL P Z H M (setR env t x) (setR ienv t v)
    rw [setR_eq, setR_eq]; exact h.set hx t
theorem want_ok {ops : Array Oper} {o : Oper} {env : List PV} {ienv : Env} {b : Bool} (he : VRL P Z H M env ienv) (h : pwant (ops.toList.map (·.dst)) o env = some b) : iwanted ops o ienv = some b := by
  rw [iwantedE_eq]
  unfold pwant at h
  unfold iwantedE
  split at h
  · rename_i hg
    rw [hg]; exact h
  · rename_i j w hg
    rw [hg]
    simp only
    unfold pwantT at h
    unfold wantT
    split at h
    · rename_i t ht
      rw [ht]
      simp only
      split at h
      · rename_i v hv
        rw [nthR_eq] at hv
        obtain ⟨u, h1, h2⟩ := he.get hv
        unfold wantN
        rw [nthR_eq, h1]
        unfold pwantV at h
        split at h
        · have := pl_ok h2 rfl
          subst this
          exact h
        · rename_i cs
          cases hc : cs.isEmpty with
          | false => rw [hc] at h; cases h
          | true =>
            rw [hc] at h
            obtain ⟨vs, rfl, hr⟩ := h2.tupL
            have : cs = [] := by cases cs with
              | nil => rfl
              | cons => cases hc
            subst this
            have h3 := hr.nil_left
            have : vs = #[] := by simpa using h3
            subst this
            exact h
        · cases h
      · cases h
    · rename_i ht
      rw [ht]; exact h
end Go.Idl
