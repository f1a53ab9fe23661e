/- Values without a heap: what they say of the ideal ones. Conditions: none. -/
import Derived.Test.YtpdlblofcdcikaaGreatDoorPur2
set_option linter.unusedSimpArgs false
set_option linter.unusedVariables false
namespace Go.Idl
variable {P : Program} {Z : Nat → Prop} {H : IH} {M : Nat → Option (Nat × PO)}

theorem cells_one {v : Value} (h : oneCell v = true) : v.cells = #[v] := by
  cases v <;> first | rfl | (cases h)
theorem nt_one {v : Value} (h : oneCell v = true) : notTuple v = true := by
  cases v <;> first | rfl | (cases h)
theorem VR.one {x : PV} {v : Value} (h : VR P Z H M x v) (hp : pone x = true) : oneCell v = true := by
  cases h with
  | f h => exact h.one
  | agg => cases hp
  | tup => cases hp
  | own h1 => exact h1
  | ref h1 => exact h1
  | lp => rfl
  | fn => rfl
  | yl => cases hp
  | unk => cases hp
theorem VR.cells {x : PV} {v : Value} (h : VR P Z H M x v) (hp : pnt x = true) : VRL P Z H M (pcells x) v.cells.toList ∧ notTuple v = true := by
  have one : pone x = true → pcells x = [x] → VRL P Z H M (pcells x) v.cells.toList ∧ notTuple v = true := fun h1 h2 => by
    have := h.one h1
    rw [cells_one this, h2]
    exact ⟨.cons h .nil, nt_one this⟩
  cases x with
  | f => exact one rfl rfl
  | agg cs =>
    cases h with
    | agg hl hc => exact ⟨⟨by simpa [Value.cells, pcells] using hl, fun i x v h1 h2 => hc i x v h1 (by simpa [Value.cells] using h2)⟩, rfl⟩
  | tup => cases hp
  | own => exact one rfl rfl
  | ref => exact one rfl rfl
  | lp => exact one rfl rfl
  | fn => exact one rfl rfl
  | yl => cases hp
  | unk => cases hp
theorem VRL.one : ∀ {xs : List PV} {vs : List Value}, VRL P Z H M xs vs → xs.all pone = true → vs.all oneCell = true
  | [], _, h, _ => by rw [h.nil_left]; rfl
  | x :: xs, _, h, hp => by
    obtain ⟨v, vs, rfl, h1, h2⟩ := h.uncons
    simp only [List.all_cons, Bool.and_eq_true] at hp ⊢
    exact ⟨h1.one hp.1, VRL.one h2 hp.2⟩
theorem VRL.over {xs ys : List PV} {vs ws : List Value} (a : VRL P Z H M xs vs) (b : VRL P Z H M ys ws) (i : Nat) : VRL P Z H M (pover xs i ys) (overwrite vs i ws) := by
  unfold pover overwrite
  rw [← b.len]
  exact ((a.take i).append b).append (a.drop _)
theorem over_len {xs ys : List PV} {i : Nat} (h : i + ys.length ≤ xs.length) : (pover xs i ys).length = xs.length := by
  unfold pover; simp; omega
theorem over_one {vs ws : List Value} {i : Nat} (a : vs.all oneCell = true) (b : ws.all oneCell = true) : (overwrite vs i ws).all oneCell = true := by
  unfold overwrite
  rw [List.all_append, List.all_append, b, Bool.and_true, Bool.and_eq_true]
  rw [List.all_eq_true] at a
  exact ⟨List.all_eq_true.2 fun x hx => a x (List.mem_of_mem_take hx), List.all_eq_true.2 fun x hx => a x (List.mem_of_mem_drop hx)⟩
theorem VRL.of_map {f : Value → PV} (hf : ∀ v, okC v = true → VR P Z H M (f v) v) : ∀ {vs : List Value}, allR okC vs = true → VRL P Z H M (mapR f vs) vs
  | [], _ => .nil
  | v :: vs, h => by
    rw [allR_cons, Bool.and_eq_true] at h
    exact .cons (hf v h.1) (VRL.of_map hf h.2)
theorem fvv_ok {v : Value} (h : okC v = true) : VR P Z H M (fvv v) v := by
  unfold okC at h
  rw [Bool.and_eq_true] at h
  exact .f (.v h.1 h.2)
theorem okC_one : ∀ {vs : List Value}, allR okC vs = true → vs.all oneCell = true
  | [], _ => rfl
  | v :: vs, h => by
    rw [allR_cons, Bool.and_eq_true] at h
    unfold okC at h
    simp only [Bool.and_eq_true] at h
    simp only [List.all_cons, Bool.and_eq_true]
    exact ⟨h.1.2, okC_one h.2⟩
theorem ofC_ok (v : Value) : VR P Z H M (ofC v) v := by
  have c1 : VR P Z H M (ofC1 v) v := by
    unfold ofC1
    cases h : okC v with
    | true => exact fvv_ok h
    | false => exact .unk
  unfold ofC
  split
  · rename_i cs
    cases h : allR okC cs.toList with
    | true =>
      have := VRL.of_map (P := P) (Z := Z) (H := H) (M := M) (f := fvv) (fun v h => fvv_ok h) h
      exact .agg (by simpa using this.len) fun i x v h1 h2 => this.val i x v h1 (by simpa using h2)
    | false => exact .unk
  · rename_i cs
    cases h : allR okC cs.toList with
    | true =>
      have := VRL.of_map (P := P) (Z := Z) (H := H) (M := M) (f := fvv) (fun v h => fvv_ok h) h
      exact .tup (by simpa using this.len) fun i x v h1 h2 => this.val i x v h1 (by simpa using h2)
    | false => exact .unk
  · exact c1
theorem pval_ok {env : List PV} {ienv : Env} (h : VRL P Z H M env ienv) (x : Operand) : VR P Z H M (pval env x) (ienv.val x) := by
  cases x with
  | tmp t =>
    unfold pval Env.val
    simp only [nthR_eq]
    cases he : env[t]? with
    | none => exact .unk
    | some y =>
      obtain ⟨v, h1, h2⟩ := h.get he
      rw [h1]
      exact h2
  | const v => exact ofC_ok v
  | global g => exact .unk
  | func g => exact fvv_ok rfl

theorem pl1_ok {x : PV} {v a : Value} (h : VR P Z H M x v) (hp : pl1 x = some a) : v = a := by
  unfold pl1 at hp
  split at hp
  · cases hp
    cases h with
    | f h => cases h; rfl
  · cases hp
theorem pl1L_ok : ∀ {xs : List PV} {vs as : List Value}, VRL P Z H M xs vs → pl1L xs = some as → vs = as
  | [], _, _, h, hp => by
    rw [h.nil_left]
    simp only [pl1L, Option.some.injEq] at hp
    exact hp
  | x :: xs, _, _, h, hp => by
    obtain ⟨v, vs, rfl, h1, h2⟩ := h.uncons
    unfold pl1L at hp
    split at hp
    · rename_i a ha
      split at hp
      · rename_i as' has
        cases hp
        rw [pl1_ok h1 ha, pl1L_ok h2 has]
      · cases hp
    · cases hp
theorem pl_ok {x : PV} {v a : Value} (h : VR P Z H M x v) (hp : pl x = some a) : v = a := by
  unfold pl at hp
  split at hp
  · cases hp
    cases h with
    | f h => cases h; rfl
  · rename_i cs
    split at hp
    · rename_i vs hvs
      cases hp
      cases h with
      | agg hl hc =>
        rename_i ws
        have : VRL P Z H M cs ws.toList := ⟨by simpa using hl, fun i x v h1 h2 => hc i x v h1 (by simpa using h2)⟩
        have := pl1L_ok this hvs
        rw [← this]
    · cases hp
  · cases hp
/-! ### The heap of objects -/
def own (m : Nat → Nat) (ph : PHp) : Nat → Option (Nat × PO) := fun k => (plook k ph).map fun ob => (m k, ob)
theorem own_some {m : Nat → Nat} {ph : PHp} {k : Nat} {ob : PO} (h : plook k ph = some ob) : own m ph k = some (m k, ob) := by unfold own; rw [h]; rfl
theorem own_inv {m : Nat → Nat} {ph : PHp} {k b : Nat} {ob : PO} (h : own m ph k = some (b, ob)) : plook k ph = some ob ∧ b = m k := by
  unfold own at h
  cases hl : plook k ph with
  | none => rw [hl] at h; cases h
  | some o => rw [hl] at h; cases h; exact ⟨rfl, rfl⟩
theorem plook_set {k j : Nat} {o : PO} : ∀ {ph : PHp}, plook k (pset j o ph) = if k = j ∧ (plook j ph).isSome = true then some o else plook k ph
  | [] => by simp [pset, plook]
  | (i, p) :: l => by
    have ih := plook_set (k := k) (j := j) (o := o) (ph := l)
    unfold pset
    by_cases h : j = i
    · subst h
      simp only [beq_self_eq_true, cond_true, plook, Option.isSome_some, and_true]
      by_cases hk : k = j
      · subst hk; simp
      · have : (k == j) = false := by simpa using hk
        simp [this, hk]
    · have hj : (j == i) = false := by simpa using h
      simp only [hj, cond_false, plook]
      by_cases hk : k = i
      · subst hk
        have : ¬ (k = j) := fun e => h e.symm
        simp [this]
      · have hk' : (k == i) = false := by simpa using hk
        simp only [hk', cond_false]
        exact ih
theorem plook_del {k j : Nat} : ∀ {ph : PHp}, plook k (pdel j ph) = if k = j then none else plook k ph
  | [] => by simp [pdel, plook]
  | (i, p) :: l => by
    have ih := plook_del (k := k) (j := j) (ph := l)
    unfold pdel
    by_cases h : j = i
    · subst h
      simp only [beq_self_eq_true, cond_true, plook]
      rw [ih]
      by_cases hk : k = j
      · simp [hk]
      · have : (k == j) = false := by simpa using hk
        simp [hk, this]
    · have hj : (j == i) = false := by simpa using h
      simp only [hj, cond_false, plook]
      by_cases hk : k = i
      · subst hk
        have : ¬ (k = j) := fun e => h e.symm
        simp [this]
      · have hk' : (k == i) = false := by simpa using hk
        simp only [hk', cond_false]
        exact ih
def noKH (k : Nat) : PHp → Bool
  | [] => true
  | (_, o) :: l => noKL k o.cs && noKH k l
theorem noKH_get {k : Nat} : ∀ {ph : PHp} {j : Nat} {ob : PO}, noKH k ph = true → plook j ph = some ob → noKL k ob.cs = true
  | (i, p) :: l, j, ob, h, e => by
    simp only [noKH, Bool.and_eq_true] at h
    unfold plook at e
    cases hj : (j == i) with
    | true => rw [hj] at e; cases e; exact h.1
    | false => rw [hj] at e; exact noKH_get h.2 e

/-- what an operation came to -/
structure Res (P : Program) (Z : Nat → Prop) (H : IH) (m : Nat → Nat) (ph : PHp) (p : Nat → Bool) (v : PV) (ph' : PHp) (s : Option Step1) : Prop where
  ex : ∃ u H' Z' m', s = some (.val u H') ∧ Hp P Z' H' (own m' ph') ∧ VR P Z' H' (own m' ph') v u ∧ Step Z H (own m ph) Z' H' (own m' ph') ∧ KR p (own m ph) (own m' ph')
theorem Res.same {m : Nat → Nat} {ph : PHp} {p : Nat → Bool} {v : PV} {u : Value} {s : Option Step1} (hs : s = some (.val u H)) (hp : Hp P Z H (own m ph)) (hv : VR P Z H (own m ph) v u) : Res P Z H m ph p v ph s :=
  ⟨u, H, Z, m, hs, hp, hv, .refl _ _ _, .refl _ _⟩

def real (ob : PO) : Prop := ¬ (ob.gr = true ∧ ob.cs = [])

/-- a new object, or one that grows -/
theorem Hp.pushG {p : Nat → Bool} {m : Nat → Nat} {ph ph0 : PHp} (hp : Hp P Z H (own m ph)) {k : Nat} {ob : PO} {vs : List Value} {H1 : IH} (hs1 : H1.size = H.size) (hb1 : H1.base = H.base)
    (hg1 : ∀ b, b < H.size → (∀ ob0, plook k ph = some ob0 → real ob0 → b ≠ m k) → H1.get b = H.get b)
    (hk1 : p k = true ∨ ∃ ob0, plook k ph = some ob0 ∧ ob0.cs.length < ob.cs.length ∧ ob0.el = ob.el) (hn : ∀ j, p j = true → j = k ∧ noKH k ph = true ∧ noKL k ob.cs = true) (hr : VRL P Z H (own m ph) ob.cs vs) (h1 : vs.all oneCell = true) (hb : H.base ≤ H.size)
    (h0 : ∀ j, j ≠ k → plook j ph0 = plook j ph) :
    Hp P Z (H1.push (.cells vs.toArray ob.el (cond ob.gr roomFz (0, 0)))) (own (fun j => if j = k then H.size else m j) ((k, ob) :: ph0)) ∧
      Step Z H (own m ph) Z (H1.push (.cells vs.toArray ob.el (cond ob.gr roomFz (0, 0)))) (own (fun j => if j = k then H.size else m j) ((k, ob) :: ph0)) ∧ KR p (own m ph) (own (fun j => if j = k then H.size else m j) ((k, ob) :: ph0)) := by
  have hold : ∀ j, j ≠ k → own (fun j => if j = k then H.size else m j) ((k, ob) :: ph0) j = own m ph j := fun j hj => by
    have : (j == k) = false := by simpa using hj
    have e : plook j ((k, ob) :: ph0) = plook j ph := by
      show cond (j == k) (some ob) (plook j ph0) = _
      rw [this]; exact h0 j hj
    unfold own
    rw [e]
    simp only [if_neg hj]
  have hnew : own (fun j => if j = k then H.size else m j) ((k, ob) :: ph0) k = some (H.size, ob) := by
    simp [own, plook]
  have hkr : KR p (own m ph) (own (fun j => if j = k then H.size else m j) ((k, ob) :: ph0)) := fun j b' ob' h => by
    by_cases hj : j = k
    · subst hj
      rw [hnew] at h; cases h
      rcases hk1 with h | ⟨ob0, q1, q2, q3⟩
      · exact .inr (.inr h)
      · exact .inr (.inl ⟨_, ob0, own_some q1, q2, q3⟩)
    · rw [hold j hj] at h; exact .inl ⟨ob', h, rfl, rfl, rfl⟩
  have hg : ∀ b, b < H.size → (∀ ob0, plook k ph = some ob0 → real ob0 → b ≠ m k) → (H1.push (.cells vs.toArray ob.el (cond ob.gr roomFz (0, 0)))).get b = H.get b := fun b hb h => (get_push_lt (by rw [hs1]; exact hb)).trans (hg1 b hb h)
  have hs : (H1.push (.cells vs.toArray ob.el (cond ob.gr roomFz (0, 0)))).size = H.size + 1 := by show H1.size + 1 = _; rw [hs1]
  have hzk : ∀ b, Z b → ∀ ob0, plook k ph = some ob0 → real ob0 → b ≠ m k := fun b hz ob0 q1 q2 e => by
    rcases hp.obj k _ _ (own_some q1) with h | ⟨_, _, h, _⟩
    · exact q2 h
    · exact h (e ▸ hz)
  have hmono : ∀ {xs : List PV} {us : List Value}, VRL P Z H (own m ph) xs us → (∀ j, p j = true → noKL j xs = true) → VRL P Z (H1.push (.cells vs.toArray ob.el (cond ob.gr roomFz (0, 0)))) (own (fun j => if j = k then H.size else m j) ((k, ob) :: ph0)) xs us := fun h hx =>
    h.mono (fun _ h => h) (by omega) (fun b hz hb => hg b hb (hzk b hz)) hkr hx
  refine ⟨⟨fun b hz => by have := hp.zlt b hz; omega, fun j b o hj => ?_, fun j j' b b' o o' h1 h2 r1 r2 hne => ?_⟩, ⟨by omega, hb1, fun _ h => h, fun b hb hn => hg b hb fun ob0 q1 q2 e => hn ⟨k, ob0, by rw [e]; exact own_some q1, q2⟩, fun b h _ => .inl h, fun b ⟨j, o, hj, hr⟩ hb => ?_⟩, hkr⟩
  · by_cases e : j = k
    · subst e
      rw [hnew] at hj; cases hj
      refine .inr ⟨by omega, by show H1.base ≤ _; rw [hb1]; exact hb, fun hz => by have := hp.zlt _ hz; omega, vs, by rw [← hs1]; exact get_push_eq, hmono hr fun i hi => by obtain ⟨rfl, _, q⟩ := hn i hi; exact q, h1⟩
    · rw [hold j e] at hj
      rcases hp.obj j b o hj with h | ⟨q1, q2, q3, ws, q4, q5, q6⟩
      · exact .inl h
      · by_cases hro : o.gr = true ∧ o.cs = []
        · exact .inl hro
        · exact .inr ⟨by omega, by show H1.base ≤ _; rw [hb1]; exact q2, q3, ws, (hg b q1 fun ob0 r1 r2 => hp.inj j k b (m k) o ob0 hj (own_some r1) hro r2 e).trans q4, hmono q5 fun i hi => by obtain ⟨rfl, q, _⟩ := hn i hi; exact noKH_get q (own_inv hj).1, q6⟩
  · have lt : ∀ {i c oc}, i ≠ k → own (fun j => if j = k then H.size else m j) ((k, ob) :: ph0) i = some (c, oc) → real oc → c < H.size := fun hi h hr => by
      rw [hold _ hi] at h
      rcases hp.obj _ _ _ h with q | q
      · exact absurd q hr
      · exact q.1
    by_cases e : j = k
    · subst e
      rw [hnew] at h1; cases h1
      have := lt (Ne.symm hne) h2 r2
      omega
    · by_cases e' : j' = k
      · subst e'
        rw [hnew] at h2; cases h2
        have := lt hne h1 r1
        omega
      · rw [hold _ e] at h1
        rw [hold _ e'] at h2
        exact hp.inj j j' b b' o o' h1 h2 r1 r2 hne
  · by_cases e : j = k
    · subst e; rw [hnew] at hj; cases hj; omega
    · rw [hold j e] at hj; exact ⟨j, o, hj, hr⟩
theorem Hp.push {m : Nat → Nat} {ph : PHp} (hp : Hp P Z H (own m ph)) {k : Nat} {ob : PO} {vs : List Value} (hn : noKH k ph = true) (hc : noKL k ob.cs = true) (hr : VRL P Z H (own m ph) ob.cs vs) (h1 : vs.all oneCell = true) (hb : H.base ≤ H.size) :
    Hp P Z (H.push (.cells vs.toArray ob.el (cond ob.gr roomFz (0, 0)))) (own (fun j => if j = k then H.size else m j) ((k, ob) :: ph)) ∧
      Step Z H (own m ph) Z (H.push (.cells vs.toArray ob.el (cond ob.gr roomFz (0, 0)))) (own (fun j => if j = k then H.size else m j) ((k, ob) :: ph)) ∧ KR (fun j => j == k) (own m ph) (own (fun j => if j = k then H.size else m j) ((k, ob) :: ph)) :=
  hp.pushG rfl rfl (fun _ _ _ => rfl) (.inl (by simp)) (fun j hj => ⟨by simpa using hj, hn, hc⟩) hr h1 hb fun _ _ => rfl
theorem own_new {m : Nat → Nat} {k b : Nat} {ob : PO} {ph : PHp} : own (fun j => if j = k then b else m j) ((k, ob) :: ph) k = some (b, ob) := by simp [own, plook]

/-- an object is written -/
theorem Hp.put {m : Nat → Nat} {ph : PHp} (hp : Hp P Z H (own m ph)) {k : Nat} {ob : PO} {cs : List PV} {vs : List Value} (hl : plook k ph = some ob) (hre : real ob) (hlen : cs.length = ob.cs.length) (hr : VRL P Z H (own m ph) cs vs) (h1 : vs.all oneCell = true) :
    Hp P Z (H.put (m k) (.cells vs.toArray ob.el (cond ob.gr roomFz (0, 0)))) (own m (pset k { ob with cs := cs } ph)) ∧
      Step Z H (own m ph) Z (H.put (m k) (.cells vs.toArray ob.el (cond ob.gr roomFz (0, 0)))) (own m (pset k { ob with cs := cs } ph)) ∧ ∀ p, KR p (own m ph) (own m (pset k { ob with cs := cs } ph)) := by
  have hk := own_some (m := m) hl
  have hreal : real { ob with cs := cs } := fun h => by
    have h2 : cs = [] := h.2
    rw [h2] at hlen
    exact hre ⟨h.1, List.length_eq_zero_iff.1 hlen.symm⟩
  have hold : ∀ j, j ≠ k → own m (pset k { ob with cs := cs } ph) j = own m ph j := fun j hj => by
    unfold own; rw [plook_set, if_neg (fun h => hj h.1)]
  have hnew : own m (pset k { ob with cs := cs } ph) k = some (m k, { ob with cs := cs }) := by
    unfold own; rw [plook_set, if_pos ⟨rfl, by rw [hl]; rfl⟩]; rfl
  have hkr : ∀ p, KR p (own m ph) (own m (pset k { ob with cs := cs } ph)) := fun p j b' ob' h => by
    by_cases hj : j = k
    · subst hj
      rw [hnew] at h; cases h
      exact .inl ⟨ob, hk, hlen.symm, rfl, rfl⟩
    · rw [hold j hj] at h; exact .inl ⟨ob', h, rfl, rfl, rfl⟩
  obtain ⟨w1, w2, w3, ws0, w4, w5, w6⟩ : m k < H.size ∧ H.base ≤ m k ∧ ¬ Z (m k) ∧ ∃ vs, H.get (m k) = some (.cells vs.toArray ob.el (cond ob.gr roomFz (0, 0))) ∧ VRL P Z H (own m ph) ob.cs vs ∧ vs.all oneCell = true := by
    rcases hp.obj k (m k) ob hk with h | h
    · exact absurd h hre
    · exact h
  have hg : ∀ b, b ≠ m k → (H.put (m k) (.cells vs.toArray ob.el (cond ob.gr roomFz (0, 0)))).get b = H.get b := fun b hb => get_put_ne hb
  have hmono : ∀ {xs : List PV} {us : List Value}, VRL P Z H (own m ph) xs us → VRL P Z (H.put (m k) (.cells vs.toArray ob.el (cond ob.gr roomFz (0, 0)))) (own m (pset k { ob with cs := cs } ph)) xs us := fun h =>
    h.mono (p := fun _ => false) (H := H) (H' := H.put (m k) (.cells vs.toArray ob.el (cond ob.gr roomFz (0, 0)))) (fun _ h => h) (Nat.le_refl _) (fun b hz hb => hg b fun e => w3 (e ▸ hz)) (hkr _) fun j hj => by cases hj
  refine ⟨⟨fun b hz => hp.zlt b hz, fun j b o hj => ?_, fun j j' b b' o o' h1 h2 r1 r2 hne => ?_⟩, ⟨Nat.le_refl _, rfl, fun _ h => h, fun b hb hn => hg b fun e => hn ⟨k, ob, by rw [e]; exact hk, hre⟩, fun b h _ => .inl h, fun b ⟨j, o, hj, hr⟩ hb => ?_⟩, hkr⟩
  · by_cases e : j = k
    · subst e
      rw [hnew] at hj; cases hj
      exact .inr ⟨w1, w2, w3, vs, get_put_eq, hmono hr, h1⟩
    · rw [hold j e] at hj
      rcases hp.obj j b o hj with h | ⟨q1, q2, q3, ws, q4, q5, q6⟩
      · exact .inl h
      · by_cases hro : real o
        · exact .inr ⟨q1, q2, q3, ws, (hg b (hp.inj j k b (m k) o ob hj hk hro hre e)).trans q4, hmono q5, q6⟩
        · by_cases hx : o.gr = true ∧ o.cs = []
          · exact .inl hx
          · exact absurd hx hro
  · have back : ∀ {i c oc}, own m (pset k { ob with cs := cs } ph) i = some (c, oc) → real oc → ∃ oc', own m ph i = some (c, oc') ∧ real oc' := fun {i c oc} h hr => by
      by_cases e : i = k
      · subst e; rw [hnew] at h; cases h; exact ⟨ob, hk, hre⟩
      · rw [hold _ e] at h; exact ⟨oc, h, hr⟩
    obtain ⟨o1, e1, f1⟩ := back h1 r1
    obtain ⟨o2, e2, f2⟩ := back h2 r2
    exact hp.inj j j' b b' o1 o2 e1 e2 f1 f2 hne
  · by_cases e : j = k
    · subst e; rw [hnew] at hj; cases hj; exact ⟨j, ob, hk, hre⟩
    · rw [hold j e] at hj; exact ⟨j, o, hj, hr⟩
end Go.Idl
