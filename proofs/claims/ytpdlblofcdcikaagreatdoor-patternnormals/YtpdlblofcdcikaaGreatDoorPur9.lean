/- What is not written any more; calls; the operations of a region. Conditions: none. -/
import Derived.Test.YtpdlblofcdcikaaGreatDoorPur8
set_option linter.unusedSimpArgs false
set_option linter.unusedVariables false
namespace Go.Idl
variable {P : Program} {Z : Nat → Prop} {H : IH} {M : Nat → Option (Nat × PO)} {m : Nat → Nat} {ph : PHp}

/-! ### Freezing -/
def fzLw (f : PHp → PV → Option (FV × PHp)) : List PV → PHp → Option (List FV × PHp)
  | [], ph => some ([], ph)
  | x :: l, ph => match f ph x with
    | some (y, ph1) => (match fzLw f l ph1 with
      | some (ys, ph2) => some (y :: ys, ph2)
      | none => none)
    | none => none
noncomputable def fz1 (P : Program) : Nat → PHp → PV → Option (FV × PHp)
  | 0, ph, .f x => some (x, ph)
  | 0, _, _ => none
  | n + 1, ph, .f x => some (x, ph)
  | n + 1, ph, .own k t o c => (match plook k ph with
    | some ob => (match szT P ob.el with
      | some s => cond (Nat.beq (t * s) ob.cs.length) (match fzLw (fz1 P n) ((ob.cs.drop (o * s)).take (c * s)) (pdel k ph) with
        | some (cs, ph') => some (.l ob.el c cs, ph')
        | none => none) none
      | none => none)
    | none => none)
  | n + 1, _, _ => none
noncomputable def fzP (P : Program) (ph : PHp) (x : PV) : Option (PV × PHp) := match x with
  | .agg cs => (match fzLw (fz1 P 4) cs ph with
    | some (ys, ph') => some (.agg (ys.map .f), ph')
    | none => none)
  | x => (match fz1 P 4 ph x with
    | some (y, ph') => some (.f y, ph')
    | none => none)
noncomputable def fzA (P : Program) : List PV → PHp → Option (List PV × PHp)
  | [], ph => some ([], ph)
  | x :: l, ph => match fzP P ph x with
    | some (y, ph1) => (match fzA P l ph1 with
      | some (ys, ph2) => some (y :: ys, ph2)
      | none => none)
    | none => none
/-- fewer objects, more that is not written; the heap as it is -/
structure Fz (P : Program) (Z : Nat → Prop) (H : IH) (m : Nat → Nat) (ph : PHp) (Z' : Nat → Prop) (ph' : PHp) : Prop where
  hp : Hp P Z' H (own m ph')
  zle : ∀ b, Z b → Z' b
  sub : ∀ k ob, plook k ph' = some ob → plook k ph = some ob
  znew : ∀ b, Z' b → Z b ∨ OwnB (own m ph) b
theorem Fz.refl (h : Hp P Z H (own m ph)) : Fz P Z H m ph Z ph := ⟨h, fun _ h => h, fun _ _ h => h, fun _ h => .inl h⟩
theorem Fz.ownS {Z' : Nat → Prop} {ph' : PHp} (a : Fz P Z H m ph Z' ph') {k : Nat} {r : Nat × PO} (h : own m ph' k = some r) : own m ph k = some r := by
  obtain ⟨b, ob⟩ := r
  obtain ⟨h1, rfl⟩ := own_inv h
  exact own_some (a.sub k ob h1)
theorem Fz.trans {Z1 Z2 : Nat → Prop} {ph1 ph2 : PHp} (a : Fz P Z H m ph Z1 ph1) (b : Fz P Z1 H m ph1 Z2 ph2) : Fz P Z H m ph Z2 ph2 :=
  ⟨b.hp, fun x h => b.zle x (a.zle x h), fun k ob h => a.sub k ob (b.sub k ob h), fun x h => by
    rcases b.znew x h with h | ⟨k, ob, h1, h2⟩
    · exact a.znew x h
    · exact .inr ⟨k, ob, a.ownS h1, h2⟩⟩
theorem Fz.kr {Z' : Nat → Prop} {ph' : PHp} (a : Fz P Z H m ph Z' ph') (p : Nat → Bool) : KR p (own m ph) (own m ph') := fun k b ob h => .inl ⟨ob, a.ownS h, rfl, rfl, rfl⟩
theorem Fz.step {Z' : Nat → Prop} {ph' : PHp} (a : Fz P Z H m ph Z' ph') : Step Z H (own m ph) Z' H (own m ph') :=
  ⟨Nat.le_refl _, rfl, a.zle, fun _ _ _ => rfl, fun b h _ => a.znew b h, fun b ⟨k, ob, h1, h2⟩ _ => ⟨k, ob, a.ownS h1, h2⟩⟩
theorem Fz.vrl {Z' : Nat → Prop} {ph' : PHp} (a : Fz P Z H m ph Z' ph') {xs : List PV} {vs : List Value} (h : VRL P Z H (Go.Idl.own m ph) xs vs) : VRL P Z' H (Go.Idl.own m ph') xs vs :=
  h.mono (p := fun _ => false) a.zle (Nat.le_refl _) (fun _ _ _ => rfl) (a.kr _) fun j hj => by cases hj
/-- an object is frozen -/
theorem Fz.del (h : Hp P Z H (own m ph)) {k : Nat} {ob : PO} (hl : plook k ph = some ob) (hr : real ob) : Fz P Z H m ph (fun b => Z b ∨ b = m k) (pdel k ph) := by
  have hsub : ∀ j o, plook j (pdel k ph) = some o → j ≠ k ∧ plook j ph = some o := fun j o h => by
    rw [plook_del] at h
    split at h
    · cases h
    · rename_i hj; exact ⟨hj, h⟩
  have hown : ∀ j b o, own m (pdel k ph) j = some (b, o) → j ≠ k ∧ own m ph j = some (b, o) := fun j b o h => by
    obtain ⟨h1, rfl⟩ := own_inv h
    obtain ⟨h2, h3⟩ := hsub j o h1
    exact ⟨h2, own_some h3⟩
  obtain ⟨w1, w2, w3, vs, q1, q2, q3⟩ := h.real hl hr
  refine ⟨⟨?_, ?_, ?_⟩, fun b h => .inl h, fun j o h => (hsub j o h).2, ?_⟩
  · rintro b (hb | rfl)
    · exact h.zlt b hb
    · exact w1
  · intro j b o hj
    obtain ⟨h1, h2⟩ := hown j b o hj
    rcases h.obj j b o h2 with h3 | ⟨a1, a2, a3, ws, a4, a5, a6⟩
    · exact .inl h3
    · by_cases hro : o.gr = true ∧ o.cs = []
      · exact .inl hro
      · refine .inr ⟨a1, a2, ?_, ws, a4, a5.mono (p := fun _ => false) (fun _ h => .inl h) (Nat.le_refl _) (fun _ _ _ => rfl) (fun i b' o' hi => .inl ⟨o', (hown i b' o' hi).2, rfl, rfl, rfl⟩) (fun j hj => by cases hj), a6⟩
        rintro (hz | rfl)
        · exact a3 hz
        · exact h.inj j k _ _ o ob h2 (own_some hl) hro hr h1 rfl
  · intro j j' b b' o o' h1 h2 r1 r2 hne
    exact h.inj j j' b b' o o' (hown j b o h1).2 (hown j' b' o' h2).2 r1 r2 hne
  · rintro b (hz | rfl)
    · exact .inl hz
    · exact .inr ⟨k, ob, own_some hl, hr⟩
/-- an object is dropped -/
theorem Fz.drop (h : Hp P Z H (own m ph)) {ph' : PHp} (hs : ∀ k ob, plook k ph' = some ob → plook k ph = some ob) : Fz P Z H m ph Z ph' := by
  have hown : ∀ j b o, own m ph' j = some (b, o) → own m ph j = some (b, o) := fun j b o h => by
    obtain ⟨h1, rfl⟩ := own_inv h
    exact own_some (hs j o h1)
  refine ⟨⟨h.zlt, ?_, ?_⟩, fun _ h => h, hs, fun _ h => .inl h⟩
  · intro j b o hj
    rcases h.obj j b o (hown j b o hj) with h3 | ⟨a1, a2, a3, ws, a4, a5, a6⟩
    · exact .inl h3
    · exact .inr ⟨a1, a2, a3, ws, a4, a5.mono (p := fun _ => false) (fun _ h => h) (Nat.le_refl _) (fun _ _ _ => rfl) (fun i b' o' hi => .inl ⟨o', hown i b' o' hi, rfl, rfl, rfl⟩) (fun j hj => by cases hj), a6⟩
  · intro j j' b b' o o' h1 h2 r1 r2 hne
    exact h.inj j j' b b' o o' (hown j b o h1) (hown j' b' o' h2) r1 r2 hne

/-- cells that are not written -/
structure FRL (Z : Nat → Prop) (H : IH) (xs : List FV) (vs : List Value) : Prop where
  len : xs.length = vs.length
  val : ∀ (i : Nat) x v, xs[i]? = some x → vs[i]? = some v → FR Z H x v
theorem FRL.cons {x : FV} {v : Value} {xs : List FV} {vs : List Value} (h : FR Z H x v) (t : FRL Z H xs vs) : FRL Z H (x :: xs) (v :: vs) :=
  ⟨by simp [t.len], fun i y u h1 h2 => by
    cases i with
    | zero => simp at h1 h2; subst h1 h2; exact h
    | succ i => exact t.val i y u (by simpa using h1) (by simpa using h2)⟩
theorem FRL.map {xs : List FV} {vs : List Value} (h : FRL Z H xs vs) : VRL P Z H M (xs.map .f) vs := fcells h.len h.val
theorem fzLw_ok {f : PHp → PV → Option (FV × PHp)} (hf : ∀ {Z : Nat → Prop} {ph : PHp} {x : PV} {y : FV} {ph' : PHp} {v : Value}, Hp P Z H (own m ph) → VR P Z H (own m ph) x v → f ph x = some (y, ph') → ∃ Z', Fz P Z H m ph Z' ph' ∧ FR Z' H y v) :
    ∀ {xs : List PV} {vs : List Value} {Z : Nat → Prop} {ph : PHp} {ys : List FV} {ph' : PHp}, Hp P Z H (own m ph) → VRL P Z H (own m ph) xs vs → fzLw f xs ph = some (ys, ph') → ∃ Z', Fz P Z H m ph Z' ph' ∧ FRL Z' H ys vs
  | [], vs, Z, ph, ys, ph', hp, hx, h => by
    simp only [fzLw, Option.some.injEq, Prod.mk.injEq] at h
    obtain ⟨rfl, rfl⟩ := h
    rw [hx.nil_left]
    exact ⟨Z, .refl hp, rfl, fun i x v h => by simp at h⟩
  | x :: xs, _, Z, ph, ys, ph', hp, hx, h => by
    obtain ⟨v, vs, rfl, h1, h2⟩ := hx.uncons
    unfold fzLw at h
    split at h
    · rename_i y ph1 hy
      split at h
      · rename_i ys' ph2 hys
        cases h
        obtain ⟨Z1, c1, r1⟩ := hf hp h1 hy
        obtain ⟨Z2, c2, r2⟩ := fzLw_ok hf c1.hp (c1.vrl h2) hys
        exact ⟨Z2, c1.trans c2, .cons (r1.mono c2.zle (Nat.le_refl _) fun _ _ _ => rfl) r2⟩
      · cases h
    · cases h
theorem fz1_ok : ∀ (n : Nat) {Z : Nat → Prop} {ph : PHp} {x : PV} {y : FV} {ph' : PHp} {v : Value}, Hp P Z H (own m ph) → VR P Z H (own m ph) x v → fz1 P n ph x = some (y, ph') → ∃ Z', Fz P Z H m ph Z' ph' ∧ FR Z' H y v
  | n, Z, ph, .f x, y, ph', v, hp, hx, h => by
    have : some (x, ph) = some (y, ph') := by cases n <;> exact h
    cases this
    cases hx with
    | f hx => exact ⟨Z, .refl hp, hx⟩
  | 0, Z, ph, .agg _, y, ph', v, hp, hx, h => by cases h
  | 0, Z, ph, .tup _, y, ph', v, hp, hx, h => by cases h
  | 0, Z, ph, .own _ _ _ _, y, ph', v, hp, hx, h => by cases h
  | 0, Z, ph, .ref _ _ _, y, ph', v, hp, hx, h => by cases h
  | 0, Z, ph, .lp _ _, y, ph', v, hp, hx, h => by cases h
  | 0, Z, ph, .fn _ _ _, y, ph', v, hp, hx, h => by cases h
  | 0, Z, ph, .unk, y, ph', v, hp, hx, h => by cases h
  | 0, Z, ph, .yl _, y, ph', v, hp, hx, h => by cases h
  | n + 1, Z, ph, .agg _, y, ph', v, hp, hx, h => by cases h
  | n + 1, Z, ph, .tup _, y, ph', v, hp, hx, h => by cases h
  | n + 1, Z, ph, .ref _ _ _, y, ph', v, hp, hx, h => by cases h
  | n + 1, Z, ph, .lp _ _, y, ph', v, hp, hx, h => by cases h
  | n + 1, Z, ph, .fn _ _ _, y, ph', v, hp, hx, h => by cases h
  | n + 1, Z, ph, .unk, y, ph', v, hp, hx, h => by cases h
  | n + 1, Z, ph, .yl _, y, ph', v, hp, hx, h => by cases h
  | n + 1, Z, ph, .own k t o c, y, ph', v, hp, hx, h => by
    unfold fz1 at h
    split at h
    · rename_i ob hl
      split at h
      · rename_i s hs
        cases hc : Nat.beq (t * s) ob.cs.length with
        | false => rw [hc] at h; cases h
        | true =>
          rw [hc] at h
          simp only [cond_true] at h
          have he := Nat.eq_of_beq_eq_true hc
          split at h
          · rename_i cs ph1 hf
            cases h
            obtain ⟨hO, h0⟩ := own_live hx hl hs he
            rcases hO with ⟨g1, rfl, rfl, rfl, rfl⟩ | ⟨g1, g2, g3, rfl⟩
            · have hc0 : ob.cs = [] := List.length_eq_zero_iff.1 (by omega)
              rw [hc0] at hf
              have hf' : fzLw (fz1 P n) [] (pdel k ph) = some (cs, ph') := by simpa using hf
              have : some (([] : List FV), pdel k ph) = some (cs, ph') := hf'
              cases this
              refine ⟨Z, .drop hp fun j o hj => ?_, .nil (fun _ => rfl) (fun x h => by cases h)⟩
              rw [plook_del] at hj
              split at hj
              · cases hj
              · exact hj
            · have hre := own_real he h0 g1
              obtain ⟨w1, w2, w3, vs, q1, q2, q3⟩ := hp.real hl hre
              have hcut := Fz.del hp hl hre
              have hle : (o + c) * s ≤ t * s := Nat.mul_le_mul_right _ g2
              rw [Nat.add_mul] at hle
              obtain ⟨Z2, c2, r2⟩ := fzLw_ok (fun a b c => fz1_ok n a b c) hcut.hp (hcut.vrl ((q2.drop (o * s)).take (c * s))) hf
              refine ⟨Z2, hcut.trans c2, .l (vs := (vs.drop (o * s)).take (c * s)) (c2.zle _ (.inr rfl)) w1 (by omega) (by cases ob.gr <;> simp) ?_ r2.val⟩
              have hcl : cs.length = c * s := by
                rw [r2.len]; simp only [List.length_take, List.length_drop]; rw [← q2.len]; omega
              rw [hcl]
              exact loads_cells q1 (by rw [← q2.len]; omega) rfl
          · cases h
      · cases h
    · cases h
theorem fzP_ok {x y : PV} {ph' : PHp} {v : Value} (hp : Hp P Z H (own m ph)) (hx : VR P Z H (own m ph) x v) (h : fzP P ph x = some (y, ph')) : ∃ Z', Fz P Z H m ph Z' ph' ∧ VR P Z' H (fun _ => none) y v := by
  unfold fzP at h
  split at h
  · rename_i cs
    split at h
    · rename_i ys ph1 hf
      cases h
      cases hx with
      | agg hl hc =>
        rename_i vs
        obtain ⟨Z', c1, r1⟩ := fzLw_ok (vs := vs.toList) (fun a b c => fz1_ok 4 a b c) hp ⟨by simpa using hl, fun i x v a b => hc i x v a (by simpa using b)⟩ hf
        have := (r1.map (P := P) (M := fun _ => none)).toA
        exact ⟨Z', c1, by simpa using this⟩
    · cases h
  · split at h
    · rename_i y' ph1 hf
      cases h
      obtain ⟨Z', c1, r1⟩ := fz1_ok 4 hp hx hf
      exact ⟨Z', c1, .f r1⟩
    · cases h
theorem VRL.none {Z' : Nat → Prop} {H' : IH} {xs : List PV} {vs : List Value} (h : VRL P Z H (fun _ => none) xs vs) (hz : ∀ b, Z b → Z' b) (hs : H.size ≤ H'.size) (hg : ∀ b, Z b → b < H.size → H'.get b = H.get b) {M : Nat → Option (Nat × PO)} (hn : ∀ k, M k = none) : VRL P Z' H' M xs vs :=
  h.mono (p := fun _ => false) hz hs hg (fun k b o hk => by rw [hn] at hk; cases hk) fun j hj => by cases hj
theorem fzA_ok : ∀ {xs : List PV} {vs : List Value} {Z : Nat → Prop} {ph : PHp} {ys : List PV} {ph' : PHp}, Hp P Z H (own m ph) → VRL P Z H (own m ph) xs vs → fzA P xs ph = some (ys, ph') → ∃ Z', Fz P Z H m ph Z' ph' ∧ VRL P Z' H (fun _ => none) ys vs
  | [], vs, Z, ph, ys, ph', hp, hx, h => by
    simp only [fzA, Option.some.injEq, Prod.mk.injEq] at h
    obtain ⟨rfl, rfl⟩ := h
    rw [hx.nil_left]
    exact ⟨Z, .refl hp, .nil⟩
  | x :: xs, _, Z, ph, ys, ph', hp, hx, h => by
    obtain ⟨v, vs, rfl, h1, h2⟩ := hx.uncons
    unfold fzA at h
    split at h
    · rename_i y ph1 hy
      split at h
      · rename_i ys' ph2 hys
        cases h
        obtain ⟨Z1, c1, r1⟩ := fzP_ok hp h1 hy
        obtain ⟨Z2, c2, r2⟩ := fzA_ok c1.hp (c1.vrl h2) hys
        exact ⟨Z2, c1.trans c2, .cons (r1.mono (p := fun _ => false) c2.zle (Nat.le_refl _) (fun _ _ _ => rfl) (.refl _ _) fun j hj => by cases hj) r2⟩
      · cases h
    · cases h
end Go.Idl
