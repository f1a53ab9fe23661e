/- Runs told by plain values, part two. Conditions: none. -/
import Derived.Test.YtpdlblofcdcikaaGreatDoorPurA
set_option linter.all false
namespace Go.Idl
variable [Gc]
variable {P : Program} {Z : Nat -> Prop} {H : IH} {M : Nat -> Option (Nat × PO)} {m : Nat -> Nat} {ph : PHp}
variable {Z' : Nat -> Prop} {k : Nat} {ph' : PHp} {v : Value} {vs : List Value} {xs : List PV}
def qKD (f : PHp -> PV -> Option (FV × PHp)) : List PV -> PHp -> Option (List FV × PHp)
 | [], ph => some ([], ph)
 | x :: l, ph => match f ph x with
   | some (y, ph1) => (match qKD f l ph1 with
     | some (ys, ph2) => some (y :: ys, ph2)
     | none => none)
   | none => none
noncomputable def fz1 (P : Program) : Nat -> PHp -> PV -> Option (FV × PHp)
 | 0, ph, .f x => some (x, ph)
 | 0, _, _ => none
 | n + 1, ph, .f x => some (x, ph)
 | n + 1, ph, .own k t o c => (match qE k ph with
   | some ob => (match szT P ob.el with
     | some s => cond (Nat.beq (t * s) ob.cs.length) (match qKD (fz1 P n) ((ob.cs.drop (o * s)).take (c * s)) (qES k ph) with
       | some (cs, ph') => some (.l ob.el c cs, ph')
       | none => none) none
     | none => none)
   | none => none)
 | n + 1, _, _ => none
noncomputable def fzP (P : Program) (ph : PHp) (x : PV) : Option (PV × PHp) := match x with
 | .agg cs => (match qKD (fz1 P 4) cs ph with
   | some (ys, ph') => some (.agg (ys.map .f), ph')
   | none => none)
 | x => (match fz1 P 4 ph x with
   | some (y, ph') => some (.f y, ph')
   | none => none)
noncomputable def fzA (P : Program) : List PV -> PHp -> Option (List PV × PHp)
 | [], ph => some ([], ph)
 | x :: l, ph => match fzP P ph x with
   | some (y, ph1) => (match fzA P l ph1 with
     | some (ys, ph2) => some (y :: ys, ph2)
     | none => none)
   | none => none
structure Fz (P : Program) (Z : Nat -> Prop) (H : IH) (m : Nat -> Nat) (ph : PHp) (Z' : Nat -> Prop) (ph' : PHp) : Prop where
 hp : Hp P Z' H (own m ph')
 zle : ∀ b, Z b -> Z' b
 sub : ∀ k ob, qE k ph' = some ob -> qE k ph = some ob
 znew : ∀ b, Z' b -> Z b ∨ cO (own m ph) b
theorem Fz.refl (h : Hp P Z H (own m ph)) : Fz P Z H m ph Z ph := ⟨h, fun _ h => h, fun _ _ h => h, fun _ h => .inl h⟩
theorem Fz.ownS (a : Fz P Z H m ph Z' ph') {r : Nat × PO} (h : own m ph' k = some r) : own m ph k = some r := by
 obtain ⟨b, ob⟩ := r;obtain ⟨h1, rfl⟩ := gX h;exact zG (a.sub k ob h1)
theorem Fz.trans {Z1 Z2 : Nat -> Prop} {ph1 ph2 : PHp} (a : Fz P Z H m ph Z1 ph1) (b : Fz P Z1 H m ph1 Z2 ph2) : Fz P Z H m ph Z2 ph2 :=
 ⟨b.hp, fun x h => b.zle x (a.zle x h), fun k ob h => a.sub k ob (b.sub k ob h), fun x h => by
   rcases b.znew x h with h | ⟨k, ob, h1, h2⟩
   ·exact a.znew x h
   ·exact .inr ⟨k, ob, a.ownS h1, h2⟩⟩
theorem Fz.kr (a : Fz P Z H m ph Z' ph') (p : Nat -> Bool) : KR p (own m ph) (own m ph') := fun k b ob h => .inl ⟨ob, a.ownS h, rfl, rfl, rfl⟩
theorem Fz.step (a : Fz P Z H m ph Z' ph') : Step Z H (own m ph) Z' H (own m ph') :=
 ⟨Nat.le_refl _, rfl, a.zle, fun _ _ _ => rfl, fun b h _ => a.znew b h, fun b ⟨k, ob, h1, h2⟩ _ => ⟨k, ob, a.ownS h1, h2⟩⟩
theorem Fz.vrl (a : Fz P Z H m ph Z' ph') (h : VRL P Z H (Go.Idl.own m ph) xs vs) : VRL P Z' H (Go.Idl.own m ph') xs vs :=
 h.mono (p := fun _ => false) a.zle (Nat.le_refl _) (fun _ _ _ => rfl) (a.kr _) fun j hj => by cases hj
theorem Fz.del (h : Hp P Z H (own m ph)) {ob : PO} (hl : qE k ph = some ob) (hr : real ob) : Fz P Z H m ph (fun b => Z b ∨ b = m k) (qES k ph) := by
 have hsub : ∀ j o, qE j (qES k ph) = some o -> j ≠ k ∧ qE j ph = some o := fun j o h => by
  rw [uS] at h;split at h
  ·cases h
  ·rename_i hj; exact ⟨hj, h⟩
 have hown : ∀ j b o, own m (qES k ph) j = some (b, o) -> j ≠ k ∧ own m ph j = some (b, o) := fun j b o h => by
  obtain ⟨h1, rfl⟩ := gX h;obtain ⟨h2, h3⟩ := hsub j o h1;exact ⟨h2, zG h3⟩
 obtain ⟨w1, w2, w3⟩ := h.real0 hl hr;refine ⟨⟨?_, ?_, ?_, h.gl.mono h.zlt (fun _ h => .inl h) fun _ _ _ => rfl⟩, fun b h => .inl h, fun j o h => (hsub j o h).2, ?_⟩
 ·rintro b (hb | rfl)
  ·exact h.zlt b hb
  ·exact w1
 ·intro j b o hj;obtain ⟨h1, h2⟩ := hown j b o hj
  rcases h.obj j b o h2 with h3 | ⟨a1, a2, a3, a4⟩
  ·exact .inl h3
  ·by_cases hro : o.gr = true ∧ o.cs = []
   ·exact .inl hro
   ·refine .inr ⟨a1, a2, ?_, a4.mono rfl fun _ a5 => a5.mono (p := fun _ => false) (fun _ h => .inl h) (Nat.le_refl _) (fun _ _ _ => rfl) (fun i b' o' hi => .inl ⟨o', (hown i b' o' hi).2, rfl, rfl, rfl⟩) (fun j hj => by cases hj)⟩;rintro (hz | rfl)
    ·exact a3 hz
    ·exact h.inj j k _ _ o ob h2 (zG hl) hro hr h1 rfl
 ·intro j j' b b' o o' h1 h2 r1 r2 hne;exact h.inj j j' b b' o o' (hown j b o h1).2 (hown j' b' o' h2).2 r1 r2 hne
 ·rintro b (hz | rfl)
  ·exact .inl hz
  ·exact .inr ⟨k, ob, zG hl, hr⟩
theorem Fz.drop (h : Hp P Z H (own m ph)) (hs : ∀ k ob, qE k ph' = some ob -> qE k ph = some ob) : Fz P Z H m ph Z ph' := by
 have hown : ∀ j b o, own m ph' j = some (b, o) -> own m ph j = some (b, o) := fun j b o h => by
  obtain ⟨h1, rfl⟩ := gX h;exact zG (hs j o h1)
 refine ⟨⟨h.zlt, ?_, ?_, h.gl⟩, fun _ h => h, hs, fun _ h => .inl h⟩
 ·intro j b o hj
  rcases h.obj j b o (hown j b o hj) with h3 | ⟨a1, a2, a3, a4⟩
  ·exact .inl h3
  ·exact .inr ⟨a1, a2, a3, a4.mono rfl fun _ a5 => a5.mono (p := fun _ => false) (fun _ h => h) (Nat.le_refl _) (fun _ _ _ => rfl) (fun i b' o' hi => .inl ⟨o', hown i b' o' hi, rfl, rfl, rfl⟩) (fun j hj => by cases hj)⟩
 ·intro j j' b b' o o' h1 h2 r1 r2 hne;exact h.inj j j' b b' o o' (hown j b o h1) (hown j' b' o' h2) r1 r2 hne
structure FRL (Z : Nat -> Prop) (H : IH) (xs : List FV) (vs : List Value) : Prop where
 len : xs.length = vs.length
 val : ∀ (i : Nat) x v, xs[i]? = some x -> vs[i]? = some v -> FR Z H x v
theorem FRL.cons {x : FV} {xs : List FV} (h : FR Z H x v) (t : FRL Z H xs vs) : FRL Z H (x :: xs) (v :: vs) :=
 ⟨by simp [t.len], fun i y u h1 h2 => by
   cases i with
   | zero => simp at h1 h2; subst h1 h2; exact h
   | succ i => exact t.val i y u (by simpa using h1) (by simpa using h2)⟩
theorem FRL.map {xs : List FV} (h : FRL Z H xs vs) : VRL P Z H M (xs.map .f) vs := qS8 h.len h.val
theorem qF2 {f : PHp -> PV -> Option (FV × PHp)} (hf : ∀ {Z : Nat -> Prop} {ph : PHp} {x : PV} {y : FV} {ph' : PHp} {v : Value}, Hp P Z H (own m ph) -> VR P Z H (own m ph) x v -> f ph x = some (y, ph') -> ∃ Z', Fz P Z H m ph Z' ph' ∧ FR Z' H y v) :
 ∀ {xs : List PV} {vs : List Value} {Z : Nat -> Prop} {ph : PHp} {ys : List FV} {ph' : PHp}, Hp P Z H (own m ph) -> VRL P Z H (own m ph) xs vs -> qKD f xs ph = some (ys, ph') -> ∃ Z', Fz P Z H m ph Z' ph' ∧ FRL Z' H ys vs
 | [], vs, Z, ph, ys, ph', hp, hx, h => by
   simp only [qKD, Option.some.injEq, Prod.mk.injEq] at h;obtain ⟨rfl, rfl⟩ := h;rw [hx.nil_left];exact ⟨Z, .refl hp, rfl, fun i x v h => by simp at h⟩
 | x :: xs, _, Z, ph, ys, ph', hp, hx, h => by
   obtain ⟨v, vs, rfl, h1, h2⟩ := hx.uncons;unfold qKD at h;split at h
   ·rename_i y ph1 hy;split at h
    ·rename_i ys' ph2 hys;cases h;obtain ⟨Z1, c1, r1⟩ := hf hp h1 hy;obtain ⟨Z2, c2, r2⟩ := qF2 hf c1.hp (c1.vrl h2) hys;exact ⟨Z2, c1.trans c2, .cons (r1.mono c2.zle (Nat.le_refl _) fun _ _ _ => rfl) r2⟩
    ·cases h
   ·cases h
theorem qOI : ∀ (n : Nat) {Z : Nat -> Prop} {ph : PHp} {x : PV} {y : FV} {ph' : PHp} {v : Value}, Hp P Z H (own m ph) -> VR P Z H (own m ph) x v -> fz1 P n ph x = some (y, ph') -> ∃ Z', Fz P Z H m ph Z' ph' ∧ FR Z' H y v
 | n, Z, ph, .f x, y, ph', v, hp, hx, h => by
   have : some (x, ph) = some (y, ph') := by cases n <;> exact h
   cases this
   cases hx with
   | f hx => exact ⟨Z, .refl hp, hx⟩
 | 0, Z, ph, .agg _, y, ph', v, hp, hx, h => by cases h
 | 0, Z, ph, .tup _, y, ph', v, hp, hx, h => by cases h
 | 0, Z, ph, .own _ _ _ _, y, ph', v, hp, hx, h => by cases h
 | 0, Z, ph, .ref _ _ _, y, ph', v, hp, hx, h => by cases h
 | 0, Z, ph, .lp _ _, y, ph', v, hp, hx, h => by cases h
 | 0, Z, ph, .fn _ _ _, y, ph', v, hp, hx, h => by cases h
 | 0, Z, ph, .unk, y, ph', v, hp, hx, h => by cases h
 | 0, Z, ph, .yl _, y, ph', v, hp, hx, h => by cases h
 | 0, Z, ph, .mp _, y, ph', v, hp, hx, h => by cases h
 | n + 1, Z, ph, .agg _, y, ph', v, hp, hx, h => by cases h
 | n + 1, Z, ph, .tup _, y, ph', v, hp, hx, h => by cases h
 | n + 1, Z, ph, .ref _ _ _, y, ph', v, hp, hx, h => by cases h
 | n + 1, Z, ph, .lp _ _, y, ph', v, hp, hx, h => by cases h
 | n + 1, Z, ph, .fn _ _ _, y, ph', v, hp, hx, h => by cases h
 | n + 1, Z, ph, .unk, y, ph', v, hp, hx, h => by cases h
 | n + 1, Z, ph, .yl _, y, ph', v, hp, hx, h => by cases h
 | n + 1, Z, ph, .mp _, y, ph', v, hp, hx, h => by cases h
 | n + 1, Z, ph, .own k t o c, y, ph', v, hp, hx, h => by
   unfold fz1 at h;split at h
   ·rename_i ob hl;split at h
    ·rename_i s hs
     cases hc : Nat.beq (t * s) ob.cs.length with
     | false => rw [hc] at h; cases h
     | true =>
       rw [hc] at h;simp only [cond_true] at h;have he := Nat.eq_of_beq_eq_true hc;split at h
       ·rename_i cs ph1 hf;cases h;obtain ⟨hO, h0⟩ := wR hx hl hs he
        rcases hO with ⟨g1, rfl, rfl, rfl, rfl⟩ | ⟨g1, g2, g3, rfl⟩
        ·have hc0 : ob.cs = [] := List.length_eq_zero_iff.1 (by omega);rw [hc0] at hf;have hf' : qKD (fz1 P n) [] (qES k ph) = some (cs, ph') := by simpa using hf
         have : some (([] : List FV), qES k ph) = some (cs, ph') := hf';cases this;refine ⟨Z, .drop hp fun j o hj => ?_, .nil (fun _ => rfl) (fun x h => by cases h)⟩;rw [uS] at hj;split at hj
         ·cases hj
         ·exact hj
        ·have hre := bA he h0 g1;obtain ⟨w1, w2, w3, vs, q1, q2, q3⟩ := hp.real hl hre (jW hs);have hcut := Fz.del hp hl hre;have hle : (o + c) * s <= t * s := Nat.mul_le_mul_right _ g2;rw [Nat.add_mul] at hle;obtain ⟨Z2, c2, r2⟩ := qF2 (fun a b c => qOI n a b c) hcut.hp (hcut.vrl ((q2.drop (o * s)).take (c * s))) hf;refine ⟨Z2, hcut.trans c2, .l (vs := (vs.drop (o * s)).take (c * s)) (c2.zle _ (.inr rfl)) w1 (by omega) (by cases ob.gr <;> simp) ?_ r2.val⟩
         have hcl : cs.length = c * s := by
          rw [r2.len]; simp only [List.length_take, List.length_drop]; rw [<- q2.len]; omega
         rw [hcl];exact jR q1 (by rw [<- q2.len]; omega) rfl
       ·cases h
    ·cases h
   ·cases h
theorem qI3 {x y : PV} (hp : Hp P Z H (own m ph)) (hx : VR P Z H (own m ph) x v) (h : fzP P ph x = some (y, ph')) : ∃ Z', Fz P Z H m ph Z' ph' ∧ VR P Z' H (fun _ => none) y v := by
 unfold fzP at h;split at h
 ·rename_i cs;split at h
  ·rename_i ys ph1 hf;cases h
   cases hx with
   | agg hl hc =>
     rename_i vs;obtain ⟨Z', c1, r1⟩ := qF2 (vs := vs.toList) (fun a b c => qOI 4 a b c) hp ⟨by simpa using hl, fun i x v a b => hc i x v a (by simpa using b)⟩ hf;have := (r1.map (P := P) (M := fun _ => none)).toA;exact ⟨Z', c1, by simpa using this⟩
  ·cases h
 ·split at h
  ·rename_i y' ph1 hf;cases h;obtain ⟨Z', c1, r1⟩ := qOI 4 hp hx hf;exact ⟨Z', c1, .f r1⟩
  ·cases h
theorem VRL.none {H' : IH} (h : VRL P Z H (fun _ => none) xs vs) (hz : ∀ b, Z b -> Z' b) (hs : H.size <= H'.size) (hg : ∀ b, Z b -> b < H.size -> H'.get b = H.get b) {M : Nat -> Option (Nat × PO)} (hn : ∀ k, M k = none) : VRL P Z' H' M xs vs :=
 h.mono (p := fun _ => false) hz hs hg (fun k b o hk => by rw [hn] at hk; cases hk) fun j hj => by cases hj
theorem qON : ∀ {xs : List PV} {vs : List Value} {Z : Nat -> Prop} {ph : PHp} {ys : List PV} {ph' : PHp}, Hp P Z H (own m ph) -> VRL P Z H (own m ph) xs vs -> fzA P xs ph = some (ys, ph') -> ∃ Z', Fz P Z H m ph Z' ph' ∧ VRL P Z' H (fun _ => none) ys vs
 | [], vs, Z, ph, ys, ph', hp, hx, h => by
   simp only [fzA, Option.some.injEq, Prod.mk.injEq] at h;obtain ⟨rfl, rfl⟩ := h;rw [hx.nil_left];exact ⟨Z, .refl hp, .nil⟩
 | x :: xs, _, Z, ph, ys, ph', hp, hx, h => by
   obtain ⟨v, vs, rfl, h1, h2⟩ := hx.uncons;unfold fzA at h;split at h
   ·rename_i y ph1 hy;split at h
    ·rename_i ys' ph2 hys;cases h;obtain ⟨Z1, c1, r1⟩ := qI3 hp h1 hy;obtain ⟨Z2, c2, r2⟩ := qON c1.hp (c1.vrl h2) hys;exact ⟨Z2, c1.trans c2, .cons (r1.mono (p := fun _ => false) c2.zle (Nat.le_refl _) (fun _ _ _ => rfl) (.refl _ _) fun j hj => by cases hj) r2⟩
    ·cases h
   ·cases h
end Go.Idl
namespace Go.Idl
variable [Gc]
variable {P : Program} {Z : Nat -> Prop} {H : IH} {M : Nat -> Option (Nat × PO)} {m : Nat -> Nat} {ph : PHp} {G : Nat -> Bool}
variable {H' : IH} {M' : Nat -> Option (Nat × PO)} {Z' : Nat -> Prop} {cs env : List PV} {ienv : Env} {t : TypeId} {v : Value} {vs : Array Value} {x : PV}
theorem Hp.old (h : Hp P Z H (own m ph)) (ho : Old H H') (hz : ∀ b, Z b -> Z' b) (hz1 : ∀ b, Z' b -> b < H'.size) (hz2 : ∀ b, Z' b -> b < H.size -> Z b) : Hp P Z' H' (own m ph) := by
 refine ⟨hz1, fun k b ob hk => ?_, h.inj, h.gl.mono h.zlt hz fun b _ hb => ho.get b hb⟩
 rcases h.obj k b ob hk with h1 | ⟨a1, a2, a3, a4⟩
 ·exact .inl h1
 ·exact .inr ⟨Nat.lt_of_lt_of_le a1 ho.size, by rw [ho.base]; exact a2, fun h => a3 (hz2 b h a1), a4.mono (ho.get b a1) fun _ a5 => a5.mono (p := fun _ => false) hz ho.size (fun b _ hb => ho.get b hb) (.refl _ _) (fun j hj => by cases hj)⟩
theorem Step.old (ho : Old H H') (hz : ∀ b, Z b -> Z' b) (hz2 : ∀ b, Z' b -> b < H.size -> Z b) : Step Z H M Z' H' M :=
 ⟨ho.size, ho.base, hz, fun b hb _ => ho.get b hb, fun b h hb => .inl (hz2 b h hb), fun _ h _ => h⟩
def wK : PV -> Bool
 | .f (.v _) => true
 | .agg cs => (qTY cs).isSome
 | .tup cs => (plL cs).isSome
 | _ => false
theorem qMI (h : VR P Z H M x v) (hp : (pl1 x).isSome = true) (Z' : Nat -> Prop) (H' : IH) (M' : Nat -> Option (Nat × PO)) : VR P Z' H' M' x v := by
 unfold pl1 at hp;split at hp
 ·cases h with
  | f h => cases h with
    | v a b => exact .f (.v a b)
 ·cases hp
theorem qGA (Z' : Nat -> Prop) (H' : IH) (M' : Nat -> Option (Nat × PO)) : ∀ {xs : List PV} {vs : List Value}, VRL P Z H M xs vs -> (qTY xs).isSome = true -> VRL P Z' H' M' xs vs
 | [], vs, h, _ => by rw [h.nil_left]; exact .nil
 | x :: xs, _, h, hp => by
   obtain ⟨v, vs, rfl, h1, h2⟩ := h.uncons;unfold qTY at hp;split at hp
   ·rename_i a ha;split at hp
    ·rename_i as has;exact .cons (qMI h1 (by rw [ha]; rfl) _ _ _) (qGA Z' H' M' h2 (by rw [has]; rfl))
    ·cases hp
   ·cases hp
theorem VR.aggL (h : VR P Z H M (.agg cs) v) : ∃ vs, v = .agg vs ∧ VRL P Z H M cs vs.toList := by
 cases h with
 | agg hl hc => exact ⟨_, rfl, by simpa using hl, fun i x v a b => hc i x v a (by simpa using b)⟩
theorem VR.tupL (h : VR P Z H M (.tup cs) v) : ∃ vs, v = .tuple vs ∧ VRL P Z H M cs vs.toList := by
 cases h with
 | tup hl hc => exact ⟨_, rfl, by simpa using hl, fun i x v a b => hc i x v a (by simpa using b)⟩
theorem VRL.agg' (h : VRL P Z H M cs vs.toList) : VR P Z H M (.agg cs) (.agg vs) := .agg (by simpa using h.len) fun i x v a b => h.val i x v a (by simpa using b)
theorem VRL.tup' (h : VRL P Z H M cs vs.toList) : VR P Z H M (.tup cs) (.tuple vs) := .tup (by simpa using h.len) fun i x v a b => h.val i x v a (by simpa using b)
theorem q67 (h : VR P Z H M x v) (hp : (pl x).isSome = true) (Z' : Nat -> Prop) (H' : IH) (M' : Nat -> Option (Nat × PO)) : VR P Z' H' M' x v := by
 unfold pl at hp;split at hp
 ·exact qMI h rfl _ _ _
 ·rename_i cs;obtain ⟨vs, rfl, hr⟩ := h.aggL;refine (qGA Z' H' M' hr ?_).agg';split at hp
  ·rename_i as has; rw [has]; rfl
  ·cases hp
 ·cases hp
theorem qSI (Z' : Nat -> Prop) (H' : IH) (M' : Nat -> Option (Nat × PO)) : ∀ {xs : List PV} {vs : List Value}, VRL P Z H M xs vs -> (plL xs).isSome = true -> VRL P Z' H' M' xs vs
 | [], vs, h, _ => by rw [h.nil_left]; exact .nil
 | x :: xs, _, h, hp => by
   obtain ⟨v, vs, rfl, h1, h2⟩ := h.uncons;unfold plL at hp;split at hp
   ·rename_i a ha;split at hp
    ·rename_i as has;exact .cons (q67 h1 (by rw [ha]; rfl) _ _ _) (qSI Z' H' M' h2 (by rw [has]; rfl))
    ·cases hp
   ·cases hp
theorem qPW (h : VR P Z H M x v) (hp : wK x = true) (Z' : Nat -> Prop) (H' : IH) (M' : Nat -> Option (Nat × PO)) : VR P Z' H' M' x v := by
 unfold wK at hp;split at hp
 ·exact qMI h rfl _ _ _
 ·obtain ⟨vs, rfl, hr⟩ := h.aggL;exact (qGA Z' H' M' hr hp).agg'
 ·obtain ⟨vs, rfl, hr⟩ := h.tupL;exact (qSI Z' H' M' hr hp).tup'
 ·cases hp
def rF (P : Program) : Nat -> TypeId -> List TypeId
 | 0, t => [t]
 | n + 1, t => match P.underlying t with
   | some (.struct fields) => fields.toList.flatMap fun f => rF P n f.type
   | some (.array k el) => (List.replicate k (rF P n el)).flatten
   | _ => [t]
def rt0 (P : Program) (t : TypeId) : PV -> PV
 | .f (.v (.slice none 0 0)) => match xH P t with
   | some el => .f (.l el 0 [])
   | none => fvv (.slice none 0 0)
 | x => x
def rtL (f : TypeId -> PV -> PV) : List TypeId -> List PV -> List PV
 | t :: ts, x :: xs => f t x :: rtL f ts xs
 | _, xs => xs
def rt1 (P : Program) (t : TypeId) : PV -> PV
 | .agg cs => .agg (rtL (rt0 P) (rF P 8 t) cs)
 | x => rt0 P t x
def rtA (P : Program) (g : FuncId) (args : List PV) : List PV := match P.funcs[g]? with
 | some fn => rtL (rt1 P) fn.params.toList args
 | none => args
theorem qU0 (h : VR P Z H M x v) : VR P Z H M (rt0 P t x) v := by
 unfold rt0;split
 ·split
  ·have := kC h rfl;subst this;exact .f (.nil (fun _ => rfl) fun _ h => by cases h)
  ·exact h
 ·exact h
theorem qDI {f : TypeId -> PV -> PV} (hf : ∀ t x v, VR P Z H M x v -> VR P Z H M (f t x) v) : ∀ {ts : List TypeId} {xs : List PV} {vs : List Value}, VRL P Z H M xs vs -> VRL P Z H M (rtL f ts xs) vs
 | [], xs, vs, h => by cases xs <;> exact h
 | t :: ts, [], vs, h => h
 | t :: ts, x :: xs, vs, h => by
   obtain ⟨v, vs', rfl, h1, h2⟩ := h.uncons;exact .cons (hf t x v h1) (qDI hf h2)
theorem qJG (h : VR P Z H M x v) : VR P Z H M (rt1 P t x) v := by
 unfold rt1;split
 ·obtain ⟨vs, rfl, hr⟩ := h.aggL;exact (qDI (fun t x v h => qU0 h) hr).agg'
 ·exact qU0 h
theorem q76 {g : FuncId} {xs : List PV} {vs : List Value} (h : VRL P Z H M xs vs) : VRL P Z H M (rtA P g xs) vs := by
 unfold rtA;split
 ·exact qDI (fun t x v h => qJG h) h
 ·exact h
abbrev fT := FuncId -> List PV -> Option PV
def Ctr (P : Program) (k : List Value -> IH -> T (Value × IH)) (pargs : List PV) (r : PV) : Prop :=
 ∀ (Z : Nat -> Prop) (H : IH) (args : List Value), VRL P Z H (fun _ => none) pargs args -> (∀ b, Z b -> b < H.size) -> H.base <= H.size -> q1P Z H -> ∀ Q : Value × IH -> Prop,
  (∀ v H' (Z' : Nat -> Prop), Old H H' -> (∀ b, Z b -> Z' b) -> (∀ b, Z' b -> b < H'.size) -> (∀ b, Z' b -> b < H.size -> Z b) -> VR P Z' H' (fun _ => none) r v -> Q (v, H')) -> (k args H).holds Q
def q2E : PV -> Bool
 | .f _ => true
 | _ => false
def qRL : PV -> Bool
 | .agg cs => cs.all q2E
 | x => q2E x
def q4T : PV -> Bool
 | .tup cs => cs.all qRL
 | x => qRL x
theorem qOF (h : VR P Z H M x v) (hp : q2E x = true) : VR P Z H M' x v := by
 unfold q2E at hp;split at hp
 ·cases h with
  | f h => exact .f h
 ·cases hp
theorem bU (h : VR P Z H M x v) (hp : qRL x = true) : VR P Z H M' x v := by
 unfold qRL at hp;split at hp
 ·obtain ⟨vs, rfl, hr⟩ := h.aggL;exact VRL.agg' ⟨hr.len, fun i x v a b => qOF (hr.val i x v a b) (List.all_eq_true.1 hp x (List.mem_of_getElem? a))⟩
 ·exact qOF h hp
theorem qX7 (h : VR P Z H M x v) (hp : q4T x = true) : VR P Z H M' x v := by
 unfold q4T at hp;split at hp
 ·obtain ⟨vs, rfl, hr⟩ := h.tupL;exact VRL.tup' ⟨hr.len, fun i x v a b => bU (hr.val i x v a b) (List.all_eq_true.1 hp x (List.mem_of_getElem? a))⟩
 ·exact bU h hp
def qU4 (P : Program) (nat : xJ) (tab : fT) : Prop := ∀ g pargs r, tab g pargs = some r -> enters P g = true ∧ q4T r = true ∧ ∃ k, nat g = some k ∧ Ctr P k pargs r
structure Nm where
 b : Nat
 p : Nat -> Bool
def qS9 (P : Program) (G : Nat -> Bool) (nm : Nm) (g : FuncId) (args : List PV) (ph : PHp) (R : PV -> PHp -> Prop) : Prop :=
 enters P g = true ∧ ∀ (Z : Nat -> Prop) (H : IH) (m : Nat -> Nat) (iargs : List Value), Hp P Z H (own m ph) -> H.base <= H.size -> VRL P Z H (own m ph) args iargs ->
  gI P G g iargs H fun r => ∃ Z' m' pv ph', Hp P Z' r.2 (own m' ph') ∧ VR P Z' r.2 (own m' ph') pv r.1 ∧ Step Z H (own m ph) Z' r.2 (own m' ph') ∧ KR nm.p (own m ph) (own m' ph') ∧ R pv ph'
inductive PE where
 | fail
 | ok (v : PV) (ph : PHp)
 | call (g : FuncId) (args : List PV) (ph : PHp)
 | rnd (l : Nat) (args : List PV) (ph : PHp)
inductive PT where
 | fail
 | ret (env : List PV) (ph : PHp)
 | chk (c : Bool) (t : PT)
 | call (nm : Nm) (g : FuncId) (args : List PV) (ph : PHp) (k : PV -> PHp -> PT)
 | rnd (l : Nat) (args : List PV) (ph : PHp) (k : PV -> PHp -> PT)
def PT.holds (P : Program) (G : Nat -> Bool) (Q : List PV -> PHp -> Prop) : PT -> Prop
 | .fail => False
 | .ret env ph => Q env ph
 | .chk c t => c = true ∧ t.holds P G Q
 | .call nm g args ph k => ∃ R, qS9 P G nm g args ph R ∧ ∀ v ph', R v ph' -> (k v ph').holds P G Q
 | .rnd _ _ _ _ => False
noncomputable def fA (P : Program) (tab : fT) (g : FuncId) (args : List PV) (ph : PHp) : PE := match fzA P args ph with
 | some (fargs, ph1) => (match tab g (rtA P g fargs) with
   | some r => .ok r (cond (wK r) ph ph1)
   | none => .fail)
 | none => .fail
noncomputable def dJ (P : Program) (tab : fT) (inl : FuncId -> Bool) (g : FuncId) (args : List PV) (ph : PHp) : PE := cond (inl g) (.call g args ph) (fA P tab g args ph)
noncomputable def mY (P : Program) (tab : fT) (inl : FuncId -> Bool) (fv : PV) (args : List PV) (ph : PHp) : PE := match fv with
 | .f (.v (.func (.func g) a c)) => cond (a.toList.isEmpty && c.toList.isEmpty) (dJ P tab inl g args ph) .fail
 | .yl l => .rnd l args ph
 | .fn g first cap => dJ P tab inl g (first ++ (args ++ cap)) ph
 | _ => .fail
def peO : Option (PV × PHp) -> PE
 | some r => .ok r.1 r.2
 | none => .fail
noncomputable def fI (P : Program) (tab : fT) (inl : FuncId -> Bool) (k : Nat) (o : Oper) (env : List PV) (ph : PHp) : PE := match o.op with
 | .call ⟨.value f, args, _⟩ => mY P tab inl (qP env f) (args.toList.map (qP env)) ph
 | _ => peO (qG3 P o env k ph)
def qM0 (want : Bool) : PV -> Option Bool
 | .f (.v (.bool b)) => some (b == want)
 | .tup cs => cond cs.isEmpty (some false) none
 | _ => none
noncomputable def qM1 (w : Bool) (env : List PV) : Option Tmp -> Option Bool
 | some t => (match z8 env t with
   | some v => qM0 w v
   | none => none)
 | none => some false
noncomputable def cK (ds : List (Option Tmp)) (o : Oper) (env : List PV) : Option Bool := match o.guard with
 | none => some true
 | some (j, w) => qM1 w env (qQC ds j)
def wid (b : Nat) : Nat := cond (Nat.blt b 1000) 1 (cond (Nat.blt b 1000000) 1000 (cond (Nat.blt b 1000000000) 1000000 1000000000))
def inB (b k : Nat) : Bool := Nat.beq ((k / 1000) % wid b) (b / 1000)
def inP (nm : Nm) (k : Nat) : Bool := nm.p k
def qSA (nm : Nm) (g : FuncId) : Nm := ⟨nm.b + wid nm.b * 1000 * (g + 1), fun k => inB (nm.b + wid nm.b * 1000 * (g + 1)) k && nm.p k⟩
def clean (p : Nat -> Bool) (env : List PV) : PHp -> Bool
 | [] => true
 | (k, _) :: ph => (!p k || xR k env) && clean p env ph
def zQ (nm : Nm) (d : Option Tmp) : Nat := match d with
 | some t => nm.b + t
 | none => nm.b
def fresh (nm : Nm) (k : Nat) (env : List PV) (ph : PHp) : Bool := inP nm k && (xR k env && rV k ph)
def q31 (c : Bool) (k : Nat) (nm : Nm) (env : List PV) (ph : PHp) (t : PT) : PT := cond c (.chk (fresh nm k env ph) t) t
noncomputable def pops (P : Program) (tab : fT) (inl : FuncId -> Bool) (nm : Nm) (ds : List (Option Tmp)) : List Oper -> List PV -> PHp -> PT
 | [], env, ph => .ret env ph
 | o :: l, env, ph => j5 (cK ds o env)
    (match fI P tab inl (zQ nm o.dst) o env ph with
     | .fail => .fail
     | .ok v ph' => q31 (needs o.op) (zQ nm o.dst) nm env ph (pops P tab inl nm ds l (xE env o.dst v) ph')
     | .call g args ph' => .call (qSA nm g) g args ph' fun v ph2 => .chk (clean (qSA nm g).p env ph2) (pops P tab inl nm ds l (xE env o.dst v) ph2)
     | .rnd x args ph' => .rnd x args ph' fun v ph2 => pops P tab inl nm ds l (xE env o.dst v) ph2)
    (pops P tab inl nm ds l (xE env o.dst (.tup [])) ph) .fail
theorem KR.trans {p : Nat -> Bool} {M1 M2 M3 : Nat -> Option (Nat × PO)} (a : KR p M1 M2) (b : KR p M2 M3) : KR p M1 M3 := fun k b' ob' h => by
 rcases b k b' ob' h with ⟨ob, h1, h2, h3, h4⟩ | ⟨b1, ob, h1, h2, h3, hb1⟩ | h
 ·rcases a k b' ob h1 with ⟨o2, q1, q2, q3, q4⟩ | ⟨b2, o2, q1, q2, q3, qb2⟩ | q
  ·exact .inl ⟨o2, q1, q2.trans h2, q3.trans h3, q4.trans h4⟩
  ·exact .inr (.inl ⟨b2, o2, q1, by omega, q3.trans h3, qb2⟩)
  ·exact .inr (.inr q)
 ·rcases a k b1 ob h1 with ⟨o2, q1, q2, q3, q4⟩ | ⟨b2, o2, q1, q2, q3, qb2⟩ | q
  ·exact .inr (.inl ⟨b1, o2, q1, by omega, q3.trans h3, fun hh => hb1 (by rw [<- q3]; exact hh)⟩)
  ·exact .inr (.inl ⟨b2, o2, q1, by omega, q3.trans h3, fun hh => (qb2 hh).trans (hb1 (by rw [<- q3]; exact hh))⟩)
  ·exact .inr (.inr q)
 ·exact .inr (.inr h)
theorem KR.up {p q : Nat -> Bool} {M1 M2 : Nat -> Option (Nat × PO)} (a : KR p M1 M2) (h : ∀ k, p k = true -> q k = true) : KR q M1 M2 := fun k b ob hk => by
 rcases a k b ob hk with h1 | h1 | h1
 ·exact .inl h1
 ·exact .inr (.inl h1)
 ·exact .inr (.inr (h k h1))
theorem VRL.putD (h : VRL P Z H M env ienv) (hx : VR P Z H M x v) (d : Option Tmp) : VRL P Z H M (xE env d x) (ienv.putD d v) := by
 cases d with
 | none => exact h
 | some t =>
   show VRL P Z H M (kN env t x) (kN ienv t v);rw [yJ, yJ]; exact h.set hx t
theorem oW {ops : Array Oper} {o : Oper} {b : Bool} (he : VRL P Z H M env ienv) (h : cK (ops.toList.map (·.dst)) o env = some b) : kX ops o ienv = some b := by
 rw [qAZ];unfold cK at h;unfold mV;split at h
 ·rename_i hg;rw [hg]; exact h
 ·rename_i j w hg;rw [hg];simp only;unfold qM1 at h;unfold qPX;split at h
  ·rename_i t ht;rw [ht];simp only;split at h
   ·rename_i v hv;rw [qG] at hv;obtain ⟨u, h1, h2⟩ := he.get hv;unfold q7K;rw [qG, h1];unfold qM0 at h;split at h
    ·have := kC h2 rfl;subst this;exact h
    ·rename_i cs
     cases hc : cs.isEmpty with
     | false => rw [hc] at h; cases h
     | true =>
       rw [hc] at h;obtain ⟨vs, rfl, hr⟩ := h2.tupL
       have : cs = [] := by cases cs with
        | nil => rfl
        | cons => cases hc
       subst this;have h3 := hr.nil_left;have : vs = #[] := by simpa using h3
       subst this;exact h
    ·cases h
   ·cases h
  ·rename_i ht;rw [ht]; exact h
end Go.Idl
namespace Go.Idl
variable [Gc]
variable {P : Program} {Z : Nat -> Prop} {H : IH} {m : Nat -> Nat} {ph : PHp} {G : Nat -> Bool} {nat : xJ} {tab : fT} {inl : FuncId -> Bool} {nm : Nm}
variable {F : Fence} {K : Act -> World -> Prop} {Q : Value × IH -> Prop} {Qx : Exit -> Act -> World -> Prop} {a : Act} {args : List Value} {as env : List PV} {f : Inj} {g : FuncId} {ienv : Env} {o : Oper} {ph' : PHp} {w : World}
def aH : Job -> IH -> T Out := fun _ _ => .fail
theorem qW1 (hs : vX P G nat) : jZ P G (y8 aH nat) := by
 intro g args args' H f w Q hR hG ha h;unfold y8 at h;split at h
 ·rename_i k hk; exact hs g k hk args args' H f w Q hR hG ha h
 ·exact h.elim
theorem qKW : jH P G aH := by
 intro l args args' H f w e Q hR hG he ha hq;exact hq.elim
theorem q4L : vX P G fun _ => none := fun g k h => by cases h
noncomputable def qD5 (g : FuncId) (args : List Value) (H : IH) (Q : Value × IH -> Prop) : xJ := by
 classical
 exact fun g1 => if g1 = g then some (fun a h => if a = args ∧ h = H then .sp Q .ret else .fail) else none
theorem q6U {H : IH} (h : gI P G g args H Q) : vX P G (qD5 g args H Q) := by
 classical
 intro g1 k hk args1 args' H1 f1 w1 Q1 hR1 hG1 ha1 hq1;unfold qD5 at hk;split at hk
 ·rename_i hg1;subst hg1;cases hk;change T.holds Q1 (if args1 = args ∧ H1 = H then T.sp Q T.ret else T.fail) at hq1;split at hq1
  ·rename_i hc;obtain ⟨rfl, rfl⟩ := hc;exact (h.mono fun r hr => hq1 r hr) args' f1 w1 hR1 hG1 ha1
  ·exact hq1.elim
 ·cases hk
theorem q3U {H : IH} : y8 aH (qD5 g args H Q) g args H = .sp Q .ret := by
 classical
 unfold y8 qD5;simp
def target (fv : PV) (args : List PV) : Option (FuncId × List PV) := match fv with
 | .f (.v (.func (.func g) a c)) => cond (a.toList.isEmpty && c.toList.isEmpty) (some (g, args)) none
 | .fn g first cap => some (g, first ++ (args ++ cap))
 | _ => none
theorem eU {fv : PV} {args : List PV} {r : PE} (h : mY P tab inl fv args ph = r) (hr : r ≠ .fail) (hr2 : ∀ x a p, r ≠ .rnd x a p) : ∃ g as, target fv args = some (g, as) ∧ dJ P tab inl g as ph = r := by
 unfold mY at h;unfold target;split at h
 ·rename_i g a c
  cases hc : (a.toList.isEmpty && c.toList.isEmpty) with
  | false => rw [hc] at h; exact absurd h.symm hr
  | true => rw [hc] at h; exact ⟨g, args, (by simp only; rw [hc]; rfl), h⟩
 ·exact absurd h.symm (hr2 _ _ _)
 ·exact ⟨_, _, rfl, h⟩
 ·exact absurd h.symm hr
theorem qIT {x : Operand} {oargs : Array Operand} {ts : Array TypeId} (he : VRL P Z H (own m ph) env ienv) (h : target (qP env x) (oargs.toList.map (qP env)) = some (g, as)) (hent : enters P g = true) :
 ∃ iargs, yN P o ⟨.value x, oargs, ts⟩ ienv H = some (.enter g iargs H) ∧ VRL P Z H (own m ph) as iargs := by
 have hx := qK he x;have ha := VRL.of he oargs.toList;unfold target at h;split at h
 ·rename_i g' a c hfv;rw [hfv] at hx;have hv := kC hx rfl
  cases hc : (a.toList.isEmpty && c.toList.isEmpty) with
  | false => rw [hc] at h; cases h
  | true =>
    rw [hc] at h; cases h;rw [Bool.and_eq_true] at hc;have e1 : a.toList = [] := by simpa using hc.1
    have e2 : c.toList = [] := by simpa using hc.2
    refine ⟨_, qBE hv hent, ?_⟩;rw [e1, e2, vI];simpa [fV] using ha
 ·rename_i g' first cap hfv
  cases h;rw [hfv] at hx
  cases hv : ienv.val x with
  | func fn fs cs =>
    rw [hv] at hx
    cases hx with
    | fn hf hc hfc hcc =>
      refine ⟨_, qBE hv hent, ?_⟩;rw [fV, fV, vI];exact VRL.append ⟨by simpa using hf, fun i x v a b => hfc i x v a (by simpa using b)⟩ (ha.append ⟨by simpa using hc, fun i x v a b => hcc i x v a (by simpa using b)⟩)
  | _ => rw [hv] at hx; cases hx
 ·cases h
theorem q5R (nm : Nm) {k : Nat} (h : fresh nm k env ph = true) : inP nm k = true ∧ xR k env = true ∧ rV k ph = true := by
 unfold fresh at h;simp only [Bool.and_eq_true] at h;exact h
theorem qMF (hF : eT F) (hns : vX P G nat) (ht : qU4 P nat tab) {v : PV} (hR : Rel P f H w) (hG : fG G f) (henv : qB P f ienv a.tmps.toList)
 (hok : o.op.operands.toList.all (jJ (zP f)) = true) (hp : Hp P Z H (own m ph)) (hb : H.base <= H.size) (he : VRL P Z H (own m ph) env ienv) (hx : fI P tab inl (zQ nm o.dst) o env ph = .ok v ph') (hn : needs o.op = true -> fresh nm (zQ nm o.dst) env ph = true)
 (hK : ∀ (Z' : Nat -> Prop) (m' : Nat -> Nat) (u : Value) (H' : IH) (f' : Inj) (v' : Value) (w' : World), Hp P Z' H' (own m' ph') -> VR P Z' H' (own m' ph') v u -> VRL P Z' H' (own m' ph') env ienv -> Step Z H (own m ph) Z' H' (own m' ph') -> KR (inP nm) (own m ph) (own m' ph') ->
   Rel P f' H' w' -> Grow f H w f' H' w' -> VRel P f' u v' -> K (a.put o.dst v') w') : o.wpIn F 0 P a w K Qx := by
 have plain : peO (qG3 P o env (zQ nm o.dst) ph) = .ok v ph' -> o.wpIn F 0 P a w K Qx := fun hx => by
  unfold peO at hx;split at hx
  ·rename_i r hr;cases hx;obtain ⟨u, H', Z', m', h1, h2, h3, h4, h5⟩ := q2A hp hb he (fun h => (q5R nm (hn h)).2) hr;refine bM (run := aH) (nat := fun _ => none) (G := G) (Q := fun r => r = (u, H')) hF (qW1 q4L) qKW hR hG henv hok ?_ ?_
   ·unfold vN; rw [h1]; rfl
   ·rintro r v' w' f' rfl k1 k2 k3;refine hK Z' m' u H' f' v' w' h2 h3 ?_ h4 ?_ k1 k2 k3
    ·refine he.mono h4.zle h4.size (hp.zkeep h4) h5 fun j hj => ?_
     unfold nw at hj;rw [Bool.and_eq_true] at hj;have : j = zQ nm o.dst := by simpa using hj.2
     subst this;exact (q5R nm (hn hj.1)).2.1
    ·refine h5.up fun j hj => ?_
     unfold nw at hj;rw [Bool.and_eq_true] at hj;have : j = zQ nm o.dst := by simpa using hj.2
     subst this;exact (q5R nm (hn hj.1)).1
  ·cases hx
 unfold fI at hx;split at hx
 ·rename_i x oargs ts hop;obtain ⟨g, as, h1, h2⟩ := eU hx (fun h => by cases h) (fun _ _ _ h => by cases h);unfold dJ at h2
  cases hi : inl g with
  | true => rw [hi] at h2; cases h2
  | false =>
    rw [hi] at h2;simp only [cond_false] at h2;unfold fA at h2;split at h2
    ·rename_i fargs ph1 hfz;split at h2
     ·rename_i r hr
      have hv : r = v ∧ cond (wK r) ph ph1 = ph' := by
       injection h2 with e1 e2;exact ⟨e1, e2⟩
      obtain ⟨rfl, hph⟩ := hv;obtain ⟨hent, hfr, k, hk, hctr⟩ := ht g _ r hr;obtain ⟨iargs, q1, q2⟩ := qIT (o := o) (ts := ts) he h1 hent;obtain ⟨Z1, c1, r1⟩ := qON hp q2 hfz
      let Q : Value × IH -> Prop := fun x => ∃ Z' : Nat -> Prop, Old H x.2 ∧ (∀ b, Z1 b -> Z' b) ∧ (∀ b, Z' b -> b < x.2.size) ∧ (∀ b, Z' b -> b < H.size -> Z1 b) ∧ VR P Z' x.2 (fun _ => none) r x.1
      have hQ : (k iargs H).holds Q := hctr Z1 H iargs (q76 r1) c1.hp.zlt hb c1.hp.gl Q fun v H' Z' a1 a2 a3 a4 a5 => ⟨Z', a1, a2, a3, a4, a5⟩
      refine bM (run := aH) (nat := nat) (G := G) (Q := Q) hF (qW1 hns) qKW hR hG henv hok ?_ ?_
      ·have : iop P o ienv H = some (.enter g iargs H) := by
        unfold iop; rw [hop]; exact q1
       unfold vN;rw [this];show (y8 aH nat g iargs H).holds Q;unfold y8;rw [hk];exact hQ
      ·rintro ⟨u, H'⟩ v' w' f' ⟨Z', a1, a2, a3, a4, a5⟩ k1 k2 k3
       cases hpl : wK r with
       | true =>
         rw [hpl] at hph;have hph : ph = ph' := hph;subst hph;have z1 : ∀ b, Z b -> b < H'.size := fun b hb => Nat.lt_of_lt_of_le (hp.zlt b hb) a1.size
         exact hK Z m u H' f' v' w' (hp.old a1 (fun _ h => h) z1 (fun _ h _ => h)) (qPW a5 hpl _ _ _) (he.mono (p := fun _ => false) (fun _ h => h) a1.size (fun b _ hb => a1.get b hb) (.refl _ _) (fun j hj => by cases hj)) (.old a1 (fun _ h => h) (fun _ h _ => h)) (.refl _ _) k1 k2 k3
       | false =>
         rw [hpl] at hph;have hph : ph1 = ph' := hph;subst hph;exact hK Z' m u H' f' v' w' (c1.hp.old a1 a2 a3 a4) (qX7 a5 hfr) ((c1.vrl he).mono (p := fun _ => false) a2 a1.size (fun b _ hb => a1.get b hb) (.refl _ _) (fun j hj => by cases hj)) (c1.step.trans (.old a1 a2 a4)) (c1.kr _) k1 k2 k3
     ·cases h2
    ·cases h2
 ·exact plain hx
theorem qPL {p : Nat -> Bool} {env : List PV} : ∀ {ph : PHp} {k : Nat}, clean p env ph = true -> (p k && (qE k ph).isSome) = true -> xR k env = true
 | [], k, _, h => by simp [qE] at h
 | (j, o) :: ph, k, h, hk => by
   have h : ((!p j || xR j env) && clean p env ph) = true := h;rw [Bool.and_eq_true] at h hk;obtain ⟨hk1, hk2⟩ := hk;have hk2 : (cond (k == j) (some o) (qE k ph)).isSome = true := hk2
   cases e : k == j with
   | true =>
     have : k = j := by simpa using e
     subst this;have := h.1;rw [hk1] at this;simpa using this
   | false =>
     rw [e] at hk2;exact qPL h.2 (by rw [hk1]; exact hk2)
theorem KR.act {p : Nat -> Bool} {M : Nat -> Option (Nat × PO)} {m : Nat -> Nat} {ph : PHp} (h : KR p M (own m ph)) : KR (fun k => p k && (qE k ph).isSome) M (own m ph) := fun k b ob hk => by
 rcases h k b ob hk with q | q | q
 ·exact .inl q
 ·exact .inr (.inl q)
 ·obtain ⟨hl, _⟩ := gX hk;exact .inr (.inr (by show (p k && (qE k ph).isSome) = true; rw [q, hl]; rfl))
theorem qTT (hF : eT F) {R : PV -> PHp -> Prop} (hR : Rel P f H w) (hG : fG G f) (henv : qB P f ienv a.tmps.toList)
 (hok : o.op.operands.toList.all (jJ (zP f)) = true) (hp : Hp P Z H (own m ph)) (hb : H.base <= H.size) (he : VRL P Z H (own m ph) env ienv) (hx : fI P tab inl (zQ nm o.dst) o env ph = .call g as ph') (hc : qS9 P G (qSA nm g) g as ph' R) (hcl : ∀ v ph2, R v ph2 -> clean (qSA nm g).p env ph2 = true)
 (hK : ∀ (Z' : Nat -> Prop) (m' : Nat -> Nat) (v : PV) (ph2 : PHp) (u : Value) (H' : IH) (f' : Inj) (v' : Value) (w' : World), R v ph2 -> Hp P Z' H' (own m' ph2) -> VR P Z' H' (own m' ph2) v u -> VRL P Z' H' (own m' ph2) env ienv -> Step Z H (own m ph) Z' H' (own m' ph2) -> KR (inP nm) (own m ph) (own m' ph2) ->
   Rel P f' H' w' -> Grow f H w f' H' w' -> VRel P f' u v' -> K (a.put o.dst v') w') : o.wpIn F 0 P a w K Qx := by
 unfold fI at hx;split at hx
 ·rename_i x oargs ts hop;obtain ⟨g1, as1, h1, h2⟩ := eU hx (fun h => by cases h) (fun _ _ _ h => by cases h);unfold dJ at h2
  cases hi : inl g1 with
  | false =>
    rw [hi] at h2;exfalso;have h2 : fA P tab g1 as1 ph = .call g as ph' := h2;unfold fA at h2;split at h2
    ·split at h2 <;> cases h2
    ·cases h2
  | true =>
    rw [hi] at h2;have h2 : PE.call g1 as1 ph = .call g as ph' := h2;cases h2;obtain ⟨hent, hc⟩ := hc;obtain ⟨iargs, q1, q2⟩ := qIT (o := o) (ts := ts) he h1 hent;have hci := hc Z H m iargs hp hb q2;refine bM (run := aH) (nat := qD5 g iargs H _) (G := G) hF (qW1 (q6U hci)) qKW hR hG henv hok (Q := fun r => ∃ Z' m' pv ph', Hp P Z' r.2 (own m' ph') ∧ VR P Z' r.2 (own m' ph') pv r.1 ∧ Step Z H (own m ph) Z' r.2 (own m' ph') ∧ KR (qSA nm g).p (own m ph) (own m' ph') ∧ R pv ph') ?_ ?_
    ·have : iop P o ienv H = some (.enter g iargs H) := by
      unfold iop; rw [hop]; exact q1
     unfold vN;rw [this];show (y8 aH (qD5 g iargs H _) g iargs H).holds _;rw [q3U];intro r hr;exact hr
    ·rintro ⟨u, H'⟩ v' w' f' ⟨Z', m', pv, ph2, b1, b2, b3, b4, b5⟩ k1 k2 k3
     exact hK Z' m' pv ph2 u H' f' v' w' b5 b1 b2 (he.mono b3.zle b3.size (hp.zkeep b3) (KR.act b4) fun j hj => qPL (hcl _ _ b5) hj) b3 (b4.up fun k h => by
      have h : (inB _ k && nm.p k) = true := h;rw [Bool.and_eq_true] at h
      exact h.2) k1 k2 k3
 ·unfold peO at hx;split at hx <;> cases hx
theorem pI {B : Nat} {F : Fence} (hF : eT F) (hns : vX P G nat) (ht : qU4 P nat tab) {ops : Array Oper} {Qx : Exit -> Act -> World -> Prop} {Q : List PV -> PHp -> Prop} : ∀ (l : List Oper) (env : List PV) (ph : PHp) (Z : Nat -> Prop) (H : IH) (m : Nat -> Nat) (ienv : Env) (f : Inj) (a : Act) (w : World),
 Rel P f H w -> fG G f -> qB P f ienv a.tmps.toList -> Marks B f w a.defers -> (∀ o ∈ l, o.op.operands.toList.all (jJ (zP f)) = true) -> Hp P Z H (own m ph) -> H.base <= H.size -> VRL P Z H (own m ph) env ienv ->
 (pops P tab inl nm (ops.toList.map (·.dst)) l env ph).holds P G Q ->
 (∀ (env' : List PV) (ph' : PHp) (Z' : Nat -> Prop) (H' : IH) (m' : Nat -> Nat) (ienv' : Env) (f' : Inj) (a' : Act) (w' : World), Q env' ph' -> Rel P f' H' w' -> Grow f H w f' H' w' -> qB P f' ienv' a'.tmps.toList -> Marks B f' w' a'.defers -> Hp P Z' H' (own m' ph') -> VRL P Z' H' (own m' ph') env' ienv' ->
   Step Z H (own m ph) Z' H' (own m' ph') -> KR (inP nm) (own m ph) (own m' ph') -> Qx .normal a' w') -> wpListIn F 0 P ops Qx l a w
 | [], env, ph, Z, H, m, ienv, f, a, w, hR, hG, henv, hm, _, hp, hb, he, h, hK => hK env ph Z H m ienv f a w h hR (.refl _ _ _) henv hm hp he (.refl _ _ _) (.refl _ _)
 | o :: l, env, ph, Z, H, m, ienv, f, a, w, hR, hG, henv, hm, hok, hp, hb, he, h, hK => by
   unfold pops at h;unfold wpListIn;unfold j5 at h;split at h
   ·rename_i hw;rw [xQ henv (oW he hw), if_pos rfl]
    -- behind the operation
    have next : ∀ (Z' : Nat -> Prop) (m' : Nat -> Nat) (v : PV) (ph2 : PHp) (u : Value) (H' : IH) (f' : Inj) (v' : Value) (w' : World), (pops P tab inl nm (ops.toList.map (·.dst)) l (xE env o.dst v) ph2).holds P G Q -> Hp P Z' H' (own m' ph2) -> VR P Z' H' (own m' ph2) v u -> VRL P Z' H' (own m' ph2) env ienv -> Step Z H (own m ph) Z' H' (own m' ph2) -> KR (inP nm) (own m ph) (own m' ph2) ->
     Rel P f' H' w' -> Grow f H w f' H' w' -> VRel P f' u v' -> wpListIn F 0 P ops Qx l (a.put o.dst v') w' := by
     intro Z' m' v ph2 u H' f' v' w' hq b1 b2 b3 b4 b5 k1 k2 k3
     refine pI hF hns ht l (xE env o.dst v) ph2 Z' H' m' (ienv.putD o.dst u) f' (a.put o.dst v') w' k1 (hG.mono k2.le) (jF (henv.mono k2.le) k3 _) (by rw [put_defers]; exact Marks.grow k2 _ hm)
      (fun o' ho' => List.all_eq_true.2 fun x hx => jC (zT k2.le) (List.all_eq_true.1 (hok o' (by simp [ho'])) x hx)) b1 (by rw [b4.base]; exact Nat.le_trans hb b4.size) (b3.putD b2 _) hq ?_
     intro env' ph' Z2 H2 m2 ienv' f2 a2 w2 q1 q2 q3 q4 q5 q6 q7 q8 q9;exact hK env' ph' Z2 H2 m2 ienv' f2 a2 w2 q1 q2 (k2.trans q3) q4 q5 q6 q7 (b4.trans q8) (b5.trans q9)
    split at h
    ·exact h.elim
    ·rename_i v ph1 hx
     have hh : (needs o.op = true -> fresh nm (zQ nm o.dst) env ph = true) ∧ (pops P tab inl nm (ops.toList.map (·.dst)) l (xE env o.dst v) ph1).holds P G Q := by
      unfold q31 at h
      cases hn : needs o.op with
      | true => rw [hn] at h; exact ⟨fun _ => h.1, h.2⟩
      | false => rw [hn] at h; exact ⟨fun h => by (cases h), h⟩
     refine qMF hF hns ht hR hG henv (hok o (by simp)) hp hb he hx hh.1 fun Z' m' u H' f' v' w' b1 b2 b3 b4 b5 k1 k2 k3 => ?_
     exact next Z' m' v ph1 u H' f' v' w' hh.2 b1 b2 b3 b4 b5 k1 k2 k3
    ·rename_i g as ph1 hx;obtain ⟨R, hc, hk⟩ := h;refine qTT hF hR hG henv (hok o (by simp)) hp hb he hx hc (fun v ph2 hr => (hk v ph2 hr).1) fun Z' m' v ph2 u H' f' v' w' hr b1 b2 b3 b4 b5 k1 k2 k3 => ?_
     exact next Z' m' v ph2 u H' f' v' w' (hk v ph2 hr).2 b1 b2 b3 b4 b5 k1 k2 k3
    ·exact h.elim
   ·rename_i hw;rw [xQ henv (oW he hw), if_neg (by simp)];refine ⟨fun g _ => hF.fn g, pI hF hns ht l (xE env o.dst (.tup [])) ph Z H m (ienv.putD o.dst undef) f (a.put o.dst undef) w hR hG (jF henv .undef _) (by rw [put_defers]; exact hm) (fun o' ho' => hok o' (by simp [ho'])) hp hb (he.putD (VRL.tup' (vs := #[]) .nil) _) h hK⟩
   ·exact h.elim
end Go.Idl
namespace Go.Idl
variable [Gc]
variable {P : Program} {G : Nat -> Bool} {nat : xJ} {tab : fT} {inl : FuncId -> Bool} {nm : Nm} {rd : Bool} {good : FuncId -> Bool}
variable {ds : List (Option Tmp)} {env : List PV} {id k n : Nat} {ob : PO} {ops : Array Oper} {p ph q : PHp} {y : Code}
structure PSet (P : Program) (good : FuncId -> Bool) (nat : xJ) (G : Nat -> Bool) (tab : fT) : Prop where
 s : Setup P good nat G
 t : qU4 P nat tab
abbrev PQ := IExit -> List PV -> PHp -> Prop
def Runs (P : Program) (G : Nat -> Bool) (rd : Bool) (nm : Nm) (c : Code) (env : List PV) (ph : PHp) (Q : PQ) : Prop :=
 ∀ (Z : Nat -> Prop) (H : IH) (m : Nat -> Nat) (ienv : Env), Hp P Z H (own m ph) -> H.base <= H.size -> VRL P Z H (own m ph) env ienv ->
  Holds P G rd c ienv H fun o => ∃ Z' m' env' ph', Hp P Z' o.H (own m' ph') ∧ VRL P Z' o.H (own m' ph') env' o.env ∧ Step Z H (own m ph) Z' o.H (own m' ph') ∧ KR (inP nm) (own m ph) (own m' ph') ∧ Q o.e env' ph'
theorem Runs.mono {c : Code} {env : List PV} {ph : PHp} {Q Q' : PQ} (h : Runs P G rd nm c env ph Q) (hq : ∀ e env ph, Q e env ph -> Q' e env ph) : Runs P G rd nm c env ph Q' :=
 fun Z H m ienv hp hb he => (h Z H m ienv hp hb he).mono fun o ⟨Z', m', env', ph', a, b, c, d, e⟩ => ⟨Z', m', env', ph', a, b, c, d, hq _ _ _ e⟩
inductive WkP : List PV -> List PV -> Prop
 | nil : WkP [] []
 | same {x : PV} {l m : List PV} (h : WkP l m) : WkP (x :: l) (x :: m)
 | any {x : PV} {l m : List PV} (h : WkP l m) : WkP (x :: l) (.unk :: m)
theorem WkP.refl : ∀ (l : List PV), WkP l l
 | [] => .nil
 | _ :: l => .same (WkP.refl l)
theorem WkP.rel {Z : Nat -> Prop} {H : IH} {M : Nat -> Option (Nat × PO)} {l m : List PV} (h : WkP l m) : ∀ {vs : List Value}, VRL P Z H M l vs -> VRL P Z H M m vs := by
 induction h with
 | nil => intro vs hx; exact hx
 | same _ ih => intro vs hx; obtain ⟨v, vs', rfl, h1, h2⟩ := hx.uncons; exact .cons h1 (ih h2)
 | any _ ih => intro vs hx; obtain ⟨v, vs', rfl, h1, h2⟩ := hx.uncons; exact .cons .unk (ih h2)
def rP (p q : PHp) : Prop := ∀ k ob, qE k p = some ob -> qE k q = some ob
theorem rP.refl (p : PHp) : rP p p := fun _ _ h => h
theorem rP.nil (p : PHp) : rP [] p := fun _ _ h => by cases h
theorem rP.skip (h : rP p q) (hk : qE k p = none) : rP p ((k, ob) :: q) := fun j o hj => by
 show cond (j == k) (some ob) (qE j q) = some o;by_cases e : j = k
 ·subst e; rw [hk] at hj; cases hj
 ·have : (j == k) = false := by simpa using e
  rw [this]; exact h j o hj
theorem rP.cons (h : rP p q) : rP ((k, ob) :: p) ((k, ob) :: q) := fun j o hj => by
 show cond (j == k) (some ob) (qE j q) = some o;have hj : cond (j == k) (some ob) (qE j p) = some o := hj
 cases e : (j == k) with
 | true => rw [e] at hj; exact hj
 | false => rw [e] at hj; exact h j o hj
theorem rP.put (hk : qE k q = some ob) (h : rP p q) : rP ((k, ob) :: p) q := fun j o hj => by
 have hj : cond (j == k) (some ob) (qE j p) = some o := hj
 cases e : (j == k) with
 | true =>
   rw [e] at hj;have hj2 : some ob = some o := hj;have : j = k := by simpa using e
   subst this;exact hk.trans hj2
 | false => rw [e] at hj; exact h j o hj
theorem Runs.pre {c : Code} {env1 : List PV} {ph1 : PHp} {Q : PQ} (hw : WkP env env1) (hs : rP ph1 ph) (h : Runs P G rd nm c env1 ph1 Q) : Runs P G rd nm c env ph Q := by
 intro Z H m ienv hp hb he;have hf := Fz.drop hp hs;refine (h Z H m ienv hf.hp hb (hw.rel (hf.vrl he))).mono ?_;rintro o ⟨Z', m', env', ph', a, b, c, d, e⟩;exact ⟨Z', m', env', ph', a, b, hf.step.trans c, (hf.kr _).trans d, e⟩
def SQ (P : Program) (G : Nat -> Bool) (rd : Bool) (nm : Nm) (y : Code) (Q : PQ) : PQ := fun e env ph => match e with
 | .normal => Runs P G rd nm y env ph Q
 | e => Q e env ph
theorem SQ.go {Q : PQ} (h : Runs P G rd nm y env ph Q) : SQ P G rd nm y Q .normal env ph := h
theorem SQ.rt {Q : PQ} (h : Q .ret env ph) : SQ P G rd nm y Q .ret env ph := h
theorem SQ.ex {Q : PQ} (h : Q (.exit id) env ph) : SQ P G rd nm y Q (.exit id) env ph := h
theorem Runs.seq {x : Code} {Q : PQ} (h : Runs P G rd nm x env ph (SQ P G rd nm y Q)) : Runs P G rd nm (.seq x y) env ph Q := by
 intro Z H m ienv hp hb he;refine .seqQ (h Z H m ienv hp hb he) ?_ ?_
 ·rintro o ⟨Z', m', env', ph', a, b, c, d, e⟩ hn;rw [hn] at e;refine (e Z' o.H m' o.env a (by rw [c.base]; exact Nat.le_trans hb c.size) b).mono ?_;rintro o2 ⟨Z2, m2, env2, ph2, a2, b2, c2, d2, e2⟩;exact ⟨Z2, m2, env2, ph2, a2, b2, c.trans c2, d.trans d2, e2⟩
 ·rintro o ⟨Z', m', env', ph', a, b, c, d, e⟩ hn;refine ⟨Z', m', env', ph', a, b, c, d, ?_⟩
  cases ho : o.e with
  | normal => exact absurd ho hn
  | exit id => rw [ho] at e; exact e
  | goto l => rw [ho] at e; exact e
  | ret => rw [ho] at e; exact e
theorem Runs.cond {v : Operand} {x y : Code} {env : List PV} {ph : PHp} {Q : PQ} {t : Bool} (hok : jJ G v = true) (hv : qP env v = fvv (.bool t)) (hx : t = true -> Runs P G rd nm x env ph Q) (hy : t = false -> Runs P G rd nm y env ph Q) : Runs P G rd nm (.cond v x y) env ph Q := by
 intro Z H m ienv hp hb he;have hr := qK he v;rw [hv] at hr;exact .cond hok (kC hr rfl) (fun ht => hx ht Z H m ienv hp hb he) (fun ht => hy ht Z H m ienv hp hb he)
theorem Runs.skip {env : List PV} {ph : PHp} {Q : PQ} (h : Q .normal env ph) : Runs P G rd nm .skip env ph Q :=
 fun Z H m ienv hp hb he => .skip ⟨Z, m, env, ph, hp, he, .refl _ _ _, .refl _ _, h⟩
theorem Runs.label {l : Nat} {env : List PV} {ph : PHp} {Q : PQ} (h : Q .normal env ph) : Runs P G rd nm (.label l) env ph Q :=
 fun Z H m ienv hp hb he => .label ⟨Z, m, env, ph, hp, he, .refl _ _ _, .refl _ _, h⟩
theorem Runs.ret {env : List PV} {ph : PHp} {Q : PQ} (h : Q .ret env ph) : Runs P G rd nm .ret env ph Q :=
 fun Z H m ienv hp hb he => .ret ⟨Z, m, env, ph, hp, he, .refl _ _ _, .refl _ _, h⟩
theorem Runs.exit {id : Nat} {env : List PV} {ph : PHp} {Q : PQ} (h : Q (.exit id) env ph) : Runs P G rd nm (.exit id) env ph Q :=
 fun Z H m ienv hp hb he => .exit ⟨Z, m, env, ph, hp, he, .refl _ _ _, .refl _ _, h⟩
def BQ (id : Nat) (Q : PQ) : PQ := fun e env ph => match e with
 | .exit i => if i = id then Q .normal env ph else Q (.exit i) env ph
 | e => Q e env ph
theorem BQ.go {Q : PQ} (h : Q .normal env ph) : BQ id Q .normal env ph := h
theorem BQ.rt {Q : PQ} (h : Q .ret env ph) : BQ id Q .ret env ph := h
theorem BQ.on {Q : PQ} (h : Q .normal env ph) : BQ id Q (.exit id) env ph := by unfold BQ; simp only [if_true]; exact h
theorem BQ.ex {i : Nat} {Q : PQ} (hne : i ≠ id) (h : Q (.exit i) env ph) : BQ id Q (.exit i) env ph := by unfold BQ; simp only [if_neg hne]; exact h
theorem Runs.block {id : Nat} {x : Code} {env : List PV} {ph : PHp} {Q : PQ} (h : Runs P G rd nm x env ph (BQ id Q)) : Runs P G rd nm (.block id x) env ph Q := by
 intro Z H m ienv hp hb he;refine .block ((h Z H m ienv hp hb he).mono ?_);rintro o ⟨Z', m', env', ph', a, b, c, d, e⟩;unfold dH;unfold BQ at e
 cases ho : o.e with
 | normal => rw [ho] at e; simp only; exact ⟨Z', m', env', ph', a, b, c, d, by rw [ho]; exact e⟩
 | goto l => rw [ho] at e; simp only; exact ⟨Z', m', env', ph', a, b, c, d, by rw [ho]; exact e⟩
 | ret => rw [ho] at e; simp only; exact ⟨Z', m', env', ph', a, b, c, d, by rw [ho]; exact e⟩
 | exit i =>
   rw [ho] at e;simp only at e ⊢;by_cases hi : i = id
   ·rw [if_pos hi] at e ⊢;exact ⟨Z', m', env', ph', a, b, c, d, e⟩
   ·rw [if_neg hi] at e ⊢;exact ⟨Z', m', env', ph', a, b, c, d, by rw [ho]; exact e⟩
def fF {σ ρ : Type} : Nat -> (σ -> Option (σ ⊕ ρ)) -> σ -> Option ρ
 | 0, _, _ => none
 | n + 1, f, s => match f s with
   | some (.inl s') => fF n f s'
   | some (.inr r) => some r
   | none => none
theorem qDF {σ ρ : Type} {f : σ -> Option (σ ⊕ ρ)} : ∀ {n : Nat} {s : σ} {r : ρ}, fF n f s = some r -> fF (n + 1) f s = some r
 | 0, _, _, h => by cases h
 | n + 1, s, r, h => by
   unfold fF at h ⊢
   cases hf : f s with
   | none => rw [hf] at h; cases h
   | some x =>
     rw [hf] at h
     cases x with
     | inl s' => exact qDF h
     | inr r => exact h
theorem qPI {σ ρ : Type} {f : σ -> Option (σ ⊕ ρ)} {s : σ} {r : ρ} (h : fF n f s = some r) (hk : n <= k) : fF k f s = some r := by
 induction hk with
 | refl => exact h
 | step _ ih => exact qDF ih
open Classical in
noncomputable def zC {σ ρ : Type} (f : σ -> Option (σ ⊕ ρ)) (s : σ) : Option ρ := if h : ∃ r n, fF n f s = some r then some (Classical.choose h) else none
theorem qEZ {σ ρ : Type} {f : σ -> Option (σ ⊕ ρ)} {s : σ} {r : ρ} (h : fF n f s = some r) : zC f s = some r := by
 have he : ∃ r n, fF n f s = some r := ⟨r, n, h⟩
 unfold zC;rw [dif_pos he];obtain ⟨k, hk⟩ := Classical.choose_spec he;have h1 := qPI h (Nat.le_max_left n k);have h2 := qPI hk (Nat.le_max_right n k);rw [h1] at h2;exact h2.symm
theorem aM {σ ρ : Type} {f : σ -> Option (σ ⊕ ρ)} {s : σ} {r : ρ} (h : zC f s = some r) : ∃ n, fF n f s = some r := by
 unfold zC at h;split at h
 ·rename_i he;cases h;exact Classical.choose_spec he
 ·cases h
theorem jY {σ ρ : Type} (f : σ -> Option (σ ⊕ ρ)) (s : σ) : zC f s = (match f s with
 | some (.inl s') => zC f s'
 | some (.inr r) => some r
 | none => none) := by
 cases hf : f s with
 | none =>
   cases hl : zC f s with
   | none => rfl
   | some r =>
     obtain ⟨n, hn⟩ := aM hl
     cases n with
     | zero => cases hn
     | succ n => unfold fF at hn; rw [hf] at hn; cases hn
 | some x =>
   cases x with
   | inr r => exact qEZ (n := 1) (by unfold fF; rw [hf])
   | inl s' =>
     simp only
     cases hl : zC f s' with
     | some r =>
       obtain ⟨n, hn⟩ := aM hl;exact qEZ (n := n + 1) (by unfold fF; rw [hf]; exact hn)
     | none =>
       cases hl2 : zC f s with
       | none => rfl
       | some r =>
         obtain ⟨n, hn⟩ := aM hl2
         cases n with
         | zero => cases hn
         | succ n => unfold fF at hn; rw [hf] at hn; rw [qEZ hn] at hl; cases hl
def RQ {σ ρ : Type} (E : σ -> List PV) (Ph : σ -> PHp) (id : Nat) (r : ρ) (Q : PQ) (x : σ ⊕ ρ) : PQ := fun e env ph => match x with
 | .inl s' => e = .normal ∧ WkP env (E s') ∧ rP (Ph s') ph
 | .inr r' => r' = r -> e ≠ .normal ∧ BQ id Q e env ph
theorem Runs.loop {σ ρ : Type} (E : σ -> List PV) (Ph : σ -> PHp) {step : σ -> Option (σ ⊕ ρ)} {s0 : σ} {r : ρ} (hr : zC step s0 = some r) {id : Nat} {x : Code} {env : List PV} {ph : PHp} {Q : PQ} (hw : WkP env (E s0)) (hs : rP (Ph s0) ph)
 (hx : ∀ s y, step s = some y -> Runs P G rd nm x (E s) (Ph s) (RQ E Ph id r Q y)) : Runs P G rd nm (.block id (.loop x)) env ph Q := by
 obtain ⟨n, hn⟩ := aM hr;refine .pre hw hs (.block ?_);intro Z H m ienv hp hb he;refine .loop (fun n ienv1 H1 => ∃ s Z1 m1, fF n step s = some r ∧ Hp P Z1 H1 (own m1 (Ph s)) ∧ VRL P Z1 H1 (own m1 (Ph s)) (E s) ienv1 ∧ Step Z H (own m (Ph s0)) Z1 H1 (own m1 (Ph s)) ∧ KR (inP nm) (own m (Ph s0)) (own m1 (Ph s))) ?_ (n := n) ⟨s0, Z, m, hn, hp, he, .refl _ _ _, .refl _ _⟩;rintro n1 ienv1 H1 ⟨s, Z1, m1, q1, q2, q3, q4, q5⟩
 cases n1 with
 | zero => cases q1
 | succ n1 =>
   unfold fF at q1
   cases hf : step s with
   | none => rw [hf] at q1; cases q1
   | some y =>
     rw [hf] at q1;refine (hx s y hf Z1 H1 m1 ienv1 q2 (by rw [q4.base]; exact Nat.le_trans hb q4.size) q3).mono ?_;rintro o ⟨Z2, m2, env2, ph2, a, b, c, d, e⟩
     cases y with
     | inl s' =>
       obtain ⟨e1, e2, e3⟩ := e;rw [e1];simp only;have hfz := Fz.drop a e3;exact ⟨n1, Nat.lt_succ_self _, s', Z2, m2, q1, hfz.hp, e2.rel (hfz.vrl b), (q4.trans c).trans hfz.step, (q5.trans d).trans (hfz.kr _)⟩
     | inr r' =>
       simp only [Option.some.injEq] at q1;subst q1;obtain ⟨e1, e2⟩ := e rfl
       cases ho : o.e with
       | normal => exact absurd ho e1
       | exit i => simp only; exact ⟨Z2, m2, env2, ph2, a, b, q4.trans c, q5.trans d, by rw [ho] at e2; exact e2⟩
       | goto l => simp only; exact ⟨Z2, m2, env2, ph2, a, b, q4.trans c, q5.trans d, by rw [ho] at e2; exact e2⟩
       | ret => simp only; exact ⟨Z2, m2, env2, ph2, a, b, q4.trans c, q5.trans d, by rw [ho] at e2; exact e2⟩
theorem PSet.reg (s : PSet P good nat G tab) {Q : PQ} (hok : kW G ops = true) (hds : ops.toList.map (·.dst) = ds)
 (h : (pops P tab inl nm ds ops.toList env ph).holds P G fun e p => Q .normal e p) : Runs P G rd nm (.region id ops false) env ph Q := by
 intro Z H m ienv hp hb he B F f a w hF hr hR hG henv hm;subst hds;refine wpIn_region_list (pI hF s.s.spec s.t ops.toList env ph Z H m ienv f a w hR hG henv hm (fun o ho => List.all_eq_true.1 (jT hG hok) o (by simpa using ho)) hp hb he h ?_);intro env' ph' Z' H' m' ienv' f' a' w' q1 q2 q3 q4 q5 q6 q7 q8 q9;exact ⟨⟨.normal, ienv', H'⟩, f', ⟨Z', m', env', ph', q6, q7, q8, q9, q1⟩, rfl, q2, q3, q4, q5⟩
theorem PSet.regS (s : PSet P good nat G tab) {Q : PQ} (hok : kW G ops = true) (hds : ops.toList.map (·.dst) = ds)
 (h : (pops P tab inl nm ds ops.toList env ph).holds P G fun e p => Runs P G rd nm y e p Q) : Runs P G rd nm (.seq (.region id ops false) y) env ph Q :=
 .seq (s.reg hok hds h)
end Go.Idl
namespace Go.Idl
variable [Gc]
variable {P : Program} {G : Nat -> Bool} {nat : xJ} {tab : fT} {nm : Nm} {good : FuncId -> Bool} {Z : Nat -> Prop} {H : IH} {M : Nat -> Option (Nat × PO)}
variable {env xs : List PV} {g : FuncId} {ienv : Env} {m : Nat -> Nat} {ph : PHp} {v : Value} {vs : List Value} {x y : PV}
theorem FR.inter {Z0 : Nat -> Prop} {x : FV} (h0 : FR Z0 H x v) : ∀ {S : (Nat -> Prop) -> Prop}, (∀ Z, S Z -> FR Z H x v) -> FR (fun b => ∀ Z, S Z -> Z b) H x v := by
 induction h0 with
 | v hp h1 => exact fun _ => .v hp h1
 | nil h0 hs => exact fun _ => .nil h0 hs
 | @l el n cs b o sp c vs hz hb hn hs hl hc ih =>
   intro S hS;by_cases he : cs = [] ∧ n = 0
   ·obtain ⟨rfl, rfl⟩ := he;exact .nil (fun h => by cases h) (fun x h => by cases h; exact hs)
   ·refine .l (fun Z hZ => ?_) hb hn hs hl fun i x v h1 h2 => ih i x v h1 h2 fun Z hZ => ?_
    ·cases hS Z hZ with
     | nil => exact absurd ⟨rfl, rfl⟩ he
     | l hz => exact hz
    ·cases hS Z hZ with
     | nil => simp at h1
     | l _ _ _ _ hl' hc' =>
       rw [hl] at hl'; cases hl';exact hc' i x v h1 h2
theorem VR.inter {Z0 : Nat -> Prop} {x : PV} {v : Value} (h0 : VR P Z0 H (fun _ => none) x v) : ∀ {S : (Nat -> Prop) -> Prop}, (∀ Z, S Z -> VR P Z H (fun _ => none) x v) -> VR P (fun b => ∀ Z, S Z -> Z b) H (fun _ => none) x v := by
 induction h0 with
 | f h => exact fun hS => .f (h.inter fun Z hZ => by cases hS Z hZ with | f h => exact h)
 | agg hl hc ih => exact fun hS => .agg hl fun i x v h1 h2 => ih i x v h1 h2 fun Z hZ => by cases hS Z hZ with | agg _ hc' => exact hc' i x v h1 h2
 | tup hl hc ih => exact fun hS => .tup hl fun i x v h1 h2 => ih i x v h1 h2 fun Z hZ => by cases hS Z hZ with | tup _ hc' => exact hc' i x v h1 h2
 | own h1 h => exact fun _ => .own h1 fun b ob hM => by cases hM
 | ref h1 h => exact fun _ => .ref h1 fun b ob hM => by cases hM
 | mp h1 h => exact fun _ => .mp h1 fun b ob hM => by cases hM
 | @lp cs off b o vs hz hb hl hc =>
   intro S hS
   have key : ∀ Z, S Z -> ∃ b' o' vs', b' = b ∧ o' = o ∧ Z b' ∧ H.loads b' o' cs.length = some vs' ∧ ∀ (i : Nat) x v, cs[i]? = some x -> vs'[i]? = some v -> FR Z H x v := fun Z hZ => by
    generalize hq : (Value.pointer (some ⟨b, o + off, none⟩)) = q at hS;have h := hS Z hZ
    cases h with
    | lp hz' hb' hl' hc' =>
      simp only [Value.pointer.injEq, Option.some.injEq, Addr.mk.injEq, and_true] at hq;obtain ⟨rfl, hq⟩ := hq;exact ⟨_, _, _, rfl, by omega, hz', hl', hc'⟩
   refine .lp (fun Z hZ => ?_) hb hl fun i x v h1 h2 => (hc i x v h1 h2).inter fun Z hZ => ?_
   ·obtain ⟨b', o', vs', rfl, rfl, q, _⟩ := key Z hZ; exact q
   ·obtain ⟨b', o', vs', rfl, rfl, _, q2, q3⟩ := key Z hZ;rw [hl] at q2; cases q2;exact q3 i x v h1 h2
 | fn hf hc hfc hcc i1 i2 => exact fun hS => .fn hf hc (fun i x v h1 h2 => i1 i x v h1 h2 fun Z hZ => by cases hS Z hZ with | fn _ _ q _ => exact q i x v h1 h2) (fun i x v h1 h2 => i2 i x v h1 h2 fun Z hZ => by cases hS Z hZ with | fn _ _ _ q => exact q i x v h1 h2)
 | yl => exact fun _ => .yl
 | unk => exact fun _ => .unk
def q3D (P : Program) (H : IH) (xs : List PV) (vs : List Value) : Nat -> Prop := fun b => ∀ Z, VRL P Z H (fun _ => none) xs vs -> Z b
theorem q4S (h : VRL P Z H (fun _ => none) xs vs) : VRL P (q3D P H xs vs) H (fun _ => none) xs vs :=
 ⟨h.len, fun i x v h1 h2 => (h.val i x v h1 h2).inter (S := fun Z => VRL P Z H (fun _ => none) xs vs) fun Z hZ => hZ.val i x v h1 h2⟩
theorem qSS (h : VRL P Z H (fun _ => none) xs vs) {b : Nat} (hb : q3D P H xs vs b) : Z b := hb Z h
noncomputable def qY4 (P : Program) (env : List PV) (ph : PHp) : ResultVar -> Option PV
 | .tmp t => some ((z8 env t).getD .unk)
 | .cell a t => nE P t ((z8 env a).getD .unk) ph
noncomputable def qFP (P : Program) (env : List PV) (ph : PHp) : List ResultVar -> Option (List PV)
 | [] => some []
 | r :: l => match qY4 P env ph r with
   | some v => (match qFP P env ph l with
     | some vs => some (v :: vs)
     | none => none)
   | none => none
def qCX : List PV -> PV
 | [v] => v
 | vs => .tup vs
noncomputable def gH (P : Program) (fn : Func) (env : List PV) (ph : PHp) : Option PV := (qFP P env ph fn.results.toList).map fun xs => qCX (rtL (rt1 P) fn.resultTypes.toList xs)
theorem qZ3 {r : ResultVar} (hp : Hp P Z H (own m ph)) (he : VRL P Z H (own m ph) env ienv) (h : qY4 P env ph r = some x) : ∃ v, qR9 P ienv H r = some v ∧ VR P Z H (own m ph) x v := by
 cases r with
 | tmp t => cases h; exact ⟨_, rfl, qK he (.tmp t)⟩
 | cell a t => exact qPF hp (qK he (.tmp a)) h
theorem qN5 {m : Nat -> Nat} {ph : PHp} {env : List PV} {ienv : Env} (hp : Hp P Z H (own m ph)) (he : VRL P Z H (own m ph) env ienv) : ∀ {l : List ResultVar} {xs : List PV}, qFP P env ph l = some xs -> ∃ vs, qJ3 P ienv H l = some vs ∧ VRL P Z H (own m ph) xs vs
 | [], xs, h => by cases h; exact ⟨[], rfl, .nil⟩
 | r :: l, xs, h => by
   unfold qFP at h;split at h
   ·rename_i x hx;split at h
    ·rename_i xs' hxs;cases h;obtain ⟨v, h1, h2⟩ := qZ3 hp he hx;obtain ⟨vs, h3, h4⟩ := qN5 hp he hxs;exact ⟨v :: vs, by unfold qJ3; rw [h1, h3], .cons h2 h4⟩
    ·cases h
   ·cases h
theorem qA0 {fn : Func} (hp : Hp P Z H (own m ph)) (he : VRL P Z H (own m ph) env ienv) (h : gH P fn env ph = some x) : ∃ v, yE P fn ienv H = some v ∧ VR P Z H (own m ph) x v := by
 unfold gH at h;obtain ⟨xs, h1, rfl⟩ := Option.map_eq_some_iff.1 h;obtain ⟨vs, h2, h3⟩ := qN5 hp he h1
 replace h3 := qDI (f := rt1 P) (ts := fn.resultTypes.toList) (fun t x v h => qJG h) h3
 revert h3
 generalize rtL (rt1 P) fn.resultTypes.toList xs = xs;intro h3;refine ⟨one vs, by unfold yE; rw [h2]; rfl, ?_⟩
 match xs, h3 with
 | [], h3 => rw [h3.nil_left]; exact VRL.tup' (vs := #[]) .nil
 | [x], h3 =>
   obtain ⟨v, vs', rfl, a, b⟩ := h3.uncons;rw [b.nil_left]; exact a
 | x :: y :: l, h3 =>
   obtain ⟨v, vs', rfl, a, b⟩ := h3.uncons;obtain ⟨v2, vs2, rfl, a2, b2⟩ := b.uncons;exact VRL.tup' (vs := (v :: v2 :: vs2).toArray) (by simpa using VRL.cons a (VRL.cons a2 b2))
noncomputable def fzR (P : Program) (ph : PHp) : PV -> Option PV
 | .tup xs => (match fzA P xs ph with
   | some (ys, _) => some (.tup ys)
   | none => none)
 | x => (match fzP P ph x with
   | some (y, _) => some y
   | none => none)
theorem q7U (hp : Hp P Z H (own m ph)) (hx : VR P Z H (own m ph) x v) (h : fzR P ph x = some y) : ∃ Z' ph', Fz P Z H m ph Z' ph' ∧ VR P Z' H (fun _ => none) y v := by
 unfold fzR at h;split at h
 ·split at h
  ·rename_i ys ph' hf;cases h;obtain ⟨vs, rfl, hr⟩ := hx.tupL;obtain ⟨Z', h1, h2⟩ := qON hp hr hf;exact ⟨Z', ph', h1, h2.tup'⟩
  ·cases h
 ·split at h
  ·rename_i y' ph' hf;cases h;obtain ⟨Z', h1, h2⟩ := qI3 hp hx hf;exact ⟨Z', ph', h1, h2⟩
  ·cases h
structure PEn (α : Type) where
 p : α -> PV
 inj : ∀ x y, p x = p y -> x = y
 uniq : ∀ (P : Program) (Z Z' : Nat -> Prop) (H : IH) (x y : α) (v : Value), VR P Z H (fun _ => none) (p x) v -> VR P Z' H (fun _ => none) (p y) v -> x = y
structure AEn (α : Type) where
 p : α -> List PV
 inj : ∀ x y, p x = p y -> x = y
 uniq : ∀ (P : Program) (Z Z' : Nat -> Prop) (H : IH) (x y : α) (vs : List Value), VRL P Z H (fun _ => none) (p x) vs -> VRL P Z' H (fun _ => none) (p y) vs -> x = y
def AEn.nil : AEn Unit := ⟨fun _ => [], fun _ _ _ => rfl, fun _ _ _ _ _ _ _ _ _ => rfl⟩
def AEn.cons {α β : Type} (a : PEn α) (b : AEn β) : AEn (α × β) := ⟨fun x => a.p x.1 :: b.p x.2, fun x y h => by
 simp only [List.cons.injEq] at h
 exact Prod.ext (a.inj _ _ h.1) (b.inj _ _ h.2), fun P Z Z' H x y vs h1 h2 => by
 obtain ⟨v, vs', rfl, a1, b1⟩ := h1.uncons;obtain ⟨v', vs2, e, a2, b2⟩ := h2.uncons;simp only [List.cons.injEq] at e;obtain ⟨rfl, rfl⟩ := e
 exact Prod.ext (a.uniq P Z Z' H _ _ _ a1 a2) (b.uniq P Z Z' H _ _ _ b1 b2)⟩
open Classical in
noncomputable def ofF {α β : Type} (a : AEn α) (F : α -> Option β) (r : β -> PV) (xs : List PV) : Option PV :=
 if h : ∃ x, xs = a.p x then (F (Classical.choose h)).map r else none
theorem q1E {α β : Type} {a : AEn α} {F : α -> Option β} {r : β -> PV} (x : α) : ofF a F r (a.p x) = (F x).map r := by
 have h : ∃ y, a.p x = a.p y := ⟨x, rfl⟩
 unfold ofF;rw [dif_pos h];rw [<- a.inj _ _ (Classical.choose_spec h)]
theorem q5A {α β : Type} {a : AEn α} {F : α -> Option β} {r : β -> PV} (h : ofF a F r xs = some y) : ∃ x z, xs = a.p x ∧ F x = some z ∧ y = r z := by
 unfold ofF at h;split at h
 ·rename_i he;obtain ⟨z, h1, h2⟩ := Option.map_eq_some_iff.1 h;exact ⟨_, z, Classical.choose_spec he, h1, h2.symm⟩
 ·cases h
def q7O (tab : fT) (g : FuncId) (F : List PV -> Option PV) : fT := fun x xs => cond (Nat.beq x g) (F xs) (tab x xs)
def q6A {α β : Type} (P : Program) (a : AEn α) (F : α -> Option β) (x : α) (args : List Value) (H : IH) : Prop := (∃ Z : Nat -> Prop, VRL P Z H (fun _ => none) (a.p x) args ∧ ∀ b, Z b -> b < H.size) ∧ H.base <= H.size ∧ GlH H ∧ ∃ y, F x = some y
def qZ2 {α β : Type} (P : Program) (a : AEn α) (F : α -> Option β) (r : β -> PV) (x : α) (args : List Value) (H : IH) (v : Value) (H' : IH) : Prop := Old H H' ∧ ∃ y, F x = some y ∧ ∃ Z' : Nat -> Prop, (∀ b, Z' b -> b < H'.size) ∧ (∀ b, Z' b -> b < H.size -> q3D P H (a.p x) args b ∨ q6M b) ∧ VR P Z' H' (fun _ => none) (r y) v
def zA3 {α β : Type} (P : Program) (G : Nat -> Bool) (g : FuncId) (nm : Nm) (a : AEn α) (F : α -> Option β) (r : β -> PV) : Prop :=
 ∃ fn c, P.funcs[g]? = some fn ∧ fn.body = some c ∧ ∀ x y, F x = some y -> ∃ N, fn.ntmps = N ∧ Runs P G false nm c (a.p x ++ List.replicate (N - (a.p x).length) .unk) [] fun e env ph => (e = .normal ∨ e = .ret) ∧ ∃ r0, gH P fn env ph = some r0 ∧ fzR P ph r0 = some (r y)
theorem PSet.addCall {α β : Type} (s : PSet P good nat G tab) (a : AEn α) (F : α -> Option β) (r : β -> PV) (hent : enters P g = true) (hfr : ∀ y, q4T (r y) = true)
 (h : ∀ (x : α) (y : β) (args : List Value) (H : IH), F x = some y -> (∃ Z : Nat -> Prop, VRL P Z H (fun _ => none) (a.p x) args ∧ ∀ b, Z b -> b < H.size) -> H.base <= H.size -> GlH H -> gI P G g args H fun q => qZ2 P a F r x args H q.1 q.2) :
 PSet P good (addS nat g (fun (x : α × List Value) args H => x.2 = args ∧ q6A P a F x.1 args H) (fun x H v H' => qZ2 P a F r x.1 x.2 H v H')) G (q7O tab g (ofF a F r)) := by
 have uniq : ∀ (x y : α × List Value) (args : List Value) (H : IH), (x.2 = args ∧ q6A P a F x.1 args H) -> (y.2 = args ∧ q6A P a F y.1 args H) -> x = y := by
  rintro ⟨x, as⟩ ⟨y, bs⟩ args H ⟨e1, ⟨Z1, h1, _⟩, _⟩ ⟨e2, ⟨Z2, h2, _⟩, _⟩;simp only at e1 e2 h1 h2;subst e1 e2;rw [a.uniq P Z1 Z2 H x y _ h1 h2]
 refine ⟨s.s.addS _ _ ?_, ?_⟩
 ·rintro ⟨x, as⟩ args H ⟨e1, ⟨Z0, h0, hz0⟩, hb, hgl, y, hy⟩;simp only at e1 h0 hy;subst e1;exact h x y as H hy ⟨Z0, h0, hz0⟩ hb hgl
 ·intro g' pargs r' ht;unfold q7O at ht
  cases hg : Nat.beq g' g with
  | false =>
    rw [hg] at ht;obtain ⟨t1, t2, k, t3, t4⟩ := s.t g' pargs r' ht;refine ⟨t1, t2, k, ?_, t4⟩;unfold addS; rw [hg]; exact t3
  | true =>
    rw [hg] at ht;have hg' : g' = g := Nat.eq_of_beq_eq_true hg;subst hg';obtain ⟨x, y, rfl, hF, rfl⟩ := q5A ht;refine ⟨hent, hfr y, _, by unfold addS; rw [hg]; rfl, ?_⟩;intro Z H args hv hz hb hgl Q hQ
    have hpre : (fun (x : α × List Value) args H => x.2 = args ∧ q6A P a F x.1 args H) (x, args) args H := ⟨rfl, ⟨Z, hv, hz⟩, hb, hgl.h hz, y, hF⟩
    rw [q1I uniq hpre];rintro ⟨v, H'⟩ ⟨o1, y', hy', Z', o2, o3, o4⟩;simp only at hy' o4;rw [hF] at hy'; cases hy';refine hQ v H' (fun b => Z b ∨ Z' b) o1 (fun b h => .inl h) ?_ ?_ ?_
    ·rintro b (h | h)
     ·exact Nat.lt_of_lt_of_le (hz b h) o1.size
     ·exact o2 b h
    ·rintro b (h | h) hlt
     ·exact h
     ·rcases o3 b h hlt with q | ⟨o, q⟩
      ·exact qSS hv q
      ·exact (hgl b o q).1
    ·exact o4.mono (p := fun _ => false) (fun _ h => .inr h) (Nat.le_refl _) (fun _ _ _ => rfl) (.refl _ _) fun j hj => by cases hj
theorem PSet.add {α β : Type} (s : PSet P good nat G tab) {nm : Nm} (a : AEn α) (F : α -> Option β) (r : β -> PV) (hent : enters P g = true) (hfr : ∀ y, q4T (r y) = true) (h : zA3 P G g nm a F r) :
 PSet P good (addS nat g (fun (x : α × List Value) args H => x.2 = args ∧ q6A P a F x.1 args H) (fun x H v H' => qZ2 P a F r x.1 x.2 H v H')) G (q7O tab g (ofF a F r)) :=
 s.addCall a F r hent hfr fun x y as H hy ⟨Z0, h0, hz0⟩ hb hgl => by
  obtain ⟨fn, c, q1, q2, q3⟩ := h;obtain ⟨N, hN, hrun⟩ := q3 x y hy;have hf := (q4S h0).mono (p := fun _ => false) (Z' := fun b => q3D P H (a.p x) as b ∨ q6M b) (fun _ h => .inl h) (Nat.le_refl _) (fun _ _ _ => rfl) (.refl _ _) (fun j hj => by cases hj)
  have hflt : ∀ b, q3D P H (a.p x) as b ∨ q6M b -> b < H.size := fun b hb => by
   rcases hb with hb | ⟨o, hb⟩
   ·exact hz0 b (qSS h0 hb)
   ·exact (hgl b o hb).1
  refine gI.of q1 q2 hN ?_
  have hp0 : Hp P (fun b => q3D P H (a.p x) as b ∨ q6M b) H (own (fun _ => 0) []) := ⟨hflt, fun k b ob hk => (by cases hk), fun k k' b b' ob ob' hk => (by cases hk), fun g o hg => ⟨.inr ⟨o, hg⟩, (hgl g o hg).2⟩⟩
  have e0 : own (fun _ => 0) [] = fun _ => none := rfl
  have hlen := h0.len
  have henv : VRL P (fun b => q3D P H (a.p x) as b ∨ q6M b) H (own (fun _ => 0) []) (a.p x ++ List.replicate (N - (a.p x).length) .unk) (as ++ List.replicate (N - as.length) undef) := by
   rw [hlen];refine VRL.append hf ⟨by simp, fun i z v h1 h2 => ?_⟩;rw [List.getElem?_replicate] at h1;split at h1
   ·cases h1; exact .unk
   ·cases h1
  refine (hrun _ H _ _ hp0 hb henv).mono ?_;rintro o ⟨Z', m', env', ph', a1, b1, c1, d1, he, r0, hr0, hfz⟩;refine ⟨he, ?_⟩;obtain ⟨v, v1, v2⟩ := qA0 a1 b1 hr0;obtain ⟨Z2, ph2, w1, w2⟩ := q7U a1 v2 hfz;have noO : ∀ b, ¬ cO (own (fun _ => 0) []) b := fun b ⟨k, ob, hk, _⟩ => by cases hk
  refine ⟨v, v1, ⟨c1.size, c1.base, fun b hb => c1.keep b hb (noO b)⟩, y, hy, Z2, w1.hp.zlt, fun b hb hlt => ?_, w2⟩;rcases w1.znew b hb with h | h
  ·rcases c1.znew b h hlt with h | h
   ·exact h
   ·exact absurd h (noO b)
  ·exact absurd (c1.onew b h hlt) (noO b)
end Go.Idl
namespace Go.Idl
variable [Gc]
variable {P : Program} {G : Nat -> Bool} {nat : xJ} {tab : fT} {inl : FuncId -> Bool} {nm : Nm} {good : FuncId -> Bool} {Z : Nat -> Prop} {H : IH} {M : Nat -> Option (Nat × PO)}
variable {args : List PV} {c : Int} {ph' : PHp} {v : Value} {w : Bool} {ws : List Value} {xs : List FV}
structure C1 (α : Type) where
 f : α -> FV
 inj : ∀ x y, f x = f y -> x = y
 uniq : ∀ (Z Z' : Nat -> Prop) (H : IH) (x y : α) (v : Value), FR Z H (f x) v -> FR Z' H (f y) v -> x = y
structure CN (α : Type) where
 f : α -> List FV
 k : Nat
 len : ∀ x, (f x).length = k
 inj : ∀ x y, f x = f y -> x = y
 uniq : ∀ (Z Z' : Nat -> Prop) (H : IH) (x y : α) (vs : List Value), FRL Z H (f x) vs -> FRL Z' H (f y) vs -> x = y
theorem qRP {x : Value} (h : FR Z H (.v x) v) : v = x := by cases h; rfl
def C1.plain {α : Type} (g : α -> Value) (hi : ∀ x y, g x = g y -> x = y) : C1 α := ⟨fun x => .v (g x), fun x y h => hi x y (by injection h), fun Z Z' H x y v a b => hi x y ((qRP a).symm.trans (qRP b))⟩
def C1.int (k : IntKind) : C1 Int := .plain (fun z => .int k z) fun x y h => by injection h
def C1.bool : C1 Bool := .plain (fun z => .bool z) fun x y h => by injection h
theorem FRL.uncons {x : FV} (h : FRL Z H (x :: xs) ws) : ∃ v vs, ws = v :: vs ∧ FR Z H x v ∧ FRL Z H xs vs := by
 cases ws with
 | nil => have := h.len; simp at this
 | cons v vs => exact ⟨v, vs, rfl, h.val 0 x v rfl rfl, by have := h.len; simpa using this, fun i y u h1 h2 => h.val (i + 1) y u (by simpa using h1) (by simpa using h2)⟩
theorem FRL.split {ys : List FV} (h : FRL Z H (xs ++ ys) ws) : FRL Z H xs (ws.take xs.length) ∧ FRL Z H ys (ws.drop xs.length) := by
 have hl := h.len;rw [List.length_append] at hl;refine ⟨⟨by simp; omega, fun i x v h1 h2 => ?_⟩, ⟨by simp; omega, fun i x v h1 h2 => ?_⟩⟩
 ·have hi := (List.getElem?_eq_some_iff.1 h1).1;rw [List.getElem?_take, if_pos hi] at h2;exact h.val i x v (by rw [List.getElem?_append_left hi]; exact h1) h2
 ·rw [List.getElem?_drop] at h2;exact h.val (xs.length + i) x v (by rw [List.getElem?_append_right (by omega)]; simpa using h1) h2
theorem qOD {α : Type} (c : C1 α) {Z' : Nat -> Prop} : ∀ (xs ys : List α) (vs : List Value), FRL Z H (xs.map c.f) vs -> FRL Z' H (ys.map c.f) vs -> xs = ys
 | [], [], _, _, _ => rfl
 | [], y :: ys, vs, a, b => by have h1 := a.len; have h2 := b.len; simp at h1 h2; omega
 | x :: xs, [], vs, a, b => by have h1 := a.len; have h2 := b.len; simp at h1 h2; omega
 | x :: xs, y :: ys, vs, a, b => by
   obtain ⟨v, vs', rfl, a1, a2⟩ := a.uncons;obtain ⟨v', vs2, e, b1, b2⟩ := b.uncons;simp only [List.cons.injEq] at e;obtain ⟨rfl, rfl⟩ := e;rw [c.uniq _ _ H x y _ a1 b1, qOD c xs ys _ a2 b2]
theorem map_inj {α : Type} (c : C1 α) : ∀ (xs ys : List α), xs.map c.f = ys.map c.f -> xs = ys
 | [], [], _ => rfl
 | [], y :: ys, h => by cases h
 | x :: xs, [], h => by cases h
 | x :: xs, y :: ys, h => by
   simp only [List.map_cons, List.cons.injEq] at h;rw [c.inj x y h.1, map_inj c xs ys h.2]
theorem qBC {el n n' : Nat} {cs cs' : List FV} {Z' : Nat -> Prop} (a : FR Z H (.l el n cs) v) (b : FR Z' H (.l el n' cs') v) : n = n' ∧ ∃ vs vs', FRL Z H cs vs ∧ FRL Z' H cs' vs' ∧ (cs.length = cs'.length -> vs = vs') := by
 cases a with
 | nil h0 hs =>
   cases b with
   | nil => exact ⟨rfl, [], [], ⟨rfl, fun i x v h => by simp at h⟩, ⟨rfl, fun i x v h => by simp at h⟩, fun _ => rfl⟩
   | l hz hb hn hs' hl hc => exact ⟨rfl, [], _, ⟨rfl, fun i x v h => by simp at h⟩, ⟨(xN hl).symm, hc⟩, fun e => by
      have := xN hl;rw [<- e] at this
      exact (List.length_eq_zero_iff.1 this).symm⟩
 | l hz hb hn hs hl hc =>
   cases b with
   | nil => exact ⟨rfl, _, [], ⟨(xN hl).symm, hc⟩, ⟨rfl, fun i x v h => by simp at h⟩, fun e => by
      have := xN hl;rw [e] at this
      exact List.length_eq_zero_iff.1 this⟩
   | l hz' hb' hn' hs' hl' hc' => exact ⟨rfl, _, _, ⟨(xN hl).symm, hc⟩, ⟨(xN hl').symm, hc'⟩, fun e => by
      rw [e] at hl;rw [hl] at hl'
      exact Option.some.inj hl'⟩
def C1.list {α : Type} (el : TypeId) (c : C1 α) : C1 (List α) := ⟨fun xs => .l el xs.length (xs.map c.f), fun xs ys h => map_inj c xs ys (by injection h), fun Z Z' H xs ys v a b => by
 obtain ⟨h1, vs, vs', h2, h3, h4⟩ := qBC a b;have := h4 (by simp [h1]);subst this
 exact qOD c xs ys _ h2 h3⟩
def CN.one {α : Type} (c : C1 α) : CN α := ⟨fun x => [c.f x], 1, fun _ => rfl, fun x y h => c.inj x y (by injection h), fun Z Z' H x y vs a b => by
 obtain ⟨v, vs', rfl, a1, _⟩ := a.uncons;obtain ⟨v', vs2, e, b1, _⟩ := b.uncons;simp only [List.cons.injEq] at e;obtain ⟨rfl, rfl⟩ := e
 exact c.uniq _ _ H x y _ a1 b1⟩
def CN.pair {α β : Type} (a : CN α) (b : CN β) : CN (α × β) := ⟨fun x => a.f x.1 ++ b.f x.2, a.k + b.k, fun x => by simp [a.len, b.len], fun x y h => by
 have := List.append_inj h (by rw [a.len, a.len])
 exact Prod.ext (a.inj _ _ this.1) (b.inj _ _ this.2), fun Z Z' H x y vs h1 h2 => by
 obtain ⟨a1, a2⟩ := h1.split;obtain ⟨b1, b2⟩ := h2.split;rw [a.len] at a1 a2 b1 b2
 exact Prod.ext (a.uniq _ _ H _ _ _ a1 b1) (b.uniq _ _ H _ _ _ a2 b2)⟩
def PEn.one {α : Type} (c : C1 α) : PEn α := ⟨fun x => .f (c.f x), fun x y h => c.inj x y (by injection h), fun P Z Z' H x y v a b => by
 cases a with
 | f a => cases b with
   | f b => exact c.uniq _ _ H x y v a b⟩
theorem q17 : ∀ (l m : List FV), l.map PV.f = m.map PV.f -> l = m
 | [], [], _ => rfl
 | [], y :: m, h => by cases h
 | x :: l, [], h => by cases h
 | x :: l, y :: m, h => by
   simp only [List.map_cons, List.cons.injEq, PV.f.injEq] at h;rw [h.1, q17 l m h.2]
theorem qA5 {vs : List Value} (h : VRL P Z H M (xs.map .f) vs) : FRL Z H xs vs := ⟨by simpa using h.len, fun i x v h1 h2 => by
 have := h.val i (.f x) v (by simp [h1]) h2
 cases this with
 | f h => exact h⟩
def PEn.agg {α : Type} (c : CN α) : PEn α := ⟨fun x => .agg ((c.f x).map .f), fun x y h => c.inj x y (q17 _ _ (by injection h)), fun P Z Z' H x y v a b => by
 obtain ⟨vs, rfl, h1⟩ := a.aggL;obtain ⟨vs', e, h2⟩ := b.aggL;cases e
 exact c.uniq _ _ H x y _ (qA5 h1) (qA5 h2)⟩
section
variable {ds : List (Option Tmp)} {o : Oper} {l : List Oper} {env : List PV} {ph : PHp}
noncomputable def qQZ (P : Program) (tab : fT) (inl : FuncId -> Bool) (nm : Nm) (ds : List (Option Tmp)) (o : Oper) (l : List Oper) (env : List PV) (ph : PHp) : PE -> PT
 | .fail => .fail
 | .ok v ph' => q31 (needs o.op) (zQ nm o.dst) nm env ph (pops P tab inl nm ds l (xE env o.dst v) ph')
 | .call g args ph' => .call (qSA nm g) g args ph' fun v ph2 => .chk (clean (qSA nm g).p env ph2) (pops P tab inl nm ds l (xE env o.dst v) ph2)
 | .rnd x args ph' => .rnd x args ph' fun v ph2 => pops P tab inl nm ds l (xE env o.dst v) ph2
noncomputable def pgo (P : Program) (tab : fT) (inl : FuncId -> Bool) (nm : Nm) (ds : List (Option Tmp)) (o : Oper) (l : List Oper) (env : List PV) (ph : PHp) (c : Option Bool) : PT :=
 j5 c (qQZ P tab inl nm ds o l env ph (fI P tab inl (zQ nm o.dst) o env ph)) (pops P tab inl nm ds l (xE env o.dst (.tup [])) ph) .fail
theorem qT9 : pops P tab inl nm ds (o :: l) env ph = pgo P tab inl nm ds o l env ph (cK ds o env) := by
 unfold pops pgo qQZ;cases fI P tab inl (zQ nm o.dst) o env ph <;> rfl
theorem q0E : pgo P tab inl nm ds o l env ph (some true) = qQZ P tab inl nm ds o l env ph (fI P tab inl (zQ nm o.dst) o env ph) := Eq.trans rfl rfl
theorem qW2 : pgo P tab inl nm ds o l env ph (some false) = pops P tab inl nm ds l (xE env o.dst (.tup [])) ph := Eq.trans rfl rfl
theorem qN7 {v : PV} : qQZ P tab inl nm ds o l env ph (.ok v ph') = q31 (needs o.op) (zQ nm o.dst) nm env ph (pops P tab inl nm ds l (xE env o.dst v) ph') := Eq.trans rfl rfl
theorem qQ1 {g : FuncId} : qQZ P tab inl nm ds o l env ph (.call g args ph') = .call (qSA nm g) g args ph' fun v ph2 => .chk (clean (qSA nm g).p env ph2) (pops P tab inl nm ds l (xE env o.dst v) ph2) := Eq.trans rfl rfl
theorem qSJ {x : Nat} : qQZ P tab inl nm ds o l env ph (.rnd x args ph') = .rnd x args ph' fun v ph2 => pops P tab inl nm ds l (xE env o.dst v) ph2 := Eq.trans rfl rfl
noncomputable def qNU (w : Bool) : Option PV -> Option Bool
 | some v => qM0 w v
 | none => none
theorem qKN {t : Tmp} : qM1 w env (some t) = qNU w (z8 env t) := by
 show (match z8 env t with | some v => qM0 w v | none => none) = qNU w (z8 env t);cases z8 env t <;> rfl
theorem qBD {b : Bool} : qNU w (some (fvv (.bool b))) = some (b == w) := rfl
theorem qRF : qNU w (some (.tup [])) = some false := rfl
theorem qAF (n : Nat) : Nat.beq n n = true := by simp
end
section
variable {t t2 : TypeId} {k : IntKind} {a b : Int} {ph : PHp}
theorem fH {op : BinOp} (h : dF op k a b = some v) (hv : ofC v = fvv v) : gF P op t t2 (fvv (.int k a)) (fvv (.int k b)) ph = some (fvv v) := by
 rw [<- hv];unfold gF;simp only [fvv, pl, q60, cond_false];rw [qB2 h]; rfl
theorem q6Y : gF P .lss t t2 (fvv (.int k a)) (fvv (.int k b)) ph = some (fvv (.bool (decide (a < b)))) := fH rfl rfl
theorem q68 : gF P .leq t t2 (fvv (.int k a)) (fvv (.int k b)) ph = some (fvv (.bool (decide (a <= b)))) := fH rfl rfl
theorem q6N : gF P .gtr t t2 (fvv (.int k a)) (fvv (.int k b)) ph = some (fvv (.bool (decide (b < a)))) := fH rfl rfl
theorem q7I : gF P .geq t t2 (fvv (.int k a)) (fvv (.int k b)) ph = some (fvv (.bool (decide (b <= a)))) := fH rfl rfl
theorem q6L : gF P .eql t t2 (fvv (.int k a)) (fvv (.int k b)) ph = some (fvv (.bool (a == b))) := fH rfl rfl
theorem q6K : gF P .neq t t2 (fvv (.int k a)) (fvv (.int k b)) ph = some (fvv (.bool (a != b))) := fH rfl rfl
theorem q79 : gF P .add t t2 (fvv (.int k a)) (fvv (.int k b)) ph = some (fvv (.int k (k.wrap (a + b)))) := fH rfl rfl
theorem q7X : gF P .sub t t2 (fvv (.int k a)) (fvv (.int k b)) ph = some (fvv (.int k (k.wrap (a - b)))) := fH rfl rfl
theorem q69 : gF P .mul t t2 (fvv (.int k a)) (fvv (.int k b)) ph = some (fvv (.int k (k.wrap (a * b)))) := fH rfl rfl
def q5O (k : IntKind) (a b : Int) : Option Int := if b = 0 then none else some (k.wrap (a.tdiv b))
def qDK (a b : Int) : Option Int := if b = 0 then none else some (a.tmod b)
theorem q6R (h : q5O k a b = some c) : gF P .quo t t2 (fvv (.int k a)) (fvv (.int k b)) ph = some (fvv (.int k c)) := by
 unfold q5O at h;split at h
 ·cases h
 ·rename_i hb;cases h;exact fH (v := .int k (k.wrap (a.tdiv b))) (by unfold dF; simp only [if_neg hb]) rfl
theorem q71 (h : qDK a b = some c) : gF P .rem t t2 (fvv (.int k a)) (fvv (.int k b)) ph = some (fvv (.int k c)) := by
 unfold qDK at h;split at h
 ·cases h
 ·rename_i hb;cases h;exact fH (v := .int k (a.tmod b)) (by unfold dF; simp only [if_neg hb]) rfl
theorem q6X {x : Bool} : aI P (fun a => .unOp .not t a) (fvv (.bool x)) = some (fvv (.bool !x)) := rfl
end
end Go.Idl
namespace Go.Idl
variable [Gc]
variable {P : Program} {G : Nat -> Bool} {nat : xJ} {tab : fT} {nm : Nm}
variable {b v x : PV} {env env' : List PV} {k l : Nat} {o : Oper} {ob : PO} {ph ph' : PHp} {t : TypeId} {ts : Array TypeId}
def dl1 : PV -> List Nat
 | .own k _ _ _ => [k]
 | .ref k _ _ => [k]
 | .mp k => [k]
 | _ => []
noncomputable def dlO (o : Oper) (env : List PV) : List Nat := o.op.operands.toList.flatMap fun x => dl1 (qP env x)
theorem qBK {x : Operand} (hx : x ∈ o.op.operands) (hk : k ∈ dl1 (qP env x)) : k ∈ dlO o env := List.mem_flatMap.2 ⟨x, Array.mem_def.1 hx, hk⟩
theorem qBA {ps : List (Nat × Operand)} (h : ∀ x ∈ ps.map (·.2), qP env x = qP env' x) : (ps.map fun p => (p.1, qP env p.2)) = ps.map fun p => (p.1, qP env' p.2) :=
 List.map_congr_left fun p hp => by rw [h p.2 (List.mem_map.2 ⟨p, hp, rfl⟩)]
theorem qPU (P : Program) {x : Operand} (h : qP env x = qP env' x) (ha : (pl (qP env x)).isSome = true) : (qRG env).val x = (qRG env').val x := by
 obtain ⟨a, ha⟩ := Option.isSome_iff_exists.1 ha;rw [bB P ha, bB P (h ▸ ha)]
theorem qJ2 {b : Builtin} {args : Array Operand} {ty : TypeId} (h : ∀ x ∈ args, qP env x = qP env' x) :
 vP P b ⟨.builtin b, args, ts⟩ (args.toList.map (qP env)) env ty ph = vP P b ⟨.builtin b, args, ts⟩ (args.toList.map (qP env')) env' ty ph := by
 have e : args.toList.map (qP env) = args.toList.map (qP env') := List.map_congr_left fun x hx => h x (Array.mem_def.2 hx)
 unfold vP;rw [<- e]
 cases hp : plL (args.toList.map (qP env)) with
 | none => rfl
 | some vs =>
   simp only
   have : kS P (cop (.call ⟨.builtin b, args, ts⟩) ty) (qRG env) H00 = kS P (cop (.call ⟨.builtin b, args, ts⟩) ty) (qRG env') H00 := by
    refine pF (fun cs b h => by cases h) fun x hx => ?_
    have hx' : x ∈ args := by simpa [Op.operands, Call.operands, cop] using hx
    obtain ⟨a, ha⟩ := qE8 hp (qP env x) (List.mem_map.2 ⟨x, by simpa using hx', rfl⟩);exact qPU P (h x hx') (by rw [ha]; rfl)
   rw [this]
theorem qP5 {o : Oper} (h : ∀ x ∈ o.op.operands, qP env x = qP env' x) : qG3 P o env k ph = qG3 P o env' k ph := by
 obtain ⟨d, op, ty, pos, aft, g⟩ := o;cases op <;> simp only [Op.operands] at h <;> simp only [qG3]
 case move x => rw [h x (by simp)]
 case assign x => rw [h x (by simp)]
 case pick c a b => rw [h c (by simp), h a (by simp), h b (by simp)]
 case box el x => rw [h x (by simp)]
 case build t ps => rw [qBA fun x hx => h x (by simpa using hx)]
 case buildSlice t n ps => rw [qBA fun x hx => h x (by simpa using hx)]
 case load t a => rw [h a (by simp)]
 case store t a x => rw [h a (by simp), h x (by simp)]
 case nilCheck x => rw [h x (by simp)]
 case binOp op t x y t2 => rw [h x (by simp), h y (by simp)]
 case unOp op t x => rw [h x (by simp)]
 case convert s t x => rw [h x (by simp)]
 case makeFunc fn first cap =>
  rw [List.map_congr_left (l := first.toList) fun x hx => h x (Array.mem_append.2 (.inl (Array.mem_def.2 hx))), List.map_congr_left (l := cap.toList) fun x hx => h x (Array.mem_append.2 (.inr (Array.mem_def.2 hx)))]
 case makeSlice t l c => rw [h l (by simp), h c (by simp)]
 case slice t x lo hi mx =>
  cases mx with
  | some m => rfl
  | none =>
    have e1 : lo.map (qP env) = lo.map (qP env') := by cases lo <;> simp_all
    have e2 : hi.map (qP env) = hi.map (qP env') := by cases hi <;> simp_all
    have e3 : (lo.toList ++ hi.toList).map (qP env) = (lo.toList ++ hi.toList).map (qP env') := by cases lo <;> cases hi <;> simp_all
    have e4 : lo.map (fun a => Operand.const ((pl (qP env a)).getD undef)) = lo.map fun a => Operand.const ((pl (qP env' a)).getD undef) := by cases lo <;> simp_all
    have e5 : hi.map (fun a => Operand.const ((pl (qP env a)).getD undef)) = hi.map fun a => Operand.const ((pl (qP env' a)).getD undef) := by cases hi <;> simp_all
    simp only [h x (by simp), e1, e2, e3, e4, e5]
 case fieldAddr t x i => rw [h x (by simp)]
 case field t x i => rw [h x (by simp)]
 case indexAddr t x ix => rw [h x (by simp), h ix (by simp)]
 case index t x ix => rw [h x (by simp), h ix (by simp)]
 case extract t i => rw [h t (by simp)]
 case call c =>
  obtain ⟨cal, args, ts⟩ := c;simp only [Call.operands] at h;have ha : ∀ x ∈ args, qP env x = qP env' x := fun x hx => h x (by cases cal <;> simp [hx])
  have e : args.toList.map (qP env) = args.toList.map (qP env') := List.map_congr_left fun x hx => ha x (Array.mem_def.2 hx)
  cases cal with
  | builtin b =>
    have hD := qJ2 (P := P) (b := b) (ts := ts) (ty := ty) (ph := ph) ha;simp only [wW]
    cases b <;> simp only [e] at hD ⊢ <;> first | rfl | exact hD | skip
    rw [<- e] at hD;rw [<- e]
    cases hl : args.toList.map (qP env) with
    | nil => rfl
    | cons x l =>
      cases l with
      | nil =>
        simp only;rw [hl] at hD;rw [hD]
      | cons => rfl
  | invoke r n => rfl
  | value f => rfl
theorem vS (h : l ≠ k) : qE l ((k, ob) :: ph) = qE l ph := by
 have : (l == k) = false := by simpa using h
 show cond (l == k) (some ob) (qE l ph) = _;rw [this]; rfl
theorem qHJ {y : PV} (h : qQU k ob v ph = some (y, ph')) (hl : l ≠ k) : qE l ph' = qE l ph := by
 obtain ⟨_, rfl⟩ := bF h;exact vS hl
theorem q63 (h : qG3 P o env k ph = some (v, ph')) (hk : l ≠ k) (hd : l ∉ dlO o env) : qE l ph' = qE l ph := by
 obtain ⟨d, op, ty, pos, aft, g⟩ := o;have one : ∀ {r : Option PV}, pp1 ph r = some (v, ph') -> qE l ph' = qE l ph := fun h => by rw [(yM h).2]
 have nin : ∀ x ∈ op.operands, l ∉ dl1 (qP env x) := fun x hx hl => hd (qBK (o := ⟨d, op, ty, pos, aft, g⟩) hx hl)
 cases op <;> simp only [qG3] at h <;> (try (cases h; done)) <;> (try (exact one h))
 case move => cases h; rfl
 case assign => cases h; rfl
 case pick => split at h <;> cases h; rfl
 case alloc el =>
  unfold qDB at h;split at h
  ·exact qHJ (uW h).2 hk
  ·cases h
 case box el x =>
  unfold q5N at h
  cases hc : (!(spec P el) && (pnt (qP env x) && (zX (qP env x)).all eP)) with
  | true => rw [hc] at h; exact qHJ h hk
  | false => rw [hc] at h; cases h
 case buildSlice t n ps =>
  unfold jV at h;split at h
  ·split at h
   ·rename_i s z _ _
    cases hc : (Nat.beq z.length (s + 1) && Nat.ble (n * (s + 1)) 65536) with
    | true =>
      rw [hc] at h;simp only [cond_true] at h;split at h
      ·exact qHJ h hk
      ·cases h
    | false => rw [hc] at h; cases h
   ·cases h
  ·cases h
 case store t a x =>
  unfold ppS at h;split at h
  ·rename_i ph1 hs;cases h;unfold nY at hs;split at hs
   ·rename_i k' tt off ha;have hne : l ≠ k' := fun e => nin a (by simp [Op.operands]) (by rw [ha, e]; simp [dl1])
    split at hs
    ·split at hs
     ·rename_i ob _ _ n _
      replace hs := (uW hs).2
      cases hc : (Nat.beq tt ob.cs.length && (Nat.beq n (zX (qP env x)).length && (Nat.ble (off + n) ob.cs.length && (pnt (qP env x) && (zX (qP env x)).all eP)))) with
      | true => rw [hc] at hs; cases hs; rw [kE, if_neg (fun h => hne h.1)]
      | false => rw [hc] at hs; cases hs
     ·cases hs
    ·cases hs
   ·cases hs
  ·cases h
 case convert s t x =>
  cases hc : qQD (qP env x) with
  | true => rw [hc] at h; cases h
  | false => rw [hc] at h; exact one h
 case makeSlice t a b =>
  unfold vW at h;split at h
  ·rename_i el k1 n1 k2 m1 _ _ _
   cases hc : decide (n1 = m1) with
   | false => rw [hc] at h; cases h
   | true =>
     rw [hc] at h;simp only [cond_true] at h;split at h
     ·rename_i n s z _ _ _
      cases hc : (wS P el && Nat.beq z.length (s + 1)) with
      | true => rw [hc] at h; exact qHJ h hk
      | false => rw [hc] at h; cases h
     ·cases h
  ·cases h
 case slice t x lo hi mx =>
  cases mx with
  | some => cases h
  | none =>
    simp only at h;split at h
    ·split at h
     ·exact one h
     ·cases h
    ·exact one h
 case index => split at h <;> exact one h
 case call c =>
  obtain ⟨cal, args, ts⟩ := c;split at h
  ·rename_i b hb;simp only at hb;subst hb
   have dry : vP P b ⟨.builtin b, args, ts⟩ (args.toList.map (qP env)) env ty ph = some (v, ph') -> qE l ph' = qE l ph := fun h => by
    unfold vP at h;split at h
    ·exact one h
    ·cases h
   have mem : ∀ x, x ∈ args.toList.map (qP env) -> l ∉ dl1 x := fun x hx => by
    obtain ⟨a, ha, rfl⟩ := List.mem_map.1 hx;exact nin a (by simpa [Op.operands, Call.operands] using ha)
   unfold wW at h;split at h
   ·split at h
    ·rename_i x y hxy;have hx : l ∉ dl1 x := mem x (by rw [hxy]; simp);unfold gL at h
     have grow : ∀ {el s : Nat} {old : List PV} {n : Nat} {new : List PV} {mm kk : Nat} {php : PHp}, qAU P el s old n new mm kk php = some (v, ph') -> l ≠ kk -> qE l ph' = qE l php := fun hg hkk => by
      unfold qAU at hg;rename_i el s old n new mm kk php
      cases hc : (Nat.ble (n + mm) 1048576 && (wS P el && (Nat.beq (old.length) (n * s) && (Nat.beq new.length (mm * s) && new.all eP)))) with
      | true => rw [hc] at hg; exact qHJ hg hkk
      | false => rw [hc] at hg; cases hg
     split at h
     ·split at h
      ·split at h
       ·split at h
        ·rename_i el _ _ _ _ s _ _ mm new _;split at h
         ·cases h0 : Nat.beq mm 0 with
          | true => rw [h0] at h; cases h; rfl
          | false => rw [h0] at h; exact grow h hk
         ·rename_i j tt o n;have hj : l ≠ j := fun e => hx (by rw [e]; simp [dl1])
          split at h
          ·rename_i ob hl
           cases hc : (Nat.beq ob.el el && (Nat.beq (tt * (s + 1)) ob.cs.length && Nat.beq o 0)) with
           | false => rw [hc] at h; cases h
           | true =>
             rw [hc] at h;simp only [cond_true] at h
             cases h0 : Nat.beq mm 0 with
             | true => rw [h0] at h; cases h; rfl
             | false =>
               rw [h0] at h;simp only [cond_false] at h
               cases hr : Nat.ble (n + mm) tt with
               | true =>
                 rw [hr] at h;simp only [cond_true] at h
                 cases hc2 : (Nat.beq new.length (mm * (s + 1)) && new.all eP) with
                 | true => rw [hc2] at h; cases h; rw [kE, if_neg (fun h => hj h.1)]
                 | false => rw [hc2] at h; cases h
               | false =>
                 rw [hr] at h;simp only [cond_false] at h
                 cases hn : Nat.beq n tt with
                 | false => rw [hn] at h; cases h
                 | true =>
                   rw [hn] at h;simp only [cond_true] at h
                   cases hg : ob.gr with
                   | true => rw [hg] at h; rw [grow h hj, uS, if_neg hj]
                   | false => rw [hg] at h; exact grow h hk
          ·cases h
         ·cases h
        ·cases h
       ·cases h
      ·cases h
     ·cases h
    ·cases h
   ·split at h
    ·rename_i x y hxy;have hx : l ∉ dl1 x := mem x (by rw [hxy]; simp);unfold qFZ at h;split at h
     ·split at h
      ·split at h
       ·split at h
        ·rename_i el _ _ _ _ s _ _ mm new _;split at h
         ·rename_i j tt o n;have hj : l ≠ j := fun e => hx (by rw [e]; simp [dl1])
          split at h
          ·rename_i ob hl
           cases hc : (Nat.beq ob.el el && (Nat.beq (tt * (s + 1)) ob.cs.length && (Nat.beq new.length (mm * (s + 1)) && new.all eP))) with
           | false => rw [hc] at h; cases h
           | true => rw [hc] at h; cases h; rw [kE, if_neg (fun h => hj h.1)]
          ·cases h
         ·cases h; rfl
         ·cases h; rfl
         ·cases h
        ·cases h
       ·cases h
      ·cases h
     ·cases h
    ·cases h
   ·split at h
    ·cases hc : qXE P ts with
     | true => rw [hc] at h; exact dry h
     | false => rw [hc] at h; exact one h
    ·cases h
   ·exact dry h
   ·exact dry h
   ·cases h
  ·cases h
theorem q2R {a : PV} (h : nE P t a ph = some x) (hd : ∀ l ∈ dl1 a, qE l ph' = qE l ph) : nE P t a ph' = some x := by
 cases a <;> first | exact h | skip
 rename_i k tt off;have := hd k (by simp [dl1]);unfold nE at h ⊢;simp only [this];exact h
theorem qUR {tt : Nat} (h : qE k ph' = qE k ph) : live? k tt ph' = live? k tt ph := by unfold live?; rw [h]
theorem qKK {a : PV} (h : yZ a ph = some x) (hd : ∀ l ∈ dl1 a, qE l ph' = qE l ph) : yZ a ph' = some x := by
 unfold yZ at h ⊢;split at h
 ·rename_i k tt off;rw [qUR (tt := tt) (hd k (by simp [dl1]))]; exact h
 ·exact h
 ·exact h
 ·exact h
 ·cases h
theorem qYR {a : PV} {lo hi : Option PV} (h : wX P t a lo hi ph = some x) (hd : ∀ l ∈ dl1 a, qE l ph' = qE l ph) : wX P t a lo hi ph' = some x := by
 unfold wX at h ⊢;split at h
 ·exact h
 ·exact h
 ·rename_i k tt o n;rw [hd k (by simp [dl1])]; exact h
 ·rename_i k tt;rw [hd k (by simp [dl1])]; exact h
 ·cases h
theorem qHD {a : PV} {i : Nat} (h : yG P t a i ph = some x) (hd : ∀ l ∈ dl1 a, qE l ph' = qE l ph) : yG P t a i ph' = some x := by
 cases a <;> first | exact h | skip
 rename_i k tt off;have := qUR (tt := tt) (hd k (by simp [dl1]));unfold yG at h ⊢;simp only [this];exact h
theorem qIL {a ix : PV} (h : zF P t a ix ph = some x) (hd : ∀ l ∈ dl1 a, qE l ph' = qE l ph) : zF P t a ix ph' = some x := by
 unfold zF at h ⊢;split at h
 ·split at h
  ·exact h
  ·rename_i k tt o n;rw [hd k (by simp [dl1])]; exact h
  ·rename_i k tt off;rw [qUR (tt := tt) (hd k (by simp [dl1]))]; exact h
  ·exact h
  ·cases h
 ·cases h
theorem q58 {a : PV} (h : qY7 P ts a ph = some x) (hd : ∀ l ∈ dl1 a, qE l ph' = qE l ph) : qY7 P ts a ph' = some x := by
 unfold qY7 at h ⊢;split at h
 ·split at h
  ·split at h
   ·exact h
   ·exact h
   ·rename_i k tt o n;rw [hd k (by simp [dl1])]; exact h
   ·cases h
  ·exact h
 ·cases h
theorem q4X {a : PV} (h : qCV P ts a ph = some x) (hd : ∀ l ∈ dl1 a, qE l ph' = qE l ph) : qCV P ts a ph' = some x := by
 have e : rC P a ph' = rC P a ph := by
  cases a <;> first | rfl | skip
  rename_i k;unfold rC;simp only [hd k (by simp [dl1])]
 unfold qCV at h ⊢;rw [e];split at h
 ·exact h
 ·exact q58 h hd
theorem q2J {a : PV} {b : Bool} (h : isNil (P := P) a ph = some b) (hd : ∀ l ∈ dl1 a, qE l ph' = qE l ph) : isNil (P := P) a ph' = some b := by
 unfold isNil at h ⊢;split at h
 ·exact h
 ·exact h
 ·rename_i k tt o n;rw [hd k (by simp [dl1])]; exact h
 ·cases h
theorem q1R {a : PV} {r : Bool} (h : qXD P t a b ph = some r) (hd : ∀ l ∈ dl1 a, qE l ph' = qE l ph) : qXD P t a b ph' = some r := by
 unfold qXD at h ⊢;split at h
 ·cases hc : (xH P t).isSome with
  | true => rw [hc] at h; exact q2J h hd
  | false => rw [hc] at h; cases h
 ·exact h
 ·cases h
theorem q6F {op : BinOp} {t2 : TypeId} {a : PV} (h : gF P op t t2 a b ph = some x) (hd : ∀ l ∈ dl1 a, qE l ph' = qE l ph) : gF P op t t2 a b ph' = some x := by
 unfold gF at h ⊢;split at h
 ·exact h
 ·split at h
  ·obtain ⟨r, h1, rfl⟩ := Option.map_eq_some_iff.1 h;rw [q1R h1 hd]; rfl
  ·obtain ⟨r, h1, rfl⟩ := Option.map_eq_some_iff.1 h;rw [q1R h1 hd]; rfl
  ·cases h
theorem q6J {o : Oper} {env : List PV} {ph1 : PHp} (hf : xP o = false) (ha : qI o = false) (h : qG3 P o env k ph = some (v, ph1)) :
 ph1 = ph ∧ ∀ (k' : Nat) (ph' : PHp), (∀ l ∈ dlO o env, qE l ph' = qE l ph) -> qG3 P o env k' ph' = some (v, ph') := by
 obtain ⟨d, op, ty, pos, aft, g⟩ := o;have mem : ∀ {x : Operand} {ph' : PHp}, x ∈ op.operands -> (∀ l ∈ dlO ⟨d, op, ty, pos, aft, g⟩ env, qE l ph' = qE l ph) -> ∀ l ∈ dl1 (qP env x), qE l ph' = qE l ph := fun hx hd l hl => hd l (qBK (o := ⟨d, op, ty, pos, aft, g⟩) hx hl)
 have one : ∀ {f : PHp -> Option PV}, pp1 ph (f ph) = some (v, ph1) -> (∀ {x ph'}, (∀ l ∈ dlO ⟨d, op, ty, pos, aft, g⟩ env, qE l ph' = qE l ph) -> f ph = some x -> f ph' = some x) -> ph1 = ph ∧ ∀ (k' : Nat) (ph' : PHp), (∀ l ∈ dlO ⟨d, op, ty, pos, aft, g⟩ env, qE l ph' = qE l ph) -> pp1 ph' (f ph') = some (v, ph') := fun h hk => by
  obtain ⟨h1, h2⟩ := yM h;exact ⟨h2, fun k' ph' hd => by rw [hk hd h1]; rfl⟩
 have hne : kD ⟨d, op, ty, pos, aft, g⟩ = .pure ∨ kD ⟨d, op, ty, pos, aft, g⟩ = .read := qFD hf ha
 cases op <;> simp only [qG3] at h ⊢ <;> (try (cases h; done))
 case move => cases h; exact ⟨rfl, fun _ _ _ => rfl⟩
 case assign => cases h; exact ⟨rfl, fun _ _ _ => rfl⟩
 case pick c a b =>
  split at h
  ·rename_i t ht;cases h;refine ⟨rfl, fun _ _ _ => ?_⟩;simp only [ht]
  ·cases h
 case alloc => simp only [kD] at hne; split at hne <;> (rcases hne with h | h <;> cases h)
 case box => rcases hne with h | h <;> cases h
 case buildSlice => rcases hne with h | h <;> cases h
 case store => rcases hne with h | h <;> cases h
 case makeSlice => rcases hne with h | h <;> cases h
 case build t ps =>
  obtain ⟨h1, h2⟩ := yM h;exact ⟨h2, fun k' ph' hd => by rw [h1]; rfl⟩
 case load t a => exact one (f := fun q => nE P t (qP env a) q) h fun hd h => q2R h (mem (by simp [Op.operands]) hd)
 case nilCheck x => exact one (f := fun q => yZ (qP env x) q) h fun hd h => qKK h (mem (by simp [Op.operands]) hd)
 case binOp op t x y t2 => exact one (f := fun q => gF P op t t2 (qP env x) (qP env y) q) h fun hd h => q6F h (mem (by simp [Op.operands]) hd)
 case unOp op t x => exact one (f := fun _ => aI P (fun a => .unOp op t a) (qP env x)) h fun _ h => h
 case convert s t x =>
  cases hc : qQD (qP env x) with
  | true => rw [hc] at h; cases h
  | false =>
    rw [hc] at h;simp only [cond_false] at h ⊢;exact one (f := fun _ => aI P (fun a => .convert s t a) (qP env x)) h fun _ h => h
 case makeFunc fn a b => exact one (f := fun _ => j6 fn (a.toList.map (qP env)) (b.toList.map (qP env))) h fun _ h => h
 case slice t x lo hi mx =>
  cases mx with
  | some => cases h
  | none =>
    simp only at h ⊢;split at h
    ·rename_i s hs;split at h
     ·rename_i vs hvs;exact one (f := fun _ => qLT P (.slice t (.const (.string s)) (lo.map fun a => .const ((pl (qP env a)).getD undef)) (hi.map fun a => .const ((pl (qP env a)).getD undef)) none)) h fun _ h => h
     ·cases h
    ·exact one (f := fun q => wX P t (qP env x) (lo.map (qP env)) (hi.map (qP env)) q) h fun hd h => qYR h (mem (by cases lo <;> cases hi <;> simp [Op.operands]) hd)
 case fieldAddr t x i => exact one (f := fun q => yG P t (qP env x) i q) h fun hd h => qHD h (mem (by simp [Op.operands]) hd)
 case field t x i => exact one (f := fun _ => qC4 P t (qP env x) i) h fun _ h => h
 case indexAddr t x ix => exact one (f := fun q => zF P t (qP env x) (qP env ix) q) h fun hd h => qIL h (mem (by simp [Op.operands]) hd)
 case index t x ix =>
  split at h
  ·rename_i s j hs hj;exact one (f := fun _ => qLT P (.index t (.const (.string s)) (.const j))) h fun _ h => h
  ·exact one (f := fun _ => qD3 P t (qP env x) (qP env ix)) h fun _ h => h
 case extract t i => exact one (f := fun _ => bK (qP env t) i) h fun _ h => h
 case call c =>
  obtain ⟨cal, args, ts⟩ := c;split at h
  ·rename_i b hb;simp only at hb;subst hb
   have dry : ∀ {b : Builtin}, vP P b ⟨.builtin b, args, ts⟩ (args.toList.map (qP env)) env ty ph = some (v, ph1) -> ph1 = ph ∧ ∀ ph', vP P b ⟨.builtin b, args, ts⟩ (args.toList.map (qP env)) env ty ph' = some (v, ph') := fun h => by
    unfold vP at h ⊢;split at h
    ·obtain ⟨h1, h2⟩ := yM h;exact ⟨h2, fun ph' => by rw [h1]; rfl⟩
    ·cases h
   unfold wW at h;split at h
   ·rcases hne with h | h <;> cases h
   ·rcases hne with h | h <;> cases h
   ·split at h
    ·rename_i x hx
     obtain ⟨a1, ha1, rfl⟩ : ∃ a1, args = #[a1] ∧ x = qP env a1 := by
      cases hq : args.toList with
      | nil => rw [hq] at hx; cases hx
      | cons a l =>
        rw [hq] at hx
        cases l with
        | nil =>
          simp only [List.map_cons, List.map_nil, List.cons.injEq, and_true] at hx
          exact ⟨a, by have e9 : args = args.toList.toArray := by simp
                       rw [e9, hq], hx.symm⟩
        | cons => cases hx
     subst ha1
     cases hc : qXE P ts with
     | true =>
       rw [hc] at h;obtain ⟨h1, h2⟩ := dry h;refine ⟨h1, fun k' ph' hd => ?_⟩;unfold wW;simp only [List.map_cons, List.map_nil, hc, cond_true];exact h2 ph'
     | false =>
       rw [hc] at h;obtain ⟨h1, h2⟩ := yM h;refine ⟨h2, fun k' ph' hd => ?_⟩;unfold wW;simp only [List.map_cons, List.map_nil, hc, cond_false];rw [q4X h1 (mem (by simp [Op.operands, Call.operands]) hd)]; rfl
    ·cases h
   ·obtain ⟨h1, h2⟩ := dry h;exact ⟨h1, fun k' ph' hd => h2 ph'⟩
   ·obtain ⟨h1, h2⟩ := dry h;exact ⟨h1, fun k' ph' hd => h2 ph'⟩
   ·cases h
  ·cases h
end Go.Idl
