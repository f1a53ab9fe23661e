/- Operations of the ideal interpreter against the model's own, second part. Conditions: none. -/
import Derived.Test.YtpdlblofcdcikaaGreatDoorIdlC
import Derived.Laws.AppendOwn
import Derived.Orders
set_option linter.unusedSimpArgs false
set_option linter.unusedVariables false
namespace Go.Idl
variable {P : Program}

theorem growBy_le (newLen : Nat) : ∀ (n c b : Nat), c ≤ b → newLen + (newLen + 768) / 4 ≤ b → Builtin.growBy newLen n c ≤ b
  | 0, c, b, hc, _ => hc
  | n + 1, c, b, hc, hb => by
    unfold Builtin.growBy
    split
    · exact hc
    · exact growBy_le newLen n _ b (by omega) hb

theorem next_le {newLen oldCap : Nat} (h : oldCap < newLen) : Builtin.nextslicecap newLen oldCap ≤ 2 * newLen := by
  unfold Builtin.nextslicecap
  split
  · omega
  · split
    · omega
    · exact growBy_le newLen 4 oldCap _ (by omega) (by omega)

/-- growing within the real row: the elder ideal block dies, a new one takes its place -/
theorem inplace {f : Inj} {H : IH} {w : World} {b a0 : Nat} {e : Emb} {c : Array Value} {elem : TypeId} {fz : Nat × Nat} {old old' new new' : List Value}
    (hR : Rel P f H w) (hb : f b = some e) (hg : H.get b = some (.cells c elem fz)) (hfree : freeFz fz = true)
    (ho : VRelL P f old old') (hn : VRelL P f new new') (hfit : a0 + old.length + new.length ≤ e.N) (h1 : ∀ v ∈ new, oneCell v = true)
    (hold : ∀ (j : Nat) v, old'[j]? = some v → w.cell? ⟨e.r, a0 + j, none⟩ = some v) :
    ∃ w' f', (storeCells ⟨e.r, a0 + old.length, none⟩ new').run P w = .ok () w' ∧ Rel P f' ((H.put b deadObj).push (.cells (old ++ new).toArray elem roomFz)) w' ∧ Grow f H w f' ((H.put b deadObj).push (.cells (old ++ new).toArray elem roomFz)) w' ∧
      f' H.size = some ⟨e.r, a0, e.N, false⟩ ∧ Keep f H ((H.put b deadObj).push (.cells (old ++ new).toArray elem roomFz)) := by
  obtain ⟨c', el', fz', hr, hN, hsz, hcv, hfr, hex⟩ := hR.obj b e _ hb hg
  obtain ⟨hro, hel, hnf⟩ := hfr hfree
  subst hel
  have hlt : e.r < w.heap.size := hR.bound b e hb
  have hbs : b < H.size := hR.dom b e hb
  have hlo : old'.length = old.length := ho.1.symm
  have hln : new'.length = new.length := hn.1.symm
  have hrun := run_storeCells (P := P) e.r (a0 + old.length) el' fz' new' 0 c' w hr hnf (by omega) (hn.all_oneCell h1)
  simp only [Nat.add_zero] at hrun
  have hnone : f H.size = none := by
    cases hx : f H.size with
    | none => rfl
    | some y => have := hR.dom _ _ hx; omega
  have hle : f.le (f.add H.size ⟨e.r, a0, e.N, false⟩) := Inj.le_add hnone
  have getN : ∀ x, ((H.put b deadObj).push (.cells (old ++ new).toArray el' roomFz)).get x = if x = H.size then some (.cells (old ++ new).toArray el' roomFz) else if x = b then some deadObj else H.get x := by
    intro x
    rw [IH.get_push, IH.size_put, IH.get_put]
  have l2 : (overwrite c'.toList (a0 + old.length) new').length = c'.size := by rw [overwrite_length _ _ _ (by simp; omega)]; simp
  have hO : ORel P (f.add H.size ⟨e.r, a0, e.N, false⟩) ⟨e.r, a0, e.N, false⟩ (.cells (old ++ new).toArray el' roomFz) (some (.cells (overwrite c'.toList (a0 + old.length) new').toArray el' fz')) := by
    refine ⟨_, _, _, rfl, by simpa [l2] using hN, by simp [l2]; omega, ?_, fun _ => ⟨rfl, rfl, by simpa [l2] using hnf⟩, fun hx => by simp [roomFz] at hx⟩
    intro j v hj
    simp only [List.getElem?_toArray] at hj ⊢
    rw [ow_get _ _ _ (by simp; omega)]
    rw [List.getElem?_append] at hj
    by_cases a1 : j < old.length
    · rw [if_pos a1] at hj
      rw [if_pos (by omega), aget]
      obtain ⟨u, hu1, hu2⟩ := ho.get hj
      have := hold j u hu1
      simp only [World.cell?, hr] at this
      exact ⟨u, by simpa using this, hu2.mono hle⟩
    · rw [if_neg a1] at hj
      have hjn : j - old.length < new.length := (List.getElem?_eq_some_iff.1 hj).1
      rw [if_neg (by omega), if_pos (by omega), show a0 + j - (a0 + old.length) = j - old.length by omega]
      obtain ⟨u, hu1, hu2⟩ := hn.get hj
      exact ⟨u, hu1, hu2.mono hle⟩
  refine ⟨_, f.add H.size ⟨e.r, a0, e.N, false⟩, hrun, ⟨?_, ?_, ?_, ?_, ?_, ?_⟩, ⟨by simp, (fun b hb hn => by rw [Inj.add_other (by omega)]; exact hn), hle, by simp [World.put], ?_, ?_, ⟨rfl, rfl, rfl⟩⟩, Inj.add_same, ⟨by simp, ?_⟩⟩
  · intro x y hx
    by_cases e1 : x = H.size
    · subst e1; simp
    · rw [Inj.add_other e1] at hx; have := hR.dom x y hx; simp; omega
  · intro x hx
    simp only [IH.size_push, IH.size_put] at hx
    rw [getN, if_neg (by omega), if_neg (by omega)]
    exact hR.fresh x (by omega)
  · intro x y hx
    by_cases e1 : x = H.size
    · subst e1; rw [Inj.add_same] at hx; cases hx; simpa [World.put] using hlt
    · rw [Inj.add_other e1] at hx; have := hR.bound x y hx; simpa [World.put] using this
  · intro x y ox hx hox
    rw [getN] at hox
    by_cases e1 : x = H.size
    · subst e1
      rw [Inj.add_same] at hx; cases hx
      rw [if_pos rfl] at hox; cases hox
      rw [heap_put hlt, if_pos rfl]; exact hO
    · rw [Inj.add_other e1] at hx
      rw [if_neg e1] at hox
      by_cases e2 : x = b
      · rw [if_pos e2] at hox; cases hox; simp [ORel, deadObj]
      · rw [if_neg e2] at hox
        rw [heap_put hlt]
        by_cases e3 : y.r = e.r
        · by_cases hlx : live ox = true
          · have := hR.sep x b y e ox _ e2 hx hb hox hg hlx rfl e3
            rw [hro] at this; exact absurd this.2 (by simp)
          · cases ox <;> simp [live] at hlx
            simp [ORel]
        · rw [if_neg e3]; exact (hR.obj x y ox hx hox).mono hle
  · intro b1 b2 e1 e2 o1 o2 hne h1' h2' g1 g2 l1 l2' hrr
    rw [getN] at g1 g2
    -- a block at the row of b that is not b is dead
    have other : ∀ x y ox, x ≠ H.size → f x = some y → (if x = b then some deadObj else H.get x) = some ox → live ox = true → y.r ≠ e.r := by
      intro x y ox _ hx hox hlx hyr
      by_cases e2 : x = b
      · rw [if_pos e2] at hox; cases hox; simp [live, deadObj] at hlx
      · rw [if_neg e2] at hox
        have := hR.sep x b y e ox _ e2 hx hb hox hg hlx rfl hyr
        rw [hro] at this; exact absurd this.2 (by simp)
    by_cases x1 : b1 = H.size
    · subst x1
      rw [Inj.add_same] at h1'; cases h1'
      rw [Inj.add_other (Ne.symm hne)] at h2'
      rw [if_neg (Ne.symm hne)] at g2
      exact absurd hrr.symm (other b2 e2 o2 (Ne.symm hne) h2' g2 l2')
    · rw [Inj.add_other x1] at h1'
      rw [if_neg x1] at g1
      by_cases x2 : b2 = H.size
      · subst x2
        rw [Inj.add_same] at h2'; cases h2'
        exact absurd hrr (other b1 e1 o1 x1 h1' g1 l1)
      · rw [Inj.add_other x2] at h2'
        rw [if_neg x2] at g2
        by_cases y1 : b1 = b
        · rw [if_pos y1] at g1; cases g1; simp [live, deadObj] at l1
        · by_cases y2 : b2 = b
          · rw [if_pos y2] at g2; cases g2; simp [live, deadObj] at l2'
          · rw [if_neg y1] at g1; rw [if_neg y2] at g2
            exact hR.sep b1 b2 e1 e2 o1 o2 hne h1' h2' g1 g2 l1 l2' hrr
  · intro b1 b2 e1 e2 h1' h2' hrr
    by_cases x1 : b1 = H.size
    · subst x1
      rw [Inj.add_same] at h1'; cases h1'
      by_cases x2 : b2 = H.size
      · subst x2; rw [Inj.add_same] at h2'; cases h2'; rfl
      · rw [Inj.add_other x2] at h2'
        have := hR.rosame b2 b e2 e h2' hb hrr.symm
        simp only; rw [this, hro]
    · rw [Inj.add_other x1] at h1'
      by_cases x2 : b2 = H.size
      · subst x2; rw [Inj.add_same] at h2'; cases h2'
        have := hR.rosame b1 b e1 e h1' hb hrr
        simp only; rw [this, hro]
      · rw [Inj.add_other x2] at h2'; exact hR.rosame b1 b2 e1 e2 h1' h2' hrr
  · intro r hrs hno
    refine ⟨?_, by rw [heap_put hlt, if_neg (fun hx => hno ⟨b, e, hb, hx.symm, hro⟩)]⟩
    rintro ⟨x, y, hx, hyr, hyo⟩
    by_cases e1 : x = H.size
    · subst e1; rw [Inj.add_same] at hx; cases hx; exact hno ⟨b, e, hb, hyr, hro⟩
    · rw [Inj.add_other e1] at hx; exact hno ⟨x, y, hx, hyr, hyo⟩
  · intro r hrs hu x y hx
    by_cases e1 : x = H.size
    · subst e1; rw [Inj.add_same] at hx; cases hx; exact hu b e hb
    · rw [Inj.add_other e1] at hx; exact hu x y hx
  · intro x hx hnx
    rw [getN, if_neg (by omega), if_neg (fun hxb => by subst hxb; rw [hb] at hnx; cases hnx)]

theorem zeroCells_size (z : Array Value) (n : Nat) : (Builtin.zeroCells z n).size = n * z.size := by simp [Builtin.zeroCells]

theorem zeroCells_plain {z : Array Value} (h : plainL z.toList = true) (n : Nat) : plainL (Builtin.zeroCells z n).toList = true := by
  rw [plainL_iff]
  intro v hv
  simp only [Builtin.zeroCells, Array.toList_map, List.mem_map] at hv
  obtain ⟨i, _, rfl⟩ := hv
  rw [Array.getElem!_eq_getD]
  unfold Array.getD
  split
  · exact plainL_iff.1 h _ (by simp)
  · exact plain_default

theorem firstZ_length {size n : Nat} {H : IH} {x : Value} {l : List Value} (h : firstZ size n H x = some l) (h0 : n = 0) : l = [] := by
  subst h0; exact firstZ_zero h
end Go.Idl

namespace Go.Idl
variable {P : Program}

/-- what is appended, in the real run -/
inductive ASrc (P : Program) (info : TypeInfo) (elem xt : TypeId) (x' : Value) (n : Nat) (new' : List Value) (w : World) : Prop
  | src (xd : TypeDesc) (hxd : P.underlying xt = some xd) (hni : ∀ k, xd ≠ .int k) (hlen : ∀ w', (Builtin.lenOf x').run P w' = .ok n w')
      (hc : ∀ w', w'.heap = w.heap → (Builtin.firstCells info.size n x').run P w' = .ok new'.toArray w')
  | zero (k kk : IntKind) (l : Int) (hxd : P.underlying xt = some (.int k)) (hx : x' = .int kk l) (h0 : 0 ≤ l) (hl : l ≤ 65536) (hb : l.toNat * info.bytes ≤ 2 ^ 40) (hn : n = l.toNat)
      (hnew : (n * info.size = 0 ∧ new' = []) ∨ (n * info.size ≠ 0 ∧ ∃ z, zeroT P elem = some z ∧ new' = (Builtin.zeroCells z.cells n).toList))

theorem run_app_room {w w1 : World} {info : TypeInfo} {st xt ty elem : TypeId} {x' : Value} {n : Nat} {new' : List Value} {base' : Option Addr} {len cap' : Nat}
    (hu : P.underlying st = some (.slice elem)) (hi : P.info? elem = some info) (hs : ASrc P info elem xt x' n new' w) (hroom : len + n ≤ cap')
    (hst : ∀ a, base' = some a → (storeCells (a.add (len * info.size)) new').run P w = .ok () w1) (hno : base' = none → w1 = w) :
    (Builtin.append_ #[st, xt] ty #[.slice base' len cap', x']).run P w = .ok (.slice base' (len + n) cap') w1 := by
  have fin : ∀ (b : Bool), (match base' with
      | some a => storeCells (a.add (len * info.size)) new'
      | none => (pure () : Sem Unit)).run P w = .ok () w1 := by
    intro _
    cases base' with
    | none => rw [hno rfl]; simp
    | some a => exact hst a rfl
  cases hs with
  | src xd hxd hni hlen hc =>
    have hxi : (xd matches .int _) = false := by
      cases xd <;> first | rfl | (rename_i k; exact absurd rfl (hni k))
    have h1 := hc w rfl
    cases base' with
    | none => simp [Builtin.append_, run_underlying hu, run_underlying hxd, sizeOf, typeInfo, hi, hxi, hlen, hroom, h1, hno rfl]
    | some a => simp [Builtin.append_, run_underlying hu, run_underlying hxd, sizeOf, typeInfo, hi, hxi, hlen, hroom, h1, hst a rfl]
  | zero k kk l hxd hx h0 hl hb hn hnew =>
    subst hx; subst hn
    have hw : IntKind.i64.wrap l = l := wrap_i64 h0 (by omega)
    have hlb : ¬ (281474976710656 < l * (info.bytes : Int)) := by
      have : l * (info.bytes : Int) = ((l.toNat * info.bytes : Nat) : Int) := by rw [Int.natCast_mul, Int.toNat_of_nonneg h0]
      omega
    have hl0 : ¬ (l < 0) := by omega
    rcases hnew with ⟨hz0, rfl⟩ | ⟨hz0, z, hz, rfl⟩
    · have hz0' : l ≤ 0 ∨ info.size = 0 := by
        rcases Nat.mul_eq_zero.1 hz0 with h | h
        · exact .inl (by omega)
        · exact .inr h
      cases base' with
      | none => simp [Builtin.append_, run_underlying hu, run_underlying hxd, sizeOf, typeInfo, hi, asInt, asIntOf, hw, hl0, hlb, hroom, hz0, hz0', hno rfl]
      | some a =>
        have hst' := hst a rfl
        have e : w = w1 := by simpa [storeCells] using hst'
        subst e
        simp [Builtin.append_, run_underlying hu, run_underlying hxd, sizeOf, typeInfo, hi, asInt, asIntOf, hw, hl0, hlb, hroom, hz0, storeCells]
    · have hz0' : ¬ (l ≤ 0 ∨ info.size = 0) := by
        intro h
        rcases h with h | h
        · apply hz0; rw [show l.toNat = 0 by omega]; simp
        · apply hz0; rw [h]; simp
      have hzr := run_zero hz w
      cases base' with
      | none => simp [Builtin.append_, run_underlying hu, run_underlying hxd, sizeOf, typeInfo, hi, asInt, asIntOf, hw, hl0, hlb, hroom, hz0, hz0', hno rfl, hzr]
      | some a =>
        have hst' := hst a rfl
        simp [Builtin.append_, run_underlying hu, run_underlying hxd, sizeOf, typeInfo, hi, asInt, asIntOf, hw, hl0, hlb, hroom, hz0, hz0', hst', hzr]

theorem run_app_grow {w : World} {info : TypeInfo} {st xt ty elem : TypeId} {x' : Value} {n : Nat} {old' new' : List Value} {base' : Option Addr} {len cap' : Nat} {z : Value}
    (hu : P.underlying st = some (.slice elem)) (hi : P.info? elem = some info) (hz : zeroT P elem = some z) (hs : ASrc P info elem xt x' n new' w) (hroom : cap' < len + n)
    (h1 : len + n ≤ 2 ^ 40) (h2 : (len + n) * info.bytes ≤ 2 ^ 45)
    (hold : (Builtin.firstCells info.size len (.slice base' len cap')).run P w.drew = .ok old'.toArray w.drew) :
    (Builtin.append_ #[st, xt] ty #[.slice base' len cap', x']).run P w = .ok (.slice (some ⟨w.heap.size, 0, none⟩) (len + n) (grownCap w (len + n) cap' elem))
      (w.drew.alloc (.cells ((old' ++ new').toArray ++ Builtin.zeroCells z.cells (grownCap w (len + n) cap' elem - (len + n))) elem)) := by
  have hn : ¬ (len + n ≤ cap') := by omega
  have h63 : ¬ (9223372036854775807 < ((len : Int) + (n : Int))) := by omega
  have hnx := next_le hroom
  have h48 : ¬ (281474976710656 < Builtin.nextslicecap (len + n) cap' * info.bytes) := by
    have : Builtin.nextslicecap (len + n) cap' * info.bytes ≤ 2 * (len + n) * info.bytes := Nat.mul_le_mul_right _ hnx
    rw [Nat.mul_assoc] at this
    omega
  obtain ⟨i2, hi2, hz2⟩ : ∃ i, P.info? elem = some i ∧ i.zero = some z := by
    unfold zeroT at hz
    rw [hi] at hz
    exact ⟨info, hi, hz⟩
  rw [hi] at hi2; cases hi2
  cases hs with
  | src xd hxd hni hlen hc =>
    have hxi : (xd matches .int _) = false := by
      cases xd <;> first | rfl | (rename_i k; exact absurd rfl (hni k))
    have h3 := hc w.drew rfl
    simp [Builtin.append_, run_underlying hu, run_underlying hxd, sizeOf, typeInfo, zeroValue, hi, hz2, hxi, hlen, hn, h63, h48, Question.forced, h3, hold, newRow, grownCap]
    congr 2
    apply Array.ext'
    simp [List.append_assoc]
  | zero k kk l hxd hx h0 hl hb hn' hnew =>
    subst hx; subst hn'
    have hw : IntKind.i64.wrap l = l := wrap_i64 h0 (by omega)
    have hlb : ¬ (281474976710656 < l * (info.bytes : Int)) := by
      have : l * (info.bytes : Int) = ((l.toNat * info.bytes : Nat) : Int) := by rw [Int.natCast_mul, Int.toNat_of_nonneg h0]
      omega
    have hl0 : ¬ (l < 0) := by omega
    have hmax : max l 0 = l := by omega
    have h63' : ¬ (9223372036854775807 < (len : Int) + l) := by omega
    rcases hnew with ⟨hz0, rfl⟩ | ⟨hz0, z', hz', rfl⟩
    · have hz0' : l ≤ 0 ∨ info.size = 0 := by
        rcases Nat.mul_eq_zero.1 hz0 with h | h
        · exact .inl (by omega)
        · exact .inr h
      simp [Builtin.append_, run_underlying hu, run_underlying hxd, sizeOf, typeInfo, zeroValue, hi, hz2, asInt, asIntOf, hw, hl0, hlb, hn, hmax, h63, h63', h48, Question.forced, hz0, hz0', hold, newRow, grownCap]
    · rw [hz] at hz'; cases hz'
      have hz0' : ¬ (l ≤ 0 ∨ info.size = 0) := by
        intro h
        rcases h with h | h
        · apply hz0; rw [show l.toNat = 0 by omega]; simp
        · apply hz0; rw [h]; simp
      simp [Builtin.append_, run_underlying hu, run_underlying hxd, sizeOf, typeInfo, zeroValue, hi, hz2, asInt, asIntOf, hw, hl0, hlb, hn, hmax, h63, h63', h48, Question.forced, hz0, hz0', hold, newRow, grownCap]
      congr 2
      apply Array.ext'
      simp [List.append_assoc]

theorem inews_inv {f : Inj} {H : IH} {w : World} {elem xt : TypeId} {info : TypeInfo} {xd : TypeDesc} {x x' : Value} {n : Nat} {new : List Value} (hR : Rel P f H w)
    (hxd : P.underlying xt = some xd) (h : inews P elem info xd x H = some (n, new)) (hx : VRel P f x x') :
    ∃ new', ASrc P info elem xt x' n new' w ∧ VRelL P f new new' ∧ (((zeroT P elem).map (·.cells.size)) = some info.size → new.length = n * info.size) ∧ (n = 0 → new = []) := by
  have src : (∀ k, xd ≠ .int k) → (match lenOfI x with
    | some n => cond (strOk info.size x) ((firstZ info.size n H x).map fun l => (n, l)) none
    | none => none) = some (n, new) → ∃ new', ASrc P info elem xt x' n new' w ∧ VRelL P f new new' ∧ (((zeroT P elem).map (·.cells.size)) = some info.size → new.length = n * info.size) ∧ (n = 0 → new = []) := by
    intro hni h
    split at h
    · rename_i m hm
      cases hs : strOk info.size x with
      | false => rw [hs] at h; cases h
      | true =>
        rw [hs] at h
        simp only [cond_true, Option.map_eq_some_iff] at h
        obtain ⟨l, hl, he⟩ := h
        cases he
        obtain ⟨l', h1, h2, h3⟩ := sim_firstZ hR hl hx hm (Nat.le_refl _)
        refine ⟨l', .src xd hxd hni (fun w' => sim_lenOf hx hm w') h1, h2, fun _ => ?_, fun h0 => firstZ_length hl h0⟩
        cases x with
          | slice a b c => exact h3 ⟨a, b, c, rfl⟩
          | string s =>
            have hsz : info.size = 1 := by simpa [strOk] using hs
            simp [lenOfI] at hm
            by_cases hm0 : n = 0
            · rw [hm0] at hl ⊢
              rw [firstZ_zero hl]; simp
            · unfold firstZ at hl
              rw [if_neg hm0] at hl
              simp [firstI] at hl
              subst hl
              rw [hsz, ← hm]
              simp
          | _ => simp [lenOfI] at hm
    · cases h
  unfold inews at h
  split at h
  · rename_i k
    split at h
    · rename_i kk l
      split at h
      · rename_i hc
        simp only [Bool.and_eq_true, decide_eq_true_eq] at hc
        obtain ⟨⟨h0, hl⟩, hb⟩ := hc
        have hxi := hx.int
        subst hxi
        split at h
        · rename_i hz
          cases h
          exact ⟨[], .zero k kk l hxd rfl h0 hl hb rfl (.inl ⟨hz, rfl⟩), .nil, fun _ => by simp [hz], fun _ => rfl⟩
        · rename_i hz
          simp only [Option.map_eq_some_iff] at h
          obtain ⟨z, hzp, he⟩ := h
          cases he
          obtain ⟨hz0, hp⟩ := zeroP_some hzp
          exact ⟨_, .zero k kk l hxd rfl h0 hl hb rfl (.inr ⟨hz, z, hz0, rfl⟩), .of_plain (zeroCells_plain hp _), fun hzs => by
            rw [hz0] at hzs
            simp only [Option.map_some, Option.some.injEq] at hzs
            rw [Array.length_toList, zeroCells_size, hzs], fun h0 => absurd (by rw [h0]; simp) hz⟩
      · cases h
    · cases h
  · rename_i hni
    exact src (fun k hk => hni k hk) h

theorem grown_rel {f : Inj} {H : IH} {w : World} {elem : TypeId} {info : TypeInfo} {old old' new new' : List Value} {len n cap' : Nat} {z : Value} (hR : Rel P f H w)
    (hi : P.info? elem = some info) (hzs : z.cells.size = info.size) (ho : VRelL P f old old') (hn : VRelL P f new new') (hol : old.length = len * info.size) (hnl : new.length = n * info.size) :
    ∃ f', Rel P f' (H.push (.cells (old ++ new).toArray elem roomFz)) (w.drew.alloc (.cells ((old' ++ new').toArray ++ Builtin.zeroCells z.cells (grownCap w (len + n) cap' elem - (len + n))) elem)) ∧
      Grow f H w f' (H.push (.cells (old ++ new).toArray elem roomFz)) (w.drew.alloc (.cells ((old' ++ new').toArray ++ Builtin.zeroCells z.cells (grownCap w (len + n) cap' elem - (len + n))) elem)) ∧
      VRel P f' (.slice (some ⟨H.size, 0, some elem⟩) (len + n) (len + n)) (.slice (some ⟨w.heap.size, 0, none⟩) (len + n) (grownCap w (len + n) cap' elem)) := by
  have hge := grownCap_ge w (len + n) cap' elem
  have hRd : Rel P f H w.drew := hR.world rfl
  have hnone : f H.size = none := by
    cases hx : f H.size with
    | none => rfl
    | some y => have := hR.dom _ _ hx; omega
  generalize hg : grownCap w (len + n) cap' elem = g at *
  have hcs : P.cellsOf elem = info.size := by simp [Program.cellsOf, hi]
  have hlo : old'.length = len * info.size := by rw [← ho.1, hol]
  have hln : new'.length = n * info.size := by rw [← hn.1, hnl]
  have hsz : ((old' ++ new').toArray ++ Builtin.zeroCells z.cells (g - (len + n))).size = g * info.size := by
    simp only [Array.size_append, List.size_toArray, List.length_append, zeroCells_size, hzs, hlo, hln, ← Nat.add_mul]
    congr 1; omega
  have hle : f.le (f.add H.size ⟨w.heap.size, 0, g * info.size, false⟩) := Inj.le_add hnone
  have hO : ORel P (f.add H.size ⟨w.heap.size, 0, g * info.size, false⟩) ⟨w.heap.size, 0, g * info.size, false⟩ (.cells (old ++ new).toArray elem roomFz)
      (some (.cells ((old' ++ new').toArray ++ Builtin.zeroCells z.cells (g - (len + n))) elem)) := by
    refine ⟨_, _, _, rfl, hsz, ?_, ?_, fun _ => ⟨rfl, rfl, fun j _ => by simp⟩, fun hx => by simp [roomFz] at hx⟩
    · have hl := (ho.append hn).1
      simp only [Array.size_append, List.size_toArray, ← hl]; omega
    · intro j v hj
      obtain ⟨u, h1, h2⟩ := (ho.append hn).get (i := j) (v := v) (by simpa using hj)
      refine ⟨u, ?_, h2.mono hle⟩
      have hjl : j < (old' ++ new').length := (List.getElem?_eq_some_iff.1 h1).1
      rw [Nat.zero_add, Array.getElem?_append, if_pos (by simpa using hjl)]
      simpa using h1
  obtain ⟨r1, r2⟩ := Rel.push (e := ⟨w.heap.size, 0, g * info.size, false⟩) hRd rfl hO
  refine ⟨_, r1, ⟨r2.isize, r2.stay, r2.le, r2.size, r2.keep, r2.un, r2.out⟩, ?_⟩
  have := VRel.room (P := P) (o := 0) (el := elem) (len := len + n) (cap := len + n) (cap' := g) (Inj.add_same (f := f) (b := H.size) (e := ⟨w.heap.size, 0, g * info.size, false⟩)) hge (by simp [hcs])
  simpa using this

end Go.Idl

namespace Go.Idl
variable {P : Program}

theorem VRelL.isEmpty {f : Inj} {l l' : List Value} (h : VRelL P f l l') (he : l.isEmpty = true) : l' = [] := by
  have : l = [] := by simpa using he
  subst this; exact h.nil_left

theorem sim_app_room {f : Inj} {H H' : IH} {w : World} {info : TypeInfo} {st xt ty elem : TypeId} {x x' : Value} {xd : TypeDesc} {n : Nat} {new : List Value} {base base' : Option Addr} {len cap cap' : Nat} {v : Value}
    (hR : Rel P f H w) (hu : P.underlying st = some (.slice elem)) (hi : P.info? elem = some info) (hxd : P.underlying xt = some xd)
    (hb : VRel P f (.slice base len cap) (.slice base' len cap')) (hroom : len + n ≤ cap)
    (hnew : inews P elem info xd x H = some (n, new)) (hx : VRel P f x x') (h : iroom elem info.size base len cap (len + n) new H = some (.val v H')) :
    Post P f H w v H' ((Builtin.append_ #[st, xt] ty #[.slice base' len cap', x']).run P w) := by
  obtain ⟨new', hs, hn, _, hn0⟩ := inews_inv hR hxd hnew hx
  unfold iroom at h
  split at h
  · rename_i a
    split at h
    · rename_i hel
      have hval : ∃ e, f a.block = some e ∧ len + n ≤ cap' ∧ VRel P f (.slice (some a) (len + n) cap) (.slice base' (len + n) cap') ∧ (base' = some ⟨e.r, a.off + e.shift, none⟩ ∨ n = 0) := by
        cases hb with
        | base _ hp => have hp' : false = true := hp; cases hp'
        | sl hb => exact ⟨_, hb, hroom, .sl hb, .inl rfl⟩
        | room hb hc hN => exact ⟨_, hb, by omega, .room hb hc hN, .inl rfl⟩
        | room0 hb hsh hN =>
          have : n = 0 := by omega
          subst this
          exact ⟨_, hb, by omega, .room0 hb hsh hN, .inr rfl⟩
        | gh hb hg =>
          have : n = 0 := by omega
          subst this
          exact ⟨_, hb, by omega, .gh hb hg, .inr rfl⟩
      obtain ⟨e, he, hcap', hv, hbase⟩ := hval
      have done0 : new = [] → Post P f H w (.slice (some a) (len + n) cap) H ((Builtin.append_ #[st, xt] ty #[.slice base' len cap', x']).run P w) := by
        intro hne
        subst hne
        have := hn.nil_left; subst this
        refine .same hR (v' := .slice base' (len + n) cap') (run_app_room hu hi hs hcap' (fun a _ => by simp [storeCells]) (fun _ => rfl)) hv
      split at h
      · rename_i hne
        obtain ⟨rfl, rfl⟩ := val_inj h
        exact done0 (by simpa using hne)
      · rename_i hne
        split at h
        · rename_i H2 hst
          obtain ⟨rfl, rfl⟩ := val_inj h
          rcases hbase with hbase | hz
          · obtain ⟨w', e1, e2, e3, e4⟩ := sim_stores hR he hst hn
            refine ⟨_, w', f, run_app_room (w1 := w') hu hi hs hcap' (fun a' ha' => ?_) (fun hno => by rw [hbase] at hno; cases hno), e2, e3, hv, e4⟩
            rw [hbase] at ha'; cases ha'
            rw [add_addr, show a.off + e.shift + len * info.size = a.off + len * info.size + e.shift by omega]
            exact e1
          · exact absurd (by simp [hn0 hz]) hne
        · cases h
    · cases h
  · split at h
    · rename_i hc
      simp only [Bool.and_eq_true, beq_iff_eq] at hc
      obtain ⟨rfl, rfl⟩ := hc
      obtain ⟨rfl, rfl⟩ := val_inj h
      have hb0 := hb.nilSlice
      cases hb0
      have : n = 0 := by omega
      subst this
      exact .same hR (v' := .slice none (0 + 0) 0) (run_app_room hu hi hs (by omega) (fun a ha => by cases ha) (fun _ => rfl)) (.base _ rfl)
    · cases h

theorem sim_app_grow {f : Inj} {H H' : IH} {w : World} {info : TypeInfo} {st xt ty elem : TypeId} {x x' : Value} {xd : TypeDesc} {n : Nat} {new : List Value} {base base' : Option Addr} {len cap cap' : Nat} {v : Value}
    (hR : Rel P f H w) (hu : P.underlying st = some (.slice elem)) (hi : P.info? elem = some info) (hxd : P.underlying xt = some xd)
    (hb : VRel P f (.slice base len cap) (.slice base' len cap')) (hroom : cap < len + n)
    (hnew : inews P elem info xd x H = some (n, new)) (hx : VRel P f x x') (h : igrow P elem info base len cap (len + n) new H = some (.val v H')) :
    Post P f H w v H' ((Builtin.append_ #[st, xt] ty #[.slice base' len cap', x']).run P w) := by
  obtain ⟨new', hs, hn, hnl, hn0⟩ := inews_inv hR hxd hnew hx
  have hcs : P.cellsOf elem = info.size := by simp [Program.cellsOf, hi]
  unfold igrow at h
  split at h
  · rename_i hc
    simp only [Bool.and_eq_true, decide_eq_true_eq, beq_iff_eq, List.all_eq_true] at hc
    obtain ⟨⟨⟨h40, h45⟩, h1⟩, hzs⟩ := hc
    have hnlen := hnl hzs
    obtain ⟨z, hz, hzsz⟩ : ∃ z, zeroT P elem = some z ∧ z.cells.size = info.size := by
      cases hz : zeroT P elem with
      | none => rw [hz] at hzs; cases hzs
      | some z => rw [hz] at hzs; simp at hzs; exact ⟨z, rfl, hzs⟩
    split at h
    · rename_i old H2 hold hk
      obtain ⟨rfl, rfl⟩ := val_inj h
      obtain ⟨old', ho1, ho2, ho3⟩ := sim_first hR hold hb (m := len) (by simp [lenOfI]) (Nat.le_refl _)
      have hol := ho3 ⟨_, _, _, rfl⟩
      -- a new row, where the elder ideal block may have died
      have realloc : cap' < len + n → (H2 = H ∨ ∃ b e, f b = some e ∧ H2 = H.put b deadObj) →
          Post P f H w (.slice (some ⟨H2.size, 0, some elem⟩) (len + n) (len + n)) (H2.push (.cells (old ++ new).toArray elem roomFz)) ((Builtin.append_ #[st, xt] ty #[.slice base' len cap', x']).run P w) := by
        intro hcap hH
        have hrun := run_app_grow (ty := ty) hu hi hz hs hcap h40 h45 (ho1 w.drew rfl)
        have hR2 : Rel P f H2 w := by
          rcases hH with rfl | ⟨b, e, hbe, rfl⟩
          · exact hR
          · exact hR.kill hbe
        have hK : Keep f H (H2.push (.cells (old ++ new).toArray elem roomFz)) := by
          rcases hH with rfl | ⟨b, e, hbe, rfl⟩
          · exact .push
          · refine ⟨by simp, fun y hy hny => ?_⟩
            rw [IH.get_push, IH.size_put, if_neg (by omega), IH.get_put, if_neg (fun hyb => by subst hyb; rw [hbe] at hny; cases hny)]
        obtain ⟨f', g1, g2, g3⟩ := grown_rel (cap' := cap') hR2 hi hzsz ho2 hn hol hnlen
        have hsz : H2.size = H.size := by
          rcases hH with rfl | ⟨b, e, hbe, rfl⟩
          · rfl
          · rfl
        exact ⟨_, _, f', hrun, g1, g2.sizes (by rw [hsz]; exact Nat.le_refl _) (Nat.le_refl _), g3, hK⟩
      cases hb with
      | base _ hp =>
        have hbase : base = none := by
          cases base with
          | none => rfl
          | some a => have hp' : false = true := hp; cases hp'
        subst hbase
        simp only [ikill, Option.some.injEq] at hk
        exact realloc hroom (.inl hk.symm)
      | sl hb' =>
        simp only [ikill, Option.some.injEq] at hk
        exact realloc hroom (.inl hk.symm)
      | gh hb' hg =>
        simp only [firstI] at hold
        exact (gh_loads hR hb' hg hold).elim
      | @room b o el _ _ _ e hb' hcc hN =>
        simp only [ikill] at hk
        split at hk
        · rename_i c el' fz hg
          split at hk
          · rename_i hcond
            simp only [Bool.and_eq_true, beq_iff_eq, decide_eq_true_eq] at hcond
            obtain ⟨⟨⟨hfz, hbase⟩, rfl⟩, rfl⟩ := hcond
            simp only [Option.some.injEq] at hk
            subst hk
            by_cases hcap : cap' < len + n
            · exact realloc hcap (.inr ⟨b, e, hb', rfl⟩)
            · simp only [firstI] at hold
              obtain ⟨old2, q1, q2, q3⟩ := cells_rel hR hb' hold
              have hfit : o + e.shift + old.length + new.length ≤ e.N := by
                have : (len + n) * info.size ≤ cap' * info.size := Nat.mul_le_mul_right _ (by omega)
                rw [hol, hnlen]
                rw [hcs] at hN
                rw [Nat.add_mul] at this
                omega
              obtain ⟨w', f', p1, p2, p3, p4, p5⟩ := inplace (a0 := o + e.shift) hR hb' hg hfz q1 hn hfit h1 (fun j u hj => by have := q3 j u hj; rwa [add_addr] at this)
              refine ⟨_, w', f', run_app_room (w1 := w') hu hi hs (by omega) (fun a ha => ?_) (fun hno => by cases hno), p2, p3, ?_, p5⟩
              · cases ha
                rw [add_addr, ← hol]
                exact p1
              · have := VRel.room (P := P) (o := 0) (el := el') (len := len + n) (cap := len + n) (cap' := cap') p4 (by omega) (by simpa using hN)
                simpa using this
          · cases hk
        · cases hk
      | @room0 b o o' el _ e hb' hsh hN =>
        simp only [ikill] at hk
        split at hk
        · rename_i c el' fz hg
          split at hk
          · rename_i hcond
            simp only [Bool.and_eq_true, beq_iff_eq, decide_eq_true_eq] at hcond
            obtain ⟨⟨⟨hfz, hbase⟩, rfl⟩, rfl⟩ := hcond
            simp only [Option.some.injEq] at hk
            subst hk
            by_cases hcap : cap' < 0 + n
            · exact realloc hcap (.inr ⟨b, e, hb', rfl⟩)
            · have hold0 : old = [] := by simpa using hol
              subst hold0
              have hfit : o' + ([] : List Value).length + new.length ≤ e.N := by
                have : n * info.size ≤ cap' * info.size := Nat.mul_le_mul_right _ (by omega)
                rw [hnlen]
                rw [hcs] at hN
                simp only [List.length_nil]
                omega
              obtain ⟨w', f', p1, p2, p3, p4, p5⟩ := inplace (a0 := o') hR hb' hg hfz (.nil : VRelL P f [] []) hn hfit h1 (fun j u hj => by simp at hj)
              refine ⟨_, w', f', run_app_room (w1 := w') hu hi hs (by omega) (fun a ha => ?_) (fun hno => by cases hno), p2, p3, ?_, p5⟩
              · cases ha
                rw [add_addr]
                simpa using p1
              · have := VRel.room (P := P) (o := 0) (el := el') (len := 0 + n) (cap := 0 + n) (cap' := cap') p4 (by omega) (by simpa using hN)
                simpa using this
          · cases hk
        · cases hk
    · cases h
  · cases h

theorem sim_append {f : Inj} {H H' : IH} {w : World} {at_ : Array TypeId} {as as' : List Value} {t : TypeId} {v : Value} (hR : Rel P f H w) (h : iappend P at_ as H = some (.val v H')) (ha : VRelL P f as as') :
    Post P f H w v H' ((Builtin.append_ at_ t as'.toArray).run P w) := by
  unfold iappend at h
  split at h
  · rename_i st xt base len cap x hat
    obtain ⟨s', r1, rfl, hs, hr1⟩ := ha.uncons
    obtain ⟨x', r2, rfl, hx, hr2⟩ := hr1.uncons
    have := hr2.nil_left; subst this
    obtain ⟨a', c', rfl⟩ := hs.slice_len
    have hat0 : at_ = #[st, xt] := by apply Array.ext'; simpa using hat
    subst hat0
    split at h
    · rename_i elem hu
      split at h
      · rename_i info xd hi hxd
        unfold iappend2 at h
        split at h
        · rename_i n new hnew
          split at h
          · exact sim_app_room hR hu hi hxd hs (by assumption) hnew hx h
          · exact sim_app_grow hR hu hi hxd hs (by omega) hnew hx h
        · cases h
      · cases h
    · cases h
  · cases h

end Go.Idl

namespace Go.Idl
variable {P : Program}

theorem sdry_run {α : Type} : ∀ (s : Sem α) {x : α}, sdry P s = some x → ∀ w, s.run P w = .ok x w
  | .pure a, x, h, w => by
    have : some a = some x := h
    cases this; rfl
  | .load _ _ _, x, h, w => by have h' : none = some x := h; cases h'
  | .store _ _ _ _, x, h, w => by have h' : none = some x := h; cases h'
  | .new _ _, x, h, w => by have h' : none = some x := h; cases h'
  | .shape _ _, x, h, w => by have h' : none = some x := h; cases h'
  | .freeze _ _ _, x, h, w => by have h' : none = some x := h; cases h'
  | .frozen _ _, x, h, w => by have h' : none = some x := h; cases h'
  | .getObj _ _, x, h, w => by have h' : none = some x := h; cases h'
  | .setObj _ _ _, x, h, w => by have h' : none = some x := h; cases h'
  | .choose q k, x, h, w => by
    have h' : cond q.forced (sdry P (k 0)) none = some x := h
    cases hq : q.forced with
    | false => rw [hq] at h'; cases h'
    | true =>
      rw [hq] at h'
      have := sdry_run (k 0) h' w
      unfold Sem.run
      rw [if_pos hq]; exact this
  | .sys _ _, x, h, w => by have h' : none = some x := h; cases h'
  | .program k, x, h, w => sdry_run (k P) h w
  | .mark _ k, x, h, w => sdry_run k h w
  | .halt _, x, h, w => by have h' : none = some x := h; cases h'

/-- what an operation comes to, in the real run: a value, or nothing -/
def NPost (P : Program) (f : Inj) (H : IH) (w : World) (v : Value) (H' : IH) (r : Result Next) : Prop :=
  ∃ nx v' w' f', r = .ok nx w' ∧ (nx = .value v' ∨ (nx = .skip ∧ v' = undef)) ∧ Rel P f' H' w' ∧ Grow f H w f' H' w' ∧ VRel P f' v v' ∧ Keep f H H'

theorem Post.next {f : Inj} {H H' : IH} {w : World} {v : Value} {s : Sem Value} (h : Post P f H w v H' (s.run P w)) :
    NPost P f H w v H' ((do pure (Next.value (← s)) : Sem Next).run P w) := by
  obtain ⟨v', w', f', h1, h2, h3, h4, h5⟩ := h
  exact ⟨.value v', v', w', f', by simp [h1], .inl rfl, h2, h3, h4, h5⟩

theorem dryOk_rel {v : Value} (h : dryOk v = true) (f : Inj) : VRel P f v v := by
  cases v <;> first
    | exact .of_tuple (.of_plain h)
    | exact .base _ h

theorem idry_val {o : Oper} {env : Env} {H : IH} {s : Step1} (h : idry P o env H = some s) :
    ∃ v, s = .val v H ∧ plainL (mapR env.val o.op.operands.toList) = true ∧ sdry P (execOp env.val o) = some (.value v) ∧ ∀ f, VRel P f v v := by
  unfold idry at h
  split at h
  · rename_i hp
    unfold dryNext at h
    split at h
    · rename_i v hs
      unfold dryVal at h
      cases hd : dryOk v with
      | false => rw [hd] at h; cases h
      | true =>
        rw [hd] at h
        have h' : some (Step1.val v H) = some s := h
        cases h'
        exact ⟨v, rfl, hp, hs, dryOk_rel hd⟩
    · cases h
  · cases h

theorem noSelect_of_plain {o : Oper} {env : Env} {v : Value} (h : sdry P (execOp env.val o) = some (.value v)) : ∀ cs b, o.op ≠ .select cs b := by
  intro cs b ho
  unfold execOp at h
  rw [ho] at h
  have := sdry_run _ h default
  simp only [Sem.run_bind] at this
  cases hm : (Array.mapM (fun s : SelectCase => do pure { chan := env.val s.chan, send := s.send.map env.val, zero := ← zeroValue s.elem : CommCase }) cs).run P default with
  | ok a w => rw [hm] at this; simp at this
  | halt a w => rw [hm] at this; simp [Result.andThen] at this

theorem sim_dry {f : Inj} {H H' : IH} {w : World} {o : Oper} {env : Env} {ρ : Operand → Value} {v : Value} (hR : Rel P f H w) (h : idry P o env H = some (.val v H'))
    (hρ : ∀ x ∈ o.op.operands, VRel P f (env.val x) (ρ x)) : NPost P f H w v H' ((execOp ρ o).run P w) := by
  obtain ⟨v2, he, hp, hs, hv⟩ := idry_val h
  cases he
  have heq : execOp ρ o = execOp env.val o := execOp_congr o (noSelect_of_plain hs) fun x hx => by
    have hx' : x ∈ o.op.operands.toList := by simpa using hx
    have := allR_iff.1 hp (env.val x) (by rw [mapR_eq]; exact List.mem_map_of_mem hx')
    exact (hρ x hx).plain this
  rw [heq, sdry_run _ hs w]
  exact ⟨.value v, v, w, f, rfl, .inl rfl, hR, .refl _ _ _, hv f, .refl _ _⟩

end Go.Idl

namespace Go.Idl
variable {P : Program}

theorem run_intBin {op : BinOp} {t : TypeId} {k : IntKind} {a b : Int} {v : Value} (h : intBin op k a b = some v) (w : World) : (binOp op t (.int k a) (.int k b)).run P w = .ok v w := by
  unfold intBin at h
  cases op <;> simp only [Option.some.injEq, reduceCtorEq] at h <;>
    first
    | (subst h; simp [binOp, Op.intArith, Op.intCmp])
    | (split at h
       · cases h
       · rename_i h0; cases h; simp [binOp, Op.intDiv, h0])

theorem run_eqGuard_int {op : BinOp} {t : TypeId} {x y : Operand} {k k' : IntKind} {a b : Int} (w : World) : (eqGuard op t x y (.int k a) (.int k' b)).run P w = .ok () w := by
  unfold eqGuard
  cases op <;> simp

theorem plain_int {op : BinOp} {k : IntKind} {a b : Int} {v : Value} (h : intBin op k a b = some v) : plainV v = true := by
  unfold intBin at h
  cases op <;> simp only [Option.some.injEq, reduceCtorEq] at h <;>
    first
    | (subst h; rfl)
    | (split at h
       · cases h
       · cases h; rfl)

/-- neither guards nor numbers -/
def refV : Value → Bool
  | .pointer _ | .slice _ _ _ | .map _ | .nilFunc | .func _ _ _ => true
  | _ => false

theorem run_eqGuard_ref {op : BinOp} {t : TypeId} {x y : Operand} {a b : Value} (h : refV a = true) (w : World) : (eqGuard op t x y a b).run P w = .ok () w := by
  unfold eqGuard
  cases op <;> cases a <;> simp [refV] at h <;> simp

theorem binOp_eql {t : TypeId} {a b : Value} (h : refV a = true) : binOp .eql t a b = (do pure (.bool (← Op.equal t a b))) := by
  cases a <;> simp [refV] at h <;> cases b <;> rfl
theorem binOp_neq {t : TypeId} {a b : Value} (h : refV a = true) : binOp .neq t a b = (do pure (.bool (!(← Op.equal t a b)))) := by
  cases a <;> simp [refV] at h <;> cases b <;> rfl

theorem VRel.ptr_opt {f : Inj} {a : Option Addr} {v' : Value} (h : VRel P f (.pointer a) v') : ∃ a', v' = .pointer a' ∧ a'.isNone = a.isNone := by
  cases h with
  | base _ hp => exact ⟨_, rfl, rfl⟩
  | ptr h => exact ⟨_, rfl, rfl⟩
theorem VRel.sl_opt {f : Inj} {a : Option Addr} {l c : Nat} {v' : Value} (h : VRel P f (.slice a l c) v') : ∃ a' c', v' = .slice a' l c' ∧ a'.isNone = a.isNone := by
  cases h with
  | base _ hp => exact ⟨_, _, rfl, rfl⟩
  | sl h => exact ⟨_, _, rfl, rfl⟩
  | room h _ _ => exact ⟨_, _, rfl, rfl⟩
  | room0 h _ _ => exact ⟨_, _, rfl, rfl⟩
  | gh h _ => exact ⟨_, _, rfl, rfl⟩
theorem VRel.map_opt {f : Inj} {a : Option Nat} {v' : Value} (h : VRel P f (.map a) v') : ∃ a', v' = .map a' ∧ a'.isNone = a.isNone := by
  cases h with
  | base _ hp => exact ⟨_, rfl, rfl⟩
  | map h => exact ⟨_, rfl, rfl⟩
theorem eqIn_ptr {t e : TypeId} (d : Nat) (hu : P.underlying t = some (.pointer e)) (a c : Option Addr) (h : a = none ∨ c = none) (w : World) :
    (Op.equalIn (d + 1) t (.pointer a) (.pointer c)).run P w = .ok (a.isNone && c.isNone) w := by
  cases a <;> cases c <;> simp at h <;> simp [Op.equalIn, run_underlying hu]
theorem eqIn_slice {t e : TypeId} (d : Nat) (hu : P.underlying t = some (.slice e)) (a c : Option Addr) (l1 l2 c1 c2 : Nat) (h : a = none ∨ c = none) (w : World) :
    (Op.equalIn (d + 1) t (.slice a l1 c1) (.slice c l2 c2)).run P w = .ok (a.isNone && c.isNone) w := by
  cases a <;> cases c <;> simp at h <;> simp [Op.equalIn, run_underlying hu]
theorem eqIn_map {t k e : TypeId} (d : Nat) (hu : P.underlying t = some (.map k e)) (a c : Option Nat) (h : a = none ∨ c = none) (w : World) :
    (Op.equalIn (d + 1) t (.map a) (.map c)).run P w = .ok (a.isNone && c.isNone) w := by
  cases a <;> cases c <;> simp at h <;> simp [Op.equalIn, run_underlying hu]

def isFnV : Value → Bool
  | .nilFunc | .func _ _ _ => true
  | _ => false
def isNilFn : Value → Bool
  | .nilFunc => true
  | _ => false
theorem eqIn_func {t : TypeId} (d : Nat) {p r : Array TypeId} {va : Bool} (hu : P.underlying t = some (.func p r va)) {x y : Value} (hx : isFnV x = true) (hy : isFnV y = true)
    (h : isNilFn x = true ∨ isNilFn y = true) (w : World) : (Op.equalIn (d + 1) t x y).run P w = .ok (isNilFn x && isNilFn y) w := by
  cases x <;> simp [isFnV] at hx <;> cases y <;> simp [isFnV] at hy <;> simp [isNilFn] at h <;> simp [Op.equalIn, run_underlying hu, isNilFn]

theorem VRel.fnV {f : Inj} {x x' : Value} (hx : VRel P f x x') (h : isFnV x = true) : isFnV x' = true ∧ isNilFn x' = isNilFn x := by
  cases hx with
  | any _ => simp [unk, isFnV] at h
  | undef => simp [Go.undef, isFnV] at h
  | base _ _ => exact ⟨h, rfl⟩
  | func _ _ _ _ => exact ⟨rfl, rfl⟩
  | yield _ => exact ⟨rfl, rfl⟩
  | _ => simp [isFnV] at h

theorem inil_ptr {a : Option Addr} {y : Value} {b : Bool} (h : inilEq (.pointer a) y = some b) : ∃ c, y = .pointer c ∧ (a = none ∨ c = none) ∧ b = (a.isNone && c.isNone) := by
  cases y <;> cases a <;> simp [inilEq] at h
  · subst h; exact ⟨_, rfl, .inl rfl, by simp⟩
  · rename_i c q
    cases c <;> simp at h
    subst h; exact ⟨_, rfl, .inr rfl, by simp⟩
theorem inil_slice {a : Option Addr} {l c : Nat} {y : Value} {b : Bool} (h : inilEq (.slice a l c) y = some b) : ∃ a2 l2 c2, y = .slice a2 l2 c2 ∧ (a = none ∨ a2 = none) ∧ b = (a.isNone && a2.isNone) := by
  cases y <;> cases a <;> simp [inilEq] at h
  · subst h; exact ⟨_, _, _, rfl, .inl rfl, by simp⟩
  · rename_i c _ _ q
    cases c <;> simp at h
    subst h; exact ⟨_, _, _, rfl, .inr rfl, by simp⟩
theorem inil_map {a : Option Nat} {y : Value} {b : Bool} (h : inilEq (.map a) y = some b) : ∃ c, y = .map c ∧ (a = none ∨ c = none) ∧ b = (a.isNone && c.isNone) := by
  cases y <;> cases a <;> simp [inilEq] at h
  · subst h; exact ⟨_, rfl, .inl rfl, by simp⟩
  · rename_i c q
    cases c <;> simp at h
    subst h; exact ⟨_, rfl, .inr rfl, by simp⟩
theorem inil_fn {x y : Value} {b : Bool} (h : inilEq x y = some b) (hx : isFnV x = true) : isFnV y = true ∧ (isNilFn x = true ∨ isNilFn y = true) ∧ b = (isNilFn x && isNilFn y) := by
  cases x <;> simp [isFnV] at hx <;> cases y <;> simp [inilEq] at h <;> subst h <;> simp [isFnV, isNilFn]

theorem none_iff {α : Type} {a a' : Option α} (h : a'.isNone = a.isNone) (hn : a = none) : a' = none := by subst hn; simpa using h

theorem sim_nilEq {f : Inj} {t : TypeId} {x x' y y' : Value} {b : Bool} (h : inilEq x y = some b) (hk : nilKind P t x = true) (hx : VRel P f x x') (hy : VRel P f y y') (w : World) :
    refV x' = true ∧ (Op.equal t x' y').run P w = .ok b w := by
  unfold nilKind at hk
  show refV x' = true ∧ (Op.equalIn (9999 + 1) t x' y').run P w = .ok b w
  generalize 9999 = d
  split at hk
  · rename_i e a hu
    obtain ⟨c, rfl, hn, rfl⟩ := inil_ptr h
    obtain ⟨a', rfl, ha⟩ := hx.ptr_opt
    obtain ⟨c', rfl, hc⟩ := hy.ptr_opt
    rw [← ha, ← hc]
    exact ⟨rfl, eqIn_ptr d hu _ _ (hn.imp (none_iff ha) (none_iff hc)) w⟩
  · rename_i e a l1 c1 hu
    obtain ⟨c, l2, c2, rfl, hn, rfl⟩ := inil_slice h
    obtain ⟨a', q1, rfl, ha⟩ := hx.sl_opt
    obtain ⟨c', q2, rfl, hc⟩ := hy.sl_opt
    rw [← ha, ← hc]
    exact ⟨rfl, eqIn_slice d hu _ _ _ _ _ _ (hn.imp (none_iff ha) (none_iff hc)) w⟩
  · rename_i k e a hu
    obtain ⟨c, rfl, hn, rfl⟩ := inil_map h
    obtain ⟨a', rfl, ha⟩ := hx.map_opt
    obtain ⟨c', rfl, hc⟩ := hy.map_opt
    rw [← ha, ← hc]
    exact ⟨rfl, eqIn_map d hu _ _ (hn.imp (none_iff ha) (none_iff hc)) w⟩
  · rename_i p r va hu
    obtain ⟨h1, h2, rfl⟩ := inil_fn h rfl
    obtain ⟨g1, g2⟩ := hx.fnV rfl
    obtain ⟨k1, k2⟩ := hy.fnV h1
    rw [← g2, ← k2]
    refine ⟨?_, eqIn_func d hu g1 k1 (by rw [g2, k2]; exact h2) w⟩
    cases x' <;> simp [isFnV] at g1 <;> rfl
  · rename_i p r va fn a1 a2 hu
    obtain ⟨h1, h2, rfl⟩ := inil_fn h rfl
    obtain ⟨g1, g2⟩ := hx.fnV rfl
    obtain ⟨k1, k2⟩ := hy.fnV h1
    rw [← g2, ← k2]
    refine ⟨?_, eqIn_func d hu g1 k1 (by rw [g2, k2]; exact h2) w⟩
    cases x' <;> simp [isFnV] at g1 <;> rfl
  · cases hk

theorem eqIn_ptrSame {t e : TypeId} {n : Nat} (d : Nat) (hu : P.underlying t = some (.pointer e)) (hs : szT P e = some n) (hn : n ≠ 0) (a b : Addr) (h : a.block = b.block) (w : World) :
    (Op.equalIn (d + 1) t (.pointer (some a)) (.pointer (some b))).run P w = .ok (a == b) w := by
  simp [Op.equalIn, run_underlying hu, run_size hs, hn, sameAddr, h]

theorem sim_ptrEq {f : Inj} {t : TypeId} {x x' y y' : Value} {b : Bool} (h : iptrEq P t x y = some b) (hx : VRel P f x x') (hy : VRel P f y y') (w : World) :
    refV x' = true ∧ (Op.equal t x' y').run P w = .ok b w := by
  unfold iptrEq at h
  split at h
  · rename_i a c
    split at h
    · rename_i el hu
      split at h
      · rename_i n hs
        split at h
        · rename_i hc
          simp only [Bool.and_eq_true, bne_iff_ne, ne_eq, beq_iff_eq, Option.isNone_iff_eq_none] at hc
          obtain ⟨⟨⟨hn, hb⟩, h1⟩, h2⟩ := hc
          obtain ⟨ab, ao, as⟩ := a
          obtain ⟨cb, co, cs⟩ := c
          simp only at hb h1 h2
          subst hb h1 h2
          obtain ⟨e1, he1, rfl⟩ := hx.ptr_inv
          obtain ⟨e2, he2, rfl⟩ := hy.ptr_inv
          rw [he1] at he2; cases he2
          refine ⟨rfl, ?_⟩
          have := eqIn_ptrSame (P := P) 9999 hu hs hn ⟨e1.r, ao + e1.shift, none⟩ ⟨e1.r, co + e1.shift, none⟩ rfl w
          rw [show Op.equal t (Value.pointer (some ⟨e1.r, ao + e1.shift, none⟩)) (Value.pointer (some ⟨e1.r, co + e1.shift, none⟩)) = Op.equalIn (9999 + 1) t (.pointer (some ⟨e1.r, ao + e1.shift, none⟩)) (.pointer (some ⟨e1.r, co + e1.shift, none⟩)) from rfl, this]
          simp only [Option.some.injEq] at h
          subst h
          congr 1
          rw [Bool.eq_iff_iff]
          simp
        · cases h
      · cases h
    · cases h
  · cases h

theorem sim_nilEq2 {f : Inj} {t : TypeId} {x x' y y' : Value} {b : Bool} (h : nilEq2 P t x y = some b) (hx : VRel P f x x') (hy : VRel P f y y') (w : World) :
    refV x' = true ∧ (Op.equal t x' y').run P w = .ok b w := by
  unfold nilEq2 at h
  split at h
  · rename_i b' hb
    cases hk : nilKind P t x with
    | false => rw [hk] at h; cases h
    | true => rw [hk] at h; cases h; exact sim_nilEq hb hk hx hy w
  · exact sim_ptrEq h hx hy w

theorem sim_binOp {f : Inj} {H H' : IH} {w : World} {o : Oper} {env : Env} {ρ : Operand → Value} {v : Value} {op : BinOp} {t : TypeId} {x y : Operand} {u : TypeId} (hR : Rel P f H w) (ho : o.op = .binOp op t x y u)
    (h : ibinOp P o op t (env.val x) (env.val y) env H = some (.val v H')) (hρ : ∀ x ∈ o.op.operands, VRel P f (env.val x) (ρ x)) : NPost P f H w v H' ((execOp ρ o).run P w) := by
  have hx : VRel P f (env.val x) (ρ x) := hρ x (by rw [ho]; simp [Op.operands])
  have hy : VRel P f (env.val y) (ρ y) := hρ y (by rw [ho]; simp [Op.operands])
  have hexec : execOp ρ o = (do pure (.value (← (do eqGuard op t x y (ρ x) (ρ y); binOp op t (ρ x) (ρ y))))) := by unfold execOp; rw [ho]
  have fin : ∀ (v' : Value), (eqGuard op t x y (ρ x) (ρ y)).run P w = .ok () w → (binOp op t (ρ x) (ρ y)).run P w = .ok v' w → VRel P f v v' → H' = H → NPost P f H w v H' ((execOp ρ o).run P w) := by
    intro v' h1 h2 h3 h4
    subst h4
    rw [hexec]
    exact ⟨.value v', v', w, f, by simp [h1, h2], .inl rfl, hR, .refl _ _ _, h3, .refl _ _⟩
  have nil : nilBin P o op t (env.val x) (env.val y) env H = some (.val v H') → NPost P f H w v H' ((execOp ρ o).run P w) := by
    intro h
    unfold nilBin at h
    split at h
    · split at h
      · rename_i b hb
        obtain ⟨rfl, rfl⟩ := val_inj h
        obtain ⟨h1, h2⟩ := sim_nilEq2 hb hx hy w
        exact fin _ (run_eqGuard_ref h1 w) (by rw [binOp_eql h1]; simp [h2]) (.base _ rfl) rfl
      · exact sim_dry hR h hρ
    · split at h
      · rename_i b hb
        obtain ⟨rfl, rfl⟩ := val_inj h
        obtain ⟨h1, h2⟩ := sim_nilEq2 hb hx hy w
        exact fin _ (run_eqGuard_ref h1 w) (by rw [binOp_neq h1]; simp [h2]) (.base _ rfl) rfl
      · exact sim_dry hR h hρ
    · exact sim_dry hR h hρ
  unfold ibinOp at h
  split at h
  · rename_i k a hxa
    split at h
    · rename_i k' b hyb
      have ex : env.val x = .int k a := by
        cases hv : env.val x <;> rw [hv] at hxa <;> simp [asI] at hxa
        rw [hxa.1, hxa.2]
      have ey : env.val y = .int k' b := by
        cases hv : env.val y <;> rw [hv] at hyb <;> simp [asI] at hyb
        rw [hyb.1, hyb.2]
      unfold intBin2 at h
      cases hkk : Nat.beq (kIdx k) (kIdx k') with
      | false => rw [hkk] at h; exact sim_dry hR h hρ
      | true =>
        rw [hkk] at h
        have := kIdx_inj hkk
        subst this
        cases hib : intBin op k a b with
        | none => rw [hib] at h; exact sim_dry hR h hρ
        | some v2 =>
          rw [hib] at h
          obtain ⟨rfl, rfl⟩ := val_inj h
          have hx' : ρ x = .int k a := by rw [ex] at hx; exact hx.int
          have hy' : ρ y = .int k b := by rw [ey] at hy; exact hy.int
          exact fin _ (by rw [hx', hy']; exact run_eqGuard_int w) (by rw [hx', hy']; exact run_intBin hib w) (.base _ (plain_int hib)) rfl
    · exact nil h
  · exact nil h

end Go.Idl
