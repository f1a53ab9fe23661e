/- Operations on values without a heap against the ideal ones: addresses, slices, comparisons, builtins. Conditions: none. -/
import Derived.Test.YtpdlblofcdcikaaGreatDoorPur4
set_option linter.unusedSimpArgs false
set_option linter.unusedVariables false
namespace Go.Idl
variable {P : Program} {Z : Nat → Prop} {H : IH} {M : Nat → Option (Nat × PO)} {m : Nat → Nat} {ph : PHp}

theorem own_live {k t o n s : Nat} {v : Value} {ob : PO} (h : VR P Z H (own m ph) (.own k t o n) v) (hl : plook k ph = some ob) (hs : szT P ob.el = some s) (he : t * s = ob.cs.length) : OwnIs s (m k) ob t o n v ∧ 0 < s := by
  cases h with
  | own _ h =>
    obtain ⟨s', h1, h2, _, h4⟩ := h (m k) ob (own_some hl)
    rw [hs] at h1; cases h1
    exact ⟨h4 he, h2⟩
theorem live_inv {k t : Nat} (h : live? k t ph = true) : ∃ ob, plook k ph = some ob ∧ t = ob.cs.length := by
  unfold live? at h
  split at h
  · rename_i ob hl; exact ⟨ob, hl, Nat.eq_of_beq_eq_true h⟩
  · cases h
/-- the object of a slice that is not nil -/
theorem own_real {t s : Nat} {ob : PO} (he : t * s = ob.cs.length) (h0 : 0 < s) (hg : ob.gr = true → t ≠ 0) : real ob := fun ⟨h1, h2⟩ => by
  have := hg h1
  rw [h2] at he
  rcases Nat.mul_eq_zero.1 (show t * s = 0 from he) with h | h
  · exact this h
  · omega

theorem pnilCheck_ok {x y : PV} {v : Value} (hx : VR P Z H (own m ph) x v) (h : pnilCheck x ph = some y) : inilCheck v H = some (.val v H) ∧ y = x := by
  unfold pnilCheck at h
  split at h
  · rename_i k t off
    cases hb : live? k t ph with
    | false => rw [hb] at h; cases h
    | true =>
      rw [hb] at h; cases h
      obtain ⟨ob, h1, h2⟩ := live_inv hb
      obtain ⟨rfl, _⟩ := ref_live hx h1 h2
      exact ⟨rfl, rfl⟩
  · cases h; cases hx; exact ⟨rfl, rfl⟩
  · cases h; cases hx; exact ⟨rfl, rfl⟩
  · cases h
    have := pl_ok hx rfl
    subst this
    exact ⟨rfl, rfl⟩
  · cases h
theorem pmakeFunc_ok {fn : Fn} {fs cs : List PV} {vf vc : Array Value} {y : PV} (h1 : VRL P Z H M fs vf.toList) (h2 : VRL P Z H M cs vc.toList) (h : pmakeFunc fn fs cs = some y) : ∃ v, imakeFunc fn vf vc H = some (.val v H) ∧ VR P Z H M y v := by
  unfold pmakeFunc at h
  split at h
  · rename_i g
    refine ⟨.func (.func g) vf vc, rfl, ?_⟩
    have gen : VR P Z H M (.fn g fs cs) (.func (.func g) vf vc) := .fn (by simpa using h1.len) (by simpa using h2.len) (fun i x v a b => h1.val i x v a (by simpa using b)) (fun i x v a b => h2.val i x v a (by simpa using b))
    cases h
    split
    · have e1 : vf = #[] := by have := h1.nil_left; simpa using this
      have e2 : vc = #[] := by have := h2.nil_left; simpa using this
      subst e1 e2
      exact fvv_ok rfl
    · exact gen
  · cases h

/-! ### Slices -/
theorem bnd_ok {d most most' r : Nat} {x : Option PV} {v : Option Value} (hx : ∀ y, x = some y → ∃ u, v = some u ∧ VR P Z H M y u) (hn : x = none → v = none) (hle : most ≤ most') (h : bnd d most x = some r) : boundI d most' v = some r := by
  unfold bnd at h
  split at h
  · rw [hn rfl]; exact h
  · rename_i k i
    obtain ⟨u, rfl, hu⟩ := hx _ rfl
    have := pl_ok hu rfl
    subst this
    split at h
    · rename_i hc
      cases h
      have : (decide (0 ≤ i) && decide (i ≤ (most' : Int))) = true := by
        simp only [Bool.and_eq_true, decide_eq_true_eq]; omega
      simp only [boundI, this, if_true]
    · cases h
  · cases h
theorem bnd_le {d most r : Nat} {x : Option PV} (hd : d ≤ most) (h : bnd d most x = some r) : r ≤ most := by
  unfold bnd at h
  split at h
  · cases h; exact hd
  · split at h
    · cases h; omega
    · cases h
  · cases h
def OptR (P : Program) (Z : Nat → Prop) (H : IH) (M : Nat → Option (Nat × PO)) (x : Option PV) (v : Option Value) : Prop := (∀ y, x = some y → ∃ u, v = some u ∧ VR P Z H M y u) ∧ (x = none → v = none)
theorem OptR.of {env : List PV} {ienv : Env} (he : VRL P Z H M env ienv) (x : Option Operand) : OptR P Z H M (x.map (pval env)) (x.map ienv.val) := by
  cases x with
  | none => exact ⟨fun y h => (by cases h), fun _ => rfl⟩
  | some x => exact ⟨fun y h => (by cases h; exact ⟨_, rfl, pval_ok he x⟩), fun h => (by cases h)⟩
theorem spot_all {el : TypeId} {sp : Option TypeId} (h : sp = none ∨ sp = some el) : sp.all (· == el) = true := by
  rcases h with rfl | rfl <;> simp
theorem pslice_val {t : TypeId} {x y : PV} {lo hi : Option PV} {v : Value} {vlo vhi : Option Value} (hp : Hp P Z H (own m ph)) (hx : VR P Z H (own m ph) x v) (hlo : OptR P Z H (own m ph) lo vlo) (hhi : OptR P Z H (own m ph) hi vhi) (h : pslice P t x lo hi ph = some y) :
    ∃ u, islice P t v vlo vhi none = some u ∧ VR P Z H (own m ph) y u := by
  unfold pslice at h
  split at h
  · -- a list that is not written
    rename_i el n cs
    split at h
    · rename_i el' s hh he hs hbh
      split at h
      · rename_i l hbl
        cases hc : (Nat.beq el' el && Nat.beq (n * s) cs.length) with
        | false => rw [hc] at h; cases h
        | true =>
          rw [hc] at h; cases h
          rw [Bool.and_eq_true] at hc
          have hel := Nat.eq_of_beq_eq_true hc.1
          have hns := Nat.eq_of_beq_eq_true hc.2
          subst hel
          have hle : hh ≤ n := bnd_le (Nat.le_refl _) hbh
          have hll : l ≤ hh := bnd_le (Nat.zero_le _) hbl
          cases hx with
          | f hx =>
            cases hx with
            | nil h0 hsp =>
              rename_i a c
              have hh0 : hh = 0 := by omega
              subst hh0
              have hl0 : l = 0 := by omega
              subst hl0
              cases a with
              | none =>
                have := h0 rfl
                subst this
                have b1 := bnd_ok hhi.1 hhi.2 (Nat.le_refl 0) hbh
                have b2 := bnd_ok hlo.1 hlo.2 (Nat.le_refl 0) hbl
                refine ⟨.slice none 0 0, ?_, .f (.nil (fun _ => rfl) (fun x h => by cases h))⟩
                unfold islice
                simp only [elemT_inv he, hs, b1, b2]
              | some a =>
                obtain ⟨b, o, sp⟩ := a
                have hsp' := hsp _ rfl
                have b1 := bnd_ok hhi.1 hhi.2 (Nat.zero_le c) hbh
                have b2 := bnd_ok hlo.1 hlo.2 (Nat.le_refl 0) hbl
                refine ⟨.slice (some ⟨b, if c = 0 then o else o + 0 * s, sp⟩) (0 - 0) (c - 0), ?_, .f (.nil (fun h => by cases h) (fun x h => by cases h; exact hsp'))⟩
                unfold islice
                simp only [elemT_inv he, hs, b1, b2]
                rw [if_pos (by rw [spot_all hsp']; simp [Nat.ble_eq])]
            | @l _ _ _ b o sp c vs hz hb hn hsp hl hcv =>
              have b1 := bnd_ok hhi.1 hhi.2 hn hbh
              have b2 := bnd_ok hlo.1 hlo.2 (Nat.le_refl hh) hbl
              refine ⟨.slice (some ⟨b, if c = l then o else o + l * s, sp⟩) (hh - l) (c - l), ?_, ?_⟩
              · unfold islice
                simp only [elemT_inv he, hs, b1, b2]
                rw [if_pos (by rw [spot_all hsp]; simp [Nat.ble_eq]; omega)]
              · by_cases hlh : l = hh
                · subst hlh
                  have : Nat.beq l l = true := by simp
                  rw [this, Nat.sub_self]
                  exact .f (.nil (fun h => by cases h) (fun x h => by cases h; exact hsp))
                · have : Nat.beq l hh = false := by
                    cases hq : Nat.beq l hh with
                    | false => rfl
                    | true => exact absurd (Nat.eq_of_beq_eq_true hq) hlh
                  rw [this, if_neg (by omega)]
                  have hlen := loads_len hl
                  refine .f (.l (vs := (vs.drop (l * s)).take ((hh - l) * s)) hz hb (by omega) hsp ?_ fun i x v h1 h2 => ?_)
                  · unfold IH.loads at hl ⊢
                    split at hl
                    · rename_i c0 el0 fz0 hg
                      split at hl
                      · rename_i hbd
                        cases hl
                        have hl0 : l * s ≤ cs.length := by rw [← hns]; exact Nat.mul_le_mul_right _ (by omega)
                        rw [if_pos (by simp only [List.length_take, List.length_drop]; omega)]
                        rw [List.drop_take, List.take_take, List.drop_drop]
                        congr 2
                        simp only [List.length_take, List.length_drop]
                      · cases hl
                    · cases hl
                  · have e1 : cs[l * s + i]? = some x := by
                      rw [List.getElem?_take] at h1
                      split at h1
                      · rw [List.getElem?_drop] at h1; exact h1
                      · cases h1
                    have e2 : vs[l * s + i]? = some v := by
                      rw [List.getElem?_take] at h2
                      split at h2
                      · rw [List.getElem?_drop] at h2; exact h2
                      · cases h2
                    exact hcv _ _ _ e1 e2
      · cases h
    · cases h
  · -- nil
    have hv := pl_ok hx rfl
    subst hv
    split at h
    · rename_i el h1 l1 he hbh hbl
      cases hc : (szT P el).isSome with
      | false => rw [hc] at h; cases h
      | true =>
        rw [hc] at h; cases h
        obtain ⟨s, hs⟩ := Option.isSome_iff_exists.1 hc
        have q1 : h1 ≤ 0 := bnd_le (Nat.le_refl _) hbh
        have q2 : h1 = 0 := by omega
        subst q2
        have b1 := bnd_ok hhi.1 hhi.2 (Nat.le_refl 0) hbh
        have b2 := bnd_ok hlo.1 hlo.2 (Nat.le_refl 0) hbl
        refine ⟨.slice none 0 0, ?_, hx⟩
        unfold islice
        simp only [elemT_inv he, hs, b1, b2]
    · cases h
  · -- a slice of an object
    rename_i k tt o n
    split at h
    · rename_i ob hl
      split at h
      · rename_i el' s hh he hs hbh
        split at h
        · rename_i l hbl
          cases hc : (Nat.beq el' ob.el && Nat.beq (tt * s) ob.cs.length) with
          | false => rw [hc] at h; cases h
          | true =>
            rw [hc] at h; cases h
            rw [Bool.and_eq_true] at hc
            have hel := Nat.eq_of_beq_eq_true hc.1
            subst hel
            have hts := Nat.eq_of_beq_eq_true hc.2
            have hle : hh ≤ n := bnd_le (Nat.le_refl _) hbh
            have hll : l ≤ hh := bnd_le (Nat.zero_le _) hbl
            obtain ⟨hO, h0⟩ := own_live hx hl hs hts
            rcases hO with ⟨g1, rfl, rfl, rfl, rfl⟩ | ⟨g1, g2, g3, rfl⟩
            · have hh0 : hh = 0 := by omega
              subst hh0
              have hl0 : l = 0 := by omega
              subst hl0
              have b1 := bnd_ok hhi.1 hhi.2 (Nat.le_refl 0) hbh
              have b2 := bnd_ok hlo.1 hlo.2 (Nat.le_refl 0) hbl
              refine ⟨.slice none 0 0, ?_, hx⟩
              unfold islice
              simp only [elemT_inv he, hs, b1, b2]
            · have b1 := bnd_ok hhi.1 hhi.2 (show n ≤ tt - o by omega) hbh
              have b2 := bnd_ok hlo.1 hlo.2 (Nat.le_refl hh) hbl
              have hsp : (cond ob.gr (some ob.el) none : Option TypeId) = none ∨ (cond ob.gr (some ob.el) none : Option TypeId) = some ob.el := by cases ob.gr <;> simp
              refine ⟨.slice (some ⟨m k, if tt - o = l then o * s else o * s + l * s, cond ob.gr (some ob.el) none⟩) (hh - l) (tt - o - l), ?_, ?_⟩
              · unfold islice
                simp only [elemT_inv he, hs, b1, b2]
                rw [if_pos (by rw [spot_all hsp]; simp [Nat.ble_eq]; omega)]
              · by_cases hl0 : l = 0
                · subst hl0
                  have : Nat.beq 0 0 = true := rfl
                  rw [this]
                  refine .own rfl fun b' ob' hM => ?_
                  rw [own_some hl] at hM; cases hM
                  refine ⟨s, hs, h0, by omega, fun _ => .inr ⟨g1, by omega, g3, ?_⟩⟩
                  simp
                · have e0 : Nat.beq l 0 = false := by cases l with
                    | zero => exact absurd rfl hl0
                    | succ l => rfl
                  rw [e0]
                  by_cases hlh : l = hh
                  · subst hlh
                    have : Nat.beq l l = true := by simp
                    rw [this, Nat.sub_self]
                    exact .f (.nil (fun h => by cases h) (fun x h => by cases h; exact hsp))
                  · have : Nat.beq l hh = false := by
                      cases hq : Nat.beq l hh with
                      | false => rfl
                      | true => exact absurd (Nat.eq_of_beq_eq_true hq) hlh
                    rw [this, if_neg (by omega)]
                    refine .own rfl fun b' ob' hM => ?_
                    rw [own_some hl] at hM; cases hM
                    refine ⟨s, hs, h0, by omega, fun _ => .inr ⟨g1, by omega, .inr (by omega), ?_⟩⟩
                    rw [Nat.add_mul]
                    congr 1; omega
        · cases h
      · cases h
    · cases h
  · -- an array
    rename_i k tt
    split at h
    · rename_i ob hl
      split at h
      · rename_i mm el ha
        split at h
        · rename_i s hh hs hbh
          split at h
          · rename_i l hbl
            cases hc : (Nat.beq el ob.el && (Nat.beq tt ob.cs.length && (Nat.beq (mm * (s + 1)) tt && !ob.gr))) with
            | false => rw [hc] at h; cases h
            | true =>
              rw [hc] at h; cases h
              simp only [Bool.and_eq_true] at hc
              obtain ⟨c1, c2, c3, c4⟩ := hc
              have hel := Nat.eq_of_beq_eq_true c1
              have ht := Nat.eq_of_beq_eq_true c2
              have hm := Nat.eq_of_beq_eq_true c3
              have hgr : ob.gr = false := by simpa using c4
              subst hel
              obtain ⟨rfl, _⟩ := ref_live hx hl ht
              have hle : hh ≤ mm := bnd_le (Nat.le_refl _) hbh
              have hll : l ≤ hh := bnd_le (Nat.zero_le _) hbl
              have b1 := bnd_ok hhi.1 hhi.2 (Nat.le_refl mm) hbh
              have b2 := bnd_ok hlo.1 hlo.2 (Nat.le_refl hh) hbl
              have hu : P.underlying t = some (.array mm ob.el) := by
                unfold arrT at ha
                split at ha
                · rename_i a b hab; cases ha; exact hab
                · cases ha
              refine ⟨.slice (some ⟨m k, if mm = l then 0 else 0 + l * (s + 1), none⟩) (hh - l) (mm - l), ?_, ?_⟩
              · unfold islice
                simp only [hu, hs, b1, b2]
              · by_cases hl0 : l = 0
                · subst hl0
                  have : Nat.beq 0 0 = true := rfl
                  rw [this]
                  refine .own rfl fun b' ob' hM => ?_
                  rw [own_some hl] at hM; cases hM
                  refine ⟨s + 1, hs, by omega, by omega, fun _ => .inr ⟨(by rw [hgr]; intro h; cases h), by omega, .inl rfl, ?_⟩⟩
                  simp [hgr]
                · have e0 : Nat.beq l 0 = false := by cases l with
                    | zero => exact absurd rfl hl0
                    | succ l => rfl
                  rw [e0]
                  by_cases hlh : l = hh
                  · subst hlh
                    have : Nat.beq l l = true := by simp
                    rw [this, Nat.sub_self]
                    exact .f (.nil (fun h => by cases h) (fun x h => by cases h; exact .inl rfl))
                  · have : Nat.beq l hh = false := by
                      cases hq : Nat.beq l hh with
                      | false => rfl
                      | true => exact absurd (Nat.eq_of_beq_eq_true hq) hlh
                    rw [this, if_neg (by omega)]
                    refine .own rfl fun b' ob' hM => ?_
                    rw [own_some hl] at hM; cases hM
                    refine ⟨s + 1, hs, by omega, by omega, fun _ => .inr ⟨(by rw [hgr]; intro h; cases h), by omega, .inr (by omega), ?_⟩⟩
                    simp [hgr]
          · cases h
        · cases h
      · cases h
    · cases h
  · cases h
end Go.Idl
