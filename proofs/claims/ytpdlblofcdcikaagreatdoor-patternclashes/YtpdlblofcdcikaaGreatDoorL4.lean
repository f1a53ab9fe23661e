/- The strands seen, as the program and the reference find them; the first clash. Conditions: none. -/
import Derived.Test.YtpdlblofcdcikaaGreatDoorH7
set_option linter.unusedSimpArgs false
set_option linter.unusedVariables false
namespace Go.Proofs.YtpdlblofcdcikaaGreatDoor
open Go.Idl

theorem chk_ok {n : Int} {ws : List Int} (h1 : chkScheme n ws = 0) : ∃ n' : Nat, n = (n' : Int) ∧ 2 ≤ n' ∧ n' ≤ 12 ∧ okW n' ws := by
  have h3 : outN n = false := by
    cases hx : outN n with
    | false => rfl
    | true => unfold chkScheme at h1; rw [hx] at h1; simp [firstNZ] at h1
  have h4 : ws.any (badLetter n) = false := by
    cases hx : ws.any (badLetter n) with
    | false => rfl
    | true =>
      unfold chkScheme at h1
      rw [hx, h3] at h1
      cases ha : ((ws.length : Int) == 0) <;> cases hb : decide (24 < (ws.length : Int)) <;> rw [ha, hb] at h1 <;> simp [firstNZ] at h1
  unfold outN at h3
  simp only [Bool.or_eq_false_iff, decide_eq_false_iff_not] at h3
  refine ⟨n.toNat, by omega, by omega, by omega, fun z hz => ?_⟩
  rw [List.any_eq_false] at h4
  have h5 := h4 z hz
  unfold badLetter at h5
  rw [wrap_id (n := 0 - n) (by omega) (by omega)] at h5
  simp at h5
  obtain ⟨h5, h6, h7⟩ := h5
  exact ⟨h5, by omega⟩
theorem getD_map0 {l : List Int} (g : Int → Int) {i : Nat} (h : i < l.length) : (l.map g).getD i 0 = g (l.getD i 0) := by simp [List.getD, List.getElem?_eq_getElem h]
theorem swapL_map (g : Int → Int) (l : List Int) {i : Nat} (h : i < l.length) : swapL (l.map g) i = (swapL l i).map g := by
  unfold swapL
  rw [getD_map0 g h, getD_map0 g (by omega), List.map_set, List.map_set]
theorem idx_lt {c : Int} {n : Nat} (h : c ≠ 0 ∧ c.natAbs < n) : idxC c < n := by unfold idxC; split <;> omega
theorem runW_map {n : Nat} (g : Int → Int) : ∀ (w l : List Int), okW n w → l.length = n → runW w (l.map g) = ((runW w l).1.map g, (runW w l).2.map g)
  | [], l, _, _ => rfl
  | c :: w, l, hw, hl => by
    have h1 := hw c List.mem_cons_self
    have ih := runW_map g w (swapL l c.natAbs) (fun x hx => hw x (List.mem_cons_of_mem _ hx)) (by rw [swapL_len]; exact hl)
    simp only [runW]
    rw [swapL_map g l (by rw [hl]; exact h1.2), ih, getD_map0 g (by rw [hl]; exact idx_lt h1)]
    rfl
theorem inR_run1 {n : Nat} : ∀ (w l : List Int), okW n w → l.length = n → inR n l → inR n (runW w l).1
  | [], l, _, _, h => fun z hz => by simp [runW] at hz
  | c :: w, l, hw, hl, h => by
    have h1 := hw c List.mem_cons_self
    have ih := inR_run1 w (swapL l c.natAbs) (fun x hx => hw x (List.mem_cons_of_mem _ hx)) (by rw [swapL_len]; exact hl) (inR_swap h (by rw [hl]; exact h1.2))
    intro z hz
    simp only [runW, List.mem_cons] at hz
    rcases hz with rfl | hz
    · have hi : idxC c < l.length := by rw [hl]; exact idx_lt h1
      have : l.getD (idxC c) 0 = l[idxC c] := by simp [List.getD, List.getElem?_eq_getElem hi]
      rw [this]
      exact h _ (List.getElem_mem hi)
    · exact ih z hz
theorem range_gath {P : List Int} {n : Nat} (h : P.length = n) : (rangeI n).map (fun z => P.getD z.toNat 0) = P := by
  apply List.ext_getElem?
  intro i
  by_cases hi : i < n
  · simp [rangeI, List.getElem?_range hi, List.getD, List.getElem?_eq_getElem (show i < P.length by omega)]
  · rw [List.getElem?_eq_none (by simp [rangeI]; omega), List.getElem?_eq_none (by omega)]
theorem run_gath {n : Nat} {ws P : List Int} (hok : okW n ws) (h : P.length = n) : runW ws P = (gathL (runW ws (rangeI n)).1 P, gathL (fromL n ws) P) := by
  have h1 := runW_map (fun z => P.getD z.toNat 0) ws (rangeI n) hok (rangeI_len n)
  rw [range_gath h] at h1
  rw [h1]; rfl
theorem permN_gath {n : Nat} {ws : List Int} (hok : okW n ws) : ∀ k, permN ws (rangeI n) k = iterG (fromL n ws) k (rangeI n)
  | 0 => rfl
  | k + 1 => by
    rw [permN, run_gath hok (by rw [permN_len, rangeI_len]), iterG, permN_gath hok k]
theorem rowsK_seen {n : Nat} {ws : List Int} (hok : okW n ws) (m : Nat) : rowsK (runW ws (rangeI n)).1 (fromL n ws) m = seenN ws (rangeI n) m := by
  unfold rowsK seenN
  refine List.map_congr_left fun k _ => ?_
  unfold rowK
  rw [run_gath (P := permN ws (rangeI n) k) hok (by rw [permN_len, rangeI_len]), permN_gath hok k, fromL_len]
/-- a place of a matrix -/
def atM (m : List (List Int)) (w t : Nat) : Int := (m.getD (t / w) []).getD (t % w) 0
theorem fstT_congr {k k' : Nat → Int} {t : Nat} (ht : k t = k' t) : ∀ s, s ≤ t → (∀ x, x ≤ s → k x = k' x) → fstT k t s = fstT k' t s
  | 0, _, _ => rfl
  | s + 1, hs, h => by
    have ih := fstT_congr ht s (by omega) fun x hx => h x (by omega)
    have hle := (fstT_spec k' t s (by omega)).1
    unfold fstT
    rw [ih, h _ (by omega), ht]
theorem fstC_congr {k k' : Nat → Int} {t : Nat} (h : ∀ x, x ≤ t → k x = k' x) : fstC k t = fstC k' t := fstT_congr (h t (Nat.le_refl _)) t (Nat.le_refl _) h
def okM (sk zss : List (List Int)) (w t : Nat) : Prop := atM zss w (fstC (atM sk w) t) = atM zss w t
/-- the first clash between strands seen and colours, or none -/
def ClashM (sk zss : List (List Int)) (w n : Nat) (v : Value) (is : Bool) : Prop :=
  (is = false ∧ v = zero84 ∧ ∀ t, t < n * w → okM sk zss w t) ∨ (is = true ∧ ∃ t, t < n * w ∧ (∀ s, s < t → okM sk zss w s) ∧ ¬ okM sk zss w t ∧ v = clashV w (fstC (atM sk w) t) t)
theorem ClashM.unique {sk zss : List (List Int)} {w n : Nat} {v v' : Value} {is is' : Bool} (h : ClashM sk zss w n v is) (h' : ClashM sk zss w n v' is') : v = v' ∧ is = is' := by
  rcases h with ⟨rfl, rfl, h1⟩ | ⟨rfl, t, h1, h2, h3, rfl⟩ <;> rcases h' with ⟨rfl, rfl, g1⟩ | ⟨rfl, t', g1, g2, g3, rfl⟩
  · exact ⟨rfl, rfl⟩
  · exact absurd (h1 _ g1) g3
  · exact absurd (g1 _ h1) h3
  · rcases Nat.lt_trichotomy t t' with h | rfl | h
    · exact absurd (g2 _ h) h3
    · exact ⟨rfl, rfl⟩
    · exact absurd (h2 _ h) g3
theorem ClashM.agg {sk zss : List (List Int)} {w n : Nat} {v : Value} {is : Bool} (h : ClashM sk zss w n v is) : ∃ a b c d : Int, v = .agg #[.int .i64 a, .int .i64 b, .int .i64 c, .int .i64 d] := by
  rcases h with ⟨rfl, rfl, h1⟩ | ⟨rfl, t, h1, h2, h3, rfl⟩
  · exact ⟨_, _, _, _, rfl⟩
  · exact ⟨_, _, _, _, rfl⟩
theorem strK_at {ss fs : List Int} {n w t : Nat} (h : t < n * w) : strK ss fs w t = atM (rowsK ss fs n) w t := by
  have hw : 0 < w := by
    cases w with
    | zero => simp at h
    | succ w => omega
  have hr : t / w < n := by rw [Nat.div_lt_iff_lt_mul hw]; exact h
  unfold strK atM cellK rowsK
  simp [List.getD, List.getElem?_map, List.getElem?_range hr]
theorem IsClash.toM {ss fs : List Int} {p : List (List Int)} {w n : Nat} {v : Value} {is : Bool} (h : IsClash ss fs p w n v is) : ClashM (rowsK ss fs n) p w n v is := by
  have hf : ∀ t, t < n * w → fstC (strK ss fs w) t = fstC (atM (rowsK ss fs n) w) t := fun t ht => fstC_congr fun x hx => strK_at (by omega)
  have ho : ∀ t, t < n * w → (okT ss fs p w t ↔ okM (rowsK ss fs n) p w t) := fun t ht => by
    unfold okT okM colK atM
    rw [hf t ht]
    rfl
  rcases h with ⟨h1, h2, h3⟩ | ⟨h1, t, h2, h3, h4, h5⟩
  · exact .inl ⟨h1, h2, fun t ht => (ho t ht).1 (h3 t ht)⟩
  · exact .inr ⟨h1, t, h2, fun s hs => (ho s (by omega)).1 (h3 s hs), fun h => h4 ((ho t h2).2 h), by rw [h5, hf t h2]⟩
end Go.Proofs.YtpdlblofcdcikaaGreatDoor
