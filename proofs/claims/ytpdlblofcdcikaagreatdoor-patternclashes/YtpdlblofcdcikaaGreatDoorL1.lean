/- Permutations, plainly: what moves a placing; it comes back. Conditions: none. -/
import Derived.Test.YtpdlblofcdcikaaGreatDoorG10
set_option linter.unusedSimpArgs false
set_option linter.unusedVariables false
namespace Go.Proofs.YtpdlblofcdcikaaGreatDoor
open Go.Idl

theorem swap_mid (a b : List Int) (x y : Int) : swapL (a ++ x :: y :: b) (a.length + 1) = a ++ y :: x :: b := by
  unfold swapL
  have h1 : (a ++ x :: y :: b).getD (a.length + 1) 0 = y := by simp [List.getD]
  have h2 : (a ++ x :: y :: b).getD (a.length + 1 - 1) 0 = x := by simp [List.getD]
  rw [h1, h2]
  simp only [Nat.add_sub_cancel]
  rw [List.set_append_right _ _ (Nat.le_refl _), Nat.sub_self, List.set_cons_zero, List.set_append_right _ _ (by omega)]
  have : a.length + 1 - a.length = 1 := by omega
  rw [this]
  rfl
theorem swapL_perm {l : List Int} {i : Nat} (h0 : 0 < i) (h : i < l.length) : (swapL l i).Perm l := by
  have e : l = l.take (i - 1) ++ l[i - 1] :: l[i] :: l.drop (i + 1) := by
    have h1 := List.drop_eq_getElem_cons (l := l) (i := i - 1) (by omega)
    have h2 := List.drop_eq_getElem_cons (l := l) (i := i) h
    have h3 : i - 1 + 1 = i := by omega
    rw [h3, h2] at h1
    rw [← h1, List.take_append_drop]
  have hl : (l.take (i - 1)).length + 1 = i := by simp; omega
  generalize l.take (i - 1) = a at e hl
  generalize l[i - 1] = x at e
  generalize l[i] = y at e
  generalize l.drop (i + 1) = b at e
  subst e hl
  rw [swap_mid]
  exact (List.Perm.swap x y b).append_left a
theorem runW_perm {n : Nat} : ∀ (w l : List Int), okW n w → l.length = n → (runW w l).2.Perm l
  | [], l, _, _ => .refl _
  | c :: w, l, hw, hl => by
    obtain ⟨h0, h1⟩ := hw c List.mem_cons_self
    have := runW_perm w (swapL l c.natAbs) (fun x hx => hw x (List.mem_cons_of_mem _ hx)) (by rw [swapL_len]; exact hl)
    exact this.trans (swapL_perm (by omega) (by omega))
theorem fromL_perm {n : Nat} {w : List Int} (h : okW n w) : (fromL n w).Perm (rangeI n) := runW_perm _ _ h (rangeI_len n)
theorem rangeI_nodup (n : Nat) : (rangeI n).Nodup := by
  unfold rangeI
  rw [List.nodup_iff_pairwise_ne, List.pairwise_map]
  exact (List.nodup_iff_pairwise_ne.1 List.nodup_range).imp fun h e => h (by omega)
/-- a permutation, as a list of places -/
structure PermL (n : Nat) (f : List Int) : Prop where
  len : f.length = n
  ran : inR n f
  inj : ∀ (i j : Nat) (z : Int), f[i]? = some z → f[j]? = some z → i = j
  sur : ∀ k, k < n → ∃ i : Nat, i < n ∧ f[i]? = some (k : Int)
theorem nodup_inj {f : List Int} (h : f.Nodup) {i j : Nat} {z : Int} (hi : f[i]? = some z) (hj : f[j]? = some z) : i = j := by
  obtain ⟨h1, e1⟩ := List.getElem?_eq_some_iff.1 hi
  obtain ⟨h2, e2⟩ := List.getElem?_eq_some_iff.1 hj
  rw [List.nodup_iff_pairwise_ne, List.pairwise_iff_getElem] at h
  rcases Nat.lt_trichotomy i j with hlt | heq | hlt
  · exact absurd (e1.trans e2.symm) (h i j h1 h2 hlt)
  · exact heq
  · exact absurd (e2.trans e1.symm) (h j i h2 h1 hlt)
theorem fromL_is {n : Nat} {w : List Int} (h : okW n w) : PermL n (fromL n w) := by
  have hp := fromL_perm h
  refine ⟨fromL_len n w, fromL_in h, fun i j z h1 h2 => nodup_inj (hp.nodup_iff.2 (rangeI_nodup n)) h1 h2, fun k hk => ?_⟩
  have hm : (k : Int) ∈ fromL n w := hp.mem_iff.2 (by simp [rangeI]; exact ⟨k, hk, rfl⟩)
  obtain ⟨i, hi⟩ := List.mem_iff_getElem?.1 hm
  exact ⟨i, by have := (List.getElem?_eq_some_iff.1 hi).1; rw [fromL_len] at this; exact this, hi⟩

theorem scat_get {n : Nat} {p c : List Int} (hp : p.length = n) (hr : inR n p) (inj : ∀ (i j : Nat) (z : Int), p[i]? = some z → p[j]? = some z → i = j) : ∀ k, k ≤ n → ∀ (j z : Nat), j < k → p[j]? = some (z : Int) → (scatN p c n k)[z]? = some (c.getD j 0)
  | 0, _, j, z, hj, _ => by omega
  | k + 1, hk, j, z, hj, hz => by
    have hzn : z < n := by have := (hr _ (List.mem_of_getElem? hz)).2; omega
    obtain ⟨y, hy⟩ : ∃ y, p[k]? = some y := ⟨_, List.getElem?_eq_getElem (by omega)⟩
    obtain ⟨y0, _⟩ := hr y (List.mem_of_getElem? hy)
    obtain ⟨y, rfl⟩ := Int.eq_ofNat_of_zero_le y0
    have hgd : p.getD k 0 = (y : Int) := by simp [List.getD, hy]
    show ((scatN p c n k).set (p.getD k 0).toNat (c.getD k 0))[z]? = _
    rw [hgd, Int.toNat_natCast, List.getElem?_set]
    by_cases hjk : j = k
    · subst hjk
      rw [hz] at hy
      have : z = y := by simp at hy; omega
      subst this
      rw [if_pos rfl, scatN_len, if_pos hzn]
    · have hne : y ≠ z := fun e => hjk (by subst e; exact inj j k _ hz hy)
      rw [if_neg hne]
      exact scat_get hp hr inj k (by omega) j z (by omega) hz
/-- the inverse -/
theorem permL_get {n : Nat} {w : List Int} (h : okW n w) {i k : Nat} (hi : (fromL n w)[i]? = some (k : Int)) : (permL n w)[k]? = some (i : Int) := by
  have hf := fromL_is h
  have hin : i < n := by have := (List.getElem?_eq_some_iff.1 hi).1; rw [hf.len] at this; exact this
  have := scat_get (c := rangeI n) hf.len hf.ran hf.inj n (Nat.le_refl _) i k hin hi
  rw [rangeI_getD hin] at this
  exact this
theorem permL_is {n : Nat} {w : List Int} (hn : 0 < n) (h : okW n w) : PermL n (permL n w) := by
  have hf := fromL_is h
  have key : ∀ (a : Nat) (z : Int), (permL n w)[a]? = some z → ∃ i : Nat, z = (i : Int) ∧ (fromL n w)[i]? = some (a : Int) := by
    intro a z ha
    have hal : a < n := by have := (List.getElem?_eq_some_iff.1 ha).1; rw [permL_len] at this; exact this
    obtain ⟨i, hin, hi⟩ := hf.sur a hal
    have := permL_get h hi
    rw [ha] at this
    exact ⟨i, by simpa using this, hi⟩
  refine ⟨permL_len n w, permL_in hn, fun a b z ha hb => ?_, fun k hk => ?_⟩
  · obtain ⟨i, e1, h1⟩ := key a z ha
    obtain ⟨j, e2, h2⟩ := key b z hb
    have : i = j := by omega
    subst this
    rw [h1] at h2
    simp at h2
    omega
  · obtain ⟨z, hz⟩ : ∃ z, (fromL n w)[k]? = some z := ⟨_, List.getElem?_eq_getElem (by rw [hf.len]; exact hk)⟩
    obtain ⟨z0, z1⟩ := hf.ran z (List.mem_of_getElem? hz)
    obtain ⟨z, rfl⟩ := Int.eq_ofNat_of_zero_le z0
    exact ⟨z, by omega, permL_get h hz⟩
theorem moved_eq {n : Nat} {w c : List Int} (hn : 0 < n) (h : okW n w) (hc : c.length = n) : scatN (permL n w) c n n = gathL (fromL n w) c := by
  have hf := fromL_is h
  have hp := permL_is hn h
  apply List.ext_getElem?
  intro i
  by_cases hi : i < n
  · obtain ⟨z, hz⟩ : ∃ z, (fromL n w)[i]? = some z := ⟨_, List.getElem?_eq_getElem (by rw [hf.len]; exact hi)⟩
    obtain ⟨z0, z1⟩ := hf.ran z (List.mem_of_getElem? hz)
    obtain ⟨k, rfl⟩ := Int.eq_ofNat_of_zero_le z0
    rw [scat_get hp.len hp.ran hp.inj n (Nat.le_refl _) k i (by omega) (permL_get h hz)]
    simp [gathL, hz]
  · rw [List.getElem?_eq_none (by rw [scatN_len]; omega), List.getElem?_eq_none (by rw [gathL_len, fromL_len]; omega)]

/-! ### It comes back -/
def iterG (f : List Int) : Nat → List Int → List Int
  | 0, x => x
  | t + 1, x => gathL f (iterG f t x)
theorem iterG_len {n : Nat} {f : List Int} (hf : f.length = n) {x : List Int} (hx : x.length = n) : ∀ t, (iterG f t x).length = n
  | 0 => hx
  | t + 1 => by rw [iterG, gathL_len, hf]
theorem iterG_add (f : List Int) (a : Nat) (x : List Int) : ∀ b, iterG f (a + b) x = iterG f b (iterG f a x)
  | 0 => rfl
  | b + 1 => by rw [← Nat.add_assoc, iterG, iterG, iterG_add f a x b]
theorem gath_inj {n : Nat} {f : List Int} (hf : PermL n f) {x y : List Int} (hx : x.length = n) (hy : y.length = n) (h : gathL f x = gathL f y) : x = y := by
  apply List.ext_getElem?
  intro k
  by_cases hk : k < n
  · obtain ⟨i, hin, hi⟩ := hf.sur k hk
    have := congrArg (fun l => l[i]?) h
    simp only [gathL, List.getElem?_map, hi, Option.map_some, Int.toNat_natCast, List.getD] at this
    rw [List.getElem?_eq_getElem (by omega), List.getElem?_eq_getElem (by omega)] at this ⊢
    simpa using this
  · rw [List.getElem?_eq_none (by omega), List.getElem?_eq_none (by omega)]
theorem iterG_inj {n : Nat} {f : List Int} (hf : PermL n f) : ∀ (t : Nat) {x y : List Int}, x.length = n → y.length = n → iterG f t x = iterG f t y → x = y
  | 0, x, y, _, _, h => h
  | t + 1, x, y, hx, hy, h => iterG_inj hf t hx hy (gath_inj hf (iterG_len hf.len hx t) (iterG_len hf.len hy t) h)
/-- a list as a number -/
def encL (n : Nat) : List Int → Nat
  | [] => 0
  | z :: l => z.toNat + n * encL n l
theorem encL_lt {n : Nat} (hn : 0 < n) : ∀ (l : List Int), inR n l → encL n l < n ^ l.length
  | [], _ => by simp [encL]
  | z :: l, h => by
    have h1 := encL_lt hn l fun y hy => h y (List.mem_cons_of_mem _ hy)
    obtain ⟨h2, h3⟩ := h z List.mem_cons_self
    have hz : z.toNat < n := by omega
    have h4 : n * (encL n l + 1) ≤ n * n ^ l.length := Nat.mul_le_mul_left n h1
    have h5 : n ^ (z :: l).length = n * n ^ l.length := by rw [List.length_cons, Nat.pow_succ, Nat.mul_comm]
    rw [h5]
    show z.toNat + n * encL n l < _
    rw [Nat.mul_add] at h4
    omega
theorem encL_inj {n : Nat} : ∀ (l m : List Int), inR n l → inR n m → l.length = m.length → encL n l = encL n m → l = m
  | [], [], _, _, _, _ => rfl
  | [], _ :: _, _, _, h, _ => by simp at h
  | _ :: _, [], _, _, h, _ => by simp at h
  | x :: l, y :: m, hl, hm, h, he => by
    obtain ⟨h1, h2⟩ := hl x List.mem_cons_self
    obtain ⟨h3, h4⟩ := hm y List.mem_cons_self
    have he' : x.toNat + n * encL n l = y.toNat + n * encL n m := he
    have hx : x.toNat < n := by omega
    have hy : y.toNat < n := by omega
    have e1 : x.toNat = y.toNat := by
      have := congrArg (· % n) he'
      simp only [Nat.add_mul_mod_self_left] at this
      rwa [Nat.mod_eq_of_lt hx, Nat.mod_eq_of_lt hy] at this
    have e2 : encL n l = encL n m := by
      have h5 : n * encL n l = n * encL n m := by omega
      exact Nat.eq_of_mul_eq_mul_left (by omega) h5
    rw [encL_inj l m (fun z hz => hl z (List.mem_cons_of_mem _ hz)) (fun z hz => hm z (List.mem_cons_of_mem _ hz)) (by simpa using h) e2, show x = y by omega]
theorem pigeon : ∀ (N : Nat) (l : List Nat), l.Nodup → (∀ x ∈ l, x < N) → l.length ≤ N
  | 0, l, _, h => by
    cases l with
    | nil => simp
    | cons x l => have := h x List.mem_cons_self; omega
  | N + 1, l, hd, h => by
    by_cases hm : N ∈ l
    · have h1 := pigeon N (l.erase N) (hd.erase N) fun x hx => by
        have h2 := h x (List.mem_of_mem_erase hx)
        have h3 : x ≠ N := fun e => by
          subst e
          exact (List.Nodup.not_mem_erase hd) hx
        omega
      rw [List.length_erase_of_mem hm] at h1
      omega
    · have h1 := pigeon N l hd fun x hx => by
        have h2 := h x hx
        have h3 : x ≠ N := fun e => hm (e ▸ hx)
        omega
      omega
theorem twice (g : Nat → Nat) (N : Nat) (h : ∀ i, g i < N) : ∃ a b, a < b ∧ g a = g b := by
  by_cases hx : ∃ a b, a < b ∧ g a = g b
  · exact hx
  · exfalso
    have hnd : ((List.range (N + 1)).map g).Nodup := by
      rw [List.nodup_iff_pairwise_ne, List.pairwise_map]
      refine (List.pairwise_lt_range (n := N + 1)).imp fun {a b} hab e => hx ⟨a, b, hab, e⟩
    have := pigeon N _ hnd fun x hx' => by
      obtain ⟨i, _, rfl⟩ := List.mem_map.1 hx'
      exact h i
    simp at this
    omega
theorem gath_in {n : Nat} {f c : List Int} (hf : PermL n f) (hc : inR n c) (hcl : c.length = n) : inR n (gathL f c) := by
  intro z hz
  obtain ⟨y, hy, rfl⟩ := List.mem_map.1 hz
  obtain ⟨h1, h2⟩ := hf.ran y hy
  exact inR_get hc (by omega)
theorem gath_gath {n : Nat} {f c x : List Int} (hf : PermL n f) (hc : inR n c) (hcl : c.length = n) (hx : x.length = n) : gathL f (gathL c x) = gathL (gathL f c) x := by
  unfold gathL
  rw [List.map_map]
  apply List.map_congr_left
  intro z hz
  obtain ⟨h1, h2⟩ := hf.ran z hz
  simp only [Function.comp]
  have hlt : z.toNat < c.length := by omega
  simp [List.getD, hlt]
theorem iter_id {n : Nat} {f : List Int} (hf : PermL n f) : ∀ t, inR n (iterG f t (rangeI n)) ∧ (iterG f t (rangeI n)).length = n
  | 0 => ⟨inR_range n, rangeI_len n⟩
  | t + 1 => by
    obtain ⟨h1, h2⟩ := iter_id hf t
    exact ⟨gath_in hf h1 h2, iterG_len hf.len (rangeI_len n) (t + 1)⟩
theorem gath_range {n : Nat} {x : List Int} (hx : x.length = n) : gathL (rangeI n) x = x := by
  apply List.ext_getElem?
  intro i
  by_cases hi : i < n
  · simp [gathL, rangeI, hi, List.getD, hx]
  · rw [List.getElem?_eq_none (by rw [gathL_len, rangeI_len]; omega), List.getElem?_eq_none (by omega)]
theorem iter_gath {n : Nat} {f x : List Int} (hf : PermL n f) (hx : x.length = n) : ∀ t, iterG f t x = gathL (iterG f t (rangeI n)) x
  | 0 => (gath_range hx).symm
  | t + 1 => by
    obtain ⟨h1, h2⟩ := iter_id hf t
    rw [iterG, iter_gath hf hx t, gath_gath hf h1 h2 hx]; rfl
theorem comes_back {n : Nat} (hn : 0 < n) {f : List Int} (hf : PermL n f) : ∃ p, 0 < p ∧ ∀ x : List Int, x.length = n → iterG f p x = x := by
  obtain ⟨a, b, hab, he⟩ := twice (fun t => encL n (iterG f t (rangeI n))) (n ^ n) fun t => by
    obtain ⟨h1, h2⟩ := iter_id hf t
    have := encL_lt hn _ h1
    rw [h2] at this
    exact this
  obtain ⟨h1, h2⟩ := iter_id hf a
  obtain ⟨h3, h4⟩ := iter_id hf b
  have heq := encL_inj _ _ h1 h3 (by omega) he
  have hid : rangeI n = iterG f (b - a) (rangeI n) := by
    refine iterG_inj hf a (rangeI_len n) (iterG_len hf.len (rangeI_len n) _) ?_
    rw [← iterG_add, show b - a + a = b by omega]
    exact heq
  refine ⟨b - a, by omega, fun x hx => ?_⟩
  rw [iter_gath hf hx, ← hid, gath_range hx]
end Go.Proofs.YtpdlblofcdcikaaGreatDoor
