/- Pictures in order; normal forms. Conditions: none. -/
import Derived.Test.YtpdlblofcdcikaaGreatDoorPL4
set_option linter.unusedSimpArgs false
set_option linter.unusedVariables false
set_option linter.unusedVariables false
set_option linter.unusedSimpArgs false
namespace Go.Proofs.YtpdlblofcdcikaaGreatDoor
open Go.Idl Go.Sv

def cmpR (a b : List Int) : Option Bool := scan (fun i => if a.getD i 0 = b.getD i 0 then none else some (decide (a.getD i 0 < b.getD i 0))) a.length 0
def cmpP (p q : List (List Int)) : Option Bool := scan (fun i => cmpR (p.getD i []) (q.getD i [])) p.length 0
theorem eq144 (x : Int × Int) : H144 x = some (if x.1 < x.2 then -1 else if x.2 < x.1 then 1 else 0) := by
  obtain ⟨a, b⟩ := x
  show (G144 a b).run = some (if a < b then -1 else if b < a then 1 else 0)
  unfold G144
  have h1 : (a != a) = false := by simp
  have h2 : (b != b) = false := by simp
  rw [h1, h2, t_false, t_false]
  by_cases q1 : a < b
  · rw [decide_eq_true q1, t_true, if_pos q1, t_ret]
  · rw [decide_eq_false q1, t_false, if_neg q1]
    by_cases q2 : b < a
    · rw [decide_eq_true q2, t_true, if_pos q2, t_ret]
    · rw [decide_eq_false q2, t_false, if_neg q2, t_ret]
def sgn (t : Option Bool) : Int := match t with
  | some true => -1
  | some false => 1
  | none => 0
theorem eq96 {a b : List Int} (hl : a.length = b.length) (h62 : a.length < 2 ^ 62) : H96 (a, b) = some (sgn (cmpR a b)) := by
  show (G96 a b).run = _
  unfold G96
  refine bind_scan a.length (fun i => if a.getD i 0 = b.getD i 0 then none else some (decide (a.getD i 0 < b.getD i 0))) (fun t => Sum.inr (Sum.inl (cond t (-1) 1))) (Sum.inl (a.length : Int)) (fun k hk => ?_) ?_ ?_
  · obtain ⟨x, hx, mx⟩ := get_lt hk
    have hk2 : k < b.length := by omega
    obtain ⟨y, hy, my⟩ := get_lt hk2
    have hk3 : (k : Int) < (a.length : Int) := by omega
    have hk4 : decide ((b.length : Int) ≤ (k : Int)) = false := decide_eq_false (by omega)
    simp only [lt_t hk3, t_true, idx_lt hk, t_bind, hx, hk4, t_false, idx_lt hk2, hy, eq144, getD_at hx, getD_at hy, wrap1 (show k < 2 ^ 62 by omega)]
    by_cases q : x = y
    · subst q
      rw [if_neg (Int.lt_irrefl _), if_neg (Int.lt_irrefl _), if_pos rfl]
      rfl
    · rw [if_neg q]
      by_cases q1 : x < y
      · rw [if_pos q1, decide_eq_true q1]
        rfl
      · rw [if_neg q1, if_pos (show y < x by omega), decide_eq_false q1]
        rfl
  · simp only [lt_f (Int.lt_irrefl _), t_false]
    rfl
  · unfold cmpR
    cases scan (fun i => if a.getD i 0 = b.getD i 0 then none else some (decide (a.getD i 0 < b.getD i 0))) a.length 0 with
    | none =>
      have : decide ((a.length : Int) < (b.length : Int)) = false := decide_eq_false (by omega)
      simp only [t_inl, this, t_false, t_ret]
      rfl
    | some t => cases t <;> rfl
theorem Pic.at {p : List (List Int)} {h n k : Nat} (hp : Pic p h n) (hk : k < h) : ∃ x, p[k]? = some x ∧ x.length = n := by
  obtain ⟨x, hx, mx⟩ := get_lt (show k < p.length by rw [hp.len]; exact hk)
  exact ⟨x, hx, hp.row x mx⟩
theorem eq129 {p q : List (List Int)} {h n : Nat} (hp : Pic p h n) (hq : Pic q h n) : H129 (p, q) = some ((cmpP p q).getD false) := by
  show (G129 p q).run = _
  unfold G129
  have hh2 := hp.h2
  have hn2 := hp.n2
  refine bind_scan h (fun i => cmpR (p.getD i []) (q.getD i [])) (fun t => Sum.inr (Sum.inl t)) (Sum.inl (h : Int)) (fun k hk => ?_) ?_ ?_
  · obtain ⟨x, hx, hxl⟩ := hp.at hk
    obtain ⟨y, hy, hyl⟩ := hq.at hk
    have hk3 : (k : Int) < (p.length : Int) := by rw [hp.len]; omega
    have hkp : k < p.length := by rw [hp.len]; exact hk
    have hkq : k < q.length := by rw [hq.len]; exact hk
    simp only [lt_t hk3, t_true, getD_at hx, getD_at hy]
    refine bind_scan (R := Int ⊕ (Int ⊕ Bool ⊕ Nat × Int)) x.length (fun i => if x.getD i 0 = y.getD i 0 then none else some (decide (x.getD i 0 < y.getD i 0))) (fun t => Sum.inr (Sum.inl t)) (Sum.inl (x.length : Int)) (fun j hj => ?_) ?_ ?_
    · obtain ⟨a, ha, ma⟩ := get_lt hj
      have hj2 : j < y.length := by omega
      obtain ⟨b, hb, mb⟩ := get_lt hj2
      have hj3 : (j : Int) < (x.length : Int) := by omega
      simp only [idx_lt hkp, t_bind, hx, lt_t hj3, t_true, idx_lt hj, ha, idx_lt hkq, hy, idx_lt hj2, hb, getD_at ha, getD_at hb, wrap1 (show j < 2 ^ 62 by omega)]
      by_cases e : a = b
      · subst e
        have : (a != a) = false := by simp
        rw [this, t_false, if_pos rfl]
        rfl
      · have : (a != b) = true := by simpa using e
        rw [this, t_true, if_neg e]
        rfl
    · simp only [idx_lt hkp, t_bind, hx, lt_f (Int.lt_irrefl _), t_false]
      rfl
    · unfold cmpR
      cases scan (fun i => if x.getD i 0 = y.getD i 0 then none else some (decide (x.getD i 0 < y.getD i 0))) x.length 0 with
      | none => simp only [t_inl, wrap1 (show k < 2 ^ 62 by omega)]; rfl
      | some t => simp only [t_inr, t_inl]; rfl
  · have : ¬ (h : Int) < (p.length : Int) := by rw [hp.len]; exact Int.lt_irrefl _
    simp only [lt_f this, t_false]
    rfl
  · unfold cmpP
    rw [hp.len]
    cases scan (fun i => cmpR (p.getD i []) (q.getD i [])) h 0 with
    | none => simp only [t_inl, t_ret]; rfl
    | some t => simp only [t_inr, t_inl, t_ret]; rfl
/-- the normal form -/
def nrmS (p : List (List Int)) (h d r : Nat) (s : List (List Int)) : List (List Int) := if cmpP (shf p h d r) s = some true then shf p h d r else s
def nrm (p : List (List Int)) (h n : Nat) : List (List Int) := foldN (fun d s => foldN (fun r s => nrmS p h d r s) n 0 s) h 0 p
theorem nrmS_pic {p s : List (List Int)} {h n : Nat} (hp : Pic p h n) (hs : Pic s h n) (d r : Nat) : Pic (nrmS p h d r s) h n := by
  unfold nrmS
  by_cases q : cmpP (shf p h d r) s = some true
  · rw [if_pos q]; exact shf_pic hp d r
  · rw [if_neg q]; exact hs
theorem eq77' {p : List (List Int)} {h n d r : Nat} (hp : Pic p h n) (hd : d < h) (hr : r < n) : H77 (p, (d : Int), (r : Int)) = some (shf p h d r) := by
  have h2 := hp.h2
  have n2 := hp.n2
  rw [eq77 hp (by omega) (by omega) (by omega) (by omega), mN_nat hd, mN_nat hr]
theorem eq128' {p : List (List Int)} {h n d r : Nat} (hp : Pic p h n) (hd : d < h) (hr : r < n) : H128 (p, (d : Int), (r : Int)) = some (shf p h d r) := by
  have h2 := hp.h2
  have n2 := hp.n2
  rw [eq128 hp (by omega) (by omega) (by omega) (by omega), mN_nat hd, mN_nat hr]
theorem eq57 {p : List (List Int)} {h n : Nat} (hp : Pic p h n) : H57 p = some (nrm p h n) := by
  show (G57 p).run = _
  unfold G57
  have hh1 := hp.h1
  have hh2 := hp.h2
  have hn2 := hp.n2
  obtain ⟨r0, hr0, hl0⟩ := hp.at (show 0 < h by omega)
  have hpl : 0 < p.length := by rw [hp.len]; omega
  refine bind_fold h (fun k s => (s, (k : Int))) (fun k s => Pic s h n) (fun d s => foldN (fun r s => nrmS p h d r s) n 0 s) (fun s => Sum.inl (s, (h : Int))) p rfl hp (fun d s hd hI => ?_) (fun s hI => ?_) fun hI => ?_
  · have hd3 : (d : Int) < (p.length : Int) := by rw [hp.len]; omega
    have hfold : ∀ (m r : Nat) (t : List (List Int)), Pic t h n → Pic (foldN (fun r s => nrmS p h d r s) m r t) h n := by
      intro m
      induction m with
      | zero => intro r t ht; exact ht
      | succ m ih => intro r t ht; exact ih (r + 1) _ (nrmS_pic hp ht d r)
    refine ⟨?_, hfold n 0 s hI⟩
    simp only [lt_t hd3, t_true]
    refine bind_fold (R := (List (List Int) × Int) ⊕ _) n (fun r t => (t, (r : Int))) (fun r t => Pic t h n) (fun r t => nrmS p h d r t) (fun t => Sum.inl (t, (n : Int))) s rfl hI (fun r t hr hJ => ?_) (fun t hJ => ?_) fun hJ => ?_
    · have hr3 : (r : Int) < (r0.length : Int) := by omega
      refine ⟨?_, nrmS_pic hp hJ d r⟩
      simp only [idx_z hpl, t_bind, hr0, lt_t hr3, t_true, eq77' hp hd hr, eq129 (shf_pic hp d r) hJ, wrap1 (show r < 2 ^ 62 by omega)]
      unfold nrmS
      cases hc : cmpP (shf p h d r) t with
      | none => rfl
      | some b => cases b <;> rfl
    · have : ¬ (n : Int) < (r0.length : Int) := by omega
      simp only [idx_z hpl, t_bind, hr0, lt_f this, t_false]
      rfl
    · simp only [t_inl, wrap1 (show d < 2 ^ 62 by omega)]
      rfl
  · have : ¬ (h : Int) < (p.length : Int) := by rw [hp.len]; exact Int.lt_irrefl _
    simp only [lt_f this, t_false]
    rfl
  · simp only [t_inl, t_ret]
    rfl
theorem eq141 {p : List (List Int)} {h n : Nat} (hp : Pic p h n) {γ : Type} (I : γ → Prop) {stp : γ → (Int × Int) × List (List Int) → Option (γ × Bool)} (f : Nat → Nat → γ → γ)
    (hst : ∀ s d r, d < h → r < n → I s → stp s (((d : Int), (r : Int)), shf p h d r) = some (f d r s, true) ∧ I (f d r s)) {g : γ} (hg : I g) : H141 p γ stp g = some (foldN (fun d s => foldN (fun r s => f d r s) n 0 s) h 0 g) ∧ I (foldN (fun d s => foldN (fun r s => f d r s) n 0 s) h 0 g) := by
  have hh1 := hp.h1
  have hh2 := hp.h2
  have hn2 := hp.n2
  obtain ⟨r0, hr0, hl0⟩ := hp.at (show 0 < h by omega)
  have hpl : 0 < p.length := by rw [hp.len]; omega
  have hfold : ∀ (d : Nat), d < h → ∀ (m r : Nat) (t : γ), r + m = n → I t → I (foldN (fun r s => f d r s) m r t) := by
    intro d hd m
    induction m with
    | zero => intro r t _ ht; exact ht
    | succ m ih => intro r t hm ht; exact ih (r + 1) _ (by omega) (hst t d r hd (by omega) ht).2
  have hall : ∀ (m d : Nat) (t : γ), d + m = h → I t → I (foldN (fun d s => foldN (fun r s => f d r s) n 0 s) m d t) := by
    intro m
    induction m with
    | zero => intro d t _ ht; exact ht
    | succ m ih => intro d t hm ht; exact ih (d + 1) _ (by omega) (hfold d (by omega) n 0 t (by omega) ht)
  refine ⟨?_, hall h 0 g (by omega) hg⟩
  show (G141 p γ stp g).run = _
  unfold G141
  refine bind_fold h (fun k s => (s, (k : Int))) (fun k s => I s) (fun d s => foldN (fun r s => f d r s) n 0 s) (fun s => Sum.inl (s, (h : Int))) g rfl hg (fun d s hd hI => ?_) (fun s hI => ?_) fun hI => ?_
  · have hd3 : (d : Int) < (p.length : Int) := by rw [hp.len]; omega
    refine ⟨?_, hfold d hd n 0 s (by omega) hI⟩
    simp only [lt_t hd3, t_true, idx_z hpl, t_bind, hr0]
    refine bind_fold (R := (γ × Int) ⊕ _) n (fun r t => (t, (r : Int))) (fun r t => I t) (fun r t => f d r t) (fun t => Sum.inl (t, (n : Int))) s rfl hI (fun r t hr hJ => ?_) (fun t hJ => ?_) fun hJ => ?_
    · have hr3 : (r : Int) < (r0.length : Int) := by omega
      obtain ⟨h1, h2⟩ := hst t d r hd hr hJ
      refine ⟨?_, h2⟩
      simp only [lt_t hr3, t_true, eq128' hp hd hr, t_bind, h1, wrap1 (show r < 2 ^ 62 by omega)]
      rfl
    · have : ¬ (n : Int) < (r0.length : Int) := by omega
      simp only [lt_f this, t_false]
      rfl
    · simp only [t_inl, wrap1 (show d < 2 ^ 62 by omega)]
      rfl
  · have : ¬ (h : Int) < (p.length : Int) := by rw [hp.len]; exact Int.lt_irrefl _
    simp only [lt_f this, t_false]
    rfl
  · simp only [t_inl, t_ret]
theorem bind141 {p : List (List Int)} {h n : Nat} (hp : Pic p h n) {R γ : Type} {K : γ → Tree R} {v : Option R} (I : γ → Prop) {stp : γ → (Int × Int) × List (List Int) → Option (γ × Bool)} (f : Nat → Nat → γ → γ) {g : γ} (hg : I g)
    (hst : ∀ s d r, d < h → r < n → I s → stp s (((d : Int), (r : Int)), shf p h d r) = some (f d r s, true) ∧ I (f d r s)) (hv : I (foldN (fun d s => foldN (fun r s => f d r s) n 0 s) h 0 g) → (K (foldN (fun d s => foldN (fun r s => f d r s) n 0 s) h 0 g)).run = v) : (Tree.bind (H141 p γ stp g) K).run = v := by
  obtain ⟨h1, h2⟩ := eq141 hp I f hst hg
  rw [h1, t_bind]
  exact hv h2
theorem shf_zero {p : List (List Int)} {h n : Nat} (hp : Pic p h n) : shf p h 0 0 = p := by
  unfold shf
  apply List.ext_getElem?
  intro i
  by_cases hi : i < h
  · rw [List.getElem?_map, List.getElem?_range hi]
    obtain ⟨x, hx, _⟩ := hp.at hi
    have e : ((i : Int) - ((0 : Nat) : Int)) = (i : Int) := by omega
    show some (rot (p.getD (mN ((i : Int) - ((0 : Nat) : Int)) h) []) 0) = _
    rw [e, mN_nat hi, getD_at hx, rot_zero, hx]
  · rw [List.getElem?_eq_none (by simp; omega), List.getElem?_eq_none (by rw [hp.len]; omega)]
theorem eq126 {p : List (List Int)} {h n : Nat} (hp : Pic p h n) : H126 p = some (nrm p h n) := by
  show (G126 p).run = _
  unfold G126
  have hh1 := hp.h1
  have hh2 := hp.h2
  have hn1 := hp.n1
  have hn2 := hp.n2
  refine bind141 hp (fun s => Pic s h n) (fun d r s => nrmS p h d r s) hp (fun s d r hd hr hI => ⟨?_, nrmS_pic hp hI d r⟩) fun hI => ?_
  · have hq := shf_pic hp d r
    refine bind_scan (R := List (List Int) × Bool) h (fun i => cmpR ((shf p h d r).getD i []) (s.getD i [])) (fun t => Sum.inr (Sum.inl (sgn (some t)))) (Sum.inl (h : Int)) (fun k hk => ?_) ?_ ?_
    · obtain ⟨x, hx, hxl⟩ := hq.at hk
      obtain ⟨y, hy, hyl⟩ := hI.at hk
      have hk3 : (k : Int) < ((shf p h d r).length : Int) := by rw [hq.len]; omega
      have hkp : k < (shf p h d r).length := by rw [hq.len]; exact hk
      have hkq : k < s.length := by rw [hI.len]; exact hk
      have hk4 : decide ((s.length : Int) ≤ (k : Int)) = false := decide_eq_false (by rw [hI.len]; omega)
      simp only [lt_t hk3, t_true, idx_lt hkp, t_bind, hx, hk4, t_false, idx_lt hkq, hy, eq96 (hxl.trans hyl.symm) (show x.length < 2 ^ 62 by omega), getD_at hx, getD_at hy, wrap1 (show k < 2 ^ 62 by omega)]
      cases cmpR x y with
      | none => rfl
      | some b => cases b <;> rfl
    · have : ¬ (h : Int) < ((shf p h d r).length : Int) := by rw [hq.len]; exact Int.lt_irrefl _
      simp only [lt_f this, t_false]
      rfl
    · unfold nrmS cmpP
      rw [hq.len]
      cases scan (fun i => cmpR ((shf p h d r).getD i []) (s.getD i [])) h 0 with
      | none =>
        have : decide ((h : Int) < (s.length : Int)) = false := decide_eq_false (by rw [hI.len]; omega)
        simp only [t_inl, this, t_false, t_ret]
        rfl
      | some t => cases t <;> rfl
  · have h0 := eq128' (d := 0) (r := 0) hI (by omega) (by omega)
    rw [show H128 (foldN (fun d s => foldN (fun r s => nrmS p h d r s) n 0 s) h 0 p, 0, 0) = _ from h0, t_bind, t_ret, shf_zero hI]
    rfl
end Go.Proofs.YtpdlblofcdcikaaGreatDoor
