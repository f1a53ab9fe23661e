/- Slopes; the law PatternNormals in plain words. Conditions: none. -/
import Derived.Test.YtpdlblofcdcikaaGreatDoorPL5
set_option linter.unusedSimpArgs false
set_option linter.unusedVariables false
set_option linter.unusedVariables false
set_option linter.unusedSimpArgs false
namespace Go.Proofs.YtpdlblofcdcikaaGreatDoor
open Go.Idl Go.Sv

def stepF (p : List (List Int)) (s r : Nat) : Option Nat := if p.getD r [] = rot (p.getD (r - 1) []) s then none else some r
def okB (p : List (List Int)) (h s : Nat) : Bool := (scan (stepF p s) (h - 1) 1).isNone
def slpF (p : List (List Int)) (h s : Nat) : Option Nat := cond (okB p h s) (some s) none
def slp (p : List (List Int)) (h n : Nat) : Option Nat := scan (slpF p h) n 0
theorem one_row {p : List (List Int)} {h n r : Nat} (hp : Pic p h n) (h1 : 1 ≤ r) (h2 : r < h) : ∃ y, p[r - 1]? = some y ∧ y.length = n ∧ List.take (r - (r - 1)) (List.drop (r - 1) p) = [y] ∧ Pic [y] 1 n := by
  obtain ⟨y, hy, hyl⟩ := hp.at (show r - 1 < h by omega)
  refine ⟨y, hy, hyl, ?_, ⟨rfl, fun x hx => by simp at hx; rw [hx]; exact hyl, by omega, by omega, hp.n1, hp.n2⟩⟩
  have e : r - (r - 1) = 1 := by omega
  have hlt : r - 1 < p.length := by rw [hp.len]; omega
  rw [e, List.drop_eq_getElem_cons hlt]
  have : p[r - 1] = y := by rw [List.getElem?_eq_getElem hlt] at hy; exact Option.some.inj hy
  rw [this]
  rfl
theorem shf_one {y : List Int} {s : Nat} : shf [y] 1 0 s = [rot y s] := rfl
theorem eq56 {p : List (List Int)} {h n : Nat} (hp : Pic p h n) (hc : chk p = 0) : H56 p = some (match slp p h n with
    | some s => ((s : Int), 0)
    | none => (0, 7)) := by
  show (G56 p).run = _
  unfold G56
  have hh1 := hp.h1
  have hh2 := hp.h2
  have hn1 := hp.n1
  have hn2 := hp.n2
  obtain ⟨r0, hr0, hl0⟩ := hp.at (show 0 < h by omega)
  have hpl : 0 < p.length := by rw [hp.len]; omega
  rw [eq23 (fun _ r hr => by rw [hp.row r hr]; omega), hc, t_bind]
  have hz : ((0 : Int) != 0) = false := rfl
  rw [hz, t_false, idx_z hpl, t_bind, hr0, t_bind]
  refine bind_scan n (slpF p h) (fun s => Sum.inr (Sum.inl ((s : Int), 0))) (Sum.inl (n : Int)) (fun s hs => ?_) ?_ ?_
  · have hs3 : (s : Int) < (r0.length : Int) := by omega
    simp only [lt_t hs3, t_true]
    refine bind_scan1 (R := Int ⊕ (Int ⊕ (Int × Int) ⊕ Nat × Int)) h (stepF p s) (fun r => Sum.inr (Sum.inr (1, (r : Int)))) (Sum.inl (h : Int)) hh1 (fun r hr1 hr => ?_) ?_ ?_
    · obtain ⟨x, hx, hxl⟩ := hp.at hr
      obtain ⟨y, hy, hyl, hty, hpy⟩ := one_row hp hr1 hr
      have hr3 : (r : Int) < (p.length : Int) := by rw [hp.len]; omega
      have hrp : r < p.length := by rw [hp.len]; exact hr
      have hw : IntKind.i64.wrap ((r : Int) - 1) = ((r - 1 : Nat) : Int) := wrap_pred hr1 (by omega)
      have hsh := eq128' (d := 0) hpy (by omega) hs
      rw [shf_one] at hsh
      have hsh : H128 ([y], 0, (s : Int)) = some [rot y s] := hsh
      simp only [lt_t hr3, t_true, idx_lt hrp, t_bind, hx, bndI_le (show r ≤ p.length by omega), hw, bndI_le (show r - 1 ≤ r by omega), hty, hsh]
      show (Tree.bind (H98 (x, rot y s)) fun (x13 : Bool) => Tree.ite (!x13) (Tree.ret (Sum.inr (Sum.inr (Sum.inr (1, (r : Int))))))
                                            (Tree.ret (Sum.inl (IntKind.i64.wrap ((r : Int) + 1))))) = _
      rw [eq98 (show x.length < 2 ^ 62 by omega), t_bind, wrap1 (show r < 2 ^ 62 by omega)]
      unfold stepF
      rw [getD_at hx, getD_at hy]
      by_cases q : x = rot y s
      · rw [if_pos q, decide_eq_true q]; rfl
      · rw [if_neg q, decide_eq_false q]; rfl
    · have : ¬ (h : Int) < (p.length : Int) := by rw [hp.len]; exact Int.lt_irrefl _
      simp only [lt_f this, t_false]
      rfl
    · unfold slpF okB
      cases scan (stepF p s) (h - 1) 1 with
      | none => rfl
      | some r => simp only [t_inr, wrap1 (show s < 2 ^ 62 by omega)]; rfl
  · have : ¬ (n : Int) < (r0.length : Int) := by omega
    simp only [lt_f this, t_false]
    rfl
  · unfold slp
    cases scan (slpF p h) n 0 with
    | none => rfl
    | some s => rfl
theorem foldN_and (e : Nat → Bool) (f : Nat → Option Nat) (he : ∀ k, (f (k + 1)).isNone = e k) : ∀ (m k : Nat) (b : Bool), foldN (fun k b => b && e k) m k b = (b && (scan f m (k + 1)).isNone)
  | 0, k, b => by simp [foldN, scan]
  | m + 1, k, b => by
    unfold foldN scan
    rw [foldN_and e f he m (k + 1)]
    have := he k
    cases hf : f (k + 1) with
    | none => rw [hf] at this; rw [← this]; simp
    | some r => rw [hf] at this; rw [← this]; simp
theorem eq58 {p : List (List Int)} {h n : Nat} (hp : Pic p h n) : H58 p = some (match slp p h n with
    | some s => ((s : Int), true)
    | none => (0, false)) := by
  show (G58 p).run = _
  unfold G58
  have hh1 := hp.h1
  have hh2 := hp.h2
  have hn1 := hp.n1
  have hn2 := hp.n2
  obtain ⟨r0, hr0, hl0⟩ := hp.at (show 0 < h by omega)
  have hpl : 0 < p.length := by rw [hp.len]; omega
  refine bind_scan n (slpF p h) (fun s => Sum.inr (Sum.inl ((s : Int), true))) (Sum.inl (n : Int)) (fun s hs => ?_) ?_ ?_
  · have hs3 : (s : Int) < (r0.length : Int) := by omega
    simp only [idx_z hpl, t_bind, hr0, lt_t hs3, t_true]
    refine bind_fold (R := Int ⊕ (Int ⊕ (Int × Bool) ⊕ Nat × Int)) (h - 1) (fun k b => (b, ((k + 1 : Nat) : Int))) (fun _ _ => True) (fun k b => b && decide (rot (p.getD k []) s = p.getD (k + 1) [])) (fun b => Sum.inl (b, (h : Int))) true rfl trivial (fun k b hk _ => ⟨?_, trivial⟩) (fun b _ => ?_) fun _ => ?_
    · have hr1 : 1 ≤ k + 1 := by omega
      have hr : k + 1 < h := by omega
      obtain ⟨x, hx, hxl⟩ := hp.at hr
      obtain ⟨y, hy, hyl, hty, hpy⟩ := one_row hp hr1 hr
      have hr3 : ((k + 1 : Nat) : Int) < (p.length : Int) := by rw [hp.len]; omega
      have hrp : k + 1 < p.length := by rw [hp.len]; exact hr
      have hw : IntKind.i64.wrap (((k + 1 : Nat) : Int) - 1) = ((k + 1 - 1 : Nat) : Int) := wrap_pred hr1 (by omega)
      have hsh := eq77' (d := 0) hpy (by omega) hs
      rw [shf_one] at hsh
      have hsh : H77 ([y], 0, (s : Int)) = some [rot y s] := hsh
      simp only [lt_t hr3, t_true, t_bind, bndI_le (show k + 1 ≤ p.length by omega), hw, bndI_le (show k + 1 - 1 ≤ k + 1 by omega), hty, hsh, wrap1 (show k + 1 < 2 ^ 62 by omega)]
      have hy : p[k]? = some y := hy
      cases b with
      | false => rfl
      | true =>
        show (Tree.bind (idx p.length ((k + 1 : Nat) : Int)) fun (x10 : Nat) => Tree.bind p[x10]? fun (x11 : List Int) => Tree.bind (H52 (rot y s, x11)) fun (x12 : Bool) => Tree.ret (Sum.inl (x12, ((k + 1 + 1 : Nat) : Int)))) = _
        rw [idx_lt hrp, t_bind, hx, t_bind, eq52 (show (rot y s).length < 2 ^ 62 by rw [rot_len]; omega), t_bind, getD_at hx, getD_at hy]
        rfl
    · have e : ((h - 1 + 1 : Nat) : Int) = (h : Int) := by omega
      have : ¬ (h : Int) < (p.length : Int) := by rw [hp.len]; exact Int.lt_irrefl _
      simp only [e, lt_f this, t_false]
      rfl
    · rw [foldN_and _ (stepF p s) (fun k => by
        unfold stepF
        by_cases q : p.getD (k + 1) [] = rot (p.getD (k + 1 - 1) []) s
        · rw [if_pos q]
          have : rot (p.getD k []) s = p.getD (k + 1) [] := q.symm
          rw [decide_eq_true this]; rfl
        · rw [if_neg q]
          have : ¬ rot (p.getD k []) s = p.getD (k + 1) [] := fun h => q h.symm
          rw [decide_eq_false this]; rfl) (h - 1) 0 true]
      unfold slpF okB
      show (Tree.sum (Sum.inl (true && (scan (stepF p s) (h - 1) 1).isNone, (h : Int))) _ _).run = _
      cases scan (stepF p s) (h - 1) 1 with
      | none => rfl
      | some r =>
        simp only [t_inl, Option.isNone, Bool.and_false, t_false, wrap1 (show s < 2 ^ 62 by omega)]
        rfl
  · have : ¬ (n : Int) < (r0.length : Int) := by omega
    simp only [idx_z hpl, t_bind, hr0, lt_f this, t_false]
    rfl
  · unfold slp
    cases scan (slpF p h) n 0 with
    | none => rfl
    | some s => rfl
theorem eq32 {a b : List (List Int)} {e f : Int} (ha : a.length < 2 ^ 62) (hr : ∀ r ∈ a, r.length < 2 ^ 62) (he : e = f) (hab : a = b) : H32 (a, e, b, f) = some true := by
  show (G32 a e b f).run = _
  unfold G32
  subst he hab
  have h1 : wantB (e == e) true = true := by simp [wantB]
  rw [h1, t_true, eq53 ha hr, t_bind, t_ret]
  simp
theorem eq43 {a e : Int} : H43 (a, e, a, e) = some true := by
  show (G43 a e a e).run = _
  unfold G43
  have h1 : wantB (e == e) true = true := by simp [wantB]
  rw [h1, t_true, t_ret]
  simp
theorem Pic.lt {p : List (List Int)} {h n : Nat} (hp : Pic p h n) : p.length < 2 ^ 62 ∧ ∀ r ∈ p, r.length < 2 ^ 62 := by
  have h2 := hp.h2
  have n2 := hp.n2
  exact ⟨by rw [hp.len]; omega, fun r hr => by rw [hp.row r hr]; omega⟩
theorem nrm_pic {p : List (List Int)} {h n : Nat} (hp : Pic p h n) : Pic (nrm p h n) h n := by
  have hfold : ∀ (d m r : Nat) (t : List (List Int)), Pic t h n → Pic (foldN (fun r s => nrmS p h d r s) m r t) h n := by
    intro d m
    induction m with
    | zero => intro r t ht; exact ht
    | succ m ih => intro r t ht; exact ih (r + 1) _ (nrmS_pic hp ht d r)
  have hall : ∀ (m d : Nat) (t : List (List Int)), Pic t h n → Pic (foldN (fun d s => foldN (fun r s => nrmS p h d r s) n 0 s) m d t) h n := by
    intro m
    induction m with
    | zero => intro d t ht; exact ht
    | succ m ih => intro d t ht; exact ih (d + 1) _ (hfold d n 0 t ht)
  exact hall h 0 p hp
theorem eq54 {p : List (List Int)} (hr : p.length ≤ 24 → ∀ r ∈ p, r.length < 2 ^ 62) : ∃ q, H54 p = some (q, chk p) ∧ (chk p ≠ 0 → q = []) ∧ ∀ n, Pic p p.length n → chk p = 0 → q = nrm p p.length n := by
  have h0 : H54 p = (Tree.bind (H23 p) fun (x1 : Int) =>
    Tree.ite (x1 != 0) (Tree.ret ([], x1)) (Tree.bind (H126 p) fun (x2 : List (List Int)) => Tree.ret (x2, 0))).run := rfl
  rw [h0, eq23 hr, t_bind]
  by_cases hc : chk p = 0
  · obtain ⟨n, hp⟩ := chk_pic hc
    have hz : ((0 : Int) != 0) = false := rfl
    rw [hc, hz, t_false, eq126 hp, t_bind, t_ret]
    refine ⟨_, rfl, fun h => absurd rfl h, fun n' hp' _ => ?_⟩
    obtain ⟨x, hx, hxl⟩ := hp.at (show 0 < p.length from hp.h1)
    obtain ⟨x', hx', hxl'⟩ := hp'.at (show 0 < p.length from hp.h1)
    rw [hx] at hx'
    cases hx'
    rw [← hxl, ← hxl']
  · have hz : (chk p != 0) = true := by simpa using hc
    rw [hz, t_true, t_ret]
    exact ⟨_, rfl, fun _ => rfl, fun n _ h => absurd h hc⟩
theorem eq55 {p r : List (List Int)} (hp : p.length ≤ 24 → ∀ x ∈ p, x.length < 2 ^ 62) (hr : r.length ≤ 24 → ∀ x ∈ r, x.length < 2 ^ 62) : ∃ b, H55 (p, r) = some (b, fst0 [chk p, chk r]) ∧ (fst0 [chk p, chk r] ≠ 0 → b = false) ∧ ∀ n m, Pic p p.length n → Pic r r.length m → chk p = 0 → chk r = 0 → b = decide (nrm p p.length n = nrm r r.length m) := by
  have h0 : H55 (p, r) = (G55 p r).run := rfl
  rw [h0]
  unfold G55
  rw [eq23 hp, t_bind, eq23 hr, t_bind, eq87 (by simp), t_bind]
  by_cases hc : fst0 [chk p, chk r] = 0
  · have hz : ((0 : Int) != 0) = false := rfl
    have hc2 : chk p = 0 ∧ chk r = 0 := by
      unfold fst0 at hc
      by_cases q : chk p ≠ 0
      · rw [if_pos q] at hc; exact absurd hc q
      · rw [if_neg q] at hc
        unfold fst0 at hc
        by_cases q2 : chk r ≠ 0
        · rw [if_pos q2] at hc; exact absurd hc q2
        · exact ⟨by simpa using q, by simpa using q2⟩
    obtain ⟨n, hpp⟩ := chk_pic hc2.1
    obtain ⟨m, hpr⟩ := chk_pic hc2.2
    have hl := (nrm_pic hpp).lt
    rw [hc, hz, t_false, eq126 hpp, t_bind, eq126 hpr, t_bind, eq127 hl.1 hl.2, t_bind, t_ret]
    refine ⟨_, rfl, fun h => absurd rfl h, fun n' m' hp' hr' _ _ => ?_⟩
    obtain ⟨x, hx, hxl⟩ := hpp.at (show 0 < p.length from hpp.h1)
    obtain ⟨x', hx', hxl'⟩ := hp'.at (show 0 < p.length from hpp.h1)
    obtain ⟨y, hy, hyl⟩ := hpr.at (show 0 < r.length from hpr.h1)
    obtain ⟨y', hy', hyl'⟩ := hr'.at (show 0 < r.length from hpr.h1)
    rw [hx] at hx'
    cases hx'
    rw [hy] at hy'
    cases hy'
    rw [← hxl, ← hxl', ← hyl, ← hyl']
  · have hz : (fst0 [chk p, chk r] != 0) = true := by simpa using hc
    rw [hz, t_true, t_ret]
    exact ⟨_, rfl, fun _ => rfl, fun n m _ _ h1 h2 => absurd (by simp [fst0, h1, h2]) hc⟩
/-- the law PatternNormals -/
theorem normals_plain (p r : List (List Int)) : H10 (p, r) = some true := by
  show (G10 p r).run = _
  unfold G10
  obtain ⟨s1, e1, f1⟩ := eq25 (p := p)
  obtain ⟨s2, e2, f2⟩ := eq25 (p := r)
  rw [e1, t_bind]
  cases s1 with
  | false => rfl
  | true =>
    have hw : wantB (!true) false = true := rfl
    rw [hw, t_true, e2, t_bind]
    cases s2 with
    | false => rfl
    | true =>
      have hnt : (!true) = false := rfl
      rw [hnt, t_false]
      have g1 : p.length ≤ 24 → ∀ x ∈ p, x.length < 2 ^ 62 := fun hl x hx => by
        obtain ⟨i, hi, rfl⟩ := List.getElem_of_mem hx
        have := (f1 rfl).2 i _ (by omega) (List.getElem?_eq_getElem hi)
        omega
      have g2 : r.length ≤ 24 → ∀ x ∈ r, x.length < 2 ^ 62 := fun hl x hx => by
        obtain ⟨i, hi, rfl⟩ := List.getElem_of_mem hx
        have := (f2 rfl).2 i _ (by omega) (List.getElem?_eq_getElem hi)
        omega
      obtain ⟨q, h54, q0, q1⟩ := eq54 g1
      obtain ⟨b, h55, b0, b1⟩ := eq55 g1 g2
      have w1 : ∀ x : Int, wantB (x == x) true = true := fun x => by simp [wantB]
      have w2 : ∀ x : Bool, wantB (x == x) true = true := fun x => by simp [wantB]
      have w3 : wantB true true = true := rfl
      rw [h54, t_bind, h55, t_bind]
      by_cases ha : chk p = 0
      · obtain ⟨n, hp⟩ := chk_pic ha
        have hq := q1 n hp ha
        have hl := (nrm_pic hp).lt
        have z0 : ((0 : Int) == 0) = true := rfl
        rw [eq56 hp ha, t_bind, eq24, t_bind, eq24, t_bind, eq37 (by simp), t_bind, ha, z0, t_true, eq57 hp, t_bind, eq58 hp, t_bind, eq30, t_bind]
        have hf : fst0 [0, chk r] = chk r := by
          unfold fst0
          rw [if_neg (by simp)]
          unfold fst0
          by_cases q : chk r ≠ 0
          · rw [if_pos q]
          · rw [if_neg q]; simp at q; rw [q]; rfl
        rw [ha] at b0 b1
        rw [hf] at b0 ⊢
        have h32 : H32 (q, 0, nrm p p.length n, 0) = some true := eq32 (by rw [hq]; exact hl.1) (by rw [hq]; exact hl.2) rfl hq
        by_cases hb : chk r = 0
        · obtain ⟨m, hr⟩ := chk_pic hb
          have hbb := b1 n m hp hr rfl hb
          rw [hb, z0, t_true, eq57 hr, t_bind, eq53 hl.1 hl.2, t_bind, h32, t_bind, w3, t_true, t_true, hbb, w2, t_true]
          cases slp p p.length n with
          | none => show (Tree.bind (H43 (0, 7, 0, 7)) _).run = _; rw [eq43]; rfl
          | some s => show (Tree.bind (H43 ((s : Int), 0, (s : Int), 0)) _).run = _; rw [eq43]; rfl
        · have z1 : (chk r == 0) = false := by simpa using hb
          rw [z1, t_false, h32, t_bind, w3, t_true, w1, t_true, b0 hb, w2, t_true]
          cases slp p p.length n with
          | none => show (Tree.bind (H43 (0, 7, 0, 7)) _).run = _; rw [eq43]; rfl
          | some s => show (Tree.bind (H43 ((s : Int), 0, (s : Int), 0)) _).run = _; rw [eq43]; rfl
      · have z1 : (chk p == 0) = false := by simpa using ha
        have hf : fst0 [chk p, chk r] = chk p := by
          unfold fst0
          rw [if_pos ha]
        have h56 : H56 p = some (0, chk p) := by
          show (G56 p).run = _
          unfold G56
          rw [eq23 g1, t_bind]
          have hz : (chk p != 0) = true := by simpa using ha
          rw [hz, t_true, t_ret]
        have h32 : H32 (q, chk p, [], chk p) = some true := eq32 (by rw [q0 ha]; simp) (by rw [q0 ha]; simp) rfl (q0 ha)
        rw [h56, t_bind, eq24, t_bind, eq24, t_bind, eq37 (by simp), t_bind, hf, z1, t_false, t_false, h32, t_bind, w3, t_true, w1, t_true, b0 (by rw [hf]; exact ha), w2, t_true, eq43, t_bind, w3, t_true]
        rfl
end Go.Proofs.YtpdlblofcdcikaaGreatDoor
