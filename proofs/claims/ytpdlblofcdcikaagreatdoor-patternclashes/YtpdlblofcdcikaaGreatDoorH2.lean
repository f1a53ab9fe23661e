/- Contracts of CheckFit and checkFit. Conditions: none. -/
import Derived.Test.YtpdlblofcdcikaaGreatDoorH1
set_option linter.unusedSimpArgs false
set_option linter.unusedVariables false
namespace Go.Proofs.YtpdlblofcdcikaaGreatDoor
open Go.Idl

theorem pureH1 : NatPure hat1 := addNat_pure pureG9
/-! 28: CheckFit -/
noncomputable def k28 (args : List Value) (H : IH) : Option Value := match args with
  | [.int .i64 n, w, .slice a m c] => (match intsOf H w with
    | some ws => if chkScheme n ws ≠ 0 then some (.int .i64 (chkScheme n ws)) else
      (match k23 [.slice a m c] H with
      | some (.int .i64 pe) => if pe ≠ 0 then some (.int .i64 pe) else (picOf H (.slice a m c)).map fun rs => .int .i64 (if l0Of rs = ws.length then 0 else 2)
      | _ => none)
    | none => none)
  | _ => none
theorem k23_24 (args : List Value) (H : IH) : k24 args H = k23 args H := by
  have e : refRows = rowErrs := funext fun rs => (rows_eq rs).symm
  rcases args with _ | ⟨v, _ | ⟨u, l⟩⟩
  · rfl
  · cases v with
    | slice a n c => unfold k24 k23; simp only [e]
    | _ => rfl
  · cases v <;> rfl
theorem k23_zero {a : Option Addr} {m c : Nat} {H : IH} (h : k23 [.slice a m c] H = some (.int .i64 0)) : m ≠ 0 ∧ m ≤ 24 ∧ ∃ rs, picOf H (.slice a m c) = some rs ∧ firstNZ (rowErrs rs) = 0 := by
  unfold k23 at h
  simp only at h
  split at h
  · cases h
  · rename_i h0
    split at h
    · cases h
    · rename_i h24
      obtain ⟨rs, hr, he⟩ := Option.map_eq_some_iff.1 h
      exact ⟨h0, by omega, rs, hr, by simpa using he⟩
theorem firstNZ_mem : ∀ {l : List Int}, firstNZ l = 0 → ∀ z ∈ l, z = 0
  | [], _, z, hz => by cases hz
  | y :: l, h, z, hz => by
    have hy : y = 0 := by
      by_cases hx : y = 0
      · exact hx
      · have : (y != 0) = true := by simpa using hx
        simp only [firstNZ, this, cond_true] at h
        exact h
    subst hy
    rcases List.mem_cons.1 hz with rfl | hz
    · rfl
    · exact firstNZ_mem (l := l) h z hz
/-- the rows of a valid picture -/
structure Valid (zss : List (List Int)) : Prop where
  ne : zss ≠ []
  rows : zss.length ≤ 24
  len : ∀ zs ∈ zss, zs.length = (zss.headD []).length
  pos : 0 < (zss.headD []).length
  col : (zss.headD []).length ≤ 24
  ran : ∀ zs ∈ zss, ∀ z ∈ zs, 0 ≤ z ∧ z < 8
theorem valid_of {a : Option Addr} {m c : Nat} {H : IH} {rs : List (Value × List Int)} (h : k23 [.slice a m c] H = some (.int .i64 0)) (hr : picOf H (.slice a m c) = some rs) : m = rs.length ∧ Valid (rs.map (·.2)) ∧ l0Of rs = ((rs.map (·.2)).headD []).length := by
  obtain ⟨h0, h24, rs', hr', he⟩ := k23_zero h
  rw [hr] at hr'
  cases hr'
  obtain ⟨a', c', hsl, _, _⟩ := picOf_inv hr
  have hm : m = rs.length := by simp at hsl; exact hsl.2.1
  subst hm
  have hl0 : l0Of rs = ((rs.map (·.2)).headD []).length := by
    cases rs with
    | nil => rfl
    | cons r l => rfl
  have hall := firstNZ_mem he
  have hrow : ∀ r ∈ rs, ¬ r.2.length = 0 ∧ r.2.length ≤ 24 ∧ r.2.length = l0Of rs ∧ ∀ z ∈ r.2, badColour z = false := by
    intro r hr
    have h1 := hall _ (List.mem_map.2 ⟨r, hr, rfl⟩)
    have h2 := firstNZ_mem h1
    have g1 := h2 _ (List.mem_cons_self)
    have g2 := h2 _ (List.mem_cons_of_mem _ List.mem_cons_self)
    have g3 := h2 _ (List.mem_cons_of_mem _ (List.mem_cons_of_mem _ List.mem_cons_self))
    have g4 := h2 _ (List.mem_cons_of_mem _ (List.mem_cons_of_mem _ (List.mem_cons_of_mem _ List.mem_cons_self)))
    refine ⟨fun e => ?_, ?_, ?_, ?_⟩
    · rw [e] at g1; cases g1
    · by_cases hx : r.2.length ≤ 24
      · exact hx
      · rw [decide_eq_true (show (24 : Int) < (r.2.length : Int) by omega)] at g2; cases g2
    · by_cases hx : r.2.length = l0Of rs
      · exact hx
      · have : ((r.2.length : Int) != (l0Of rs : Int)) = true := by simp; omega
        rw [this] at g3; cases g3
    · cases hx : r.2.any badColour with
      | true => rw [hx] at g4; cases g4
      | false => intro z hz; have := List.any_eq_false.1 hx z hz; simpa using this
  refine ⟨rfl, ⟨by intro e; apply h0; have := congrArg List.length e; simpa using this, by simpa using h24, ?_, ?_, ?_, ?_⟩, hl0⟩
  · intro zs hz
    obtain ⟨r, hr, rfl⟩ := List.mem_map.1 hz
    rw [← hl0]; exact (hrow r hr).2.2.1
  · rw [← hl0]
    cases rs with
    | nil => exact absurd rfl h0
    | cons r l => have := (hrow r List.mem_cons_self).1; show 0 < r.2.length; omega
  · rw [← hl0]
    cases rs with
    | nil => exact absurd rfl h0
    | cons r l => exact (hrow r List.mem_cons_self).2.1
  · intro zs hz z hzz
    obtain ⟨r, hr, rfl⟩ := List.mem_map.1 hz
    have := (hrow r hr).2.2.2 z hzz
    unfold badColour at this
    simp at this
    exact ⟨this.1, this.2⟩
theorem k28_inv {args : List Value} {H : IH} {v : Value} (h : k28 args H = some v) : ∃ n w a m c ws, args = [.int .i64 n, w, .slice a m c] ∧ intsOf H w = some ws ∧
    ((chkScheme n ws ≠ 0 ∧ v = .int .i64 (chkScheme n ws)) ∨ (chkScheme n ws = 0 ∧ ∃ pe, k23 [.slice a m c] H = some (.int .i64 pe) ∧ ((pe ≠ 0 ∧ v = .int .i64 pe) ∨
      (pe = 0 ∧ ∃ r0 rs, picOf H (.slice a m c) = some (r0 :: rs) ∧ v = .int .i64 (if r0.2.length = ws.length then 0 else 2))))) := by
  unfold k28 at h
  split at h
  · rename_i n w a m c
    split at h
    · rename_i ws hz
      refine ⟨n, w, a, m, c, ws, rfl, hz, ?_⟩
      split at h
      · rename_i hs; cases h; exact .inl ⟨hs, rfl⟩
      · rename_i hs
        refine .inr ⟨by simpa using hs, ?_⟩
        split at h
        · rename_i pe hk
          refine ⟨pe, hk, ?_⟩
          split at h
          · rename_i hp; cases h; exact .inl ⟨hp, rfl⟩
          · rename_i hp
            have hp0 : pe = 0 := by simpa using hp
            subst hp0
            obtain ⟨rs, hr, rfl⟩ := Option.map_eq_some_iff.1 h
            obtain ⟨h0, _, _⟩ := k23_zero hk
            obtain ⟨hm, _, _⟩ := valid_of hk hr
            cases rs with
            | nil => exact absurd hm h0
            | cons r0 rs => exact .inr ⟨rfl, r0, rs, hr, rfl⟩
        · cases h
    · cases h
  · cases h
noncomputable def hat2 : Nats := addNat hat1 28 k28
theorem h20 : hat1 20 = some (ofK k20) := rfl
theorem h24' : hat1 24 = some (ofK k24) := rfl
theorem h19 : hat1 19 = some (ofK k19) := rfl
theorem h23 : hat1 23 = some (ofK k23) := rfl
theorem h87 : hat1 87 = some (ofK k87) := rfl
theorem h89 : hat1 89 = some (ofK k89) := rfl
theorem ne_zero_beq {z : Int} (h : z ≠ 0) : (z == 0) = false := by simpa using h
theorem k20_eq {n : Int} {w : Value} {H : IH} {ws : List Int} (hz : intsOf H w = some ws) : k20 [.int .i64 n, w] H = some (.int .i64 (chkScheme n ws)) := by unfold k20; simp only [hz, Option.map_some, scheme_eq]
theorem k19_eq {n : Int} {w : Value} {H : IH} {ws : List Int} (hz : intsOf H w = some ws) : k19 [.int .i64 n, w] H = some (.int .i64 (chkScheme n ws)) := by unfold k19; simp only [hz, Option.map_some]
set_option maxRecDepth 10000 in
theorem setH2 : Setup Tryz.prog good hat2 (globG 3) := by
  refine plainN setH1 k28 Tryz.func28 rfl rfl fun args H v hk => ?_
  obtain ⟨n, w, a, m, c, ws, rfl, hz, hcase⟩ := k28_inv hk
  have hv : plainV v = true := by
    rcases hcase with ⟨_, rfl⟩ | ⟨_, pe, _, ⟨_, rfl⟩ | ⟨_, _, _, _, rfl⟩⟩ <;> rfl
  refine ⟨hv, ?_⟩
  obtain ⟨aw, cw, rfl, hwl, _⟩ := intsOf_inv hz
  show Holds _ _ false _ [.int .i64 n, .slice aw ws.length cw, .slice a m c, undef, undef, undef, undef, undef, undef, undef, undef, undef, undef, undef, undef, undef, undef, undef, undef, undef, undef, undef, undef, undef, undef, undef, undef] H _
  refine setH1.regE 0 (by kernel_rfl) (by simp only [List.map_cons, List.map_nil]; rfl) (by simp only [qB, qC, qD, qE, qF, qG, qH, qJ, qK, qM, qN, qP, iop1, qR, qS, iop, qT, qV, qW, qX, qY, qZ, zA, Option.getD_some, zB, zC, zD, zE, zF, zG, zH, zJ, zK, zM, zN, Step1.ofO, lenC, callF, zP, zR, zS, zT, zV, cond_true, cond_false, decide_true, decide_false, beq_self_eq_true, Bool.false_eq_true, Bool.true_eq_false, zW, zX, zY, zZ, Bool.not_true, Bool.not_false, appC, copyC, yA, List.map_cons, List.map_nil, goInt]; rfl) ?_
  refine setH1.regE 0 (by kernel_rfl) (by simp only [List.map_cons, List.map_nil]; rfl) (by simp only [qB, qC, qD, qE, qF, qG, qH, qJ, qK, qM, qN, qP, iop1, qR, qS, iop, qT, qV, qW, qX, qY, qZ, zA, Option.getD_some, zB, zC, zD, zE, zF, zG, zH, zJ, zK, zM, zN, Step1.ofO, lenC, callF, zP, zR, zS, zT, zV, cond_true, cond_false, decide_true, decide_false, beq_self_eq_true, Bool.false_eq_true, Bool.true_eq_false, zW, zX, zY, zZ, Bool.not_true, Bool.not_false, appC, copyC, yA, List.map_cons, List.map_nil, goInt, e20, enter_k h20, ofK, k20_eq hz]; rfl) ?_
  rcases hcase with ⟨hs, rfl⟩ | ⟨hs, pe, hk23, hcase⟩
  · have hs' := ne_zero_beq hs
    refine setH1.ifW (by kernel_rfl) (by simp only [List.map_cons, List.map_nil]; rfl) (by simp only [qB, qC, qD, qE, qF, qG, qH, qJ, qK, qM, qN, qP, iop1, qR, qS, iop, qT, qV, qW, qX, qY, qZ, zA, Option.getD_some, zB, zC, zD, zE, zF, zG, zH, zJ, zK, zM, zN, Step1.ofO, lenC, callF, zP, zR, zS, zT, zV, cond_true, cond_false, decide_true, decide_false, beq_self_eq_true, Bool.false_eq_true, Bool.true_eq_false, zW, zX, zY, zZ, Bool.not_true, Bool.not_false, appC, copyC, yA, List.map_cons, List.map_nil, goInt, hs']; rfl) (by kernel_rfl) (by simp only [qT, qX, qY, Option.getD_some]; rfl) (fun ht => by cases ht) (fun _ => .skip (ST.go ?_))
    refine setH1.ifW (by kernel_rfl) (by simp only [List.map_cons, List.map_nil]; rfl) (by simp only [qB, qC, qD, qE, qF, qG, qH, qJ, qK, qM, qN, qP, iop1, qR, qS, iop, qT, qV, qW, qX, qY, qZ, zA, Option.getD_some, zB, zC, zD, zE, zF, zG, zH, zJ, zK, zM, zN, Step1.ofO, lenC, callF, zP, zR, zS, zT, zV, cond_true, cond_false, decide_true, decide_false, beq_self_eq_true, Bool.false_eq_true, Bool.true_eq_false, zW, zX, zY, zZ, Bool.not_true, Bool.not_false, appC, copyC, yA, List.map_cons, List.map_nil, goInt, hs']; rfl) (by kernel_rfl) (by simp only [qT, qX, qY, Option.getD_some]; rfl) (fun ht => by cases ht) (fun _ => .skip (ST.go ?_))
    exact setH1.regE 0 (by kernel_rfl) (by simp only [List.map_cons, List.map_nil]; rfl) (by simp only [qB, qC, qD, qE, qF, qG, qH, qJ, qK, qM, qN, qP, iop1, qR, qS, iop, qT, qV, qW, qX, qY, qZ, zA, Option.getD_some, zB, zC, zD, zE, zF, zG, zH, zJ, zK, zM, zN, Step1.ofO, lenC, callF, zP, zR, zS, zT, zV, cond_true, cond_false, decide_true, decide_false, beq_self_eq_true, Bool.false_eq_true, Bool.true_eq_false, zW, zX, zY, zZ, Bool.not_true, Bool.not_false, appC, copyC, yA, List.map_cons, List.map_nil, goInt]; rfl) (.ret ⟨.inr rfl, ires_tmp rfl (by simp only [qX, qY]), .refl _⟩)
  · rw [hs]
    have hk24 : k24 [.slice a m c] H = some (.int .i64 pe) := by rw [k23_24]; exact hk23
    refine setH1.ifW (by kernel_rfl) (by simp only [List.map_cons, List.map_nil]; rfl) (by simp only [qB, qC, qD, qE, qF, qG, qH, qJ, qK, qM, qN, qP, iop1, qR, qS, iop, qT, qV, qW, qX, qY, qZ, zA, Option.getD_some, zB, zC, zD, zE, zF, zG, zH, zJ, zK, zM, zN, Step1.ofO, lenC, callF, zP, zR, zS, zT, zV, cond_true, cond_false, decide_true, decide_false, beq_self_eq_true, Bool.false_eq_true, Bool.true_eq_false, zW, zX, zY, zZ, Bool.not_true, Bool.not_false, appC, copyC, yA, List.map_cons, List.map_nil, goInt]; rfl) (by kernel_rfl) (by simp only [qT, qX, qY, Option.getD_some]; rfl) (fun _ => ?_) (fun ht => by cases ht)
    refine setH1.regZ 0 (by kernel_rfl) (by simp only [List.map_cons, List.map_nil]; rfl) (by simp only [qB, qC, qD, qE, qF, qG, qH, qJ, qK, qM, qN, qP, iop1, qR, qS, iop, qT, qV, qW, qX, qY, qZ, zA, Option.getD_some, zB, zC, zD, zE, zF, zG, zH, zJ, zK, zM, zN, Step1.ofO, lenC, callF, zP, zR, zS, zT, zV, cond_true, cond_false, decide_true, decide_false, beq_self_eq_true, Bool.false_eq_true, Bool.true_eq_false, zW, zX, zY, zZ, Bool.not_true, Bool.not_false, appC, copyC, yA, List.map_cons, List.map_nil, goInt, e24, enter_k h24', ofK, hk24]; rfl) (ST.go ?_)
    rcases hcase with ⟨hp, rfl⟩ | ⟨rfl, r0, rs, hr, rfl⟩
    · have hp' := ne_zero_beq hp
      refine setH1.ifW (by kernel_rfl) (by simp only [List.map_cons, List.map_nil]; rfl) (by simp only [qB, qC, qD, qE, qF, qG, qH, qJ, qK, qM, qN, qP, iop1, qR, qS, iop, qT, qV, qW, qX, qY, qZ, zA, Option.getD_some, zB, zC, zD, zE, zF, zG, zH, zJ, zK, zM, zN, Step1.ofO, lenC, callF, zP, zR, zS, zT, zV, cond_true, cond_false, decide_true, decide_false, beq_self_eq_true, Bool.false_eq_true, Bool.true_eq_false, zW, zX, zY, zZ, Bool.not_true, Bool.not_false, appC, copyC, yA, List.map_cons, List.map_nil, goInt, hp']; rfl) (by kernel_rfl) (by simp only [qT, qX, qY, Option.getD_some]; rfl) (fun ht => by cases ht) (fun _ => .skip (ST.go ?_))
      exact setH1.regE 0 (by kernel_rfl) (by simp only [List.map_cons, List.map_nil]; rfl) (by simp only [qB, qC, qD, qE, qF, qG, qH, qJ, qK, qM, qN, qP, iop1, qR, qS, iop, qT, qV, qW, qX, qY, qZ, zA, Option.getD_some, zB, zC, zD, zE, zF, zG, zH, zJ, zK, zM, zN, Step1.ofO, lenC, callF, zP, zR, zS, zT, zV, cond_true, cond_false, decide_true, decide_false, beq_self_eq_true, Bool.false_eq_true, Bool.true_eq_false, zW, zX, zY, zZ, Bool.not_true, Bool.not_false, appC, copyC, yA, List.map_cons, List.map_nil, goInt]; rfl) (.ret ⟨.inr rfl, ires_tmp rfl (by simp only [qX, qY]), .refl _⟩)
    · obtain ⟨ap, cp, hsl, _, _⟩ := picOf_inv hr
      simp only [Value.slice.injEq] at hsl
      obtain ⟨rfl, rfl, rfl⟩ := hsl
      obtain ⟨q, hq', hld, hz0⟩ := read_row el25 hr (i := 0) rfl (k := .i64)
      have hq : iindexAt Tryz.prog 25 (.slice a (r0 :: rs).length c) (.int .i64 0) = some q := hq'
      obtain ⟨a0, c0, hr0, _, _⟩ := intsOf_inv hz0
      rw [hr0] at hld
      by_cases hl : r0.2.length = ws.length
      · have hl' : ((r0.2.length : Int) != (ws.length : Int)) = false := by simp; omega
        rw [if_pos hl]
        refine setH1.ifW (by kernel_rfl) (by simp only [List.map_cons, List.map_nil]; rfl) (by simp only [qB, qC, qD, qE, qF, qG, qH, qJ, qK, qM, qN, qP, iop1, qR, qS, iop, qT, qV, qW, qX, qY, qZ, zA, Option.getD_some, zB, zC, zD, zE, zF, zG, zH, zJ, zK, zM, zN, Step1.ofO, lenC, callF, zP, zR, zS, zT, zV, cond_true, cond_false, decide_true, decide_false, beq_self_eq_true, Bool.false_eq_true, Bool.true_eq_false, zW, zX, zY, zZ, Bool.not_true, Bool.not_false, appC, copyC, yA, List.map_cons, List.map_nil, goInt, hq, hld, lenB_slice u22, hl']; rfl) (by kernel_rfl) (by simp only [qT, qX, qY, Option.getD_some]; rfl) (fun ht => by cases ht) (fun _ => .skip (ST.go ?_))
        exact setH1.regE 0 (by kernel_rfl) (by simp only [List.map_cons, List.map_nil]; rfl) (by simp only [qB, qC, qD, qE, qF, qG, qH, qJ, qK, qM, qN, qP, iop1, qR, qS, iop, qT, qV, qW, qX, qY, qZ, zA, Option.getD_some, zB, zC, zD, zE, zF, zG, zH, zJ, zK, zM, zN, Step1.ofO, lenC, callF, zP, zR, zS, zT, zV, cond_true, cond_false, decide_true, decide_false, beq_self_eq_true, Bool.false_eq_true, Bool.true_eq_false, zW, zX, zY, zZ, Bool.not_true, Bool.not_false, appC, copyC, yA, List.map_cons, List.map_nil, goInt]; rfl) (.ret ⟨.inr rfl, ires_tmp rfl (by simp only [qX, qY]), .refl _⟩)
      · have hl' : ((r0.2.length : Int) != (ws.length : Int)) = true := by simp; omega
        rw [if_neg hl]
        refine setH1.ifW (by kernel_rfl) (by simp only [List.map_cons, List.map_nil]; rfl) (by simp only [qB, qC, qD, qE, qF, qG, qH, qJ, qK, qM, qN, qP, iop1, qR, qS, iop, qT, qV, qW, qX, qY, qZ, zA, Option.getD_some, zB, zC, zD, zE, zF, zG, zH, zJ, zK, zM, zN, Step1.ofO, lenC, callF, zP, zR, zS, zT, zV, cond_true, cond_false, decide_true, decide_false, beq_self_eq_true, Bool.false_eq_true, Bool.true_eq_false, zW, zX, zY, zZ, Bool.not_true, Bool.not_false, appC, copyC, yA, List.map_cons, List.map_nil, goInt, hq, hld, lenB_slice u22, hl']; rfl) (by kernel_rfl) (by simp only [qT, qX, qY, Option.getD_some]; rfl) (fun _ => ?_) (fun ht => by cases ht)
        refine setH1.regZ 0 (by kernel_rfl) (by simp only [List.map_cons, List.map_nil]; rfl) (by simp only [qB, qC, qD, qE, qF, qG, qH, qJ, qK, qM, qN, qP, iop1, qR, qS, iop, qT, qV, qW, qX, qY, qZ, zA, Option.getD_some, zB, zC, zD, zE, zF, zG, zH, zJ, zK, zM, zN, Step1.ofO, lenC, callF, zP, zR, zS, zT, zV, cond_true, cond_false, decide_true, decide_false, beq_self_eq_true, Bool.false_eq_true, Bool.true_eq_false, zW, zX, zY, zZ, Bool.not_true, Bool.not_false, appC, copyC, yA, List.map_cons, List.map_nil, goInt]; rfl) (ST.go ?_)
        exact setH1.regE 0 (by kernel_rfl) (by simp only [List.map_cons, List.map_nil]; rfl) (by simp only [qB, qC, qD, qE, qF, qG, qH, qJ, qK, qM, qN, qP, iop1, qR, qS, iop, qT, qV, qW, qX, qY, qZ, zA, Option.getD_some, zB, zC, zD, zE, zF, zG, zH, zJ, zK, zM, zN, Step1.ofO, lenC, callF, zP, zR, zS, zT, zV, cond_true, cond_false, decide_true, decide_false, beq_self_eq_true, Bool.false_eq_true, Bool.true_eq_false, zW, zX, zY, zZ, Bool.not_true, Bool.not_false, appC, copyC, yA, List.map_cons, List.map_nil, goInt]; rfl) (.ret ⟨.inr rfl, ires_tmp rfl (by simp only [qX, qY]), .refl _⟩)
theorem e28 : enters Tryz.prog 28 = true := by kernel_rfl
theorem pureH2 : NatPure hat2 := addNat_pure pureH1
/-! 91: checkFit -/
noncomputable def k91 (args : List Value) (H : IH) : Option Value := match args with
  | [.int .i64 n, w, .slice a m c] => (match k23 [.slice a m c] H with
    | some (.int .i64 pe) => k28 [.int .i64 n, w, .slice a m c] H
    | _ => none)
  | _ => none
noncomputable def hat3 : Nats := addNat hat2 91 k91
theorem h19b : hat2 19 = some (ofK k19) := rfl
theorem h23b : hat2 23 = some (ofK k23) := rfl
theorem h87b : hat2 87 = some (ofK k87) := rfl
theorem h89b : hat2 89 = some (ofK k89) := rfl
theorem bu172 (a b : Int) (H : IH) : ibuildSlice Tryz.prog 172 2 [(0, .int .i64 a), (1, .int .i64 b)] H = some (.val (.slice (some ⟨H.size, 0, none⟩) 2 2) (H.push (.cells #[.int .i64 a, .int .i64 b] 29))) := build2 a b H
theorem k87_two (H : IH) (a b : Int) : k87 [.slice (some ⟨H.size, 0, none⟩) 2 2] (H.push (.cells #[.int .i64 a, .int .i64 b] 29)) = some (.int .i64 (firstNZ [a, b])) := by unfold k87; simp only [new2, Option.map_some]
theorem first_a {a b : Int} (h : a ≠ 0) : firstNZ [a, b] = a := by have : (a != 0) = true := by simpa using h
                                                                   simp [firstNZ, this]
theorem first_b {b : Int} : firstNZ [0, b] = b := by
  by_cases h : b = 0
  · subst h; rfl
  · have : (b != 0) = true := by simpa using h
    simp [firstNZ, this]
set_option maxRecDepth 10000 in
theorem setH3 : Setup Tryz.prog good hat3 (globG 3) := by
  refine plainN setH2 k91 Tryz.func91 rfl rfl fun args H v hk => ?_
  obtain ⟨pe, hk23, hk⟩ : ∃ pe, (∃ n w a m c, args = [.int .i64 n, w, .slice a m c] ∧ k23 [.slice a m c] H = some (.int .i64 pe)) ∧ k28 args H = some v := by
    unfold k91 at hk
    split at hk
    · rename_i n w a m c
      split at hk
      · rename_i pe h; exact ⟨pe, ⟨n, w, a, m, c, rfl, h⟩, hk⟩
      · cases hk
    · cases hk
  obtain ⟨n, w, a, m, c, ws, rfl, hz, hcase⟩ := k28_inv hk
  obtain ⟨_, _, _, _, _, he, hk23⟩ := hk23
  simp only [List.cons.injEq, Value.int.injEq, Value.slice.injEq, true_and, and_true] at he
  obtain ⟨rfl, rfl, rfl, rfl, rfl⟩ := he
  have hv : plainV v = true := by
    rcases hcase with ⟨_, rfl⟩ | ⟨_, pe, _, ⟨_, rfl⟩ | ⟨_, _, _, _, rfl⟩⟩ <;> rfl
  refine ⟨hv, ?_⟩
  obtain ⟨aw, cw, rfl, hwl, _⟩ := intsOf_inv hz
  show Holds _ _ false _ [.int .i64 n, .slice aw ws.length cw, .slice a m c, undef, undef, undef, undef, undef, undef, undef, undef, undef, undef, undef, undef, undef, undef, undef, undef, undef, undef, undef, undef, undef, undef, undef] H _
  refine setH2.regE 0 (by kernel_rfl) (by simp only [List.map_cons, List.map_nil]; rfl) (by simp only [qB, qC, qD, qE, qF, qG, qH, qJ, qK, qM, qN, qP, iop1, qR, qS, iop, qT, qV, qW, qX, qY, qZ, zA, Option.getD_some, zB, zC, zD, zE, zF, zG, zH, zJ, zK, zM, zN, Step1.ofO, lenC, callF, zP, zR, zS, zT, zV, cond_true, cond_false, decide_true, decide_false, beq_self_eq_true, Bool.false_eq_true, Bool.true_eq_false, zW, zX, zY, zZ, Bool.not_true, Bool.not_false, appC, copyC, yA, List.map_cons, List.map_nil, goInt]; rfl) ?_
  refine .seqW (setH2.regE 0 (by kernel_rfl) (by simp only [List.map_cons, List.map_nil]; rfl) (by simp only [qB, qC, qD, qE, qF, qG, qH, qJ, qK, qM, qN, qP, iop1, qR, qS, iop, qT, qV, qW, qX, qY, qZ, zA, Option.getD_some, zB, zC, zD, zE, zF, zG, zH, zJ, zK, zM, zN, Step1.ofO, lenC, callF, zP, zR, zS, zT, zV, cond_true, cond_false, decide_true, decide_false, beq_self_eq_true, Bool.false_eq_true, Bool.true_eq_false, zW, zX, zY, zZ, Bool.not_true, Bool.not_false, appC, copyC, yA, List.map_cons, List.map_nil, goInt, e19, enter_k h19b, ofK, k19_eq hz, e23, enter_k h23b, hk23, bu172, e87, enter_k h87b, k87_two]; rfl) ?_)
  have hold := Old.push H (.cells #[.int .i64 (chkScheme n ws), .int .i64 pe] 29)
  generalize H.push (.cells #[.int .i64 (chkScheme n ws), .int .i64 pe] 29) = H1 at hold
  rcases hcase with ⟨hs, rfl⟩ | ⟨hs, pe', hk23', hcase⟩
  · rw [first_a hs]
    refine setH2.ifZ (by kernel_rfl) (by simp only [List.map_cons, List.map_nil]; rfl) (by simp only [qB, qC, qD, qE, qF, qG, qH, qJ, qK, qM, qN, qP, iop1, qR, qS, iop, qT, qV, qW, qX, qY, qZ, zA, Option.getD_some, zB, zC, zD, zE, zF, zG, zH, zJ, zK, zM, zN, Step1.ofO, lenC, callF, zP, zR, zS, zT, zV, cond_true, cond_false, decide_true, decide_false, beq_self_eq_true, Bool.false_eq_true, Bool.true_eq_false, zW, zX, zY, zZ, Bool.not_true, Bool.not_false, appC, copyC, yA, List.map_cons, List.map_nil, goInt]; rfl) (by kernel_rfl) (by simp only [qT, qX, qY, Option.getD_some]; rfl) (fun ht => ?_) (fun ht => absurd (by simpa using ht) hs)
    exact setH2.regE 0 (by kernel_rfl) (by simp only [List.map_cons, List.map_nil]; rfl) (by simp only [qB, qC, qD, qE, qF, qG, qH, qJ, qK, qM, qN, qP, iop1, qR, qS, iop, qT, qV, qW, qX, qY, qZ, zA, Option.getD_some, zB, zC, zD, zE, zF, zG, zH, zJ, zK, zM, zN, Step1.ofO, lenC, callF, zP, zR, zS, zT, zV, cond_true, cond_false, decide_true, decide_false, beq_self_eq_true, Bool.false_eq_true, Bool.true_eq_false, zW, zX, zY, zZ, Bool.not_true, Bool.not_false, appC, copyC, yA, List.map_cons, List.map_nil, goInt]; rfl) (.ret (ST.rt ⟨.inr rfl, ires_tmp rfl (by simp only [qX, qY]), hold⟩))
  · rw [hk23] at hk23'
    cases hk23'
    rw [hs, first_b]
    rcases hcase with ⟨hp, rfl⟩ | ⟨rfl, r0, rs, hr, rfl⟩
    · refine setH2.ifZ (by kernel_rfl) (by simp only [List.map_cons, List.map_nil]; rfl) (by simp only [qB, qC, qD, qE, qF, qG, qH, qJ, qK, qM, qN, qP, iop1, qR, qS, iop, qT, qV, qW, qX, qY, qZ, zA, Option.getD_some, zB, zC, zD, zE, zF, zG, zH, zJ, zK, zM, zN, Step1.ofO, lenC, callF, zP, zR, zS, zT, zV, cond_true, cond_false, decide_true, decide_false, beq_self_eq_true, Bool.false_eq_true, Bool.true_eq_false, zW, zX, zY, zZ, Bool.not_true, Bool.not_false, appC, copyC, yA, List.map_cons, List.map_nil, goInt]; rfl) (by kernel_rfl) (by simp only [qT, qX, qY, Option.getD_some]; rfl) (fun ht => ?_) (fun ht => absurd (by simpa using ht) hp)
      exact setH2.regE 0 (by kernel_rfl) (by simp only [List.map_cons, List.map_nil]; rfl) (by simp only [qB, qC, qD, qE, qF, qG, qH, qJ, qK, qM, qN, qP, iop1, qR, qS, iop, qT, qV, qW, qX, qY, qZ, zA, Option.getD_some, zB, zC, zD, zE, zF, zG, zH, zJ, zK, zM, zN, Step1.ofO, lenC, callF, zP, zR, zS, zT, zV, cond_true, cond_false, decide_true, decide_false, beq_self_eq_true, Bool.false_eq_true, Bool.true_eq_false, zW, zX, zY, zZ, Bool.not_true, Bool.not_false, appC, copyC, yA, List.map_cons, List.map_nil, goInt]; rfl) (.ret (ST.rt ⟨.inr rfl, ires_tmp rfl (by simp only [qX, qY]), hold⟩))
    · refine setH2.ifZ (by kernel_rfl) (by simp only [List.map_cons, List.map_nil]; rfl) (by simp only [qB, qC, qD, qE, qF, qG, qH, qJ, qK, qM, qN, qP, iop1, qR, qS, iop, qT, qV, qW, qX, qY, qZ, zA, Option.getD_some, zB, zC, zD, zE, zF, zG, zH, zJ, zK, zM, zN, Step1.ofO, lenC, callF, zP, zR, zS, zT, zV, cond_true, cond_false, decide_true, decide_false, beq_self_eq_true, Bool.false_eq_true, Bool.true_eq_false, zW, zX, zY, zZ, Bool.not_true, Bool.not_false, appC, copyC, yA, List.map_cons, List.map_nil, goInt]; rfl) (by kernel_rfl) (by simp only [qT, qX, qY, Option.getD_some]; rfl) (fun ht => by cases ht) (fun _ => .skip (ST.go ?_))
      have hr1 := picOf_old hold hr
      obtain ⟨ap, cp, hsl, _, _⟩ := picOf_inv hr
      simp only [Value.slice.injEq] at hsl
      obtain ⟨rfl, rfl, rfl⟩ := hsl
      obtain ⟨q, hq', hld, hz0⟩ := read_row el25 hr1 (i := 0) rfl (k := .i64)
      have hq : iindexAt Tryz.prog 25 (.slice a (r0 :: rs).length c) (.int .i64 0) = some q := hq'
      obtain ⟨a0, c0, hr0, _, _⟩ := intsOf_inv hz0
      rw [hr0] at hld
      have hres : cond ((r0.2.length : Int) != (ws.length : Int)) 2 0 = (if r0.2.length = ws.length then (0 : Int) else 2) := by
        by_cases hl : r0.2.length = ws.length
        · have : ((r0.2.length : Int) != (ws.length : Int)) = false := by simp; omega
          rw [this, if_pos hl]; rfl
        · have : ((r0.2.length : Int) != (ws.length : Int)) = true := by simp; omega
          rw [this, if_neg hl]; rfl
      exact setH2.regE 0 (by kernel_rfl) (by simp only [List.map_cons, List.map_nil]; rfl) (by simp only [qB, qC, qD, qE, qF, qG, qH, qJ, qK, qM, qN, qP, iop1, qR, qS, iop, qT, qV, qW, qX, qY, qZ, zA, Option.getD_some, zB, zC, zD, zE, zF, zG, zH, zJ, zK, zM, zN, Step1.ofO, lenC, callF, zP, zR, zS, zT, zV, cond_true, cond_false, decide_true, decide_false, beq_self_eq_true, Bool.false_eq_true, Bool.true_eq_false, zW, zX, zY, zZ, Bool.not_true, Bool.not_false, appC, copyC, yA, List.map_cons, List.map_nil, goInt, hq, hld, lenB_slice u22, e89, enter_k h89b, ofK, k89, hres]; rfl) (.ret ⟨.inr rfl, ires_tmp rfl (by simp only [qX, qY]), hold⟩)
theorem e91 : enters Tryz.prog 91 = true := by kernel_rfl
theorem pureH3 : NatPure hat3 := addNat_pure pureH2
end Go.Proofs.YtpdlblofcdcikaaGreatDoor
