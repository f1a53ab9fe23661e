/- PatternClashes: for every input the law returns true; the arguments read behind the call as before. Conditions: none beyond the card's own. -/
import Derived.Test.YtpdlblofcdcikaaGreatDoorC0
import Derived.Test.YtpdlblofcdcikaaGreatDoorH14
set_option linter.unusedSimpArgs false
set_option linter.unusedVariables false
set_option maxRecDepth 100000
namespace Go.Proofs.YtpdlblofcdcikaaGreatDoor
open Go.Idl (RInts)
open Go.ChangeShapes Go.WideShapes Go.ChangeAt Go.RowKit Go.Joins Go.Deep

theorem size_of_laid12 {W : World} (h : laidMetH Tryz.prog Rows.patternClashesRow.laid W) : 3 ≤ W.heap.size := size_of_laid (show laidMetH Tryz.prog Rows.patternFormsRow.laid W from h)
theorem un83 : Tryz.prog.underlying 83 = some (.array 2 3) := by kernel_rfl
theorem un84 : Tryz.prog.underlying 84 = some (.array 2 83) := by kernel_rfl
theorem ce83 : Tryz.prog.cellsOf 83 = 2 := by kernel_rfl
theorem ce84 : Tryz.prog.cellsOf 84 = 4 := by kernel_rfl
theorem okWide_sq {W : World} {r : Reach} {b0 : Nat} {v : Value} (h : Value.okWide Tryz.prog W r b0 84 v) : ∃ c0 c1 c2 c3, v = .agg #[c0, c1, c2, c3] := by
  simp only [Value.okWide, un84] at h
  obtain ⟨cs, rfl, h2, _⟩ := h
  obtain ⟨c0, c1, c2, c3, rfl⟩ := array4 (h2.trans ce84)
  exact ⟨c0, c1, c2, c3, rfl⟩
theorem trod_pair {H : Type} {enc : TypeId × Value → H} {W : World} {held : Bool} {fuel : Nat} {c0 c1 : Value} {x : DataW H × List MemPlace} (h : DataW.trod enc Tryz.prog W 0 (fun _ => true) held fuel 83 [c0, c1] = some x) :
    ∃ a b : Int, c0 = .int .i64 a ∧ c1 = .int .i64 b := by
  cases fuel with
  | zero => simp [DataW.trod] at h
  | succ n =>
    unfold DataW.trod at h
    rw [un83] at h
    have r2 : List.range 2 = [0, 1] := rfl
    simp [r2, ce3] at h
    obtain ⟨_, h⟩ := h
    cases h0 : DataW.trod enc Tryz.prog W 0 (fun _ => true) held n 3 [c0] with
    | none => simp [h0] at h
    | some y0 =>
      cases h1 : DataW.trod enc Tryz.prog W 0 (fun _ => true) held n 3 [c1] with
      | none => simp [h0, h1] at h
      | some y1 =>
        obtain ⟨a, ea, _, _⟩ := DataW.trod_int Tryz.underlying3 h0
        obtain ⟨b, eb, _, _⟩ := DataW.trod_int Tryz.underlying3 h1
        exact ⟨a, b, by simpa using ea, by simpa using eb⟩
theorem trod_sq {H : Type} {enc : TypeId × Value → H} {W : World} {held : Bool} {fuel : Nat} {c0 c1 c2 c3 : Value} {x : DataW H × List MemPlace} (h : DataW.trod enc Tryz.prog W 0 (fun _ => true) held fuel 84 [c0, c1, c2, c3] = some x) :
    ∃ a b c d : Int, c0 = .int .i64 a ∧ c1 = .int .i64 b ∧ c2 = .int .i64 c ∧ c3 = .int .i64 d := by
  cases fuel with
  | zero => simp [DataW.trod] at h
  | succ n =>
    unfold DataW.trod at h
    rw [un84] at h
    have r2 : List.range 2 = [0, 1] := rfl
    simp [r2, ce83] at h
    obtain ⟨_, h⟩ := h
    cases h0 : DataW.trod enc Tryz.prog W 0 (fun _ => true) held n 83 [c0, c1] with
    | none => simp [h0] at h
    | some y0 =>
      cases h1 : DataW.trod enc Tryz.prog W 0 (fun _ => true) held n 83 [c2, c3] with
      | none => simp [h0, h1] at h
      | some y1 =>
        obtain ⟨a, b, ea, eb⟩ := trod_pair h0
        obtain ⟨c, d, ec, ed⟩ := trod_pair h1
        exact ⟨a, b, c, d, ea, eb, ec, ed⟩

set_option maxRecDepth 100000 in
theorem clash_lifted (os : Os) (started : os.Started) (H : Type) (enc : TypeId × Value → H) :
    ReturnsInHanded {} Tryz.checked os 12 .any (fun w args => (Rows.patternClashesSpec.pre enc Tryz.prog Tryz.f12 [] false w args ∧ laidMetH Tryz.prog Rows.patternClashesRow.laid w) ∧ sizedMet enc Tryz.prog Tryz.f12 (OpenSpec.ofChange Rows.patternClashesSpec) false w args)
      (Rows.patternClashesSpec.post enc Tryz.prog Tryz.f12 false true false false) := by
  refine returnsInHanded_of_change_and (C := Tryz.checked) (X := fun w _ => laidMetH Tryz.prog Rows.patternClashesRow.laid w) (fun _ _ _ hh h => h.of_heap hh) own started (by kernel_rfl) Tryz.func12
    (ChangeSpec.witness_shaped (enc := enc) (C := Tryz.checked) (os := os) (X := fun w _ => laidMetH Tryz.prog Rows.patternClashesRow.laid w) false (World.laidAll Tryz.prog os Rows.patternClashesRow.laid) #[.agg #[.int .i64 0, .slice none 0 0], .slice none 0 0, .agg #[.int .i64 0, .int .i64 0, .int .i64 0, .int .i64 0]] 8 (World.laidAll_os _ _ _)
      (World.shaped_of_ZipB (by kernel_rfl) (by kernel_rfl)) (by kernel_rfl) (by kernel_rfl) (by kernel_rfl)
      (by rw [MakeChecks.laidMetH_plain _ _ _ (by kernel_rfl)]; exact laidMet_laidAll _ (by kernel_rfl) (by kernel_rfl))) ?_
  intro W base args ds gs before hval0 hW _ _ hL _
  have hval : ∀ (j : Nat) t v, Tryz.f12.params[j]? = some t → args[j]? = some v → Value.okWide Tryz.prog W .any base t v := hval0
  have hW' := hW
  obtain ⟨p, q, hA0, hV, rfl, hfz, hnd⟩ := hW
  have hA : DataW.TrodAll enc Tryz.prog W 0 (fun _ => true) true Tryz.f12.params.toList args.toList ds p := hA0
  rw [Tryz.params12] at hA hval
  obtain ⟨v0, v1, v2, d0, d1, d2, p0, p1, p2, rfl, rfl, rfl, h0, h1, h2⟩ := trodAll_three hA
  obtain ⟨rfl, rfl⟩ := trodVars_none hV
  have h0k := h0
  have h1k := h1
  have h2k := h2
  obtain ⟨c0, c1, y0, y1, m, rfl, rfl, rfl, hy0, hy1⟩ := open_agg2 Tryz.underlying24 (by kernel_rfl) ce24 (hval 0 24 v0 rfl rfl) h0
  obtain ⟨n, e0, _, _⟩ := DataW.trod_int Tryz.underlying3 hy0
  have e0' : c0 = .int .i64 n := by simpa using e0
  subst e0'
  obtain ⟨Aw, Lw, Cw, Zw, rfl, hw⟩ := word_of hy1
  obtain ⟨a1, l1, k1, rfl⟩ := okWide_slice Tryz.underlying25 (hval 1 25 v1 rfl rfl)
  obtain ⟨fuel1, hf1⟩ := h1
  obtain ⟨Ap, np, cp, RA, L, C, Z, hpeq, hp⟩ := picture_of (c := .slice a1 l1 k1) (by simpa [Value.cells] using hf1)
  obtain ⟨rfl, rfl, rfl⟩ : a1 = Ap ∧ l1 = np ∧ k1 = cp := by simpa using hpeq
  obtain ⟨x0, x1, x2, x3, rfl⟩ := okWide_sq (hval 2 84 v2 rfl rfl)
  obtain ⟨fuel2, hf2⟩ := h2
  obtain ⟨qa, qb, qc, qd, rfl, rfl, rfl, rfl⟩ := trod_sq (c0 := x0) (c1 := x1) (c2 := x2) (c3 := x3) (by simpa [Value.cells] using hf2)
  refine (clash_calls (size_of_laid12 hL) hw hp).mono fun e W' ⟨he, hsz, hblk, hos, hout, htape⟩ => ?_
  subst he
  have hb : Below W.heap.size W W' := ⟨hos, htape, hout, hsz, hblk⟩
  have hlt : ∀ x, x ∈ (y0.2 ++ y1.2) ∨ x ∈ p1 ∨ x ∈ p2 → x.block < W.heap.size := fun x hx => hW'.lt x (by
    rcases hx with h | h | h
    · rcases List.mem_append.1 h with h | h <;> simp [h]
    · simp [h]
    · simp [h])
  refine ⟨_, rfl, _, _, _, [], y0.2 ++ y1.2 ++ (p1 ++ p2), [], hW', ?_, ?_, rfl, hb.frame _, fun h => by cases h⟩
  · exact trodAll_mk1 (shut_bool Tryz.underlying4 true)
  · exact trodAll_mk3 (Below.trod laidOut (by kernel_rfl) (of_decide_eq_true (by kernel_rfl)) h0k hb (fun x hx => hlt x (.inl hx))) (Below.trod laidOut (by kernel_rfl) (of_decide_eq_true (by kernel_rfl)) h1k hb (fun x hx => hlt x (.inr (.inl hx))))
      (Below.trod laidOut (by kernel_rfl) (of_decide_eq_true (by kernel_rfl)) h2k hb (fun x hx => hlt x (.inr (.inr hx))))

theorem clash_row : Rows.PatternClashesSaid :=
  OpenClaim.holds_of_wide 12 Tryz.f12 rfl rfl rfl rfl rfl rfl rfl ⟨rfl, rfl, rfl, rfl, rfl⟩ rfl rfl rfl rfl rfl (by kernel_rfl) Tryz.func12 (by kernel_rfl)
    (of_decide_eq_true (by kernel_rfl)) (by unfold Func.isWrapper; rw [if_neg (of_decide_eq_false (by kernel_rfl))]; exact ⟨rfl, rfl⟩)
    (fun os started H enc _ => clash_lifted os started H enc)

theorem pattern_clashes : Rows.PatternClashesCardSaid :=
  Claim7.holds_tied_plain_at .later [] [.data, .pinned] true (true, "2575bc1b8b046c40adaea068baf19e406db46c03f0a8e6ad882e11867557fe38") false
    clash_row (fun _ h => by cases h) (by kernel_rfl) (fun _ h => by cases h) patternClashes_row_tie rfl ⟨rfl, rfl⟩ (by kernel_rfl) rfl
    (fun f fn hf hfn => by
      obtain rfl : f = 12 := Option.some.inj ((show Tryz.prog.funcNamed "becket/becketlaw06.PatternClashes" = some 12 by kernel_rfl).symm.trans hf) |>.symm
      obtain rfl : fn = Tryz.f12 := (Option.some.inj (Tryz.func12.symm.trans hfn)).symm
      exact ⟨by kernel_rfl, fun j t ht => by
        rw [Tryz.params12] at ht
        have h3 : t = 24 ∨ t = 25 ∨ t = 84 := by
          rcases j with _ | _ | _ | j <;> simp at ht <;> simp [ht]
        rcases h3 with rfl | rfl | rfl
        · exact (show Tryz.prog.wantsStandIn 24 = false by kernel_rfl)
        · exact (show Tryz.prog.wantsStandIn 25 = false by kernel_rfl)
        · exact (show Tryz.prog.wantsStandIn 84 = false by kernel_rfl)⟩)
    (by kernel_rfl)
#print axioms pattern_clashes
end Go.Proofs.YtpdlblofcdcikaaGreatDoor
