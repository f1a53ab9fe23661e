/- PatternForms: for every input the law returns true; the arguments read behind the call as before. Conditions: none beyond the card's own. -/
import Derived.Test.YtpdlblofcdcikaaGreatDoorF8
import Derived.Test.YtpdlblofcdcikaaGreatDoorCards
import Derived.Test.YtpdlblofcdcikaaGreatDoorTie
import Derived.ProofKit
import Derived.LaidMore
import Derived.Lay
import Derived.OpenShut
import Derived.Stop.Joined
import Derived.Lib.SmallJoins
import Derived.Deep.Matrix
import Derived.Carry
import Derived.SevenTiedAt
set_option linter.unusedSimpArgs false
set_option linter.unusedVariables false
namespace Go.Proofs.YtpdlblofcdcikaaGreatDoor
open Go.Idl (RInts)
open Go.ChangeShapes Go.WideShapes Go.ChangeAt Go.RowKit Go.Joins Go.Deep

theorem own : ownKnob Tryz.prog.godebug = none := by kernel_rfl
theorem laidOut : laidOutB Tryz.prog = true := by kernel_rfl
theorem ce3 : Tryz.prog.cellsOf 3 = 1 := by kernel_rfl
theorem ce22 : Tryz.prog.cellsOf 22 = 1 := by kernel_rfl
theorem ce24 : Tryz.prog.cellsOf 24 = 2 := by kernel_rfl

section
variable {H : Type} {enc : TypeId × Value → H} {W : World} {held : Bool}
theorem word_of {fuel : Nat} {c : Value} {x : DataW H × List MemPlace} (h : DataW.trod enc Tryz.prog W 0 (fun _ => true) held fuel 22 [c] = some x) : ∃ A L C Z, c = .slice A L C ∧ RInts W A L C Z := by
  rcases open_ints Tryz.underlying22 Tryz.underlying3 ce3 h with ⟨hcs, _⟩ | ⟨a, len, cap, zs, hcs, _, hl, _, hz, _, hcell, _⟩
  · have : c = .slice none 0 0 := by simpa using hcs
    exact ⟨none, 0, 0, [], this, .inl ⟨rfl, rfl, rfl⟩⟩
  · have : c = .slice (some a) len cap := by simpa using hcs
    have hz' : zs.length = cap := by simpa using hz
    exact ⟨some a, len, cap, zs, this, .inr ⟨a, rfl, hl, hz', fun i hi => hcell i (by omega)⟩⟩
theorem pic_of {fuel : Nat} {c : Value} {x : DataW H × List MemPlace} (h : DataW.trod enc Tryz.prog W 0 (fun _ => true) held fuel 25 [c] = some x) :
    ∃ A n cp RA L C Z, c = .slice A n cp ∧ RRows W A n cp RA L C Z := by
  rcases open_int_rows Tryz.underlying25 Tryz.underlying22 Tryz.underlying3 ce22 ce3 h with ⟨hcs, _⟩ | ⟨a, len, cap, A, L, C, Z, hcs, _, hl, _, _, hrow⟩
  · have : c = .slice none 0 0 := by simpa using hcs
    exact ⟨none, 0, 0, fun _ => none, fun _ => 0, fun _ => 0, fun _ => [], this, .inl ⟨rfl, rfl, rfl⟩⟩
  · have : c = .slice (some a) len cap := by simpa using hcs
    refine ⟨some a, len, cap, A, L, C, Z, this, .inr ⟨a, rfl, hl, fun r hr => (hrow r hr).1, fun r hr => ?_⟩⟩
    obtain ⟨_, h1, _, h2, _, h3, h4⟩ := hrow r hr
    cases hA : A r with
    | none =>
      have := h3 hA
      exact .inl ⟨rfl, by omega, this⟩
    | some a' => exact .inr ⟨a', rfl, h1, h2, (h4 a' hA).2⟩
end

theorem gAcc : Tryz.prog.globalNamed "unicode/utf8.acceptRanges" = some 2 := by kernel_rfl
theorem size_of_laid {W : World} (h : laidMetH Tryz.prog Rows.patternFormsRow.laid W) : 3 ≤ W.heap.size := by
  rw [MakeChecks.laidMetH_plain _ _ _ (by kernel_rfl)] at h
  obtain ⟨ps, ⟨g0, t0, cs0, f0, p0, q0, hg0, ht0, hv0, hd0, _⟩, _, _⟩ := h
  obtain rfl := Option.some.inj (gAcc.symm.trans hg0)
  unfold World.var? at hv0
  rw [gAcc] at hv0
  simp only [Option.bind_some] at hv0
  split at hv0
  · rename_i hc
    have := (Array.getElem?_eq_some_iff.1 hc).1
    omega
  · cases hv0

set_option maxRecDepth 100000 in
theorem forms_lifted (os : Os) (started : os.Started) (H : Type) (enc : TypeId × Value → H) :
    ReturnsInHanded {} Tryz.checked os 3 .any (fun w args => (Rows.patternFormsSpec.pre enc Tryz.prog Tryz.f3 [] false w args ∧ laidMetH Tryz.prog Rows.patternFormsRow.laid w) ∧ sizedMet enc Tryz.prog Tryz.f3 (OpenSpec.ofChange Rows.patternFormsSpec) false w args)
      (Rows.patternFormsSpec.post enc Tryz.prog Tryz.f3 false true false false) := by
  refine returnsInHanded_of_change_and (C := Tryz.checked) (X := fun w _ => laidMetH Tryz.prog Rows.patternFormsRow.laid w) (fun _ _ _ hh h => h.of_heap hh) own started (by kernel_rfl) Tryz.func3
    (ChangeSpec.witness_shaped (enc := enc) (C := Tryz.checked) (os := os) (X := fun w _ => laidMetH Tryz.prog Rows.patternFormsRow.laid w) false (World.laidAll Tryz.prog os Rows.patternFormsRow.laid) #[.agg #[.int .i64 0, .slice none 0 0], .slice none 0 0, .slice none 0 0] 8 (World.laidAll_os _ _ _)
      (World.shaped_of_ZipB (by kernel_rfl) (by kernel_rfl)) (by kernel_rfl) (by kernel_rfl) (by kernel_rfl)
      (by rw [MakeChecks.laidMetH_plain _ _ _ (by kernel_rfl)]; exact laidMet_laidAll _ (by kernel_rfl) (by kernel_rfl))) ?_
  intro W base args ds gs before hval0 hW _ _ hL _
  have hval : ∀ (j : Nat) t v, Tryz.f3.params[j]? = some t → args[j]? = some v → Value.okWide Tryz.prog W .any base t v := hval0
  have hW' := hW
  obtain ⟨p, q, hA0, hV, rfl, hfz, hnd⟩ := hW
  have hA : DataW.TrodAll enc Tryz.prog W 0 (fun _ => true) true Tryz.f3.params.toList args.toList ds p := hA0
  rw [Tryz.params3] at hA hval
  obtain ⟨v0, v1, v2, d0, d1, d2, p0, p1, p2, rfl, rfl, rfl, h0, h1, h2⟩ := trodAll_three hA
  obtain ⟨rfl, rfl⟩ := trodVars_none hV
  have h0k := h0
  have h1k := h1
  have h2k := h2
  obtain ⟨c0, c1, y0, y1, m, rfl, rfl, rfl, hy0, hy1⟩ := open_agg2 Tryz.underlying24 (by kernel_rfl) ce24 (hval 0 24 v0 rfl rfl) h0
  obtain ⟨n, e0, _, _⟩ := DataW.trod_int Tryz.underlying3 hy0
  have e0' : c0 = .int .i64 n := by simpa using e0
  subst e0'
  obtain ⟨Aw, Lw, Cw, Zw, rfl, hw⟩ := word_of hy1
  obtain ⟨a1, l1, k1, rfl⟩ := okWide_slice Tryz.underlying22 (hval 1 22 v1 rfl rfl)
  obtain ⟨fuel1, hf1⟩ := h1
  obtain ⟨Ac, Lc, Cc, Zc, hceq, hc⟩ := word_of (c := .slice a1 l1 k1) (by simpa [Value.cells] using hf1)
  obtain ⟨rfl, rfl, rfl⟩ : a1 = Ac ∧ l1 = Lc ∧ k1 = Cc := by simpa using hceq
  obtain ⟨a2, l2, k2, rfl⟩ := okWide_slice Tryz.underlying25 (hval 2 25 v2 rfl rfl)
  obtain ⟨fuel2, hf2⟩ := h2
  obtain ⟨Ap, np, cp, RA, L, C, Z, hpeq, hp⟩ := pic_of (c := .slice a2 l2 k2) (by simpa [Value.cells] using hf2)
  obtain ⟨rfl, rfl, rfl⟩ : a2 = Ap ∧ l2 = np ∧ k2 = cp := by simpa using hpeq
  refine (forms_calls (size_of_laid hL) hw hc hp).mono fun e W' ⟨he, hsz, hblk, hos, hout, htape⟩ => ?_
  subst he
  have hb : Below W.heap.size W W' := ⟨hos, htape, hout, hsz, hblk⟩
  have hlt : ∀ x, x ∈ (y0.2 ++ y1.2) ∨ x ∈ p1 ∨ x ∈ p2 → x.block < W.heap.size := fun x hx => hW'.lt x (by
    rcases hx with h | h | h
    · rcases List.mem_append.1 h with h | h <;> simp [h]
    · simp [h]
    · simp [h])
  refine ⟨_, rfl, _, _, _, [], y0.2 ++ y1.2 ++ (p1 ++ p2), [], hW', ?_, ?_, rfl, hb.frame _, fun h => by cases h⟩
  · exact trodAll_mk1 (shut_bool Tryz.underlying4 true)
  · exact trodAll_mk3 (Below.trod laidOut (by kernel_rfl) (of_decide_eq_true (by kernel_rfl)) h0k hb (fun x hx => hlt x (.inl hx))) (Below.trod laidOut (by kernel_rfl) (of_decide_eq_true (by kernel_rfl)) h1k hb (fun x hx => hlt x (.inr (.inl hx))))
      (Below.trod laidOut (by kernel_rfl) (of_decide_eq_true (by kernel_rfl)) h2k hb (fun x hx => hlt x (.inr (.inr hx))))

theorem forms_row : Rows.PatternFormsSaid :=
  OpenClaim.holds_of_wide 3 Tryz.f3 rfl rfl rfl rfl rfl rfl rfl ⟨rfl, rfl, rfl, rfl, rfl⟩ rfl rfl rfl rfl rfl (by kernel_rfl) Tryz.func3 (by kernel_rfl)
    (of_decide_eq_true (by kernel_rfl)) (by unfold Func.isWrapper; rw [if_neg (of_decide_eq_false (by kernel_rfl))]; exact ⟨rfl, rfl⟩)
    (fun os started H enc _ => forms_lifted os started H enc)

theorem pattern_forms : Rows.PatternFormsCardSaid :=
  Claim7.holds_tied_plain_at .later [] [.data, .pinned] true (true, "2575bc1b8b046c40adaea068baf19e406db46c03f0a8e6ad882e11867557fe38") false
    forms_row (fun _ h => by cases h) (by kernel_rfl) (fun _ h => by cases h) patternForms_row_tie rfl ⟨rfl, rfl⟩ (by kernel_rfl) rfl
    (fun f fn hf hfn => by
      obtain rfl : f = 3 := Option.some.inj ((show Tryz.prog.funcNamed "becket/becketlaw06.PatternForms" = some 3 by kernel_rfl).symm.trans hf) |>.symm
      obtain rfl : fn = Tryz.f3 := (Option.some.inj (Tryz.func3.symm.trans hfn)).symm
      exact ⟨by kernel_rfl, fun j t ht => by
        rw [Tryz.params3] at ht
        have h3 : t = 24 ∨ t = 22 ∨ t = 25 := by
          rcases j with _ | _ | _ | j <;> simp at ht <;> simp [ht]
        rcases h3 with rfl | rfl | rfl
        · exact (show Tryz.prog.wantsStandIn 24 = false by kernel_rfl)
        · exact (show Tryz.prog.wantsStandIn 22 = false by kernel_rfl)
        · exact (show Tryz.prog.wantsStandIn 25 = false by kernel_rfl)⟩)
    (by kernel_rfl)
#print axioms pattern_forms
end Go.Proofs.YtpdlblofcdcikaaGreatDoor
