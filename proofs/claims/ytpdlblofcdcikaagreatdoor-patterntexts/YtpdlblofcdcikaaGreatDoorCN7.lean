/- PatternTexts: for every input the law returns true; the arguments read behind the call as before. Conditions: none beyond the card's own. -/
import Derived.Test.YtpdlblofcdcikaaGreatDoorCW0
import Derived.Test.YtpdlblofcdcikaaGreatDoorXA
set_option linter.all false
namespace Go.Proofs.YtpdlblofcdcikaaGreatDoor
open Go.ChangeShapes Go.WideShapes Go.ChangeAt Go.RowKit Go.Joins Go.Deep
theorem qF5 {W : World} (h : laidMetH Tryz.prog Rows.patternTextsRow.laid W) : 3 <= W.heap.size := qKP (show laidMetH Tryz.prog q4K W from h)
set_option maxRecDepth 100000 in
theorem eT (os : Os) (started : os.Started) (H : Type) (enc : TypeId × Value -> H) :
 ReturnsInHanded {} Tryz.checked os 7 .any (fun w args => (Rows.patternTextsSpec.pre enc Tryz.prog Tryz.f7 [] false w args ∧ laidMetH Tryz.prog Rows.patternTextsRow.laid w) ∧ sizedMet enc Tryz.prog Tryz.f7 (OpenSpec.ofChange Rows.patternTextsSpec) false w args)
  (Rows.patternTextsSpec.post enc Tryz.prog Tryz.f7 false true false false) := by
 refine returnsInHanded_of_change_and (C := Tryz.checked) (X := fun w _ => laidMetH Tryz.prog Rows.patternTextsRow.laid w) (fun _ _ _ hh h => h.of_heap hh) own started (by kernel_rfl) Tryz.func7
  (ChangeSpec.witness_shaped (enc := enc) (C := Tryz.checked) (os := os) (X := fun w _ => laidMetH Tryz.prog Rows.patternTextsRow.laid w) false (World.laidAll Tryz.prog os Rows.patternTextsRow.laid) #[.slice none 0 0, .string ⟨#[]⟩] 8 (World.laidAll_os _ _ _)
    (World.shaped_of_ZipB (by kernel_rfl) (by kernel_rfl)) (by kernel_rfl) (by kernel_rfl) (by kernel_rfl)
    (by rw [MakeChecks.laidMetH_plain _ _ _ (by kernel_rfl)]; exact laidMet_laidAll _ (by kernel_rfl) (by kernel_rfl))) ?_
 intro W base args ds gs before hval0 hW _ _ hL _;have hval : ∀ (j : Nat) t v, Tryz.f7.params[j]? = some t -> args[j]? = some v -> Value.okWide Tryz.prog W .any base t v := hval0;have hW' := hW;obtain ⟨p, q, hA0, hV, rfl, hfz, hnd⟩ := hW;have hA : DataW.TrodAll enc Tryz.prog W 0 (fun _ => true) true Tryz.f7.params.toList args.toList ds p := hA0;rw [Tryz.params7] at hA hval;have hA : DataW.TrodAll enc Tryz.prog W 0 (fun _ => true) true [25, 9] args.toList ds p := hA;obtain ⟨rfl, rfl⟩ := trodVars_none hV;have hlen := Go.Sv.trodAll_len hA
 obtain ⟨d0, d1, rfl⟩ : ∃ d0 d1, ds = [d0, d1] := by
  match ds, hlen with
  | [d0, d1], _ => exact ⟨d0, d1, rfl⟩
 have hs := qF5 hL;refine (Go.Sv.Lib.law (k := 3) L7 (fun _ => rfl) (g := 7) (ats := [(Go.Sv.Ty.list 22 (Go.Sv.Ty.list 3 (Go.Sv.Ty.int IntKind.i64))), Go.Sv.Ty.str]) (F := H7) rfl (fun x _ => qLM x) hs (by omega) (n := 6) (is := [25, 9]) (by kernel_rfl) hA (fun j i v h1 h2 => hval j i v (by simpa using h1) h2)).mono fun e W' ⟨he, hb⟩ => ?_
 subst he;refine ⟨_, rfl, _, _, _, [], p, [], hW', ?_, ?_, rfl, hb.frame _, fun h => by cases h⟩
 ·exact trodAll_mk1 (shut_bool Tryz.underlying4 true)
 ·exact Go.Sv.below_all laidOut hb [25, 9] _ _ _ (Go.Sv.readOk_of (by kernel_rfl)) hA fun x hx => hW'.lt x (by simp [hx])
theorem rO : Rows.PatternTextsSaid :=
 OpenClaim.holds_of_wide 7 Tryz.f7 rfl rfl rfl rfl rfl rfl rfl ⟨rfl, rfl, rfl, rfl, rfl⟩ rfl rfl rfl rfl rfl (by kernel_rfl) Tryz.func7 (by kernel_rfl)
  (of_decide_eq_true (by kernel_rfl)) (by unfold Func.isWrapper; rw [if_neg (of_decide_eq_false (by kernel_rfl))]; exact ⟨rfl, rfl⟩)
  (fun os started H enc _ => eT os started H enc)
theorem pattern_texts : Rows.PatternTextsCardSaid :=
 Claim7.holds_tied_plain_at .later [] [.data, .pinned] true (true, "2575bc1b8b046c40adaea068baf19e406db46c03f0a8e6ad882e11867557fe38") false
  rO (fun _ h => by cases h) (by kernel_rfl) (fun _ h => by cases h) patternTexts_row_tie rfl ⟨rfl, rfl⟩ (by kernel_rfl) rfl
  (fun f fn hf hfn => by
    obtain rfl : f = 7 := Option.some.inj ((show Tryz.prog.funcNamed "becket/becketlaw06.PatternTexts" = some 7 by kernel_rfl).symm.trans hf) |>.symm
    obtain rfl : fn = Tryz.f7 := (Option.some.inj (Tryz.func7.symm.trans hfn)).symm
    exact ⟨by kernel_rfl, fun j t ht => by
     rw [Tryz.params7] at ht
     have h3 : t = 9 ∨ t = 25 := by
      rcases j with _ | _ | j <;> simp at ht <;> simp [ht]
     rcases h3 with rfl | rfl
     ·exact (show Tryz.prog.wantsStandIn 9 = false by kernel_rfl)
     ·exact (show Tryz.prog.wantsStandIn 25 = false by kernel_rfl)⟩)
  (by kernel_rfl)
#print axioms pattern_texts
end Go.Proofs.YtpdlblofcdcikaaGreatDoor
