/- PatternCounts: for every input the law returns true; the arguments read behind the call as before. Conditions: none beyond the card's own. -/
import Derived.Test.YtjgfemghlhmlbaaGreatDoorCW0
import Derived.Test.YtjgfemghlhmlbaaGreatDoorVB
set_option linter.all false
namespace Go.Proofs.YtjgfemghlhmlbaaGreatDoor
open Go.ChangeShapes Go.WideShapes Go.ChangeAt Go.RowKit Go.Joins Go.Deep
theorem qH0 {W : World} (h : laidMetH Tryz.prog Rows.patternCountsRow.laid W) : 3 <= W.heap.size := qK4 (show laidMetH Tryz.prog zCS W from h)
set_option maxRecDepth 100000 in
theorem bA (os : Os) (started : os.Started) (H : Type) (enc : TypeId × Value -> H) :
 ReturnsInHanded {} Tryz.checked os 3 .any (fun w args => (Rows.patternCountsSpec.pre enc Tryz.prog Tryz.f3 [] false w args ∧ laidMetH Tryz.prog Rows.patternCountsRow.laid w) ∧ sizedMet enc Tryz.prog Tryz.f3 (OpenSpec.ofChange Rows.patternCountsSpec) false w args)
  (Rows.patternCountsSpec.post enc Tryz.prog Tryz.f3 false true false false) := by
 refine returnsInHanded_of_change_and (C := Tryz.checked) (X := fun w _ => laidMetH Tryz.prog Rows.patternCountsRow.laid w) (fun _ _ _ hh h => h.of_heap hh) own started (by kernel_rfl) Tryz.func3
  (ChangeSpec.witness_shaped (enc := enc) (C := Tryz.checked) (os := os) (X := fun w _ => laidMetH Tryz.prog Rows.patternCountsRow.laid w) false (World.laidAll Tryz.prog os Rows.patternCountsRow.laid) #[.agg #[.int .i64 0, .slice none 0 0], .int .i64 0] 8 (World.laidAll_os _ _ _)
    (World.shaped_of_ZipB (by kernel_rfl) (by kernel_rfl)) (by kernel_rfl) (by kernel_rfl) (by kernel_rfl)
    (by rw [MakeChecks.laidMetH_plain _ _ _ (by kernel_rfl)]; exact laidMet_laidAll _ (by kernel_rfl) (by kernel_rfl))) ?_
 intro W base args ds gs before hval0 hW _ _ hL _;have hval : ∀ (j : Nat) t v, Tryz.f3.params[j]? = some t -> args[j]? = some v -> Value.okWide Tryz.prog W .any base t v := hval0;have hW' := hW;obtain ⟨p, q, hA0, hV, rfl, hfz, hnd⟩ := hW;have hA : DataW.TrodAll enc Tryz.prog W 0 (fun _ => true) true Tryz.f3.params.toList args.toList ds p := hA0;rw [Tryz.params3] at hA hval;have hA : DataW.TrodAll enc Tryz.prog W 0 (fun _ => true) true [24, 3] args.toList ds p := hA;obtain ⟨rfl, rfl⟩ := trodVars_none hV;have hlen := Go.Sv.zJT hA
 obtain ⟨d0, d1, rfl⟩ : ∃ d0 d1, ds = [d0, d1] := by
  match ds, hlen with
  | [d0, d1], _ => exact ⟨d0, d1, rfl⟩
 have hs := qH0 hL;refine (Go.Sv.Lib.law (k := 3) L8 (fun _ => rfl) (g := 3) (ats := [((Go.Sv.Ty.int IntKind.i64).pair (Go.Sv.Ty.list 3 (Go.Sv.Ty.int IntKind.i64))), (Go.Sv.Ty.int IntKind.i64)]) (F := H8) rfl (fun ⟨⟨n, w⟩, c⟩ _ => zG0 n w c) hs (by omega) (n := 6) (is := [24, 3]) (by kernel_rfl) hA (fun j i v h1 h2 => hval j i v (by simpa using h1) h2)).mono fun e W' ⟨he, hb⟩ => ?_
 subst he;refine ⟨_, rfl, _, _, _, [], p, [], hW', ?_, ?_, rfl, hb.frame _, fun h => by cases h⟩
 ·exact trodAll_mk1 (shut_bool Tryz.underlying4 true)
 ·exact Go.Sv.zJ9 laidOut hb [24, 3] _ _ _ (Go.Sv.zK3 (by kernel_rfl)) hA fun x hx => hW'.lt x (by simp [hx])
theorem nM : Rows.PatternCountsSaid :=
 OpenClaim.holds_of_wide 3 Tryz.f3 rfl rfl rfl rfl rfl rfl rfl ⟨rfl, rfl, rfl, rfl, rfl⟩ rfl rfl rfl rfl rfl (by kernel_rfl) Tryz.func3 (by kernel_rfl)
  (of_decide_eq_true (by kernel_rfl)) (by unfold Func.isWrapper; rw [if_neg (of_decide_eq_false (by kernel_rfl))]; exact ⟨rfl, rfl⟩)
  (fun os started H enc _ => bA os started H enc)
theorem pattern_counts : Rows.PatternCountsCardSaid :=
 Claim7.holds_tied_plain_at .later [] [.data, .pinned] true (true, "2323d67ca9a778ab6c281275aa21c3235cc8bb3c784b5b0788a8221f370d7305") false
  nM (fun _ h => by cases h) (by kernel_rfl) (fun _ h => by cases h) patternCounts_row_tie rfl ⟨rfl, rfl⟩ (by kernel_rfl) rfl
  (fun f fn hf hfn => by
    obtain rfl : f = 3 := Option.some.inj ((show Tryz.prog.funcNamed "becket/becketlaw06.PatternCounts" = some 3 by kernel_rfl).symm.trans hf) |>.symm
    obtain rfl : fn = Tryz.f3 := (Option.some.inj (Tryz.func3.symm.trans hfn)).symm
    exact ⟨by kernel_rfl, fun j t ht => by
     rw [Tryz.params3] at ht
     have h3 : t = 3 ∨ t = 24 := by
      rcases j with _ | _ | j <;> simp at ht <;> simp [ht]
     rcases h3 with rfl | rfl
     ·exact (show Tryz.prog.wantsStandIn 3 = false by kernel_rfl)
     ·exact (show Tryz.prog.wantsStandIn 24 = false by kernel_rfl)⟩)
  (by kernel_rfl)
#print axioms pattern_counts
end Go.Proofs.YtjgfemghlhmlbaaGreatDoor
