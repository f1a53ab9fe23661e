/- PatternClasses: for every input the law returns true; the arguments read behind the call as before. Conditions: none beyond the card's own. -/
import Derived.Test.YtpegkendiefkaaaGreatDoorCW0
import Derived.Test.YtpegkendiefkaaaGreatDoorVB
set_option linter.all false
namespace Go.Proofs.YtpegkendiefkaaaGreatDoor
open Go.ChangeShapes Go.WideShapes Go.ChangeAt Go.RowKit Go.Joins Go.Deep
theorem qG0 {W : World} (h : laidMetH Tryz.prog Rows.patternClassesRow.laid W) : 3 <= W.heap.size := qIZ (show laidMetH Tryz.prog zAB W from h)
set_option maxRecDepth 100000 in
theorem aL (os : Os) (started : os.Started) (H : Type) (enc : TypeId × Value -> H) :
 ReturnsInHanded {} Tryz.checked os 3 .any (fun w args => (Rows.patternClassesSpec.pre enc Tryz.prog Tryz.f3 [] false w args ∧ laidMetH Tryz.prog Rows.patternClassesRow.laid w) ∧ sizedMet enc Tryz.prog Tryz.f3 (OpenSpec.ofChange Rows.patternClassesSpec) false w args)
  (Rows.patternClassesSpec.post enc Tryz.prog Tryz.f3 false true false false) := by
 refine returnsInHanded_of_change_and (C := Tryz.checked) (X := fun w _ => laidMetH Tryz.prog Rows.patternClassesRow.laid w) (fun _ _ _ hh h => h.of_heap hh) own started (by kernel_rfl) Tryz.func3
  (ChangeSpec.witness_shaped (enc := enc) (C := Tryz.checked) (os := os) (X := fun w _ => laidMetH Tryz.prog Rows.patternClassesRow.laid w) false (World.laidAll Tryz.prog os Rows.patternClassesRow.laid) #[.agg #[.int .i64 0, .slice none 0 0], .slice none 0 0, .int .i64 0] 8 (World.laidAll_os _ _ _)
    (World.shaped_of_ZipB (by kernel_rfl) (by kernel_rfl)) (by kernel_rfl) (by kernel_rfl) (by kernel_rfl)
    (by rw [MakeChecks.laidMetH_plain _ _ _ (by kernel_rfl)]; exact laidMet_laidAll _ (by kernel_rfl) (by kernel_rfl))) ?_
 intro W base args ds gs before hval0 hW _ _ hL _;have hval : ∀ (j : Nat) t v, Tryz.f3.params[j]? = some t -> args[j]? = some v -> Value.okWide Tryz.prog W .any base t v := hval0;have hW' := hW;obtain ⟨p, q, hA0, hV, rfl, hfz, hnd⟩ := hW;have hA : DataW.TrodAll enc Tryz.prog W 0 (fun _ => true) true Tryz.f3.params.toList args.toList ds p := hA0;rw [Tryz.params3] at hA hval;have hA : DataW.TrodAll enc Tryz.prog W 0 (fun _ => true) true [24, 22, 3] args.toList ds p := hA;obtain ⟨rfl, rfl⟩ := trodVars_none hV;have hlen := Go.Sv.zJB hA
 obtain ⟨d0, d1, d2, rfl⟩ : ∃ d0 d1 d2, ds = [d0, d1, d2] := by
  match ds, hlen with
  | [d0, d1, d2], _ => exact ⟨d0, d1, d2, rfl⟩
 have hs := qG0 hL;refine (Go.Sv.Lib.law (k := 3) L5 (fun _ => rfl) (g := 3) (ats := [((Go.Sv.Ty.int IntKind.i64).pair (Go.Sv.Ty.list 3 (Go.Sv.Ty.int IntKind.i64))), (Go.Sv.Ty.list 3 (Go.Sv.Ty.int IntKind.i64)), (Go.Sv.Ty.int IntKind.i64)]) (F := H5) rfl (fun ⟨⟨n, w⟩, l, c⟩ _ => zHN n w l c) hs (by omega) (n := 6) (is := [24, 22, 3]) (by kernel_rfl) hA (fun j i v h1 h2 => hval j i v (by simpa using h1) h2)).mono fun e W' ⟨he, hb⟩ => ?_
 subst he;refine ⟨_, rfl, _, _, _, [], p, [], hW', ?_, ?_, rfl, hb.frame _, fun h => by cases h⟩
 ·exact trodAll_mk1 (shut_bool Tryz.underlying4 true)
 ·exact Go.Sv.zJT laidOut hb [24, 22, 3] _ _ _ (Go.Sv.zKW (by kernel_rfl)) hA fun x hx => hW'.lt x (by simp [hx])
theorem mY : Rows.PatternClassesSaid :=
 OpenClaim.holds_of_wide 3 Tryz.f3 rfl rfl rfl rfl rfl rfl rfl ⟨rfl, rfl, rfl, rfl, rfl⟩ rfl rfl rfl rfl rfl (by kernel_rfl) Tryz.func3 (by kernel_rfl)
  (of_decide_eq_true (by kernel_rfl)) (by unfold Func.isWrapper; rw [if_neg (of_decide_eq_false (by kernel_rfl))]; exact ⟨rfl, rfl⟩)
  (fun os started H enc _ => aL os started H enc)
theorem pattern_classes : Rows.PatternClassesCardSaid :=
 Claim7.holds_tied_plain_at .later [] [.data, .pinned] true (true, "1d60964e2849f12eacdfb618f6052f3bef09cfb9c06ce760a488b9f69e24fca8") false
  mY (fun _ h => by cases h) (by kernel_rfl) (fun _ h => by cases h) patternClasses_row_tie rfl ⟨rfl, rfl⟩ (by kernel_rfl) rfl
  (fun f fn hf hfn => by
    obtain rfl : f = 3 := Option.some.inj ((show Tryz.prog.funcNamed "becket/becketlaw06.PatternClasses" = some 3 by kernel_rfl).symm.trans hf) |>.symm
    obtain rfl : fn = Tryz.f3 := (Option.some.inj (Tryz.func3.symm.trans hfn)).symm
    exact ⟨by kernel_rfl, fun j t ht => by
     rw [Tryz.params3] at ht
     have h3 : t = 3 ∨ t = 22 ∨ t = 24 := by
      rcases j with _ | _ | _ | j <;> simp at ht <;> simp [ht]
     rcases h3 with rfl | rfl | rfl
     ·exact (show Tryz.prog.wantsStandIn 3 = false by kernel_rfl)
     ·exact (show Tryz.prog.wantsStandIn 22 = false by kernel_rfl)
     ·exact (show Tryz.prog.wantsStandIn 24 = false by kernel_rfl)⟩)
  (by kernel_rfl)
#print axioms pattern_classes
end Go.Proofs.YtpegkendiefkaaaGreatDoor
