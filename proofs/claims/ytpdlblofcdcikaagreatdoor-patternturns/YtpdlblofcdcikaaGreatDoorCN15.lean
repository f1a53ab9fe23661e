/- PatternTurns: for every input the law returns true; the arguments read behind the call as before. Conditions: none beyond the card's own. -/
import Derived.Test.YtpdlblofcdcikaaGreatDoorCW0
import Derived.Test.YtpdlblofcdcikaaGreatDoorTA
set_option linter.all false
namespace Go.Proofs.YtpdlblofcdcikaaGreatDoor
open Go.ChangeShapes Go.WideShapes Go.ChangeAt Go.RowKit Go.Joins Go.Deep
theorem qCM {W : World} (h : laidMetH Tryz.prog Rows.patternTurnsRow.laid W) : 3 <= W.heap.size := qJ7 (show laidMetH Tryz.prog q7F W from h)
set_option maxRecDepth 100000 in
theorem cB (os : Os) (started : os.Started) (H : Type) (enc : TypeId × Value -> H) :
 ReturnsInHanded {} Tryz.checked os 15 .any (fun w args => (Rows.patternTurnsSpec.pre enc Tryz.prog Tryz.f15 [] false w args ∧ laidMetH Tryz.prog Rows.patternTurnsRow.laid w) ∧ sizedMet enc Tryz.prog Tryz.f15 (OpenSpec.ofChange Rows.patternTurnsSpec) false w args)
  (Rows.patternTurnsSpec.post enc Tryz.prog Tryz.f15 false true false false) := by
 refine returnsInHanded_of_change_and (C := Tryz.checked) (X := fun w _ => laidMetH Tryz.prog Rows.patternTurnsRow.laid w) (fun _ _ _ hh h => h.of_heap hh) own started (by kernel_rfl) Tryz.func15
  (ChangeSpec.witness_shaped (enc := enc) (C := Tryz.checked) (os := os) (X := fun w _ => laidMetH Tryz.prog Rows.patternTurnsRow.laid w) false (World.laidAll Tryz.prog os Rows.patternTurnsRow.laid) #[.agg #[.int .i64 0, .slice none 0 0], .slice none 0 0, .agg #[.int .i64 0, .int .i64 0]] 8 (World.laidAll_os _ _ _)
    (World.shaped_of_ZipB (by kernel_rfl) (by kernel_rfl)) (by kernel_rfl) (by kernel_rfl) (by kernel_rfl)
    (by rw [MakeChecks.laidMetH_plain _ _ _ (by kernel_rfl)]; exact laidMet_laidAll _ (by kernel_rfl) (by kernel_rfl))) ?_
 intro W base args ds gs before hval0 hW _ _ hL _;have hval : ∀ (j : Nat) t v, Tryz.f15.params[j]? = some t -> args[j]? = some v -> Value.okWide Tryz.prog W .any base t v := hval0;have hW' := hW;obtain ⟨p, q, hA0, hV, rfl, hfz, hnd⟩ := hW;have hA : DataW.TrodAll enc Tryz.prog W 0 (fun _ => true) true Tryz.f15.params.toList args.toList ds p := hA0;rw [Tryz.params15] at hA hval;have hA : DataW.TrodAll enc Tryz.prog W 0 (fun _ => true) true [24, 22, 83] args.toList ds p := hA;obtain ⟨rfl, rfl⟩ := trodVars_none hV;have hlen := Go.Sv.trodAll_len hA
 obtain ⟨d0, d1, d2, rfl⟩ : ∃ d0 d1 d2, ds = [d0, d1, d2] := by
  match ds, hlen with
  | [d0, d1, d2], _ => exact ⟨d0, d1, d2, rfl⟩
 have hs := qCM hL;refine (Go.Sv.Lib.law (k := 3) L15 (fun _ => rfl) (g := 15) (ats := [((Go.Sv.Ty.int IntKind.i64).pair (Go.Sv.Ty.list 3 (Go.Sv.Ty.int IntKind.i64))), (Go.Sv.Ty.list 3 (Go.Sv.Ty.int IntKind.i64)), ((Go.Sv.Ty.int IntKind.i64).pair (Go.Sv.Ty.int IntKind.i64))]) (F := H15) rfl (fun x _ => qLC x) hs (by omega) (n := 6) (is := [24, 22, 83]) (by kernel_rfl) hA (fun j i v h1 h2 => hval j i v (by simpa using h1) h2)).mono fun e W' ⟨he, hb⟩ => ?_
 subst he;refine ⟨_, rfl, _, _, _, [], p, [], hW', ?_, ?_, rfl, hb.frame _, fun h => by cases h⟩
 ·exact trodAll_mk1 (shut_bool Tryz.underlying4 true)
 ·exact Go.Sv.below_all laidOut hb [24, 22, 83] _ _ _ (Go.Sv.readOk_of (by kernel_rfl)) hA fun x hx => hW'.lt x (by simp [hx])
theorem o6 : Rows.PatternTurnsSaid :=
 OpenClaim.holds_of_wide 15 Tryz.f15 rfl rfl rfl rfl rfl rfl rfl ⟨rfl, rfl, rfl, rfl, rfl⟩ rfl rfl rfl rfl rfl (by kernel_rfl) Tryz.func15 (by kernel_rfl)
  (of_decide_eq_true (by kernel_rfl)) (by unfold Func.isWrapper; rw [if_neg (of_decide_eq_false (by kernel_rfl))]; exact ⟨rfl, rfl⟩)
  (fun os started H enc _ => cB os started H enc)
theorem pattern_turns : Rows.PatternTurnsCardSaid :=
 Claim7.holds_tied_plain_at .later [] [.data, .pinned] true (true, "2575bc1b8b046c40adaea068baf19e406db46c03f0a8e6ad882e11867557fe38") false
  o6 (fun _ h => by cases h) (by kernel_rfl) (fun _ h => by cases h) patternTurns_row_tie rfl ⟨rfl, rfl⟩ (by kernel_rfl) rfl
  (fun f fn hf hfn => by
    obtain rfl : f = 15 := Option.some.inj ((show Tryz.prog.funcNamed "becket/becketlaw06.PatternTurns" = some 15 by kernel_rfl).symm.trans hf) |>.symm
    obtain rfl : fn = Tryz.f15 := (Option.some.inj (Tryz.func15.symm.trans hfn)).symm
    exact ⟨by kernel_rfl, fun j t ht => by
     rw [Tryz.params15] at ht
     have h3 : t = 22 ∨ t = 24 ∨ t = 83 := by
      rcases j with _ | _ | _ | j <;> simp at ht <;> simp [ht]
     rcases h3 with rfl | rfl | rfl
     ·exact (show Tryz.prog.wantsStandIn 22 = false by kernel_rfl)
     ·exact (show Tryz.prog.wantsStandIn 24 = false by kernel_rfl)
     ·exact (show Tryz.prog.wantsStandIn 83 = false by kernel_rfl)⟩)
  (by kernel_rfl)
#print axioms pattern_turns
end Go.Proofs.YtpdlblofcdcikaaGreatDoor
