/- SpliceShapes: for every input the law returns true; the arguments read behind the call as before. Conditions: none beyond the card's own. -/
import Derived.Test.YtdhpibcacnndaaaGreatDoorCW8
import Derived.Test.YtdhpibcacnndaaaGreatDoorPQ7
set_option linter.all false
set_option maxHeartbeats 100000000
namespace Go.Proofs.YtdhpibcacnndaaaGreatDoor
open Go.ChangeShapes Go.WideShapes Go.ChangeAt Go.RowKit Go.Joins Go.Deep
set_option maxRecDepth 100000 in
theorem bP (os : Os) (started : os.Started) (H : Type) (enc : TypeId × Value -> H) :
 ReturnsInHanded {} Tryz.checked os 8 .any (fun w args => (Rows.spliceShapesSpec.pre enc Tryz.prog Tryz.f8 [] false w args ∧ laidMetH Tryz.prog Rows.spliceShapesRow.laid w) ∧ sizedMet enc Tryz.prog Tryz.f8 (OpenSpec.ofChange Rows.spliceShapesSpec) false w args)
  (Rows.spliceShapesSpec.post enc Tryz.prog Tryz.f8 false true false false) := by
 refine returnsInHanded_of_change_and (C := Tryz.checked) (X := fun w _ => laidMetH Tryz.prog Rows.spliceShapesRow.laid w) (fun _ _ _ hh h => h.of_heap hh) own started (by kernel_rfl) Tryz.func8
  (ChangeSpec.witness_shaped (enc := enc) (C := Tryz.checked) (os := os) (X := fun w _ => laidMetH Tryz.prog Rows.spliceShapesRow.laid w) false (World.laidAll Tryz.prog os Rows.spliceShapesRow.laid) #[.int .i64 0, .int .i64 0, .int .i64 0] 8 (World.laidAll_os _ _ _)
    (World.shaped_of_ZipB (by kernel_rfl) (by kernel_rfl)) (by kernel_rfl) (by kernel_rfl) (by kernel_rfl)
    (by rw [MakeChecks.laidMetH_plain _ _ _ (by kernel_rfl)]; exact laidMet_laidAll _ (by kernel_rfl) (by kernel_rfl))) ?_
 intro W base args ds gs before hval0 hW _ _ hL _;have hval : ∀ (j : Nat) t v, Tryz.f8.params[j]? = some t -> args[j]? = some v -> Value.okWide Tryz.prog W .any base t v := hval0;have hW' := hW;obtain ⟨p, q, hA0, hV, rfl, hfz, hnd⟩ := hW;have hA : DataW.TrodAll enc Tryz.prog W 0 (fun _ => true) true Tryz.f8.params.toList args.toList ds p := hA0;rw [Tryz.params8] at hA hval;have hA : DataW.TrodAll enc Tryz.prog W 0 (fun _ => true) true [3, 3, 3] args.toList ds p := hA;obtain ⟨rfl, rfl⟩ := trodVars_none hV;have hlen := Go.Sv.zAW hA
 obtain ⟨d0, d1, d2, rfl⟩ : ∃ d0 d1 d2, ds = [d0, d1, d2] := by
  match ds, hlen with
  | [d0, d1, d2], _ => exact ⟨d0, d1, d2, rfl⟩
 obtain ⟨hs, _, _, h3⟩ := qKV (show laidMetH Tryz.prog q4P W from hL);refine (Go.Sv.Lib.zG7 (gl := [(3, uI)]) (k := 10) LAW q89 (g := 8) (ats := [(Go.Sv.Ty.int IntKind.i64), (Go.Sv.Ty.int IntKind.i64), (Go.Sv.Ty.int IntKind.i64)]) (F := H8) rfl (fun x _ => q82 x) (q66 hs h3) (by omega) (n := 6) (is := [3, 3, 3]) (by kernel_rfl) hA (fun j i v h1 h2 => hval j i v (by simpa using h1) h2)).mono fun e W' ⟨he, hb⟩ => ?_
 subst he;refine ⟨_, rfl, _, _, _, [], p, [], hW', ?_, ?_, rfl, hb.frame _, fun h => by cases h⟩
 ·exact trodAll_mk1 (shut_bool Tryz.underlying4 true)
 ·exact Go.Sv.zBF laidOut hb [3, 3, 3] _ _ _ (Go.Sv.zCD (by kernel_rfl)) hA fun x hx => hW'.lt x (by simp [hx])
theorem q68 {a b : Bool} (h : a = true) (k : b = true) : (a && b) = true := by rw [h, k]; rfl
theorem q5H : joinedFacts Tryz.prog 8 Tryz.f8 Rows.spliceShapesSpec Rows.spliceShapesRow = true := by
 unfold joinedFacts
 repeat' with_reducible apply q68
 all_goals as_aux_lemma => kernel_rfl
theorem oN : Rows.SpliceShapesSaid :=
 OpenClaim.holds_of_wide 8 Tryz.f8 rfl rfl rfl rfl rfl rfl rfl ⟨rfl, rfl, rfl, rfl, rfl⟩ rfl rfl rfl rfl rfl (by kernel_rfl) Tryz.func8 q5H
  (of_decide_eq_true (by kernel_rfl)) (by unfold Func.isWrapper; rw [if_neg (of_decide_eq_false (by kernel_rfl))]; exact ⟨rfl, rfl⟩)
  (fun os started H enc _ => bP os started H enc)
theorem splice_shapes : Rows.SpliceShapesCardSaid :=
 Claim7.holds_tied_plain_at .later [] [.data, .data, .data, .data, .sentinel, .sentinel, .pinned] true (true, "45b23b177fe33ce17c1f36998cf9e14c90bdfdd22ce380e67ad76d96d2fb3c48") true
  oN (fun _ h => by cases h) (by as_aux_lemma => kernel_rfl) (fun _ h => by cases h) spliceShapes_row_tie rfl ⟨rfl, rfl⟩ (by as_aux_lemma => kernel_rfl) rfl
  (fun f fn hf hfn => by
    obtain rfl : f = 8 := Option.some.inj ((show Tryz.prog.funcNamed "becket/becketlaw08.SpliceShapes" = some 8 by as_aux_lemma => kernel_rfl).symm.trans hf) |>.symm
    obtain rfl : fn = Tryz.f8 := (Option.some.inj (Tryz.func8.symm.trans hfn)).symm
    exact ⟨by as_aux_lemma => kernel_rfl, fun j t ht => by
     rw [Tryz.params8] at ht
     have h3 : t = 3 := by
      rcases j with _ | _ | _ | j <;> simp at ht <;> simp [ht]
     rcases h3 with rfl
     ·exact (show Tryz.prog.wantsStandIn 3 = false by kernel_rfl)⟩)
  (by as_aux_lemma => kernel_rfl)
#print axioms splice_shapes
end Go.Proofs.YtdhpibcacnndaaaGreatDoor
