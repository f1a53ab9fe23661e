/- SpliceReplays: for every input of bulk at most 1048576 the law returns true; the arguments read behind the call as before. Conditions: none beyond the card's own. -/
import Derived.Test.YtjboddididohgaaGreatDoorCW8
import Derived.Test.YtjboddididohgaaGreatDoorLU
import Derived.Deep.DeepHandedRow
import Derived.Test.YtjboddididohgaaGreatDoorPR11
set_option linter.all false
set_option maxHeartbeats 100000000
namespace Go.Proofs.YtjboddididohgaaGreatDoor
open Go.ChangeShapes Go.WideShapes Go.ChangeAt Go.RowKit Go.Joins Go.Deep
theorem q5A {H : Type} (l : List (DataW H)) : l.length <= Rows.uptoBulkAll l := by
 induction l with
 | nil => simp [Rows.uptoBulkAll]
 | cons x r ih =>
   have : 1 <= Rows.uptoBulk x := by
    cases x with
    | lit l => cases l <;> simp [Rows.uptoBulk]
    | _ => simp [Rows.uptoBulk]
   simp only [Rows.uptoBulkAll, List.length_cons];omega
theorem qPQ {H : Type} {enc : TypeId × Value -> H} {W : World} {is : List TypeId} {vs : List Value} {ds : List (DataW H)} {p : List MemPlace} {B : Nat} (hA : DataW.TrodAll enc Tryz.prog W 0 (fun _ => true) true is vs ds p) (hB : Rows.uptoBulkAll ds <= B) : ∀ (j : Nat) (i el : TypeId) a n c, is[j]? = some i -> Tryz.prog.underlying i = some (.slice el) -> vs[j]? = some (.slice a n c) -> n <= B := by
 induction is generalizing vs ds p B with
 | nil => intro j i el a n c h; simp at h
 | cons i0 is ih =>
   obtain ⟨v, vs', d, ds', p1, q1, rfl, rfl, rfl, h0, h1⟩ := trodAll_cons hA;simp only [Rows.uptoBulkAll] at hB;intro j i el a n c hi hu hv
   cases j with
   | zero =>
     obtain rfl : i0 = i := by simpa using hi
     obtain rfl : v = .slice a n c := by simpa using hv
     obtain ⟨fuel, hx⟩ := h0
     rcases DataW.trod_slice hu hx with ⟨h, _⟩ | ⟨a', len, cap, elems, rest, m, _, h, h2, _, _, _, hel, _⟩
     ·cases h; exact Nat.zero_le _
     ·cases h;cases h2;have := q5A (elems.map (·.1));rw [List.length_map] at this;simp only [Rows.uptoBulk] at hB;omega
   | succ j => exact ih h1 (by omega) j i el a n c (by simpa using hi) hu (by simpa using hv)
set_option maxRecDepth 100000 in
theorem aC (os : Os) (started : os.Started) (H : Type) (enc : TypeId × Value -> H) (F : Stop.Interp) :
 ReturnsInHanded {} Tryz.checked os 3 .any ((Rows.OpenSpec.upto Rows.spliceReplaysSpec).preRow enc Tryz.prog Tryz.f3 Rows.spliceReplaysUptoRow.domain false Rows.spliceReplaysUptoRow.laid) (((Rows.OpenSpec.upto Rows.spliceReplaysSpec).at F).post enc Tryz.prog Tryz.f3 false true false false) := by
 refine returnsInHanded_of_row (C := Tryz.checked) (s := Rows.OpenSpec.upto Rows.spliceReplaysSpec) own started (by kernel_rfl) Tryz.func3
  ⟨World.laidAll Tryz.prog os Rows.spliceReplaysUptoRow.laid, fun _ _ => 0, ⟨#[], #[.agg #[.int .i64 0, .int .i64 0, .int .i64 0, .int .i64 0, .int .i64 0], .slice none 0 0], []⟩, World.laidAll_os _ _ _, World.shaped_of_ZipB (by kernel_rfl) (by kernel_rfl), rfl, (Input.okWide_of_okWideB (by kernel_rfl)).2,
    OpenSpec.preRow_of_cond 8 (x := ([.agg [.lit (.int .i64 0), .lit (.int .i64 0), .lit (.int .i64 0), .lit (.int .i64 0), .lit (.int .i64 0)], .nil], [], [])) (by kernel_rfl) (by kernel_rfl) (fun k hk => by cases hk; kernel_rfl) (by kernel_rfl) (by rw [MakeChecks.laidMetH_plain _ _ _ (by kernel_rfl)]; exact laidMet_laidAll _ (by kernel_rfl) (by kernel_rfl)),
    by simp only [Assume.holds]; exact ⟨by simp, by simp, fun _ => Modest.zero, by simp, by simp⟩⟩ ?_
 intro W base args ds gs before hval0 hW _ hcond _ hL _ _;have hval : ∀ (j : Nat) t v, Tryz.f3.params[j]? = some t -> args[j]? = some v -> Value.okWide Tryz.prog W .any base t v := hval0;have zE4 : Rows.uptoBulkAll (ds ++ gs) <= 1048576 := of_decide_eq_true (hcond _ rfl);have hW' : DataW.Whole enc Tryz.prog Tryz.f3.params.toList Rows.spliceReplaysSpec.vars false W args.toList ds gs before := hW;obtain ⟨p, q, hA0, hV, rfl, hfz, hnd⟩ := hW;have hA : DataW.TrodAll enc Tryz.prog W 0 (fun _ => true) true Tryz.f3.params.toList args.toList ds p := hA0;rw [Tryz.params3] at hA hval;have hA : DataW.TrodAll enc Tryz.prog W 0 (fun _ => true) true [23, 24] args.toList ds p := hA;obtain ⟨rfl, rfl⟩ := trodVars_none hV;rw [List.append_nil] at zE4;have hlen := Go.Sv.zBQ hA
 obtain ⟨d0, d1, rfl⟩ : ∃ d0 d1, ds = [d0, d1] := by
  match ds, hlen with
  | [d0, d1], _ => exact ⟨d0, d1, rfl⟩
 obtain ⟨hs, _, _, h3⟩ := qKN (show laidMetH Tryz.prog q7A W from hL);refine (Go.Sv.Lib.zH9 (gl := [(3, uU)]) (k := 10) LAW q9S (g := 3) (ats := [((Go.Sv.Ty.int IntKind.i64).pair ((Go.Sv.Ty.int IntKind.i64).pair ((Go.Sv.Ty.int IntKind.i64).pair ((Go.Sv.Ty.int IntKind.i64).pair (Go.Sv.Ty.int IntKind.i64))))), (Go.Sv.Ty.list 48 ((Go.Sv.Ty.int IntKind.i64).pair ((Go.Sv.Ty.int IntKind.i64).pair (Go.Sv.Ty.int IntKind.i64))))]) (F := H3) rfl (Q := fun x => x.2.length <= 1048576) (fun x hx => q93 x.1 x.2 hx) (q77 hs h3) (by omega) (n := 6) (is := [23, 24]) (by kernel_rfl) hA (fun j i v h1 h2 => hval j i v (by simpa using h1) h2) (fun x f Hh us hr hv => ?_)).mono fun e W' ⟨he, hb⟩ => ?_
 ·have hv : Go.Idl.VRL _ _ _ _ (Go.Sv.Ty.pv _ x.1 :: Go.Sv.Ty.pv _ x.2 :: []) us := hv;obtain ⟨u0, us0, rfl, -, hv1⟩ := hv.zAB;obtain ⟨u1, us1, rfl, hv2, -⟩ := hv1.zAB;obtain ⟨w0, vs0, e0, -, hr1⟩ := hr.zAB;obtain ⟨w1, vs1, rfl, hr2, -⟩ := hr1.zAB;obtain ⟨a, m, c, rfl, hl⟩ := Go.Sv.zD1 hv2 hr2;exact Nat.le_trans (Nat.le_of_eq hl) (qPQ hA zE4 1 24 48 a m c rfl rfl (by rw [e0]; rfl))
 subst he;refine ⟨_, rfl, _, _, _, [], p, [], hW', ?_, ?_, rfl, hb.frame _, fun h => by cases h⟩
 ·exact trodAll_mk1 (shut_bool Tryz.underlying4 true)
 ·exact Go.Sv.zB9 laidOut hb [23, 24] _ _ _ (Go.Sv.zDA (by kernel_rfl)) hA fun x hx => hW'.lt x (by simp [hx])
theorem q8H {a b : Bool} (h : a = true) (k : b = true) : (a && b) = true := by rw [h, k]; rfl
theorem q62 : joinedFacts Tryz.prog 3 Tryz.f3 (Rows.OpenSpec.upto Rows.spliceReplaysSpec).bare Rows.spliceReplaysUptoRow = true := by
 unfold joinedFacts
 repeat' with_reducible apply q8H
 all_goals as_aux_lemma => kernel_rfl
theorem oH : Rows.SpliceReplaysUptoSaid :=
 OpenClaim.holds_of_cond 3 Tryz.f3 rfl rfl rfl rfl rfl rfl rfl ⟨rfl, rfl, rfl, rfl, rfl⟩ rfl rfl rfl rfl rfl (by kernel_rfl) Tryz.func3 q62
  (of_decide_eq_true (by kernel_rfl)) (by unfold Func.isWrapper; rw [if_neg (of_decide_eq_false (by kernel_rfl))]; exact ⟨rfl, rfl⟩)
  (fun os started H enc _ F => by rw [OpenClaim.pre_eq_preRow]; exact aC os started H enc F)
theorem splice_replays_upto : Rows.SpliceReplaysUptoCardSaid :=
 Claim7.holds_tied_plain_at .later [] [.data, .data, .data, .data, .sentinel, .sentinel, .pinned] true (true, "e09449654110e315fba83886668e26c2f24c07eeb51687b58c3408dc13e9ab3b") true
  oH (fun _ h => by cases h) (by as_aux_lemma => kernel_rfl) (fun _ h => by cases h) spliceReplaysUpto_row_tie rfl ⟨rfl, rfl⟩ (by as_aux_lemma => kernel_rfl) rfl
  (fun f fn hf hfn => by
    obtain rfl : f = 3 := Option.some.inj ((show Tryz.prog.funcNamed "becket/becketlaw08.SpliceReplays" = some 3 by as_aux_lemma => kernel_rfl).symm.trans hf) |>.symm
    obtain rfl : fn = Tryz.f3 := (Option.some.inj (Tryz.func3.symm.trans hfn)).symm
    exact ⟨by as_aux_lemma => kernel_rfl, fun j t ht => by
     rw [Tryz.params3] at ht
     have h3 : t = 23 ∨ t = 24 := by
      rcases j with _ | _ | j <;> simp at ht <;> simp [ht]
     rcases h3 with rfl | rfl
     ·exact (show Tryz.prog.wantsStandIn 23 = false by kernel_rfl)
     ·exact (show Tryz.prog.wantsStandIn 24 = false by kernel_rfl)⟩)
  (by as_aux_lemma => kernel_rfl)
#print axioms splice_replays_upto
end Go.Proofs.YtjboddididohgaaGreatDoor
