/- PatternNormals: for every input the law returns true; the arguments read behind the call as before. Conditions: none beyond the card's own. -/
import Derived.Test.YtpdlblofcdcikaaGreatDoorCV0
import Derived.Test.YtpdlblofcdcikaaGreatDoorPL6
set_option linter.unusedSimpArgs false
set_option linter.unusedVariables false
namespace Go.Proofs.YtpdlblofcdcikaaGreatDoor
open Go.Idl (RInts)
open Go.Sv (RRows)
open Go.ChangeShapes Go.WideShapes Go.ChangeAt Go.RowKit Go.Joins Go.Deep

theorem size_of_laid10 {W : World} (h : laidMetH Tryz.prog Rows.patternNormalsRow.laid W) : 3 ≤ W.heap.size := size_of_laid (show laidMetH Tryz.prog Rows.patternFormsRow.laid W from h)

open Go.Idl in
open Go.Sv in
theorem normals_calls {W : World} (hs : 3 ≤ W.heap.size) {Ap Aq : Option Addr} {np cp nq cq : Nat} {RA RB : Nat → Option Addr} {L C L2 C2 : Nat → Nat} {Z Z2 : Nat → List Int} (hp : RRows W Ap np cp RA L C Z) (hq : RRows W Aq nq cq RB L2 C2 Z2) :
    Calls Tryz.prog 10 #[.slice Ap np cp, .slice Aq nq cq] W fun e W' => e = .returned (.bool true) ∧ W.heap.size ≤ W'.heap.size ∧ (∀ r, r < W.heap.size → W'.heap[r]? = W.heap[r]?) ∧ W'.os = W.os ∧ W'.output = W.output ∧ W'.tape = W.tape := by
  have h0 : 0 < W.heap.size := by omega
  have hR0 : Rel Tryz.prog (globInj 3) (mkIH [] 3) W := globInj_rel 3 hs
  have hro0 : AllRo (globInj 3) := fun b e hb => by rw [(globInj_some hb).2]
  obtain ⟨f1, H1, u1, p, a1, a2, a3, a4, a5, a6⟩ := addPicF 22 hR0 hro0 h0 hp
  obtain ⟨f2, H2, u2, q, b1, b2, b3, b4, b5, b6⟩ := addPicF 22 a1 a3 h0 hq
  have hG : Glob (globG 3) f2 := (globInj_glob 3).mono (Inj.le_trans a2 b2)
  have hb : H2.base ≤ H2.size := by rw [b4.base, a4.base]; exact Nat.zero_le _
  have hcalls := Lib.calls L10 (g := 10) (ent := ⟨[(Ty.list 22 (Ty.list 3 (Ty.int IntKind.i64))), (Ty.list 22 (Ty.list 3 (Ty.int IntKind.i64)))], [Ty.bool], H10⟩) rfl (x := (p, q)) (y := true) (normals_plain p q) (Z := ZA H2) b1 hG (args := [u1, u2]) (args' := [.slice Ap np cp, .slice Aq nq cq]) (.cons (a5.mono b2) (.cons b5 .nil)) (fun b h => h) hb (.cons (.f (a6.up b4)) (.cons (.f b6) .nil))
  refine (callsIn_wide.1 hcalls).mono ?_
  rintro e w' ⟨v', r, f2', rfl, ⟨hold, Z', hr⟩, k1, k2, k3⟩
  have hrb : r.1 = .bool true := pl_ok hr rfl
  rw [hrb] at k3
  refine ⟨by rw [k3.boolV], k2.size, fun x hx => (k2.keep x hx ?_).2, k2.out⟩
  rintro ⟨b, e, hb, _, hroe⟩
  rw [b3 b e hb] at hroe
  cases hroe

set_option maxRecDepth 100000 in
theorem normals_lifted (os : Os) (started : os.Started) (H : Type) (enc : TypeId × Value → H) :
    ReturnsInHanded {} Tryz.checked os 10 .any (fun w args => (Rows.patternNormalsSpec.pre enc Tryz.prog Tryz.f10 [] false w args ∧ laidMetH Tryz.prog Rows.patternNormalsRow.laid w) ∧ sizedMet enc Tryz.prog Tryz.f10 (OpenSpec.ofChange Rows.patternNormalsSpec) false w args)
      (Rows.patternNormalsSpec.post enc Tryz.prog Tryz.f10 false true false false) := by
  refine returnsInHanded_of_change_and (C := Tryz.checked) (X := fun w _ => laidMetH Tryz.prog Rows.patternNormalsRow.laid w) (fun _ _ _ hh h => h.of_heap hh) own started (by kernel_rfl) Tryz.func10
    (ChangeSpec.witness_shaped (enc := enc) (C := Tryz.checked) (os := os) (X := fun w _ => laidMetH Tryz.prog Rows.patternNormalsRow.laid w) false (World.laidAll Tryz.prog os Rows.patternNormalsRow.laid) #[.slice none 0 0, .slice none 0 0] 8 (World.laidAll_os _ _ _)
      (World.shaped_of_ZipB (by kernel_rfl) (by kernel_rfl)) (by kernel_rfl) (by kernel_rfl) (by kernel_rfl)
      (by rw [MakeChecks.laidMetH_plain _ _ _ (by kernel_rfl)]; exact laidMet_laidAll _ (by kernel_rfl) (by kernel_rfl))) ?_
  intro W base args ds gs before hval0 hW _ _ hL _
  have hval : ∀ (j : Nat) t v, Tryz.f10.params[j]? = some t → args[j]? = some v → Value.okWide Tryz.prog W .any base t v := hval0
  have hW' := hW
  obtain ⟨p, q, hA0, hV, rfl, hfz, hnd⟩ := hW
  have hA : DataW.TrodAll enc Tryz.prog W 0 (fun _ => true) true Tryz.f10.params.toList args.toList ds p := hA0
  rw [Tryz.params10] at hA hval
  obtain ⟨v0, v1, d0, d1, p0, p1, rfl, rfl, rfl, h0, h1⟩ := trodAll_two hA
  obtain ⟨rfl, rfl⟩ := trodVars_none hV
  have h0k := h0
  have h1k := h1
  obtain ⟨a1, l1, k1, rfl⟩ := okWide_slice Tryz.underlying25 (hval 0 25 v0 rfl rfl)
  obtain ⟨fuel1, hf1⟩ := h0
  obtain ⟨Ap, np, cp, RA, L, C, Z, hpeq, hp⟩ := picture_of (c := .slice a1 l1 k1) (by simpa [Value.cells] using hf1)
  obtain ⟨rfl, rfl, rfl⟩ : a1 = Ap ∧ l1 = np ∧ k1 = cp := by simpa using hpeq
  obtain ⟨a2, l2, k2, rfl⟩ := okWide_slice Tryz.underlying25 (hval 1 25 v1 rfl rfl)
  obtain ⟨fuel2, hf2⟩ := h1
  obtain ⟨Aq, nq, cq, RA2, L2, C2, Z2, hqeq, hq⟩ := picture_of (c := .slice a2 l2 k2) (by simpa [Value.cells] using hf2)
  obtain ⟨rfl, rfl, rfl⟩ : a2 = Aq ∧ l2 = nq ∧ k2 = cq := by simpa using hqeq
  refine (normals_calls (size_of_laid10 hL) hp hq).mono fun e W' ⟨he, hsz, hblk, hos, hout, htape⟩ => ?_
  subst he
  have hb : Below W.heap.size W W' := ⟨hos, htape, hout, hsz, hblk⟩
  have hlt : ∀ x, x ∈ p0 ∨ x ∈ p1 → x.block < W.heap.size := fun x hx => hW'.lt x (by
    rcases hx with h | h
    · simp [h]
    · simp [h])
  refine ⟨_, rfl, _, _, _, [], p0 ++ p1, [], hW', ?_, ?_, rfl, hb.frame _, fun h => by cases h⟩
  · exact trodAll_mk1 (shut_bool Tryz.underlying4 true)
  · exact trodAll_mk2 (Below.trod laidOut (by kernel_rfl) (of_decide_eq_true (by kernel_rfl)) h0k hb (fun x hx => hlt x (.inl hx))) (Below.trod laidOut (by kernel_rfl) (of_decide_eq_true (by kernel_rfl)) h1k hb (fun x hx => hlt x (.inr hx)))

theorem normals_row : Rows.PatternNormalsSaid :=
  OpenClaim.holds_of_wide 10 Tryz.f10 rfl rfl rfl rfl rfl rfl rfl ⟨rfl, rfl, rfl, rfl, rfl⟩ rfl rfl rfl rfl rfl (by kernel_rfl) Tryz.func10 (by kernel_rfl)
    (of_decide_eq_true (by kernel_rfl)) (by unfold Func.isWrapper; rw [if_neg (of_decide_eq_false (by kernel_rfl))]; exact ⟨rfl, rfl⟩)
    (fun os started H enc _ => normals_lifted os started H enc)

theorem pattern_normals : Rows.PatternNormalsCardSaid :=
  Claim7.holds_tied_plain_at .later [] [.data, .pinned] true (true, "2575bc1b8b046c40adaea068baf19e406db46c03f0a8e6ad882e11867557fe38") false
    normals_row (fun _ h => by cases h) (by kernel_rfl) (fun _ h => by cases h) patternNormals_row_tie rfl ⟨rfl, rfl⟩ (by kernel_rfl) rfl
    (fun f fn hf hfn => by
      obtain rfl : f = 10 := Option.some.inj ((show Tryz.prog.funcNamed "becket/becketlaw06.PatternNormals" = some 10 by kernel_rfl).symm.trans hf) |>.symm
      obtain rfl : fn = Tryz.f10 := (Option.some.inj (Tryz.func10.symm.trans hfn)).symm
      exact ⟨by kernel_rfl, fun j t ht => by
        rw [Tryz.params10] at ht
        have h3 : t = 25 := by
          rcases j with _ | _ | j <;> simp at ht <;> simp [ht]
        subst h3
        exact (show Tryz.prog.wantsStandIn 25 = false by kernel_rfl)⟩)
    (by kernel_rfl)
#print axioms pattern_normals
end Go.Proofs.YtpdlblofcdcikaaGreatDoor
