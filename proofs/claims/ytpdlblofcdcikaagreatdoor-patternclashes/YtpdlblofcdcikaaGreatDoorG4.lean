/- More contracts: comparisons, powers. Conditions: none. -/
import Derived.Test.YtpdlblofcdcikaaGreatDoorG3
set_option linter.unusedSimpArgs false
set_option linter.unusedVariables false
namespace Go.Proofs.YtpdlblofcdcikaaGreatDoor
open Go.Idl

/-! 53: SameRows -/
noncomputable def k53 (args : List Value) (H : IH) : Option Value := match args with
  | [a, b] => (match picOf H a, picOf H b with
    | some x, some y => some (.bool (decide (x.map (·.2) = y.map (·.2))))
    | _, _ => none)
  | _ => none
theorem k53_eq {a b : Value} {H : IH} {xs ys : List (Value × List Int)} (hx : picOf H a = some xs) (hy : picOf H b = some ys) : k53 [a, b] H = some (.bool (decide (xs.map (·.2) = ys.map (·.2)))) := by unfold k53; simp only [hx, hy]
noncomputable def nat25 : Nats := addNat nat24 53 k53
theorem pure24 : NatPure nat24 := addNat_pure pure23
theorem n52 : nat24 52 = some (ofK kSame) := rfl
set_option maxRecDepth 10000 in
theorem setup25 : Setup Tryz.prog good nat25 (globG 3) := by
  refine plainN setup24 k53 Tryz.func53 rfl rfl fun args H v hk => ?_
  unfold k53 at hk
  split at hk
  · split at hk
    · rename_i a b _ _ xs ys hx hy
      cases hk
      obtain ⟨aa, ac, rfl, hxl, _⟩ := picOf_inv hx
      obtain ⟨ba, bc, rfl, hyl, _⟩ := picOf_inv hy
      refine ⟨rfl, ?_⟩
      show Holds _ _ false _ [.slice aa xs.length ac, .slice ba ys.length bc, undef, undef, undef, undef, undef, undef, undef, undef, undef, undef, undef, undef, undef, undef, undef, undef, undef, undef, undef, undef, undef, undef, undef, undef, undef] H _
      refine setup24.regE 0 (by kernel_rfl) (by simp only [List.map_cons, List.map_nil]; rfl) (by simp only [qB, qC, qD, qE, qF, qG, qH, qJ, qK, qM, qN, qP, iop1, qR, qS, iop, qT, qV, qW, qX, qY, qZ, zA, Option.getD_some, zB, zC, zD, zE, zF, zG, zH, zJ, zK, zM, zN, Step1.ofO, lenC, callF, zP, zR, zS, zT, zV, cond_true, cond_false, decide_true, decide_false, beq_self_eq_true, Bool.false_eq_true, Bool.true_eq_false, zW, zX, zY, zZ, Bool.not_true, Bool.not_false, appC, copyC, yA, List.map_cons, List.map_nil, goInt]; rfl) ?_
      refine setup24.ifW (by kernel_rfl) (by simp only [List.map_cons, List.map_nil]; rfl) (by simp only [qB, qC, qD, qE, qF, qG, qH, qJ, qK, qM, qN, qP, iop1, qR, qS, iop, qT, qV, qW, qX, qY, qZ, zA, Option.getD_some, zB, zC, zD, zE, zF, zG, zH, zJ, zK, zM, zN, Step1.ofO, lenC, callF, zP, zR, zS, zT, zV, cond_true, cond_false, decide_true, decide_false, beq_self_eq_true, Bool.false_eq_true, Bool.true_eq_false, zW, zX, zY, zZ, Bool.not_true, Bool.not_false, appC, copyC, yA, List.map_cons, List.map_nil, goInt, lenB_slice u25]; rfl) (by kernel_rfl) (by simp only [qT, qX, qY, Option.getD_some]; rfl) (fun ht => ?_) (fun ht => .skip (ST.go ?_))
      · have hne : xs.map (·.2) ≠ ys.map (·.2) := fun e => by have := congrArg List.length e; simp at this; rw [this] at ht; simp at ht
        exact setup24.regE 0 (by kernel_rfl) (by simp only [List.map_cons, List.map_nil]; rfl) (by simp only [qB, qC, qD, qE, qF, qG, qH, qJ, qK, qM, qN, qP, iop1, qR, qS, iop, qT, qV, qW, qX, qY, qZ, zA, Option.getD_some, zB, zC, zD, zE, zF, zG, zH, zJ, zK, zM, zN, Step1.ofO, lenC, callF, zP, zR, zS, zT, zV, cond_true, cond_false, decide_true, decide_false, beq_self_eq_true, Bool.false_eq_true, Bool.true_eq_false, zW, zX, zY, zZ, Bool.not_true, Bool.not_false, appC, copyC, yA, List.map_cons, List.map_nil, goInt]; rfl) (.ret (ST.rt ⟨.inr rfl, ires_tmp rfl (by simp only [qX, qY, decide_eq_false hne]), .refl _⟩))
      · have hl : xs.length = ys.length := by simp at ht; omega
        refine .seqW (setup24.regE 0 (by kernel_rfl) (by simp only [List.map_cons, List.map_nil]; rfl) (by simp only [qB, qC, qD, qE, qF, qG, qH, qJ, qK, qM, qN, qP, iop1, qR, qS, iop, qT, qV, qW, qX, qY, qZ, zA, Option.getD_some, zB, zC, zD, zE, zF, zG, zH, zJ, zK, zM, zN, Step1.ofO, lenC, callF, zP, zR, zS, zT, zV, cond_true, cond_false, decide_true, decide_false, beq_self_eq_true, Bool.false_eq_true, Bool.true_eq_false, zW, zX, zY, zZ, Bool.not_true, Bool.not_false, appC, copyC, yA, List.map_cons, List.map_nil, goInt]; rfl) ?_)
        refine .loopW (fun m e h => ∃ (i : Nat), i ≤ xs.length ∧ m = xs.length - i ∧ e = [.slice aa xs.length ac, .slice ba ys.length bc, unk, unk, unk, .int .i64 (i : Nat), unk, unk, unk, unk, unk, unk, unk, unk, unk, unk, unk, unk, unk, unk, unk, unk, unk, unk, unk, unk, unk] ∧ h = H ∧ (xs.map (·.2)).take i = (ys.map (·.2)).take i) xs.length
          [.slice aa xs.length ac, .slice ba ys.length bc, unk, unk, unk, .int .i64 0, unk, unk, unk, unk, unk, unk, unk, unk, unk, unk, unk, unk, unk, unk, unk, unk, unk, unk, unk, unk, unk] (by repeat (first | exact WkL.nil | refine WkL.same ?_ | refine WkL.any ?_)) ⟨0, Nat.zero_le _, rfl, rfl, rfl, rfl⟩ ?_
        rintro m e h ⟨i, hi, rfl, rfl, rfl, heq⟩
        refine setup24.headW2 (by kernel_rfl) (by simp only [List.map_cons, List.map_nil]; rfl) (by simp only [qB, qC, qD, qE, qF, qG, qH, qJ, qK, qM, qN, qP, iop1, qR, qS, iop, qT, qV, qW, qX, qY, qZ, zA, Option.getD_some, zB, zC, zD, zE, zF, zG, zH, zJ, zK, zM, zN, Step1.ofO, lenC, callF, zP, zR, zS, zT, zV, cond_true, cond_false, decide_true, decide_false, beq_self_eq_true, Bool.false_eq_true, Bool.true_eq_false, zW, zX, zY, zZ, Bool.not_true, Bool.not_false, appC, copyC, yA, List.map_cons, List.map_nil, goInt, lenB_slice u25]; rfl) (by kernel_rfl) (by simp only [qT, qX, qY, Option.getD_some]; rfl) (fun ht2 => ?_) (fun ht2 => ?_)
        · have hlt : i < xs.length := by simpa using ht2
          obtain ⟨x, hxi⟩ : ∃ x, xs[i]? = some x := ⟨_, List.getElem?_eq_getElem hlt⟩
          obtain ⟨y, hyi⟩ : ∃ y, ys[i]? = some y := ⟨_, List.getElem?_eq_getElem (by omega)⟩
          obtain ⟨p, hp, hld, hzx⟩ := read_row el25 hx hxi (k := .i64)
          obtain ⟨q, hq, hld2, hzy⟩ := read_row el25 hy hyi (k := .i64)
          refine .blockW (setup24.drawE pure24 0 (lo := []) (by kernel_rfl) (by kernel_rfl) (by kernel_rfl) (by kernel_rfl) (by kernel_rfl) (by kernel_rfl) (by kernel_rfl) (by simp only [List.map_cons, List.map_nil]; rfl) (by simp only [qB, qC, qD, qE, qF, qG, qH, qJ, qK, qM, qN, qP, iop1, qR, qS, iop, qT, qV, qW, qX, qY, qZ, zA, Option.getD_some, zB, zC, zD, zE, zF, zG, zH, zJ, zK, zM, zN, Step1.ofO, lenC, callF, zP, zR, zS, zT, zV, cond_true, cond_false, decide_true, decide_false, beq_self_eq_true, Bool.false_eq_true, Bool.true_eq_false, zW, zX, zY, zZ, Bool.not_true, Bool.not_false, appC, copyC, yA, List.map_cons, List.map_nil, goInt, hp, hld, hq, hld2, e52, enter_k n52, ofK, kSame_eq hzx hzy]; rfl) (by kernel_rfl) (.cond (by kernel_rfl) (by simp only [qT, qX, qY, Option.getD_some]; rfl) (fun ht3 => ?_) (fun ht3 => .skip (BT.go ?_))))
          · have hne : xs.map (·.2) ≠ ys.map (·.2) := fun e => by
              have := congrArg (fun l => l[i]?) e
              simp [hxi, hyi] at this
              simp [this] at ht3
            exact setup24.regE 0 (by kernel_rfl) (by simp only [List.map_cons, List.map_nil]; rfl) (by simp only [qB, qC, qD, qE, qF, qG, qH, qJ, qK, qM, qN, qP, iop1, qR, qS, iop, qT, qV, qW, qX, qY, qZ, zA, Option.getD_some, zB, zC, zD, zE, zF, zG, zH, zJ, zK, zM, zN, Step1.ofO, lenC, callF, zP, zR, zS, zT, zV, cond_true, cond_false, decide_true, decide_false, beq_self_eq_true, Bool.false_eq_true, Bool.true_eq_false, zW, zX, zY, zZ, Bool.not_true, Bool.not_false, appC, copyC, yA, List.map_cons, List.map_nil, goInt]; rfl) (.ret (BT.rt (LQ.rt (ST.rt ⟨.inr rfl, ires_tmp rfl (by simp only [qX, qY, decide_eq_false hne]), .refl _⟩))))
          · have hxy : x.2 = y.2 := by simpa using ht3
            exact setup24.regZ 0 (by kernel_rfl) (by simp only [List.map_cons, List.map_nil]; rfl) (by simp only [qB, qC, qD, qE, qF, qG, qH, qJ, qK, qM, qN, qP, iop1, qR, qS, iop, qT, qV, qW, qX, qY, qZ, zA, Option.getD_some, zB, zC, zD, zE, zF, zG, zH, zJ, zK, zM, zN, Step1.ofO, lenC, callF, zP, zR, zS, zT, zV, cond_true, cond_false, decide_true, decide_false, beq_self_eq_true, Bool.false_eq_true, Bool.true_eq_false, zW, zX, zY, zZ, Bool.not_true, Bool.not_false, appC, copyC, yA, List.map_cons, List.map_nil, goInt, wrap_succ hlt hxl]; rfl) (LQ.go (xs.length - (i + 1)) (by omega) (by repeat (first | exact WkL.nil | refine WkL.same ?_ | refine WkL.any ?_)) ⟨i + 1, by omega, rfl, rfl, rfl, by
              rw [take_succ (x := x.2) (by simp [hxi]), take_succ (x := y.2) (by simp [hyi]), heq, hxy]⟩)
        · have hge : i = xs.length := by simp at ht2; omega
          have he : xs.map (·.2) = ys.map (·.2) := by
            rw [hge] at heq
            have h1 : xs.length = (xs.map (·.2)).length := by simp
            have h2 : xs.length = (ys.map (·.2)).length := by simp [hl]
            conv at heq => rw [h1, List.take_length, ← h1, h2, List.take_length]
            exact heq
          exact ST.go (setup24.regE 0 (by kernel_rfl) (by simp only [List.map_cons, List.map_nil]; rfl) (by simp only [qB, qC, qD, qE, qF, qG, qH, qJ, qK, qM, qN, qP, iop1, qR, qS, iop, qT, qV, qW, qX, qY, qZ, zA, Option.getD_some, zB, zC, zD, zE, zF, zG, zH, zJ, zK, zM, zN, Step1.ofO, lenC, callF, zP, zR, zS, zT, zV, cond_true, cond_false, decide_true, decide_false, beq_self_eq_true, Bool.false_eq_true, Bool.true_eq_false, zW, zX, zY, zZ, Bool.not_true, Bool.not_false, appC, copyC, yA, List.map_cons, List.map_nil, goInt]; rfl) (.ret ⟨.inr rfl, ires_tmp rfl (by simp only [qX, qY, decide_eq_true he]), .refl _⟩))
    · cases hk
  · cases hk
theorem e53 : enters Tryz.prog 53 = true := by kernel_rfl

/-! 51: Less -/
def lessL : List Int → List Int → Bool
  | x :: xs, y :: ys => if x = y then lessL xs ys else decide (x < y)
  | _, _ => false
noncomputable def k51 (args : List Value) (H : IH) : Option Value := match args with
  | [a, b] => (match intsOf H a, intsOf H b with
    | some x, some y => if x.length ≤ y.length then some (.bool (lessL x y)) else none
    | _, _ => none)
  | _ => none
theorem k51_eq {a b : Value} {H : IH} {xs ys : List Int} (hx : intsOf H a = some xs) (hy : intsOf H b = some ys) (hl : xs.length ≤ ys.length) : k51 [a, b] H = some (.bool (lessL xs ys)) := by unfold k51; simp only [hx, hy, if_pos hl]
theorem lessL_drop {xs ys : List Int} {i : Nat} {x y : Int} (hx : xs[i]? = some x) (hy : ys[i]? = some y) : lessL (xs.drop i) (ys.drop i) = if x = y then lessL (xs.drop (i + 1)) (ys.drop (i + 1)) else decide (x < y) := by
  obtain ⟨h1, rfl⟩ := List.getElem?_eq_some_iff.1 hx
  obtain ⟨h2, rfl⟩ := List.getElem?_eq_some_iff.1 hy
  rw [List.drop_eq_getElem_cons h1, List.drop_eq_getElem_cons h2]
  rfl
theorem lessL_end {xs ys : List Int} : lessL (xs.drop xs.length) ys = false := by rw [List.drop_length]; unfold lessL; rfl
noncomputable def nat26 : Nats := addNat nat25 51 k51
theorem pure25 : NatPure nat25 := addNat_pure pure24
set_option maxRecDepth 10000 in
theorem setup26 : Setup Tryz.prog good nat26 (globG 3) := by
  refine plainN setup25 k51 Tryz.func51 rfl rfl fun args H v hk => ?_
  unfold k51 at hk
  split at hk
  · split at hk
    · rename_i a b _ _ xs ys hx hy
      split at hk
      · rename_i hl
        cases hk
        obtain ⟨aa, ac, rfl, hxl, _⟩ := intsOf_inv hx
        obtain ⟨ba, bc, rfl, hyl, _⟩ := intsOf_inv hy
        refine ⟨rfl, ?_⟩
        show Holds _ _ false _ [.slice aa xs.length ac, .slice ba ys.length bc, undef, undef, undef, undef, undef, undef, undef, undef, undef, undef, undef, undef, undef, undef, undef, undef, undef, undef, undef, undef, undef, undef, undef, undef, undef, undef, undef, undef] H _
        refine setup25.regE 0 (by kernel_rfl) (by simp only [List.map_cons, List.map_nil]; rfl) (by simp only [qB, qC, qD, qE, qF, qG, qH, qJ, qK, qM, qN, qP, iop1, qR, qS, iop, qT, qV, qW, qX, qY, qZ, zA, Option.getD_some, zB, zC, zD, zE, zF, zG, zH, zJ, zK, zM, zN, Step1.ofO, lenC, callF, zP, zR, zS, zT, zV, cond_true, cond_false, decide_true, decide_false, beq_self_eq_true, Bool.false_eq_true, Bool.true_eq_false, zW, zX, zY, zZ, Bool.not_true, Bool.not_false, appC, copyC, yA, List.map_cons, List.map_nil, goInt]; rfl) ?_
        refine .seqW (setup25.regE 0 (by kernel_rfl) (by simp only [List.map_cons, List.map_nil]; rfl) (by simp only [qB, qC, qD, qE, qF, qG, qH, qJ, qK, qM, qN, qP, iop1, qR, qS, iop, qT, qV, qW, qX, qY, qZ, zA, Option.getD_some, zB, zC, zD, zE, zF, zG, zH, zJ, zK, zM, zN, Step1.ofO, lenC, callF, zP, zR, zS, zT, zV, cond_true, cond_false, decide_true, decide_false, beq_self_eq_true, Bool.false_eq_true, Bool.true_eq_false, zW, zX, zY, zZ, Bool.not_true, Bool.not_false, appC, copyC, yA, List.map_cons, List.map_nil, goInt]; rfl) ?_)
        refine .loopW (fun m e h => ∃ (i : Nat), i ≤ xs.length ∧ m = xs.length - i ∧ e = [.slice aa xs.length ac, .slice ba ys.length bc, unk, unk, unk, .int .i64 (i : Nat), unk, unk, unk, unk, unk, unk, unk, unk, unk, unk, unk, unk, unk, unk, unk, unk, unk, unk, unk, unk, unk, unk, unk, unk] ∧ h = H ∧ lessL (xs.drop i) (ys.drop i) = lessL xs ys) xs.length
          [.slice aa xs.length ac, .slice ba ys.length bc, unk, unk, unk, .int .i64 0, unk, unk, unk, unk, unk, unk, unk, unk, unk, unk, unk, unk, unk, unk, unk, unk, unk, unk, unk, unk, unk, unk, unk, unk] (by repeat (first | exact WkL.nil | refine WkL.same ?_ | refine WkL.any ?_)) ⟨0, Nat.zero_le _, rfl, rfl, rfl, rfl⟩ ?_
        rintro m e h ⟨i, hi, rfl, rfl, rfl, heq⟩
        refine setup25.headW2 (by kernel_rfl) (by simp only [List.map_cons, List.map_nil]; rfl) (by simp only [qB, qC, qD, qE, qF, qG, qH, qJ, qK, qM, qN, qP, iop1, qR, qS, iop, qT, qV, qW, qX, qY, qZ, zA, Option.getD_some, zB, zC, zD, zE, zF, zG, zH, zJ, zK, zM, zN, Step1.ofO, lenC, callF, zP, zR, zS, zT, zV, cond_true, cond_false, decide_true, decide_false, beq_self_eq_true, Bool.false_eq_true, Bool.true_eq_false, zW, zX, zY, zZ, Bool.not_true, Bool.not_false, appC, copyC, yA, List.map_cons, List.map_nil, goInt, lenB_slice u22]; rfl) (by kernel_rfl) (by simp only [qT, qX, qY, Option.getD_some]; rfl) (fun ht2 => ?_) (fun ht2 => ?_)
        · have hlt : i < xs.length := by simpa using ht2
          obtain ⟨x, hxi⟩ : ∃ x, xs[i]? = some x := ⟨_, List.getElem?_eq_getElem hlt⟩
          obtain ⟨y, hyi⟩ : ∃ y, ys[i]? = some y := ⟨_, List.getElem?_eq_getElem (by omega)⟩
          obtain ⟨p, hp, hld⟩ := read_int el22 hx hxi (k := .i64)
          obtain ⟨q, hq, hld2⟩ := read_int el22 hy hyi (k := .i64)
          rw [lessL_drop hxi hyi] at heq
          refine .blockW (setup25.drawE pure25 0 (lo := []) (by kernel_rfl) (by kernel_rfl) (by kernel_rfl) (by kernel_rfl) (by kernel_rfl) (by kernel_rfl) (by kernel_rfl) (by simp only [List.map_cons, List.map_nil]; rfl) (by simp only [qB, qC, qD, qE, qF, qG, qH, qJ, qK, qM, qN, qP, iop1, qR, qS, iop, qT, qV, qW, qX, qY, qZ, zA, Option.getD_some, zB, zC, zD, zE, zF, zG, zH, zJ, zK, zM, zN, Step1.ofO, lenC, callF, zP, zR, zS, zT, zV, cond_true, cond_false, decide_true, decide_false, beq_self_eq_true, Bool.false_eq_true, Bool.true_eq_false, zW, zX, zY, zZ, Bool.not_true, Bool.not_false, appC, copyC, yA, List.map_cons, List.map_nil, goInt, hp, hld, hq, hld2]; rfl) (by kernel_rfl) (.cond (by kernel_rfl) (by simp only [qT, qX, qY, Option.getD_some]; rfl) (fun ht3 => ?_) (fun ht3 => .skip (BT.go ?_))))
          · have hne : x ≠ y := by simpa using ht3
            rw [if_neg hne] at heq
            exact setup25.drawE pure25 0 (lo := []) (by kernel_rfl) (by kernel_rfl) (by kernel_rfl) (by kernel_rfl) (by kernel_rfl) (by kernel_rfl) (by kernel_rfl) (by simp only [List.map_cons, List.map_nil]; rfl) (by simp only [qB, qC, qD, qE, qF, qG, qH, qJ, qK, qM, qN, qP, iop1, qR, qS, iop, qT, qV, qW, qX, qY, qZ, zA, Option.getD_some, zB, zC, zD, zE, zF, zG, zH, zJ, zK, zM, zN, Step1.ofO, lenC, callF, zP, zR, zS, zT, zV, cond_true, cond_false, decide_true, decide_false, beq_self_eq_true, Bool.false_eq_true, Bool.true_eq_false, zW, zX, zY, zZ, Bool.not_true, Bool.not_false, appC, copyC, yA, List.map_cons, List.map_nil, goInt, hp, hld, hq, hld2]; rfl) (by kernel_rfl) (.ret (BT.rt (LQ.rt (ST.rt ⟨.inr rfl, ires_tmp rfl (by simp only [qX, qY, heq]), .refl _⟩))))
          · have hxy : x = y := by simpa using ht3
            rw [if_pos hxy] at heq
            exact setup25.regZ 0 (by kernel_rfl) (by simp only [List.map_cons, List.map_nil]; rfl) (by simp only [qB, qC, qD, qE, qF, qG, qH, qJ, qK, qM, qN, qP, iop1, qR, qS, iop, qT, qV, qW, qX, qY, qZ, zA, Option.getD_some, zB, zC, zD, zE, zF, zG, zH, zJ, zK, zM, zN, Step1.ofO, lenC, callF, zP, zR, zS, zT, zV, cond_true, cond_false, decide_true, decide_false, beq_self_eq_true, Bool.false_eq_true, Bool.true_eq_false, zW, zX, zY, zZ, Bool.not_true, Bool.not_false, appC, copyC, yA, List.map_cons, List.map_nil, goInt, wrap_succ hlt hxl]; rfl) (LQ.go (xs.length - (i + 1)) (by omega) (by repeat (first | exact WkL.nil | refine WkL.same ?_ | refine WkL.any ?_)) ⟨i + 1, by omega, rfl, rfl, rfl, heq⟩)
        · have hge : i = xs.length := by simp at ht2; omega
          rw [hge, lessL_end] at heq
          exact ST.go (setup25.regE 0 (by kernel_rfl) (by simp only [List.map_cons, List.map_nil]; rfl) (by simp only [qB, qC, qD, qE, qF, qG, qH, qJ, qK, qM, qN, qP, iop1, qR, qS, iop, qT, qV, qW, qX, qY, qZ, zA, Option.getD_some, zB, zC, zD, zE, zF, zG, zH, zJ, zK, zM, zN, Step1.ofO, lenC, callF, zP, zR, zS, zT, zV, cond_true, cond_false, decide_true, decide_false, beq_self_eq_true, Bool.false_eq_true, Bool.true_eq_false, zW, zX, zY, zZ, Bool.not_true, Bool.not_false, appC, copyC, yA, List.map_cons, List.map_nil, goInt]; rfl) (.ret ⟨.inr rfl, ires_tmp rfl (by simp only [qX, qY, ← heq]), .refl _⟩))
      · cases hk
    · cases hk
  · cases hk
theorem e51 : enters Tryz.prog 51 = true := by kernel_rfl
end Go.Proofs.YtpdlblofcdcikaaGreatDoor
