/- More contracts: comparisons, powers, the law's small functions. Conditions: none. -/
import Derived.Test.YtpdlblofcdcikaaGreatDoorG4
set_option linter.unusedSimpArgs false
set_option linter.unusedVariables false
namespace Go.Proofs.YtpdlblofcdcikaaGreatDoor
open Go.Idl

/-! 173: isNaN -/
noncomputable def k173 (args : List Value) (_ : IH) : Option Value := match args with
  | [.int .i64 _] => some (.bool false)
  | _ => none
noncomputable def nat27 : Nats := addNat nat26 173 k173
theorem pure26 : NatPure nat26 := addNat_pure pure25
set_option maxRecDepth 10000 in
theorem setup27 : Setup Tryz.prog good nat27 (globG 3) := by
  refine plainN setup26 k173 Tryz.func173 rfl rfl fun args H v hk => ?_
  unfold k173 at hk
  split at hk
  · rename_i z
    cases hk
    refine ⟨rfl, ?_⟩
    show Holds _ _ false _ [.int .i64 z, undef, undef, undef, undef, undef] H _
    refine setup26.regE 0 (by kernel_rfl) (by simp only [List.map_cons, List.map_nil]; rfl) (by simp only [qB, qC, qD, qE, qF, qG, qH, qJ, qK, qM, qN, qP, iop1, qR, qS, iop, qT, qV, qW, qX, qY, qZ, zA, Option.getD_some, zB, zC, zD, zE, zF, zG, zH, zJ, zK, zM, zN, Step1.ofO, lenC, callF, zP, zR, zS, zT, zV, cond_true, cond_false, decide_true, decide_false, beq_self_eq_true, Bool.false_eq_true, Bool.true_eq_false, zW, zX, zY, zZ, Bool.not_true, Bool.not_false, appC, copyC, yA, List.map_cons, List.map_nil, goInt]; rfl) ?_
    exact setup26.regE 0 (by kernel_rfl) (by simp only [List.map_cons, List.map_nil]; rfl) (by simp only [qB, qC, qD, qE, qF, qG, qH, qJ, qK, qM, qN, qP, iop1, qR, qS, iop, qT, qV, qW, qX, qY, qZ, zA, Option.getD_some, zB, zC, zD, zE, zF, zG, zH, zJ, zK, zM, zN, Step1.ofO, lenC, callF, zP, zR, zS, zT, zV, cond_true, cond_false, decide_true, decide_false, beq_self_eq_true, Bool.false_eq_true, Bool.true_eq_false, zW, zX, zY, zZ, Bool.not_true, Bool.not_false, appC, copyC, yA, List.map_cons, List.map_nil, goInt]; rfl) (.ret ⟨.inr rfl, ires_tmp rfl (by simp only [qX, qY, bne_self_eq_false]), .refl _⟩)
  · cases hk
theorem e173 : enters Tryz.prog 173 = true := by kernel_rfl
theorem n173 : nat27 173 = some (ofK k173) := rfl

/-! 144: cmp.Compare -/
def cmpI (x y : Int) : Int := if x < y then -1 else if y < x then 1 else 0
noncomputable def k144 (args : List Value) (_ : IH) : Option Value := match args with
  | [.int .i64 x, .int .i64 y] => some (.int .i64 (cmpI x y))
  | _ => none
noncomputable def nat28 : Nats := addNat nat27 144 k144
theorem pure27 : NatPure nat27 := addNat_pure pure26
set_option maxRecDepth 10000 in
theorem setup28 : Setup Tryz.prog good nat28 (globG 3) := by
  refine plainN setup27 k144 Tryz.func144 rfl rfl fun args H v hk => ?_
  unfold k144 at hk
  split at hk
  · rename_i x y
    cases hk
    refine ⟨rfl, ?_⟩
    show Holds _ _ false _ [.int .i64 x, .int .i64 y, undef, undef, undef, undef, undef, undef, undef, undef, undef, undef, undef, undef, undef, undef, undef, undef, undef, undef] H _
    refine setup27.regE 0 (by kernel_rfl) (by simp only [List.map_cons, List.map_nil]; rfl) (by simp only [qB, qC, qD, qE, qF, qG, qH, qJ, qK, qM, qN, qP, iop1, qR, qS, iop, qT, qV, qW, qX, qY, qZ, zA, Option.getD_some, zB, zC, zD, zE, zF, zG, zH, zJ, zK, zM, zN, Step1.ofO, lenC, callF, zP, zR, zS, zT, zV, cond_true, cond_false, decide_true, decide_false, beq_self_eq_true, Bool.false_eq_true, Bool.true_eq_false, zW, zX, zY, zZ, Bool.not_true, Bool.not_false, appC, copyC, yA, List.map_cons, List.map_nil, goInt]; rfl) ?_
    refine setup27.regE 0 (by kernel_rfl) (by simp only [List.map_cons, List.map_nil]; rfl) (by simp only [qB, qC, qD, qE, qF, qG, qH, qJ, qK, qM, qN, qP, iop1, qR, qS, iop, qT, qV, qW, qX, qY, qZ, zA, Option.getD_some, zB, zC, zD, zE, zF, zG, zH, zJ, zK, zM, zN, Step1.ofO, lenC, callF, zP, zR, zS, zT, zV, cond_true, cond_false, decide_true, decide_false, beq_self_eq_true, Bool.false_eq_true, Bool.true_eq_false, zW, zX, zY, zZ, Bool.not_true, Bool.not_false, appC, copyC, yA, List.map_cons, List.map_nil, goInt, e173, enter_k n173, ofK, k173]; rfl) ?_
    refine setup27.regE 0 (by kernel_rfl) (by simp only [List.map_cons, List.map_nil]; rfl) (by simp only [qB, qC, qD, qE, qF, qG, qH, qJ, qK, qM, qN, qP, iop1, qR, qS, iop, qT, qV, qW, qX, qY, qZ, zA, Option.getD_some, zB, zC, zD, zE, zF, zG, zH, zJ, zK, zM, zN, Step1.ofO, lenC, callF, zP, zR, zS, zT, zV, cond_true, cond_false, decide_true, decide_false, beq_self_eq_true, Bool.false_eq_true, Bool.true_eq_false, zW, zX, zY, zZ, Bool.not_true, Bool.not_false, appC, copyC, yA, List.map_cons, List.map_nil, goInt, e173, enter_k n173, ofK, k173]; rfl) ?_
    refine setup27.ifW (by kernel_rfl) (by simp only [List.map_cons, List.map_nil]; rfl) (by simp only [qB, qC, qD, qE, qF, qG, qH, qJ, qK, qM, qN, qP, iop1, qR, qS, iop, qT, qV, qW, qX, qY, qZ, zA, Option.getD_some, zB, zC, zD, zE, zF, zG, zH, zJ, zK, zM, zN, Step1.ofO, lenC, callF, zP, zR, zS, zT, zV, cond_true, cond_false, decide_true, decide_false, beq_self_eq_true, Bool.false_eq_true, Bool.true_eq_false, zW, zX, zY, zZ, Bool.not_true, Bool.not_false, appC, copyC, yA, List.map_cons, List.map_nil, goInt]; rfl) (by kernel_rfl) (by simp only [qT, qX, qY, Option.getD_some]; rfl) (fun ht => by cases ht) (fun _ => .skip (ST.go ?_))
    refine setup27.ifW (by kernel_rfl) (by simp only [List.map_cons, List.map_nil]; rfl) (by simp only [qB, qC, qD, qE, qF, qG, qH, qJ, qK, qM, qN, qP, iop1, qR, qS, iop, qT, qV, qW, qX, qY, qZ, zA, Option.getD_some, zB, zC, zD, zE, zF, zG, zH, zJ, zK, zM, zN, Step1.ofO, lenC, callF, zP, zR, zS, zT, zV, cond_true, cond_false, decide_true, decide_false, beq_self_eq_true, Bool.false_eq_true, Bool.true_eq_false, zW, zX, zY, zZ, Bool.not_true, Bool.not_false, appC, copyC, yA, List.map_cons, List.map_nil, goInt]; rfl) (by kernel_rfl) (by simp only [qT, qX, qY, Option.getD_some]; rfl) (fun ht => by cases ht) (fun _ => .skip (ST.go ?_))
    refine setup27.ifW (by kernel_rfl) (by simp only [List.map_cons, List.map_nil]; rfl) (by simp only [qB, qC, qD, qE, qF, qG, qH, qJ, qK, qM, qN, qP, iop1, qR, qS, iop, qT, qV, qW, qX, qY, qZ, zA, Option.getD_some, zB, zC, zD, zE, zF, zG, zH, zJ, zK, zM, zN, Step1.ofO, lenC, callF, zP, zR, zS, zT, zV, cond_true, cond_false, decide_true, decide_false, beq_self_eq_true, Bool.false_eq_true, Bool.true_eq_false, zW, zX, zY, zZ, Bool.not_true, Bool.not_false, appC, copyC, yA, List.map_cons, List.map_nil, goInt]; rfl) (by kernel_rfl) (by simp only [qT, qX, qY, Option.getD_some]; rfl) (fun ht => ?_) (fun ht => .skip (ST.go ?_))
    · have h1 : cmpI x y = -1 := by unfold cmpI; rw [if_pos (by simpa using ht)]
      exact setup27.regE 0 (by kernel_rfl) (by simp only [List.map_cons, List.map_nil]; rfl) (by simp only [qB, qC, qD, qE, qF, qG, qH, qJ, qK, qM, qN, qP, iop1, qR, qS, iop, qT, qV, qW, qX, qY, qZ, zA, Option.getD_some, zB, zC, zD, zE, zF, zG, zH, zJ, zK, zM, zN, Step1.ofO, lenC, callF, zP, zR, zS, zT, zV, cond_true, cond_false, decide_true, decide_false, beq_self_eq_true, Bool.false_eq_true, Bool.true_eq_false, zW, zX, zY, zZ, Bool.not_true, Bool.not_false, appC, copyC, yA, List.map_cons, List.map_nil, goInt]; rfl) (.ret (ST.rt ⟨.inr rfl, ires_tmp rfl (by simp only [qX, qY, h1]), .refl _⟩))
    refine setup27.ifW (by kernel_rfl) (by simp only [List.map_cons, List.map_nil]; rfl) (by simp only [qB, qC, qD, qE, qF, qG, qH, qJ, qK, qM, qN, qP, iop1, qR, qS, iop, qT, qV, qW, qX, qY, qZ, zA, Option.getD_some, zB, zC, zD, zE, zF, zG, zH, zJ, zK, zM, zN, Step1.ofO, lenC, callF, zP, zR, zS, zT, zV, cond_true, cond_false, decide_true, decide_false, beq_self_eq_true, Bool.false_eq_true, Bool.true_eq_false, zW, zX, zY, zZ, Bool.not_true, Bool.not_false, appC, copyC, yA, List.map_cons, List.map_nil, goInt]; rfl) (by kernel_rfl) (by simp only [qT, qX, qY, Option.getD_some]; rfl) (fun ht2 => ?_) (fun ht2 => .skip (ST.go ?_))
    · have h1 : cmpI x y = 1 := by unfold cmpI; rw [if_neg (by simp at ht; omega), if_pos (by simpa using ht2)]
      exact setup27.regE 0 (by kernel_rfl) (by simp only [List.map_cons, List.map_nil]; rfl) (by simp only [qB, qC, qD, qE, qF, qG, qH, qJ, qK, qM, qN, qP, iop1, qR, qS, iop, qT, qV, qW, qX, qY, qZ, zA, Option.getD_some, zB, zC, zD, zE, zF, zG, zH, zJ, zK, zM, zN, Step1.ofO, lenC, callF, zP, zR, zS, zT, zV, cond_true, cond_false, decide_true, decide_false, beq_self_eq_true, Bool.false_eq_true, Bool.true_eq_false, zW, zX, zY, zZ, Bool.not_true, Bool.not_false, appC, copyC, yA, List.map_cons, List.map_nil, goInt]; rfl) (.ret (ST.rt ⟨.inr rfl, ires_tmp rfl (by simp only [qX, qY, h1]), .refl _⟩))
    · have h1 : cmpI x y = 0 := by unfold cmpI; rw [if_neg (by simp at ht; omega), if_neg (by simp at ht2; omega)]
      exact setup27.regE 0 (by kernel_rfl) (by simp only [List.map_cons, List.map_nil]; rfl) (by simp only [qB, qC, qD, qE, qF, qG, qH, qJ, qK, qM, qN, qP, iop1, qR, qS, iop, qT, qV, qW, qX, qY, qZ, zA, Option.getD_some, zB, zC, zD, zE, zF, zG, zH, zJ, zK, zM, zN, Step1.ofO, lenC, callF, zP, zR, zS, zT, zV, cond_true, cond_false, decide_true, decide_false, beq_self_eq_true, Bool.false_eq_true, Bool.true_eq_false, zW, zX, zY, zZ, Bool.not_true, Bool.not_false, appC, copyC, yA, List.map_cons, List.map_nil, goInt]; rfl) (.ret ⟨.inr rfl, ires_tmp rfl (by simp only [qX, qY, h1]), .refl _⟩)
  · cases hk
theorem e144 : enters Tryz.prog 144 = true := by kernel_rfl
theorem n144 : nat28 144 = some (ofK k144) := rfl

/-! 96: slices.Compare -/
def cmpL (x y : List Int) : Int := if x = y then 0 else if lessL x y then -1 else 1
noncomputable def k96 (args : List Value) (H : IH) : Option Value := match args with
  | [a, b] => (match intsOf H a, intsOf H b with
    | some x, some y => if x.length = y.length then some (.int .i64 (cmpL x y)) else none
    | _, _ => none)
  | _ => none
theorem k96_eq {a b : Value} {H : IH} {xs ys : List Int} (hx : intsOf H a = some xs) (hy : intsOf H b = some ys) (hl : xs.length = ys.length) : k96 [a, b] H = some (.int .i64 (cmpL xs ys)) := by unfold k96; simp only [hx, hy, if_pos hl]
noncomputable def nat29 : Nats := addNat nat28 96 k96
theorem pure28 : NatPure nat28 := addNat_pure pure27
set_option maxRecDepth 10000 in
theorem setup29 : Setup Tryz.prog good nat29 (globG 3) := by
  refine plainN setup28 k96 Tryz.func96 rfl rfl fun args H v hk => ?_
  unfold k96 at hk
  split at hk
  · split at hk
    · rename_i a b _ _ xs ys hx hy
      split at hk
      · rename_i hl
        cases hk
        obtain ⟨aa, ac, rfl, hxl, _⟩ := intsOf_inv hx
        obtain ⟨ba, bc, rfl, hyl, _⟩ := intsOf_inv hy
        refine ⟨rfl, ?_⟩
        show Holds _ _ false _ [.slice aa xs.length ac, .slice ba ys.length bc, undef, undef, undef, undef, undef, undef, undef, undef, undef, undef, undef, undef, undef, undef, undef, undef, undef, undef, undef, undef, undef, undef, undef, undef, undef, undef, undef, undef, undef, undef, undef, undef, undef, undef] H _
        refine setup28.regE 0 (by kernel_rfl) (by simp only [List.map_cons, List.map_nil]; rfl) (by simp only [qB, qC, qD, qE, qF, qG, qH, qJ, qK, qM, qN, qP, iop1, qR, qS, iop, qT, qV, qW, qX, qY, qZ, zA, Option.getD_some, zB, zC, zD, zE, zF, zG, zH, zJ, zK, zM, zN, Step1.ofO, lenC, callF, zP, zR, zS, zT, zV, cond_true, cond_false, decide_true, decide_false, beq_self_eq_true, Bool.false_eq_true, Bool.true_eq_false, zW, zX, zY, zZ, Bool.not_true, Bool.not_false, appC, copyC, yA, List.map_cons, List.map_nil, goInt]; rfl) ?_
        refine .seqW (setup28.regE 0 (by kernel_rfl) (by simp only [List.map_cons, List.map_nil]; rfl) (by simp only [qB, qC, qD, qE, qF, qG, qH, qJ, qK, qM, qN, qP, iop1, qR, qS, iop, qT, qV, qW, qX, qY, qZ, zA, Option.getD_some, zB, zC, zD, zE, zF, zG, zH, zJ, zK, zM, zN, Step1.ofO, lenC, callF, zP, zR, zS, zT, zV, cond_true, cond_false, decide_true, decide_false, beq_self_eq_true, Bool.false_eq_true, Bool.true_eq_false, zW, zX, zY, zZ, Bool.not_true, Bool.not_false, appC, copyC, yA, List.map_cons, List.map_nil, goInt, lenB_slice u22]; rfl) ?_)
        refine .loopW (fun m e h => ∃ (i : Nat), i ≤ xs.length ∧ m = xs.length - i ∧ e = [.slice aa xs.length ac, .slice ba ys.length bc, unk, unk, unk, unk, unk, unk, unk, .slice aa xs.length ac, .int .i64 (xs.length : Nat), .int .i64 (i : Nat), unk, unk, unk, unk, unk, unk, unk, unk, unk, unk, unk, unk, unk, unk, unk, unk, unk, unk, unk, unk, unk, unk, unk, unk] ∧ h = H ∧ lessL (xs.drop i) (ys.drop i) = lessL xs ys ∧ xs.take i = ys.take i) xs.length
          [.slice aa xs.length ac, .slice ba ys.length bc, unk, unk, unk, unk, unk, unk, unk, .slice aa xs.length ac, .int .i64 (xs.length : Nat), .int .i64 0, unk, unk, unk, unk, unk, unk, unk, unk, unk, unk, unk, unk, unk, unk, unk, unk, unk, unk, unk, unk, unk, unk, unk, unk] (by repeat (first | exact WkL.nil | refine WkL.same ?_ | refine WkL.any ?_)) ⟨0, Nat.zero_le _, rfl, rfl, rfl, rfl, rfl⟩ ?_
        rintro m e h ⟨i, hi, rfl, rfl, rfl, heq, htk⟩
        refine setup28.headW (by kernel_rfl) (by simp only [List.map_cons, List.map_nil]; rfl) (by simp only [qB, qC, qD, qE, qF, qG, qH, qJ, qK, qM, qN, qP, iop1, qR, qS, iop, qT, qV, qW, qX, qY, qZ, zA, Option.getD_some, zB, zC, zD, zE, zF, zG, zH, zJ, zK, zM, zN, Step1.ofO, lenC, callF, zP, zR, zS, zT, zV, cond_true, cond_false, decide_true, decide_false, beq_self_eq_true, Bool.false_eq_true, Bool.true_eq_false, zW, zX, zY, zZ, Bool.not_true, Bool.not_false, appC, copyC, yA, List.map_cons, List.map_nil, goInt]; rfl) (by kernel_rfl) (by simp only [qT, qX, qY, Option.getD_some]; rfl) (fun ht2 => ?_) (fun ht2 => ?_)
        · have hlt : i < xs.length := by simpa using ht2
          obtain ⟨x, hxi⟩ : ∃ x, xs[i]? = some x := ⟨_, List.getElem?_eq_getElem hlt⟩
          obtain ⟨y, hyi⟩ : ∃ y, ys[i]? = some y := ⟨_, List.getElem?_eq_getElem (by omega)⟩
          obtain ⟨p, hp, hld⟩ := read_int el22 hx hxi (k := .i64)
          obtain ⟨q, hq, hld2⟩ := read_int el22 hy hyi (k := .i64)
          rw [lessL_drop hxi hyi] at heq
          refine .blockW (setup28.regE 0 (by kernel_rfl) (by simp only [List.map_cons, List.map_nil]; rfl) (by simp only [qB, qC, qD, qE, qF, qG, qH, qJ, qK, qM, qN, qP, iop1, qR, qS, iop, qT, qV, qW, qX, qY, qZ, zA, Option.getD_some, zB, zC, zD, zE, zF, zG, zH, zJ, zK, zM, zN, Step1.ofO, lenC, callF, zP, zR, zS, zT, zV, cond_true, cond_false, decide_true, decide_false, beq_self_eq_true, Bool.false_eq_true, Bool.true_eq_false, zW, zX, zY, zZ, Bool.not_true, Bool.not_false, appC, copyC, yA, List.map_cons, List.map_nil, goInt, hp, hld]; rfl) ?_)
          have hge : decide ((ys.length : Int) ≤ (i : Int)) = false := by simp; omega
          refine setup28.ifW (by kernel_rfl) (by simp only [List.map_cons, List.map_nil]; rfl) (by simp only [qB, qC, qD, qE, qF, qG, qH, qJ, qK, qM, qN, qP, iop1, qR, qS, iop, qT, qV, qW, qX, qY, qZ, zA, Option.getD_some, zB, zC, zD, zE, zF, zG, zH, zJ, zK, zM, zN, Step1.ofO, lenC, callF, zP, zR, zS, zT, zV, cond_true, cond_false, decide_true, decide_false, beq_self_eq_true, Bool.false_eq_true, Bool.true_eq_false, zW, zX, zY, zZ, Bool.not_true, Bool.not_false, appC, copyC, yA, List.map_cons, List.map_nil, goInt, lenB_slice u22]; rfl) (by kernel_rfl) (by simp only [qT, qX, qY, Option.getD_some]; rfl) (fun ht3 => by rw [hge] at ht3; cases ht3) (fun ht3 => .skip (ST.go ?_))
          refine setup28.regE 0 (by kernel_rfl) (by simp only [List.map_cons, List.map_nil]; rfl) (by simp only [qB, qC, qD, qE, qF, qG, qH, qJ, qK, qM, qN, qP, iop1, qR, qS, iop, qT, qV, qW, qX, qY, qZ, zA, Option.getD_some, zB, zC, zD, zE, zF, zG, zH, zJ, zK, zM, zN, Step1.ofO, lenC, callF, zP, zR, zS, zT, zV, cond_true, cond_false, decide_true, decide_false, beq_self_eq_true, Bool.false_eq_true, Bool.true_eq_false, zW, zX, zY, zZ, Bool.not_true, Bool.not_false, appC, copyC, yA, List.map_cons, List.map_nil, goInt, hq, hld2]; rfl) ?_
          refine setup28.regE 0 (by kernel_rfl) (by simp only [List.map_cons, List.map_nil]; rfl) (by simp only [qB, qC, qD, qE, qF, qG, qH, qJ, qK, qM, qN, qP, iop1, qR, qS, iop, qT, qV, qW, qX, qY, qZ, zA, Option.getD_some, zB, zC, zD, zE, zF, zG, zH, zJ, zK, zM, zN, Step1.ofO, lenC, callF, zP, zR, zS, zT, zV, cond_true, cond_false, decide_true, decide_false, beq_self_eq_true, Bool.false_eq_true, Bool.true_eq_false, zW, zX, zY, zZ, Bool.not_true, Bool.not_false, appC, copyC, yA, List.map_cons, List.map_nil, goInt, e144, enter_k n144, ofK, k144]; rfl) ?_
          refine setup28.ifZ (by kernel_rfl) (by simp only [List.map_cons, List.map_nil]; rfl) (by simp only [qB, qC, qD, qE, qF, qG, qH, qJ, qK, qM, qN, qP, iop1, qR, qS, iop, qT, qV, qW, qX, qY, qZ, zA, Option.getD_some, zB, zC, zD, zE, zF, zG, zH, zJ, zK, zM, zN, Step1.ofO, lenC, callF, zP, zR, zS, zT, zV, cond_true, cond_false, decide_true, decide_false, beq_self_eq_true, Bool.false_eq_true, Bool.true_eq_false, zW, zX, zY, zZ, Bool.not_true, Bool.not_false, appC, copyC, yA, List.map_cons, List.map_nil, goInt]; rfl) (by kernel_rfl) (by simp only [qT, qX, qY, Option.getD_some]; rfl) (fun ht4 => ?_) (fun ht4 => .skip (BT.go ?_))
          · have hc : cmpI x y ≠ 0 := by simpa using ht4
            have hne : x ≠ y := fun e => hc (by subst e; simp [cmpI])
            rw [if_neg hne] at heq
            have hne2 : xs ≠ ys := fun e => by subst e; rw [hxi] at hyi; cases hyi; exact hne rfl
            have hr : cmpL xs ys = cmpI x y := by
              unfold cmpL cmpI
              rw [if_neg hne2, ← heq]
              by_cases h1 : x < y
              · simp [h1]
              · have h2 : y < x := by omega
                simp [h1, h2]
            exact setup28.regE 0 (by kernel_rfl) (by simp only [List.map_cons, List.map_nil]; rfl) (by simp only [qB, qC, qD, qE, qF, qG, qH, qJ, qK, qM, qN, qP, iop1, qR, qS, iop, qT, qV, qW, qX, qY, qZ, zA, Option.getD_some, zB, zC, zD, zE, zF, zG, zH, zJ, zK, zM, zN, Step1.ofO, lenC, callF, zP, zR, zS, zT, zV, cond_true, cond_false, decide_true, decide_false, beq_self_eq_true, Bool.false_eq_true, Bool.true_eq_false, zW, zX, zY, zZ, Bool.not_true, Bool.not_false, appC, copyC, yA, List.map_cons, List.map_nil, goInt]; rfl) (.ret (BT.rt (LQ.rt (ST.rt ⟨.inr rfl, ires_tmp rfl (by simp only [qX, qY, hr]), .refl _⟩))))
          · have hxy : x = y := by
              have hc : cmpI x y = 0 := by simpa using ht4
              unfold cmpI at hc
              split at hc
              · cases hc
              · split at hc
                · cases hc
                · omega
            rw [if_pos hxy] at heq
            exact setup28.regZ 0 (by kernel_rfl) (by simp only [List.map_cons, List.map_nil]; rfl) (by simp only [qB, qC, qD, qE, qF, qG, qH, qJ, qK, qM, qN, qP, iop1, qR, qS, iop, qT, qV, qW, qX, qY, qZ, zA, Option.getD_some, zB, zC, zD, zE, zF, zG, zH, zJ, zK, zM, zN, Step1.ofO, lenC, callF, zP, zR, zS, zT, zV, cond_true, cond_false, decide_true, decide_false, beq_self_eq_true, Bool.false_eq_true, Bool.true_eq_false, zW, zX, zY, zZ, Bool.not_true, Bool.not_false, appC, copyC, yA, List.map_cons, List.map_nil, goInt, wrap_succ hlt hxl]; rfl) (LQ.go (xs.length - (i + 1)) (by omega) (by repeat (first | exact WkL.nil | refine WkL.same ?_ | refine WkL.any ?_)) ⟨i + 1, by omega, rfl, rfl, rfl, heq, take_eq_succ hxi hyi htk hxy⟩)
        · have hge : i = xs.length := by simp at ht2; omega
          have he : xs = ys := by rw [hge, List.take_length, hl, List.take_length] at htk; exact htk
          have hc0 : cmpL xs ys = 0 := by unfold cmpL; rw [if_pos he]
          have hlt0 : decide ((xs.length : Int) < (ys.length : Int)) = false := by simp; omega
          refine ST.go (setup28.ifW (by kernel_rfl) (by simp only [List.map_cons, List.map_nil]; rfl) (by simp only [qB, qC, qD, qE, qF, qG, qH, qJ, qK, qM, qN, qP, iop1, qR, qS, iop, qT, qV, qW, qX, qY, qZ, zA, Option.getD_some, zB, zC, zD, zE, zF, zG, zH, zJ, zK, zM, zN, Step1.ofO, lenC, callF, zP, zR, zS, zT, zV, cond_true, cond_false, decide_true, decide_false, beq_self_eq_true, Bool.false_eq_true, Bool.true_eq_false, zW, zX, zY, zZ, Bool.not_true, Bool.not_false, appC, copyC, yA, List.map_cons, List.map_nil, goInt, lenB_slice u22]; rfl) (by kernel_rfl) (by simp only [qT, qX, qY, Option.getD_some]; rfl) (fun ht5 => by rw [hlt0] at ht5; cases ht5) (fun ht5 => .skip (ST.go ?_)))
          exact setup28.regE 0 (by kernel_rfl) (by simp only [List.map_cons, List.map_nil]; rfl) (by simp only [qB, qC, qD, qE, qF, qG, qH, qJ, qK, qM, qN, qP, iop1, qR, qS, iop, qT, qV, qW, qX, qY, qZ, zA, Option.getD_some, zB, zC, zD, zE, zF, zG, zH, zJ, zK, zM, zN, Step1.ofO, lenC, callF, zP, zR, zS, zT, zV, cond_true, cond_false, decide_true, decide_false, beq_self_eq_true, Bool.false_eq_true, Bool.true_eq_false, zW, zX, zY, zZ, Bool.not_true, Bool.not_false, appC, copyC, yA, List.map_cons, List.map_nil, goInt]; rfl) (.ret ⟨.inr rfl, ires_tmp rfl (by simp only [qX, qY, hc0]), .refl _⟩)
      · cases hk
    · cases hk
  · cases hk
theorem e96 : enters Tryz.prog 96 = true := by kernel_rfl

/-! 108, 114: power -/
noncomputable def kPow (args : List Value) (_ : IH) : Option Value := match args with
  | [.int .i64 a, .int .i64 k] => if 0 ≤ a ∧ a ≤ 8 ∧ 0 ≤ k ∧ k ≤ 12 then some (.int .i64 ((a.toNat ^ k.toNat : Nat) : Int)) else none
  | _ => none
theorem pow_le {a k : Nat} (ha : a ≤ 8) (hk : k ≤ 12) : a ^ k ≤ 68719476736 := by
  have h1 : a ^ k ≤ 8 ^ k := Nat.pow_le_pow_left ha k
  have h2 : 8 ^ k ≤ 8 ^ 12 := Nat.pow_le_pow_right (by omega) hk
  have h3 : (8 : Nat) ^ 12 = 68719476736 := by decide
  omega
theorem kPow_eq {a k : Nat} {H : IH} (ha : a ≤ 8) (hk : k ≤ 12) : kPow [.int .i64 (a : Int), .int .i64 (k : Int)] H = some (.int .i64 ((a ^ k : Nat) : Int)) := by
  unfold kPow; simp only; rw [if_pos (by omega)]; simp only [Int.toNat_natCast]
theorem wrap_pow {a i k : Nat} (ha : a ≤ 8) (hk : k ≤ 12) (hi : i < k) : IntKind.i64.wrap (((a ^ i : Nat) : Int) * (a : Int)) = ((a ^ (i + 1) : Nat) : Int) := by
  have h1 := pow_le ha (show i + 1 ≤ 12 by omega)
  have h2 : ((a ^ i : Nat) : Int) * (a : Int) = ((a ^ (i + 1) : Nat) : Int) := by rw [Nat.pow_succ]; simp
  rw [h2, wrap_id (by omega) (by omega)]
noncomputable def nat30 : Nats := addNat nat29 108 kPow
theorem pure29 : NatPure nat29 := addNat_pure pure28
set_option maxRecDepth 10000 in
theorem setup30 : Setup Tryz.prog good nat30 (globG 3) := by
  refine plainN setup29 kPow Tryz.func108 rfl rfl fun args H v hk => ?_
  unfold kPow at hk
  split at hk
  · rename_i a k
    split at hk
    · rename_i hc
      obtain ⟨h1, h2, h3, h4⟩ := hc
      cases hk
      obtain ⟨a, rfl⟩ := Int.eq_ofNat_of_zero_le h1
      obtain ⟨k, rfl⟩ := Int.eq_ofNat_of_zero_le h3
      refine ⟨rfl, ?_⟩
      simp only [Int.toNat_natCast]
      show Holds _ _ false _ [.int .i64 (a : Int), .int .i64 (k : Int), undef, undef, undef, undef, undef, undef, undef, undef, undef, undef, undef, undef] H _
      refine setup29.regE 0 (by kernel_rfl) (by simp only [List.map_cons, List.map_nil]; rfl) (by simp only [qB, qC, qD, qE, qF, qG, qH, qJ, qK, qM, qN, qP, iop1, qR, qS, iop, qT, qV, qW, qX, qY, qZ, zA, Option.getD_some, zB, zC, zD, zE, zF, zG, zH, zJ, zK, zM, zN, Step1.ofO, lenC, callF, zP, zR, zS, zT, zV, cond_true, cond_false, decide_true, decide_false, beq_self_eq_true, Bool.false_eq_true, Bool.true_eq_false, zW, zX, zY, zZ, Bool.not_true, Bool.not_false, appC, copyC, yA, List.map_cons, List.map_nil, goInt]; rfl) ?_
      refine setup29.regE 0 (by kernel_rfl) (by simp only [List.map_cons, List.map_nil]; rfl) (by simp only [qB, qC, qD, qE, qF, qG, qH, qJ, qK, qM, qN, qP, iop1, qR, qS, iop, qT, qV, qW, qX, qY, qZ, zA, Option.getD_some, zB, zC, zD, zE, zF, zG, zH, zJ, zK, zM, zN, Step1.ofO, lenC, callF, zP, zR, zS, zT, zV, cond_true, cond_false, decide_true, decide_false, beq_self_eq_true, Bool.false_eq_true, Bool.true_eq_false, zW, zX, zY, zZ, Bool.not_true, Bool.not_false, appC, copyC, yA, List.map_cons, List.map_nil, goInt]; rfl) ?_
      refine .seqW (setup29.regE 0 (by kernel_rfl) (by simp only [List.map_cons, List.map_nil]; rfl) (by simp only [qB, qC, qD, qE, qF, qG, qH, qJ, qK, qM, qN, qP, iop1, qR, qS, iop, qT, qV, qW, qX, qY, qZ, zA, Option.getD_some, zB, zC, zD, zE, zF, zG, zH, zJ, zK, zM, zN, Step1.ofO, lenC, callF, zP, zR, zS, zT, zV, cond_true, cond_false, decide_true, decide_false, beq_self_eq_true, Bool.false_eq_true, Bool.true_eq_false, zW, zX, zY, zZ, Bool.not_true, Bool.not_false, appC, copyC, yA, List.map_cons, List.map_nil, goInt]; rfl) ?_)
      refine .loopW (fun m e h => ∃ (i : Nat), i ≤ k ∧ m = k - i ∧ e = [.int .i64 (a : Int), .int .i64 (k : Int), unk, unk, unk, .int .i64 ((a ^ i : Nat) : Int), .int .i64 (k : Int), .int .i64 (i : Nat), unk, unk, unk, unk, unk, unk] ∧ h = H) k
        [.int .i64 (a : Int), .int .i64 (k : Int), unk, unk, unk, .int .i64 1, .int .i64 (k : Int), .int .i64 0, unk, unk, unk, unk, unk, unk] (by repeat (first | exact WkL.nil | refine WkL.same ?_ | refine WkL.any ?_)) ⟨0, Nat.zero_le _, rfl, rfl, rfl⟩ ?_
      rintro m e h ⟨i, hi, rfl, rfl, rfl⟩
      refine setup29.headW (by kernel_rfl) (by simp only [List.map_cons, List.map_nil]; rfl) (by simp only [qB, qC, qD, qE, qF, qG, qH, qJ, qK, qM, qN, qP, iop1, qR, qS, iop, qT, qV, qW, qX, qY, qZ, zA, Option.getD_some, zB, zC, zD, zE, zF, zG, zH, zJ, zK, zM, zN, Step1.ofO, lenC, callF, zP, zR, zS, zT, zV, cond_true, cond_false, decide_true, decide_false, beq_self_eq_true, Bool.false_eq_true, Bool.true_eq_false, zW, zX, zY, zZ, Bool.not_true, Bool.not_false, appC, copyC, yA, List.map_cons, List.map_nil, goInt]; rfl) (by kernel_rfl) (by simp only [qT, qX, qY, Option.getD_some]; rfl) (fun ht2 => ?_) (fun ht2 => ?_)
      · have hlt : i < k := by simpa using ht2
        refine .blockW (setup29.regZ 0 (by kernel_rfl) (by simp only [List.map_cons, List.map_nil]; rfl) (by simp only [qB, qC, qD, qE, qF, qG, qH, qJ, qK, qM, qN, qP, iop1, qR, qS, iop, qT, qV, qW, qX, qY, qZ, zA, Option.getD_some, zB, zC, zD, zE, zF, zG, zH, zJ, zK, zM, zN, Step1.ofO, lenC, callF, zP, zR, zS, zT, zV, cond_true, cond_false, decide_true, decide_false, beq_self_eq_true, Bool.false_eq_true, Bool.true_eq_false, zW, zX, zY, zZ, Bool.not_true, Bool.not_false, appC, copyC, yA, List.map_cons, List.map_nil, goInt, bin_mul, wrap_pow (a := a) (by omega) (show k ≤ 12 by omega) hlt]; rfl) (BT.go ?_))
        exact setup29.regZ 0 (by kernel_rfl) (by simp only [List.map_cons, List.map_nil]; rfl) (by simp only [qB, qC, qD, qE, qF, qG, qH, qJ, qK, qM, qN, qP, iop1, qR, qS, iop, qT, qV, qW, qX, qY, qZ, zA, Option.getD_some, zB, zC, zD, zE, zF, zG, zH, zJ, zK, zM, zN, Step1.ofO, lenC, callF, zP, zR, zS, zT, zV, cond_true, cond_false, decide_true, decide_false, beq_self_eq_true, Bool.false_eq_true, Bool.true_eq_false, zW, zX, zY, zZ, Bool.not_true, Bool.not_false, appC, copyC, yA, List.map_cons, List.map_nil, goInt, wrap_succ hlt (by omega)]; rfl) (LQ.go (k - (i + 1)) (by omega) (by repeat (first | exact WkL.nil | refine WkL.same ?_ | refine WkL.any ?_)) ⟨i + 1, by omega, rfl, rfl, rfl⟩)
      · have hge : i = k := by simp at ht2; omega
        subst hge
        exact ST.go (setup29.regE 0 (by kernel_rfl) (by simp only [List.map_cons, List.map_nil]; rfl) (by simp only [qB, qC, qD, qE, qF, qG, qH, qJ, qK, qM, qN, qP, iop1, qR, qS, iop, qT, qV, qW, qX, qY, qZ, zA, Option.getD_some, zB, zC, zD, zE, zF, zG, zH, zJ, zK, zM, zN, Step1.ofO, lenC, callF, zP, zR, zS, zT, zV, cond_true, cond_false, decide_true, decide_false, beq_self_eq_true, Bool.false_eq_true, Bool.true_eq_false, zW, zX, zY, zZ, Bool.not_true, Bool.not_false, appC, copyC, yA, List.map_cons, List.map_nil, goInt]; rfl) (.ret ⟨.inr rfl, ires_tmp rfl (by simp only [qX, qY]), .refl _⟩))
    · cases hk
  · cases hk
theorem e108 : enters Tryz.prog 108 = true := by kernel_rfl
noncomputable def nat31 : Nats := addNat nat30 114 kPow
theorem pure30 : NatPure nat30 := addNat_pure pure29
set_option maxRecDepth 10000 in
theorem setup31 : Setup Tryz.prog good nat31 (globG 3) := by
  refine plainN setup30 kPow Tryz.func114 rfl rfl fun args H v hk => ?_
  unfold kPow at hk
  split at hk
  · rename_i a k
    split at hk
    · rename_i hc
      obtain ⟨h1, h2, h3, h4⟩ := hc
      cases hk
      obtain ⟨a, rfl⟩ := Int.eq_ofNat_of_zero_le h1
      obtain ⟨k, rfl⟩ := Int.eq_ofNat_of_zero_le h3
      refine ⟨rfl, ?_⟩
      simp only [Int.toNat_natCast]
      show Holds _ _ false _ [.int .i64 (a : Int), .int .i64 (k : Int), undef, undef, undef, undef, undef, undef, undef, undef, undef, undef, undef, undef, undef, undef] H _
      refine setup30.regE 0 (by kernel_rfl) (by simp only [List.map_cons, List.map_nil]; rfl) (by simp only [qB, qC, qD, qE, qF, qG, qH, qJ, qK, qM, qN, qP, iop1, qR, qS, iop, qT, qV, qW, qX, qY, qZ, zA, Option.getD_some, zB, zC, zD, zE, zF, zG, zH, zJ, zK, zM, zN, Step1.ofO, lenC, callF, zP, zR, zS, zT, zV, cond_true, cond_false, decide_true, decide_false, beq_self_eq_true, Bool.false_eq_true, Bool.true_eq_false, zW, zX, zY, zZ, Bool.not_true, Bool.not_false, appC, copyC, yA, List.map_cons, List.map_nil, goInt]; rfl) ?_
      refine setup30.regE 0 (by kernel_rfl) (by simp only [List.map_cons, List.map_nil]; rfl) (by simp only [qB, qC, qD, qE, qF, qG, qH, qJ, qK, qM, qN, qP, iop1, qR, qS, iop, qT, qV, qW, qX, qY, qZ, zA, Option.getD_some, zB, zC, zD, zE, zF, zG, zH, zJ, zK, zM, zN, Step1.ofO, lenC, callF, zP, zR, zS, zT, zV, cond_true, cond_false, decide_true, decide_false, beq_self_eq_true, Bool.false_eq_true, Bool.true_eq_false, zW, zX, zY, zZ, Bool.not_true, Bool.not_false, appC, copyC, yA, List.map_cons, List.map_nil, goInt]; rfl) ?_
      refine .seqW (setup30.regE 0 (by kernel_rfl) (by simp only [List.map_cons, List.map_nil]; rfl) (by simp only [qB, qC, qD, qE, qF, qG, qH, qJ, qK, qM, qN, qP, iop1, qR, qS, iop, qT, qV, qW, qX, qY, qZ, zA, Option.getD_some, zB, zC, zD, zE, zF, zG, zH, zJ, zK, zM, zN, Step1.ofO, lenC, callF, zP, zR, zS, zT, zV, cond_true, cond_false, decide_true, decide_false, beq_self_eq_true, Bool.false_eq_true, Bool.true_eq_false, zW, zX, zY, zZ, Bool.not_true, Bool.not_false, appC, copyC, yA, List.map_cons, List.map_nil, goInt]; rfl) ?_)
      refine .loopW (fun m e h => ∃ (i : Nat), i ≤ k ∧ m = k - i ∧ e = [.int .i64 (a : Int), .int .i64 (k : Int), unk, unk, unk, .int .i64 ((a ^ i : Nat) : Int), .int .i64 (i : Nat), unk, unk, unk, unk, unk, unk, unk, unk, unk] ∧ h = H) k
        [.int .i64 (a : Int), .int .i64 (k : Int), unk, unk, unk, .int .i64 1, .int .i64 0, unk, unk, unk, unk, unk, unk, unk, unk, unk] (by repeat (first | exact WkL.nil | refine WkL.same ?_ | refine WkL.any ?_)) ⟨0, Nat.zero_le _, rfl, rfl, rfl⟩ ?_
      rintro m e h ⟨i, hi, rfl, rfl, rfl⟩
      refine setup30.headW2 (by kernel_rfl) (by simp only [List.map_cons, List.map_nil]; rfl) (by simp only [qB, qC, qD, qE, qF, qG, qH, qJ, qK, qM, qN, qP, iop1, qR, qS, iop, qT, qV, qW, qX, qY, qZ, zA, Option.getD_some, zB, zC, zD, zE, zF, zG, zH, zJ, zK, zM, zN, Step1.ofO, lenC, callF, zP, zR, zS, zT, zV, cond_true, cond_false, decide_true, decide_false, beq_self_eq_true, Bool.false_eq_true, Bool.true_eq_false, zW, zX, zY, zZ, Bool.not_true, Bool.not_false, appC, copyC, yA, List.map_cons, List.map_nil, goInt]; rfl) (by kernel_rfl) (by simp only [qT, qX, qY, Option.getD_some]; rfl) (fun ht2 => ?_) (fun ht2 => ?_)
      · have hlt : i < k := by simpa using ht2
        refine .blockW (setup30.regZ 0 (by kernel_rfl) (by simp only [List.map_cons, List.map_nil]; rfl) (by simp only [qB, qC, qD, qE, qF, qG, qH, qJ, qK, qM, qN, qP, iop1, qR, qS, iop, qT, qV, qW, qX, qY, qZ, zA, Option.getD_some, zB, zC, zD, zE, zF, zG, zH, zJ, zK, zM, zN, Step1.ofO, lenC, callF, zP, zR, zS, zT, zV, cond_true, cond_false, decide_true, decide_false, beq_self_eq_true, Bool.false_eq_true, Bool.true_eq_false, zW, zX, zY, zZ, Bool.not_true, Bool.not_false, appC, copyC, yA, List.map_cons, List.map_nil, goInt, bin_mul, wrap_pow (a := a) (by omega) (show k ≤ 12 by omega) hlt]; rfl) (BT.go ?_))
        exact setup30.regZ 0 (by kernel_rfl) (by simp only [List.map_cons, List.map_nil]; rfl) (by simp only [qB, qC, qD, qE, qF, qG, qH, qJ, qK, qM, qN, qP, iop1, qR, qS, iop, qT, qV, qW, qX, qY, qZ, zA, Option.getD_some, zB, zC, zD, zE, zF, zG, zH, zJ, zK, zM, zN, Step1.ofO, lenC, callF, zP, zR, zS, zT, zV, cond_true, cond_false, decide_true, decide_false, beq_self_eq_true, Bool.false_eq_true, Bool.true_eq_false, zW, zX, zY, zZ, Bool.not_true, Bool.not_false, appC, copyC, yA, List.map_cons, List.map_nil, goInt, wrap_succ hlt (by omega)]; rfl) (LQ.go (k - (i + 1)) (by omega) (by repeat (first | exact WkL.nil | refine WkL.same ?_ | refine WkL.any ?_)) ⟨i + 1, by omega, rfl, rfl, rfl⟩)
      · have hge : i = k := by simp at ht2; omega
        subst hge
        exact ST.go (setup30.regE 0 (by kernel_rfl) (by simp only [List.map_cons, List.map_nil]; rfl) (by simp only [qB, qC, qD, qE, qF, qG, qH, qJ, qK, qM, qN, qP, iop1, qR, qS, iop, qT, qV, qW, qX, qY, qZ, zA, Option.getD_some, zB, zC, zD, zE, zF, zG, zH, zJ, zK, zM, zN, Step1.ofO, lenC, callF, zP, zR, zS, zT, zV, cond_true, cond_false, decide_true, decide_false, beq_self_eq_true, Bool.false_eq_true, Bool.true_eq_false, zW, zX, zY, zZ, Bool.not_true, Bool.not_false, appC, copyC, yA, List.map_cons, List.map_nil, goInt]; rfl) (.ret ⟨.inr rfl, ires_tmp rfl (by simp only [qX, qY]), .refl _⟩))
    · cases hk
  · cases hk
theorem e114 : enters Tryz.prog 114 = true := by kernel_rfl
end Go.Proofs.YtpdlblofcdcikaaGreatDoor
