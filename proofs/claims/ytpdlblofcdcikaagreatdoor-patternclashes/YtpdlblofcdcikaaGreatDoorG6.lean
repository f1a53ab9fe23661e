/- More contracts: the law's small functions. Conditions: none. -/
import Derived.Test.YtpdlblofcdcikaaGreatDoorG5
set_option linter.unusedSimpArgs false
set_option linter.unusedVariables false
namespace Go.Proofs.YtpdlblofcdcikaaGreatDoor
open Go.Idl

/-! 44: many -/
noncomputable def k44 (args : List Value) (_ : IH) : Option Value := match args with
  | [.int .i64 a, .int .i64 k, .int .i64 most] => if 1 ≤ a ∧ a ≤ 8 ∧ 0 ≤ k ∧ k ≤ 12 ∧ 1 ≤ most then some (.bool (decide (most < ((a.toNat ^ k.toNat : Nat) : Int)))) else none
  | _ => none
theorem k44_eq {a k most : Nat} {H : IH} (h0 : 1 ≤ a) (ha : a ≤ 8) (hk : k ≤ 12) (hm : 1 ≤ most) : k44 [.int .i64 (a : Int), .int .i64 (k : Int), .int .i64 (most : Int)] H = some (.bool (decide (most < a ^ k))) := by
  unfold k44; simp only; rw [if_pos (by omega)]; simp only [Int.toNat_natCast]
  congr 2
  rw [decide_eq_decide]; omega
noncomputable def nat32 : Nats := addNat nat31 44 k44
theorem pure31 : NatPure nat31 := addNat_pure pure30
set_option maxRecDepth 10000 in
theorem setup32 : Setup Tryz.prog good nat32 (globG 3) := by
  refine plainN setup31 k44 Tryz.func44 rfl rfl fun args H v hk => ?_
  unfold k44 at hk
  split at hk
  · rename_i a k most
    split at hk
    · rename_i hc
      obtain ⟨h1, h2, h3, h4, h5⟩ := hc
      cases hk
      obtain ⟨a, rfl⟩ := Int.eq_ofNat_of_zero_le (show 0 ≤ a by omega)
      obtain ⟨k, rfl⟩ := Int.eq_ofNat_of_zero_le h3
      obtain ⟨most, rfl⟩ := Int.eq_ofNat_of_zero_le (show 0 ≤ most by omega)
      refine ⟨rfl, ?_⟩
      simp only [Int.toNat_natCast]
      show Holds _ _ false _ [.int .i64 (a : Int), .int .i64 (k : Int), .int .i64 (most : Int), undef, undef, undef, undef, undef, undef, undef, undef, undef, undef, undef, undef, undef, undef, undef] H _
      refine setup31.regE 0 (by kernel_rfl) (by simp only [List.map_cons, List.map_nil]; rfl) (by simp only [qB, qC, qD, qE, qF, qG, qH, qJ, qK, qM, qN, qP, iop1, qR, qS, iop, qT, qV, qW, qX, qY, qZ, zA, Option.getD_some, zB, zC, zD, zE, zF, zG, zH, zJ, zK, zM, zN, Step1.ofO, lenC, callF, zP, zR, zS, zT, zV, cond_true, cond_false, decide_true, decide_false, beq_self_eq_true, Bool.false_eq_true, Bool.true_eq_false, zW, zX, zY, zZ, Bool.not_true, Bool.not_false, appC, copyC, yA, List.map_cons, List.map_nil, goInt]; rfl) ?_
      refine setup31.regE 0 (by kernel_rfl) (by simp only [List.map_cons, List.map_nil]; rfl) (by simp only [qB, qC, qD, qE, qF, qG, qH, qJ, qK, qM, qN, qP, iop1, qR, qS, iop, qT, qV, qW, qX, qY, qZ, zA, Option.getD_some, zB, zC, zD, zE, zF, zG, zH, zJ, zK, zM, zN, Step1.ofO, lenC, callF, zP, zR, zS, zT, zV, cond_true, cond_false, decide_true, decide_false, beq_self_eq_true, Bool.false_eq_true, Bool.true_eq_false, zW, zX, zY, zZ, Bool.not_true, Bool.not_false, appC, copyC, yA, List.map_cons, List.map_nil, goInt]; rfl) ?_
      refine .seqW (setup31.regE 0 (by kernel_rfl) (by simp only [List.map_cons, List.map_nil]; rfl) (by simp only [qB, qC, qD, qE, qF, qG, qH, qJ, qK, qM, qN, qP, iop1, qR, qS, iop, qT, qV, qW, qX, qY, qZ, zA, Option.getD_some, zB, zC, zD, zE, zF, zG, zH, zJ, zK, zM, zN, Step1.ofO, lenC, callF, zP, zR, zS, zT, zV, cond_true, cond_false, decide_true, decide_false, beq_self_eq_true, Bool.false_eq_true, Bool.true_eq_false, zW, zX, zY, zZ, Bool.not_true, Bool.not_false, appC, copyC, yA, List.map_cons, List.map_nil, goInt]; rfl) ?_)
      refine .loopW (fun m e h => ∃ (i : Nat), i ≤ k ∧ m = k - i ∧ e = [.int .i64 (a : Int), .int .i64 (k : Int), .int .i64 (most : Int), unk, unk, unk, unk, .int .i64 ((a ^ i : Nat) : Int), .int .i64 (k : Int), .int .i64 (i : Nat), unk, unk, unk, unk, unk, unk, unk, unk] ∧ h = H ∧ a ^ i ≤ most) k
        [.int .i64 (a : Int), .int .i64 (k : Int), .int .i64 (most : Int), unk, unk, unk, unk, .int .i64 1, .int .i64 (k : Int), .int .i64 0, unk, unk, unk, unk, unk, unk, unk, unk] (by repeat (first | exact WkL.nil | refine WkL.same ?_ | refine WkL.any ?_)) ⟨0, Nat.zero_le _, rfl, rfl, rfl, by simp; omega⟩ ?_
      rintro m e h ⟨i, hi, rfl, rfl, rfl, hle⟩
      refine setup31.headW (by kernel_rfl) (by simp only [List.map_cons, List.map_nil]; rfl) (by simp only [qB, qC, qD, qE, qF, qG, qH, qJ, qK, qM, qN, qP, iop1, qR, qS, iop, qT, qV, qW, qX, qY, qZ, zA, Option.getD_some, zB, zC, zD, zE, zF, zG, zH, zJ, zK, zM, zN, Step1.ofO, lenC, callF, zP, zR, zS, zT, zV, cond_true, cond_false, decide_true, decide_false, beq_self_eq_true, Bool.false_eq_true, Bool.true_eq_false, zW, zX, zY, zZ, Bool.not_true, Bool.not_false, appC, copyC, yA, List.map_cons, List.map_nil, goInt]; rfl) (by kernel_rfl) (by simp only [qT, qX, qY, Option.getD_some]; rfl) (fun ht2 => ?_) (fun ht2 => ?_)
      · have hlt : i < k := by simpa using ht2
        refine .blockW (setup31.regE 0 (by kernel_rfl) (by simp only [List.map_cons, List.map_nil]; rfl) (by simp only [qB, qC, qD, qE, qF, qG, qH, qJ, qK, qM, qN, qP, iop1, qR, qS, iop, qT, qV, qW, qX, qY, qZ, zA, Option.getD_some, zB, zC, zD, zE, zF, zG, zH, zJ, zK, zM, zN, Step1.ofO, lenC, callF, zP, zR, zS, zT, zV, cond_true, cond_false, decide_true, decide_false, beq_self_eq_true, Bool.false_eq_true, Bool.true_eq_false, zW, zX, zY, zZ, Bool.not_true, Bool.not_false, appC, copyC, yA, List.map_cons, List.map_nil, goInt, bin_mul, wrap_pow (a := a) (by omega) (show k ≤ 12 by omega) hlt]; rfl) ?_)
        refine setup31.ifZ (by kernel_rfl) (by simp only [List.map_cons, List.map_nil]; rfl) (by simp only [qB, qC, qD, qE, qF, qG, qH, qJ, qK, qM, qN, qP, iop1, qR, qS, iop, qT, qV, qW, qX, qY, qZ, zA, Option.getD_some, zB, zC, zD, zE, zF, zG, zH, zJ, zK, zM, zN, Step1.ofO, lenC, callF, zP, zR, zS, zT, zV, cond_true, cond_false, decide_true, decide_false, beq_self_eq_true, Bool.false_eq_true, Bool.true_eq_false, zW, zX, zY, zZ, Bool.not_true, Bool.not_false, appC, copyC, yA, List.map_cons, List.map_nil, goInt]; rfl) (by kernel_rfl) (by simp only [qT, qX, qY, Option.getD_some]; rfl) (fun ht3 => ?_) (fun ht3 => .skip (BT.go ?_))
        · have hgt : most < a ^ (i + 1) := by simp only [decide_eq_true_eq] at ht3; omega
          have hmono : a ^ (i + 1) ≤ a ^ k := Nat.pow_le_pow_right (by omega) (by omega)
          exact setup31.regE 0 (by kernel_rfl) (by simp only [List.map_cons, List.map_nil]; rfl) (by simp only [qB, qC, qD, qE, qF, qG, qH, qJ, qK, qM, qN, qP, iop1, qR, qS, iop, qT, qV, qW, qX, qY, qZ, zA, Option.getD_some, zB, zC, zD, zE, zF, zG, zH, zJ, zK, zM, zN, Step1.ofO, lenC, callF, zP, zR, zS, zT, zV, cond_true, cond_false, decide_true, decide_false, beq_self_eq_true, Bool.false_eq_true, Bool.true_eq_false, zW, zX, zY, zZ, Bool.not_true, Bool.not_false, appC, copyC, yA, List.map_cons, List.map_nil, goInt]; rfl) (.ret (BT.rt (LQ.rt (ST.rt ⟨.inr rfl, ires_tmp rfl (by simp only [qX, qY, decide_eq_true (show (most : Int) < ((a ^ k : Nat) : Int) by omega)]), .refl _⟩))))
        · have hle2 : a ^ (i + 1) ≤ most := by simp only [decide_eq_false_iff_not] at ht3; omega
          exact setup31.regZ 0 (by kernel_rfl) (by simp only [List.map_cons, List.map_nil]; rfl) (by simp only [qB, qC, qD, qE, qF, qG, qH, qJ, qK, qM, qN, qP, iop1, qR, qS, iop, qT, qV, qW, qX, qY, qZ, zA, Option.getD_some, zB, zC, zD, zE, zF, zG, zH, zJ, zK, zM, zN, Step1.ofO, lenC, callF, zP, zR, zS, zT, zV, cond_true, cond_false, decide_true, decide_false, beq_self_eq_true, Bool.false_eq_true, Bool.true_eq_false, zW, zX, zY, zZ, Bool.not_true, Bool.not_false, appC, copyC, yA, List.map_cons, List.map_nil, goInt, wrap_succ hlt (by omega)]; rfl) (LQ.go (k - (i + 1)) (by omega) (by repeat (first | exact WkL.nil | refine WkL.same ?_ | refine WkL.any ?_)) ⟨i + 1, by omega, rfl, rfl, rfl, hle2⟩)
      · have hge : i = k := by simp at ht2; omega
        subst hge
        exact ST.go (setup31.regE 0 (by kernel_rfl) (by simp only [List.map_cons, List.map_nil]; rfl) (by simp only [qB, qC, qD, qE, qF, qG, qH, qJ, qK, qM, qN, qP, iop1, qR, qS, iop, qT, qV, qW, qX, qY, qZ, zA, Option.getD_some, zB, zC, zD, zE, zF, zG, zH, zJ, zK, zM, zN, Step1.ofO, lenC, callF, zP, zR, zS, zT, zV, cond_true, cond_false, decide_true, decide_false, beq_self_eq_true, Bool.false_eq_true, Bool.true_eq_false, zW, zX, zY, zZ, Bool.not_true, Bool.not_false, appC, copyC, yA, List.map_cons, List.map_nil, goInt]; rfl) (.ret ⟨.inr rfl, ires_tmp rfl (by simp only [qX, qY, decide_eq_false (show ¬ (most : Int) < ((a ^ i : Nat) : Int) by omega)]), .refl _⟩))
    · cases hk
  · cases hk
theorem e44 : enters Tryz.prog 44 = true := by kernel_rfl

/-! 30: when -/
noncomputable def nat33 : Nats := addNat nat32 30 k89
theorem pure32 : NatPure nat32 := addNat_pure pure31
set_option maxRecDepth 10000 in
theorem setup33 : Setup Tryz.prog good nat33 (globG 3) := by
  refine plainN setup32 k89 Tryz.func30 rfl rfl fun args H v hk => ?_
  unfold k89 at hk
  split at hk
  · rename_i b e
    cases hk
    refine ⟨rfl, ?_⟩
    show Holds _ _ false _ [.bool b, .int .i64 e, undef, undef, undef, undef, undef] H _
    refine setup32.regE 0 (by kernel_rfl) (by simp only [List.map_cons, List.map_nil]; rfl) (by simp only [qB, qC, qD, qE, qF, qG, qH, qJ, qK, qM, qN, qP, iop1, qR, qS, iop, qT, qV, qW, qX, qY, qZ, zA, Option.getD_some, zB, zC, zD, zE, zF, zG, zH, zJ, zK, zM, zN, Step1.ofO, lenC, callF, zP, zR, zS, zT, zV, cond_true, cond_false, decide_true, decide_false, beq_self_eq_true, Bool.false_eq_true, Bool.true_eq_false, zW, zX, zY, zZ, Bool.not_true, Bool.not_false, appC, copyC, yA, List.map_cons, List.map_nil, goInt]; rfl) ?_
    refine setup32.ifW (by kernel_rfl) (by simp only [List.map_cons, List.map_nil]; rfl) (by simp only [qB, qC, qD, qE, qF, qG, qH, qJ, qK, qM, qN, qP, iop1, qR, qS, iop, qT, qV, qW, qX, qY, qZ, zA, Option.getD_some, zB, zC, zD, zE, zF, zG, zH, zJ, zK, zM, zN, Step1.ofO, lenC, callF, zP, zR, zS, zT, zV, cond_true, cond_false, decide_true, decide_false, beq_self_eq_true, Bool.false_eq_true, Bool.true_eq_false, zW, zX, zY, zZ, Bool.not_true, Bool.not_false, appC, copyC, yA, List.map_cons, List.map_nil, goInt]; rfl) (by kernel_rfl) (by simp only [qT, qX, qY, Option.getD_some]; rfl) (fun ht => ?_) (fun ht => .skip (ST.go ?_))
    · subst ht
      exact setup32.regE 0 (by kernel_rfl) (by simp only [List.map_cons, List.map_nil]; rfl) (by simp only [qB, qC, qD, qE, qF, qG, qH, qJ, qK, qM, qN, qP, iop1, qR, qS, iop, qT, qV, qW, qX, qY, qZ, zA, Option.getD_some, zB, zC, zD, zE, zF, zG, zH, zJ, zK, zM, zN, Step1.ofO, lenC, callF, zP, zR, zS, zT, zV, cond_true, cond_false, decide_true, decide_false, beq_self_eq_true, Bool.false_eq_true, Bool.true_eq_false, zW, zX, zY, zZ, Bool.not_true, Bool.not_false, appC, copyC, yA, List.map_cons, List.map_nil, goInt]; rfl) (.ret (ST.rt ⟨.inr rfl, ires_tmp rfl (by simp only [qX, qY, cond_true]), .refl _⟩))
    · subst ht
      exact setup32.regE 0 (by kernel_rfl) (by simp only [List.map_cons, List.map_nil]; rfl) (by simp only [qB, qC, qD, qE, qF, qG, qH, qJ, qK, qM, qN, qP, iop1, qR, qS, iop, qT, qV, qW, qX, qY, qZ, zA, Option.getD_some, zB, zC, zD, zE, zF, zG, zH, zJ, zK, zM, zN, Step1.ofO, lenC, callF, zP, zR, zS, zT, zV, cond_true, cond_false, decide_true, decide_false, beq_self_eq_true, Bool.false_eq_true, Bool.true_eq_false, zW, zX, zY, zZ, Bool.not_true, Bool.not_false, appC, copyC, yA, List.map_cons, List.map_nil, goInt]; rfl) (.ret ⟨.inr rfl, ires_tmp rfl (by simp only [qX, qY, cond_false]), .refl _⟩)
  · cases hk
theorem e30 : enters Tryz.prog 30 = true := by kernel_rfl

/-! 37: first -/
noncomputable def nat34 : Nats := addNat nat33 37 k87
theorem pure33 : NatPure nat33 := addNat_pure pure32
theorem firstNZ_end (zs : List Int) : firstNZ (zs.drop zs.length) = 0 := by rw [List.drop_length]; rfl
set_option maxRecDepth 10000 in
theorem setup34 : Setup Tryz.prog good nat34 (globG 3) := by
  refine plainN setup33 k87 Tryz.func37 rfl rfl fun args H v hk => ?_
  unfold k87 at hk
  split at hk
  · rename_i a
    obtain ⟨xs, hx, rfl⟩ := Option.map_eq_some_iff.1 hk
    obtain ⟨aa, ac, rfl, hxl, _⟩ := intsOf_inv hx
    refine ⟨rfl, ?_⟩
    show Holds _ _ false _ [.slice aa xs.length ac, undef, undef, undef, undef, undef, undef, undef, undef, undef, undef, undef, undef, undef, undef] H _
    refine setup33.regE 0 (by kernel_rfl) (by simp only [List.map_cons, List.map_nil]; rfl) (by simp only [qB, qC, qD, qE, qF, qG, qH, qJ, qK, qM, qN, qP, iop1, qR, qS, iop, qT, qV, qW, qX, qY, qZ, zA, Option.getD_some, zB, zC, zD, zE, zF, zG, zH, zJ, zK, zM, zN, Step1.ofO, lenC, callF, zP, zR, zS, zT, zV, cond_true, cond_false, decide_true, decide_false, beq_self_eq_true, Bool.false_eq_true, Bool.true_eq_false, zW, zX, zY, zZ, Bool.not_true, Bool.not_false, appC, copyC, yA, List.map_cons, List.map_nil, goInt]; rfl) ?_
    refine .seqW (setup33.regE 0 (by kernel_rfl) (by simp only [List.map_cons, List.map_nil]; rfl) (by simp only [qB, qC, qD, qE, qF, qG, qH, qJ, qK, qM, qN, qP, iop1, qR, qS, iop, qT, qV, qW, qX, qY, qZ, zA, Option.getD_some, zB, zC, zD, zE, zF, zG, zH, zJ, zK, zM, zN, Step1.ofO, lenC, callF, zP, zR, zS, zT, zV, cond_true, cond_false, decide_true, decide_false, beq_self_eq_true, Bool.false_eq_true, Bool.true_eq_false, zW, zX, zY, zZ, Bool.not_true, Bool.not_false, appC, copyC, yA, List.map_cons, List.map_nil, goInt, lenB_slice u22]; rfl) ?_)
    refine .loopW (fun m e h => ∃ (i : Nat), i ≤ xs.length ∧ m = xs.length - i ∧ e = [.slice aa xs.length ac, unk, unk, unk, unk, .slice aa xs.length ac, .int .i64 (xs.length : Nat), .int .i64 (i : Nat), unk, unk, unk, unk, unk, unk, unk] ∧ h = H ∧ firstNZ (xs.drop i) = firstNZ xs) xs.length
      [.slice aa xs.length ac, unk, unk, unk, unk, .slice aa xs.length ac, .int .i64 (xs.length : Nat), .int .i64 0, unk, unk, unk, unk, unk, unk, unk] (by repeat (first | exact WkL.nil | refine WkL.same ?_ | refine WkL.any ?_)) ⟨0, Nat.zero_le _, rfl, rfl, rfl, rfl⟩ ?_
    rintro m e h ⟨i, hi, rfl, rfl, rfl, heq⟩
    refine setup33.headW (by kernel_rfl) (by simp only [List.map_cons, List.map_nil]; rfl) (by simp only [qB, qC, qD, qE, qF, qG, qH, qJ, qK, qM, qN, qP, iop1, qR, qS, iop, qT, qV, qW, qX, qY, qZ, zA, Option.getD_some, zB, zC, zD, zE, zF, zG, zH, zJ, zK, zM, zN, Step1.ofO, lenC, callF, zP, zR, zS, zT, zV, cond_true, cond_false, decide_true, decide_false, beq_self_eq_true, Bool.false_eq_true, Bool.true_eq_false, zW, zX, zY, zZ, Bool.not_true, Bool.not_false, appC, copyC, yA, List.map_cons, List.map_nil, goInt]; rfl) (by kernel_rfl) (by simp only [qT, qX, qY, Option.getD_some]; rfl) (fun ht2 => ?_) (fun ht2 => ?_)
    · have hlt : i < xs.length := by simpa using ht2
      obtain ⟨x, hxi⟩ : ∃ x, xs[i]? = some x := ⟨_, List.getElem?_eq_getElem hlt⟩
      obtain ⟨p, hp, hld⟩ := read_int el22 hx hxi (k := .i64)
      rw [firstNZ_drop hxi] at heq
      refine .blockW (setup33.regE 0 (by kernel_rfl) (by simp only [List.map_cons, List.map_nil]; rfl) (by simp only [qB, qC, qD, qE, qF, qG, qH, qJ, qK, qM, qN, qP, iop1, qR, qS, iop, qT, qV, qW, qX, qY, qZ, zA, Option.getD_some, zB, zC, zD, zE, zF, zG, zH, zJ, zK, zM, zN, Step1.ofO, lenC, callF, zP, zR, zS, zT, zV, cond_true, cond_false, decide_true, decide_false, beq_self_eq_true, Bool.false_eq_true, Bool.true_eq_false, zW, zX, zY, zZ, Bool.not_true, Bool.not_false, appC, copyC, yA, List.map_cons, List.map_nil, goInt, hp, hld]; rfl) ?_)
      refine setup33.ifZ (by kernel_rfl) (by simp only [List.map_cons, List.map_nil]; rfl) (by simp only [qB, qC, qD, qE, qF, qG, qH, qJ, qK, qM, qN, qP, iop1, qR, qS, iop, qT, qV, qW, qX, qY, qZ, zA, Option.getD_some, zB, zC, zD, zE, zF, zG, zH, zJ, zK, zM, zN, Step1.ofO, lenC, callF, zP, zR, zS, zT, zV, cond_true, cond_false, decide_true, decide_false, beq_self_eq_true, Bool.false_eq_true, Bool.true_eq_false, zW, zX, zY, zZ, Bool.not_true, Bool.not_false, appC, copyC, yA, List.map_cons, List.map_nil, goInt]; rfl) (by kernel_rfl) (by simp only [qT, qX, qY, Option.getD_some]; rfl) (fun ht3 => ?_) (fun ht3 => .skip (BT.go ?_))
      · rw [ht3] at heq
        exact setup33.regE 0 (by kernel_rfl) (by simp only [List.map_cons, List.map_nil]; rfl) (by simp only [qB, qC, qD, qE, qF, qG, qH, qJ, qK, qM, qN, qP, iop1, qR, qS, iop, qT, qV, qW, qX, qY, qZ, zA, Option.getD_some, zB, zC, zD, zE, zF, zG, zH, zJ, zK, zM, zN, Step1.ofO, lenC, callF, zP, zR, zS, zT, zV, cond_true, cond_false, decide_true, decide_false, beq_self_eq_true, Bool.false_eq_true, Bool.true_eq_false, zW, zX, zY, zZ, Bool.not_true, Bool.not_false, appC, copyC, yA, List.map_cons, List.map_nil, goInt]; rfl) (.ret (BT.rt (LQ.rt (ST.rt ⟨.inr rfl, ires_tmp rfl (by simp only [qX, qY, ← heq, cond_true]), .refl _⟩))))
      · rw [ht3] at heq
        exact setup33.regZ 0 (by kernel_rfl) (by simp only [List.map_cons, List.map_nil]; rfl) (by simp only [qB, qC, qD, qE, qF, qG, qH, qJ, qK, qM, qN, qP, iop1, qR, qS, iop, qT, qV, qW, qX, qY, qZ, zA, Option.getD_some, zB, zC, zD, zE, zF, zG, zH, zJ, zK, zM, zN, Step1.ofO, lenC, callF, zP, zR, zS, zT, zV, cond_true, cond_false, decide_true, decide_false, beq_self_eq_true, Bool.false_eq_true, Bool.true_eq_false, zW, zX, zY, zZ, Bool.not_true, Bool.not_false, appC, copyC, yA, List.map_cons, List.map_nil, goInt, wrap_succ hlt hxl]; rfl) (LQ.go (xs.length - (i + 1)) (by omega) (by repeat (first | exact WkL.nil | refine WkL.same ?_ | refine WkL.any ?_)) ⟨i + 1, by omega, rfl, rfl, rfl, heq⟩)
    · have hge : i = xs.length := by simp at ht2; omega
      rw [hge, firstNZ_end] at heq
      exact ST.go (setup33.regE 0 (by kernel_rfl) (by simp only [List.map_cons, List.map_nil]; rfl) (by simp only [qB, qC, qD, qE, qF, qG, qH, qJ, qK, qM, qN, qP, iop1, qR, qS, iop, qT, qV, qW, qX, qY, qZ, zA, Option.getD_some, zB, zC, zD, zE, zF, zG, zH, zJ, zK, zM, zN, Step1.ofO, lenC, callF, zP, zR, zS, zT, zV, cond_true, cond_false, decide_true, decide_false, beq_self_eq_true, Bool.false_eq_true, Bool.true_eq_false, zW, zX, zY, zZ, Bool.not_true, Bool.not_false, appC, copyC, yA, List.map_cons, List.map_nil, goInt]; rfl) (.ret ⟨.inr rfl, ires_tmp rfl (by simp only [qX, qY, ← heq]), .refl _⟩))
  · cases hk
theorem e37 : enters Tryz.prog 37 = true := by kernel_rfl

/-! 105: checkColours -/
noncomputable def k105 (args : List Value) (_ : IH) : Option Value := match args with
  | [.int .i64 n] => some (.int .i64 (cond (decide (n < 1) || decide (8 < n)) 3 0))
  | _ => none
noncomputable def nat35 : Nats := addNat nat34 105 k105
theorem pure34 : NatPure nat34 := addNat_pure pure33
theorem n109f : nat34 109 = some (ofK k109) := rfl
set_option maxRecDepth 10000 in
theorem setup35 : Setup Tryz.prog good nat35 (globG 3) := by
  refine plainN setup34 k105 Tryz.func105 rfl rfl fun args H v hk => ?_
  unfold k105 at hk
  split at hk
  · rename_i n
    cases hk
    refine ⟨rfl, ?_⟩
    show Holds _ _ false _ [.int .i64 n, undef, undef, undef, undef] H _
    refine setup34.regE 0 (by kernel_rfl) (by simp only [List.map_cons, List.map_nil]; rfl) (by simp only [qB, qC, qD, qE, qF, qG, qH, qJ, qK, qM, qN, qP, iop1, qR, qS, iop, qT, qV, qW, qX, qY, qZ, zA, Option.getD_some, zB, zC, zD, zE, zF, zG, zH, zJ, zK, zM, zN, Step1.ofO, lenC, callF, zP, zR, zS, zT, zV, cond_true, cond_false, decide_true, decide_false, beq_self_eq_true, Bool.false_eq_true, Bool.true_eq_false, zW, zX, zY, zZ, Bool.not_true, Bool.not_false, appC, copyC, yA, List.map_cons, List.map_nil, goInt]; rfl) ?_
    exact setup34.regE 0 (by kernel_rfl) (by simp only [List.map_cons, List.map_nil]; rfl) (by simp only [qB, qC, qD, qE, qF, qG, qH, qJ, qK, qM, qN, qP, iop1, qR, qS, iop, qT, qV, qW, qX, qY, qZ, zA, Option.getD_some, zB, zC, zD, zE, zF, zG, zH, zJ, zK, zM, zN, Step1.ofO, lenC, callF, zP, zR, zS, zT, zV, cond_true, cond_false, decide_true, decide_false, beq_self_eq_true, Bool.false_eq_true, Bool.true_eq_false, zW, zX, zY, zZ, Bool.not_true, Bool.not_false, appC, copyC, yA, List.map_cons, List.map_nil, goInt, e109, enter_k n109f, ofK, k109]; rfl) (.ret ⟨.inr rfl, ires_tmp rfl (by simp only [qX, qY]), .refl _⟩)
  · cases hk
theorem e105 : enters Tryz.prog 105 = true := by kernel_rfl

/-! 32, 33: rows, list -/
noncomputable def k32 (args : List Value) (H : IH) : Option Value := match args with
  | [a, .int .i64 e, b, .int .i64 e2] => if e = e2 then k53 [a, b] H else some (.bool false)
  | _ => none
theorem k53_plain {a b v : Value} {H : IH} (h : k53 [a, b] H = some v) : ∃ t, v = .bool t := by
  unfold k53 at h
  simp only at h
  split at h
  · cases h; exact ⟨_, rfl⟩
  · cases h
noncomputable def nat36 : Nats := addNat nat35 32 k32
theorem pure35 : NatPure nat35 := addNat_pure pure34
theorem n53f : nat35 53 = some (ofK k53) := rfl
set_option maxRecDepth 10000 in
theorem setup36 : Setup Tryz.prog good nat36 (globG 3) := by
  refine plainN setup35 k32 Tryz.func32 rfl rfl fun args H v hk => ?_
  unfold k32 at hk
  split at hk
  · rename_i a e b e2
    split at hk
    · rename_i he
      subst he
      obtain ⟨t, rfl⟩ := k53_plain hk
      refine ⟨rfl, ?_⟩
      show Holds _ _ false _ [a, .int .i64 e, b, .int .i64 e, undef, undef, undef, undef, undef, undef, undef, undef, undef, undef, undef, undef, undef] H _
      refine setup35.regE 0 (by kernel_rfl) (by simp only [List.map_cons, List.map_nil]; rfl) (by simp only [qB, qC, qD, qE, qF, qG, qH, qJ, qK, qM, qN, qP, iop1, qR, qS, iop, qT, qV, qW, qX, qY, qZ, zA, Option.getD_some, zB, zC, zD, zE, zF, zG, zH, zJ, zK, zM, zN, Step1.ofO, lenC, callF, zP, zR, zS, zT, zV, cond_true, cond_false, decide_true, decide_false, beq_self_eq_true, Bool.false_eq_true, Bool.true_eq_false, zW, zX, zY, zZ, Bool.not_true, Bool.not_false, appC, copyC, yA, List.map_cons, List.map_nil, goInt]; rfl) ?_
      exact setup35.regE 0 (by kernel_rfl) (by simp only [List.map_cons, List.map_nil]; rfl) (by simp only [qB, qC, qD, qE, qF, qG, qH, qJ, qK, qM, qN, qP, iop1, qR, qS, iop, qT, qV, qW, qX, qY, qZ, zA, Option.getD_some, zB, zC, zD, zE, zF, zG, zH, zJ, zK, zM, zN, Step1.ofO, lenC, callF, zP, zR, zS, zT, zV, cond_true, cond_false, decide_true, decide_false, beq_self_eq_true, Bool.false_eq_true, Bool.true_eq_false, zW, zX, zY, zZ, Bool.not_true, Bool.not_false, appC, copyC, yA, List.map_cons, List.map_nil, goInt, e53, enter_k n53f, ofK, hk]; rfl) (.ret ⟨.inr rfl, ires_tmp rfl (by simp only [qX, qY]), .refl _⟩)
    · rename_i he
      cases hk
      have hb : (e == e2) = false := by simpa using he
      refine ⟨rfl, ?_⟩
      show Holds _ _ false _ [a, .int .i64 e, b, .int .i64 e2, undef, undef, undef, undef, undef, undef, undef, undef, undef, undef, undef, undef, undef] H _
      refine setup35.regE 0 (by kernel_rfl) (by simp only [List.map_cons, List.map_nil]; rfl) (by simp only [qB, qC, qD, qE, qF, qG, qH, qJ, qK, qM, qN, qP, iop1, qR, qS, iop, qT, qV, qW, qX, qY, qZ, zA, Option.getD_some, zB, zC, zD, zE, zF, zG, zH, zJ, zK, zM, zN, Step1.ofO, lenC, callF, zP, zR, zS, zT, zV, cond_true, cond_false, decide_true, decide_false, beq_self_eq_true, Bool.false_eq_true, Bool.true_eq_false, zW, zX, zY, zZ, Bool.not_true, Bool.not_false, appC, copyC, yA, List.map_cons, List.map_nil, goInt]; rfl) ?_
      exact setup35.regE 0 (by kernel_rfl) (by simp only [List.map_cons, List.map_nil]; rfl) (by simp only [qB, qC, qD, qE, qF, qG, qH, qJ, qK, qM, qN, qP, iop1, qR, qS, iop, qT, qV, qW, qX, qY, qZ, zA, Option.getD_some, zB, zC, zD, zE, zF, zG, zH, zJ, zK, zM, zN, Step1.ofO, lenC, callF, zP, zR, zS, zT, zV, cond_true, cond_false, decide_true, decide_false, beq_self_eq_true, Bool.false_eq_true, Bool.true_eq_false, zW, zX, zY, zZ, Bool.not_true, Bool.not_false, appC, copyC, yA, List.map_cons, List.map_nil, goInt, hb]; rfl) (.ret ⟨.inr rfl, ires_tmp rfl (by simp only [qX, qY]), .refl _⟩)
  · cases hk
theorem e32 : enters Tryz.prog 32 = true := by kernel_rfl
noncomputable def k33 (args : List Value) (H : IH) : Option Value := match args with
  | [a, .int .i64 e, b, .int .i64 e2] => if e = e2 then kSame [a, b] H else some (.bool false)
  | _ => none
theorem kSame_plain {a b v : Value} {H : IH} (h : kSame [a, b] H = some v) : ∃ t, v = .bool t := by
  unfold kSame at h
  simp only at h
  split at h
  · cases h; exact ⟨_, rfl⟩
  · cases h
noncomputable def nat37 : Nats := addNat nat36 33 k33
theorem pure36 : NatPure nat36 := addNat_pure pure35
theorem n52f : nat36 52 = some (ofK kSame) := rfl
set_option maxRecDepth 10000 in
theorem setup37 : Setup Tryz.prog good nat37 (globG 3) := by
  refine plainN setup36 k33 Tryz.func33 rfl rfl fun args H v hk => ?_
  unfold k33 at hk
  split at hk
  · rename_i a e b e2
    split at hk
    · rename_i he
      subst he
      obtain ⟨t, rfl⟩ := kSame_plain hk
      refine ⟨rfl, ?_⟩
      show Holds _ _ false _ [a, .int .i64 e, b, .int .i64 e, undef, undef, undef, undef, undef, undef, undef, undef, undef, undef, undef, undef, undef] H _
      refine setup36.regE 0 (by kernel_rfl) (by simp only [List.map_cons, List.map_nil]; rfl) (by simp only [qB, qC, qD, qE, qF, qG, qH, qJ, qK, qM, qN, qP, iop1, qR, qS, iop, qT, qV, qW, qX, qY, qZ, zA, Option.getD_some, zB, zC, zD, zE, zF, zG, zH, zJ, zK, zM, zN, Step1.ofO, lenC, callF, zP, zR, zS, zT, zV, cond_true, cond_false, decide_true, decide_false, beq_self_eq_true, Bool.false_eq_true, Bool.true_eq_false, zW, zX, zY, zZ, Bool.not_true, Bool.not_false, appC, copyC, yA, List.map_cons, List.map_nil, goInt]; rfl) ?_
      exact setup36.regE 0 (by kernel_rfl) (by simp only [List.map_cons, List.map_nil]; rfl) (by simp only [qB, qC, qD, qE, qF, qG, qH, qJ, qK, qM, qN, qP, iop1, qR, qS, iop, qT, qV, qW, qX, qY, qZ, zA, Option.getD_some, zB, zC, zD, zE, zF, zG, zH, zJ, zK, zM, zN, Step1.ofO, lenC, callF, zP, zR, zS, zT, zV, cond_true, cond_false, decide_true, decide_false, beq_self_eq_true, Bool.false_eq_true, Bool.true_eq_false, zW, zX, zY, zZ, Bool.not_true, Bool.not_false, appC, copyC, yA, List.map_cons, List.map_nil, goInt, e52, enter_k n52f, ofK, hk]; rfl) (.ret ⟨.inr rfl, ires_tmp rfl (by simp only [qX, qY]), .refl _⟩)
    · rename_i he
      cases hk
      have hb : (e == e2) = false := by simpa using he
      refine ⟨rfl, ?_⟩
      show Holds _ _ false _ [a, .int .i64 e, b, .int .i64 e2, undef, undef, undef, undef, undef, undef, undef, undef, undef, undef, undef, undef, undef] H _
      refine setup36.regE 0 (by kernel_rfl) (by simp only [List.map_cons, List.map_nil]; rfl) (by simp only [qB, qC, qD, qE, qF, qG, qH, qJ, qK, qM, qN, qP, iop1, qR, qS, iop, qT, qV, qW, qX, qY, qZ, zA, Option.getD_some, zB, zC, zD, zE, zF, zG, zH, zJ, zK, zM, zN, Step1.ofO, lenC, callF, zP, zR, zS, zT, zV, cond_true, cond_false, decide_true, decide_false, beq_self_eq_true, Bool.false_eq_true, Bool.true_eq_false, zW, zX, zY, zZ, Bool.not_true, Bool.not_false, appC, copyC, yA, List.map_cons, List.map_nil, goInt]; rfl) ?_
      exact setup36.regE 0 (by kernel_rfl) (by simp only [List.map_cons, List.map_nil]; rfl) (by simp only [qB, qC, qD, qE, qF, qG, qH, qJ, qK, qM, qN, qP, iop1, qR, qS, iop, qT, qV, qW, qX, qY, qZ, zA, Option.getD_some, zB, zC, zD, zE, zF, zG, zH, zJ, zK, zM, zN, Step1.ofO, lenC, callF, zP, zR, zS, zT, zV, cond_true, cond_false, decide_true, decide_false, beq_self_eq_true, Bool.false_eq_true, Bool.true_eq_false, zW, zX, zY, zZ, Bool.not_true, Bool.not_false, appC, copyC, yA, List.map_cons, List.map_nil, goInt, hb]; rfl) (.ret ⟨.inr rfl, ires_tmp rfl (by simp only [qX, qY]), .refl _⟩)
  · cases hk
theorem e33 : enters Tryz.prog 33 = true := by kernel_rfl
/-! 43: integer -/
noncomputable def k43 (args : List Value) (H : IH) : Option Value := match args with
  | [.int .i64 a, .int .i64 e, .int .i64 b, .int .i64 e2] => some (.bool (decide (e = e2 ∧ a = b)))
  | _ => none
noncomputable def nat38 : Nats := addNat nat37 43 k43
theorem pure37 : NatPure nat37 := addNat_pure pure36
set_option maxRecDepth 10000 in
theorem setup38 : Setup Tryz.prog good nat38 (globG 3) := by
  refine plainN setup37 k43 Tryz.func43 rfl rfl fun args H v hk => ?_
  unfold k43 at hk
  split at hk
  · rename_i a e b e2
    cases hk
    refine ⟨rfl, ?_⟩
    show Holds _ _ false _ [.int .i64 a, .int .i64 e, .int .i64 b, .int .i64 e2, undef, undef, undef, undef, undef, undef, undef, undef, undef, undef, undef, undef, undef] H _
    refine setup37.regE 0 (by kernel_rfl) (by simp only [List.map_cons, List.map_nil]; rfl) (by simp only [qB, qC, qD, qE, qF, qG, qH, qJ, qK, qM, qN, qP, iop1, qR, qS, iop, qT, qV, qW, qX, qY, qZ, zA, Option.getD_some, zB, zC, zD, zE, zF, zG, zH, zJ, zK, zM, zN, Step1.ofO, lenC, callF, zP, zR, zS, zT, zV, cond_true, cond_false, decide_true, decide_false, beq_self_eq_true, Bool.false_eq_true, Bool.true_eq_false, zW, zX, zY, zZ, Bool.not_true, Bool.not_false, appC, copyC, yA, List.map_cons, List.map_nil, goInt]; rfl) ?_
    by_cases he : e = e2
    · subst he
      have hab : (a == b) = decide (True ∧ a = b) := by by_cases h : a = b <;> simp [h]
      exact setup37.regE 0 (by kernel_rfl) (by simp only [List.map_cons, List.map_nil]; rfl) (by simp only [qB, qC, qD, qE, qF, qG, qH, qJ, qK, qM, qN, qP, iop1, qR, qS, iop, qT, qV, qW, qX, qY, qZ, zA, Option.getD_some, zB, zC, zD, zE, zF, zG, zH, zJ, zK, zM, zN, Step1.ofO, lenC, callF, zP, zR, zS, zT, zV, cond_true, cond_false, decide_true, decide_false, beq_self_eq_true, Bool.false_eq_true, Bool.true_eq_false, zW, zX, zY, zZ, Bool.not_true, Bool.not_false, appC, copyC, yA, List.map_cons, List.map_nil, goInt]; rfl) (.ret ⟨.inr rfl, ires_tmp rfl (by simp only [qX, qY, hab]), .refl _⟩)
    · have hb : (e == e2) = false := by simpa using he
      exact setup37.regE 0 (by kernel_rfl) (by simp only [List.map_cons, List.map_nil]; rfl) (by simp only [qB, qC, qD, qE, qF, qG, qH, qJ, qK, qM, qN, qP, iop1, qR, qS, iop, qT, qV, qW, qX, qY, qZ, zA, Option.getD_some, zB, zC, zD, zE, zF, zG, zH, zJ, zK, zM, zN, Step1.ofO, lenC, callF, zP, zR, zS, zT, zV, cond_true, cond_false, decide_true, decide_false, beq_self_eq_true, Bool.false_eq_true, Bool.true_eq_false, zW, zX, zY, zZ, Bool.not_true, Bool.not_false, appC, copyC, yA, List.map_cons, List.map_nil, goInt, hb]; rfl) (.ret ⟨.inr rfl, ires_tmp rfl (by simp only [qX, qY, he, false_and, decide_false]), .refl _⟩)
  · cases hk
theorem e43 : enters Tryz.prog 43 = true := by kernel_rfl
theorem pure38 : NatPure nat38 := addNat_pure pure37
end Go.Proofs.YtpdlblofcdcikaaGreatDoor
