/- The law PatternListed over the ideal heap. Conditions: none. -/
import Derived.Test.YtpdlblofcdcikaaGreatDoorG12
import Derived.Test.YtpdlblofcdcikaaGreatDoorF7
set_option linter.unusedSimpArgs false
set_option linter.unusedVariables false
namespace Go.Proofs.YtpdlblofcdcikaaGreatDoor
open Go.Idl

theorem ex20 {a : Option Addr} {n c : Nat} {b : Value} {H : IH} : iextract (.tuple #[.slice a n c, b]) 0 H = some (.val (.slice a n c) H) := rfl
theorem ex21 {a : Value} {k : IntKind} {z : Int} {H : IH} : iextract (.tuple #[a, .int k z]) 1 H = some (.val (.int k z) H) := rfl
theorem bEq22 : ((22 : Int) == 0) = false := rfl
theorem e45 : enters Tryz.prog 45 = true := by kernel_rfl
theorem pure45 : NatPure nat45 := addS_pure (addS_pure pure43)
noncomputable def c6 : Code := Tryz.f6.body.getD .skip
theorem yl16 : nat45 16 = some (ofK k16) := rfl
theorem yl18 : nat45 18 = some (ofK k18) := rfl
theorem yl20 : nat45 20 = some (ofK k20) := rfl
theorem yl38 : nat45 38 = some (ofK k38) := rfl
theorem yl30 : nat45 30 = some (ofK k89) := rfl
theorem yl37 : nat45 37 = some (ofK k87) := rfl
theorem yl44 : nat45 44 = some (ofK k44) := rfl
theorem yl32 : nat45 32 = some (ofK k32) := rfl
theorem b22 (a b : Int) (H : IH) : ibuildSlice Tryz.prog 22 2 [(0, .int .i64 a), (1, .int .i64 b)] H = some (.val (.slice (some ⟨H.size, 0, none⟩) 2 2) (H.push (.cells #[.int .i64 a, .int .i64 b] 3))) := by kernel_rfl
theorem new22 (a b : Int) (H : IH) : intsOf (H.push (.cells #[.int .i64 a, .int .i64 b] 3)) (.slice (some ⟨H.size, 0, none⟩) 2 2) = some [a, b] := intsOf_new [a, b] 2 (by simp)
set_option maxRecDepth 20000 in
theorem listed_holds {H : IH} {n c : Int} {w : Value} {nw : Nat} (hw : ∃ a cp, w = .slice a nw cp) (hzs : nw ≤ 27 → ∃ zs, intsOf H w = some zs) (hb : H.base ≤ H.size) :
    Holds Tryz.prog (globG 3) false c6 [.agg #[.int .i64 n, w], .int .i64 c, undef, undef, undef, undef, undef, undef, undef, undef, undef, undef, undef, undef, undef, undef, undef, undef, undef, undef, undef, undef, undef, undef, undef, undef, undef, undef, undef, undef, undef, undef, undef, undef, undef, undef, undef, undef, undef, undef, undef, undef, undef, undef, undef, undef, undef, undef, undef, undef, undef, undef, undef, undef, undef, undef, undef, undef, undef, undef, undef, undef, undef] H fun o => (o.e = .normal ∨ o.e = .ret) ∧ iresults Tryz.prog Tryz.f6 o.env o.H = some (.bool true) ∧ Old H o.H := by
  obtain ⟨aw, cw, rfl⟩ := hw
  refine setup45.regE 0 (by kernel_rfl) (by simp only [List.map_cons, List.map_nil]; rfl) (by simp only [Eops_cons, Eops_nil, Ewant_none, Ewant_some, dstAt_zero, dstAt_succ, wantT_some, wantN_bool, wantN_undef, goE_true, goE_false, thenE_ret, iop1, step_val, step_enter, iop, val_tmp, val_const, val_func, nthR_zero, nthR_succ, setR_zero, setR_succ, Option.getD_some, putD_some, putD_none, bin_lss, bin_leq, bin_gtr, bin_geq, bin_eql, bin_neq, bin_add, bin_sub, pick_bool, Step1.ofO, lenC, callF, mapR_nil, mapR_cons, un_dry, un_neg, un_not, cond_true, cond_false, decide_true, decide_false, beq_self_eq_true, Bool.false_eq_true, Bool.true_eq_false, beq_tt, beq_tf, beq_ft, beq_ff, Bool.not_true, Bool.not_false, appC, copyC, skipO_some, List.map_cons, List.map_nil, goInt, box_agg]; rfl) ?_
  have ho : Old H (H.push (.cells #[.int .i64 n, .slice aw nw cw] 24)) := .push _ _
  have hg1 : (H.push (.cells #[.int .i64 n, .slice aw nw cw] 24)).get H.size = some (.cells [.int .i64 n, .slice aw nw cw].toArray 24 (0, 0)) := get_push_eq
  have hb1 : (H.push (.cells #[.int .i64 n, .slice aw nw cw] 24)).base ≤ (H.push (.cells #[.int .i64 n, .slice aw nw cw] 24)).size := by show H.base ≤ H.size + 1; omega
  generalize H.push (.cells #[.int .i64 n, .slice aw nw cw] 24) = H1 at ho hg1 hb1
  have hl0 := load_cell (t := 3) ag3 (i := 0) hg1 rfl
  have hl1 := load_cell (t := 22) ag22 (i := 1) hg1 rfl
  by_cases h1 : (nw : Int) ≤ 27
  · refine setup45.ifW (by kernel_rfl) (by simp only [List.map_cons, List.map_nil]; rfl) (by simp only [Eops_cons, Eops_nil, Ewant_none, Ewant_some, dstAt_zero, dstAt_succ, wantT_some, wantN_bool, wantN_undef, goE_true, goE_false, thenE_ret, iop1, step_val, step_enter, iop, val_tmp, val_const, val_func, nthR_zero, nthR_succ, setR_zero, setR_succ, Option.getD_some, putD_some, putD_none, bin_lss, bin_leq, bin_gtr, bin_geq, bin_eql, bin_neq, bin_add, bin_sub, pick_bool, Step1.ofO, lenC, callF, mapR_nil, mapR_cons, un_dry, un_neg, un_not, cond_true, cond_false, decide_true, decide_false, beq_self_eq_true, Bool.false_eq_true, Bool.true_eq_false, beq_tt, beq_tf, beq_ft, beq_ff, Bool.not_true, Bool.not_false, appC, copyC, skipO_some, List.map_cons, List.map_nil, goInt, fA1, hl1, e16, enter_k yl16, ofK, k16, h1]; rfl) (by kernel_rfl) (by simp only [val_tmp, nthR_zero, nthR_succ, Option.getD_some]; rfl) (fun ht => by cases ht) (fun _ => .skip (ST.go ?_))
    obtain ⟨ws, hz⟩ := hzs (by omega)
    obtain ⟨aw', cw', hsl, hwl, _⟩ := intsOf_inv hz
    obtain ⟨rfl, hnw, rfl⟩ : aw = aw' ∧ nw = ws.length ∧ cw = cw' := by simpa using hsl
    subst hnw
    have hz1 := intsOf_old ho hz
    refine .seqW (setup45.drawZ pure45 0 (lo := []) (by kernel_rfl) (by kernel_rfl) (by kernel_rfl) (by kernel_rfl) (by kernel_rfl) (by kernel_rfl) (by kernel_rfl) (by simp only [List.map_cons, List.map_nil]; rfl) (by simp only [Eops_cons, Eops_nil, Ewant_none, Ewant_some, dstAt_zero, dstAt_succ, wantT_some, wantN_bool, wantN_undef, goE_true, goE_false, thenE_ret, iop1, step_val, step_enter, iop, val_tmp, val_const, val_func, nthR_zero, nthR_succ, setR_zero, setR_succ, Option.getD_some, putD_some, putD_none, bin_lss, bin_leq, bin_gtr, bin_geq, bin_eql, bin_neq, bin_add, bin_sub, pick_bool, Step1.ofO, lenC, callF, mapR_nil, mapR_cons, un_dry, un_neg, un_not, cond_true, cond_false, decide_true, decide_false, beq_self_eq_true, Bool.false_eq_true, Bool.true_eq_false, beq_tt, beq_tf, beq_ft, beq_ff, Bool.not_true, Bool.not_false, appC, copyC, skipO_some, List.map_cons, List.map_nil, goInt, fA0, hl0, fA1, hl1]; rfl) (by kernel_rfl) (ST.go ?_))
    have hk20 : k20 [.int .i64 n, .slice aw ws.length cw] H1 = some (.int .i64 (chkScheme n ws)) := by unfold k20; simp only [hz1, Option.map_some, scheme_eq]
    have hk87 : ∀ a b, k87 [.slice (some ⟨H1.size, 0, none⟩) 2 2] (H1.push (.cells #[.int .i64 a, .int .i64 b] 3)) = some (.int .i64 (firstNZ [a, b])) := fun a b => by unfold k87; simp only [new22, Option.map_some]
    refine setup45.regE 0 (by kernel_rfl) (by simp only [List.map_cons, List.map_nil]; rfl) (by simp only [Eops_cons, Eops_nil, Ewant_none, Ewant_some, dstAt_zero, dstAt_succ, wantT_some, wantN_bool, wantN_undef, goE_true, goE_false, thenE_ret, iop1, step_val, step_enter, iop, val_tmp, val_const, val_func, nthR_zero, nthR_succ, setR_zero, setR_succ, Option.getD_some, putD_some, putD_none, bin_lss, bin_leq, bin_gtr, bin_geq, bin_eql, bin_neq, bin_add, bin_sub, pick_bool, Step1.ofO, lenC, callF, mapR_nil, mapR_cons, un_dry, un_neg, un_not, cond_true, cond_false, decide_true, decide_false, beq_self_eq_true, Bool.false_eq_true, Bool.true_eq_false, beq_tt, beq_tf, beq_ft, beq_ff, Bool.not_true, Bool.not_false, appC, copyC, skipO_some, List.map_cons, List.map_nil, goInt, e20, enter_k yl20, ofK, hk20, e38, enter_k yl38, k38, e30, enter_k yl30, k89, b22, e37, enter_k yl37, hk87]; rfl) ?_
    have hE0 : firstNZ [chkScheme n ws, cond (decide (c < 1) || decide (8 < c)) 3 0] = errL n ws c := rfl
    rw [hE0]
    have ho2 : Old H1 (H1.push (.cells #[.int .i64 (chkScheme n ws), .int .i64 (cond (decide (c < 1) || decide (8 < c)) 3 0)] 3)) := .push _ _
    have hb2 : (H1.push (.cells #[.int .i64 (chkScheme n ws), .int .i64 (cond (decide (c < 1) || decide (8 < c)) 3 0)] 3)).base ≤ (H1.push (.cells #[.int .i64 (chkScheme n ws), .int .i64 (cond (decide (c < 1) || decide (8 < c)) 3 0)] 3)).size := by show H1.base ≤ H1.size + 1; omega
    generalize H1.push (.cells #[.int .i64 (chkScheme n ws), .int .i64 (cond (decide (c < 1) || decide (8 < c)) 3 0)] 3) = H2 at ho2 hb2
    have hz2 := intsOf_old ho2 hz1
    have hoA := ho.trans ho2
    refine setup45.ifJ (fun e h => h = H2 ∧ ∃ er : Int, e = [unk, .int .i64 c, unk, unk, unk, .int .i64 n, .slice aw ws.length cw, .int .i64 er, unk, unk, unk, unk, unk, unk, unk, unk, unk, unk, unk, unk, unk, unk, unk, unk, unk, unk, unk, unk, unk, unk, unk, unk, unk, unk, unk, unk, unk, unk, unk, unk, unk, unk, unk, unk, unk, unk, unk, unk, unk, unk, unk, unk, unk, unk, unk, unk, unk, unk, unk, unk, unk, unk, unk] ∧ ((errL n ws c ≠ 0 ∧ er = errL n ws c) ∨ (errL n ws c = 0 ∧ er = 22 ∧ 4096 < c.toNat ^ n.toNat) ∨ (errL n ws c = 0 ∧ er = 0 ∧ c.toNat ^ n.toNat ≤ 256))) (by kernel_rfl) (by simp only [List.map_cons, List.map_nil]; rfl) (by simp only [Eops_cons, Eops_nil, Ewant_none, Ewant_some, dstAt_zero, dstAt_succ, wantT_some, wantN_bool, wantN_undef, goE_true, goE_false, thenE_ret, iop1, step_val, step_enter, iop, val_tmp, val_const, val_func, nthR_zero, nthR_succ, setR_zero, setR_succ, Option.getD_some, putD_some, putD_none, bin_lss, bin_leq, bin_gtr, bin_geq, bin_eql, bin_neq, bin_add, bin_sub, pick_bool, Step1.ofO, lenC, callF, mapR_nil, mapR_cons, un_dry, un_neg, un_not, cond_true, cond_false, decide_true, decide_false, beq_self_eq_true, Bool.false_eq_true, Bool.true_eq_false, beq_tt, beq_tf, beq_ft, beq_ff, Bool.not_true, Bool.not_false, appC, copyC, skipO_some, List.map_cons, List.map_nil, goInt]; rfl) (by kernel_rfl) (by simp only [val_tmp, nthR_zero, nthR_succ, Option.getD_some]; rfl) (fun ht => ?_) (fun ht => ?_) ?_
    · have hE : errL n ws c = 0 := by simpa using ht
      obtain ⟨n', c', rfl, rfl, hn2, hn12, hc1, hc8, hok⟩ := errL_ok hE
      have hm1 : k44 [.int .i64 (c' : Int), .int .i64 (n' : Int), .int .i64 4096] H2 = some (.bool (decide (4096 < c' ^ n'))) := k44_eq (a := c') (k := n') (most := 4096) (H := H2) hc1 hc8 hn12 (by omega)
      have hm2 : k44 [.int .i64 (c' : Int), .int .i64 (n' : Int), .int .i64 256] H2 = some (.bool (decide (256 < c' ^ n'))) := k44_eq (a := c') (k := n') (most := 256) (H := H2) hc1 hc8 hn12 (by omega)
      refine setup45.regE 0 (by kernel_rfl) (by simp only [List.map_cons, List.map_nil]; rfl) (by simp only [Eops_cons, Eops_nil, Ewant_none, Ewant_some, dstAt_zero, dstAt_succ, wantT_some, wantN_bool, wantN_undef, goE_true, goE_false, thenE_ret, iop1, step_val, step_enter, iop, val_tmp, val_const, val_func, nthR_zero, nthR_succ, setR_zero, setR_succ, Option.getD_some, putD_some, putD_none, bin_lss, bin_leq, bin_gtr, bin_geq, bin_eql, bin_neq, bin_add, bin_sub, pick_bool, Step1.ofO, lenC, callF, mapR_nil, mapR_cons, un_dry, un_neg, un_not, cond_true, cond_false, decide_true, decide_false, beq_self_eq_true, Bool.false_eq_true, Bool.true_eq_false, beq_tt, beq_tf, beq_ft, beq_ff, Bool.not_true, Bool.not_false, appC, copyC, skipO_some, List.map_cons, List.map_nil, goInt, e44, enter_k yl44, ofK, hm1, e30, enter_k yl30, k89]; rfl) ?_
      by_cases h4 : 4096 < c' ^ n'
      · refine setup45.ifZ (by kernel_rfl) (by simp only [List.map_cons, List.map_nil]; rfl) (by simp only [Eops_cons, Eops_nil, Ewant_none, Ewant_some, dstAt_zero, dstAt_succ, wantT_some, wantN_bool, wantN_undef, goE_true, goE_false, thenE_ret, iop1, step_val, step_enter, iop, val_tmp, val_const, val_func, nthR_zero, nthR_succ, setR_zero, setR_succ, Option.getD_some, putD_some, putD_none, bin_lss, bin_leq, bin_gtr, bin_geq, bin_eql, bin_neq, bin_add, bin_sub, pick_bool, Step1.ofO, lenC, callF, mapR_nil, mapR_cons, un_dry, un_neg, un_not, cond_true, cond_false, decide_true, decide_false, beq_self_eq_true, Bool.false_eq_true, Bool.true_eq_false, beq_tt, beq_tf, beq_ft, beq_ff, Bool.not_true, Bool.not_false, appC, copyC, skipO_some, List.map_cons, List.map_nil, goInt, decide_eq_true h4, bEq22]; rfl) (by kernel_rfl) (by simp only [val_tmp, nthR_zero, nthR_succ, Option.getD_some]; rfl) (fun ht2 => by cases ht2) (fun _ => .skip (JT.go (by repeat (first | exact WkL.nil | refine WkL.same ?_ | refine WkL.any ?_)) ⟨rfl, 22, rfl, .inr (.inl ⟨hE, rfl, by simpa using h4⟩)⟩))
      · refine setup45.ifZ (by kernel_rfl) (by simp only [List.map_cons, List.map_nil]; rfl) (by simp only [Eops_cons, Eops_nil, Ewant_none, Ewant_some, dstAt_zero, dstAt_succ, wantT_some, wantN_bool, wantN_undef, goE_true, goE_false, thenE_ret, iop1, step_val, step_enter, iop, val_tmp, val_const, val_func, nthR_zero, nthR_succ, setR_zero, setR_succ, Option.getD_some, putD_some, putD_none, bin_lss, bin_leq, bin_gtr, bin_geq, bin_eql, bin_neq, bin_add, bin_sub, pick_bool, Step1.ofO, lenC, callF, mapR_nil, mapR_cons, un_dry, un_neg, un_not, cond_true, cond_false, decide_true, decide_false, beq_self_eq_true, Bool.false_eq_true, Bool.true_eq_false, beq_tt, beq_tf, beq_ft, beq_ff, Bool.not_true, Bool.not_false, appC, copyC, skipO_some, List.map_cons, List.map_nil, goInt, decide_eq_false h4, e44, enter_k yl44, ofK, hm2]; rfl) (by kernel_rfl) (by simp only [val_tmp, nthR_zero, nthR_succ, Option.getD_some]; rfl) (fun ht2 => ?_) (fun ht2 => .skip (JT.go (by repeat (first | exact WkL.nil | refine WkL.same ?_ | refine WkL.any ?_)) ⟨rfl, 0, rfl, .inr (.inr ⟨hE, rfl, by simp only [decide_eq_false_iff_not] at ht2; simp only [Int.toNat_natCast]; omega⟩)⟩))
        exact setup45.regE 0 (by kernel_rfl) (by simp only [List.map_cons, List.map_nil]; rfl) (by simp only [Eops_cons, Eops_nil, Ewant_none, Ewant_some, dstAt_zero, dstAt_succ, wantT_some, wantN_bool, wantN_undef, goE_true, goE_false, thenE_ret, iop1, step_val, step_enter, iop, val_tmp, val_const, val_func, nthR_zero, nthR_succ, setR_zero, setR_succ, Option.getD_some, putD_some, putD_none, bin_lss, bin_leq, bin_gtr, bin_geq, bin_eql, bin_neq, bin_add, bin_sub, pick_bool, Step1.ofO, lenC, callF, mapR_nil, mapR_cons, un_dry, un_neg, un_not, cond_true, cond_false, decide_true, decide_false, beq_self_eq_true, Bool.false_eq_true, Bool.true_eq_false, beq_tt, beq_tf, beq_ft, beq_ff, Bool.not_true, Bool.not_false, appC, copyC, skipO_some, List.map_cons, List.map_nil, goInt, e18, enter_k yl18, ofK, k18]; rfl) (.ret (JT.rt ⟨.inr rfl, ires_tmp rfl (by simp only [nthR_zero, nthR_succ]), hoA⟩))
    · have hE : errL n ws c ≠ 0 := by simpa using ht
      exact .skip (JT.go (by repeat (first | exact WkL.nil | refine WkL.same ?_ | refine WkL.any ?_)) ⟨rfl, _, rfl, .inl ⟨hE, rfl⟩⟩)
    · rintro e h ⟨rfl, er, rfl, hcase⟩
      have hpre : pre45 (n, .slice aw ws.length cw, ws, c) [.int .i64 n, .slice aw ws.length cw, .int .i64 c] h := ⟨rfl, hz2, hb2, fun hE => by
        rcases hcase with ⟨h, _⟩ | ⟨_, _, h⟩ | ⟨_, _, h⟩
        · exact absurd hE h
        · exact .inr h
        · exact .inl h⟩
      refine setup45.regS (by kernel_rfl) (by simp only [List.map_cons, List.map_nil]; rfl) ?_; simp only [Eops_cons, Eops_nil, Ewant_none, Ewant_some, dstAt_zero, dstAt_succ, wantT_some, wantN_bool, wantN_undef, goE_true, goE_false, thenE_ret, iop1, step_val, step_enter, iop, val_tmp, val_const, val_func, nthR_zero, nthR_succ, setR_zero, setR_succ, Option.getD_some, putD_some, putD_none, bin_lss, bin_leq, bin_gtr, bin_geq, bin_eql, bin_neq, bin_add, bin_sub, pick_bool, Step1.ofO, lenC, callF, mapR_nil, mapR_cons, un_dry, un_neg, un_not, cond_true, cond_false, decide_true, decide_false, beq_self_eq_true, Bool.false_eq_true, Bool.true_eq_false, beq_tt, beq_tf, beq_ft, beq_ff, Bool.not_true, Bool.not_false, appC, copyC, skipO_some, List.map_cons, List.map_nil, goInt, thenE_sp, holds_ret, e45, enter_s (x := (n, .slice aw ws.length cw, ws, c)) (show nat45 45 = some (ofS pre45 post45) from rfl) uniq45 hpre]
      rintro v3 H3 ⟨hold3, ov, rows, zss, e3, rfl, hout, hrows, p1, p2, p3⟩
      have hzl : zss.length ≤ 256 ∧ ∀ zs ∈ zss, zs.length ≤ 1000 := by
        rcases hcase with ⟨hE, _⟩ | ⟨hE, _, hgt⟩ | ⟨hE, _, hle⟩
        · rw [(p1 hE).1]; simp
        · rw [(p2 hE hgt).1]; simp
        · obtain ⟨n', c', rfl, rfl, hn2, hn12, hc1, hc8, hok⟩ := errL_ok hE
          rw [(p3 hE hle).1]
          simp only [Int.toNat_natCast] at hle ⊢
          refine ⟨Nat.le_trans (listN_len _ _ _ _) hle, fun zs hzs => ?_⟩
          rw [listN_row _ _ _ _ zs hzs]; omega
      obtain ⟨rs1, hr1, hm1⟩ := pic_of hout hrows (by omega) hzl.2
      have he3 : e3 = er := by
        rcases hcase with ⟨hE, h⟩ | ⟨hE, h, hgt⟩ | ⟨hE, h, hle⟩
        · rw [(p1 hE).2, h]
        · rw [(p2 hE hgt).2, h]
        · rw [(p3 hE hle).2, h]
      subst he3
      obtain ⟨aov, hov⟩ := hout.len
      rw [hov]
      simp only [Eops_cons, Eops_nil, Ewant_none, Ewant_some, dstAt_zero, dstAt_succ, wantT_some, wantN_bool, wantN_undef, goE_true, goE_false, thenE_ret, iop1, step_val, step_enter, iop, val_tmp, val_const, val_func, nthR_zero, nthR_succ, setR_zero, setR_succ, Option.getD_some, putD_some, putD_none, bin_lss, bin_leq, bin_gtr, bin_geq, bin_eql, bin_neq, bin_add, bin_sub, pick_bool, Step1.ofO, lenC, callF, mapR_nil, mapR_cons, un_dry, un_neg, un_not, cond_true, cond_false, decide_true, decide_false, beq_self_eq_true, Bool.false_eq_true, Bool.true_eq_false, beq_tt, beq_tf, beq_ft, beq_ff, Bool.not_true, Bool.not_false, appC, copyC, skipO_some, List.map_cons, List.map_nil, goInt, thenE_sp, holds_ret, ex20, ex21]
      rw [← hov]
      have hb3 : H3.base ≤ H3.size := by rw [hold3.base]; have := hold3.size; omega
      refine setup45.regE 0 (by kernel_rfl) (by simp only [List.map_cons, List.map_nil]; rfl) (by simp only [Eops_cons, Eops_nil, Ewant_none, Ewant_some, dstAt_zero, dstAt_succ, wantT_some, wantN_bool, wantN_undef, goE_true, goE_false, thenE_ret, iop1, step_val, step_enter, iop, val_tmp, val_const, val_func, nthR_zero, nthR_succ, setR_zero, setR_succ, Option.getD_some, putD_some, putD_none, bin_lss, bin_leq, bin_gtr, bin_geq, bin_eql, bin_neq, bin_add, bin_sub, pick_bool, Step1.ofO, lenC, callF, mapR_nil, mapR_cons, un_dry, un_neg, un_not, cond_true, cond_false, decide_true, decide_false, beq_self_eq_true, Bool.false_eq_true, Bool.true_eq_false, beq_tt, beq_tf, beq_ft, beq_ff, Bool.not_true, Bool.not_false, appC, copyC, skipO_some, List.map_cons, List.map_nil, goInt]; rfl) ?_
      refine setup45.ifJ (fun e h => ∃ wv rs2, e = [unk, unk, unk, unk, unk, unk, unk, .int .i64 e3, ov, .int .i64 e3, wv, unk, unk, unk, unk, unk, unk, unk, unk, unk, unk, unk, unk, unk, unk, unk, unk, unk, unk, unk, unk, unk, unk, unk, unk, unk, unk, unk, unk, unk, unk, unk, unk, unk, unk, unk, unk, unk, unk, unk, unk, unk, unk, unk, unk, unk, unk, unk, unk, unk, unk, unk, unk] ∧ Old H3 h ∧ picOf h wv = some rs2 ∧ rs2.map (·.2) = zss) (by kernel_rfl) (by simp only [List.map_cons, List.map_nil]; rfl) (by simp only [Eops_cons, Eops_nil, Ewant_none, Ewant_some, dstAt_zero, dstAt_succ, wantT_some, wantN_bool, wantN_undef, goE_true, goE_false, thenE_ret, iop1, step_val, step_enter, iop, val_tmp, val_const, val_func, nthR_zero, nthR_succ, setR_zero, setR_succ, Option.getD_some, putD_some, putD_none, bin_lss, bin_leq, bin_gtr, bin_geq, bin_eql, bin_neq, bin_add, bin_sub, pick_bool, Step1.ofO, lenC, callF, mapR_nil, mapR_cons, un_dry, un_neg, un_not, cond_true, cond_false, decide_true, decide_false, beq_self_eq_true, Bool.false_eq_true, Bool.true_eq_false, beq_tt, beq_tf, beq_ft, beq_ff, Bool.not_true, Bool.not_false, appC, copyC, skipO_some, List.map_cons, List.map_nil, goInt]; rfl) (by kernel_rfl) (by simp only [val_tmp, nthR_zero, nthR_succ, Option.getD_some]; rfl) (fun ht => ?_) (fun ht => ?_) ?_
      · have hE0 : e3 = 0 := by simpa using ht
        have hcase3 : errL n ws c = 0 ∧ c.toNat ^ n.toNat ≤ 256 := by
          rcases hcase with ⟨hE, h⟩ | ⟨hE, h, hgt⟩ | ⟨hE, h, hle⟩
          · rw [hE0] at h; exact absurd h.symm hE
          · rw [hE0] at h; cases h
          · exact ⟨hE, hle⟩
        obtain ⟨hE, hle⟩ := hcase3
        obtain ⟨n', c', rfl, rfl, hn2, hn12, hc1, hc8, hok⟩ := errL_ok hE
        have hz3 := intsOf_old hold3 hz2
        have hp3 := (p3 hE hle).1
        simp only [Int.toNat_natCast] at hle hp3
        refine setup45.regSZ (by kernel_rfl) (by simp only [List.map_cons, List.map_nil]; rfl) ?_; simp only [Eops_cons, Eops_nil, Ewant_none, Ewant_some, dstAt_zero, dstAt_succ, wantT_some, wantN_bool, wantN_undef, goE_true, goE_false, thenE_ret, iop1, step_val, step_enter, iop, val_tmp, val_const, val_func, nthR_zero, nthR_succ, setR_zero, setR_succ, Option.getD_some, putD_some, putD_none, bin_lss, bin_leq, bin_gtr, bin_geq, bin_eql, bin_neq, bin_add, bin_sub, pick_bool, Step1.ofO, lenC, callF, mapR_nil, mapR_cons, un_dry, un_neg, un_not, cond_true, cond_false, decide_true, decide_false, beq_self_eq_true, Bool.false_eq_true, Bool.true_eq_false, beq_tt, beq_tf, beq_ft, beq_ff, Bool.not_true, Bool.not_false, appC, copyC, skipO_some, List.map_cons, List.map_nil, goInt, thenE_sp, holds_ret, e46, enter_s (x := (n', .slice aw ws.length cw, ws, c')) (show nat45 46 = some (ofS pre46 post46) from rfl) uniq46 ⟨rfl, hz3, hb3, hok, hn2, hn12, hc1, hc8, hle⟩]
        rintro v4 H4 ⟨hold4, rows4, hout4, hrows4⟩
        simp only at hrows4
        rw [← hp3] at hrows4
        obtain ⟨rs2, hr2, hm2⟩ := pic_of hout4 hrows4 (by omega) hzl.2
        exact JT.go (by repeat (first | exact WkL.nil | refine WkL.same ?_ | refine WkL.any ?_)) ⟨v4, rs2, rfl, hold4, hr2, hm2⟩
      · have hE0 : e3 ≠ 0 := by simpa using ht
        have hnil : zss = [] := by
          rcases hcase with ⟨hE, h⟩ | ⟨hE, h, hgt⟩ | ⟨hE, h, hle⟩
          · exact (p1 hE).1
          · exact (p2 hE hgt).1
          · exact absurd h hE0
        exact .skip (JT.go (by repeat (first | exact WkL.nil | refine WkL.same ?_ | refine WkL.any ?_)) ⟨.slice none 0 0, [], rfl, .refl _, rfl, by rw [hnil]; rfl⟩)
      · rintro e h4 ⟨wv, rs2, rfl, hold4, hr2, hm2⟩
        have hk32 : k32 [ov, .int .i64 e3, wv, .int .i64 e3] h4 = some (.bool true) := by
          unfold k32
          simp only [if_true]
          rw [k53_eq (picOf_old hold4 hr1) hr2, hm1, hm2]
          simp
        exact setup45.regE 0 (by kernel_rfl) (by simp only [List.map_cons, List.map_nil]; rfl) (by simp only [Eops_cons, Eops_nil, Ewant_none, Ewant_some, dstAt_zero, dstAt_succ, wantT_some, wantN_bool, wantN_undef, goE_true, goE_false, thenE_ret, iop1, step_val, step_enter, iop, val_tmp, val_const, val_func, nthR_zero, nthR_succ, setR_zero, setR_succ, Option.getD_some, putD_some, putD_none, bin_lss, bin_leq, bin_gtr, bin_geq, bin_eql, bin_neq, bin_add, bin_sub, pick_bool, Step1.ofO, lenC, callF, mapR_nil, mapR_cons, un_dry, un_neg, un_not, cond_true, cond_false, decide_true, decide_false, beq_self_eq_true, Bool.false_eq_true, Bool.true_eq_false, beq_tt, beq_tf, beq_ft, beq_ff, Bool.not_true, Bool.not_false, appC, copyC, skipO_some, List.map_cons, List.map_nil, goInt, e32, enter_k yl32, ofK, hk32, e18, enter_k yl18, k18]; rfl) (.ret ⟨.inr rfl, ires_tmp rfl (by simp only [nthR_zero, nthR_succ]), (hoA.trans hold3).trans hold4⟩)
  · refine setup45.ifW (by kernel_rfl) (by simp only [List.map_cons, List.map_nil]; rfl) (by simp only [Eops_cons, Eops_nil, Ewant_none, Ewant_some, dstAt_zero, dstAt_succ, wantT_some, wantN_bool, wantN_undef, goE_true, goE_false, thenE_ret, iop1, step_val, step_enter, iop, val_tmp, val_const, val_func, nthR_zero, nthR_succ, setR_zero, setR_succ, Option.getD_some, putD_some, putD_none, bin_lss, bin_leq, bin_gtr, bin_geq, bin_eql, bin_neq, bin_add, bin_sub, pick_bool, Step1.ofO, lenC, callF, mapR_nil, mapR_cons, un_dry, un_neg, un_not, cond_true, cond_false, decide_true, decide_false, beq_self_eq_true, Bool.false_eq_true, Bool.true_eq_false, beq_tt, beq_tf, beq_ft, beq_ff, Bool.not_true, Bool.not_false, appC, copyC, skipO_some, List.map_cons, List.map_nil, goInt, fA1, hl1, e16, enter_k yl16, ofK, k16, h1]; rfl) (by kernel_rfl) (by simp only [val_tmp, nthR_zero, nthR_succ, Option.getD_some]; rfl) (fun ht => ?_) (fun ht => by cases ht)
    exact setup45.regE 0 (by kernel_rfl) (by simp only [List.map_cons, List.map_nil]; rfl) (by simp only [Eops_cons, Eops_nil, Ewant_none, Ewant_some, dstAt_zero, dstAt_succ, wantT_some, wantN_bool, wantN_undef, goE_true, goE_false, thenE_ret, iop1, step_val, step_enter, iop, val_tmp, val_const, val_func, nthR_zero, nthR_succ, setR_zero, setR_succ, Option.getD_some, putD_some, putD_none, bin_lss, bin_leq, bin_gtr, bin_geq, bin_eql, bin_neq, bin_add, bin_sub, pick_bool, Step1.ofO, lenC, callF, mapR_nil, mapR_cons, un_dry, un_neg, un_not, cond_true, cond_false, decide_true, decide_false, beq_self_eq_true, Bool.false_eq_true, Bool.true_eq_false, beq_tt, beq_tf, beq_ft, beq_ff, Bool.not_true, Bool.not_false, appC, copyC, skipO_some, List.map_cons, List.map_nil, goInt, e18, enter_k yl18, ofK, k18]; rfl) (.ret (ST.rt ⟨.inr rfl, ires_tmp rfl (by simp only [nthR_zero, nthR_succ]), ho⟩))
end Go.Proofs.YtpdlblofcdcikaaGreatDoor
