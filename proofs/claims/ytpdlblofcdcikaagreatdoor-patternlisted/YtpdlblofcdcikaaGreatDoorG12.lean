/- Contract of the reference's Listed. Conditions: none. -/
import Derived.Test.YtpdlblofcdcikaaGreatDoorG11
set_option linter.unusedSimpArgs false
set_option linter.unusedVariables false
namespace Go.Proofs.YtpdlblofcdcikaaGreatDoor
open Go.Idl

/-! 46: Listed -/
def pre46 (x : Nat × Value × List Int × Nat) (args : List Value) (H : IH) : Prop := args = [.int .i64 (x.1 : Int), x.2.1, .int .i64 (x.2.2.2 : Int)] ∧ intsOf H x.2.1 = some x.2.2.1 ∧ H.base ≤ H.size ∧ okW x.1 x.2.2.1 ∧ 2 ≤ x.1 ∧ x.1 ≤ 12 ∧ 1 ≤ x.2.2.2 ∧ x.2.2.2 ≤ 8 ∧ x.2.2.2 ^ x.1 ≤ 256
def post46 (x : Nat × Value × List Int × Nat) (H : IH) (v : Value) (H' : IH) : Prop := Old H H' ∧ ∃ rows, Grown H' 22 H.size v rows ∧ IRows H' 3 H.size H'.size rows (listN (fromL x.1 x.2.2.1) x.2.2.2 x.1 (x.2.2.2 ^ x.1))
theorem uniq46 (x y : Nat × Value × List Int × Nat) (args : List Value) (H : IH) (hx : pre46 x args H) (hy : pre46 y args H) : x = y := by
  obtain ⟨n, v, ws, r⟩ := x
  obtain ⟨n', v', ws', r'⟩ := y
  have h1 := hx.1.symm.trans hy.1
  simp at h1
  obtain ⟨h1, rfl, h3⟩ := h1
  have h2 := hx.2.1.symm.trans hy.2.1
  simp at h2
  subst h2
  have e1 : n = n' := by omega
  have e2 : r = r' := by omega
  rw [e1, e2]
noncomputable def nat45 : Nats := addS nat44 46 pre46 post46
theorem n114h : nat44 114 = some (ofK kPow) := rfl
theorem n52h : nat44 52 = some (ofK kSame) := rfl
theorem n51h : nat44 51 = some (ofK k51) := rfl
set_option maxRecDepth 10000 in
theorem setup45 : Setup Tryz.prog good nat45 (globG 3) := setup44.addS pre46 post46 fun x args H ⟨ha, hz, hb, hok, hn2, hn12, hc1, hc8, hle⟩ => by
  obtain ⟨n, wv, ws, c⟩ := x
  simp only at ha hz hok hn2 hn12 hc1 hc8 hle
  subst ha
  obtain ⟨aw, cw, rfl, hwl, _⟩ := intsOf_inv hz
  refine CallI.of Tryz.func46 rfl (N := 64) rfl ?_
  show Holds _ _ false _ [.int .i64 n, .slice aw ws.length cw, .int .i64 c, undef, undef, undef, undef, undef, undef, undef, undef, undef, undef, undef, undef, undef, undef, undef, undef, undef, undef, undef, undef, undef, undef, undef, undef, undef, undef, undef, undef, undef, undef, undef, undef, undef, undef, undef, undef, undef, undef, undef, undef, undef, undef, undef, undef, undef, undef, undef, undef, undef, undef, undef, undef, undef, undef, undef, undef, undef, undef, undef, undef, undef] H _
  refine setup44.regE 0 (by kernel_rfl) (by simp only [List.map_cons, List.map_nil]; rfl) (by simp only [Eops_cons, Eops_nil, Ewant_none, Ewant_some, dstAt_zero, dstAt_succ, wantT_some, wantN_bool, wantN_undef, goE_true, goE_false, thenE_ret, iop1, step_val, step_enter, iop, val_tmp, val_const, val_func, nthR_zero, nthR_succ, setR_zero, setR_succ, Option.getD_some, putD_some, putD_none, bin_lss, bin_leq, bin_gtr, bin_geq, bin_eql, bin_neq, bin_add, bin_sub, pick_bool, Step1.ofO, lenC, callF, mapR_nil, mapR_cons, un_dry, un_neg, un_not, cond_true, cond_false, decide_true, decide_false, beq_self_eq_true, Bool.false_eq_true, Bool.true_eq_false, beq_tt, beq_tf, beq_ft, beq_ff, Bool.not_true, Bool.not_false, appC, copyC, skipO_some, List.map_cons, List.map_nil, goInt]; rfl) ?_
  refine setup44.regE 0 (by kernel_rfl) (by simp only [List.map_cons, List.map_nil]; rfl) (by simp only [Eops_cons, Eops_nil, Ewant_none, Ewant_some, dstAt_zero, dstAt_succ, wantT_some, wantN_bool, wantN_undef, goE_true, goE_false, thenE_ret, iop1, step_val, step_enter, iop, val_tmp, val_const, val_func, nthR_zero, nthR_succ, setR_zero, setR_succ, Option.getD_some, putD_some, putD_none, bin_lss, bin_leq, bin_gtr, bin_geq, bin_eql, bin_neq, bin_add, bin_sub, pick_bool, Step1.ofO, lenC, callF, mapR_nil, mapR_cons, un_dry, un_neg, un_not, cond_true, cond_false, decide_true, decide_false, beq_self_eq_true, Bool.false_eq_true, Bool.true_eq_false, beq_tt, beq_tf, beq_ft, beq_ff, Bool.not_true, Bool.not_false, appC, copyC, skipO_some, List.map_cons, List.map_nil, goInt]; rfl) ?_
  generalize hf : fromL n ws = f
  have hfis : PermL n f := hf ▸ fromL_is hok
  obtain ⟨per, hper0, hper⟩ := comes_back (by omega) hfis
  have hmv : ∀ x : List Int, x.length = n → scatN (permL n ws) x n n = gathL f x := fun x hx => hf ▸ moved_eq (by omega) hok hx
  refine .seqW (setup44.regE 0 (by kernel_rfl) (by simp only [List.map_cons, List.map_nil]; rfl) (by simp only [Eops_cons, Eops_nil, Ewant_none, Ewant_some, dstAt_zero, dstAt_succ, wantT_some, wantN_bool, wantN_undef, goE_true, goE_false, thenE_ret, iop1, step_val, step_enter, iop, val_tmp, val_const, val_func, nthR_zero, nthR_succ, setR_zero, setR_succ, Option.getD_some, putD_some, putD_none, bin_lss, bin_leq, bin_gtr, bin_geq, bin_eql, bin_neq, bin_add, bin_sub, pick_bool, Step1.ofO, lenC, callF, mapR_nil, mapR_cons, un_dry, un_neg, un_not, cond_true, cond_false, decide_true, decide_false, beq_self_eq_true, Bool.false_eq_true, Bool.true_eq_false, beq_tt, beq_tf, beq_ft, beq_ff, Bool.not_true, Bool.not_false, appC, copyC, skipO_some, List.map_cons, List.map_nil, goInt]; rfl) ?_)
  refine .loopW (fun m e h => ∃ (k : Nat) (ov : Value) (rows : List Value), k ≤ c ^ n ∧ m = c ^ n - k ∧ e = [.int .i64 n, .slice aw ws.length cw, .int .i64 c, unk, unk, unk, unk, ov, .int .i64 (k : Nat), unk, unk, unk, unk, unk, unk, unk, unk, unk, unk, unk, unk, unk, unk, unk, unk, unk, unk, unk, unk, unk, unk, unk, unk, unk, unk, unk, unk, unk, unk, unk, unk, unk, unk, unk, unk, unk, unk, unk, unk, unk, unk, unk, unk, unk, unk, unk, unk, unk, unk, unk, unk, unk, unk, unk] ∧ Old H h ∧
      Grown h 22 H.size ov rows ∧ IRows h 3 H.size h.size rows (listN f c n k)) (c ^ n)
    [.int .i64 n, .slice aw ws.length cw, .int .i64 c, unk, unk, unk, unk, .slice none 0 0, .int .i64 0, unk, unk, unk, unk, unk, unk, unk, unk, unk, unk, unk, unk, unk, unk, unk, unk, unk, unk, unk, unk, unk, unk, unk, unk, unk, unk, unk, unk, unk, unk, unk, unk, unk, unk, unk, unk, unk, unk, unk, unk, unk, unk, unk, unk, unk, unk, unk, unk, unk, unk, unk, unk, unk, unk, unk] (by repeat (first | exact WkL.nil | refine WkL.same ?_ | refine WkL.any ?_))
    ⟨0, _, [], Nat.zero_le _, rfl, rfl, .refl _, .nil _ _ _, .nil _ _ _ _⟩ ?_
  rintro m e h ⟨k, ov, rows, hk, rfl, rfl, hold, hout, hrows⟩
  have hbh : h.base ≤ H.size := by rw [hold.base]; exact hb
  refine setup44.headW2 (by kernel_rfl) (by simp only [List.map_cons, List.map_nil]; rfl) (by simp only [Eops_cons, Eops_nil, Ewant_none, Ewant_some, dstAt_zero, dstAt_succ, wantT_some, wantN_bool, wantN_undef, goE_true, goE_false, thenE_ret, iop1, step_val, step_enter, iop, val_tmp, val_const, val_func, nthR_zero, nthR_succ, setR_zero, setR_succ, Option.getD_some, putD_some, putD_none, bin_lss, bin_leq, bin_gtr, bin_geq, bin_eql, bin_neq, bin_add, bin_sub, pick_bool, Step1.ofO, lenC, callF, mapR_nil, mapR_cons, un_dry, un_neg, un_not, cond_true, cond_false, decide_true, decide_false, beq_self_eq_true, Bool.false_eq_true, Bool.true_eq_false, beq_tt, beq_tf, beq_ft, beq_ff, Bool.not_true, Bool.not_false, appC, copyC, skipO_some, List.map_cons, List.map_nil, goInt, e114, enter_k n114h, ofK, kPow_eq (a := c) (k := n) (by omega) (by omega)]; rfl) (by kernel_rfl) (by simp only [val_tmp, nthR_zero, nthR_succ, Option.getD_some]; rfl) (fun ht5 => ?_) (fun ht5 => ?_)
  · have hlt : k < c ^ n := by simp only [decide_eq_true_eq] at ht5; omega
    refine .blockW (setup44.regE 0 (by kernel_rfl) (by simp only [List.map_cons, List.map_nil]; rfl) (by simp only [Eops_cons, Eops_nil, Ewant_none, Ewant_some, dstAt_zero, dstAt_succ, wantT_some, wantN_bool, wantN_undef, goE_true, goE_false, thenE_ret, iop1, step_val, step_enter, iop, val_tmp, val_const, val_func, nthR_zero, nthR_succ, setR_zero, setR_succ, Option.getD_some, putD_some, putD_none, bin_lss, bin_leq, bin_gtr, bin_geq, bin_eql, bin_neq, bin_add, bin_sub, pick_bool, Step1.ofO, lenC, callF, mapR_nil, mapR_cons, un_dry, un_neg, un_not, cond_true, cond_false, decide_true, decide_false, beq_self_eq_true, Bool.false_eq_true, Bool.true_eq_false, beq_tt, beq_tf, beq_ft, beq_ff, Bool.not_true, Bool.not_false, appC, copyC, skipO_some, List.map_cons, List.map_nil, goInt, mk22 (n := n) (by omega)]; rfl) ?_)
    generalize hv : Value.slice (some ⟨h.size, 0, none⟩) n n = v
    have hown : OwnAt (h.push (.cells ((List.replicate n (0 : Int)).map (Value.int .i64)).toArray 3)) 3 h.size v (digP c n k 0) := by rw [← hv, digP_zero]; exact OwnAt.zeros _
    have holdp := Old.push h (.cells ((List.replicate n (0 : Int)).map (Value.int .i64)).toArray 3)
    generalize h.push (.cells ((List.replicate n (0 : Int)).map (Value.int .i64)).toArray 3) = h1 at hown holdp
    refine setup44.regE 0 (by kernel_rfl) (by simp only [List.map_cons, List.map_nil]; rfl) (by simp only [Eops_cons, Eops_nil, Ewant_none, Ewant_some, dstAt_zero, dstAt_succ, wantT_some, wantN_bool, wantN_undef, goE_true, goE_false, thenE_ret, iop1, step_val, step_enter, iop, val_tmp, val_const, val_func, nthR_zero, nthR_succ, setR_zero, setR_succ, Option.getD_some, putD_some, putD_none, bin_lss, bin_leq, bin_gtr, bin_geq, bin_eql, bin_neq, bin_add, bin_sub, pick_bool, Step1.ofO, lenC, callF, mapR_nil, mapR_cons, un_dry, un_neg, un_not, cond_true, cond_false, decide_true, decide_false, beq_self_eq_true, Bool.false_eq_true, Bool.true_eq_false, beq_tt, beq_tf, beq_ft, beq_ff, Bool.not_true, Bool.not_false, appC, copyC, skipO_some, List.map_cons, List.map_nil, goInt]; rfl) ?_
    refine .seqW (setup44.regE 0 (by kernel_rfl) (by simp only [List.map_cons, List.map_nil]; rfl) (by simp only [Eops_cons, Eops_nil, Ewant_none, Ewant_some, dstAt_zero, dstAt_succ, wantT_some, wantN_bool, wantN_undef, goE_true, goE_false, thenE_ret, iop1, step_val, step_enter, iop, val_tmp, val_const, val_func, nthR_zero, nthR_succ, setR_zero, setR_succ, Option.getD_some, putD_some, putD_none, bin_lss, bin_leq, bin_gtr, bin_geq, bin_eql, bin_neq, bin_add, bin_sub, pick_bool, Step1.ofO, lenC, callF, mapR_nil, mapR_cons, un_dry, un_neg, un_not, cond_true, cond_false, decide_true, decide_false, beq_self_eq_true, Bool.false_eq_true, Bool.true_eq_false, beq_tt, beq_tf, beq_ft, beq_ff, Bool.not_true, Bool.not_false, appC, copyC, skipO_some, List.map_cons, List.map_nil, goInt, wrap_pred (k := n) (by omega) (by omega)]; rfl) ?_)
    refine .loopW (fun m e h2 => ∃ (t : Nat), t ≤ n ∧ m = n - t ∧ e = [.int .i64 n, .slice aw ws.length cw, .int .i64 c, unk, unk, unk, unk, ov, .int .i64 (k : Nat), v, .int .i64 ((k / c ^ t : Nat) : Int), .int .i64 ((n : Int) - 1 - (t : Int)), unk, unk, unk, unk, unk, unk, unk, unk, unk, unk, unk, unk, unk, unk, unk, unk, unk, unk, unk, unk, unk, unk, unk, unk, unk, unk, unk, unk, unk, unk, unk, unk, unk, unk, unk, unk, unk, unk, unk, unk, unk, unk, unk, unk, unk, unk, unk, unk, unk, unk, unk, unk] ∧ Old h h2 ∧ OwnAt h2 3 h.size v (digP c n k t)) n
      [.int .i64 n, .slice aw ws.length cw, .int .i64 c, unk, unk, unk, unk, ov, .int .i64 (k : Nat), v, .int .i64 (k : Nat), .int .i64 ((n - 1 : Nat) : Int), unk, unk, unk, unk, unk, unk, unk, unk, unk, unk, unk, unk, unk, unk, unk, unk, unk, unk, unk, unk, unk, unk, unk, unk, unk, unk, unk, unk, unk, unk, unk, unk, unk, unk, unk, unk, unk, unk, unk, unk, unk, unk, unk, unk, unk, unk, unk, unk, unk, unk, unk, unk] (by repeat (first | exact WkL.nil | refine WkL.same ?_ | refine WkL.any ?_))
      ⟨0, Nat.zero_le _, rfl, by rw [Nat.pow_zero, Nat.div_one, show ((n - 1 : Nat) : Int) = (n : Int) - 1 - ((0 : Nat) : Int) by omega], holdp, hown⟩ ?_
    rintro m e h2 ⟨t, ht, rfl, rfl, hold2', hown2⟩
    refine setup44.headW2 (by kernel_rfl) (by simp only [List.map_cons, List.map_nil]; rfl) (by simp only [Eops_cons, Eops_nil, Ewant_none, Ewant_some, dstAt_zero, dstAt_succ, wantT_some, wantN_bool, wantN_undef, goE_true, goE_false, thenE_ret, iop1, step_val, step_enter, iop, val_tmp, val_const, val_func, nthR_zero, nthR_succ, setR_zero, setR_succ, Option.getD_some, putD_some, putD_none, bin_lss, bin_leq, bin_gtr, bin_geq, bin_eql, bin_neq, bin_add, bin_sub, pick_bool, Step1.ofO, lenC, callF, mapR_nil, mapR_cons, un_dry, un_neg, un_not, cond_true, cond_false, decide_true, decide_false, beq_self_eq_true, Bool.false_eq_true, Bool.true_eq_false, beq_tt, beq_tf, beq_ft, beq_ff, Bool.not_true, Bool.not_false, appC, copyC, skipO_some, List.map_cons, List.map_nil, goInt]; rfl) (by kernel_rfl) (by simp only [val_tmp, nthR_zero, nthR_succ, Option.getD_some]; rfl) (fun ht6 => ?_) (fun ht6 => ?_)
    · have htn : t < n := by simp only [decide_eq_true_eq] at ht6; omega
      have hix : (n : Int) - 1 - (t : Int) = ((n - 1 - t : Nat) : Int) := by omega
      have hq1 : k / c ^ t ≤ k := Nat.div_le_self _ _
      obtain ⟨p, h3, hp, hst3, hown3, hsz3, hbs3, hkeep3⟩ := hown2.write el22 (i := n - 1 - t) (by rw [digP_len]; omega) (by rw [hold2'.base]; have := hold.size; omega) ((k / c ^ t % c : Nat) : Int) (k := .i64)
      rw [digP_set htn] at hown3
      rw [← hix] at hp
      have hdd : k / c ^ t / c = k / c ^ (t + 1) := by rw [Nat.div_div_eq_div_mul, Nat.pow_succ]
      have hw2 : IntKind.i64.wrap ((n : Int) - 1 - (t : Int) - 1) = (n : Int) - 1 - ((t + 1 : Nat) : Int) := by rw [wrap_id (by omega) (by omega)]; omega
      refine .blockW (setup44.regE 0 (by kernel_rfl) (by simp only [List.map_cons, List.map_nil]; rfl) (by simp only [Eops_cons, Eops_nil, Ewant_none, Ewant_some, dstAt_zero, dstAt_succ, wantT_some, wantN_bool, wantN_undef, goE_true, goE_false, thenE_ret, iop1, step_val, step_enter, iop, val_tmp, val_const, val_func, nthR_zero, nthR_succ, setR_zero, setR_succ, Option.getD_some, putD_some, putD_none, bin_lss, bin_leq, bin_gtr, bin_geq, bin_eql, bin_neq, bin_add, bin_sub, pick_bool, Step1.ofO, lenC, callF, mapR_nil, mapR_cons, un_dry, un_neg, un_not, cond_true, cond_false, decide_true, decide_false, beq_self_eq_true, Bool.false_eq_true, Bool.true_eq_false, beq_tt, beq_tf, beq_ft, beq_ff, Bool.not_true, Bool.not_false, appC, copyC, skipO_some, List.map_cons, List.map_nil, goInt, bin_remN (a := k / c ^ t) (b := c) (by omega), hp, hst3]; rfl) (setup44.regZ 0 (by kernel_rfl) (by simp only [List.map_cons, List.map_nil]; rfl) (by simp only [Eops_cons, Eops_nil, Ewant_none, Ewant_some, dstAt_zero, dstAt_succ, wantT_some, wantN_bool, wantN_undef, goE_true, goE_false, thenE_ret, iop1, step_val, step_enter, iop, val_tmp, val_const, val_func, nthR_zero, nthR_succ, setR_zero, setR_succ, Option.getD_some, putD_some, putD_none, bin_lss, bin_leq, bin_gtr, bin_geq, bin_eql, bin_neq, bin_add, bin_sub, pick_bool, Step1.ofO, lenC, callF, mapR_nil, mapR_cons, un_dry, un_neg, un_not, cond_true, cond_false, decide_true, decide_false, beq_self_eq_true, Bool.false_eq_true, Bool.true_eq_false, beq_tt, beq_tf, beq_ft, beq_ff, Bool.not_true, Bool.not_false, appC, copyC, skipO_some, List.map_cons, List.map_nil, goInt, bin_quoN (a := k / c ^ t) (b := c) (by omega) (by omega), hdd]; rfl) (BT.go ?_)))
      exact setup44.regZ 0 (by kernel_rfl) (by simp only [List.map_cons, List.map_nil]; rfl) (by simp only [Eops_cons, Eops_nil, Ewant_none, Ewant_some, dstAt_zero, dstAt_succ, wantT_some, wantN_bool, wantN_undef, goE_true, goE_false, thenE_ret, iop1, step_val, step_enter, iop, val_tmp, val_const, val_func, nthR_zero, nthR_succ, setR_zero, setR_succ, Option.getD_some, putD_some, putD_none, bin_lss, bin_leq, bin_gtr, bin_geq, bin_eql, bin_neq, bin_add, bin_sub, pick_bool, Step1.ofO, lenC, callF, mapR_nil, mapR_cons, un_dry, un_neg, un_not, cond_true, cond_false, decide_true, decide_false, beq_self_eq_true, Bool.false_eq_true, Bool.true_eq_false, beq_tt, beq_tf, beq_ft, beq_ff, Bool.not_true, Bool.not_false, appC, copyC, skipO_some, List.map_cons, List.map_nil, goInt, hw2]; rfl) (LQ.go (n - (t + 1)) (by omega) (by repeat (first | exact WkL.nil | refine WkL.same ?_ | refine WkL.any ?_)) ⟨t + 1, by omega, rfl, rfl, hold2'.of (by omega) hbs3 fun b hb' => hkeep3 b (hown2.notOld hb'), hown3⟩)
    · have hge : t = n := by simp only [decide_eq_false_iff_not] at ht6; omega
      subst hge
      rw [digP_end] at hown2
      have hxl := digs_len c t k
      generalize hx : digs c t k = x at hown2 hxl
      have hxz : intsOf h2 v = some x := hown2.ints (by omega)
      have hold3h2 := hold.trans hold2'
      have hb22 : h2.base ≤ h2.size := by rw [hold2'.base]; have := hold2'.size; have := hold.size; omega
      refine ST.go (setup44.regE 0 (by kernel_rfl) (by simp only [List.map_cons, List.map_nil]; rfl) (by simp only [Eops_cons, Eops_nil, Ewant_none, Ewant_some, dstAt_zero, dstAt_succ, wantT_some, wantN_bool, wantN_undef, goE_true, goE_false, thenE_ret, iop1, step_val, step_enter, iop, val_tmp, val_const, val_func, nthR_zero, nthR_succ, setR_zero, setR_succ, Option.getD_some, putD_some, putD_none, bin_lss, bin_leq, bin_gtr, bin_geq, bin_eql, bin_neq, bin_add, bin_sub, pick_bool, Step1.ofO, lenC, callF, mapR_nil, mapR_cons, un_dry, un_neg, un_not, cond_true, cond_false, decide_true, decide_false, beq_self_eq_true, Bool.false_eq_true, Bool.true_eq_false, beq_tt, beq_tf, beq_ft, beq_ff, Bool.not_true, Bool.not_false, appC, copyC, skipO_some, List.map_cons, List.map_nil, goInt]; rfl) ?_)
      refine setup44.regS (by kernel_rfl) (by simp only [List.map_cons, List.map_nil]; rfl) ?_; simp only [Eops_cons, Eops_nil, Ewant_none, Ewant_some, dstAt_zero, dstAt_succ, wantT_some, wantN_bool, wantN_undef, goE_true, goE_false, thenE_ret, iop1, step_val, step_enter, iop, val_tmp, val_const, val_func, nthR_zero, nthR_succ, setR_zero, setR_succ, Option.getD_some, putD_some, putD_none, bin_lss, bin_leq, bin_gtr, bin_geq, bin_eql, bin_neq, bin_add, bin_sub, pick_bool, Step1.ofO, lenC, callF, mapR_nil, mapR_cons, un_dry, un_neg, un_not, cond_true, cond_false, decide_true, decide_false, beq_self_eq_true, Bool.false_eq_true, Bool.true_eq_false, beq_tt, beq_tf, beq_ft, beq_ff, Bool.not_true, Bool.not_false, appC, copyC, skipO_some, List.map_cons, List.map_nil, goInt, thenE_sp, holds_ret, e40, enter_s (x := (t, .slice aw ws.length cw, ws, v, x)) (show nat44 40 = some (ofS pre40 post40) from rfl) uniq40 ⟨rfl, intsOf_old hold3h2 hz, hok, by omega, hn12, hxz, hxl, hb22⟩]
      rintro v4 h4 ⟨hold4, hown4⟩
      refine .seqJ (fun e h5 => ∃ nv, e = [.int .i64 t, .slice aw ws.length cw, .int .i64 c, unk, unk, unk, unk, ov, .int .i64 (k : Nat), v, unk, unk, .bool (leastB f x), nv, unk, unk, unk, unk, unk, unk, unk, unk, unk, unk, unk, unk, unk, unk, unk, unk, unk, unk, unk, unk, unk, unk, unk, unk, unk, unk, unk, unk, unk, unk, unk, unk, unk, unk, unk, unk, unk, unk, unk, unk, unk, unk, unk, unk, unk, unk, unk, unk, unk, unk] ∧ Old h2 h5) ?_ ?_
      · simp only [hmv x hxl] at hown4
        have hzv4 : intsOf h4 v4 = some (gathL f x) := hown4.ints (by rw [gathL_len, hfis.len]; omega)
        have hx0 : ∀ s', s' < 1 → lessL (iterG f s' x) x = false := by
          intro s' hs'
          have : s' = 0 := by omega
          subst this
          exact lessL_self x
        refine .loopW (fun m e h5 => ∃ (s : Nat) (nv : Value) (lb : Bool), 1 ≤ s ∧ s ≤ per ∧ m = per - s ∧ e = [.int .i64 t, .slice aw ws.length cw, .int .i64 c, unk, unk, unk, unk, ov, .int .i64 (k : Nat), v, unk, unk, .bool lb, nv, unk, unk, unk, unk, unk, unk, unk, unk, unk, unk, unk, unk, unk, unk, unk, unk, unk, unk, unk, unk, unk, unk, unk, unk, unk, unk, unk, unk, unk, unk, unk, unk, unk, unk, unk, unk, unk, unk, unk, unk, unk, unk, unk, unk, unk, unk, unk, unk, unk, unk] ∧ Old h2 h5 ∧ intsOf h5 nv = some (iterG f s x) ∧
            (lb = true → ∀ s', s' < s → lessL (iterG f s' x) x = false) ∧ (lb = false → ∃ s', lessL (iterG f s' x) x = true)) (per - 1)
          [.int .i64 t, .slice aw ws.length cw, .int .i64 c, unk, unk, unk, unk, ov, .int .i64 (k : Nat), v, unk, unk, .bool true, v4, unk, unk, unk, unk, unk, unk, unk, unk, unk, unk, unk, unk, unk, unk, unk, unk, unk, unk, unk, unk, unk, unk, unk, unk, unk, unk, unk, unk, unk, unk, unk, unk, unk, unk, unk, unk, unk, unk, unk, unk, unk, unk, unk, unk, unk, unk, unk, unk, unk, unk] (by repeat (first | exact WkL.nil | refine WkL.same ?_ | refine WkL.any ?_))
          ⟨1, v4, true, Nat.le_refl _, hper0, rfl, rfl, hold4, hzv4, fun _ => hx0, fun h => by cases h⟩ ?_
        rintro m e h5 ⟨s, nv, lb, hs1, hsp, rfl, rfl, hold5, hzn, hlbt, hlbf⟩
        have hxz5 := intsOf_old hold5 hxz
        have hitl : (iterG f s x).length = t := iterG_len hfis.len hxl s
        refine setup44.headW2 (by kernel_rfl) (by simp only [List.map_cons, List.map_nil]; rfl) (by simp only [Eops_cons, Eops_nil, Ewant_none, Ewant_some, dstAt_zero, dstAt_succ, wantT_some, wantN_bool, wantN_undef, goE_true, goE_false, thenE_ret, iop1, step_val, step_enter, iop, val_tmp, val_const, val_func, nthR_zero, nthR_succ, setR_zero, setR_succ, Option.getD_some, putD_some, putD_none, bin_lss, bin_leq, bin_gtr, bin_geq, bin_eql, bin_neq, bin_add, bin_sub, pick_bool, Step1.ofO, lenC, callF, mapR_nil, mapR_cons, un_dry, un_neg, un_not, cond_true, cond_false, decide_true, decide_false, beq_self_eq_true, Bool.false_eq_true, Bool.true_eq_false, beq_tt, beq_tf, beq_ft, beq_ff, Bool.not_true, Bool.not_false, appC, copyC, skipO_some, List.map_cons, List.map_nil, goInt, e52, enter_k n52h, ofK, kSame_eq hzn hxz5]; rfl) (by kernel_rfl) (by simp only [val_tmp, nthR_zero, nthR_succ, Option.getD_some]; rfl) (fun ht7 => ?_) (fun ht7 => ?_)
        · have hne : iterG f s x ≠ x := by simpa using ht7
          have hslt : s < per := by
            rcases Nat.lt_or_ge s per with h | h
            · exact h
            · have : s = per := by omega
              subst this
              exact absurd (hper x hxl) hne
          have hb5 : h5.base ≤ h5.size := by rw [hold5.base]; have := hold5.size; omega
          refine .block ?_
          have hpre : pre40 (t, .slice aw ws.length cw, ws, nv, iterG f s x) [.int .i64 (t : Int), .slice aw ws.length cw, nv] h5 := ⟨rfl, intsOf_old (hold3h2.trans hold5) hz, hok, by omega, hn12, hzn, hitl, hb5⟩
          have go : ∀ (v6 : Value) (h6 : IH), post40 (t, .slice aw ws.length cw, ws, nv, iterG f s x) h5 v6 h6 → Old h2 h6 ∧ intsOf h6 v6 = some (iterG f (s + 1) x) := by
            rintro v6 h6 ⟨hold6, hown6⟩
            simp only [hmv _ hitl] at hown6
            exact ⟨hold5.trans hold6, hown6.ints (by rw [gathL_len, hfis.len]; omega)⟩
          cases lb with
          | false =>
            refine setup44.regE 0 (by kernel_rfl) (by simp only [List.map_cons, List.map_nil]; rfl) (by simp only [Eops_cons, Eops_nil, Ewant_none, Ewant_some, dstAt_zero, dstAt_succ, wantT_some, wantN_bool, wantN_undef, goE_true, goE_false, thenE_ret, iop1, step_val, step_enter, iop, val_tmp, val_const, val_func, nthR_zero, nthR_succ, setR_zero, setR_succ, Option.getD_some, putD_some, putD_none, bin_lss, bin_leq, bin_gtr, bin_geq, bin_eql, bin_neq, bin_add, bin_sub, pick_bool, Step1.ofO, lenC, callF, mapR_nil, mapR_cons, un_dry, un_neg, un_not, cond_true, cond_false, decide_true, decide_false, beq_self_eq_true, Bool.false_eq_true, Bool.true_eq_false, beq_tt, beq_tf, beq_ft, beq_ff, Bool.not_true, Bool.not_false, appC, copyC, skipO_some, List.map_cons, List.map_nil, goInt]; rfl) ?_
            refine setup44.regSZ (by kernel_rfl) (by simp only [List.map_cons, List.map_nil]; rfl) ?_; simp only [Eops_cons, Eops_nil, Ewant_none, Ewant_some, dstAt_zero, dstAt_succ, wantT_some, wantN_bool, wantN_undef, goE_true, goE_false, thenE_ret, iop1, step_val, step_enter, iop, val_tmp, val_const, val_func, nthR_zero, nthR_succ, setR_zero, setR_succ, Option.getD_some, putD_some, putD_none, bin_lss, bin_leq, bin_gtr, bin_geq, bin_eql, bin_neq, bin_add, bin_sub, pick_bool, Step1.ofO, lenC, callF, mapR_nil, mapR_cons, un_dry, un_neg, un_not, cond_true, cond_false, decide_true, decide_false, beq_self_eq_true, Bool.false_eq_true, Bool.true_eq_false, beq_tt, beq_tf, beq_ft, beq_ff, Bool.not_true, Bool.not_false, appC, copyC, skipO_some, List.map_cons, List.map_nil, goInt, thenE_sp, holds_ret, e40, enter_s (x := (t, .slice aw ws.length cw, ws, nv, iterG f s x)) (show nat44 40 = some (ofS pre40 post40) from rfl) uniq40 hpre]
            intro v6 h6 hpost
            obtain ⟨g1, g2⟩ := go v6 h6 hpost
            exact BZ.go (LQ.go (per - (s + 1)) (by omega) (by repeat (first | exact WkL.nil | refine WkL.same ?_ | refine WkL.any ?_)) ⟨s + 1, v6, false, by omega, by omega, rfl, rfl, g1, g2, fun h => (by cases h), hlbf⟩)
          | true =>
            refine setup44.regE 0 (by kernel_rfl) (by simp only [List.map_cons, List.map_nil]; rfl) (by simp only [Eops_cons, Eops_nil, Ewant_none, Ewant_some, dstAt_zero, dstAt_succ, wantT_some, wantN_bool, wantN_undef, goE_true, goE_false, thenE_ret, iop1, step_val, step_enter, iop, val_tmp, val_const, val_func, nthR_zero, nthR_succ, setR_zero, setR_succ, Option.getD_some, putD_some, putD_none, bin_lss, bin_leq, bin_gtr, bin_geq, bin_eql, bin_neq, bin_add, bin_sub, pick_bool, Step1.ofO, lenC, callF, mapR_nil, mapR_cons, un_dry, un_neg, un_not, cond_true, cond_false, decide_true, decide_false, beq_self_eq_true, Bool.false_eq_true, Bool.true_eq_false, beq_tt, beq_tf, beq_ft, beq_ff, Bool.not_true, Bool.not_false, appC, copyC, skipO_some, List.map_cons, List.map_nil, goInt, e51, enter_k n51h, ofK, k51_eq hzn hxz5 (by rw [hitl, hxl]; exact Nat.le_refl _)]; rfl) ?_
            refine setup44.regSZ (by kernel_rfl) (by simp only [List.map_cons, List.map_nil]; rfl) ?_; simp only [Eops_cons, Eops_nil, Ewant_none, Ewant_some, dstAt_zero, dstAt_succ, wantT_some, wantN_bool, wantN_undef, goE_true, goE_false, thenE_ret, iop1, step_val, step_enter, iop, val_tmp, val_const, val_func, nthR_zero, nthR_succ, setR_zero, setR_succ, Option.getD_some, putD_some, putD_none, bin_lss, bin_leq, bin_gtr, bin_geq, bin_eql, bin_neq, bin_add, bin_sub, pick_bool, Step1.ofO, lenC, callF, mapR_nil, mapR_cons, un_dry, un_neg, un_not, cond_true, cond_false, decide_true, decide_false, beq_self_eq_true, Bool.false_eq_true, Bool.true_eq_false, beq_tt, beq_tf, beq_ft, beq_ff, Bool.not_true, Bool.not_false, appC, copyC, skipO_some, List.map_cons, List.map_nil, goInt, thenE_sp, holds_ret, e40, enter_s (x := (t, .slice aw ws.length cw, ws, nv, iterG f s x)) (show nat44 40 = some (ofS pre40 post40) from rfl) uniq40 hpre]
            intro v6 h6 hpost
            obtain ⟨g1, g2⟩ := go v6 h6 hpost
            refine BZ.go (LQ.go (per - (s + 1)) (by omega) (by repeat (first | exact WkL.nil | refine WkL.same ?_ | refine WkL.any ?_)) ⟨s + 1, v6, !lessL (iterG f s x) x, by omega, by omega, rfl, rfl, g1, g2, fun hl s' hs' => ?_, fun hl => ⟨s, by simpa using hl⟩⟩)
            by_cases h : s' = s
            · subst h; simpa using hl
            · exact hlbt rfl s' (by omega)
        · have he : iterG f s x = x := by simpa using ht7
          refine JT.go ?_ ⟨nv, rfl, hold5⟩
          cases lb with
          | false =>
            obtain ⟨s', hs'⟩ := hlbf rfl
            rw [least_false hs']
            repeat (first | exact WkL.nil | refine WkL.same ?_ | refine WkL.any ?_)
          | true =>
            rw [least_true (by omega) he (hlbt rfl)]
            repeat (first | exact WkL.nil | refine WkL.same ?_ | refine WkL.any ?_)
      · rintro e h5 ⟨nv, rfl, hold5⟩
        have holdh5 := hold2'.trans hold5
        have hsz5 := holdh5.size
        have hszh := hold.size
        have hown5 : OwnAt h5 3 h.size v x := hown2.keep hold5.size fun b _ q2 _ => hold5.get b q2
        have hout5 : Grown h5 22 H.size ov rows := hout.keep hsz5 fun b _ q2 _ => holdh5.get b q2
        have hrows5 : IRows h5 3 H.size h.size rows (listN f c t k) := hrows.keep hsz5 fun b _ _ _ _ q3 _ => holdh5.get b q3
        have hrl : rows.length ≤ k := by rw [hrows.1]; exact listN_len f c t k
        refine setup44.ifZ (by kernel_rfl) (by simp only [List.map_cons, List.map_nil]; rfl) (by simp only [Eops_cons, Eops_nil, Ewant_none, Ewant_some, dstAt_zero, dstAt_succ, wantT_some, wantN_bool, wantN_undef, goE_true, goE_false, thenE_ret, iop1, step_val, step_enter, iop, val_tmp, val_const, val_func, nthR_zero, nthR_succ, setR_zero, setR_succ, Option.getD_some, putD_some, putD_none, bin_lss, bin_leq, bin_gtr, bin_geq, bin_eql, bin_neq, bin_add, bin_sub, pick_bool, Step1.ofO, lenC, callF, mapR_nil, mapR_cons, un_dry, un_neg, un_not, cond_true, cond_false, decide_true, decide_false, beq_self_eq_true, Bool.false_eq_true, Bool.true_eq_false, beq_tt, beq_tf, beq_ft, beq_ff, Bool.not_true, Bool.not_false, appC, copyC, skipO_some, List.map_cons, List.map_nil, goInt]; rfl) (by kernel_rfl) (by simp only [val_tmp, nthR_zero, nthR_succ, Option.getD_some]; rfl) (fun ht8 => ?_) (fun ht8 => .skip (BT.go ?_))
        · obtain ⟨av, hve⟩ := hown5.len
          rw [hxl] at hve
          obtain ⟨ov', h6, happ, hout6, hsz6, hbs6, hkeep6, _⟩ := hout5.app (x := v) el25 (by rw [hve]; rfl) hrows5.one (by omega) (by rw [holdh5.base]; exact hbh) (by omega)
          rw [hve] at happ
          have hv2 : v = .slice av t t := hve
          refine setup44.regZ 0 (by kernel_rfl) (by simp only [List.map_cons, List.map_nil]; rfl) (by simp only [Eops_cons, Eops_nil, Ewant_none, Ewant_some, dstAt_zero, dstAt_succ, wantT_some, wantN_bool, wantN_undef, goE_true, goE_false, thenE_ret, iop1, step_val, step_enter, iop, val_tmp, val_const, val_func, nthR_zero, nthR_succ, setR_zero, setR_succ, Option.getD_some, putD_some, putD_none, bin_lss, bin_leq, bin_gtr, bin_geq, bin_eql, bin_neq, bin_add, bin_sub, pick_bool, Step1.ofO, lenC, callF, mapR_nil, mapR_cons, un_dry, un_neg, un_not, cond_true, cond_false, decide_true, decide_false, beq_self_eq_true, Bool.false_eq_true, Bool.true_eq_false, beq_tt, beq_tf, beq_ft, beq_ff, Bool.not_true, Bool.not_false, appC, copyC, skipO_some, List.map_cons, List.map_nil, goInt, hv2, b1s, happ]; rfl) (BT.go ?_)
          refine setup44.regZ 0 (by kernel_rfl) (by simp only [List.map_cons, List.map_nil]; rfl) (by simp only [Eops_cons, Eops_nil, Ewant_none, Ewant_some, dstAt_zero, dstAt_succ, wantT_some, wantN_bool, wantN_undef, goE_true, goE_false, thenE_ret, iop1, step_val, step_enter, iop, val_tmp, val_const, val_func, nthR_zero, nthR_succ, setR_zero, setR_succ, Option.getD_some, putD_some, putD_none, bin_lss, bin_leq, bin_gtr, bin_geq, bin_eql, bin_neq, bin_add, bin_sub, pick_bool, Step1.ofO, lenC, callF, mapR_nil, mapR_cons, un_dry, un_neg, un_not, cond_true, cond_false, decide_true, decide_false, beq_self_eq_true, Bool.false_eq_true, Bool.true_eq_false, beq_tt, beq_tf, beq_ft, beq_ff, Bool.not_true, Bool.not_false, appC, copyC, skipO_some, List.map_cons, List.map_nil, goInt, wrap_succ hlt (by omega)]; rfl) (LQ.go (c ^ t - (k + 1)) (by omega) (by repeat (first | exact WkL.nil | refine WkL.same ?_ | refine WkL.any ?_)) ⟨k + 1, ov', rows ++ [v], by omega, rfl, rfl, ?_, hout6, ?_⟩)
          · exact (hold.trans holdh5).of (by omega) hbs6 fun b hb' => hkeep6 b (by omega) (hout5.notOld hb')
          · have hl1 : listN f c t (k + 1) = listN f c t k ++ [x] := by rw [listN, hx, ht8]; rfl
            rw [hl1]
            refine IRows.snoc ?_ ?_
            · exact (hrows5.keepEl hout5 (by decide) (by omega) hkeep6).lower (Nat.le_refl _) (by omega)
            · refine ((hown5.row.lower (lo' := H.size) (by omega) (Nat.le_refl _)).keep (by omega) fun b c' fz q1 q2 q3 q4 _ => hkeep6 b q3 fun q5 => ?_).lower (Nat.le_refl _) (by omega)
              have := (hout5.blk_lt q5).2.2
              rw [q4] at this
              simp at this
        · have hl1 : listN f c t (k + 1) = listN f c t k := by rw [listN, hx, ht8]; simp
          refine setup44.regZ 0 (by kernel_rfl) (by simp only [List.map_cons, List.map_nil]; rfl) (by simp only [Eops_cons, Eops_nil, Ewant_none, Ewant_some, dstAt_zero, dstAt_succ, wantT_some, wantN_bool, wantN_undef, goE_true, goE_false, thenE_ret, iop1, step_val, step_enter, iop, val_tmp, val_const, val_func, nthR_zero, nthR_succ, setR_zero, setR_succ, Option.getD_some, putD_some, putD_none, bin_lss, bin_leq, bin_gtr, bin_geq, bin_eql, bin_neq, bin_add, bin_sub, pick_bool, Step1.ofO, lenC, callF, mapR_nil, mapR_cons, un_dry, un_neg, un_not, cond_true, cond_false, decide_true, decide_false, beq_self_eq_true, Bool.false_eq_true, Bool.true_eq_false, beq_tt, beq_tf, beq_ft, beq_ff, Bool.not_true, Bool.not_false, appC, copyC, skipO_some, List.map_cons, List.map_nil, goInt, wrap_succ hlt (by omega)]; rfl) (LQ.go (c ^ t - (k + 1)) (by omega) (by repeat (first | exact WkL.nil | refine WkL.same ?_ | refine WkL.any ?_)) ⟨k + 1, ov, rows, by omega, rfl, rfl, hold.trans holdh5, hout5, ?_⟩)
          rw [hl1]
          exact hrows5.lower (Nat.le_refl _) (by omega)
  · have hge : k = c ^ n := by simp only [decide_eq_false_iff_not] at ht5; omega
    subst hge
    refine ST.go (setup44.regE 0 (by kernel_rfl) (by simp only [List.map_cons, List.map_nil]; rfl) (by simp only [Eops_cons, Eops_nil, Ewant_none, Ewant_some, dstAt_zero, dstAt_succ, wantT_some, wantN_bool, wantN_undef, goE_true, goE_false, thenE_ret, iop1, step_val, step_enter, iop, val_tmp, val_const, val_func, nthR_zero, nthR_succ, setR_zero, setR_succ, Option.getD_some, putD_some, putD_none, bin_lss, bin_leq, bin_gtr, bin_geq, bin_eql, bin_neq, bin_add, bin_sub, pick_bool, Step1.ofO, lenC, callF, mapR_nil, mapR_cons, un_dry, un_neg, un_not, cond_true, cond_false, decide_true, decide_false, beq_self_eq_true, Bool.false_eq_true, Bool.true_eq_false, beq_tt, beq_tf, beq_ft, beq_ff, Bool.not_true, Bool.not_false, appC, copyC, skipO_some, List.map_cons, List.map_nil, goInt]; rfl) ?_)
    exact .ret ⟨.inr rfl, ov, ires_tmp rfl (by simp only [nthR_zero, nthR_succ]), hold, rows, hout, by simp only [hf]; exact hrows⟩
theorem e46 : enters Tryz.prog 46 = true := by kernel_rfl
end Go.Proofs.YtpdlblofcdcikaaGreatDoor
