/- Contract of the program's Listed. Conditions: none. -/
import Derived.Test.YtpdlblofcdcikaaGreatDoorL2
set_option linter.unusedSimpArgs false
set_option linter.unusedVariables false
namespace Go.Proofs.YtpdlblofcdcikaaGreatDoor
open Go.Idl

/-! 45: Listed -/
/-- the first error, as the program finds it -/
def errL (n : Int) (ws : List Int) (c : Int) : Int := firstNZ [chkScheme n ws, cond (decide (c < 1) || decide (8 < c)) 3 0]
theorem errL_ok {n : Int} {ws : List Int} {c : Int} (h : errL n ws c = 0) : ∃ n' c' : Nat, n = (n' : Int) ∧ c = (c' : Int) ∧ 2 ≤ n' ∧ n' ≤ 12 ∧ 1 ≤ c' ∧ c' ≤ 8 ∧ okW n' ws := by
  unfold errL at h
  have h1 : chkScheme n ws = 0 := by
    by_cases hx : chkScheme n ws = 0
    · exact hx
    · have : (chkScheme n ws != 0) = true := by simpa using hx
      simp only [firstNZ, this, cond_true] at h
      exact h
  have h2 : (decide (c < 1) || decide (8 < c)) = false := by
    cases hx : (decide (c < 1) || decide (8 < c)) with
    | false => rfl
    | true => rw [hx, h1] at h; simp [firstNZ] at h
  have h3 : outN n = false := by
    cases hx : outN n with
    | false => rfl
    | true => unfold chkScheme at h1; rw [hx] at h1; simp [firstNZ] at h1
  have h4 : ws.any (badLetter n) = false := by
    cases hx : ws.any (badLetter n) with
    | false => rfl
    | true =>
      unfold chkScheme at h1
      rw [hx, h3] at h1
      cases ha : ((ws.length : Int) == 0) <;> cases hb : decide (24 < (ws.length : Int)) <;> rw [ha, hb] at h1 <;> simp [firstNZ] at h1
  simp only [Bool.or_eq_false_iff, decide_eq_false_iff_not] at h2
  unfold outN at h3
  simp only [Bool.or_eq_false_iff, decide_eq_false_iff_not] at h3
  refine ⟨n.toNat, c.toNat, by omega, by omega, by omega, by omega, by omega, by omega, fun z hz => ?_⟩
  rw [List.any_eq_false] at h4
  have h5 := h4 z hz
  unfold badLetter at h5
  rw [wrap_id (n := 0 - n) (by omega) (by omega)] at h5
  simp at h5
  obtain ⟨h5, h6, h7⟩ := h5
  exact ⟨h5, by omega⟩
def pre45 (x : Int × Value × List Int × Int) (args : List Value) (H : IH) : Prop := args = [.int .i64 x.1, x.2.1, .int .i64 x.2.2.2] ∧ intsOf H x.2.1 = some x.2.2.1 ∧ H.base ≤ H.size ∧ (errL x.1 x.2.2.1 x.2.2.2 = 0 → x.2.2.2.toNat ^ x.1.toNat ≤ 256 ∨ 4096 < x.2.2.2.toNat ^ x.1.toNat)
def post45 (x : Int × Value × List Int × Int) (H : IH) (v : Value) (H' : IH) : Prop := Old H H' ∧ ∃ ov rows zss e, v = .tuple #[ov, .int .i64 e] ∧ Grown H' 22 H.size ov rows ∧ IRows H' 3 H.size H'.size rows zss ∧
  (errL x.1 x.2.2.1 x.2.2.2 ≠ 0 → zss = [] ∧ e = errL x.1 x.2.2.1 x.2.2.2) ∧
  (errL x.1 x.2.2.1 x.2.2.2 = 0 → 4096 < x.2.2.2.toNat ^ x.1.toNat → zss = [] ∧ e = 22) ∧
  (errL x.1 x.2.2.1 x.2.2.2 = 0 → x.2.2.2.toNat ^ x.1.toNat ≤ 256 → zss = listN (fromL x.1.toNat x.2.2.1) x.2.2.2.toNat x.1.toNat (x.2.2.2.toNat ^ x.1.toNat) ∧ e = 0)
theorem uniq45 (x y : Int × Value × List Int × Int) (args : List Value) (H : IH) (hx : pre45 x args H) (hy : pre45 y args H) : x = y := by
  obtain ⟨n, v, ws, r⟩ := x
  obtain ⟨n', v', ws', r'⟩ := y
  have h1 := hx.1.symm.trans hy.1
  simp at h1
  obtain ⟨rfl, rfl, rfl⟩ := h1
  have h2 := hx.2.1.symm.trans hy.2.1
  simp at h2
  rw [h2]
noncomputable def nat44 : Nats := addS nat43 45 pre45 post45
theorem n19g : nat43 19 = some (ofK k19) := rfl
theorem n105g : nat43 105 = some (ofK k105) := rfl
theorem n87g : nat43 87 = some (ofK k87) := rfl
theorem n98g : nat43 98 = some (ofK kSame) := rfl
theorem n96g : nat43 96 = some (ofK k96) := rfl
theorem n108g : nat43 108 = some (ofK kPow) := rfl
theorem b172 (a b : Int) (H : IH) : ibuildSlice Tryz.prog 172 2 [(0, .int .i64 a), (1, .int .i64 b)] H = some (.val (.slice (some ⟨H.size, 0, none⟩) 2 2) (H.push (.cells #[.int .i64 a, .int .i64 b] 29))) := build2 a b H
theorem res2 {fn : Func} {s t : Tmp} {env : Env} {H : IH} {u v : Value} (hr : fn.results = #[.tmp s, .tmp t]) (h1 : nthR env s = some u) (h2 : nthR env t = some v) : iresults Tryz.prog fn env H = some (.tuple #[u, v]) := by
  unfold iresults
  rw [hr]
  simp [iresL, ires1, h1, h2, one]
set_option maxRecDepth 10000 in
theorem setup44 : Setup Tryz.prog good nat44 (globG 3) := setup43.addS pre45 post45 fun x args H ⟨ha, hz, hb, hlim⟩ => by
  obtain ⟨n, wv, ws, c⟩ := x
  simp only at ha hz hlim
  subst ha
  obtain ⟨aw, cw, rfl, hwl, _⟩ := intsOf_inv hz
  refine CallI.of Tryz.func45 rfl (N := 83) rfl ?_
  show Holds _ _ false _ [.int .i64 n, .slice aw ws.length cw, .int .i64 c, undef, undef, undef, undef, undef, undef, undef, undef, undef, undef, undef, undef, undef, undef, undef, undef, undef, undef, undef, undef, undef, undef, undef, undef, undef, undef, undef, undef, undef, undef, undef, undef, undef, undef, undef, undef, undef, undef, undef, undef, undef, undef, undef, undef, undef, undef, undef, undef, undef, undef, undef, undef, undef, undef, undef, undef, undef, undef, undef, undef, undef, undef, undef, undef, undef, undef, undef, undef, undef, undef, undef, undef, undef, undef, undef, undef, undef, undef, undef, undef] H _
  refine setup43.regE 0 (by kernel_rfl) (by simp only [List.map_cons, List.map_nil]; rfl) (by simp only [Eops_cons, Eops_nil, Ewant_none, Ewant_some, dstAt_zero, dstAt_succ, wantT_some, wantN_bool, wantN_undef, goE_true, goE_false, thenE_ret, iop1, step_val, step_enter, iop, val_tmp, val_const, val_func, nthR_zero, nthR_succ, setR_zero, setR_succ, Option.getD_some, putD_some, putD_none, bin_lss, bin_leq, bin_gtr, bin_geq, bin_eql, bin_neq, bin_add, bin_sub, pick_bool, Step1.ofO, lenC, callF, mapR_nil, mapR_cons, un_dry, un_neg, un_not, cond_true, cond_false, decide_true, decide_false, beq_self_eq_true, Bool.false_eq_true, Bool.true_eq_false, beq_tt, beq_tf, beq_ft, beq_ff, Bool.not_true, Bool.not_false, appC, copyC, skipO_some, List.map_cons, List.map_nil, goInt]; rfl) ?_
  have hk19 : k19 [.int .i64 n, .slice aw ws.length cw] H = some (.int .i64 (chkScheme n ws)) := by unfold k19; simp only [hz, Option.map_some]
  have hk87 : ∀ a b, k87 [.slice (some ⟨H.size, 0, none⟩) 2 2] (H.push (.cells #[.int .i64 a, .int .i64 b] 29)) = some (.int .i64 (firstNZ [a, b])) := fun a b => by unfold k87; simp only [new2, Option.map_some]
  refine .seqW (setup43.regE 0 (by kernel_rfl) (by simp only [List.map_cons, List.map_nil]; rfl) (by simp only [Eops_cons, Eops_nil, Ewant_none, Ewant_some, dstAt_zero, dstAt_succ, wantT_some, wantN_bool, wantN_undef, goE_true, goE_false, thenE_ret, iop1, step_val, step_enter, iop, val_tmp, val_const, val_func, nthR_zero, nthR_succ, setR_zero, setR_succ, Option.getD_some, putD_some, putD_none, bin_lss, bin_leq, bin_gtr, bin_geq, bin_eql, bin_neq, bin_add, bin_sub, pick_bool, Step1.ofO, lenC, callF, mapR_nil, mapR_cons, un_dry, un_neg, un_not, cond_true, cond_false, decide_true, decide_false, beq_self_eq_true, Bool.false_eq_true, Bool.true_eq_false, beq_tt, beq_tf, beq_ft, beq_ff, Bool.not_true, Bool.not_false, appC, copyC, skipO_some, List.map_cons, List.map_nil, goInt, e19, enter_k n19g, ofK, hk19, e105, enter_k n105g, k105, b172, e87, enter_k n87g, hk87]; rfl) (setup43.ifZ (by kernel_rfl) (by simp only [List.map_cons, List.map_nil]; rfl) (by simp only [Eops_cons, Eops_nil, Ewant_none, Ewant_some, dstAt_zero, dstAt_succ, wantT_some, wantN_bool, wantN_undef, goE_true, goE_false, thenE_ret, iop1, step_val, step_enter, iop, val_tmp, val_const, val_func, nthR_zero, nthR_succ, setR_zero, setR_succ, Option.getD_some, putD_some, putD_none, bin_lss, bin_leq, bin_gtr, bin_geq, bin_eql, bin_neq, bin_add, bin_sub, pick_bool, Step1.ofO, lenC, callF, mapR_nil, mapR_cons, un_dry, un_neg, un_not, cond_true, cond_false, decide_true, decide_false, beq_self_eq_true, Bool.false_eq_true, Bool.true_eq_false, beq_tt, beq_tf, beq_ft, beq_ff, Bool.not_true, Bool.not_false, appC, copyC, skipO_some, List.map_cons, List.map_nil, goInt]; rfl) (by kernel_rfl) (by simp only [val_tmp, nthR_zero, nthR_succ, Option.getD_some]; rfl) (fun ht => ?_) (fun ht => .skip (ST.go ?_))))
  · have hE : errL n ws c ≠ 0 := by have : (errL n ws c != 0) = true := ht; simpa using this
    refine setup43.regE 0 (by kernel_rfl) (by simp only [List.map_cons, List.map_nil]; rfl) (by simp only [Eops_cons, Eops_nil, Ewant_none, Ewant_some, dstAt_zero, dstAt_succ, wantT_some, wantN_bool, wantN_undef, goE_true, goE_false, thenE_ret, iop1, step_val, step_enter, iop, val_tmp, val_const, val_func, nthR_zero, nthR_succ, setR_zero, setR_succ, Option.getD_some, putD_some, putD_none, bin_lss, bin_leq, bin_gtr, bin_geq, bin_eql, bin_neq, bin_add, bin_sub, pick_bool, Step1.ofO, lenC, callF, mapR_nil, mapR_cons, un_dry, un_neg, un_not, cond_true, cond_false, decide_true, decide_false, beq_self_eq_true, Bool.false_eq_true, Bool.true_eq_false, beq_tt, beq_tf, beq_ft, beq_ff, Bool.not_true, Bool.not_false, appC, copyC, skipO_some, List.map_cons, List.map_nil, goInt]; rfl) (.ret (ST.rt ⟨.inr rfl, .tuple #[.slice none 0 0, .int .i64 (errL n ws c)], res2 rfl (by simp only [nthR_zero, nthR_succ]) (by simp only [nthR_zero, nthR_succ]; rfl), .push _ _, .slice none 0 0, [], [], _, rfl, .nil _ _ _, .nil _ _ _ _, fun _ => ⟨rfl, rfl⟩, fun h => absurd h hE, fun h => absurd h hE⟩))
  have hE : errL n ws c = 0 := by have : (errL n ws c != 0) = false := ht; simpa using this
  obtain ⟨n, c, rfl, rfl, hn2, hn12, hc1, hc8, hok⟩ := errL_ok hE
  have hlim' := hlim hE
  simp only [Int.toNat_natCast] at hlim' ⊢
  have hold1 := Old.push H (.cells #[.int .i64 (chkScheme (n : Int) ws), .int .i64 (cond (decide ((c : Int) < 1) || decide (8 < (c : Int))) 3 0)] 29)
  have hbs1 : (H.push (.cells #[.int .i64 (chkScheme (n : Int) ws), .int .i64 (cond (decide ((c : Int) < 1) || decide (8 < (c : Int))) 3 0)] 29)).base = H.base := rfl
  have hsz1 : (H.push (.cells #[.int .i64 (chkScheme (n : Int) ws), .int .i64 (cond (decide ((c : Int) < 1) || decide (8 < (c : Int))) 3 0)] 29)).size = H.size + 1 := rfl
  generalize H.push (.cells #[.int .i64 (chkScheme (n : Int) ws), .int .i64 (cond (decide ((c : Int) < 1) || decide (8 < (c : Int))) 3 0)] 29) = H1 at hold1 hbs1 hsz1
  refine setup43.regE 0 (by kernel_rfl) (by simp only [List.map_cons, List.map_nil]; rfl) (by simp only [Eops_cons, Eops_nil, Ewant_none, Ewant_some, dstAt_zero, dstAt_succ, wantT_some, wantN_bool, wantN_undef, goE_true, goE_false, thenE_ret, iop1, step_val, step_enter, iop, val_tmp, val_const, val_func, nthR_zero, nthR_succ, setR_zero, setR_succ, Option.getD_some, putD_some, putD_none, bin_lss, bin_leq, bin_gtr, bin_geq, bin_eql, bin_neq, bin_add, bin_sub, pick_bool, Step1.ofO, lenC, callF, mapR_nil, mapR_cons, un_dry, un_neg, un_not, cond_true, cond_false, decide_true, decide_false, beq_self_eq_true, Bool.false_eq_true, Bool.true_eq_false, beq_tt, beq_tf, beq_ft, beq_ff, Bool.not_true, Bool.not_false, appC, copyC, skipO_some, List.map_cons, List.map_nil, goInt, e108, enter_k n108g, ofK, kPow_eq (a := c) (k := n) (by omega) (by omega)]; rfl) ?_
  have hpow : c ^ n ≤ 68719476736 := pow_le (by omega) (by omega)
  refine setup43.ifW (by kernel_rfl) (by simp only [List.map_cons, List.map_nil]; rfl) (by simp only [Eops_cons, Eops_nil, Ewant_none, Ewant_some, dstAt_zero, dstAt_succ, wantT_some, wantN_bool, wantN_undef, goE_true, goE_false, thenE_ret, iop1, step_val, step_enter, iop, val_tmp, val_const, val_func, nthR_zero, nthR_succ, setR_zero, setR_succ, Option.getD_some, putD_some, putD_none, bin_lss, bin_leq, bin_gtr, bin_geq, bin_eql, bin_neq, bin_add, bin_sub, pick_bool, Step1.ofO, lenC, callF, mapR_nil, mapR_cons, un_dry, un_neg, un_not, cond_true, cond_false, decide_true, decide_false, beq_self_eq_true, Bool.false_eq_true, Bool.true_eq_false, beq_tt, beq_tf, beq_ft, beq_ff, Bool.not_true, Bool.not_false, appC, copyC, skipO_some, List.map_cons, List.map_nil, goInt]; rfl) (by kernel_rfl) (by simp only [val_tmp, nthR_zero, nthR_succ, Option.getD_some]; rfl) (fun ht4 => ?_) (fun ht4 => .skip (ST.go ?_))
  · have hgt : 4096 < c ^ n := by simp only [decide_eq_true_eq] at ht4; omega
    refine setup43.regE 0 (by kernel_rfl) (by simp only [List.map_cons, List.map_nil]; rfl) (by simp only [Eops_cons, Eops_nil, Ewant_none, Ewant_some, dstAt_zero, dstAt_succ, wantT_some, wantN_bool, wantN_undef, goE_true, goE_false, thenE_ret, iop1, step_val, step_enter, iop, val_tmp, val_const, val_func, nthR_zero, nthR_succ, setR_zero, setR_succ, Option.getD_some, putD_some, putD_none, bin_lss, bin_leq, bin_gtr, bin_geq, bin_eql, bin_neq, bin_add, bin_sub, pick_bool, Step1.ofO, lenC, callF, mapR_nil, mapR_cons, un_dry, un_neg, un_not, cond_true, cond_false, decide_true, decide_false, beq_self_eq_true, Bool.false_eq_true, Bool.true_eq_false, beq_tt, beq_tf, beq_ft, beq_ff, Bool.not_true, Bool.not_false, appC, copyC, skipO_some, List.map_cons, List.map_nil, goInt]; rfl) (.ret (ST.rt ⟨.inr rfl, .tuple #[.slice none 0 0, .int .i64 22], res2 rfl (by simp only [nthR_zero, nthR_succ]) (by simp only [nthR_zero, nthR_succ]), hold1, .slice none 0 0, [], [], _, rfl, .nil _ _ _, .nil _ _ _ _, fun h => absurd hE h, fun _ _ => ⟨rfl, rfl⟩, fun _ h => by simp only [Int.toNat_natCast] at h; omega⟩))
  have hle : c ^ n ≤ 256 := by simp only [decide_eq_false_iff_not] at ht4; omega
  refine setup43.regS (by kernel_rfl) (by simp only [List.map_cons, List.map_nil]; rfl) ?_; simp only [Eops_cons, Eops_nil, Ewant_none, Ewant_some, dstAt_zero, dstAt_succ, wantT_some, wantN_bool, wantN_undef, goE_true, goE_false, thenE_ret, iop1, step_val, step_enter, iop, val_tmp, val_const, val_func, nthR_zero, nthR_succ, setR_zero, setR_succ, Option.getD_some, putD_some, putD_none, bin_lss, bin_leq, bin_gtr, bin_geq, bin_eql, bin_neq, bin_add, bin_sub, pick_bool, Step1.ofO, lenC, callF, mapR_nil, mapR_cons, un_dry, un_neg, un_not, cond_true, cond_false, decide_true, decide_false, beq_self_eq_true, Bool.false_eq_true, Bool.true_eq_false, beq_tt, beq_tf, beq_ft, beq_ff, Bool.not_true, Bool.not_false, appC, copyC, skipO_some, List.map_cons, List.map_nil, goInt, thenE_sp, holds_ret, e92, enter_s (x := (n, .slice aw ws.length cw, ws)) (show nat43 92 = some (ofS pre92 post92) from rfl) uniq92 ⟨rfl, intsOf_old hold1 hz, hok, by omega, hn12, by omega⟩, al117]
  rintro v2 H2 ⟨hold2, sv, fv, rfl, hsv, hfv⟩
  have hfz2 : intsOf H2 fv = some (fromL n ws) := hfv.ints (by rw [fromL_len]; omega)
  have hb2 : H2.base ≤ H2.size := by rw [hold2.base, hbs1]; have := hold2.size; omega
  obtain ⟨asv, hsve⟩ := hsv.len
  obtain ⟨afv, hfve⟩ := hfv.len
  have hst : istoreAt Tryz.prog 117 (.pointer (some ⟨H2.size, 0, none⟩)) (.agg #[sv, fv]) (H2.push (.cells #[.slice none 0 0, .slice none 0 0] 117)) = some ((H2.push (.cells #[.slice none 0 0, .slice none 0 0] 117)).put H2.size (.cells #[sv, fv] 117)) :=
    store_agg (vs := [sv, fv]) (l := [.slice none 0 0, .slice none 0 0]) (i := 0) sz117 (by rw [hsve, hfve]; rfl) get_push_eq (by simp) rfl hb2
  simp only [Eops_cons, Eops_nil, Ewant_none, Ewant_some, dstAt_zero, dstAt_succ, wantT_some, wantN_bool, wantN_undef, goE_true, goE_false, thenE_ret, iop1, step_val, step_enter, iop, val_tmp, val_const, val_func, nthR_zero, nthR_succ, setR_zero, setR_succ, Option.getD_some, putD_some, putD_none, bin_lss, bin_leq, bin_gtr, bin_geq, bin_eql, bin_neq, bin_add, bin_sub, pick_bool, Step1.ofO, lenC, callF, mapR_nil, mapR_cons, un_dry, un_neg, un_not, cond_true, cond_false, decide_true, decide_false, beq_self_eq_true, Bool.false_eq_true, Bool.true_eq_false, beq_tt, beq_tf, beq_ft, beq_ff, Bool.not_true, Bool.not_false, appC, copyC, skipO_some, List.map_cons, List.map_nil, goInt, thenE_sp, holds_ret, al117, hst]
  have hold3 : Old H2 ((H2.push (.cells #[.slice none 0 0, .slice none 0 0] 117)).put H2.size (.cells #[sv, fv] 117)) := (Old.push H2 _).put (Nat.le_refl _)
  have hg3 : ((H2.push (.cells #[.slice none 0 0, .slice none 0 0] 117)).put H2.size (.cells #[sv, fv] 117)).get H2.size = some (.cells [sv, fv].toArray 117 (0, 0)) := get_put_eq
  have hs3 : ((H2.push (.cells #[.slice none 0 0, .slice none 0 0] 117)).put H2.size (.cells #[sv, fv] 117)).size = H2.size + 1 := rfl
  generalize (H2.push (.cells #[.slice none 0 0, .slice none 0 0] 117)).put H2.size (.cells #[sv, fv] 117) = H3 at hold3 hg3 hs3
  generalize hb10 : H2.size = b10 at hg3 hs3
  have hfz3 := intsOf_old hold3 hfz2
  have hl3 : iloadAt Tryz.prog 117 (.pointer (some ⟨b10, 0, none⟩)) H3 = some (.agg #[sv, fv]) := load_agg (t := 117) (i := 0) ag117 sz117 hg3 (by simp)
  have holdA := (hold1.trans hold2).trans hold3
  refine setup43.regE 0 (by kernel_rfl) (by simp only [List.map_cons, List.map_nil]; rfl) (by simp only [Eops_cons, Eops_nil, Ewant_none, Ewant_some, dstAt_zero, dstAt_succ, wantT_some, wantN_bool, wantN_undef, goE_true, goE_false, thenE_ret, iop1, step_val, step_enter, iop, val_tmp, val_const, val_func, nthR_zero, nthR_succ, setR_zero, setR_succ, Option.getD_some, putD_some, putD_none, bin_lss, bin_leq, bin_gtr, bin_geq, bin_eql, bin_neq, bin_add, bin_sub, pick_bool, Step1.ofO, lenC, callF, mapR_nil, mapR_cons, un_dry, un_neg, un_not, cond_true, cond_false, decide_true, decide_false, beq_self_eq_true, Bool.false_eq_true, Bool.true_eq_false, beq_tt, beq_tf, beq_ft, beq_ff, Bool.not_true, Bool.not_false, appC, copyC, skipO_some, List.map_cons, List.map_nil, goInt]; rfl) ?_
  generalize hf : fromL n ws = f at hfz3
  have hfis : PermL n f := hf ▸ fromL_is hok
  obtain ⟨per, hper0, hper⟩ := comes_back (by omega) hfis
  refine .seqW (setup43.regE 0 (by kernel_rfl) (by simp only [List.map_cons, List.map_nil]; rfl) (by simp only [Eops_cons, Eops_nil, Ewant_none, Ewant_some, dstAt_zero, dstAt_succ, wantT_some, wantN_bool, wantN_undef, goE_true, goE_false, thenE_ret, iop1, step_val, step_enter, iop, val_tmp, val_const, val_func, nthR_zero, nthR_succ, setR_zero, setR_succ, Option.getD_some, putD_some, putD_none, bin_lss, bin_leq, bin_gtr, bin_geq, bin_eql, bin_neq, bin_add, bin_sub, pick_bool, Step1.ofO, lenC, callF, mapR_nil, mapR_cons, un_dry, un_neg, un_not, cond_true, cond_false, decide_true, decide_false, beq_self_eq_true, Bool.false_eq_true, Bool.true_eq_false, beq_tt, beq_tf, beq_ft, beq_ff, Bool.not_true, Bool.not_false, appC, copyC, skipO_some, List.map_cons, List.map_nil, goInt]; rfl) ?_)
  refine .loopW (fun m e h => ∃ (k : Nat) (ov : Value) (rows : List Value), k ≤ c ^ n ∧ m = c ^ n - k ∧ e = [.int .i64 n, unk, .int .i64 c, unk, unk, unk, unk, unk, unk, unk, .pointer (some ⟨b10, 0, none⟩), ov, unk, unk, unk, unk, unk, unk, unk, unk, unk, unk, unk, unk, unk, unk, unk, unk, unk, unk, unk, unk, unk, unk, unk, .int .i64 ((c ^ n : Nat) : Int), .int .i64 (k : Nat), unk, unk, unk, unk, unk, unk, unk, unk, unk, unk, unk, unk, unk, unk, unk, unk, unk, unk, unk, unk, unk, unk, unk, unk, unk, unk, unk, unk, unk, unk, unk, unk, unk, unk, unk, unk, unk, unk, unk, unk, unk, unk, unk, unk, unk, unk] ∧ Old H3 h ∧
      Grown h 22 H3.size ov rows ∧ IRows h 3 H3.size h.size rows (listN f c n k)) (c ^ n)
    [.int .i64 n, unk, .int .i64 c, unk, unk, unk, unk, unk, unk, unk, .pointer (some ⟨b10, 0, none⟩), .slice none 0 0, unk, unk, unk, unk, unk, unk, unk, unk, unk, unk, unk, unk, unk, unk, unk, unk, unk, unk, unk, unk, unk, unk, unk, .int .i64 ((c ^ n : Nat) : Int), .int .i64 0, unk, unk, unk, unk, unk, unk, unk, unk, unk, unk, unk, unk, unk, unk, unk, unk, unk, unk, unk, unk, unk, unk, unk, unk, unk, unk, unk, unk, unk, unk, unk, unk, unk, unk, unk, unk, unk, unk, unk, unk, unk, unk, unk, unk, unk, unk] (by repeat (first | exact WkL.nil | refine WkL.same ?_ | refine WkL.any ?_))
    ⟨0, _, [], Nat.zero_le _, rfl, rfl, .refl _, .nil _ _ _, .nil _ _ _ _⟩ ?_
  rintro m e h ⟨k, ov, rows, hk, rfl, rfl, hold, hout, hrows⟩
  have hbh : h.base ≤ H3.size := by rw [hold.base, holdA.base]; have := holdA.size; omega
  refine setup43.headW (by kernel_rfl) (by simp only [List.map_cons, List.map_nil]; rfl) (by simp only [Eops_cons, Eops_nil, Ewant_none, Ewant_some, dstAt_zero, dstAt_succ, wantT_some, wantN_bool, wantN_undef, goE_true, goE_false, thenE_ret, iop1, step_val, step_enter, iop, val_tmp, val_const, val_func, nthR_zero, nthR_succ, setR_zero, setR_succ, Option.getD_some, putD_some, putD_none, bin_lss, bin_leq, bin_gtr, bin_geq, bin_eql, bin_neq, bin_add, bin_sub, pick_bool, Step1.ofO, lenC, callF, mapR_nil, mapR_cons, un_dry, un_neg, un_not, cond_true, cond_false, decide_true, decide_false, beq_self_eq_true, Bool.false_eq_true, Bool.true_eq_false, beq_tt, beq_tf, beq_ft, beq_ff, Bool.not_true, Bool.not_false, appC, copyC, skipO_some, List.map_cons, List.map_nil, goInt]; rfl) (by kernel_rfl) (by simp only [val_tmp, nthR_zero, nthR_succ, Option.getD_some]; rfl) (fun ht5 => ?_) (fun ht5 => ?_)
  · have hlt : k < c ^ n := by simp only [decide_eq_true_eq] at ht5; omega
    refine .blockW (setup43.regE 0 (by kernel_rfl) (by simp only [List.map_cons, List.map_nil]; rfl) (by simp only [Eops_cons, Eops_nil, Ewant_none, Ewant_some, dstAt_zero, dstAt_succ, wantT_some, wantN_bool, wantN_undef, goE_true, goE_false, thenE_ret, iop1, step_val, step_enter, iop, val_tmp, val_const, val_func, nthR_zero, nthR_succ, setR_zero, setR_succ, Option.getD_some, putD_some, putD_none, bin_lss, bin_leq, bin_gtr, bin_geq, bin_eql, bin_neq, bin_add, bin_sub, pick_bool, Step1.ofO, lenC, callF, mapR_nil, mapR_cons, un_dry, un_neg, un_not, cond_true, cond_false, decide_true, decide_false, beq_self_eq_true, Bool.false_eq_true, Bool.true_eq_false, beq_tt, beq_tf, beq_ft, beq_ff, Bool.not_true, Bool.not_false, appC, copyC, skipO_some, List.map_cons, List.map_nil, goInt]; rfl) (setup43.regE 0 (by kernel_rfl) (by simp only [List.map_cons, List.map_nil]; rfl) (by simp only [Eops_cons, Eops_nil, Ewant_none, Ewant_some, dstAt_zero, dstAt_succ, wantT_some, wantN_bool, wantN_undef, goE_true, goE_false, thenE_ret, iop1, step_val, step_enter, iop, val_tmp, val_const, val_func, nthR_zero, nthR_succ, setR_zero, setR_succ, Option.getD_some, putD_some, putD_none, bin_lss, bin_leq, bin_gtr, bin_geq, bin_eql, bin_neq, bin_add, bin_sub, pick_bool, Step1.ofO, lenC, callF, mapR_nil, mapR_cons, un_dry, un_neg, un_not, cond_true, cond_false, decide_true, decide_false, beq_self_eq_true, Bool.false_eq_true, Bool.true_eq_false, beq_tt, beq_tf, beq_ft, beq_ff, Bool.not_true, Bool.not_false, appC, copyC, skipO_some, List.map_cons, List.map_nil, goInt, mk22 (n := n) (by omega)]; rfl) ?_))
    generalize hv : Value.slice (some ⟨h.size, 0, none⟩) n n = v
    have hown : OwnAt (h.push (.cells ((List.replicate n (0 : Int)).map (Value.int .i64)).toArray 3)) 3 h.size v (digP c n k 0) := by rw [← hv, digP_zero]; exact OwnAt.zeros _
    have holdp := Old.push h (.cells ((List.replicate n (0 : Int)).map (Value.int .i64)).toArray 3)
    generalize h.push (.cells ((List.replicate n (0 : Int)).map (Value.int .i64)).toArray 3) = h1 at hown holdp
    refine .seqW (setup43.regE 0 (by kernel_rfl) (by simp only [List.map_cons, List.map_nil]; rfl) (by simp only [Eops_cons, Eops_nil, Ewant_none, Ewant_some, dstAt_zero, dstAt_succ, wantT_some, wantN_bool, wantN_undef, goE_true, goE_false, thenE_ret, iop1, step_val, step_enter, iop, val_tmp, val_const, val_func, nthR_zero, nthR_succ, setR_zero, setR_succ, Option.getD_some, putD_some, putD_none, bin_lss, bin_leq, bin_gtr, bin_geq, bin_eql, bin_neq, bin_add, bin_sub, pick_bool, Step1.ofO, lenC, callF, mapR_nil, mapR_cons, un_dry, un_neg, un_not, cond_true, cond_false, decide_true, decide_false, beq_self_eq_true, Bool.false_eq_true, Bool.true_eq_false, beq_tt, beq_tf, beq_ft, beq_ff, Bool.not_true, Bool.not_false, appC, copyC, skipO_some, List.map_cons, List.map_nil, goInt]; rfl) ?_)
    refine .loopW (fun m e h2 => ∃ (t : Nat), t ≤ n ∧ m = n - t ∧ e = [.int .i64 n, unk, .int .i64 c, unk, unk, unk, unk, unk, unk, unk, .pointer (some ⟨b10, 0, none⟩), ov, .int .i64 (k : Nat), v, unk, unk, unk, unk, unk, unk, unk, unk, unk, unk, unk, unk, unk, unk, unk, unk, unk, unk, unk, unk, unk, .int .i64 ((c ^ n : Nat) : Int), .int .i64 (k : Nat), unk, unk, unk, unk, .int .i64 n, .int .i64 (t : Nat), unk, unk, unk, unk, unk, unk, unk, unk, unk, unk, unk, unk, unk, unk, unk, unk, unk, unk, unk, unk, unk, unk, unk, unk, unk, unk, unk, unk, unk, unk, unk, unk, unk, unk, unk, unk, unk, unk, unk, unk] ∧ Old h h2 ∧ OwnAt h2 3 h.size v (digP c n k t)) n
      [.int .i64 n, unk, .int .i64 c, unk, unk, unk, unk, unk, unk, unk, .pointer (some ⟨b10, 0, none⟩), ov, .int .i64 (k : Nat), v, unk, unk, unk, unk, unk, unk, unk, unk, unk, unk, unk, unk, unk, unk, unk, unk, unk, unk, unk, unk, unk, .int .i64 ((c ^ n : Nat) : Int), .int .i64 (k : Nat), unk, unk, unk, unk, .int .i64 n, .int .i64 0, unk, unk, unk, unk, unk, unk, unk, unk, unk, unk, unk, unk, unk, unk, unk, unk, unk, unk, unk, unk, unk, unk, unk, unk, unk, unk, unk, unk, unk, unk, unk, unk, unk, unk, unk, unk, unk, unk, unk, unk] (by repeat (first | exact WkL.nil | refine WkL.same ?_ | refine WkL.any ?_))
      ⟨0, Nat.zero_le _, rfl, rfl, holdp, hown⟩ ?_
    rintro m e h2 ⟨t, ht, rfl, rfl, hold2', hown2⟩
    refine setup43.headW (by kernel_rfl) (by simp only [List.map_cons, List.map_nil]; rfl) (by simp only [Eops_cons, Eops_nil, Ewant_none, Ewant_some, dstAt_zero, dstAt_succ, wantT_some, wantN_bool, wantN_undef, goE_true, goE_false, thenE_ret, iop1, step_val, step_enter, iop, val_tmp, val_const, val_func, nthR_zero, nthR_succ, setR_zero, setR_succ, Option.getD_some, putD_some, putD_none, bin_lss, bin_leq, bin_gtr, bin_geq, bin_eql, bin_neq, bin_add, bin_sub, pick_bool, Step1.ofO, lenC, callF, mapR_nil, mapR_cons, un_dry, un_neg, un_not, cond_true, cond_false, decide_true, decide_false, beq_self_eq_true, Bool.false_eq_true, Bool.true_eq_false, beq_tt, beq_tf, beq_ft, beq_ff, Bool.not_true, Bool.not_false, appC, copyC, skipO_some, List.map_cons, List.map_nil, goInt]; rfl) (by kernel_rfl) (by simp only [val_tmp, nthR_zero, nthR_succ, Option.getD_some]; rfl) (fun ht6 => ?_) (fun ht6 => ?_)
    · have htn : t < n := by simpa using ht6
      have hw1 : IntKind.i64.wrap (IntKind.i64.wrap ((n : Int) - 1) - (t : Int)) = ((n - 1 - t : Nat) : Int) := by
        rw [wrap_pred (by omega) (by omega), wrap_id (by omega) (by omega)]; omega
      have hpt : c ^ t ≤ 68719476736 := pow_le (by omega) (by omega)
      have hpt0 : 0 < c ^ t := Nat.pow_pos (by omega)
      obtain ⟨p, h3, hp, hst3, hown3, hsz3, hbs3, hkeep3⟩ := hown2.write el22 (i := n - 1 - t) (by rw [digP_len]; omega) (by rw [hold2'.base]; have := hold.size; omega) ((k / c ^ t % c : Nat) : Int) (k := .i64)
      rw [digP_set htn] at hown3
      refine .blockW (setup43.regE 0 (by kernel_rfl) (by simp only [List.map_cons, List.map_nil]; rfl) (by simp only [Eops_cons, Eops_nil, Ewant_none, Ewant_some, dstAt_zero, dstAt_succ, wantT_some, wantN_bool, wantN_undef, goE_true, goE_false, thenE_ret, iop1, step_val, step_enter, iop, val_tmp, val_const, val_func, nthR_zero, nthR_succ, setR_zero, setR_succ, Option.getD_some, putD_some, putD_none, bin_lss, bin_leq, bin_gtr, bin_geq, bin_eql, bin_neq, bin_add, bin_sub, pick_bool, Step1.ofO, lenC, callF, mapR_nil, mapR_cons, un_dry, un_neg, un_not, cond_true, cond_false, decide_true, decide_false, beq_self_eq_true, Bool.false_eq_true, Bool.true_eq_false, beq_tt, beq_tf, beq_ft, beq_ff, Bool.not_true, Bool.not_false, appC, copyC, skipO_some, List.map_cons, List.map_nil, goInt]; rfl) (setup43.regZ 0 (by kernel_rfl) (by simp only [List.map_cons, List.map_nil]; rfl) (by simp only [Eops_cons, Eops_nil, Ewant_none, Ewant_some, dstAt_zero, dstAt_succ, wantT_some, wantN_bool, wantN_undef, goE_true, goE_false, thenE_ret, iop1, step_val, step_enter, iop, val_tmp, val_const, val_func, nthR_zero, nthR_succ, setR_zero, setR_succ, Option.getD_some, putD_some, putD_none, bin_lss, bin_leq, bin_gtr, bin_geq, bin_eql, bin_neq, bin_add, bin_sub, pick_bool, Step1.ofO, lenC, callF, mapR_nil, mapR_cons, un_dry, un_neg, un_not, cond_true, cond_false, decide_true, decide_false, beq_self_eq_true, Bool.false_eq_true, Bool.true_eq_false, beq_tt, beq_tf, beq_ft, beq_ff, Bool.not_true, Bool.not_false, appC, copyC, skipO_some, List.map_cons, List.map_nil, goInt, hw1, e108, enter_k n108g, ofK, kPow_eq (a := c) (k := t) (by omega) (by omega), bin_quoN (a := k) (b := c ^ t) hpt0 (by omega), bin_remN (a := k / c ^ t) (b := c) (by omega), hp, hst3]; rfl) (BT.go ?_)))
      exact setup43.regZ 0 (by kernel_rfl) (by simp only [List.map_cons, List.map_nil]; rfl) (by simp only [Eops_cons, Eops_nil, Ewant_none, Ewant_some, dstAt_zero, dstAt_succ, wantT_some, wantN_bool, wantN_undef, goE_true, goE_false, thenE_ret, iop1, step_val, step_enter, iop, val_tmp, val_const, val_func, nthR_zero, nthR_succ, setR_zero, setR_succ, Option.getD_some, putD_some, putD_none, bin_lss, bin_leq, bin_gtr, bin_geq, bin_eql, bin_neq, bin_add, bin_sub, pick_bool, Step1.ofO, lenC, callF, mapR_nil, mapR_cons, un_dry, un_neg, un_not, cond_true, cond_false, decide_true, decide_false, beq_self_eq_true, Bool.false_eq_true, Bool.true_eq_false, beq_tt, beq_tf, beq_ft, beq_ff, Bool.not_true, Bool.not_false, appC, copyC, skipO_some, List.map_cons, List.map_nil, goInt, wrap_succ htn (by omega)]; rfl) (LQ.go (n - (t + 1)) (by omega) (by repeat (first | exact WkL.nil | refine WkL.same ?_ | refine WkL.any ?_)) ⟨t + 1, by omega, rfl, rfl, hold2'.of (by omega) hbs3 fun b hb' => hkeep3 b (hown2.notOld hb'), hown3⟩)
    · have hge : t = n := by simp at ht6; omega
      subst hge
      rw [digP_end] at hown2
      have hxl := digs_len c t k
      generalize hx : digs c t k = x at hown2 hxl
      have hxz : intsOf h2 v = some x := hown2.ints (by omega)
      have hold3h2 := hold.trans hold2'
      have hb22 : h2.base ≤ h2.size := by rw [hold2'.base]; have := hold2'.size; have := hold.size; omega
      refine ST.go (setup43.regE 0 (by kernel_rfl) (by simp only [List.map_cons, List.map_nil]; rfl) (by simp only [Eops_cons, Eops_nil, Ewant_none, Ewant_some, dstAt_zero, dstAt_succ, wantT_some, wantN_bool, wantN_undef, goE_true, goE_false, thenE_ret, iop1, step_val, step_enter, iop, val_tmp, val_const, val_func, nthR_zero, nthR_succ, setR_zero, setR_succ, Option.getD_some, putD_some, putD_none, bin_lss, bin_leq, bin_gtr, bin_geq, bin_eql, bin_neq, bin_add, bin_sub, pick_bool, Step1.ofO, lenC, callF, mapR_nil, mapR_cons, un_dry, un_neg, un_not, cond_true, cond_false, decide_true, decide_false, beq_self_eq_true, Bool.false_eq_true, Bool.true_eq_false, beq_tt, beq_tf, beq_ft, beq_ff, Bool.not_true, Bool.not_false, appC, copyC, skipO_some, List.map_cons, List.map_nil, goInt]; rfl) ?_)
      have hl22 : iloadAt Tryz.prog 117 (.pointer (some ⟨b10, 0, none⟩)) h2 = some (.agg #[sv, fv]) := load_agg (t := 117) (i := 0) (l := [sv, fv]) ag117 sz117 (by rw [hold3h2.get b10 (by omega)]; exact hg3) (by simp)
      refine .seqJ (fun e h5 => ∃ nv, e = [.int .i64 t, unk, .int .i64 c, unk, unk, unk, unk, unk, unk, unk, .pointer (some ⟨b10, 0, none⟩), ov, unk, v, unk, .bool (leastB f x), nv, unk, unk, unk, unk, unk, unk, unk, unk, unk, unk, unk, unk, unk, unk, unk, unk, unk, unk, .int .i64 ((c ^ t : Nat) : Int), .int .i64 (k : Nat), unk, unk, unk, unk, unk, unk, unk, unk, unk, unk, unk, unk, unk, unk, unk, unk, unk, unk, unk, unk, unk, unk, unk, unk, unk, unk, unk, unk, unk, unk, unk, unk, unk, unk, unk, unk, unk, unk, unk, unk, unk, unk, unk, unk, unk, unk] ∧ Old h2 h5) ?_ ?_
      · refine setup43.regS (by kernel_rfl) (by simp only [List.map_cons, List.map_nil]; rfl) ?_; simp only [Eops_cons, Eops_nil, Ewant_none, Ewant_some, dstAt_zero, dstAt_succ, wantT_some, wantN_bool, wantN_undef, goE_true, goE_false, thenE_ret, iop1, step_val, step_enter, iop, val_tmp, val_const, val_func, nthR_zero, nthR_succ, setR_zero, setR_succ, Option.getD_some, putD_some, putD_none, bin_lss, bin_leq, bin_gtr, bin_geq, bin_eql, bin_neq, bin_add, bin_sub, pick_bool, Step1.ofO, lenC, callF, mapR_nil, mapR_cons, un_dry, un_neg, un_not, cond_true, cond_false, decide_true, decide_false, beq_self_eq_true, Bool.false_eq_true, Bool.true_eq_false, beq_tt, beq_tf, beq_ft, beq_ff, Bool.not_true, Bool.not_false, appC, copyC, skipO_some, List.map_cons, List.map_nil, goInt, thenE_sp, holds_ret, hl22, e104, enter_s (x := ((sv, fv, f), (v, x))) (show nat43 104 = some (ofS pre104 post104) from rfl) uniq104 ⟨rfl, intsOf_old hold3h2 hfz3, by rw [hxl]; exact hfis.ran, hxz, by rw [hfis.len, hxl], hb22⟩]
        rintro v4 h4 ⟨hold4, hown4⟩
        have hzv4 : intsOf h4 v4 = some (gathL f x) := hown4.ints (by rw [gathL_len, hfis.len]; omega)
        have hx0 : ∀ s', s' < 1 → lessL (iterG f s' x) x = false := by
          intro s' hs'
          have : s' = 0 := by omega
          subst this
          exact lessL_self x
        refine .loopW (fun m e h5 => ∃ (s : Nat) (nv : Value) (lb : Bool), 1 ≤ s ∧ s ≤ per ∧ m = per - s ∧ e = [.int .i64 t, unk, .int .i64 c, unk, unk, unk, unk, unk, unk, unk, .pointer (some ⟨b10, 0, none⟩), ov, unk, v, unk, .bool lb, nv, unk, unk, unk, unk, unk, unk, unk, unk, unk, unk, unk, unk, unk, unk, unk, unk, unk, unk, .int .i64 ((c ^ t : Nat) : Int), .int .i64 (k : Nat), unk, unk, unk, unk, unk, unk, unk, unk, unk, unk, unk, unk, unk, unk, unk, unk, unk, unk, unk, unk, unk, unk, unk, unk, unk, unk, unk, unk, unk, unk, unk, unk, unk, unk, unk, unk, unk, unk, unk, unk, unk, unk, unk, unk, unk, unk] ∧ Old h2 h5 ∧ intsOf h5 nv = some (iterG f s x) ∧
            (lb = true → ∀ s', s' < s → lessL (iterG f s' x) x = false) ∧ (lb = false → ∃ s', lessL (iterG f s' x) x = true)) (per - 1)
          [.int .i64 t, unk, .int .i64 c, unk, unk, unk, unk, unk, unk, unk, .pointer (some ⟨b10, 0, none⟩), ov, unk, v, unk, .bool true, v4, unk, unk, unk, unk, unk, unk, unk, unk, unk, unk, unk, unk, unk, unk, unk, unk, unk, unk, .int .i64 ((c ^ t : Nat) : Int), .int .i64 (k : Nat), unk, unk, unk, unk, unk, unk, unk, unk, unk, unk, unk, unk, unk, unk, unk, unk, unk, unk, unk, unk, unk, unk, unk, unk, unk, unk, unk, unk, unk, unk, unk, unk, unk, unk, unk, unk, unk, unk, unk, unk, unk, unk, unk, unk, unk, unk] (by repeat (first | exact WkL.nil | refine WkL.same ?_ | refine WkL.any ?_))
          ⟨1, v4, true, Nat.le_refl _, hper0, rfl, rfl, hold4, hzv4, fun _ => hx0, fun h => by cases h⟩ ?_
        rintro m e h5 ⟨s, nv, lb, hs1, hsp, rfl, rfl, hold5, hzn, hlbt, hlbf⟩
        have hxz5 := intsOf_old hold5 hxz
        have hitl : (iterG f s x).length = t := iterG_len hfis.len hxl s
        cases lb with
        | false =>
          refine setup43.headW2 (by kernel_rfl) (by simp only [List.map_cons, List.map_nil]; rfl) (by simp only [Eops_cons, Eops_nil, Ewant_none, Ewant_some, dstAt_zero, dstAt_succ, wantT_some, wantN_bool, wantN_undef, goE_true, goE_false, thenE_ret, iop1, step_val, step_enter, iop, val_tmp, val_const, val_func, nthR_zero, nthR_succ, setR_zero, setR_succ, Option.getD_some, putD_some, putD_none, bin_lss, bin_leq, bin_gtr, bin_geq, bin_eql, bin_neq, bin_add, bin_sub, pick_bool, Step1.ofO, lenC, callF, mapR_nil, mapR_cons, un_dry, un_neg, un_not, cond_true, cond_false, decide_true, decide_false, beq_self_eq_true, Bool.false_eq_true, Bool.true_eq_false, beq_tt, beq_tf, beq_ft, beq_ff, Bool.not_true, Bool.not_false, appC, copyC, skipO_some, List.map_cons, List.map_nil, goInt]; rfl) (by kernel_rfl) (by simp only [val_tmp, nthR_zero, nthR_succ, Option.getD_some]; rfl) (fun ht7 => by cases ht7) (fun ht7 => ?_)
          obtain ⟨s', hs'⟩ := hlbf rfl
          refine JT.go ?_ ⟨nv, rfl, hold5⟩
          rw [least_false hs']
          repeat (first | exact WkL.nil | refine WkL.same ?_ | refine WkL.any ?_)
        | true =>
          refine setup43.headW2 (by kernel_rfl) (by simp only [List.map_cons, List.map_nil]; rfl) (by simp only [Eops_cons, Eops_nil, Ewant_none, Ewant_some, dstAt_zero, dstAt_succ, wantT_some, wantN_bool, wantN_undef, goE_true, goE_false, thenE_ret, iop1, step_val, step_enter, iop, val_tmp, val_const, val_func, nthR_zero, nthR_succ, setR_zero, setR_succ, Option.getD_some, putD_some, putD_none, bin_lss, bin_leq, bin_gtr, bin_geq, bin_eql, bin_neq, bin_add, bin_sub, pick_bool, Step1.ofO, lenC, callF, mapR_nil, mapR_cons, un_dry, un_neg, un_not, cond_true, cond_false, decide_true, decide_false, beq_self_eq_true, Bool.false_eq_true, Bool.true_eq_false, beq_tt, beq_tf, beq_ft, beq_ff, Bool.not_true, Bool.not_false, appC, copyC, skipO_some, List.map_cons, List.map_nil, goInt, e98, enter_k n98g, ofK, kSame_eq hzn hxz5]; rfl) (by kernel_rfl) (by simp only [val_tmp, nthR_zero, nthR_succ, Option.getD_some]; rfl) (fun ht7 => ?_) (fun ht7 => ?_)
          · have hne : iterG f s x ≠ x := by simpa using ht7
            have hslt : s < per := by
              rcases Nat.lt_or_ge s per with h | h
              · exact h
              · have : s = per := by omega
                subst this
                exact absurd (hper x hxl) hne
            refine .blockW (setup43.regZ 0 (by kernel_rfl) (by simp only [List.map_cons, List.map_nil]; rfl) (by simp only [Eops_cons, Eops_nil, Ewant_none, Ewant_some, dstAt_zero, dstAt_succ, wantT_some, wantN_bool, wantN_undef, goE_true, goE_false, thenE_ret, iop1, step_val, step_enter, iop, val_tmp, val_const, val_func, nthR_zero, nthR_succ, setR_zero, setR_succ, Option.getD_some, putD_some, putD_none, bin_lss, bin_leq, bin_gtr, bin_geq, bin_eql, bin_neq, bin_add, bin_sub, pick_bool, Step1.ofO, lenC, callF, mapR_nil, mapR_cons, un_dry, un_neg, un_not, cond_true, cond_false, decide_true, decide_false, beq_self_eq_true, Bool.false_eq_true, Bool.true_eq_false, beq_tt, beq_tf, beq_ft, beq_ff, Bool.not_true, Bool.not_false, appC, copyC, skipO_some, List.map_cons, List.map_nil, goInt, e96, enter_k n96g, ofK, k96_eq hzn hxz5 (by rw [hitl, hxl])]; rfl) (BT.go ?_))
            have hb5 : h5.base ≤ h5.size := by rw [hold5.base]; have := hold5.size; omega
            have hl5 : iloadAt Tryz.prog 117 (.pointer (some ⟨b10, 0, none⟩)) h5 = some (.agg #[sv, fv]) := load_agg (t := 117) (i := 0) (l := [sv, fv]) ag117 sz117 (by rw [(hold3h2.trans hold5).get b10 (by omega)]; exact hg3) (by simp)
            refine setup43.regSZ (by kernel_rfl) (by simp only [List.map_cons, List.map_nil]; rfl) ?_; simp only [Eops_cons, Eops_nil, Ewant_none, Ewant_some, dstAt_zero, dstAt_succ, wantT_some, wantN_bool, wantN_undef, goE_true, goE_false, thenE_ret, iop1, step_val, step_enter, iop, val_tmp, val_const, val_func, nthR_zero, nthR_succ, setR_zero, setR_succ, Option.getD_some, putD_some, putD_none, bin_lss, bin_leq, bin_gtr, bin_geq, bin_eql, bin_neq, bin_add, bin_sub, pick_bool, Step1.ofO, lenC, callF, mapR_nil, mapR_cons, un_dry, un_neg, un_not, cond_true, cond_false, decide_true, decide_false, beq_self_eq_true, Bool.false_eq_true, Bool.true_eq_false, beq_tt, beq_tf, beq_ft, beq_ff, Bool.not_true, Bool.not_false, appC, copyC, skipO_some, List.map_cons, List.map_nil, goInt, thenE_sp, holds_ret, hl5, e104, enter_s (x := ((sv, fv, f), (nv, iterG f s x))) (show nat43 104 = some (ofS pre104 post104) from rfl) uniq104 ⟨rfl, intsOf_old (hold3h2.trans hold5) hfz3, by rw [hitl]; exact hfis.ran, hzn, by rw [hfis.len, hitl], hb5⟩]
            rintro v6 h6 ⟨hold6, hown6⟩
            have hcmp : (decide (0 < cmpL (iterG f s x) x) = true → lessL (iterG f s x) x = false) ∧ (decide (0 < cmpL (iterG f s x) x) = false → lessL (iterG f s x) x = true) := by
              unfold cmpL
              rw [if_neg hne]
              cases lessL (iterG f s x) x <;> simp
            refine LQ.go (per - (s + 1)) (by omega) (by repeat (first | exact WkL.nil | refine WkL.same ?_ | refine WkL.any ?_)) ⟨s + 1, v6, decide (0 < cmpL (iterG f s x) x), by omega, by omega, rfl, rfl, hold5.trans hold6, hown6.ints (by rw [gathL_len, hfis.len]; omega), fun hl s' hs' => ?_, fun hl => ⟨s, hcmp.2 hl⟩⟩
            by_cases h : s' = s
            · subst h; exact hcmp.1 hl
            · exact hlbt rfl s' (by omega)
          · have he : iterG f s x = x := by simpa using ht7
            refine JT.go ?_ ⟨nv, rfl, hold5⟩
            rw [least_true (by omega) he (hlbt rfl)]
            repeat (first | exact WkL.nil | refine WkL.same ?_ | refine WkL.any ?_)
      · rintro e h5 ⟨nv, rfl, hold5⟩
        have holdh5 := hold2'.trans hold5
        have hsz5 := holdh5.size
        have hszh := hold.size
        have hown5 : OwnAt h5 3 h.size v x := hown2.keep hold5.size fun b _ q2 _ => hold5.get b q2
        have hout5 : Grown h5 22 H3.size ov rows := hout.keep hsz5 fun b _ q2 _ => holdh5.get b q2
        have hrows5 : IRows h5 3 H3.size h.size rows (listN f c t k) := hrows.keep hsz5 fun b _ _ _ _ q3 _ => holdh5.get b q3
        have hrl : rows.length ≤ k := by rw [hrows.1]; exact listN_len f c t k
        refine setup43.ifZ (by kernel_rfl) (by simp only [List.map_cons, List.map_nil]; rfl) (by simp only [Eops_cons, Eops_nil, Ewant_none, Ewant_some, dstAt_zero, dstAt_succ, wantT_some, wantN_bool, wantN_undef, goE_true, goE_false, thenE_ret, iop1, step_val, step_enter, iop, val_tmp, val_const, val_func, nthR_zero, nthR_succ, setR_zero, setR_succ, Option.getD_some, putD_some, putD_none, bin_lss, bin_leq, bin_gtr, bin_geq, bin_eql, bin_neq, bin_add, bin_sub, pick_bool, Step1.ofO, lenC, callF, mapR_nil, mapR_cons, un_dry, un_neg, un_not, cond_true, cond_false, decide_true, decide_false, beq_self_eq_true, Bool.false_eq_true, Bool.true_eq_false, beq_tt, beq_tf, beq_ft, beq_ff, Bool.not_true, Bool.not_false, appC, copyC, skipO_some, List.map_cons, List.map_nil, goInt]; rfl) (by kernel_rfl) (by simp only [val_tmp, nthR_zero, nthR_succ, Option.getD_some]; rfl) (fun ht8 => ?_) (fun ht8 => .skip (BT.go ?_))
        · obtain ⟨av, hve⟩ := hown5.len
          rw [hxl] at hve
          obtain ⟨ov', h6, happ, hout6, hsz6, hbs6, hkeep6, _⟩ := hout5.app (x := v) el25 (by rw [hve]; rfl) hrows5.one (by omega) (by rw [holdh5.base]; exact hbh) (by omega)
          rw [hve] at happ
          have hv2 : v = .slice av t t := hve
          refine setup43.regZ 0 (by kernel_rfl) (by simp only [List.map_cons, List.map_nil]; rfl) (by simp only [Eops_cons, Eops_nil, Ewant_none, Ewant_some, dstAt_zero, dstAt_succ, wantT_some, wantN_bool, wantN_undef, goE_true, goE_false, thenE_ret, iop1, step_val, step_enter, iop, val_tmp, val_const, val_func, nthR_zero, nthR_succ, setR_zero, setR_succ, Option.getD_some, putD_some, putD_none, bin_lss, bin_leq, bin_gtr, bin_geq, bin_eql, bin_neq, bin_add, bin_sub, pick_bool, Step1.ofO, lenC, callF, mapR_nil, mapR_cons, un_dry, un_neg, un_not, cond_true, cond_false, decide_true, decide_false, beq_self_eq_true, Bool.false_eq_true, Bool.true_eq_false, beq_tt, beq_tf, beq_ft, beq_ff, Bool.not_true, Bool.not_false, appC, copyC, skipO_some, List.map_cons, List.map_nil, goInt, hv2, b1s, happ]; rfl) (BT.go ?_)
          refine setup43.regZ 0 (by kernel_rfl) (by simp only [List.map_cons, List.map_nil]; rfl) (by simp only [Eops_cons, Eops_nil, Ewant_none, Ewant_some, dstAt_zero, dstAt_succ, wantT_some, wantN_bool, wantN_undef, goE_true, goE_false, thenE_ret, iop1, step_val, step_enter, iop, val_tmp, val_const, val_func, nthR_zero, nthR_succ, setR_zero, setR_succ, Option.getD_some, putD_some, putD_none, bin_lss, bin_leq, bin_gtr, bin_geq, bin_eql, bin_neq, bin_add, bin_sub, pick_bool, Step1.ofO, lenC, callF, mapR_nil, mapR_cons, un_dry, un_neg, un_not, cond_true, cond_false, decide_true, decide_false, beq_self_eq_true, Bool.false_eq_true, Bool.true_eq_false, beq_tt, beq_tf, beq_ft, beq_ff, Bool.not_true, Bool.not_false, appC, copyC, skipO_some, List.map_cons, List.map_nil, goInt, wrap_succ hlt (by omega)]; rfl) (LQ.go (c ^ t - (k + 1)) (by omega) (by repeat (first | exact WkL.nil | refine WkL.same ?_ | refine WkL.any ?_)) ⟨k + 1, ov', rows ++ [v], by omega, rfl, rfl, ?_, hout6, ?_⟩)
          · exact (hold.trans holdh5).of (by omega) hbs6 fun b hb' => hkeep6 b (by omega) (hout5.notOld hb')
          · have hl1 : listN f c t (k + 1) = listN f c t k ++ [x] := by rw [listN, hx, ht8]; rfl
            rw [hl1]
            refine IRows.snoc ?_ ?_
            · exact (hrows5.keepEl hout5 (by decide) (by omega) hkeep6).lower (Nat.le_refl _) (by omega)
            · refine ((hown5.row.lower (lo' := H3.size) (by omega) (Nat.le_refl _)).keep (by omega) fun b c' fz q1 q2 q3 q4 _ => hkeep6 b q3 fun q5 => ?_).lower (Nat.le_refl _) (by omega)
              have := (hout5.blk_lt q5).2.2
              rw [q4] at this
              simp at this
        · have hl1 : listN f c t (k + 1) = listN f c t k := by rw [listN, hx, ht8]; simp
          refine setup43.regZ 0 (by kernel_rfl) (by simp only [List.map_cons, List.map_nil]; rfl) (by simp only [Eops_cons, Eops_nil, Ewant_none, Ewant_some, dstAt_zero, dstAt_succ, wantT_some, wantN_bool, wantN_undef, goE_true, goE_false, thenE_ret, iop1, step_val, step_enter, iop, val_tmp, val_const, val_func, nthR_zero, nthR_succ, setR_zero, setR_succ, Option.getD_some, putD_some, putD_none, bin_lss, bin_leq, bin_gtr, bin_geq, bin_eql, bin_neq, bin_add, bin_sub, pick_bool, Step1.ofO, lenC, callF, mapR_nil, mapR_cons, un_dry, un_neg, un_not, cond_true, cond_false, decide_true, decide_false, beq_self_eq_true, Bool.false_eq_true, Bool.true_eq_false, beq_tt, beq_tf, beq_ft, beq_ff, Bool.not_true, Bool.not_false, appC, copyC, skipO_some, List.map_cons, List.map_nil, goInt, wrap_succ hlt (by omega)]; rfl) (LQ.go (c ^ t - (k + 1)) (by omega) (by repeat (first | exact WkL.nil | refine WkL.same ?_ | refine WkL.any ?_)) ⟨k + 1, ov, rows, by omega, rfl, rfl, hold.trans holdh5, hout5, ?_⟩)
          rw [hl1]
          exact hrows5.lower (Nat.le_refl _) (by omega)
  · have hge : k = c ^ n := by simp only [decide_eq_false_iff_not] at ht5; omega
    subst hge
    refine ST.go (setup43.regE 0 (by kernel_rfl) (by simp only [List.map_cons, List.map_nil]; rfl) (by simp only [Eops_cons, Eops_nil, Ewant_none, Ewant_some, dstAt_zero, dstAt_succ, wantT_some, wantN_bool, wantN_undef, goE_true, goE_false, thenE_ret, iop1, step_val, step_enter, iop, val_tmp, val_const, val_func, nthR_zero, nthR_succ, setR_zero, setR_succ, Option.getD_some, putD_some, putD_none, bin_lss, bin_leq, bin_gtr, bin_geq, bin_eql, bin_neq, bin_add, bin_sub, pick_bool, Step1.ofO, lenC, callF, mapR_nil, mapR_cons, un_dry, un_neg, un_not, cond_true, cond_false, decide_true, decide_false, beq_self_eq_true, Bool.false_eq_true, Bool.true_eq_false, beq_tt, beq_tf, beq_ft, beq_ff, Bool.not_true, Bool.not_false, appC, copyC, skipO_some, List.map_cons, List.map_nil, goInt]; rfl) ?_)
    have hsz := holdA.size
    exact .ret ⟨.inr rfl, .tuple #[ov, .int .i64 0], res2 rfl (by simp only [nthR_zero, nthR_succ]) (by simp only [nthR_zero, nthR_succ]), holdA.trans hold, ov, rows, _, _, rfl, hout.lower hsz, hrows.lower hsz (Nat.le_refl _), fun h => absurd hE h, fun _ h => by simp only [Int.toNat_natCast] at h; omega, fun _ _ => ⟨by simp only [Int.toNat_natCast, hf], rfl⟩⟩
end Go.Proofs.YtpdlblofcdcikaaGreatDoor
