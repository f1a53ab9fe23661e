/- What is computed answers as the reference does. Conditions: none. -/
import Derived.Test.YtpdlblofcdcikaaGreatDoorF6
set_option linter.unusedSimpArgs false
set_option linter.unusedVariables false
namespace Go.Proofs.YtpdlblofcdcikaaGreatDoor
open Go.Idl

theorem letters_eq {n : Int} (h : outN n = false) (c : Int) : badLetter n c = refLetter n c := by
  have hn : 2 ≤ n ∧ n ≤ 12 := by simp [outN] at h; omega
  unfold badLetter refLetter
  rw [wrap_id (n := 0 - n) (by omega) (by omega), wrap_id (n := 1 - n) (by omega) (by omega), wrap_id (n := n - 1) (by omega) (by omega)]
  have h1 : decide (c ≤ 0 - n) = decide (c < 1 - n) := by rw [decide_eq_decide]; omega
  have h2 : decide (n ≤ c) = decide (n - 1 < c) := by rw [decide_eq_decide]; omega
  rw [h1, h2]
theorem colours_eq (c : Int) : badColour c = refColour c := by
  unfold badColour refColour
  by_cases h1 : 0 ≤ c
  · by_cases h2 : c < 8
    · have h3 : ¬ c < 0 := by omega
      have h4 : ¬ 7 < c := by omega
      simp [h1, h2, h3, h4]
    · have h3 : 7 < c := by omega
      simp [h1, h2, h3]
  · have h3 : c < 0 := by omega
    simp [h1, h3]
theorem any_eq {p q : Int → Bool} (h : ∀ c, p c = q c) (zs : List Int) : zs.any p = zs.any q := by
  have : p = q := funext h
  rw [this]
theorem scheme_eq (n : Int) (zs : List Int) : chkScheme n zs = refScheme n zs := by
  unfold chkScheme refScheme
  cases h1 : outN n with
  | true => rfl
  | false =>
    rw [any_eq (letters_eq h1)]
    cases h2 : ((zs.length : Int) == 0) with
    | true => rfl
    | false =>
      cases h3 : decide (24 < (zs.length : Int)) with
      | true => rfl
      | false => cases h4 : zs.any (refLetter n) <;> rfl
theorem placing_eq (n : Int) (zs : List Int) : chkPlacing n zs = refPlacing n zs := by
  unfold chkPlacing refPlacing
  rw [any_eq colours_eq]
  cases h1 : outN n with
  | true => rfl
  | false =>
    cases h2 : ((zs.length : Int) != n) with
    | true => rfl
    | false => cases h4 : zs.any refColour <;> rfl
theorem row_eq (l : Nat) (zs : List Int) : rowErr l zs = refRow l zs := by
  unfold rowErr refRow
  rw [any_eq colours_eq]
  cases h1 : ((zs.length : Int) == 0) with
  | true => rfl
  | false =>
    cases h2 : decide (24 < (zs.length : Int)) with
    | true => rfl
    | false =>
      cases h3 : ((zs.length : Int) != (l : Int)) with
      | true => rfl
      | false => cases h4 : zs.any refColour <;> rfl
theorem rows_eq (rs : List (Value × List Int)) : rowErrs rs = refRows rs := by
  unfold rowErrs refRows
  exact List.map_congr_left fun r _ => row_eq _ _

/-! ### The law -/
theorem fA0 (b : Nat) : ifieldAt Tryz.prog 24 (.pointer (some ⟨b, 0, none⟩)) 0 = some (.pointer (some ⟨b, 0, none⟩)) := by kernel_rfl
theorem fA1 (b : Nat) : ifieldAt Tryz.prog 24 (.pointer (some ⟨b, 0, none⟩)) 1 = some (.pointer (some ⟨b, 1, none⟩)) := by kernel_rfl
theorem e18 : enters Tryz.prog 18 = true := by kernel_rfl
theorem e23 : enters Tryz.prog 23 = true := by kernel_rfl
theorem t16 : nat20 16 = some (ofK k16) := rfl
theorem t17 : nat20 17 = some (ofK k17) := rfl
theorem t18 : nat20 18 = some (ofK k18) := rfl
theorem t19 : nat20 19 = some (ofK k19) := rfl
theorem t20 : nat20 20 = some (ofK k20) := rfl
theorem t21 : nat20 21 = some (ofK k21) := rfl
theorem t22 : nat20 22 = some (ofK k22) := rfl
theorem t23 : nat20 23 = some (ofK k23) := rfl
theorem t24 : nat20 24 = some (ofK k24) := rfl
theorem pure20 : NatPure nat20 := addNat_pure pure19
noncomputable def c3 : Code := Tryz.f3.body.getD .skip

/-- what the law's input must be -/
structure FormsIn (H : IH) (w : Value) (nw : Nat) (cs : Value) (nc : Nat) (ap : Option Addr) (np cp : Nat) (ls : List Nat) : Prop where
  word : ∃ a c, w = .slice a nw c
  cols : ∃ a c, cs = .slice a nc c
  lens : lensOf H ap np = some ls
  zs : nw ≤ 27 → ∃ zs, intsOf H w = some zs
  ks : nc ≤ 30 → ∃ zs, intsOf H cs = some zs
  rs : shortPic np ls = true → np = 0 ∨ 24 < np ∨ ∃ rs, picOf H (.slice ap np cp) = some rs

set_option maxRecDepth 20000 in
theorem forms_holds {H : IH} {n : Int} {w cs : Value} {nw nc : Nat} {ap : Option Addr} {np cp : Nat} {ls : List Nat} (hin : FormsIn H w nw cs nc ap np cp ls) :
    Holds Tryz.prog (globG 3) false c3 [.agg #[.int .i64 n, w], cs, .slice ap np cp, undef, undef, undef, undef, undef, undef, undef, undef, undef, undef, undef, undef, undef, undef, undef, undef, undef, undef, undef, undef, undef, undef, undef, undef, undef, undef, undef, undef, undef, undef, undef, undef, undef, undef, undef, undef, undef, undef, undef, undef, undef, undef, undef, undef, undef, undef, undef, undef, undef, undef, undef] H fun o => (o.e = .normal ∨ o.e = .ret) ∧ iresults Tryz.prog Tryz.f3 o.env o.H = some (.bool true) ∧ Old H o.H := by
  obtain ⟨⟨aw, cw, rfl⟩, ⟨ac, cc, rfl⟩, hls, hzs, hks, hrs⟩ := hin
  refine setup20.regE 0 (by kernel_rfl) (by simp only [List.map_cons, List.map_nil]; rfl) (by simp only [qB, qC, qD, qE, qF, qG, qH, qJ, qK, qM, qN, qP, iop1, qR, qS, iop, qT, qV, qW, qX, qY, qZ, zA, Option.getD_some, zB, zC,
    zD, zE, zF, zG, zH, zJ, zK, zM, zN, Step1.ofO, lenC, callF, zP, zR, zS, zT, zV, cond_true, cond_false, decide_true, decide_false, beq_self_eq_true, Bool.false_eq_true, Bool.true_eq_false, zW, zX, zY, zZ, Bool.not_true, Bool.not_false, box_agg]; rfl) ?_
  have ho : Old H (H.push (.cells #[.int .i64 n, .slice aw nw cw] 24)) := .push _ _
  have hl0 : iloadAt Tryz.prog 3 (.pointer (some ⟨H.size, 0, none⟩)) (H.push (.cells #[.int .i64 n, .slice aw nw cw] 24)) = some (.int .i64 n) := by
    refine load_one ag3 ?_
    unfold IH.load
    rw [IH.get_push, if_pos rfl]; rfl
  have hl1 : iloadAt Tryz.prog 22 (.pointer (some ⟨H.size, 1, none⟩)) (H.push (.cells #[.int .i64 n, .slice aw nw cw] 24)) = some (.slice aw nw cw) := by
    refine load_one ag22 ?_
    unfold IH.load
    rw [IH.get_push, if_pos rfl]; rfl
  have hls' := lensOf_old ho hls
  generalize hH1 : H.push (.cells #[.int .i64 n, .slice aw nw cw] 24) = H1 at ho hl0 hl1 hls'
  by_cases h1 : (nw : Int) ≤ 27
  · by_cases h2 : (30 : Int) < (nc : Int)
    · refine setup20.ifRet 0 (by kernel_rfl) (by simp only [List.map_cons, List.map_nil]; rfl) (by simp only [qB, qC, qD, qE, qF, qG, qH, qJ, qK, qM, qN, qP, iop1, qR, qS, iop, qT, qV, qW, qX, qY, qZ, zA, Option.getD_some, zB, zC,
    zD, zE, zF, zG, zH, zJ, zK, zM, zN, Step1.ofO, lenC, callF, zP, zR, zS, zT, zV, cond_true, cond_false, decide_true, decide_false, beq_self_eq_true, Bool.false_eq_true, Bool.true_eq_false, zW, zX, zY, zZ, Bool.not_true, Bool.not_false, fA1, hl1, e16, enter_k t16, ofK, k16, h1, h2, lenB_slice u22, goInt]; rfl) (by kernel_rfl) (by simp only [qT, qX, qY, Option.getD_some]; rfl) (fun ht => ?_) (fun ht => by cases ht)
      exact setup20.regE 0 (by kernel_rfl) (by simp only [List.map_cons, List.map_nil]; rfl) (by simp only [qB, qC, qD, qE, qF, qG, qH, qJ, qK, qM, qN, qP, iop1, qR, qS, iop, qT, qV, qW, qX, qY, qZ, zA, Option.getD_some, zB, zC,
    zD, zE, zF, zG, zH, zJ, zK, zM, zN, Step1.ofO, lenC, callF, zP, zR, zS, zT, zV, cond_true, cond_false, decide_true, decide_false, beq_self_eq_true, Bool.false_eq_true, Bool.true_eq_false, zW, zX, zY, zZ, Bool.not_true, Bool.not_false, e18, enter_k t18, ofK, k18]; rfl) (.ret ⟨rfl, .inr rfl, ires_tmp rfl (by simp only [qX, qY]), ho⟩)
    · refine setup20.ifRet 0 (by kernel_rfl) (by simp only [List.map_cons, List.map_nil]; rfl) (by simp only [qB, qC, qD, qE, qF, qG, qH, qJ, qK, qM, qN, qP, iop1, qR, qS, iop, qT, qV, qW, qX, qY, qZ, zA, Option.getD_some, zB, zC,
    zD, zE, zF, zG, zH, zJ, zK, zM, zN, Step1.ofO, lenC, callF, zP, zR, zS, zT, zV, cond_true, cond_false, decide_true, decide_false, beq_self_eq_true, Bool.false_eq_true, Bool.true_eq_false, zW, zX, zY, zZ, Bool.not_true, Bool.not_false, fA1, hl1, e16, enter_k t16, ofK, k16, h1, h2, lenB_slice u22, goInt, e17, enter_k t17, k17, hls', Option.map_some]; rfl) (by kernel_rfl) (by simp only [qT, qX, qY, Option.getD_some]; rfl) (fun ht => ?_) (fun ht => ?_)
      · exact setup20.regE 0 (by kernel_rfl) (by simp only [List.map_cons, List.map_nil]; rfl) (by simp only [qB, qC, qD, qE, qF, qG, qH, qJ, qK, qM, qN, qP, iop1, qR, qS, iop, qT, qV, qW, qX, qY, qZ, zA, Option.getD_some, zB, zC,
    zD, zE, zF, zG, zH, zJ, zK, zM, zN, Step1.ofO, lenC, callF, zP, zR, zS, zT, zV, cond_true, cond_false, decide_true, decide_false, beq_self_eq_true, Bool.false_eq_true, Bool.true_eq_false, zW, zX, zY, zZ, Bool.not_true, Bool.not_false, e18, enter_k t18, ofK, k18]; rfl) (.ret ⟨rfl, .inr rfl, ires_tmp rfl (by simp only [qX, qY]), ho⟩)
      · have hsp : shortPic np ls = true := by simpa using ht
        obtain ⟨zs, hz⟩ := hzs (by omega)
        obtain ⟨ks, hk⟩ := hks (by omega)
        subst hH1
        have hz' := intsOf_old ho hz
        have hk' := intsOf_old ho hk
        generalize hH1 : H.push (.cells #[.int .i64 n, .slice aw nw cw] 24) = H1 at ho hl0 hl1 hls' hz' hk'
        have hpic : ∃ e, k23 [.slice ap np cp] H1 = some (.int .i64 e) ∧ k24 [.slice ap np cp] H1 = some (.int .i64 e) := by
          unfold k23 k24
          simp only
          by_cases h0 : np = 0
          · exact ⟨12, by rw [if_pos h0], by rw [if_pos h0]⟩
          · rw [if_neg h0, if_neg h0]
            by_cases h24 : 24 < np
            · exact ⟨5, by rw [if_pos h24], by rw [if_pos h24]⟩
            · rw [if_neg h24, if_neg h24]
              rcases hrs hsp with h | h | ⟨rs, hr⟩
              · exact absurd h h0
              · exact absurd h h24
              · have hr' := picOf_old ho hr
                exact ⟨firstNZ (rowErrs rs), by rw [hr']; rfl, by rw [hr', rows_eq]; rfl⟩
        obtain ⟨e, hk23, hk24⟩ := hpic
        have hS : (chkScheme n zs == refScheme n zs) = true := by rw [scheme_eq]; simp
        have hP : (chkPlacing n ks == refPlacing n ks) = true := by rw [placing_eq]; simp
        refine setup20.drawE pure20 33 (lo := [(6, 0, 1), (8, 0, 1), (17, 2, 3)]) (by kernel_rfl) (by kernel_rfl) (by kernel_rfl) (by kernel_rfl) (by kernel_rfl) (by kernel_rfl) (by kernel_rfl) (by simp only [List.map_cons, List.map_nil]; rfl)
          (by simp only [qB, qC, qD, qE, qF, qG, qH, qJ, qK, qM, qN, qP, iop1, qR, qS, iop, qT, qV, qW, qX, qY, qZ, zA, Option.getD_some, zB, zC,
    zD, zE, zF, zG, zH, zJ, zK, zM, zN, Step1.ofO, lenC, callF, zP, zR, zS, zT, zV, cond_true, cond_false, decide_true, decide_false, beq_self_eq_true, Bool.false_eq_true, Bool.true_eq_false, zW, zX, zY, zZ, Bool.not_true, Bool.not_false, fA0, fA1, hl0, hl1, e19, enter_k t19, ofK, k19, hz', Option.map_some, e20, enter_k t20, k20, hS, e21, enter_k t21, k21, hk', e22, enter_k t22, k22, hP, e23, enter_k t23, hk23, e24, enter_k t24, hk24, e18, enter_k t18, k18]; rfl) (by kernel_rfl) ?_
        exact .ret ⟨.inr rfl, ires_tmp rfl (by simp only [qX, qY]), ho⟩
  · refine setup20.ifRet 0 (by kernel_rfl) (by simp only [List.map_cons, List.map_nil]; rfl) (by simp only [qB, qC, qD, qE, qF, qG, qH, qJ, qK, qM, qN, qP, iop1, qR, qS, iop, qT, qV, qW, qX, qY, qZ, zA, Option.getD_some, zB, zC,
    zD, zE, zF, zG, zH, zJ, zK, zM, zN, Step1.ofO, lenC, callF, zP, zR, zS, zT, zV, cond_true, cond_false, decide_true, decide_false, beq_self_eq_true, Bool.false_eq_true, Bool.true_eq_false, zW, zX, zY, zZ, Bool.not_true, Bool.not_false, fA1, hl1, e16, enter_k t16, ofK, k16, h1]; rfl) (by kernel_rfl) (by simp only [qT, qX, qY, Option.getD_some]; rfl) (fun ht => ?_) (fun ht => by cases ht)
    exact setup20.regE 0 (by kernel_rfl) (by simp only [List.map_cons, List.map_nil]; rfl) (by simp only [qB, qC, qD, qE, qF, qG, qH, qJ, qK, qM, qN, qP, iop1, qR, qS, iop, qT, qV, qW, qX, qY, qZ, zA, Option.getD_some, zB, zC,
    zD, zE, zF, zG, zH, zJ, zK, zM, zN, Step1.ofO, lenC, callF, zP, zR, zS, zT, zV, cond_true, cond_false, decide_true, decide_false, beq_self_eq_true, Bool.false_eq_true, Bool.true_eq_false, zW, zX, zY, zZ, Bool.not_true, Bool.not_false, e18, enter_k t18, ofK, k18]; rfl) (.ret ⟨rfl, .inr rfl, ires_tmp rfl (by simp only [qX, qY]), ho⟩)
end Go.Proofs.YtpdlblofcdcikaaGreatDoor
