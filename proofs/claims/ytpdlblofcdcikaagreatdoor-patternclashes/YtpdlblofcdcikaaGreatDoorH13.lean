/- The law PatternClashes over the ideal heap. Conditions: none. -/
import Derived.Test.YtpdlblofcdcikaaGreatDoorH12
set_option linter.unusedSimpArgs false
set_option linter.unusedVariables false
namespace Go.Proofs.YtpdlblofcdcikaaGreatDoor
open Go.Idl

theorem lensAll_old {H H' : IH} (h : Old H H') {a : Option Addr} {n : Nat} {ls : List Nat} (hl : lensAll H a n = some ls) : lensAll H' a n = some ls := by
  unfold lensAll at hl ⊢
  split at hl
  · exact hl
  · split at hl
    · rename_i hn
      rw [if_pos ⟨Nat.lt_of_lt_of_le hn.1 h.size, hn.2⟩, lensAt_old h hn.1]
      exact hl
    · cases hl
structure ClashIn (H : IH) (w : Value) (nw : Nat) (ap : Option Addr) (np cp : Nat) (ls : List Nat) : Prop where
  word : ∃ a c, w = .slice a nw c
  lens : lensOf H ap np = some ls
  all : shortPic np ls = true → ∃ l2, lensAll H ap np = some l2
  zs : nw ≤ 27 → ∃ zs, intsOf H w = some zs
  rs : shortPic np ls = true → np = 0 ∨ 24 < np ∨ ∃ rs, picOf H (.slice ap np cp) = some rs
noncomputable def c12 : Code := Tryz.f12.body.getD .skip
theorem j16 : hat12 16 = some (ofK k16) := rfl
theorem j18 : hat12 18 = some (ofK k18) := rfl
theorem j25 : hat12 25 = some (ofK k25) := rfl
theorem j28 : hat12 28 = some (ofK k28) := rfl
theorem j30 : hat12 30 = some (ofK k89) := rfl
theorem e25 : enters Tryz.prog 25 = true := by kernel_rfl
theorem e68 : enters Tryz.prog 68 = true := by kernel_rfl
theorem e69 : enters Tryz.prog 69 = true := by kernel_rfl
theorem pureH12 : NatPure hat12 := addS_pure pureH11
theorem fit_of {H : IH} {n : Int} {aw ap : Option Addr} {cw np cp : Nat} {ws : List Int} (hz : intsOf H (.slice aw ws.length cw) = some ws) {pe : Int} (hk : k23 [.slice ap np cp] H = some (.int .i64 pe)) :
    ∃ e, k91 [.int .i64 n, .slice aw ws.length cw, .slice ap np cp] H = some (.int .i64 e) ∧ k28 [.int .i64 n, .slice aw ws.length cw, .slice ap np cp] H = some (.int .i64 e) := by
  have h1 : k91 [.int .i64 n, .slice aw ws.length cw, .slice ap np cp] H = k28 [.int .i64 n, .slice aw ws.length cw, .slice ap np cp] H := by unfold k91; simp only [hk]
  rw [h1]
  have h2 : ∃ e, k28 [.int .i64 n, .slice aw ws.length cw, .slice ap np cp] H = some (.int .i64 e) := by
    unfold k28
    simp only [hz, hk]
    by_cases hs : chkScheme n ws ≠ 0
    · exact ⟨_, if_pos hs⟩
    · rw [if_neg hs]
      by_cases hp : pe ≠ 0
      · exact ⟨_, if_pos hp⟩
      · rw [if_neg hp]
        have hp0 : pe = 0 := by simpa using hp
        subst hp0
        obtain ⟨_, _, rs, hr, _⟩ := k23_zero hk
        rw [hr]
        exact ⟨_, rfl⟩
  obtain ⟨e, he⟩ := h2
  exact ⟨e, he, he⟩
set_option maxHeartbeats 2000000 in
set_option maxRecDepth 20000 in
theorem clash_holds {H : IH} {n a b c d : Int} {w : Value} {nw : Nat} {ap : Option Addr} {np cp : Nat} {ls : List Nat} (hin : ClashIn H w nw ap np cp ls) (hb : H.base ≤ H.size) :
    Holds Tryz.prog (globG 3) false c12 [.agg #[.int .i64 n, w], .slice ap np cp, .agg #[.int .i64 a, .int .i64 b, .int .i64 c, .int .i64 d], undef, undef, undef, undef, undef, undef, undef, undef, undef, undef, undef, undef, undef, undef, undef, undef, undef, undef, undef, undef, undef, undef, undef, undef, undef, undef, undef, undef, undef, undef, undef, undef, undef, undef, undef, undef, undef, undef, undef, undef, undef, undef, undef, undef, undef, undef, undef, undef, undef, undef, undef, undef, undef, undef, undef, undef, undef, undef, undef, undef, undef, undef, undef, undef, undef, undef, undef, undef, undef, undef, undef, undef, undef, undef, undef, undef, undef, undef, undef, undef, undef, undef, undef] H fun o => (o.e = .normal ∨ o.e = .ret) ∧ iresults Tryz.prog Tryz.f12 o.env o.H = some (.bool true) ∧ Old H o.H := by
  obtain ⟨⟨aw, cw, rfl⟩, hls, hall, hzs, hrs⟩ := hin
  refine setH12.regE 0 (by kernel_rfl) (by simp only [List.map_cons, List.map_nil]; rfl) (by simp only [qB, qC, qD, qE, qF, qG, qH, qJ, qK, qM, qN, qP, iop1, qR, qS, iop, qT, qV, qW, qX, qY, qZ, zA, Option.getD_some, zB, zC, zD, zE, zF, zG, zH, zJ, zK, zM, zN, Step1.ofO, lenC, callF, zP, zR, zS, zT, zV, cond_true, cond_false, decide_true, decide_false, beq_self_eq_true, Bool.false_eq_true, Bool.true_eq_false, zW, zX, zY, zZ, Bool.not_true, Bool.not_false, appC, copyC, yA, List.map_cons, List.map_nil, goInt, box_agg]; rfl) ?_
  have zz : (H.push (.cells #[.int .i64 n, .slice aw nw cw] 24)).size = H.size + 1 := rfl
  have ho2 : Old H ((H.push (.cells #[.int .i64 n, .slice aw nw cw] 24)).push (.cells #[.int .i64 a, .int .i64 b, .int .i64 c, .int .i64 d] 84)) := (Old.push H _).trans (Old.push _ _)
  have hg1 : ((H.push (.cells #[.int .i64 n, .slice aw nw cw] 24)).push (.cells #[.int .i64 a, .int .i64 b, .int .i64 c, .int .i64 d] 84)).get H.size = some (.cells [.int .i64 n, .slice aw nw cw].toArray 24 (0, 0)) := by rw [get_push_lt (by rw [zz]; omega)]; exact get_push_eq
  have hg5 : ((H.push (.cells #[.int .i64 n, .slice aw nw cw] 24)).push (.cells #[.int .i64 a, .int .i64 b, .int .i64 c, .int .i64 d] 84)).get (H.size + 1) = some (.cells [.int .i64 a, .int .i64 b, .int .i64 c, .int .i64 d].toArray 84 (0, 0)) := get_push_eq
  have hs2 : ((H.push (.cells #[.int .i64 n, .slice aw nw cw] 24)).push (.cells #[.int .i64 a, .int .i64 b, .int .i64 c, .int .i64 d] 84)).size = H.size + 2 := rfl
  rw [zz]
  generalize (H.push (.cells #[.int .i64 n, .slice aw nw cw] 24)).push (.cells #[.int .i64 a, .int .i64 b, .int .i64 c, .int .i64 d] 84) = H2 at ho2 hg1 hg5 hs2
  have hl0 := load_cell (t := 3) ag3 (i := 0) hg1 rfl
  have hl1 := load_cell (t := 22) ag22 (i := 1) hg1 rfl
  by_cases h1 : ¬ ((nw : Int) ≤ 27)
  · refine setH12.ifW (by kernel_rfl) (by simp only [List.map_cons, List.map_nil]; rfl) (by simp only [qB, qC, qD, qE, qF, qG, qH, qJ, qK, qM, qN, qP, iop1, qR, qS, iop, qT, qV, qW, qX, qY, qZ, zA, Option.getD_some, zB, zC, zD, zE, zF, zG, zH, zJ, zK, zM, zN, Step1.ofO, lenC, callF, zP, zR, zS, zT, zV, cond_true, cond_false, decide_true, decide_false, beq_self_eq_true, Bool.false_eq_true, Bool.true_eq_false, zW, zX, zY, zZ, Bool.not_true, Bool.not_false, appC, copyC, yA, List.map_cons, List.map_nil, goInt, fA1, hl1, e16, enter_k j16, ofK, k16, h1]; rfl) (by kernel_rfl) (by simp only [qT, qX, qY, Option.getD_some]; rfl) (fun _ => ?_) (fun ht => by cases ht)
    exact setH12.regE 0 (by kernel_rfl) (by simp only [List.map_cons, List.map_nil]; rfl) (by simp only [qB, qC, qD, qE, qF, qG, qH, qJ, qK, qM, qN, qP, iop1, qR, qS, iop, qT, qV, qW, qX, qY, qZ, zA, Option.getD_some, zB, zC, zD, zE, zF, zG, zH, zJ, zK, zM, zN, Step1.ofO, lenC, callF, zP, zR, zS, zT, zV, cond_true, cond_false, decide_true, decide_false, beq_self_eq_true, Bool.false_eq_true, Bool.true_eq_false, zW, zX, zY, zZ, Bool.not_true, Bool.not_false, appC, copyC, yA, List.map_cons, List.map_nil, goInt, e18, enter_k j18, ofK, k18]; rfl) (.ret (ST.rt ⟨.inr rfl, ires_tmp rfl (by simp only [qX, qY]), ho2⟩))
  have h1 : (nw : Int) ≤ 27 := by omega
  have hls2 := lensOf_old ho2 hls
  have hk25 : ∃ b, k25 [.slice ap np cp] H2 = some (.bool b) ∧ (b = true → shortPic np ls = true) := by
    unfold k25
    simp only [hls2]
    cases hsp : shortPic np ls with
    | true =>
      obtain ⟨l2, hl2⟩ := hall hsp
      rw [if_pos rfl, lensAll_old ho2 hl2]
      exact ⟨_, rfl, fun _ => rfl⟩
    | false => exact ⟨false, by simp, fun h => by cases h⟩
  obtain ⟨sm, hk25, hsm⟩ := hk25
  cases sm with
  | false =>
    refine setH12.ifW (by kernel_rfl) (by simp only [List.map_cons, List.map_nil]; rfl) (by simp only [qB, qC, qD, qE, qF, qG, qH, qJ, qK, qM, qN, qP, iop1, qR, qS, iop, qT, qV, qW, qX, qY, qZ, zA, Option.getD_some, zB, zC, zD, zE, zF, zG, zH, zJ, zK, zM, zN, Step1.ofO, lenC, callF, zP, zR, zS, zT, zV, cond_true, cond_false, decide_true, decide_false, beq_self_eq_true, Bool.false_eq_true, Bool.true_eq_false, zW, zX, zY, zZ, Bool.not_true, Bool.not_false, appC, copyC, yA, List.map_cons, List.map_nil, goInt, fA1, hl1, e16, enter_k j16, ofK, k16, h1, e25, enter_k j25, hk25]; rfl) (by kernel_rfl) (by simp only [qT, qX, qY, Option.getD_some]; rfl) (fun _ => ?_) (fun ht => by cases ht)
    exact setH12.regE 0 (by kernel_rfl) (by simp only [List.map_cons, List.map_nil]; rfl) (by simp only [qB, qC, qD, qE, qF, qG, qH, qJ, qK, qM, qN, qP, iop1, qR, qS, iop, qT, qV, qW, qX, qY, qZ, zA, Option.getD_some, zB, zC, zD, zE, zF, zG, zH, zJ, zK, zM, zN, Step1.ofO, lenC, callF, zP, zR, zS, zT, zV, cond_true, cond_false, decide_true, decide_false, beq_self_eq_true, Bool.false_eq_true, Bool.true_eq_false, zW, zX, zY, zZ, Bool.not_true, Bool.not_false, appC, copyC, yA, List.map_cons, List.map_nil, goInt, e18, enter_k j18, ofK, k18]; rfl) (.ret (ST.rt ⟨.inr rfl, ires_tmp rfl (by simp only [qX, qY]), ho2⟩))
  | true =>
  refine setH12.ifW (by kernel_rfl) (by simp only [List.map_cons, List.map_nil]; rfl) (by simp only [qB, qC, qD, qE, qF, qG, qH, qJ, qK, qM, qN, qP, iop1, qR, qS, iop, qT, qV, qW, qX, qY, qZ, zA, Option.getD_some, zB, zC, zD, zE, zF, zG, zH, zJ, zK, zM, zN, Step1.ofO, lenC, callF, zP, zR, zS, zT, zV, cond_true, cond_false, decide_true, decide_false, beq_self_eq_true, Bool.false_eq_true, Bool.true_eq_false, zW, zX, zY, zZ, Bool.not_true, Bool.not_false, appC, copyC, yA, List.map_cons, List.map_nil, goInt, fA1, hl1, e16, enter_k j16, ofK, k16, h1, e25, enter_k j25, hk25]; rfl) (by kernel_rfl) (by simp only [qT, qX, qY, Option.getD_some]; rfl) (fun ht => by cases ht) (fun _ => .skip (ST.go ?_))
  have hsp := hsm rfl
  obtain ⟨ws, hz⟩ := hzs (by omega)
  obtain ⟨aw', cw', hsl, hwl, _⟩ := intsOf_inv hz
  obtain ⟨rfl, hnw, rfl⟩ : aw = aw' ∧ nw = ws.length ∧ cw = cw' := by simpa using hsl
  subst hnw
  have hz2 := intsOf_old ho2 hz
  have hk23 : ∃ pe, k23 [.slice ap np cp] H2 = some (.int .i64 pe) := by
    unfold k23
    simp only
    by_cases h0 : np = 0
    · exact ⟨12, by rw [if_pos h0]⟩
    · rw [if_neg h0]
      by_cases h24 : 24 < np
      · exact ⟨5, by rw [if_pos h24]⟩
      · rw [if_neg h24]
        rcases hrs hsp with h | h | ⟨rs, hr⟩
        · exact absurd h h0
        · exact absurd h h24
        · exact ⟨_, by rw [picOf_old ho2 hr]; rfl⟩
  obtain ⟨pe, hk23⟩ := hk23
  obtain ⟨e, hk91, hk28⟩ := fit_of (n := n) hz2 hk23
  obtain ⟨_, _, _, ws', _, hz', hzero⟩ := k91_zero hk91
  rw [hz2] at hz'
  cases hz'
  have hb2 : H2.base ≤ H.size := by rw [ho2.base]; exact hb
  refine setH12.regS (by kernel_rfl) (by simp only [List.map_cons, List.map_nil]; rfl) ?_; simp only [qB, qC, qD, qE, qF, qG, qH, qJ, qK, qM, qN, qP, iop1, qR, qS, iop, qT, qV, qW, qX, qY, qZ, zA, Option.getD_some, zB, zC, zD, zE, zF, zG, zH, zJ, zK, zM, zN, Step1.ofO, lenC, callF, zP, zR, zS, zT, zV, cond_true, cond_false, decide_true, decide_false, beq_self_eq_true, Bool.false_eq_true, Bool.true_eq_false, zW, zX, zY, zZ, Bool.not_true, Bool.not_false, appC, copyC, yA, List.map_cons, List.map_nil, goInt, yB, yC, fA0, hl0, fA1, hl1, e68, enter_s (x := ((n, .slice aw ws.length cw, .slice ap np cp), e)) (show hat12 68 = some (ofS pre68 post68) from rfl) uniq68 ⟨rfl, hk91, by omega⟩]
  rintro v3 H3 ⟨hold3, ca, cb, cc, cd, code, rfl, hne3, heq3⟩
  simp only at hne3 heq3
  have hs3 := hold3.size
  have hb3 : H3.base ≤ H.size := by rw [hold3.base]; exact hb2
  have hst4 : istoreAt Tryz.prog 84 (.pointer (some ⟨H3.size, 0, none⟩)) (.agg #[.int .i64 ca, .int .i64 cb, .int .i64 cc, .int .i64 cd]) (H3.push (.cells #[.int .i64 0, .int .i64 0, .int .i64 0, .int .i64 0] 84)) = some ((H3.push (.cells #[.int .i64 0, .int .i64 0, .int .i64 0, .int .i64 0] 84)).put H3.size (.cells #[.int .i64 ca, .int .i64 cb, .int .i64 cc, .int .i64 cd] 84 (0, 0))) :=
    store_agg (vs := [.int .i64 ca, .int .i64 cb, .int .i64 cc, .int .i64 cd]) (i := 0) sz84 rfl get_push_eq (by simp) rfl (by show H3.base ≤ H3.size; omega)
  simp only [qB, qC, qD, qE, qF, qG, qH, qJ, qK, qM, qN, qP, iop1, qR, qS, iop, qT, qV, qW, qX, qY, qZ, zA, Option.getD_some, zB, zC, zD, zE, zF, zG, zH, zJ, zK, zM, zN, Step1.ofO, lenC, callF, zP, zR, zS, zT, zV, cond_true, cond_false, decide_true, decide_false, beq_self_eq_true, Bool.false_eq_true, Bool.true_eq_false, zW, zX, zY, zZ, Bool.not_true, Bool.not_false, appC, copyC, yA, List.map_cons, List.map_nil, goInt, yB, yC, ex22, exI1, al84, hst4]
  have hold4 : Old H3 ((H3.push (.cells #[.int .i64 0, .int .i64 0, .int .i64 0, .int .i64 0] 84)).put H3.size (.cells #[.int .i64 ca, .int .i64 cb, .int .i64 cc, .int .i64 cd] 84 (0, 0))) := (Old.push H3 _).put (Nat.le_refl _)
  have hg7 : ((H3.push (.cells #[.int .i64 0, .int .i64 0, .int .i64 0, .int .i64 0] 84)).put H3.size (.cells #[.int .i64 ca, .int .i64 cb, .int .i64 cc, .int .i64 cd] 84 (0, 0))).get H3.size = some (.cells [.int .i64 ca, .int .i64 cb, .int .i64 cc, .int .i64 cd].toArray 84 (0, 0)) := get_put_eq
  have hs4 : ((H3.push (.cells #[.int .i64 0, .int .i64 0, .int .i64 0, .int .i64 0] 84)).put H3.size (.cells #[.int .i64 ca, .int .i64 cb, .int .i64 cc, .int .i64 cd] 84 (0, 0))).size = H3.size + 1 := rfl
  generalize (H3.push (.cells #[.int .i64 0, .int .i64 0, .int .i64 0, .int .i64 0] 84)).put H3.size (.cells #[.int .i64 ca, .int .i64 cb, .int .i64 cc, .int .i64 cd] 84 (0, 0)) = H4 at hold4 hg7 hs4
  have ho24 := hold3.trans hold4
  have hl0' := load_cell (t := 3) ag3 (i := 0) ((ho24.get H.size (by omega)).trans hg1) rfl
  have hl1' := load_cell (t := 22) ag22 (i := 1) ((ho24.get H.size (by omega)).trans hg1) rfl
  have hl5' : iloadAt Tryz.prog 84 (.pointer (some ⟨H.size + 1, 0, none⟩)) H4 = some (.agg #[.int .i64 a, .int .i64 b, .int .i64 c, .int .i64 d]) := load_agg (t := 84) (i := 0) (l := [.int .i64 a, .int .i64 b, .int .i64 c, .int .i64 d]) ag84 sz84 ((ho24.get (H.size + 1) (by omega)).trans hg5) (by simp)
  have hb4 : H4.base ≤ H.size := by rw [hold4.base]; exact hb3
  refine setH12.regS (by kernel_rfl) (by simp only [List.map_cons, List.map_nil]; rfl) ?_; simp only [qB, qC, qD, qE, qF, qG, qH, qJ, qK, qM, qN, qP, iop1, qR, qS, iop, qT, qV, qW, qX, qY, qZ, zA, Option.getD_some, zB, zC, zD, zE, zF, zG, zH, zJ, zK, zM, zN, Step1.ofO, lenC, callF, zP, zR, zS, zT, zV, cond_true, cond_false, decide_true, decide_false, beq_self_eq_true, Bool.false_eq_true, Bool.true_eq_false, zW, zX, zY, zZ, Bool.not_true, Bool.not_false, appC, copyC, yA, List.map_cons, List.map_nil, goInt, yB, yC, fA0, hl0', fA1, hl1', hl5', e69, enter_s (x := (((n, .slice aw ws.length cw, .slice ap np cp), e), a, b, c, d)) (show hat12 69 = some (ofS pre69 post69) from rfl) uniq69 ⟨rfl, k91_old ho24 hk91, by omega⟩]
  rintro v5 H5 ⟨hold5, code9, rfl, hne9, heq9⟩
  simp only at hne9 heq9
  have hs5 := hold5.size
  have ho25 := ho24.trans hold5
  have hl05 := load_cell (t := 3) ag3 (i := 0) ((ho25.get H.size (by omega)).trans hg1) rfl
  have hl15 := load_cell (t := 22) ag22 (i := 1) ((ho25.get H.size (by omega)).trans hg1) rfl
  refine setH12.regE 0 (by kernel_rfl) (by simp only [List.map_cons, List.map_nil]; rfl) (by simp only [qB, qC, qD, qE, qF, qG, qH, qJ, qK, qM, qN, qP, iop1, qR, qS, iop, qT, qV, qW, qX, qY, qZ, zA, Option.getD_some, zB, zC, zD, zE, zF, zG, zH, zJ, zK, zM, zN, Step1.ofO, lenC, callF, zP, zR, zS, zT, zV, cond_true, cond_false, decide_true, decide_false, beq_self_eq_true, Bool.false_eq_true, Bool.true_eq_false, zW, zX, zY, zZ, Bool.not_true, Bool.not_false, appC, copyC, yA, List.map_cons, List.map_nil, goInt, fA0, hl05, fA1, hl15, e28, enter_k j28, ofK, k28_old ho25 hk28]; rfl) ?_
  refine setH12.regE 0 (by kernel_rfl) (by simp only [List.map_cons, List.map_nil]; rfl) (by simp only [qB, qC, qD, qE, qF, qG, qH, qJ, qK, qM, qN, qP, iop1, qR, qS, iop, qT, qV, qW, qX, qY, qZ, zA, Option.getD_some, zB, zC, zD, zE, zF, zG, zH, zJ, zK, zM, zN, Step1.ofO, lenC, callF, zP, zR, zS, zT, zV, cond_true, cond_false, decide_true, decide_false, beq_self_eq_true, Bool.false_eq_true, Bool.true_eq_false, zW, zX, zY, zZ, Bool.not_true, Bool.not_false, appC, copyC, yA, List.map_cons, List.map_nil, goInt]; rfl) (setH12.regE 0 (by kernel_rfl) (by simp only [List.map_cons, List.map_nil]; rfl) (by simp only [qB, qC, qD, qE, qF, qG, qH, qJ, qK, qM, qN, qP, iop1, qR, qS, iop, qT, qV, qW, qX, qY, qZ, zA, Option.getD_some, zB, zC, zD, zE, zF, zG, zH, zJ, zK, zM, zN, Step1.ofO, lenC, callF, zP, zR, zS, zT, zV, cond_true, cond_false, decide_true, decide_false, beq_self_eq_true, Bool.false_eq_true, Bool.true_eq_false, zW, zX, zY, zZ, Bool.not_true, Bool.not_false, appC, copyC, yA, List.map_cons, List.map_nil, goInt, al84]; rfl) ?_)
  have hold6 := Old.push H5 (.cells #[.int .i64 0, .int .i64 0, .int .i64 0, .int .i64 0] 84)
  have hg13 : (H5.push (.cells #[.int .i64 0, .int .i64 0, .int .i64 0, .int .i64 0] 84)).get H5.size = some (.cells [.int .i64 0, .int .i64 0, .int .i64 0, .int .i64 0].toArray 84 (0, 0)) := get_push_eq
  have hs6 : (H5.push (.cells #[.int .i64 0, .int .i64 0, .int .i64 0, .int .i64 0] 84)).size = H5.size + 1 := rfl
  generalize H5.push (.cells #[.int .i64 0, .int .i64 0, .int .i64 0, .int .i64 0] 84) = H6 at hold6 hg13 hs6
  have ho26 := ho25.trans hold6
  have hg7' := ((hold5.trans hold6).get H3.size (by omega)).trans hg7
  have hb6 : H6.base ≤ H.size := by rw [ho26.base]; exact hb2
  refine setH12.ifJ (fun e' h => e' = [unk, unk, unk, unk, unk, unk, unk, .pointer (some ⟨H3.size, 0, none⟩), .int .i64 code, .int .i64 code9, unk, .int .i64 code, .int .i64 code9, .pointer (some ⟨H5.size, 0, none⟩), unk, unk, unk, unk, unk, unk, unk, unk, unk, unk, unk, unk, unk, unk, unk, unk, unk, unk, unk, unk, unk, unk, unk, unk, unk, unk, unk, unk, unk, unk, unk, unk, unk, unk, unk, unk, unk, unk, unk, unk, unk, unk, unk, unk, unk, unk, unk, unk, unk, unk, unk, unk, unk, unk, unk, unk, unk, unk, unk, unk, unk, unk, unk, unk, unk, unk, unk, unk, unk, unk, unk, unk] ∧ Old H h ∧
    h.get H3.size = some (.cells [.int .i64 ca, .int .i64 cb, .int .i64 cc, .int .i64 cd].toArray 84 (0, 0)) ∧ h.get H5.size = some (.cells [.int .i64 ca, .int .i64 cb, .int .i64 cc, .int .i64 cd].toArray 84 (0, 0))) (by kernel_rfl) (by simp only [List.map_cons, List.map_nil]; rfl) (by simp only [qB, qC, qD, qE, qF, qG, qH, qJ, qK, qM, qN, qP, iop1, qR, qS, iop, qT, qV, qW, qX, qY, qZ, zA, Option.getD_some, zB, zC, zD, zE, zF, zG, zH, zJ, zK, zM, zN, Step1.ofO, lenC, callF, zP, zR, zS, zT, zV, cond_true, cond_false, decide_true, decide_false, beq_self_eq_true, Bool.false_eq_true, Bool.true_eq_false, zW, zX, zY, zZ, Bool.not_true, Bool.not_false, appC, copyC, yA, List.map_cons, List.map_nil, goInt]; rfl) (by kernel_rfl) (by simp only [qT, qX, qY, Option.getD_some]; rfl) (fun ht => ?_) (fun ht => ?_) ?_
  · have he : e = 0 := by simpa using ht
    obtain ⟨hs0, rs, hr, hV, hwz0⟩ := hzero he
    obtain ⟨n, rfl, hn2, hn12, hok⟩ := chk_ok hs0
    obtain ⟨ap', cp', hsl', _, _⟩ := picOf_inv hr
    simp only [Value.slice.injEq] at hsl'
    obtain ⟨rfl, rfl, rfl⟩ := hsl'
    obtain ⟨is, hcode, hcm⟩ := heq3 he ws rs hz2 hr
    have hc9 := heq9 he ws rs (intsOf_old ho24 hz2) (picOf_old ho24 hr)
    simp only [Int.toNat_natCast] at hcm hc9
    have hrl : rs.length ≤ 24 := by have := hV.rows; simpa using this
    have hwc : ws.length ≤ 24 := by have := hV.col; omega
    have hwz : ∀ zs ∈ rs.map (·.2), zs.length = ws.length := fun zs hzs => by rw [hV.len zs hzs, hwz0]
    have hl06 := load_cell (t := 3) ag3 (i := 0) ((ho26.get H.size (by omega)).trans hg1) rfl
    have hl16 := load_cell (t := 22) ag22 (i := 1) ((ho26.get H.size (by omega)).trans hg1) rfl
    have hpre : ∀ h, Old H2 h → pre70 (n, .slice aw ws.length cw, ws, .slice ap rs.length cp) [.int .i64 (n : Int), .slice aw ws.length cw, .slice ap rs.length cp] h := fun h ho => ⟨rfl, intsOf_old ho hz2, hok, hn12, hwc, by rw [ho.base]; have := ho.size; omega, rs, picOf_old ho hr, hwz, hrl⟩
    refine setH12.regE 0 (by kernel_rfl) (by simp only [List.map_cons, List.map_nil]; rfl) (by simp only [qB, qC, qD, qE, qF, qG, qH, qJ, qK, qM, qN, qP, iop1, qR, qS, iop, qT, qV, qW, qX, qY, qZ, zA, Option.getD_some, zB, zC, zD, zE, zF, zG, zH, zJ, zK, zM, zN, Step1.ofO, lenC, callF, zP, zR, zS, zT, zV, cond_true, cond_false, decide_true, decide_false, beq_self_eq_true, Bool.false_eq_true, Bool.true_eq_false, zW, zX, zY, zZ, Bool.not_true, Bool.not_false, appC, copyC, yA, List.map_cons, List.map_nil, goInt]; rfl) ?_
    refine setH12.regS (by kernel_rfl) (by simp only [List.map_cons, List.map_nil]; rfl) ?_; simp only [qB, qC, qD, qE, qF, qG, qH, qJ, qK, qM, qN, qP, iop1, qR, qS, iop, qT, qV, qW, qX, qY, qZ, zA, Option.getD_some, zB, zC, zD, zE, zF, zG, zH, zJ, zK, zM, zN, Step1.ofO, lenC, callF, zP, zR, zS, zT, zV, cond_true, cond_false, decide_true, decide_false, beq_self_eq_true, Bool.false_eq_true, Bool.true_eq_false, zW, zX, zY, zZ, Bool.not_true, Bool.not_false, appC, copyC, yA, List.map_cons, List.map_nil, goInt, yB, yC, fA0, hl06, fA1, hl16, e70, enter_s (x := (n, .slice aw ws.length cw, ws, .slice ap rs.length cp)) (show hat12 70 = some (ofS pre70 post70) from rfl) uniq70 (hpre _ ho26)]
    rintro v7 H7 ⟨hold7, ca', cb', cc', cd', is', rfl, hcm'⟩
    have hu := hcm.unique (hcm' rs (picOf_old ho26 hr))
    obtain ⟨hu1, rfl⟩ := hu
    obtain ⟨rfl, rfl, rfl, rfl⟩ : ca = ca' ∧ cb = cb' ∧ cc = cc' ∧ cd = cd' := by simpa using hu1
    have hs7 := hold7.size
    have hst8 : istoreAt Tryz.prog 84 (.pointer (some ⟨H5.size, 0, none⟩)) (.agg #[.int .i64 ca, .int .i64 cb, .int .i64 cc, .int .i64 cd]) H7 = some (H7.put H5.size (.cells #[.int .i64 ca, .int .i64 cb, .int .i64 cc, .int .i64 cd] 84 (0, 0))) :=
      store_agg (vs := [.int .i64 ca, .int .i64 cb, .int .i64 cc, .int .i64 cd]) (i := 0) sz84 rfl ((hold7.get H5.size (by omega)).trans hg13) (by simp) rfl (by rw [hold7.base]; omega)
    simp only [qB, qC, qD, qE, qF, qG, qH, qJ, qK, qM, qN, qP, iop1, qR, qS, iop, qT, qV, qW, qX, qY, qZ, zA, Option.getD_some, zB, zC, zD, zE, zF, zG, zH, zJ, zK, zM, zN, Step1.ofO, lenC, callF, zP, zR, zS, zT, zV, cond_true, cond_false, decide_true, decide_false, beq_self_eq_true, Bool.false_eq_true, Bool.true_eq_false, zW, zX, zY, zZ, Bool.not_true, Bool.not_false, appC, copyC, yA, List.map_cons, List.map_nil, goInt, yB, yC, ex22, ex23, hst8]
    have ho8 : Old H5 (H7.put H5.size (.cells #[.int .i64 ca, .int .i64 cb, .int .i64 cc, .int .i64 cd] 84 (0, 0))) := (hold6.trans hold7).put (Nat.le_refl _)
    have hg13' : (H7.put H5.size (.cells #[.int .i64 ca, .int .i64 cb, .int .i64 cc, .int .i64 cd] 84 (0, 0))).get H5.size = some (.cells [.int .i64 ca, .int .i64 cb, .int .i64 cc, .int .i64 cd].toArray 84 (0, 0)) := get_put_eq
    have hs8 : (H7.put H5.size (.cells #[.int .i64 ca, .int .i64 cb, .int .i64 cc, .int .i64 cd] 84 (0, 0))).size = H7.size := rfl
    generalize H7.put H5.size (.cells #[.int .i64 ca, .int .i64 cb, .int .i64 cc, .int .i64 cd] 84 (0, 0)) = H8 at ho8 hg13' hs8
    have ho28 := ho25.trans ho8
    have hl08 := load_cell (t := 3) ag3 (i := 0) ((ho28.get H.size (by omega)).trans hg1) rfl
    have hl18 := load_cell (t := 22) ag22 (i := 1) ((ho28.get H.size (by omega)).trans hg1) rfl
    have hl58 : iloadAt Tryz.prog 84 (.pointer (some ⟨H.size + 1, 0, none⟩)) H8 = some (.agg #[.int .i64 a, .int .i64 b, .int .i64 c, .int .i64 d]) := load_agg (t := 84) (i := 0) (l := [.int .i64 a, .int .i64 b, .int .i64 c, .int .i64 d]) ag84 sz84 ((ho28.get (H.size + 1) (by omega)).trans hg5) (by simp)
    refine setH12.regE 0 (by kernel_rfl) (by simp only [List.map_cons, List.map_nil]; rfl) (by simp only [qB, qC, qD, qE, qF, qG, qH, qJ, qK, qM, qN, qP, iop1, qR, qS, iop, qT, qV, qW, qX, qY, qZ, zA, Option.getD_some, zB, zC, zD, zE, zF, zG, zH, zJ, zK, zM, zN, Step1.ofO, lenC, callF, zP, zR, zS, zT, zV, cond_true, cond_false, decide_true, decide_false, beq_self_eq_true, Bool.false_eq_true, Bool.true_eq_false, zW, zX, zY, zZ, Bool.not_true, Bool.not_false, appC, copyC, yA, List.map_cons, List.map_nil, goInt, e30, enter_k j30, ofK, k89]; rfl) ?_
    refine setH12.regSZ (by kernel_rfl) (by simp only [List.map_cons, List.map_nil]; rfl) ?_; simp only [qB, qC, qD, qE, qF, qG, qH, qJ, qK, qM, qN, qP, iop1, qR, qS, iop, qT, qV, qW, qX, qY, qZ, zA, Option.getD_some, zB, zC, zD, zE, zF, zG, zH, zJ, zK, zM, zN, Step1.ofO, lenC, callF, zP, zR, zS, zT, zV, cond_true, cond_false, decide_true, decide_false, beq_self_eq_true, Bool.false_eq_true, Bool.true_eq_false, zW, zX, zY, zZ, Bool.not_true, Bool.not_false, appC, copyC, yA, List.map_cons, List.map_nil, goInt, yB, yC, fA0, hl08, fA1, hl18, hl58, e71, enter_s (x := ((n, .slice aw ws.length cw, ws, .slice ap rs.length cp), a, b, c, d)) (show hat12 71 = some (ofS pre71 post71) from rfl) uniq71 ⟨rfl, hpre _ ho28⟩]
    rintro v9 H9 ⟨hold9, code9', rfl, hc9'⟩
    have h99 := hc9' rs (picOf_old ho28 hr)
    simp only at h99
    rw [← hc9] at h99
    subst h99
    have hcc : code = cond (!is) 7 0 := by rw [hcode]; cases is <;> rfl
    rw [← hcc]
    refine JT.go (by repeat (first | exact WkL.nil | refine WkL.same ?_ | refine WkL.any ?_)) ⟨rfl, (ho2.trans ho28).trans hold9, ?_, (hold9.get _ (by omega)).trans hg13'⟩
    rw [hold9.get _ (by omega), ho8.get _ (by omega), hold5.get _ (by omega)]
    exact hg7
  · have he : e ≠ 0 := by simpa using ht
    obtain ⟨h31, h32⟩ := hne3 he
    have h91 := hne9 he
    subst h32 h91
    obtain ⟨rfl, rfl, rfl, rfl⟩ : ca = 0 ∧ cb = 0 ∧ cc = 0 ∧ cd = 0 := by simpa [zero84] using h31
    exact .skip (JT.go (by repeat (first | exact WkL.nil | refine WkL.same ?_ | refine WkL.any ?_)) ⟨rfl, ho2.trans ho26, hg7', hg13⟩)
  · rintro e' h ⟨rfl, hoh, hg7h, hg13h⟩
    have l7 : iloadAt Tryz.prog 84 (.pointer (some ⟨H3.size, 0, none⟩)) h = some (.agg #[.int .i64 ca, .int .i64 cb, .int .i64 cc, .int .i64 cd]) := load_agg (t := 84) (i := 0) (l := [.int .i64 ca, .int .i64 cb, .int .i64 cc, .int .i64 cd]) ag84 sz84 hg7h (by simp)
    have l13 : iloadAt Tryz.prog 84 (.pointer (some ⟨H5.size, 0, none⟩)) h = some (.agg #[.int .i64 ca, .int .i64 cb, .int .i64 cc, .int .i64 cd]) := load_agg (t := 84) (i := 0) (l := [.int .i64 ca, .int .i64 cb, .int .i64 cc, .int .i64 cd]) ag84 sz84 hg13h (by simp)
    exact setH12.regE 0 (by kernel_rfl) (by simp only [List.map_cons, List.map_nil]; rfl) (by simp only [qB, qC, qD, qE, qF, qG, qH, qJ, qK, qM, qN, qP, iop1, qR, qS, iop, qT, qV, qW, qX, qY, qZ, zA, Option.getD_some, zB, zC, zD, zE, zF, zG, zH, zJ, zK, zM, zN, Step1.ofO, lenC, callF, zP, zR, zS, zT, zV, cond_true, cond_false, decide_true, decide_false, beq_self_eq_true, Bool.false_eq_true, Bool.true_eq_false, zW, zX, zY, zZ, Bool.not_true, Bool.not_false, appC, copyC, yA, List.map_cons, List.map_nil, goInt, l7, l13, eq84, Bool.and_self, e18, enter_k j18, ofK, k18]; rfl) (.ret ⟨.inr rfl, ires_tmp rfl (by simp only [qX, qY]), hoh⟩)
end Go.Proofs.YtpdlblofcdcikaaGreatDoor
