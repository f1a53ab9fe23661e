/- Contract of the reference's Clash. Conditions: none. -/
import Derived.Test.YtpdlblofcdcikaaGreatDoorH10
set_option linter.unusedSimpArgs false
set_option linter.unusedVariables false
namespace Go.Proofs.YtpdlblofcdcikaaGreatDoor
open Go.Idl

/-! 70: Clash -/
def pre70 (x : Nat × Value × List Int × Value) (args : List Value) (H : IH) : Prop := args = [.int .i64 (x.1 : Int), x.2.1, x.2.2.2] ∧ intsOf H x.2.1 = some x.2.2.1 ∧ okW x.1 x.2.2.1 ∧ x.1 ≤ 12 ∧ x.2.2.1.length ≤ 24 ∧ H.base ≤ H.size ∧
  ∃ rs, picOf H x.2.2.2 = some rs ∧ (∀ zs ∈ rs.map (·.2), zs.length = x.2.2.1.length) ∧ rs.length ≤ 24
def post70 (x : Nat × Value × List Int × Value) (H : IH) (v : Value) (H' : IH) : Prop := Old H H' ∧ ∃ a b c d is, v = .tuple #[.agg #[.int .i64 a, .int .i64 b, .int .i64 c, .int .i64 d], .bool is] ∧
  ∀ rs, picOf H x.2.2.2 = some rs → ClashM (seenN x.2.2.1 (rangeI x.1) rs.length) (rs.map (·.2)) x.2.2.1.length rs.length (.agg #[.int .i64 a, .int .i64 b, .int .i64 c, .int .i64 d]) is
theorem uniq70 (x y : Nat × Value × List Int × Value) (args : List Value) (H : IH) (hx : pre70 x args H) (hy : pre70 y args H) : x = y := by
  obtain ⟨n, w, ws, p⟩ := x
  obtain ⟨n', w', ws', p'⟩ := y
  have h1 := hx.1.symm.trans hy.1
  simp at h1
  obtain ⟨h1, rfl, rfl⟩ := h1
  have h2 := hx.2.1.symm.trans hy.2.1
  simp at h2
  have : n = n' := by omega
  rw [this, h2]
noncomputable def hat11 : Nats := addS hat10 70 pre70 post70
theorem pureH10 : NatPure hat10 := addS_pure (addS_pure pureH8)
theorem e64c : enters Tryz.prog 64 = true := by kernel_rfl
theorem exI0 {a : Int} {b : Value} {H : IH} : iextract (.tuple #[.int .i64 a, b]) 0 H = some (.val (.int .i64 a) H) := rfl
theorem exI1 {a : Value} {b : Int} {H : IH} : iextract (.tuple #[a, .int .i64 b]) 1 H = some (.val (.int .i64 b) H) := rfl
set_option maxHeartbeats 2000000 in
set_option maxRecDepth 20000 in
theorem setH11 : Setup Tryz.prog good hat11 (globG 3) := setH10.addS pre70 post70 fun x args H ⟨ha, hz, hok, hn12, hwc, hb, rs, hr, hwz, hrl⟩ => by
  obtain ⟨n, wv, ws, pv⟩ := x
  simp only at ha hz hok hn12 hwc hr hwz
  subst ha
  obtain ⟨aw, cw, rfl, hwl, _⟩ := intsOf_inv hz
  obtain ⟨ap, cp, rfl, _, _⟩ := picOf_inv hr
  refine CallI.of Tryz.func70 rfl (N := 65) rfl ?_
  show Holds _ _ false _ [.int .i64 n, .slice aw ws.length cw, .slice ap rs.length cp, undef, undef, undef, undef, undef, undef, undef, undef, undef, undef, undef, undef, undef, undef, undef, undef, undef, undef, undef, undef, undef, undef, undef, undef, undef, undef, undef, undef, undef, undef, undef, undef, undef, undef, undef, undef, undef, undef, undef, undef, undef, undef, undef, undef, undef, undef, undef, undef, undef, undef, undef, undef, undef, undef, undef, undef, undef, undef, undef, undef, undef, undef] H _
  refine setH10.regE 0 (by kernel_rfl) (by simp only [List.map_cons, List.map_nil]; rfl) (by simp only [qB, qC, qD, qE, qF, qG, qH, qJ, qK, qM, qN, qP, iop1, qR, qS, iop, qT, qV, qW, qX, qY, qZ, zA, Option.getD_some, zB, zC, zD, zE, zF, zG, zH, zJ, zK, zM, zN, Step1.ofO, lenC, callF, zP, zR, zS, zT, zV, cond_true, cond_false, decide_true, decide_false, beq_self_eq_true, Bool.false_eq_true, Bool.true_eq_false, zW, zX, zY, zZ, Bool.not_true, Bool.not_false, appC, copyC, yA, List.map_cons, List.map_nil, goInt, al84]; rfl) ?_
  have hoA := Old.push H (.cells #[.int .i64 0, .int .i64 0, .int .i64 0, .int .i64 0] 84)
  have hAz : (H.push (.cells #[.int .i64 0, .int .i64 0, .int .i64 0, .int .i64 0] 84)).get H.size = some (.cells [.int .i64 0, .int .i64 0, .int .i64 0, .int .i64 0].toArray 84 (0, 0)) := get_push_eq
  have hAs : (H.push (.cells #[.int .i64 0, .int .i64 0, .int .i64 0, .int .i64 0] 84)).size = H.size + 1 := rfl
  generalize H.push (.cells #[.int .i64 0, .int .i64 0, .int .i64 0, .int .i64 0] 84) = HA at hoA hAz hAs
  have hzA := intsOf_old hoA hz
  have hbA : HA.base ≤ H.size := by rw [hoA.base]; exact hb
  refine setH10.regS (by kernel_rfl) (by simp only [List.map_cons, List.map_nil]; rfl) ?_; simp only [qB, qC, qD, qE, qF, qG, qH, qJ, qK, qM, qN, qP, iop1, qR, qS, iop, qT, qV, qW, qX, qY, qZ, zA, Option.getD_some, zB, zC, zD, zE, zF, zG, zH, zJ, zK, zM, zN, Step1.ofO, lenC, callF, zP, zR, zS, zT, zV, cond_true, cond_false, decide_true, decide_false, beq_self_eq_true, Bool.false_eq_true, Bool.true_eq_false, zW, zX, zY, zZ, Bool.not_true, Bool.not_false, appC, copyC, yA, List.map_cons, List.map_nil, goInt, yB, yC, lenB_slice u25, e64c, enter_s (x := (n, .slice aw ws.length cw, ws, rs.length)) (show hat10 64 = some (ofS pre64 post64) from rfl) uniq64 ⟨rfl, hzA, hok, hn12, by show rs.length ≤ 1000; omega, by omega⟩]
  rintro v3 H3 ⟨hold3, rows, hout, hrows⟩
  simp only at hrows
  obtain ⟨ks, hks, hkm⟩ := pic_of hout hrows (by rw [seenN_len]; omega) fun zs hzs => by
    unfold seenN at hzs
    obtain ⟨k, _, rfl⟩ := List.mem_map.1 hzs
    rw [(runW_len _ _).1]; omega
  have hkl : ks.length = rs.length := by have := congrArg List.length hkm; simpa [seenN_len] using this
  have hkz : ∀ zs ∈ ks.map (·.2), zs.length = ws.length := fun zs hzs => by
    rw [hkm] at hzs
    unfold seenN at hzs
    obtain ⟨k, _, rfl⟩ := List.mem_map.1 hzs
    rw [(runW_len _ _).1]
  obtain ⟨ak, ck, rfl, _, _⟩ := picOf_inv hks
  have ho3 := hoA.trans hold3
  have hA3 := (hold3.get H.size (by omega)).trans hAz
  have hs3 := hold3.size
  have hb3 : H3.base ≤ H.size := by rw [ho3.base]; exact hb
  have hr3 := picOf_old ho3 hr
  generalize hsk : seenN ws (rangeI n) rs.length = sk at hkm
  generalize hzs : rs.map (·.2) = zss at hwz
  generalize hw : ws.length = w at *
  have post : ∀ (a b c d : Int) (is : Bool) (H' : IH), Old H H' → ClashM sk zss w rs.length (.agg #[.int .i64 a, .int .i64 b, .int .i64 c, .int .i64 d]) is → post70 (n, .slice aw w cw, ws, .slice ap rs.length cp) H (.tuple #[.agg #[.int .i64 a, .int .i64 b, .int .i64 c, .int .i64 d], .bool is]) H' := fun a b c d is H' ho hc => by
    refine ⟨ho, a, b, c, d, is, rfl, fun rs' hr' => ?_⟩
    simp only at hr'
    rw [hr] at hr'
    cases hr'
    simp only [hw, hsk, hzs]
    exact hc
  refine .seqW (setH10.regE 0 (by kernel_rfl) (by simp only [List.map_cons, List.map_nil]; rfl) (by simp only [qB, qC, qD, qE, qF, qG, qH, qJ, qK, qM, qN, qP, iop1, qR, qS, iop, qT, qV, qW, qX, qY, qZ, zA, Option.getD_some, zB, zC, zD, zE, zF, zG, zH, zJ, zK, zM, zN, Step1.ofO, lenC, callF, zP, zR, zS, zT, zV, cond_true, cond_false, decide_true, decide_false, beq_self_eq_true, Bool.false_eq_true, Bool.true_eq_false, zW, zX, zY, zZ, Bool.not_true, Bool.not_false, appC, copyC, yA, List.map_cons, List.map_nil, goInt]; rfl) ?_)
  refine .loopW (fun m e h => ∃ (i : Nat), i ≤ rs.length ∧ m = rs.length - i ∧ e = [unk, .slice aw w cw, .slice ap rs.length cp, unk, unk, unk, .pointer (some ⟨H.size, 0, none⟩), unk, .slice ak ks.length ck, .int .i64 (i : Nat), unk, unk, unk, unk, unk, unk, unk, unk, unk, unk, unk, unk, unk, unk, unk, unk, unk, unk, unk, unk, unk, unk, unk, unk, unk, unk, unk, unk, unk, unk, unk, unk, unk, unk, unk, unk, unk, unk, unk, unk, unk, unk, unk, unk, unk, unk, unk, unk, unk, unk, unk, unk, unk, unk, unk] ∧ h = H3 ∧ ∀ x, x < i * w → okM sk zss w x) rs.length
    [unk, .slice aw w cw, .slice ap rs.length cp, unk, unk, unk, .pointer (some ⟨H.size, 0, none⟩), unk, .slice ak ks.length ck, .int .i64 0, unk, unk, unk, unk, unk, unk, unk, unk, unk, unk, unk, unk, unk, unk, unk, unk, unk, unk, unk, unk, unk, unk, unk, unk, unk, unk, unk, unk, unk, unk, unk, unk, unk, unk, unk, unk, unk, unk, unk, unk, unk, unk, unk, unk, unk, unk, unk, unk, unk, unk, unk, unk, unk, unk, unk] (by repeat (first | exact WkL.nil | refine WkL.same ?_ | refine WkL.any ?_)) ⟨0, Nat.zero_le _, rfl, rfl, rfl, fun x hx => by omega⟩ ?_
  rintro m e h ⟨i, hi, rfl, rfl, rfl, hno⟩
  refine setH10.headW2 (by kernel_rfl) (by simp only [List.map_cons, List.map_nil]; rfl) (by simp only [qB, qC, qD, qE, qF, qG, qH, qJ, qK, qM, qN, qP, iop1, qR, qS, iop, qT, qV, qW, qX, qY, qZ, zA, Option.getD_some, zB, zC, zD, zE, zF, zG, zH, zJ, zK, zM, zN, Step1.ofO, lenC, callF, zP, zR, zS, zT, zV, cond_true, cond_false, decide_true, decide_false, beq_self_eq_true, Bool.false_eq_true, Bool.true_eq_false, zW, zX, zY, zZ, Bool.not_true, Bool.not_false, appC, copyC, yA, List.map_cons, List.map_nil, goInt, lenB_slice u25]; rfl) (by kernel_rfl) (by simp only [qT, qX, qY, Option.getD_some]; rfl) (fun ht => ?_) (fun ht => ?_)
  · have hlt : i < rs.length := by simpa using ht
    refine .blockW (setH10.regE 0 (by kernel_rfl) (by simp only [List.map_cons, List.map_nil]; rfl) (by simp only [qB, qC, qD, qE, qF, qG, qH, qJ, qK, qM, qN, qP, iop1, qR, qS, iop, qT, qV, qW, qX, qY, qZ, zA, Option.getD_some, zB, zC, zD, zE, zF, zG, zH, zJ, zK, zM, zN, Step1.ofO, lenC, callF, zP, zR, zS, zT, zV, cond_true, cond_false, decide_true, decide_false, beq_self_eq_true, Bool.false_eq_true, Bool.true_eq_false, zW, zX, zY, zZ, Bool.not_true, Bool.not_false, appC, copyC, yA, List.map_cons, List.map_nil, goInt]; rfl) ?_)
    refine .loopW (fun m e h2 => ∃ (j : Nat), j ≤ w ∧ m = w - j ∧ e = [unk, .slice aw w cw, .slice ap rs.length cp, unk, unk, unk, .pointer (some ⟨H.size, 0, none⟩), unk, .slice ak ks.length ck, .int .i64 (i : Nat), .int .i64 (j : Nat), unk, unk, unk, unk, unk, unk, unk, unk, unk, unk, unk, unk, unk, unk, unk, unk, unk, unk, unk, unk, unk, unk, unk, unk, unk, unk, unk, unk, unk, unk, unk, unk, unk, unk, unk, unk, unk, unk, unk, unk, unk, unk, unk, unk, unk, unk, unk, unk, unk, unk, unk, unk, unk, unk] ∧ h2 = h ∧ ∀ x, x < i * w + j → okM sk zss w x) w
      [unk, .slice aw w cw, .slice ap rs.length cp, unk, unk, unk, .pointer (some ⟨H.size, 0, none⟩), unk, .slice ak ks.length ck, .int .i64 (i : Nat), .int .i64 0, unk, unk, unk, unk, unk, unk, unk, unk, unk, unk, unk, unk, unk, unk, unk, unk, unk, unk, unk, unk, unk, unk, unk, unk, unk, unk, unk, unk, unk, unk, unk, unk, unk, unk, unk, unk, unk, unk, unk, unk, unk, unk, unk, unk, unk, unk, unk, unk, unk, unk, unk, unk, unk, unk] (by repeat (first | exact WkL.nil | refine WkL.same ?_ | refine WkL.any ?_)) ⟨0, Nat.zero_le _, rfl, rfl, rfl, hno⟩ ?_
    rintro m e h2 ⟨j, hj, rfl, rfl, rfl, hno2⟩
    refine setH10.headW2 (by kernel_rfl) (by simp only [List.map_cons, List.map_nil]; rfl) (by simp only [qB, qC, qD, qE, qF, qG, qH, qJ, qK, qM, qN, qP, iop1, qR, qS, iop, qT, qV, qW, qX, qY, qZ, zA, Option.getD_some, zB, zC, zD, zE, zF, zG, zH, zJ, zK, zM, zN, Step1.ofO, lenC, callF, zP, zR, zS, zT, zV, cond_true, cond_false, decide_true, decide_false, beq_self_eq_true, Bool.false_eq_true, Bool.true_eq_false, zW, zX, zY, zZ, Bool.not_true, Bool.not_false, appC, copyC, yA, List.map_cons, List.map_nil, goInt, lenB_slice u22]; rfl) (by kernel_rfl) (by simp only [qT, qX, qY, Option.getD_some]; rfl) (fun ht2 => ?_) (fun ht2 => ?_)
    · have hjlt : j < w := by simpa using ht2
      have htl : i * w + j < rs.length * w := by
        have h1 : (i + 1) * w ≤ rs.length * w := Nat.mul_le_mul_right _ hlt
        rw [Nat.succ_mul] at h1
        omega
      obtain ⟨p3, ra3, rn3, rc3, t3, u1, u2, u3, u4⟩ := pic_cell hks hkz (by rw [hkl]; exact hlt) hjlt
      rw [hkm] at u4
      refine .blockW ?_
      refine setH10.regS (by kernel_rfl) (by simp only [List.map_cons, List.map_nil]; rfl) ?_; simp only [qB, qC, qD, qE, qF, qG, qH, qJ, qK, qM, qN, qP, iop1, qR, qS, iop, qT, qV, qW, qX, qY, qZ, zA, Option.getD_some, zB, zC, zD, zE, zF, zG, zH, zJ, zK, zM, zN, Step1.ofO, lenC, callF, zP, zR, zS, zT, zV, cond_true, cond_false, decide_true, decide_false, beq_self_eq_true, Bool.false_eq_true, Bool.true_eq_false, zW, zX, zY, zZ, Bool.not_true, Bool.not_false, appC, copyC, yA, List.map_cons, List.map_nil, goInt, yB, yC, u1, u2, u3, u4, e136, enter_s (x := (.slice ak ks.length ck, (sk.getD i []).getD j 0)) (show hat10 136 = some (ofS pre136 post136) from rfl) uniq136 ⟨rfl, ks, w, hks, hkz, by omega⟩]
      rintro v4 h4 ⟨rfl, ⟨fa, fb, hfab⟩, hpost⟩
      have hv4 := hpost ks w (i * w + j) hks hkz (by rw [hkl]; exact htl) (by rw [hkm]; exact atM_at hjlt)
      rw [hkm] at hv4
      rw [hv4]
      clear hpost hfab
      have hfl := fstC_le (atM sk w) (i * w + j)
      generalize hff : fstC (atM sk w) (i * w + j) = f at *
      simp only [qB, qC, qD, qE, qF, qG, qH, qJ, qK, qM, qN, qP, iop1, qR, qS, iop, qT, qV, qW, qX, qY, qZ, zA, Option.getD_some, zB, zC, zD, zE, zF, zG, zH, zJ, zK, zM, zN, Step1.ofO, lenC, callF, zP, zR, zS, zT, zV, cond_true, cond_false, decide_true, decide_false, beq_self_eq_true, Bool.false_eq_true, Bool.true_eq_false, zW, zX, zY, zZ, Bool.not_true, Bool.not_false, appC, copyC, yA, List.map_cons, List.map_nil, goInt, yB, yC, exI0, exI1]
      have hfr : f / w < rs.length := by rw [Nat.div_lt_iff_lt_mul (by omega)]; omega
      have hfm : f % w < w := Nat.mod_lt _ (by omega)
      obtain ⟨p1, ra1, rn1, rc1, t1, x1, x2, x3, x4⟩ := pic_cell hr3 (by rw [hzs]; exact hwz) hfr hfm
      obtain ⟨p2, ra2, rn2, rc2, t2, y1, y2, y3, y4⟩ := pic_cell hr3 (by rw [hzs]; exact hwz) hlt hjlt
      rw [hzs] at x4 y4
      have hokm : okM sk zss w (i * w + j) ↔ (zss.getD (f / w) []).getD (f % w) 0 = (zss.getD i []).getD j 0 := by
        unfold okM
        rw [hff, atM_at hjlt]
        rfl
      generalize (zss.getD (f / w) []).getD (f % w) 0 = c1 at x4 hokm
      generalize (zss.getD i []).getD j 0 = c2 at y4 hokm
      refine setH10.drawE pureH10 0 (lo := []) (by kernel_rfl) (by kernel_rfl) (by kernel_rfl) (by kernel_rfl) (by kernel_rfl) (by kernel_rfl) (by kernel_rfl) (by simp only [List.map_cons, List.map_nil]; rfl) (by simp only [qB, qC, qD, qE, qF, qG, qH, qJ, qK, qM, qN, qP, iop1, qR, qS, iop, qT, qV, qW, qX, qY, qZ, zA, Option.getD_some, zB, zC, zD, zE, zF, zG, zH, zJ, zK, zM, zN, Step1.ofO, lenC, callF, zP, zR, zS, zT, zV, cond_true, cond_false, decide_true, decide_false, beq_self_eq_true, Bool.false_eq_true, Bool.true_eq_false, zW, zX, zY, zZ, Bool.not_true, Bool.not_false, appC, copyC, yA, List.map_cons, List.map_nil, goInt, x1, x2, x3, x4, y1, y2, y3, y4]; rfl) (by kernel_rfl) (.cond (by kernel_rfl) (by simp only [qT, qX, qY, Option.getD_some]; rfl) (fun ht3 => ?_) (fun ht3 => .skip (BT.go ?_)))
      · have hne : ¬ okM sk zss w (i * w + j) := fun e => by rw [hokm] at e; simp [e] at ht3
        have s1 : istoreAt Tryz.prog 84 (.pointer (some ⟨H.size, 0, none⟩)) (.agg #[.int .i64 ((f / w : Nat) : Int), .int .i64 ((f % w : Nat) : Int), .int .i64 (i : Nat), .int .i64 (j : Nat)]) h4 = some (h4.put H.size (.cells #[.int .i64 ((f / w : Nat) : Int), .int .i64 ((f % w : Nat) : Int), .int .i64 (i : Nat), .int .i64 (j : Nat)] 84 (0, 0))) :=
          store_agg (vs := [.int .i64 ((f / w : Nat) : Int), .int .i64 ((f % w : Nat) : Int), .int .i64 (i : Nat), .int .i64 (j : Nat)]) (i := 0) sz84 rfl hA3 (by simp) rfl hb3
        refine setH10.regE 0 (by kernel_rfl) (by simp only [List.map_cons, List.map_nil]; rfl) (by simp only [qB, qC, qD, qE, qF, qG, qH, qJ, qK, qM, qN, qP, iop1, qR, qS, iop, qT, qV, qW, qX, qY, qZ, zA, Option.getD_some, zB, zC, zD, zE, zF, zG, zH, zJ, zK, zM, zN, Step1.ofO, lenC, callF, zP, zR, zS, zT, zV, cond_true, cond_false, decide_true, decide_false, beq_self_eq_true, Bool.false_eq_true, Bool.true_eq_false, zW, zX, zY, zZ, Bool.not_true, Bool.not_false, appC, copyC, yA, List.map_cons, List.map_nil, goInt, bd83, bd84, s1]; rfl) (.ret (BT.rt (LQ.rt (BT.rt (LQ.rt (ST.rt ⟨.inr rfl, .tuple #[.agg #[.int .i64 ((f / w : Nat) : Int), .int .i64 ((f % w : Nat) : Int), .int .i64 (i : Nat), .int .i64 (j : Nat)], .bool true], resCT rfl ?_ rfl, post _ _ _ _ true _ (ho3.put (Nat.le_refl _)) (.inr ⟨rfl, i * w + j, htl, hno2, hne, ?_⟩)⟩))))))
        · exact load_agg (t := 84) (i := 0) (l := [.int .i64 ((f / w : Nat) : Int), .int .i64 ((f % w : Nat) : Int), .int .i64 (i : Nat), .int .i64 (j : Nat)]) ag84 sz84 get_put_eq (by simp)
        · unfold clashV
          rw [hff, (dm_eq hjlt).1, (dm_eq hjlt).2]
      · refine setH10.regZ 0 (by kernel_rfl) (by simp only [List.map_cons, List.map_nil]; rfl) (by simp only [qB, qC, qD, qE, qF, qG, qH, qJ, qK, qM, qN, qP, iop1, qR, qS, iop, qT, qV, qW, qX, qY, qZ, zA, Option.getD_some, zB, zC, zD, zE, zF, zG, zH, zJ, zK, zM, zN, Step1.ofO, lenC, callF, zP, zR, zS, zT, zV, cond_true, cond_false, decide_true, decide_false, beq_self_eq_true, Bool.false_eq_true, Bool.true_eq_false, zW, zX, zY, zZ, Bool.not_true, Bool.not_false, appC, copyC, yA, List.map_cons, List.map_nil, goInt, wrap_succ hjlt (by omega)]; rfl) (LQ.go (w - (j + 1)) (by omega) (by repeat (first | exact WkL.nil | refine WkL.same ?_ | refine WkL.any ?_)) ⟨j + 1, by omega, rfl, rfl, rfl, fun x hx => ?_⟩)
        by_cases hxj : x = i * w + j
        · rw [hxj, hokm]; simpa using ht3
        · exact hno2 x (by omega)
    · have hge : j = w := by simp at ht2; omega
      subst hge
      refine BT.go (setH10.regZ 0 (by kernel_rfl) (by simp only [List.map_cons, List.map_nil]; rfl) (by simp only [qB, qC, qD, qE, qF, qG, qH, qJ, qK, qM, qN, qP, iop1, qR, qS, iop, qT, qV, qW, qX, qY, qZ, zA, Option.getD_some, zB, zC, zD, zE, zF, zG, zH, zJ, zK, zM, zN, Step1.ofO, lenC, callF, zP, zR, zS, zT, zV, cond_true, cond_false, decide_true, decide_false, beq_self_eq_true, Bool.false_eq_true, Bool.true_eq_false, zW, zX, zY, zZ, Bool.not_true, Bool.not_false, appC, copyC, yA, List.map_cons, List.map_nil, goInt, wrap_succ hlt (by omega)]; rfl) (LQ.go (rs.length - (i + 1)) (by omega) (by repeat (first | exact WkL.nil | refine WkL.same ?_ | refine WkL.any ?_)) ⟨i + 1, by omega, rfl, rfl, rfl, fun x hx => hno2 x (by rw [Nat.succ_mul] at hx; exact hx)⟩))
  · have hge : i = rs.length := by simp at ht; omega
    subst hge
    have s1 : istoreAt Tryz.prog 84 (.pointer (some ⟨H.size, 0, none⟩)) (.agg #[.int .i64 0, .int .i64 0, .int .i64 0, .int .i64 0]) h = some (h.put H.size (.cells #[.int .i64 0, .int .i64 0, .int .i64 0, .int .i64 0] 84 (0, 0))) :=
      store_agg (vs := [.int .i64 0, .int .i64 0, .int .i64 0, .int .i64 0]) (i := 0) sz84 rfl hA3 (by simp) rfl hb3
    refine ST.go (setH10.regE 0 (by kernel_rfl) (by simp only [List.map_cons, List.map_nil]; rfl) (by simp only [qB, qC, qD, qE, qF, qG, qH, qJ, qK, qM, qN, qP, iop1, qR, qS, iop, qT, qV, qW, qX, qY, qZ, zA, Option.getD_some, zB, zC, zD, zE, zF, zG, zH, zJ, zK, zM, zN, Step1.ofO, lenC, callF, zP, zR, zS, zT, zV, cond_true, cond_false, decide_true, decide_false, beq_self_eq_true, Bool.false_eq_true, Bool.true_eq_false, zW, zX, zY, zZ, Bool.not_true, Bool.not_false, appC, copyC, yA, List.map_cons, List.map_nil, goInt, bd84z, s1]; rfl) (.ret ⟨.inr rfl, .tuple #[.agg #[.int .i64 0, .int .i64 0, .int .i64 0, .int .i64 0], .bool false], resCT rfl ?_ rfl, post _ _ _ _ false _ (ho3.put (Nat.le_refl _)) (.inl ⟨rfl, rfl, hno⟩)⟩))
    exact load_agg (t := 84) (i := 0) (l := [.int .i64 0, .int .i64 0, .int .i64 0, .int .i64 0]) ag84 sz84 get_put_eq (by simp)
theorem e70 : enters Tryz.prog 70 = true := by kernel_rfl
end Go.Proofs.YtpdlblofcdcikaaGreatDoor
