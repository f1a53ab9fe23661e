/- Contract of the reference's CheckClash. Conditions: none. -/
import Derived.Test.YtpdlblofcdcikaaGreatDoorH11
set_option linter.unusedSimpArgs false
set_option linter.unusedVariables false
namespace Go.Proofs.YtpdlblofcdcikaaGreatDoor
open Go.Idl

/-! 71: CheckClash -/
def pre71 (x : (Nat × Value × List Int × Value) × (Int × Int × Int × Int)) (args : List Value) (H : IH) : Prop := args = [.int .i64 (x.1.1 : Int), x.1.2.1, x.1.2.2.2, .agg #[.int .i64 x.2.1, .int .i64 x.2.2.1, .int .i64 x.2.2.2.1, .int .i64 x.2.2.2.2]] ∧ pre70 x.1 [.int .i64 (x.1.1 : Int), x.1.2.1, x.1.2.2.2] H
def post71 (x : (Nat × Value × List Int × Value) × (Int × Int × Int × Int)) (H : IH) (v : Value) (H' : IH) : Prop := Old H H' ∧ ∃ code : Int, v = .int .i64 code ∧
  ∀ rs, picOf H x.1.2.2.2 = some rs → code = clashErr (seenN x.1.2.2.1 (rangeI x.1.1) rs.length) (rs.map (·.2)) x.1.2.2.1.length x.2.1 x.2.2.1 x.2.2.2.1 x.2.2.2.2
theorem uniq71 (x y : (Nat × Value × List Int × Value) × (Int × Int × Int × Int)) (args : List Value) (H : IH) (hx : pre71 x args H) (hy : pre71 y args H) : x = y := by
  obtain ⟨⟨n, w, ws, p⟩, a, b, c, d⟩ := x
  obtain ⟨⟨n', w', ws', p'⟩, a', b', c', d'⟩ := y
  have h1 := hx.1.symm.trans hy.1
  simp at h1
  obtain ⟨h1, rfl, rfl, rfl, rfl, rfl, rfl⟩ := h1
  have h2 := hx.2.2.1.symm.trans hy.2.2.1
  simp at h2
  have : n = n' := by omega
  rw [this, h2]
noncomputable def hat12 : Nats := addS hat11 71 pre71 post71
theorem i38 : hat11 38 = some (ofK k38) := rfl
theorem pureH11 : NatPure hat11 := addS_pure pureH10
theorem ix84n (b : Nat) {i : Nat} (h : i < 2) : iindexAt Tryz.prog 84 (.pointer (some ⟨b, 0, none⟩)) (.int .i64 (i : Nat)) = some (.pointer (some ⟨b, 2 * i, none⟩)) := by
  have : i = 0 ∨ i = 1 := by omega
  rcases this with rfl | rfl
  · exact ix84_0 b
  · exact ix84_1 b
theorem ix83_o (b o : Nat) : iindexAt Tryz.prog 83 (.pointer (some ⟨b, o, none⟩)) (.int .i64 0) = some (.pointer (some ⟨b, o, none⟩)) := ix83_0 b o
theorem ptAt_get {a b c d : Int} {i : Nat} (h : i < 2) : [Value.int .i64 a, .int .i64 b, .int .i64 c, .int .i64 d][2 * i]? = some (.int .i64 (ptAt a b c d i).1) ∧ [Value.int .i64 a, .int .i64 b, .int .i64 c, .int .i64 d][2 * i + 1]? = some (.int .i64 (ptAt a b c d i).2) := by
  have : i = 0 ∨ i = 1 := by omega
  rcases this with rfl | rfl
  · exact ⟨rfl, rfl⟩
  · exact ⟨rfl, rfl⟩
set_option maxHeartbeats 2000000 in
set_option maxRecDepth 20000 in
theorem setH12 : Setup Tryz.prog good hat12 (globG 3) := setH11.addS pre71 post71 fun x args H ⟨ha, _, hz, hok, hn12, hwc, hb, rs, hr, hwz, hrl⟩ => by
  obtain ⟨⟨n, wv, ws, pv⟩, a, b, c, d⟩ := x
  simp only at ha hz hok hn12 hwc hr hwz
  subst ha
  obtain ⟨aw, cw, rfl, hwl, _⟩ := intsOf_inv hz
  obtain ⟨ap, cp, rfl, _, _⟩ := picOf_inv hr
  refine CallI.of Tryz.func71 rfl (N := 84) rfl ?_
  show Holds _ _ false _ [.int .i64 n, .slice aw ws.length cw, .slice ap rs.length cp, .agg #[.int .i64 a, .int .i64 b, .int .i64 c, .int .i64 d], undef, undef, undef, undef, undef, undef, undef, undef, undef, undef, undef, undef, undef, undef, undef, undef, undef, undef, undef, undef, undef, undef, undef, undef, undef, undef, undef, undef, undef, undef, undef, undef, undef, undef, undef, undef, undef, undef, undef, undef, undef, undef, undef, undef, undef, undef, undef, undef, undef, undef, undef, undef, undef, undef, undef, undef, undef, undef, undef, undef, undef, undef, undef, undef, undef, undef, undef, undef, undef, undef, undef, undef, undef, undef, undef, undef, undef, undef, undef, undef] H _
  refine setH11.regE 0 (by kernel_rfl) (by simp only [List.map_cons, List.map_nil]; rfl) (by simp only [qB, qC, qD, qE, qF, qG, qH, qJ, qK, qM, qN, qP, iop1, qR, qS, iop, qT, qV, qW, qX, qY, qZ, zA, Option.getD_some, zB, zC, zD, zE, zF, zG, zH, zJ, zK, zM, zN, Step1.ofO, lenC, callF, zP, zR, zS, zT, zV, cond_true, cond_false, decide_true, decide_false, beq_self_eq_true, Bool.false_eq_true, Bool.true_eq_false, zW, zX, zY, zZ, Bool.not_true, Bool.not_false, appC, copyC, yA, List.map_cons, List.map_nil, goInt, ib84]; rfl) ?_
  have hoA := Old.push H (.cells #[.int .i64 a, .int .i64 b, .int .i64 c, .int .i64 d] 84)
  have hAz : (H.push (.cells #[.int .i64 a, .int .i64 b, .int .i64 c, .int .i64 d] 84)).get H.size = some (.cells [.int .i64 a, .int .i64 b, .int .i64 c, .int .i64 d].toArray 84 (0, 0)) := get_push_eq
  have hAs : (H.push (.cells #[.int .i64 a, .int .i64 b, .int .i64 c, .int .i64 d] 84)).size = H.size + 1 := rfl
  generalize H.push (.cells #[.int .i64 a, .int .i64 b, .int .i64 c, .int .i64 d] 84) = HA at hoA hAz hAs
  have hzA := intsOf_old hoA hz
  have hbA : HA.base ≤ H.size := by rw [hoA.base]; exact hb
  have post : ∀ (code : Int) (H' : IH), Old H H' → code = clashErr (seenN ws (rangeI n) rs.length) (rs.map (·.2)) ws.length a b c d → post71 ((n, .slice aw ws.length cw, ws, .slice ap rs.length cp), a, b, c, d) H (.int .i64 code) H' := fun code H' ho hc => by
    refine ⟨ho, code, rfl, fun rs' hr' => ?_⟩
    simp only at hr'
    rw [hr] at hr'
    cases hr'
    exact hc
  have hw1 : IntKind.i64.wrap ((rs.length : Int) - 1) = (rs.length : Int) - 1 := wrap_id (by omega) (by omega)
  have hw2 : IntKind.i64.wrap ((ws.length : Int) - 1) = (ws.length : Int) - 1 := wrap_id (by omega) (by omega)
  refine .seqW (setH11.regE 0 (by kernel_rfl) (by simp only [List.map_cons, List.map_nil]; rfl) (by simp only [qB, qC, qD, qE, qF, qG, qH, qJ, qK, qM, qN, qP, iop1, qR, qS, iop, qT, qV, qW, qX, qY, qZ, zA, Option.getD_some, zB, zC, zD, zE, zF, zG, zH, zJ, zK, zM, zN, Step1.ofO, lenC, callF, zP, zR, zS, zT, zV, cond_true, cond_false, decide_true, decide_false, beq_self_eq_true, Bool.false_eq_true, Bool.true_eq_false, zW, zX, zY, zZ, Bool.not_true, Bool.not_false, appC, copyC, yA, List.map_cons, List.map_nil, goInt]; rfl) ?_)
  refine .loopW (fun m e h => ∃ (i : Nat), i ≤ 2 ∧ m = 2 - i ∧ e = [.int .i64 n, .slice aw ws.length cw, .slice ap rs.length cp, unk, unk, unk, unk, .pointer (some ⟨H.size, 0, none⟩), unk, .int .i64 (i : Nat), unk, unk, unk, unk, unk, unk, unk, unk, unk, unk, unk, unk, unk, unk, unk, unk, unk, unk, unk, unk, unk, unk, unk, unk, unk, unk, unk, unk, unk, unk, unk, unk, unk, unk, unk, unk, unk, unk, unk, unk, unk, unk, unk, unk, unk, unk, unk, unk, unk, unk, unk, unk, unk, unk, unk, unk, unk, unk, unk, unk, unk, unk, unk, unk, unk, unk, unk, unk, unk, unk, unk, unk, unk, unk] ∧ h = HA ∧
      ∀ j, j < i → (outB (ptAt a b c d j).1 rs.length || outB (ptAt a b c d j).2 ws.length) = false) 2
    [.int .i64 n, .slice aw ws.length cw, .slice ap rs.length cp, unk, unk, unk, unk, .pointer (some ⟨H.size, 0, none⟩), unk, .int .i64 0, unk, unk, unk, unk, unk, unk, unk, unk, unk, unk, unk, unk, unk, unk, unk, unk, unk, unk, unk, unk, unk, unk, unk, unk, unk, unk, unk, unk, unk, unk, unk, unk, unk, unk, unk, unk, unk, unk, unk, unk, unk, unk, unk, unk, unk, unk, unk, unk, unk, unk, unk, unk, unk, unk, unk, unk, unk, unk, unk, unk, unk, unk, unk, unk, unk, unk, unk, unk, unk, unk, unk, unk, unk, unk] (by repeat (first | exact WkL.nil | refine WkL.same ?_ | refine WkL.any ?_))
    ⟨0, by omega, rfl, rfl, rfl, fun j hj => by omega⟩ ?_
  rintro m e' h ⟨i, hi, rfl, rfl, rfl, hgood⟩
  refine setH11.headW2 (by kernel_rfl) (by simp only [List.map_cons, List.map_nil]; rfl) (by simp only [qB, qC, qD, qE, qF, qG, qH, qJ, qK, qM, qN, qP, iop1, qR, qS, iop, qT, qV, qW, qX, qY, qZ, zA, Option.getD_some, zB, zC, zD, zE, zF, zG, zH, zJ, zK, zM, zN, Step1.ofO, lenC, callF, zP, zR, zS, zT, zV, cond_true, cond_false, decide_true, decide_false, beq_self_eq_true, Bool.false_eq_true, Bool.true_eq_false, zW, zX, zY, zZ, Bool.not_true, Bool.not_false, appC, copyC, yA, List.map_cons, List.map_nil, goInt]; rfl) (by kernel_rfl) (by simp only [qT, qX, qY, Option.getD_some]; rfl) (fun ht2 => ?_) (fun ht2 => ?_)
  · have hi2 : i < 2 := by simp only [decide_eq_true_eq] at ht2; omega
    obtain ⟨g1, g2⟩ := ptAt_get (a := a) (b := b) (c := c) (d := d) hi2
    have lx := load_cell (t := 3) ag3 (i := 2 * i) hAz g1
    have ly := load_cell (t := 3) ag3 (i := 2 * i + 1) hAz g2
    have hix := ix84n H.size hi2
    have i0 := ix83_o H.size (2 * i)
    have i1 := ix83_1 H.size (2 * i)
    generalize hpt : ptAt a b c d i = pt at lx ly
    obtain ⟨px, py⟩ := pt
    simp only at lx ly
    have bad : (outB px rs.length || outB py ws.length) = true → (3 : Int) = clashErr (seenN ws (rangeI n) rs.length) (rs.map (·.2)) ws.length a b c d := fun hO => by
      have hbad : ((outB a rs.length || outB b ws.length) || (outB c rs.length || outB d ws.length)) = true := by
        unfold ptAt at hpt
        split at hpt
        · simp only [Prod.mk.injEq] at hpt; rw [hpt.1, hpt.2, hO]; rfl
        · simp only [Prod.mk.injEq] at hpt; rw [hpt.1, hpt.2, hO]; simp
      unfold clashErr
      simp only [List.length_map]
      rw [hbad]; rfl
    cases hO1 : outB px rs.length with
    | true =>
      have hO1' := hO1
      unfold outB at hO1'
      refine .blockW (setH11.ifZ (by kernel_rfl) (by simp only [List.map_cons, List.map_nil]; rfl) (by simp only [qB, qC, qD, qE, qF, qG, qH, qJ, qK, qM, qN, qP, iop1, qR, qS, iop, qT, qV, qW, qX, qY, qZ, zA, Option.getD_some, zB, zC, zD, zE, zF, zG, zH, zJ, zK, zM, zN, Step1.ofO, lenC, callF, zP, zR, zS, zT, zV, cond_true, cond_false, decide_true, decide_false, beq_self_eq_true, Bool.false_eq_true, Bool.true_eq_false, zW, zX, zY, zZ, Bool.not_true, Bool.not_false, appC, copyC, yA, List.map_cons, List.map_nil, goInt, hix, i0, i1, lx, ly, lenB_slice u25, lenB_slice u22, hw1, hw2, e38, enter_k i38, ofK, k38, hO1']; rfl) (by kernel_rfl) (by simp only [qT, qX, qY, Option.getD_some]; rfl) (fun ht3 => ?_) (fun ht3 => by cases ht3))
      exact setH11.regE 0 (by kernel_rfl) (by simp only [List.map_cons, List.map_nil]; rfl) (by simp only [qB, qC, qD, qE, qF, qG, qH, qJ, qK, qM, qN, qP, iop1, qR, qS, iop, qT, qV, qW, qX, qY, qZ, zA, Option.getD_some, zB, zC, zD, zE, zF, zG, zH, zJ, zK, zM, zN, Step1.ofO, lenC, callF, zP, zR, zS, zT, zV, cond_true, cond_false, decide_true, decide_false, beq_self_eq_true, Bool.false_eq_true, Bool.true_eq_false, zW, zX, zY, zZ, Bool.not_true, Bool.not_false, appC, copyC, yA, List.map_cons, List.map_nil, goInt]; rfl) (.ret (BT.rt (LQ.rt (ST.rt ⟨.inr rfl, .int .i64 3, ires_tmp rfl (by simp only [qX, qY]), post 3 _ hoA (bad (by rw [hO1]; rfl))⟩))))
    | false =>
      have hO1' := hO1
      unfold outB at hO1'
      cases hO2 : outB py ws.length with
      | true =>
        have hO2' := hO2
        unfold outB at hO2'
        refine .blockW (setH11.ifZ (by kernel_rfl) (by simp only [List.map_cons, List.map_nil]; rfl) (by simp only [qB, qC, qD, qE, qF, qG, qH, qJ, qK, qM, qN, qP, iop1, qR, qS, iop, qT, qV, qW, qX, qY, qZ, zA, Option.getD_some, zB, zC, zD, zE, zF, zG, zH, zJ, zK, zM, zN, Step1.ofO, lenC, callF, zP, zR, zS, zT, zV, cond_true, cond_false, decide_true, decide_false, beq_self_eq_true, Bool.false_eq_true, Bool.true_eq_false, zW, zX, zY, zZ, Bool.not_true, Bool.not_false, appC, copyC, yA, List.map_cons, List.map_nil, goInt, hix, i0, i1, lx, ly, lenB_slice u25, lenB_slice u22, hw1, hw2, e38, enter_k i38, ofK, k38, hO1', hO2']; rfl) (by kernel_rfl) (by simp only [qT, qX, qY, Option.getD_some]; rfl) (fun ht3 => ?_) (fun ht3 => by cases ht3))
        exact setH11.regE 0 (by kernel_rfl) (by simp only [List.map_cons, List.map_nil]; rfl) (by simp only [qB, qC, qD, qE, qF, qG, qH, qJ, qK, qM, qN, qP, iop1, qR, qS, iop, qT, qV, qW, qX, qY, qZ, zA, Option.getD_some, zB, zC, zD, zE, zF, zG, zH, zJ, zK, zM, zN, Step1.ofO, lenC, callF, zP, zR, zS, zT, zV, cond_true, cond_false, decide_true, decide_false, beq_self_eq_true, Bool.false_eq_true, Bool.true_eq_false, zW, zX, zY, zZ, Bool.not_true, Bool.not_false, appC, copyC, yA, List.map_cons, List.map_nil, goInt]; rfl) (.ret (BT.rt (LQ.rt (ST.rt ⟨.inr rfl, .int .i64 3, ires_tmp rfl (by simp only [qX, qY]), post 3 _ hoA (bad (by rw [hO1, hO2]; rfl))⟩))))
      | false =>
        have hO2' := hO2
        unfold outB at hO2'
        refine .blockW (setH11.ifZ (by kernel_rfl) (by simp only [List.map_cons, List.map_nil]; rfl) (by simp only [qB, qC, qD, qE, qF, qG, qH, qJ, qK, qM, qN, qP, iop1, qR, qS, iop, qT, qV, qW, qX, qY, qZ, zA, Option.getD_some, zB, zC, zD, zE, zF, zG, zH, zJ, zK, zM, zN, Step1.ofO, lenC, callF, zP, zR, zS, zT, zV, cond_true, cond_false, decide_true, decide_false, beq_self_eq_true, Bool.false_eq_true, Bool.true_eq_false, zW, zX, zY, zZ, Bool.not_true, Bool.not_false, appC, copyC, yA, List.map_cons, List.map_nil, goInt, hix, i0, i1, lx, ly, lenB_slice u25, lenB_slice u22, hw1, hw2, e38, enter_k i38, ofK, k38, hO1', hO2']; rfl) (by kernel_rfl) (by simp only [qT, qX, qY, Option.getD_some]; rfl) (fun ht3 => by cases ht3) (fun ht3 => .skip (BT.go ?_)))
        refine setH11.regZ 0 (by kernel_rfl) (by simp only [List.map_cons, List.map_nil]; rfl) (by simp only [qB, qC, qD, qE, qF, qG, qH, qJ, qK, qM, qN, qP, iop1, qR, qS, iop, qT, qV, qW, qX, qY, qZ, zA, Option.getD_some, zB, zC, zD, zE, zF, zG, zH, zJ, zK, zM, zN, Step1.ofO, lenC, callF, zP, zR, zS, zT, zV, cond_true, cond_false, decide_true, decide_false, beq_self_eq_true, Bool.false_eq_true, Bool.true_eq_false, zW, zX, zY, zZ, Bool.not_true, Bool.not_false, appC, copyC, yA, List.map_cons, List.map_nil, goInt, wrap_succ hi2 (n := 2) (by omega)]; rfl) (LQ.go (2 - (i + 1)) (by omega) (by repeat (first | exact WkL.nil | refine WkL.same ?_ | refine WkL.any ?_)) ⟨i + 1, by omega, rfl, rfl, rfl, fun j hj => ?_⟩)
        by_cases hji : j < i
        · exact hgood j hji
        · have : j = i := by omega
          rw [this, hpt, hO1, hO2]; rfl
  · have hge : i = 2 := by simp only [decide_eq_false_iff_not] at ht2; omega
    subst hge
    have hg0 := hgood 0 (by omega)
    have hg1 := hgood 1 (by omega)
    simp only [ptAt, if_true, if_neg (show ¬ (1 = 0) by omega), Bool.or_eq_false_iff] at hg0 hg1
    obtain ⟨a', rfl, ha'⟩ := out_nat hg0.1
    obtain ⟨b', rfl, hb'⟩ := out_nat hg0.2
    obtain ⟨c', rfl, hc'⟩ := out_nat hg1.1
    obtain ⟨d', rfl, hd'⟩ := out_nat hg1.2
    clear hgood
    refine ST.go ?_
    refine setH11.regS (by kernel_rfl) (by simp only [List.map_cons, List.map_nil]; rfl) ?_; simp only [qB, qC, qD, qE, qF, qG, qH, qJ, qK, qM, qN, qP, iop1, qR, qS, iop, qT, qV, qW, qX, qY, qZ, zA, Option.getD_some, zB, zC, zD, zE, zF, zG, zH, zJ, zK, zM, zN, Step1.ofO, lenC, callF, zP, zR, zS, zT, zV, cond_true, cond_false, decide_true, decide_false, beq_self_eq_true, Bool.false_eq_true, Bool.true_eq_false, zW, zX, zY, zZ, Bool.not_true, Bool.not_false, appC, copyC, yA, List.map_cons, List.map_nil, goInt, yB, yC, lenB_slice u25, e64c, enter_s (x := (n, .slice aw ws.length cw, ws, rs.length)) (show hat11 64 = some (ofS pre64 post64) from rfl) uniq64 ⟨rfl, hzA, hok, hn12, by show rs.length ≤ 1000; omega, by omega⟩]
    rintro v3 H3 ⟨hold3, rows, hout, hrows⟩
    simp only at hrows
    obtain ⟨ks, hks, hkm⟩ := pic_of hout hrows (by rw [seenN_len]; omega) fun zs hzs => by
      unfold seenN at hzs
      obtain ⟨k, _, rfl⟩ := List.mem_map.1 hzs
      rw [(runW_len _ _).1]; omega
    have hkl : ks.length = rs.length := by have := congrArg List.length hkm; simpa [seenN_len] using this
    have hkz : ∀ zs ∈ ks.map (·.2), zs.length = ws.length := fun zs hzs => by
      rw [hkm] at hzs
      unfold seenN at hzs
      obtain ⟨k, _, rfl⟩ := List.mem_map.1 hzs
      rw [(runW_len _ _).1]
    obtain ⟨ak, ck, rfl, _, _⟩ := picOf_inv hks
    have ho3 := hoA.trans hold3
    have hA3 := (hold3.get H.size (by omega)).trans hAz
    have hs3 := hold3.size
    have hb3 : H3.base ≤ H3.size := by rw [ho3.base]; omega
    have hsz3 : H.size < H3.size := by omega
    clear hAz hAs hoA hold3 hzA hbA
    obtain ⟨HQ, hHQ⟩ : ∃ HQ, HQ = (H3.push (.cells #[.int .i64 0, .int .i64 0] 83)).push (.cells #[.int .i64 0, .int .i64 0] 83) := ⟨_, rfl⟩
    have hoQ : Old H3 HQ := by rw [hHQ]; exact (Old.push H3 _).trans (Old.push _ _)
    have q0 : HQ.get H3.size = some (.cells [.int .i64 0, .int .i64 0].toArray 83 (0, 0)) := by rw [hHQ, get_push_lt (by show H3.size < H3.size + 1; omega)]; exact get_push_eq
    have q1 : HQ.get (H3.size + 1) = some (.cells [.int .i64 0, .int .i64 0].toArray 83 (0, 0)) := by rw [hHQ]; exact get_push_eq
    have qA := (hoQ.get H.size (by omega)).trans hA3
    have l53 : iloadAt Tryz.prog 83 (.pointer (some ⟨H.size, 0, none⟩)) HQ = some (.agg #[.int .i64 (a' : Int), .int .i64 (b' : Int)]) := load_agg (t := 83) (i := 0) (l := [.int .i64 (a' : Int), .int .i64 (b' : Int), .int .i64 (c' : Int), .int .i64 (d' : Int)]) ag83 sz83 qA (by simp)
    have l55 : iloadAt Tryz.prog 83 (.pointer (some ⟨H.size, 2, none⟩)) HQ = some (.agg #[.int .i64 (c' : Int), .int .i64 (d' : Int)]) := load_agg (t := 83) (i := 2) (l := [.int .i64 (a' : Int), .int .i64 (b' : Int), .int .i64 (c' : Int), .int .i64 (d' : Int)]) ag83 sz83 qA (by simp)
    have hbQ : HQ.base ≤ H3.size := by rw [hoQ.base]; exact hb3
    have s14 : istoreAt Tryz.prog 83 (.pointer (some ⟨H3.size, 0, none⟩)) (.agg #[.int .i64 (a' : Int), .int .i64 (b' : Int)]) HQ = some (HQ.put H3.size (.cells #[.int .i64 (a' : Int), .int .i64 (b' : Int)] 83 (0, 0))) :=
      store_agg (vs := [.int .i64 (a' : Int), .int .i64 (b' : Int)]) (i := 0) sz83 rfl q0 (by simp) rfl hbQ
    have q1' : (HQ.put H3.size (.cells #[.int .i64 (a' : Int), .int .i64 (b' : Int)] 83 (0, 0))).get (H3.size + 1) = some (.cells [.int .i64 0, .int .i64 0].toArray 83 (0, 0)) := by rw [get_put_ne (by omega)]; exact q1
    have s15 : istoreAt Tryz.prog 83 (.pointer (some ⟨H3.size + 1, 0, none⟩)) (.agg #[.int .i64 (c' : Int), .int .i64 (d' : Int)]) (HQ.put H3.size (.cells #[.int .i64 (a' : Int), .int .i64 (b' : Int)] 83 (0, 0))) = some ((HQ.put H3.size (.cells #[.int .i64 (a' : Int), .int .i64 (b' : Int)] 83 (0, 0))).put (H3.size + 1) (.cells #[.int .i64 (c' : Int), .int .i64 (d' : Int)] 83 (0, 0))) :=
      store_agg (vs := [.int .i64 (c' : Int), .int .i64 (d' : Int)]) (i := 0) sz83 rfl q1' (by simp) rfl (by show HQ.base ≤ H3.size + 1; omega)
    refine .pre (env1 := [unk, .slice aw ws.length cw, .slice ap rs.length cp, unk, unk, unk, unk, .pointer (some ⟨H.size, 0, none⟩), unk, unk, .slice ak ks.length ck, unk, unk, unk, unk, unk, unk, unk, unk, unk, unk, unk, unk, unk, unk, unk, unk, unk, unk, unk, unk, unk, unk, unk, unk, unk, unk, unk, unk, unk, unk, unk, unk, unk, unk, unk, unk, unk, unk, unk, unk, unk, unk, unk, unk, unk, unk, unk, unk, unk, unk, unk, unk, unk, unk, unk, unk, unk, unk, unk, unk, unk, unk, unk, unk, unk, unk, unk, unk, unk, unk, unk, unk, unk]) (by repeat (first | exact WkL.nil | refine WkL.same ?_ | refine WkL.any ?_)) (.seqW (setH11.drawY (envA := [unk, .slice aw ws.length cw, .slice ap rs.length cp, unk, unk, unk, unk, .pointer (some ⟨H.size, 0, none⟩), unk, unk, .slice ak ks.length ck, .pointer (some ⟨H3.size, 0, none⟩), .pointer (some ⟨H3.size + 1, 0, none⟩), unk, unk, unk, unk, unk, unk, unk, unk, unk, unk, unk, unk, unk, unk, unk, unk, unk, unk, unk, unk, unk, unk, unk, unk, unk, unk, unk, unk, unk, unk, unk, unk, unk, unk, unk, unk, unk, unk, unk, unk, unk, unk, unk, unk, unk, unk, unk, unk, unk, unk, unk, unk, unk, unk, unk, unk, unk, unk, unk, unk, unk, unk, unk, unk, unk, unk, unk, unk, unk, unk, unk]) (HA := HQ) (lo := [(3, 0, 1)]) (by kernel_rfl) (by kernel_rfl) (by kernel_rfl) (by kernel_rfl) (by kernel_rfl) (by kernel_rfl) (by simp only [List.map_cons, List.map_nil]; rfl) (by simp [isAlloc, clsOf]; rfl) (by (rw [hHQ]; kernel_rfl)) (by simp only [qB, qC, qD, qE, qF, qG, qH, qJ, qK, qM, qN, qP, iop1, qR, qS, iop, qT, qV, qW, qX, qY, qZ, zA, Option.getD_some, zB, zC, zD, zE, zF, zG, zH, zJ, zK, zM, zN, Step1.ofO, lenC, callF, zP, zR, zS, zT, zV, cond_true, cond_false, decide_true, decide_false, beq_self_eq_true, Bool.false_eq_true, Bool.true_eq_false, zW, zX, zY, zZ, Bool.not_true, Bool.not_false, appC, copyC, yA, List.map_cons, List.map_nil, goInt, yD, yE, yF, yG, yH, clsOf, Cls.eff, yJ, yK, ix84_0, ix84_1, l53, l55, s14, s15]; rfl) (by kernel_rfl) ⟨fun m E r1 r2 r3 => ?_, trivial⟩ (ST.go ?_)))
    · have hm : m = 0 ∨ m = 1 := by simp at r1 r2; omega
      rcases hm with rfl | rfl
      · cases r3; exact l55
      · cases r3
        have qA2 : (HQ.put H3.size (.cells #[.int .i64 (a' : Int), .int .i64 (b' : Int)] 83 (0, 0))).get H.size = some (.cells [.int .i64 (a' : Int), .int .i64 (b' : Int), .int .i64 (c' : Int), .int .i64 (d' : Int)].toArray 84 (0, 0)) := by rw [get_put_ne (by omega)]; exact qA
        exact load_agg (t := 83) (i := 2) (l := [.int .i64 (a' : Int), .int .i64 (b' : Int), .int .i64 (c' : Int), .int .i64 (d' : Int)]) ag83 sz83 qA2 (by simp)
    have hoR : Old H3 ((HQ.put H3.size (.cells #[.int .i64 (a' : Int), .int .i64 (b' : Int)] 83 (0, 0))).put (H3.size + 1) (.cells #[.int .i64 (c' : Int), .int .i64 (d' : Int)] 83 (0, 0))) := (hoQ.put (Nat.le_refl _)).put (by omega)
    have w0 : ((HQ.put H3.size (.cells #[.int .i64 (a' : Int), .int .i64 (b' : Int)] 83 (0, 0))).put (H3.size + 1) (.cells #[.int .i64 (c' : Int), .int .i64 (d' : Int)] 83 (0, 0))).get H3.size = some (.cells [.int .i64 (a' : Int), .int .i64 (b' : Int)].toArray 83 (0, 0)) := by rw [get_put_ne (by omega)]; exact get_put_eq
    have w1 : ((HQ.put H3.size (.cells #[.int .i64 (a' : Int), .int .i64 (b' : Int)] 83 (0, 0))).put (H3.size + 1) (.cells #[.int .i64 (c' : Int), .int .i64 (d' : Int)] 83 (0, 0))).get (H3.size + 1) = some (.cells [.int .i64 (c' : Int), .int .i64 (d' : Int)].toArray 83 (0, 0)) := get_put_eq
    generalize (HQ.put H3.size (.cells #[.int .i64 (a' : Int), .int .i64 (b' : Int)] 83 (0, 0))).put (H3.size + 1) (.cells #[.int .i64 (c' : Int), .int .i64 (d' : Int)] 83 (0, 0)) = HR at hoR w0 w1
    have m0 := load_cell (t := 3) ag3 (i := 0) w0 rfl
    have m1 := load_cell (t := 3) ag3 (i := 1) w0 rfl
    have m2 := load_cell (t := 3) ag3 (i := 0) w1 rfl
    have m3 := load_cell (t := 3) ag3 (i := 1) w1 rfl
    have hoAR := ho3.trans hoR
    have hpR := picOf_old hoAR hr
    have hkR := picOf_old hoR hks
    obtain ⟨p1, ra1, rn1, rc1, t1, x1, x2, x3, x4⟩ := pic_cell hpR hwz ha' hb'
    obtain ⟨p2, ra2, rn2, rc2, t2, y1, y2, y3, y4⟩ := pic_cell hpR hwz hc' hd'
    obtain ⟨p3, ra3, rn3, rc3, t3, u1, u2, u3, u4⟩ := pic_cell hkR hkz (by rw [hkl]; exact ha') hb'
    obtain ⟨p4, ra4, rn4, rc4, t4, z1, z2, z3, z4⟩ := pic_cell hkR hkz (by rw [hkl]; exact hc') hd'
    rw [hkm] at u4 z4
    have hce : clashErr (seenN ws (rangeI n) rs.length) (rs.map (·.2)) ws.length (a' : Int) (b' : Int) (c' : Int) (d' : Int) = cond (decide (((seenN ws (rangeI n) rs.length).getD a' []).getD b' 0 ≠ ((seenN ws (rangeI n) rs.length).getD c' []).getD d' 0) || decide (((rs.map (·.2)).getD a' []).getD b' 0 = ((rs.map (·.2)).getD c' []).getD d' 0)) 21 0 := by
      unfold clashErr atI
      simp only [List.length_map, hg0.1, hg0.2, hg1.1, hg1.2, Bool.or_self, cond_false, Int.toNat_natCast]
    rw [hce] at post
    generalize ((rs.map (·.2)).getD a' []).getD b' 0 = v1 at *
    generalize ((rs.map (·.2)).getD c' []).getD d' 0 = v2 at *
    generalize ((seenN ws (rangeI n) rs.length).getD a' []).getD b' 0 = v3 at *
    generalize ((seenN ws (rangeI n) rs.length).getD c' []).getD d' 0 = v4 at *
    cases hst : (v3 != v4) with
    | true =>
      have hne : v3 ≠ v4 := by simpa using hst
      refine .seqW (setH11.drawE pureH11 0 (lo := []) (by kernel_rfl) (by kernel_rfl) (by kernel_rfl) (by kernel_rfl) (by kernel_rfl) (by kernel_rfl) (by kernel_rfl) (by simp only [List.map_cons, List.map_nil]; rfl) (by simp only [qB, qC, qD, qE, qF, qG, qH, qJ, qK, qM, qN, qP, iop1, qR, qS, iop, qT, qV, qW, qX, qY, qZ, zA, Option.getD_some, zB, zC, zD, zE, zF, zG, zH, zJ, zK, zM, zN, Step1.ofO, lenC, callF, zP, zR, zS, zT, zV, cond_true, cond_false, decide_true, decide_false, beq_self_eq_true, Bool.false_eq_true, Bool.true_eq_false, zW, zX, zY, zZ, Bool.not_true, Bool.not_false, appC, copyC, yA, List.map_cons, List.map_nil, goInt, ix83_00, ix83_01, m0, m1, m2, m3, u1, u2, u3, u4, z1, z2, z3, z4, hst]; rfl) (by kernel_rfl) (.cond (by kernel_rfl) (by simp only [qT, qX, qY, Option.getD_some]; rfl) (fun _ => ?_) (fun ht => by cases ht)))
      exact setH11.regE 0 (by kernel_rfl) (by simp only [List.map_cons, List.map_nil]; rfl) (by simp only [qB, qC, qD, qE, qF, qG, qH, qJ, qK, qM, qN, qP, iop1, qR, qS, iop, qT, qV, qW, qX, qY, qZ, zA, Option.getD_some, zB, zC, zD, zE, zF, zG, zH, zJ, zK, zM, zN, Step1.ofO, lenC, callF, zP, zR, zS, zT, zV, cond_true, cond_false, decide_true, decide_false, beq_self_eq_true, Bool.false_eq_true, Bool.true_eq_false, zW, zX, zY, zZ, Bool.not_true, Bool.not_false, appC, copyC, yA, List.map_cons, List.map_nil, goInt]; rfl) (.ret (ST.rt ⟨.inr rfl, .int .i64 21, ires_tmp rfl (by simp only [qX, qY]), post 21 _ hoAR (by rw [decide_eq_true hne]; rfl)⟩))
    | false =>
      have heq : v3 = v4 := by simpa using hst
      cases hcl : (v1 == v2) with
      | true =>
        have hcc : v1 = v2 := by simpa using hcl
        refine .seqW (setH11.drawE pureH11 0 (lo := []) (by kernel_rfl) (by kernel_rfl) (by kernel_rfl) (by kernel_rfl) (by kernel_rfl) (by kernel_rfl) (by kernel_rfl) (by simp only [List.map_cons, List.map_nil]; rfl) (by simp only [qB, qC, qD, qE, qF, qG, qH, qJ, qK, qM, qN, qP, iop1, qR, qS, iop, qT, qV, qW, qX, qY, qZ, zA, Option.getD_some, zB, zC, zD, zE, zF, zG, zH, zJ, zK, zM, zN, Step1.ofO, lenC, callF, zP, zR, zS, zT, zV, cond_true, cond_false, decide_true, decide_false, beq_self_eq_true, Bool.false_eq_true, Bool.true_eq_false, zW, zX, zY, zZ, Bool.not_true, Bool.not_false, appC, copyC, yA, List.map_cons, List.map_nil, goInt, ix83_00, ix83_01, m0, m1, m2, m3, x1, x2, x3, x4, y1, y2, y3, y4, u1, u2, u3, u4, z1, z2, z3, z4, hst, hcl]; rfl) (by kernel_rfl) (.cond (by kernel_rfl) (by simp only [qT, qX, qY, Option.getD_some]; rfl) (fun _ => ?_) (fun ht => by cases ht)))
        exact setH11.regE 0 (by kernel_rfl) (by simp only [List.map_cons, List.map_nil]; rfl) (by simp only [qB, qC, qD, qE, qF, qG, qH, qJ, qK, qM, qN, qP, iop1, qR, qS, iop, qT, qV, qW, qX, qY, qZ, zA, Option.getD_some, zB, zC, zD, zE, zF, zG, zH, zJ, zK, zM, zN, Step1.ofO, lenC, callF, zP, zR, zS, zT, zV, cond_true, cond_false, decide_true, decide_false, beq_self_eq_true, Bool.false_eq_true, Bool.true_eq_false, zW, zX, zY, zZ, Bool.not_true, Bool.not_false, appC, copyC, yA, List.map_cons, List.map_nil, goInt]; rfl) (.ret (ST.rt ⟨.inr rfl, .int .i64 21, ires_tmp rfl (by simp only [qX, qY]), post 21 _ hoAR (by rw [decide_eq_true hcc, Bool.or_true]; rfl)⟩))
      | false =>
        have hcc : v1 ≠ v2 := by simpa using hcl
        refine .seqW (setH11.drawE pureH11 0 (lo := []) (by kernel_rfl) (by kernel_rfl) (by kernel_rfl) (by kernel_rfl) (by kernel_rfl) (by kernel_rfl) (by kernel_rfl) (by simp only [List.map_cons, List.map_nil]; rfl) (by simp only [qB, qC, qD, qE, qF, qG, qH, qJ, qK, qM, qN, qP, iop1, qR, qS, iop, qT, qV, qW, qX, qY, qZ, zA, Option.getD_some, zB, zC, zD, zE, zF, zG, zH, zJ, zK, zM, zN, Step1.ofO, lenC, callF, zP, zR, zS, zT, zV, cond_true, cond_false, decide_true, decide_false, beq_self_eq_true, Bool.false_eq_true, Bool.true_eq_false, zW, zX, zY, zZ, Bool.not_true, Bool.not_false, appC, copyC, yA, List.map_cons, List.map_nil, goInt, ix83_00, ix83_01, m0, m1, m2, m3, x1, x2, x3, x4, y1, y2, y3, y4, u1, u2, u3, u4, z1, z2, z3, z4, hst, hcl]; rfl) (by kernel_rfl) (.cond (by kernel_rfl) (by simp only [qT, qX, qY, Option.getD_some]; rfl) (fun ht => by cases ht) (fun _ => .skip (ST.go ?_))))
        exact setH11.regE 0 (by kernel_rfl) (by simp only [List.map_cons, List.map_nil]; rfl) (by simp only [qB, qC, qD, qE, qF, qG, qH, qJ, qK, qM, qN, qP, iop1, qR, qS, iop, qT, qV, qW, qX, qY, qZ, zA, Option.getD_some, zB, zC, zD, zE, zF, zG, zH, zJ, zK, zM, zN, Step1.ofO, lenC, callF, zP, zR, zS, zT, zV, cond_true, cond_false, decide_true, decide_false, beq_self_eq_true, Bool.false_eq_true, Bool.true_eq_false, zW, zX, zY, zZ, Bool.not_true, Bool.not_false, appC, copyC, yA, List.map_cons, List.map_nil, goInt]; rfl) (.ret ⟨.inr rfl, .int .i64 0, ires_tmp rfl (by simp only [qX, qY]), post 0 _ hoAR (by rw [decide_eq_false hcc, decide_eq_false (show ¬ v3 ≠ v4 from fun h => h heq)]; rfl)⟩)
theorem e71 : enters Tryz.prog 71 = true := by kernel_rfl
end Go.Proofs.YtpdlblofcdcikaaGreatDoor
