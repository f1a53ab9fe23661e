/- Contract of Clash. Conditions: none. -/
import Derived.Test.YtpdlblofcdcikaaGreatDoorL4
import Derived.Test.YtpdlblofcdcikaaGreatDoorIdlK
set_option linter.unusedSimpArgs false
set_option linter.unusedVariables false
namespace Go.Proofs.YtpdlblofcdcikaaGreatDoor
open Go.Idl

theorem k23_old {H H' : IH} (ho : Old H H') {args : List Value} {v : Value} (h : k23 args H = some v) : k23 args H' = some v := by
  unfold k23 at h ⊢
  split at h
  · split at h
    · rename_i h1; simp only [if_pos h1]; exact h
    · rename_i h1
      simp only [if_neg h1]
      split at h
      · rename_i h2; simp only [if_pos h2]; exact h
      · rename_i h2
        simp only [if_neg h2]
        obtain ⟨rs, hr, he⟩ := Option.map_eq_some_iff.1 h
        rw [picOf_old ho hr, Option.map_some, he]
  · exact h
theorem k28_old {H H' : IH} (ho : Old H H') {args : List Value} {v : Value} (h : k28 args H = some v) : k28 args H' = some v := by
  unfold k28 at h ⊢
  split at h
  · split at h
    · rename_i ws hz
      simp only [intsOf_old ho hz]
      split at h
      · rename_i h1; rw [if_pos h1]; exact h
      · rename_i h1
        rw [if_neg h1]
        split at h
        · rename_i pe hk
          simp only [k23_old ho hk]
          split at h
          · rename_i h2; rw [if_pos h2]; exact h
          · rename_i h2
            rw [if_neg h2]
            obtain ⟨rs, hr, he⟩ := Option.map_eq_some_iff.1 h
            rw [picOf_old ho hr, Option.map_some, he]
        · cases h
    · cases h
  · exact h
theorem k91_old {H H' : IH} (ho : Old H H') {args : List Value} {v : Value} (h : k91 args H = some v) : k91 args H' = some v := by
  unfold k91 at h ⊢
  split at h
  · split at h
    · rename_i pe hk
      simp only [k23_old ho hk]
      exact k28_old ho h
    · cases h
  · exact h
theorem k28_zero {n : Int} {wv pv : Value} {H : IH} {e : Int} (h : k28 [.int .i64 n, wv, pv] H = some (.int .i64 e)) : ∃ a m c ws, pv = .slice a m c ∧ intsOf H wv = some ws ∧
    (e = 0 → chkScheme n ws = 0 ∧ ∃ rs, picOf H pv = some rs ∧ Valid (rs.map (·.2)) ∧ ((rs.map (·.2)).headD []).length = ws.length) := by
  obtain ⟨n', w', a, m, c, ws, h1, hz, hcase⟩ := k28_inv h
  simp only [List.cons.injEq, Value.int.injEq, and_true, true_and] at h1
  obtain ⟨rfl, rfl, rfl⟩ := h1
  refine ⟨a, m, c, ws, rfl, hz, fun he => ?_⟩
  subst he
  rcases hcase with ⟨hs, hv⟩ | ⟨hs, pe, hk23, ⟨hp, hv⟩ | ⟨rfl, r0, rs, hr, hv⟩⟩
  · exact absurd (by simpa using hv) (Ne.symm hs)
  · exact absurd (by simpa using hv) (Ne.symm hp)
  · obtain ⟨_, hV, _⟩ := valid_of hk23 hr
    refine ⟨hs, r0 :: rs, hr, hV, ?_⟩
    by_cases hl : r0.2.length = ws.length
    · exact hl
    · rw [if_neg hl] at hv; cases hv
theorem k91_zero {n : Int} {wv pv : Value} {H : IH} {e : Int} (h : k91 [.int .i64 n, wv, pv] H = some (.int .i64 e)) : ∃ a m c ws, pv = .slice a m c ∧ intsOf H wv = some ws ∧
    (e = 0 → chkScheme n ws = 0 ∧ ∃ rs, picOf H pv = some rs ∧ Valid (rs.map (·.2)) ∧ ((rs.map (·.2)).headD []).length = ws.length) := by
  unfold k91 at h
  split at h
  · rename_i args n' w' a m c heq
    simp only [List.cons.injEq, Value.int.injEq, and_true, true_and] at heq
    obtain ⟨rfl, rfl, rfl⟩ := heq
    split at h
    · exact k28_zero h
    · cases h
  · cases h
/-! 68: Clash -/
def pre68 (x : (Int × Value × Value) × Int) (args : List Value) (H : IH) : Prop := args = [.int .i64 x.1.1, x.1.2.1, x.1.2.2] ∧ k91 args H = some (.int .i64 x.2) ∧ H.base ≤ H.size
def post68 (x : (Int × Value × Value) × Int) (H : IH) (v : Value) (H' : IH) : Prop := Old H H' ∧ ∃ a b c d code, v = .tuple #[.agg #[.int .i64 a, .int .i64 b, .int .i64 c, .int .i64 d], .int .i64 code] ∧
  (x.2 ≠ 0 → (.agg #[.int .i64 a, .int .i64 b, .int .i64 c, .int .i64 d] : Value) = zero84 ∧ code = x.2) ∧
  (x.2 = 0 → ∀ ws rs, intsOf H x.1.2.1 = some ws → picOf H x.1.2.2 = some rs → ∃ is, code = cond is 0 7 ∧ ClashM (seenN ws (rangeI x.1.1.toNat) rs.length) (rs.map (·.2)) ws.length rs.length (.agg #[.int .i64 a, .int .i64 b, .int .i64 c, .int .i64 d]) is)
theorem uniq68 (x y : (Int × Value × Value) × Int) (args : List Value) (H : IH) (hx : pre68 x args H) (hy : pre68 y args H) : x = y := by
  obtain ⟨⟨n, w, p⟩, e⟩ := x
  obtain ⟨⟨n', w', p'⟩, e'⟩ := y
  have h1 := hx.1.symm.trans hy.1
  simp at h1
  obtain ⟨rfl, rfl, rfl⟩ := h1
  have h2 := hx.2.1.symm.trans hy.2.1
  simp at h2
  rw [h2]
noncomputable def hat8 : Nats := addS hat7 68 pre68 post68
theorem g89 : hat7 89 = some (ofK k89) := rfl
theorem g91 : hat7 91 = some (ofK k91) := rfl
theorem e94 : enters Tryz.prog 94 = true := by kernel_rfl
theorem resCT {fn : Func} {s u : Tmp} {ts : TypeId} {env : Env} {H : IH} {a b : Value} (hr : fn.results = #[.cell s ts, .tmp u]) (h1 : iloadAt Tryz.prog ts ((nthR env s).getD undef) H = some a) (h2 : nthR env u = some b) :
    iresults Tryz.prog fn env H = some (.tuple #[a, b]) := by
  unfold iresults
  rw [hr]
  simp [iresL, ires1, h1, h2, one]
theorem ex24 {a : Array Value} {b c : Value} {H : IH} : iextract (.tuple #[.agg a, b, c]) 0 H = some (.val (.agg a) H) := rfl
theorem ex25 {a c : Value} {b : Option Nat} {H : IH} : iextract (.tuple #[a, .map b, c]) 1 H = some (.val (.map b) H) := rfl
theorem ex26 {a b : Value} {c : Bool} {H : IH} : iextract (.tuple #[a, b, .bool c]) 2 H = some (.val (.bool c) H) := rfl
set_option maxRecDepth 20000 in
theorem setH8 : Setup Tryz.prog good hat8 (globG 3) := setH7.addS pre68 post68 fun x args H ⟨ha, hk, hb⟩ => by
  obtain ⟨⟨n, wv, pv⟩, e⟩ := x
  simp only at ha hk
  subst ha
  obtain ⟨ap, mp, cp, ws, rfl, hz, h0⟩ := k91_zero hk
  obtain ⟨aw, cw, rfl, hwl, _⟩ := intsOf_inv hz
  refine CallI.of Tryz.func68 rfl (N := 33) rfl ?_
  show Holds _ _ false _ [.int .i64 n, .slice aw ws.length cw, .slice ap mp cp, undef, undef, undef, undef, undef, undef, undef, undef, undef, undef, undef, undef, undef, undef, undef, undef, undef, undef, undef, undef, undef, undef, undef, undef, undef, undef, undef, undef, undef, undef] H _
  refine setH7.regE 0 (by kernel_rfl) (by simp only [List.map_cons, List.map_nil]; rfl) (by simp only [qB, qC, qD, qE, qF, qG, qH, qJ, qK, qM, qN, qP, iop1, qR, qS, iop, qT, qV, qW, qX, qY, qZ, zA, Option.getD_some, zB, zC, zD, zE, zF, zG, zH, zJ, zK, zM, zN, Step1.ofO, lenC, callF, zP, zR, zS, zT, zV, cond_true, cond_false, decide_true, decide_false, beq_self_eq_true, Bool.false_eq_true, Bool.true_eq_false, zW, zX, zY, zZ, Bool.not_true, Bool.not_false, appC, copyC, yA, List.map_cons, List.map_nil, goInt, al84]; rfl) ?_
  have hoA := Old.push H (.cells #[.int .i64 0, .int .i64 0, .int .i64 0, .int .i64 0] 84)
  have hAz : (H.push (.cells #[.int .i64 0, .int .i64 0, .int .i64 0, .int .i64 0] 84)).get H.size = some (.cells [.int .i64 0, .int .i64 0, .int .i64 0, .int .i64 0].toArray 84 (0, 0)) := get_push_eq
  have hAs : (H.push (.cells #[.int .i64 0, .int .i64 0, .int .i64 0, .int .i64 0] 84)).size = H.size + 1 := rfl
  generalize H.push (.cells #[.int .i64 0, .int .i64 0, .int .i64 0, .int .i64 0] 84) = HA at hoA hAz hAs
  have hkA := k91_old hoA hk
  have hbA : HA.base ≤ H.size := by rw [hoA.base]; exact hb
  refine .seqW (setH7.regE 0 (by kernel_rfl) (by simp only [List.map_cons, List.map_nil]; rfl) (by simp only [qB, qC, qD, qE, qF, qG, qH, qJ, qK, qM, qN, qP, iop1, qR, qS, iop, qT, qV, qW, qX, qY, qZ, zA, Option.getD_some, zB, zC, zD, zE, zF, zG, zH, zJ, zK, zM, zN, Step1.ofO, lenC, callF, zP, zR, zS, zT, zV, cond_true, cond_false, decide_true, decide_false, beq_self_eq_true, Bool.false_eq_true, Bool.true_eq_false, zW, zX, zY, zZ, Bool.not_true, Bool.not_false, appC, copyC, yA, List.map_cons, List.map_nil, goInt, e91, enter_k g91, ofK, hkA]; rfl) (setH7.ifZ (by kernel_rfl) (by simp only [List.map_cons, List.map_nil]; rfl) (by simp only [qB, qC, qD, qE, qF, qG, qH, qJ, qK, qM, qN, qP, iop1, qR, qS, iop, qT, qV, qW, qX, qY, qZ, zA, Option.getD_some, zB, zC, zD, zE, zF, zG, zH, zJ, zK, zM, zN, Step1.ofO, lenC, callF, zP, zR, zS, zT, zV, cond_true, cond_false, decide_true, decide_false, beq_self_eq_true, Bool.false_eq_true, Bool.true_eq_false, zW, zX, zY, zZ, Bool.not_true, Bool.not_false, appC, copyC, yA, List.map_cons, List.map_nil, goInt]; rfl) (by kernel_rfl) (by simp only [qT, qX, qY, Option.getD_some]; rfl) (fun ht => ?_) (fun ht => .skip (ST.go ?_))))
  · have he : e ≠ 0 := by simpa using ht
    have s1 : istoreAt Tryz.prog 84 (.pointer (some ⟨H.size, 0, none⟩)) (.agg #[.int .i64 0, .int .i64 0, .int .i64 0, .int .i64 0]) HA = some (HA.put H.size (.cells #[.int .i64 0, .int .i64 0, .int .i64 0, .int .i64 0] 84 (0, 0))) :=
      store_agg (vs := [.int .i64 0, .int .i64 0, .int .i64 0, .int .i64 0]) (i := 0) sz84 rfl hAz (by simp) rfl hbA
    refine setH7.regE 0 (by kernel_rfl) (by simp only [List.map_cons, List.map_nil]; rfl) (by simp only [qB, qC, qD, qE, qF, qG, qH, qJ, qK, qM, qN, qP, iop1, qR, qS, iop, qT, qV, qW, qX, qY, qZ, zA, Option.getD_some, zB, zC, zD, zE, zF, zG, zH, zJ, zK, zM, zN, Step1.ofO, lenC, callF, zP, zR, zS, zT, zV, cond_true, cond_false, decide_true, decide_false, beq_self_eq_true, Bool.false_eq_true, Bool.true_eq_false, zW, zX, zY, zZ, Bool.not_true, Bool.not_false, appC, copyC, yA, List.map_cons, List.map_nil, goInt, bd84z, s1]; rfl) (.ret (ST.rt ⟨.inr rfl, .tuple #[zero84, .int .i64 e], resCT rfl ?_ rfl, hoA.put (Nat.le_refl _), 0, 0, 0, 0, e, rfl, fun _ => ⟨rfl, rfl⟩, fun h => absurd h he⟩))
    exact load_agg (t := 84) (i := 0) (l := [.int .i64 0, .int .i64 0, .int .i64 0, .int .i64 0]) ag84 sz84 get_put_eq (by simp)
  · have he : e = 0 := by simpa using ht
    obtain ⟨hs0, rs, hr, hV, hl0⟩ := h0 he
    obtain ⟨n, rfl, hn2, hn12, hok⟩ := chk_ok hs0
    obtain ⟨ap', cp', hsl, _, _⟩ := picOf_inv hr
    simp only [Value.slice.injEq] at hsl
    obtain ⟨rfl, rfl, rfl⟩ := hsl
    have hzA := intsOf_old hoA hz
    have hrA := picOf_old hoA hr
    refine setH7.regS (by kernel_rfl) (by simp only [List.map_cons, List.map_nil]; rfl) ?_; simp only [qB, qC, qD, qE, qF, qG, qH, qJ, qK, qM, qN, qP, iop1, qR, qS, iop, qT, qV, qW, qX, qY, qZ, zA, Option.getD_some, zB, zC, zD, zE, zF, zG, zH, zJ, zK, zM, zN, Step1.ofO, lenC, callF, zP, zR, zS, zT, zV, cond_true, cond_false, decide_true, decide_false, beq_self_eq_true, Bool.false_eq_true, Bool.true_eq_false, zW, zX, zY, zZ, Bool.not_true, Bool.not_false, appC, copyC, yA, List.map_cons, List.map_nil, goInt, yB, yC, e92, enter_s (x := (n, .slice aw ws.length cw, ws)) (show hat7 92 = some (ofS pre92 post92) from rfl) uniq92 ⟨rfl, hzA, hok, by omega, hn12, by omega⟩]
    rintro v2 H2 ⟨hold2, sv, fv, rfl, hsv, hfv⟩
    have hsl := (runW_len ws (rangeI n)).1
    have hs2 := hold2.size
    have hin : SchemeIn H2 sv fv (runW ws (rangeI n)).1 (fromL n ws) := ⟨hsv.row.ints (by show (runW ws (rangeI n)).1.length ≤ 1000; omega), hfv.ints (by rw [fromL_len]; omega), by rw [fromL_len]; exact fromL_in hok, by rw [fromL_len]; exact inR_run1 _ _ hok (rangeI_len n) (inR_range n), by rw [fromL_len]; exact hn12, by rw [hold2.base]; omega⟩
    have hr2 := picOf_old hold2 hrA
    simp only [qB, qC, qD, qE, qF, qG, qH, qJ, qK, qM, qN, qP, iop1, qR, qS, iop, qT, qV, qW, qX, qY, qZ, zA, Option.getD_some, zB, zC, zD, zE, zF, zG, zH, zJ, zK, zM, zN, Step1.ofO, lenC, callF, zP, zR, zS, zT, zV, cond_true, cond_false, decide_true, decide_false, beq_self_eq_true, Bool.false_eq_true, Bool.true_eq_false, zW, zX, zY, zZ, Bool.not_true, Bool.not_false, appC, copyC, yA, List.map_cons, List.map_nil, goInt, yB, yC, e94, enter_s (x := (((sv, fv), ((runW ws (rangeI n)).1, fromL n ws)), .slice ap rs.length cp, rs.map (·.2))) (show hat7 94 = some (ofS pre94 post94) from rfl) uniq94 ⟨rfl, hin, ⟨rs, hr2, rfl⟩, hV.rows, fun zs hzs => by show zs.length = _; rw [hV.len zs hzs, hl0, hsl], by show 0 < _; rw [hsl, ← hl0]; exact hV.pos⟩]
    rintro v3 H3 ⟨hold3, cv, bm, is, rfl, hcl⟩
    have hcm := hcl.toM
    simp only [List.length_map, hsl] at hcm
    rw [rowsK_seen hok] at hcm
    obtain ⟨a, b, c, d, rfl⟩ := hcm.agg
    have hs3 := hold3.size
    have hb3 : H3.base ≤ H.size := by rw [hold3.base, hold2.base]; exact hbA
    have hst : istoreAt Tryz.prog 84 (.pointer (some ⟨H3.size, 0, none⟩)) (.agg #[.int .i64 a, .int .i64 b, .int .i64 c, .int .i64 d]) (H3.push (.cells #[.int .i64 0, .int .i64 0, .int .i64 0, .int .i64 0] 84)) = some ((H3.push (.cells #[.int .i64 0, .int .i64 0, .int .i64 0, .int .i64 0] 84)).put H3.size (.cells #[.int .i64 a, .int .i64 b, .int .i64 c, .int .i64 d] 84 (0, 0))) :=
      store_agg (vs := [.int .i64 a, .int .i64 b, .int .i64 c, .int .i64 d]) (i := 0) sz84 rfl get_push_eq (by simp) rfl (by show H3.base ≤ H3.size; omega)
    simp only [qB, qC, qD, qE, qF, qG, qH, qJ, qK, qM, qN, qP, iop1, qR, qS, iop, qT, qV, qW, qX, qY, qZ, zA, Option.getD_some, zB, zC, zD, zE, zF, zG, zH, zJ, zK, zM, zN, Step1.ofO, lenC, callF, zP, zR, zS, zT, zV, cond_true, cond_false, decide_true, decide_false, beq_self_eq_true, Bool.false_eq_true, Bool.true_eq_false, zW, zX, zY, zZ, Bool.not_true, Bool.not_false, appC, copyC, yA, List.map_cons, List.map_nil, goInt, yB, yC, ex24, ex25, ex26, al84, hst]
    have hold4 : Old H3 ((H3.push (.cells #[.int .i64 0, .int .i64 0, .int .i64 0, .int .i64 0] 84)).put H3.size (.cells #[.int .i64 a, .int .i64 b, .int .i64 c, .int .i64 d] 84 (0, 0))) := (Old.push H3 _).put (Nat.le_refl _)
    have hg4 : ((H3.push (.cells #[.int .i64 0, .int .i64 0, .int .i64 0, .int .i64 0] 84)).put H3.size (.cells #[.int .i64 a, .int .i64 b, .int .i64 c, .int .i64 d] 84 (0, 0))).get H3.size = some (.cells [.int .i64 a, .int .i64 b, .int .i64 c, .int .i64 d].toArray 84 (0, 0)) := get_put_eq
    generalize (H3.push (.cells #[.int .i64 0, .int .i64 0, .int .i64 0, .int .i64 0] 84)).put H3.size (.cells #[.int .i64 a, .int .i64 b, .int .i64 c, .int .i64 d] 84 (0, 0)) = H4 at hold4 hg4
    have hoA4 := (hold2.trans hold3).trans hold4
    have hg6 := (hoA4.get H.size (by omega)).trans hAz
    have l4 : iloadAt Tryz.prog 84 (.pointer (some ⟨H3.size, 0, none⟩)) H4 = some (.agg #[.int .i64 a, .int .i64 b, .int .i64 c, .int .i64 d]) := load_agg (t := 84) (i := 0) (l := [.int .i64 a, .int .i64 b, .int .i64 c, .int .i64 d]) ag84 sz84 hg4 (by simp)
    have s6 : istoreAt Tryz.prog 84 (.pointer (some ⟨H.size, 0, none⟩)) (.agg #[.int .i64 a, .int .i64 b, .int .i64 c, .int .i64 d]) H4 = some (H4.put H.size (.cells #[.int .i64 a, .int .i64 b, .int .i64 c, .int .i64 d] 84 (0, 0))) :=
      store_agg (vs := [.int .i64 a, .int .i64 b, .int .i64 c, .int .i64 d]) (i := 0) sz84 rfl hg6 (by simp) rfl (by rw [hold4.base]; omega)
    refine .seqW (setH7.drawYN (lo := [(0, 0, 1)]) (by kernel_rfl) (by kernel_rfl) (by kernel_rfl) (by kernel_rfl) (by kernel_rfl) (by kernel_rfl) (by simp only [List.map_cons, List.map_nil]; rfl) (by simp only [qB, qC, qD, qE, qF, qG, qH, qJ, qK, qM, qN, qP, iop1, qR, qS, iop, qT, qV, qW, qX, qY, qZ, zA, Option.getD_some, zB, zC, zD, zE, zF, zG, zH, zJ, zK, zM, zN, Step1.ofO, lenC, callF, zP, zR, zS, zT, zV, cond_true, cond_false, decide_true, decide_false, beq_self_eq_true, Bool.false_eq_true, Bool.true_eq_false, zW, zX, zY, zZ, Bool.not_true, Bool.not_false, appC, copyC, yA, List.map_cons, List.map_nil, goInt, yD, yE, yF, yG, yH, clsOf, Cls.eff, yJ, yK, l4, e89, enter_k g89, ofK, k89, s6]; rfl) (by kernel_rfl) ⟨fun m E r1 r2 r3 => ?_, trivial⟩ (ST.go (.ret ⟨.inr rfl, .tuple #[.agg #[.int .i64 a, .int .i64 b, .int .i64 c, .int .i64 d], .int .i64 (cond (!is) 7 0)], resCT rfl ?_ rfl, (hoA.trans hoA4).put (Nat.le_refl _), a, b, c, d, _, rfl, fun h => absurd he h, fun _ ws' rs' hw' hr' => ?_⟩)))
    · have hm : m = 0 ∨ m = 1 := by simp at r1 r2; omega
      rcases hm with rfl | rfl
      · cases r3; exact l4
      · cases r3; exact l4
    · exact load_agg (t := 84) (i := 0) (l := [.int .i64 a, .int .i64 b, .int .i64 c, .int .i64 d]) ag84 sz84 get_put_eq (by simp)
    · rw [hz] at hw'; rw [hr] at hr'
      cases hw'
      cases hr'
      refine ⟨is, by cases is <;> rfl, ?_⟩
      simpa using hcm
end Go.Proofs.YtpdlblofcdcikaaGreatDoor
