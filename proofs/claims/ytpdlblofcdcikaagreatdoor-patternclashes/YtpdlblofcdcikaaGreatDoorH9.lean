/- Contract of CheckClash. Conditions: none. -/
import Derived.Test.YtpdlblofcdcikaaGreatDoorE1
set_option linter.unusedSimpArgs false
set_option linter.unusedVariables false
namespace Go.Proofs.YtpdlblofcdcikaaGreatDoor
open Go.Idl

def outB (z : Int) (m : Nat) : Bool := decide (z < 0) || decide ((m : Int) - 1 < z)
def atI (m : List (List Int)) (a b : Int) : Int := (m.getD a.toNat []).getD b.toNat 0
/-- what a pair of cells is worth as a clash -/
def clashErr (sk zss : List (List Int)) (w : Nat) (a b c d : Int) : Int :=
  cond ((outB a zss.length || outB b w) || (outB c zss.length || outB d w)) 3 (cond (decide (atI sk a b ≠ atI sk c d) || decide (atI zss a b = atI zss c d)) 21 0)
def ptAt (a b c d : Int) (i : Nat) : Int × Int := if i = 0 then (a, b) else (c, d)
theorem ix84i {a b c d : Int} {i : Nat} (h : i < 2) : iindex Tryz.prog 84 (.agg #[.int .i64 a, .int .i64 b, .int .i64 c, .int .i64 d]) (.int .i64 (i : Nat)) = some (.agg #[.int .i64 (ptAt a b c d i).1, .int .i64 (ptAt a b c d i).2]) := by
  have : i = 0 ∨ i = 1 := by omega
  have h0 : iindex Tryz.prog 84 (.agg #[.int .i64 a, .int .i64 b, .int .i64 c, .int .i64 d]) (.int .i64 0) = some (.agg #[.int .i64 a, .int .i64 b]) := by kernel_rfl
  have h1 : iindex Tryz.prog 84 (.agg #[.int .i64 a, .int .i64 b, .int .i64 c, .int .i64 d]) (.int .i64 1) = some (.agg #[.int .i64 c, .int .i64 d]) := by kernel_rfl
  rcases this with rfl | rfl
  · exact h0
  · exact h1
theorem ixop {o : Oper} {t : TypeId} {cs : Array Value} {ix : Value} {env : Env} {H : IH} : iindexOp Tryz.prog o t (.agg cs) ix env H = Step1.ofO H (iindex Tryz.prog t (.agg cs) ix) := rfl
theorem ix84_0 (b : Nat) : iindexAt Tryz.prog 84 (.pointer (some ⟨b, 0, none⟩)) (.int .i64 0) = some (.pointer (some ⟨b, 0, none⟩)) := by kernel_rfl
theorem ix84_1 (b : Nat) : iindexAt Tryz.prog 84 (.pointer (some ⟨b, 0, none⟩)) (.int .i64 1) = some (.pointer (some ⟨b, 2, none⟩)) := by kernel_rfl
theorem ib84 (vs : Array Value) (H : IH) : ibox 84 (.agg vs) H = some (.val (.pointer (some ⟨H.size, 0, none⟩)) (H.push (.cells vs 84))) := rfl
theorem pic_cell {h : IH} {a : Option Addr} {n c : Nat} {rs : List (Value × List Int)} (hp : picOf h (.slice a n c) = some rs) {w : Nat} (hw : ∀ zs ∈ rs.map (·.2), zs.length = w) {i j : Nat} (hi : i < rs.length) (hj : j < w) :
    ∃ p ra rn rc s, iindexAt Tryz.prog 25 (.slice a n c) (.int .i64 (i : Nat)) = some p ∧ iloadAt Tryz.prog 22 p h = some (.slice ra rn rc) ∧ iindexAt Tryz.prog 22 (.slice ra rn rc) (.int .i64 (j : Nat)) = some s ∧ iloadAt Tryz.prog 3 s h = some (.int .i64 (((rs.map (·.2)).getD i []).getD j 0)) := by
  have hx : rs[i]? = some rs[i] := List.getElem?_eq_getElem hi
  have hl : rs[i].2.length = w := hw _ (List.mem_map.2 ⟨_, List.getElem_mem hi, rfl⟩)
  obtain ⟨p, h1, h2, h3⟩ := read_row el25 hp hx (k := .i64)
  obtain ⟨ra, rc, h4, _, _⟩ := intsOf_inv h3
  rw [h4] at h2 h3
  have hy : rs[i].2[j]? = some (rs[i].2[j]'(by omega)) := List.getElem?_eq_getElem (by omega)
  obtain ⟨s, h5, h6⟩ := read_int el22 h3 hy (k := .i64)
  refine ⟨p, ra, _, rc, s, h1, h2, h5, ?_⟩
  rw [h6]
  simp [List.getD, hx, hy]
/-! 69: CheckClash -/
def pre69 (x : ((Int × Value × Value) × Int) × (Int × Int × Int × Int)) (args : List Value) (H : IH) : Prop := args = [.int .i64 x.1.1.1, x.1.1.2.1, x.1.1.2.2, .agg #[.int .i64 x.2.1, .int .i64 x.2.2.1, .int .i64 x.2.2.2.1, .int .i64 x.2.2.2.2]] ∧ k91 [.int .i64 x.1.1.1, x.1.1.2.1, x.1.1.2.2] H = some (.int .i64 x.1.2) ∧ H.base ≤ H.size
def post69 (x : ((Int × Value × Value) × Int) × (Int × Int × Int × Int)) (H : IH) (v : Value) (H' : IH) : Prop := Old H H' ∧ ∃ code : Int, v = .int .i64 code ∧
  (x.1.2 ≠ 0 → code = x.1.2) ∧
  (x.1.2 = 0 → ∀ ws rs, intsOf H x.1.1.2.1 = some ws → picOf H x.1.1.2.2 = some rs → code = clashErr (seenN ws (rangeI x.1.1.1.toNat) rs.length) (rs.map (·.2)) ws.length x.2.1 x.2.2.1 x.2.2.2.1 x.2.2.2.2)
theorem uniq69 (x y : ((Int × Value × Value) × Int) × (Int × Int × Int × Int)) (args : List Value) (H : IH) (hx : pre69 x args H) (hy : pre69 y args H) : x = y := by
  obtain ⟨⟨⟨n, w, p⟩, e⟩, a, b, c, d⟩ := x
  obtain ⟨⟨⟨n', w', p'⟩, e'⟩, a', b', c', d'⟩ := y
  have h1 := hx.1.symm.trans hy.1
  simp at h1
  obtain ⟨rfl, rfl, rfl, rfl, rfl, rfl, rfl⟩ := h1
  have h2 := hx.2.1.symm.trans hy.2.1
  simp at h2
  rw [h2]
noncomputable def hat9 : Nats := addS hat8 69 pre69 post69
theorem i89 : hat8 89 = some (ofK k89) := rfl
theorem i91 : hat8 91 = some (ofK k91) := rfl
theorem i109 : hat8 109 = some (ofK k109) := rfl
theorem i87 : hat8 87 = some (ofK k87) := rfl
theorem pureH8 : NatPure hat8 := addS_pure (addS_pure pureH6)
theorem e131 : enters Tryz.prog 131 = true := by kernel_rfl
theorem first2 (x y : Bool) : firstNZ [cond x 3 0, cond y 3 0] = cond (x || y) 3 0 := by cases x <;> cases y <;> rfl
theorem out_nat {z : Int} {m : Nat} (h : outB z m = false) : ∃ k : Nat, z = (k : Int) ∧ k < m := by
  unfold outB at h
  simp at h
  exact ⟨z.toNat, by omega, by omega⟩
set_option maxHeartbeats 2000000 in
set_option maxRecDepth 20000 in
theorem setH9 : Setup Tryz.prog good hat9 (globG 3) := setH8.addS pre69 post69 fun x args H ⟨ha, hk, hb⟩ => by
  obtain ⟨⟨⟨n, wv, pv⟩, e⟩, a, b, c, d⟩ := x
  simp only at ha hk
  subst ha
  obtain ⟨ap, mp, cp, ws, rfl, hz, h0⟩ := k91_zero hk
  obtain ⟨aw, cw, rfl, hwl, _⟩ := intsOf_inv hz
  refine CallI.of Tryz.func69 rfl (N := 103) rfl ?_
  show Holds _ _ false _ [.int .i64 n, .slice aw ws.length cw, .slice ap mp cp, .agg #[.int .i64 a, .int .i64 b, .int .i64 c, .int .i64 d], undef, undef, undef, undef, undef, undef, undef, undef, undef, undef, undef, undef, undef, undef, undef, undef, undef, undef, undef, undef, undef, undef, undef, undef, undef, undef, undef, undef, undef, undef, undef, undef, undef, undef, undef, undef, undef, undef, undef, undef, undef, undef, undef, undef, undef, undef, undef, undef, undef, undef, undef, undef, undef, undef, undef, undef, undef, undef, undef, undef, undef, undef, undef, undef, undef, undef, undef, undef, undef, undef, undef, undef, undef, undef, undef, undef, undef, undef, undef, undef, undef, undef, undef, undef, undef, undef, undef, undef, undef, undef, undef, undef, undef, undef, undef, undef, undef, undef, undef] H _
  refine setH8.regE 0 (by kernel_rfl) (by simp only [List.map_cons, List.map_nil]; rfl) (by simp only [qB, qC, qD, qE, qF, qG, qH, qJ, qK, qM, qN, qP, iop1, qR, qS, iop, qT, qV, qW, qX, qY, qZ, zA, Option.getD_some, zB, zC, zD, zE, zF, zG, zH, zJ, zK, zM, zN, Step1.ofO, lenC, callF, zP, zR, zS, zT, zV, cond_true, cond_false, decide_true, decide_false, beq_self_eq_true, Bool.false_eq_true, Bool.true_eq_false, zW, zX, zY, zZ, Bool.not_true, Bool.not_false, appC, copyC, yA, List.map_cons, List.map_nil, goInt, ib84]; rfl) ?_
  have hoA := Old.push H (.cells #[.int .i64 a, .int .i64 b, .int .i64 c, .int .i64 d] 84)
  have hAz : (H.push (.cells #[.int .i64 a, .int .i64 b, .int .i64 c, .int .i64 d] 84)).get H.size = some (.cells [.int .i64 a, .int .i64 b, .int .i64 c, .int .i64 d].toArray 84 (0, 0)) := get_push_eq
  have hAs : (H.push (.cells #[.int .i64 a, .int .i64 b, .int .i64 c, .int .i64 d] 84)).size = H.size + 1 := rfl
  generalize H.push (.cells #[.int .i64 a, .int .i64 b, .int .i64 c, .int .i64 d] 84) = HA at hoA hAz hAs
  have hkA := k91_old hoA hk
  have hbA : HA.base ≤ H.size := by rw [hoA.base]; exact hb
  refine .seqW (setH8.regE 0 (by kernel_rfl) (by simp only [List.map_cons, List.map_nil]; rfl) (by simp only [qB, qC, qD, qE, qF, qG, qH, qJ, qK, qM, qN, qP, iop1, qR, qS, iop, qT, qV, qW, qX, qY, qZ, zA, Option.getD_some, zB, zC, zD, zE, zF, zG, zH, zJ, zK, zM, zN, Step1.ofO, lenC, callF, zP, zR, zS, zT, zV, cond_true, cond_false, decide_true, decide_false, beq_self_eq_true, Bool.false_eq_true, Bool.true_eq_false, zW, zX, zY, zZ, Bool.not_true, Bool.not_false, appC, copyC, yA, List.map_cons, List.map_nil, goInt, e91, enter_k i91, ofK, hkA]; rfl) (setH8.ifZ (by kernel_rfl) (by simp only [List.map_cons, List.map_nil]; rfl) (by simp only [qB, qC, qD, qE, qF, qG, qH, qJ, qK, qM, qN, qP, iop1, qR, qS, iop, qT, qV, qW, qX, qY, qZ, zA, Option.getD_some, zB, zC, zD, zE, zF, zG, zH, zJ, zK, zM, zN, Step1.ofO, lenC, callF, zP, zR, zS, zT, zV, cond_true, cond_false, decide_true, decide_false, beq_self_eq_true, Bool.false_eq_true, Bool.true_eq_false, zW, zX, zY, zZ, Bool.not_true, Bool.not_false, appC, copyC, yA, List.map_cons, List.map_nil, goInt]; rfl) (by kernel_rfl) (by simp only [qT, qX, qY, Option.getD_some]; rfl) (fun ht => ?_) (fun ht => .skip (ST.go ?_))))
  · have he : e ≠ 0 := by simpa using ht
    exact setH8.regE 0 (by kernel_rfl) (by simp only [List.map_cons, List.map_nil]; rfl) (by simp only [qB, qC, qD, qE, qF, qG, qH, qJ, qK, qM, qN, qP, iop1, qR, qS, iop, qT, qV, qW, qX, qY, qZ, zA, Option.getD_some, zB, zC, zD, zE, zF, zG, zH, zJ, zK, zM, zN, Step1.ofO, lenC, callF, zP, zR, zS, zT, zV, cond_true, cond_false, decide_true, decide_false, beq_self_eq_true, Bool.false_eq_true, Bool.true_eq_false, zW, zX, zY, zZ, Bool.not_true, Bool.not_false, appC, copyC, yA, List.map_cons, List.map_nil, goInt]; rfl) (.ret (ST.rt ⟨.inr rfl, .int .i64 e, ires_tmp rfl (by simp only [qX, qY]), hoA, e, rfl, fun _ => rfl, fun h => absurd h he⟩))
  have he : e = 0 := by simpa using ht
  obtain ⟨hs0, rs, hr, hV, hl0⟩ := h0 he
  obtain ⟨n, rfl, hn2, hn12, hok⟩ := chk_ok hs0
  obtain ⟨ap', cp', hsl, _, _⟩ := picOf_inv hr
  simp only [Value.slice.injEq] at hsl
  obtain ⟨rfl, rfl, rfl⟩ := hsl
  have hzA := intsOf_old hoA hz
  have hrA := picOf_old hoA hr
  have hrl : rs.length ≤ 24 := by have := hV.rows; simpa using this
  have hwc : ws.length ≤ 24 := by have := hV.col; omega
  have hwz : ∀ zs ∈ rs.map (·.2), zs.length = ws.length := fun zs hzs => by rw [hV.len zs hzs, hl0]
  refine setH8.regS (by kernel_rfl) (by simp only [List.map_cons, List.map_nil]; rfl) ?_; simp only [qB, qC, qD, qE, qF, qG, qH, qJ, qK, qM, qN, qP, iop1, qR, qS, iop, qT, qV, qW, qX, qY, qZ, zA, Option.getD_some, zB, zC, zD, zE, zF, zG, zH, zJ, zK, zM, zN, Step1.ofO, lenC, callF, zP, zR, zS, zT, zV, cond_true, cond_false, decide_true, decide_false, beq_self_eq_true, Bool.false_eq_true, Bool.true_eq_false, zW, zX, zY, zZ, Bool.not_true, Bool.not_false, appC, copyC, yA, List.map_cons, List.map_nil, goInt, yB, yC, e92, enter_s (x := (n, .slice aw ws.length cw, ws)) (show hat8 92 = some (ofS pre92 post92) from rfl) uniq92 ⟨rfl, hzA, hok, by omega, hn12, by omega⟩]
  rintro v2 H2 ⟨hold2, sv, fv, rfl, hsv, hfv⟩
  have hsl := (runW_len ws (rangeI n)).1
  have hs2 := hold2.size
  have hin : SchemeIn H2 sv fv (runW ws (rangeI n)).1 (fromL n ws) := ⟨hsv.row.ints (by show (runW ws (rangeI n)).1.length ≤ 1000; omega), hfv.ints (by rw [fromL_len]; omega), by rw [fromL_len]; exact fromL_in hok, by rw [fromL_len]; exact inR_run1 _ _ hok (rangeI_len n) (inR_range n), by rw [fromL_len]; exact hn12, by rw [hold2.base]; omega⟩
  simp only [qB, qC, qD, qE, qF, qG, qH, qJ, qK, qM, qN, qP, iop1, qR, qS, iop, qT, qV, qW, qX, qY, qZ, zA, Option.getD_some, zB, zC, zD, zE, zF, zG, zH, zJ, zK, zM, zN, Step1.ofO, lenC, callF, zP, zR, zS, zT, zV, cond_true, cond_false, decide_true, decide_false, beq_self_eq_true, Bool.false_eq_true, Bool.true_eq_false, zW, zX, zY, zZ, Bool.not_true, Bool.not_false, appC, copyC, yA, List.map_cons, List.map_nil, goInt, yB, yC, lenB_slice u25, e131, enter_s (x := ((sv, fv), ((runW ws (rangeI n)).1, fromL n ws), rs.length)) (show hat8 131 = some (ofS pre131 post131) from rfl) uniq131 ⟨rfl, hin, by show rs.length ≤ 1000; omega⟩]
  rintro v3 H3 ⟨hold3, rows, hout, hrows⟩
  simp only at hrows
  rw [rowsK_seen hok] at hrows
  obtain ⟨ks, hks, hkm⟩ := pic_of hout hrows (by rw [seenN_len]; omega) fun zs hzs => by
    unfold seenN at hzs
    obtain ⟨k, _, rfl⟩ := List.mem_map.1 hzs
    rw [(runW_len _ _).1]; omega
  have hkl : ks.length = rs.length := by have := congrArg List.length hkm; simpa [seenN_len] using this
  have hkz : ∀ zs ∈ ks.map (·.2), zs.length = ws.length := fun zs hzs => by
    rw [hkm] at hzs
    unfold seenN at hzs
    obtain ⟨k, _, rfl⟩ := List.mem_map.1 hzs
    rw [(runW_len _ _).1]
  obtain ⟨ak, ck, rfl, _, _⟩ := picOf_inv hks
  have hoA3 := hold2.trans hold3
  have ho3 := hoA.trans hoA3
  have hA3 := (hoA3.get H.size (by omega)).trans hAz
  have hs3 := ho3.size
  have hsA3 := hoA3.size
  have hb3 : H3.base ≤ H.size := by rw [ho3.base]; exact hb
  have l84 : iloadAt Tryz.prog 84 (.pointer (some ⟨H.size, 0, none⟩)) H3 = some (.agg #[.int .i64 a, .int .i64 b, .int .i64 c, .int .i64 d]) := load_agg (t := 84) (i := 0) (l := [.int .i64 a, .int .i64 b, .int .i64 c, .int .i64 d]) ag84 sz84 hA3 (by simp)
  have hr3 := picOf_old ho3 hr
  refine .seqW (setH8.regE 0 (by kernel_rfl) (by simp only [List.map_cons, List.map_nil]; rfl) (by simp only [qB, qC, qD, qE, qF, qG, qH, qJ, qK, qM, qN, qP, iop1, qR, qS, iop, qT, qV, qW, qX, qY, qZ, zA, Option.getD_some, zB, zC, zD, zE, zF, zG, zH, zJ, zK, zM, zN, Step1.ofO, lenC, callF, zP, zR, zS, zT, zV, cond_true, cond_false, decide_true, decide_false, beq_self_eq_true, Bool.false_eq_true, Bool.true_eq_false, zW, zX, zY, zZ, Bool.not_true, Bool.not_false, appC, copyC, yA, List.map_cons, List.map_nil, goInt, l84]; rfl) ?_)
  refine .loopW (fun m e h => ∃ (i : Nat), i ≤ 2 ∧ m = 2 - i ∧ e = [unk, .slice aw ws.length cw, .slice ap rs.length cp, unk, unk, unk, unk, .pointer (some ⟨H.size, 0, none⟩), unk, unk, .slice ak ks.length ck, unk, unk, unk, unk, unk, unk, unk, unk, unk, unk, unk, unk, unk, unk, unk, unk, unk, unk, unk, .agg #[.int .i64 a, .int .i64 b, .int .i64 c, .int .i64 d], .int .i64 (i : Nat), unk, unk, unk, unk, unk, unk, unk, unk, unk, unk, unk, unk, unk, unk, unk, unk, unk, unk, unk, unk, unk, unk, unk, unk, unk, unk, unk, unk, unk, unk, unk, unk, unk, unk, unk, unk, unk, unk, unk, unk, unk, unk, unk, unk, unk, unk, unk, unk, unk, unk, unk, unk, unk, unk, unk, unk, unk, unk, unk, unk, unk, unk, unk, unk, unk, unk, unk, unk, unk, unk, unk] ∧ Old H3 h ∧
      ∀ j, j < i → (outB (ptAt a b c d j).1 rs.length || outB (ptAt a b c d j).2 ws.length) = false) 2
    [unk, .slice aw ws.length cw, .slice ap rs.length cp, unk, unk, unk, unk, .pointer (some ⟨H.size, 0, none⟩), unk, unk, .slice ak ks.length ck, unk, unk, unk, unk, unk, unk, unk, unk, unk, unk, unk, unk, unk, unk, unk, unk, unk, unk, unk, .agg #[.int .i64 a, .int .i64 b, .int .i64 c, .int .i64 d], .int .i64 0, unk, unk, unk, unk, unk, unk, unk, unk, unk, unk, unk, unk, unk, unk, unk, unk, unk, unk, unk, unk, unk, unk, unk, unk, unk, unk, unk, unk, unk, unk, unk, unk, unk, unk, unk, unk, unk, unk, unk, unk, unk, unk, unk, unk, unk, unk, unk, unk, unk, unk, unk, unk, unk, unk, unk, unk, unk, unk, unk, unk, unk, unk, unk, unk, unk, unk, unk, unk, unk, unk, unk] (by repeat (first | exact WkL.nil | refine WkL.same ?_ | refine WkL.any ?_))
    ⟨0, by omega, rfl, rfl, .refl _, fun j hj => by omega⟩ ?_
  rintro m e' h ⟨i, hi, rfl, rfl, hold, hgood⟩
  have hhs := hold.size
  have hhb : h.base ≤ h.size := by rw [hold.base]; omega
  refine setH8.headW (by kernel_rfl) (by simp only [List.map_cons, List.map_nil]; rfl) (by simp only [qB, qC, qD, qE, qF, qG, qH, qJ, qK, qM, qN, qP, iop1, qR, qS, iop, qT, qV, qW, qX, qY, qZ, zA, Option.getD_some, zB, zC, zD, zE, zF, zG, zH, zJ, zK, zM, zN, Step1.ofO, lenC, callF, zP, zR, zS, zT, zV, cond_true, cond_false, decide_true, decide_false, beq_self_eq_true, Bool.false_eq_true, Bool.true_eq_false, zW, zX, zY, zZ, Bool.not_true, Bool.not_false, appC, copyC, yA, List.map_cons, List.map_nil, goInt]; rfl) (by kernel_rfl) (by simp only [qT, qX, qY, Option.getD_some]; rfl) (fun ht2 => ?_) (fun ht2 => ?_)
  · have hi2 : i < 2 := by simp only [decide_eq_true_eq] at ht2; omega
    generalize hpt : ptAt a b c d i = pt
    obtain ⟨px, py⟩ := pt
    have hix := ix84i (a := a) (b := b) (c := c) (d := d) hi2
    rw [hpt] at hix
    have hst : istoreAt Tryz.prog 83 (.pointer (some ⟨h.size, 0, none⟩)) (.agg #[.int .i64 px, .int .i64 py]) (h.push (.cells #[.int .i64 0, .int .i64 0] 83)) = some ((h.push (.cells #[.int .i64 0, .int .i64 0] 83)).put h.size (.cells #[.int .i64 px, .int .i64 py] 83 (0, 0))) :=
      store_agg (vs := [.int .i64 px, .int .i64 py]) (i := 0) sz83 rfl get_push_eq (by simp) rfl (by show h.base ≤ h.size; omega)
    refine .blockW (setH8.regE 0 (by kernel_rfl) (by simp only [List.map_cons, List.map_nil]; rfl) (by simp only [qB, qC, qD, qE, qF, qG, qH, qJ, qK, qM, qN, qP, iop1, qR, qS, iop, qT, qV, qW, qX, qY, qZ, zA, Option.getD_some, zB, zC, zD, zE, zF, zG, zH, zJ, zK, zM, zN, Step1.ofO, lenC, callF, zP, zR, zS, zT, zV, cond_true, cond_false, decide_true, decide_false, beq_self_eq_true, Bool.false_eq_true, Bool.true_eq_false, zW, zX, zY, zZ, Bool.not_true, Bool.not_false, appC, copyC, yA, List.map_cons, List.map_nil, goInt, ixop, hix, al83, hst]; rfl) ?_)
    have hold1 : Old h ((h.push (.cells #[.int .i64 0, .int .i64 0] 83)).put h.size (.cells #[.int .i64 px, .int .i64 py] 83 (0, 0))) := (Old.push h _).put (Nat.le_refl _)
    have hg1 : ((h.push (.cells #[.int .i64 0, .int .i64 0] 83)).put h.size (.cells #[.int .i64 px, .int .i64 py] 83 (0, 0))).get h.size = some (.cells [.int .i64 px, .int .i64 py].toArray 83 (0, 0)) := get_put_eq
    generalize (h.push (.cells #[.int .i64 0, .int .i64 0] 83)).put h.size (.cells #[.int .i64 px, .int .i64 py] 83 (0, 0)) = h1 at hold1 hg1
    have lb0 := load_cell (t := 3) ag3 (i := 0) hg1 rfl
    have lb1 := load_cell (t := 3) ag3 (i := 1) hg1 rfl
    have hw1 : IntKind.i64.wrap ((rs.length : Int) - 1) = (rs.length : Int) - 1 := wrap_id (by omega) (by omega)
    have hw2 : IntKind.i64.wrap ((ws.length : Int) - 1) = (ws.length : Int) - 1 := wrap_id (by omega) (by omega)
    have hoA1 := ho3.trans (hold.trans hold1)
    cases hO : (outB px rs.length || outB py ws.length) with
    | true =>
      have hO' := hO
      unfold outB at hO'
      refine setH8.drawE pureH8 12 (lo := [(7, 0, 1), (9, 0, 1)]) (by kernel_rfl) (by kernel_rfl) (by kernel_rfl) (by kernel_rfl) (by kernel_rfl) (by kernel_rfl) (by kernel_rfl) (by simp only [List.map_cons, List.map_nil]; rfl) (by simp only [qB, qC, qD, qE, qF, qG, qH, qJ, qK, qM, qN, qP, iop1, qR, qS, iop, qT, qV, qW, qX, qY, qZ, zA, Option.getD_some, zB, zC, zD, zE, zF, zG, zH, zJ, zK, zM, zN, Step1.ofO, lenC, callF, zP, zR, zS, zT, zV, cond_true, cond_false, decide_true, decide_false, beq_self_eq_true, Bool.false_eq_true, Bool.true_eq_false, zW, zX, zY, zZ, Bool.not_true, Bool.not_false, appC, copyC, yA, List.map_cons, List.map_nil, goInt, ix83_00, ix83_01, lb0, lb1, lenB_slice u25, lenB_slice u22, hw1, hw2, e109, enter_k i109, ofK, k109, bu172, e87, enter_k i87, k87_two, first2, hO']; rfl) (by kernel_rfl) (setH8.ifZ (by kernel_rfl) (by simp only [List.map_cons, List.map_nil]; rfl) (by simp only [qB, qC, qD, qE, qF, qG, qH, qJ, qK, qM, qN, qP, iop1, qR, qS, iop, qT, qV, qW, qX, qY, qZ, zA, Option.getD_some, zB, zC, zD, zE, zF, zG, zH, zJ, zK, zM, zN, Step1.ofO, lenC, callF, zP, zR, zS, zT, zV, cond_true, cond_false, decide_true, decide_false, beq_self_eq_true, Bool.false_eq_true, Bool.true_eq_false, zW, zX, zY, zZ, Bool.not_true, Bool.not_false, appC, copyC, yA, List.map_cons, List.map_nil, goInt]; rfl) (by kernel_rfl) (by simp only [qT, qX, qY, Option.getD_some]; rfl) (fun ht3 => ?_) (fun ht3 => by cases ht3))
      refine setH8.regE 0 (by kernel_rfl) (by simp only [List.map_cons, List.map_nil]; rfl) (by simp only [qB, qC, qD, qE, qF, qG, qH, qJ, qK, qM, qN, qP, iop1, qR, qS, iop, qT, qV, qW, qX, qY, qZ, zA, Option.getD_some, zB, zC, zD, zE, zF, zG, zH, zJ, zK, zM, zN, Step1.ofO, lenC, callF, zP, zR, zS, zT, zV, cond_true, cond_false, decide_true, decide_false, beq_self_eq_true, Bool.false_eq_true, Bool.true_eq_false, zW, zX, zY, zZ, Bool.not_true, Bool.not_false, appC, copyC, yA, List.map_cons, List.map_nil, goInt]; rfl) (.ret (BT.rt (LQ.rt (ST.rt ⟨.inr rfl, .int .i64 3, ires_tmp rfl (by simp only [qX, qY]), hoA1.trans (.push _ _), 3, rfl, fun h => absurd he h, fun _ ws' rs' hw' hr' => ?_⟩))))
      rw [hz] at hw'; rw [hr] at hr'
      cases hw'
      cases hr'
      have hbad : ((outB a rs.length || outB b ws.length) || (outB c rs.length || outB d ws.length)) = true := by
        unfold ptAt at hpt
        split at hpt
        · simp only [Prod.mk.injEq] at hpt; rw [hpt.1, hpt.2, hO]; rfl
        · simp only [Prod.mk.injEq] at hpt; rw [hpt.1, hpt.2, hO]; simp
      unfold clashErr
      simp only [List.length_map]
      rw [hbad]; rfl
    | false =>
      have hO' := hO
      unfold outB at hO'
      refine setH8.drawE pureH8 12 (lo := [(7, 0, 1), (9, 0, 1)]) (by kernel_rfl) (by kernel_rfl) (by kernel_rfl) (by kernel_rfl) (by kernel_rfl) (by kernel_rfl) (by kernel_rfl) (by simp only [List.map_cons, List.map_nil]; rfl) (by simp only [qB, qC, qD, qE, qF, qG, qH, qJ, qK, qM, qN, qP, iop1, qR, qS, iop, qT, qV, qW, qX, qY, qZ, zA, Option.getD_some, zB, zC, zD, zE, zF, zG, zH, zJ, zK, zM, zN, Step1.ofO, lenC, callF, zP, zR, zS, zT, zV, cond_true, cond_false, decide_true, decide_false, beq_self_eq_true, Bool.false_eq_true, Bool.true_eq_false, zW, zX, zY, zZ, Bool.not_true, Bool.not_false, appC, copyC, yA, List.map_cons, List.map_nil, goInt, ix83_00, ix83_01, lb0, lb1, lenB_slice u25, lenB_slice u22, hw1, hw2, e109, enter_k i109, ofK, k109, bu172, e87, enter_k i87, k87_two, first2, hO']; rfl) (by kernel_rfl) (setH8.ifZ (by kernel_rfl) (by simp only [List.map_cons, List.map_nil]; rfl) (by simp only [qB, qC, qD, qE, qF, qG, qH, qJ, qK, qM, qN, qP, iop1, qR, qS, iop, qT, qV, qW, qX, qY, qZ, zA, Option.getD_some, zB, zC, zD, zE, zF, zG, zH, zJ, zK, zM, zN, Step1.ofO, lenC, callF, zP, zR, zS, zT, zV, cond_true, cond_false, decide_true, decide_false, beq_self_eq_true, Bool.false_eq_true, Bool.true_eq_false, zW, zX, zY, zZ, Bool.not_true, Bool.not_false, appC, copyC, yA, List.map_cons, List.map_nil, goInt]; rfl) (by kernel_rfl) (by simp only [qT, qX, qY, Option.getD_some]; rfl) (fun ht3 => by cases ht3) (fun ht3 => .skip (BT.go ?_)))
      refine setH8.regZ 0 (by kernel_rfl) (by simp only [List.map_cons, List.map_nil]; rfl) (by simp only [qB, qC, qD, qE, qF, qG, qH, qJ, qK, qM, qN, qP, iop1, qR, qS, iop, qT, qV, qW, qX, qY, qZ, zA, Option.getD_some, zB, zC, zD, zE, zF, zG, zH, zJ, zK, zM, zN, Step1.ofO, lenC, callF, zP, zR, zS, zT, zV, cond_true, cond_false, decide_true, decide_false, beq_self_eq_true, Bool.false_eq_true, Bool.true_eq_false, zW, zX, zY, zZ, Bool.not_true, Bool.not_false, appC, copyC, yA, List.map_cons, List.map_nil, goInt, wrap_succ hi2 (n := 2) (by omega)]; rfl) (LQ.go (2 - (i + 1)) (by omega) (by repeat (first | exact WkL.nil | refine WkL.same ?_ | refine WkL.any ?_)) ⟨i + 1, by omega, rfl, rfl, hold.trans (hold1.trans (.push _ _)), fun j hj => ?_⟩)
      by_cases hji : j < i
      · exact hgood j hji
      · have : j = i := by omega
        rw [this, hpt]; exact hO
  · have hge : i = 2 := by simp only [decide_eq_false_iff_not] at ht2; omega
    subst hge

    have hg0 := hgood 0 (by omega)
    have hg1 := hgood 1 (by omega)
    simp only [ptAt, if_true, if_neg (show ¬ (1 = 0) by omega), Bool.or_eq_false_iff] at hg0 hg1
    obtain ⟨a', rfl, ha'⟩ := out_nat hg0.1
    obtain ⟨b', rfl, hb'⟩ := out_nat hg0.2
    obtain ⟨c', rfl, hc'⟩ := out_nat hg1.1
    obtain ⟨d', rfl, hd'⟩ := out_nat hg1.2
    clear hgood
    have hAh := (hold.get H.size (by omega)).trans hA3
    obtain ⟨HQ, hHQ⟩ : ∃ HQ, HQ = (h.push (.cells #[.int .i64 0, .int .i64 0] 83)).push (.cells #[.int .i64 0, .int .i64 0] 83) := ⟨_, rfl⟩
    have hoQ : Old h HQ := by rw [hHQ]; exact (Old.push h _).trans (Old.push _ _)
    have q0 : HQ.get h.size = some (.cells [.int .i64 0, .int .i64 0].toArray 83 (0, 0)) := by rw [hHQ, get_push_lt (by show h.size < h.size + 1; omega)]; exact get_push_eq
    have q1 : HQ.get (h.size + 1) = some (.cells [.int .i64 0, .int .i64 0].toArray 83 (0, 0)) := by rw [hHQ]; exact get_push_eq
    have qA := (hoQ.get H.size (by omega)).trans hAh
    have l53 : iloadAt Tryz.prog 83 (.pointer (some ⟨H.size, 0, none⟩)) HQ = some (.agg #[.int .i64 (a' : Int), .int .i64 (b' : Int)]) := load_agg (t := 83) (i := 0) (l := [.int .i64 (a' : Int), .int .i64 (b' : Int), .int .i64 (c' : Int), .int .i64 (d' : Int)]) ag83 sz83 qA (by simp)
    have l55 : iloadAt Tryz.prog 83 (.pointer (some ⟨H.size, 2, none⟩)) HQ = some (.agg #[.int .i64 (c' : Int), .int .i64 (d' : Int)]) := load_agg (t := 83) (i := 2) (l := [.int .i64 (a' : Int), .int .i64 (b' : Int), .int .i64 (c' : Int), .int .i64 (d' : Int)]) ag83 sz83 qA (by simp)
    have hbQ : HQ.base ≤ h.size := by rw [hoQ.base]; exact hhb
    have s14 : istoreAt Tryz.prog 83 (.pointer (some ⟨h.size, 0, none⟩)) (.agg #[.int .i64 (a' : Int), .int .i64 (b' : Int)]) HQ = some (HQ.put h.size (.cells #[.int .i64 (a' : Int), .int .i64 (b' : Int)] 83 (0, 0))) :=
      store_agg (vs := [.int .i64 (a' : Int), .int .i64 (b' : Int)]) (i := 0) sz83 rfl q0 (by simp) rfl hbQ
    have q1' : (HQ.put h.size (.cells #[.int .i64 (a' : Int), .int .i64 (b' : Int)] 83 (0, 0))).get (h.size + 1) = some (.cells [.int .i64 0, .int .i64 0].toArray 83 (0, 0)) := by rw [get_put_ne (by omega)]; exact q1
    have s15 : istoreAt Tryz.prog 83 (.pointer (some ⟨h.size + 1, 0, none⟩)) (.agg #[.int .i64 (c' : Int), .int .i64 (d' : Int)]) (HQ.put h.size (.cells #[.int .i64 (a' : Int), .int .i64 (b' : Int)] 83 (0, 0))) = some ((HQ.put h.size (.cells #[.int .i64 (a' : Int), .int .i64 (b' : Int)] 83 (0, 0))).put (h.size + 1) (.cells #[.int .i64 (c' : Int), .int .i64 (d' : Int)] 83 (0, 0))) :=
      store_agg (vs := [.int .i64 (c' : Int), .int .i64 (d' : Int)]) (i := 0) sz83 rfl q1' (by simp) rfl (by show HQ.base ≤ h.size + 1; omega)
    refine ST.go (.pre (env1 := [unk, .slice aw ws.length cw, .slice ap rs.length cp, unk, unk, unk, unk, .pointer (some ⟨H.size, 0, none⟩), unk, unk, .slice ak ks.length ck, unk, unk, unk, unk, unk, unk, unk, unk, unk, unk, unk, unk, unk, unk, unk, unk, unk, unk, unk, unk, unk, unk, unk, unk, unk, unk, unk, unk, unk, unk, unk, unk, unk, unk, unk, unk, unk, unk, unk, unk, unk, unk, unk, unk, unk, unk, unk, unk, unk, unk, unk, unk, unk, unk, unk, unk, unk, unk, unk, unk, unk, unk, unk, unk, unk, unk, unk, unk, unk, unk, unk, unk, unk, unk, unk, unk, unk, unk, unk, unk, unk, unk, unk, unk, unk, unk, unk, unk, unk, unk, unk, unk]) (by repeat (first | exact WkL.nil | refine WkL.same ?_ | refine WkL.any ?_)) (.seqW (setH8.drawY (envA := [unk, .slice aw ws.length cw, .slice ap rs.length cp, unk, unk, unk, unk, .pointer (some ⟨H.size, 0, none⟩), unk, unk, .slice ak ks.length ck, unk, unk, unk, .pointer (some ⟨h.size, 0, none⟩), .pointer (some ⟨h.size + 1, 0, none⟩), unk, unk, unk, unk, unk, unk, unk, unk, unk, unk, unk, unk, unk, unk, unk, unk, unk, unk, unk, unk, unk, unk, unk, unk, unk, unk, unk, unk, unk, unk, unk, unk, unk, unk, unk, unk, unk, unk, unk, unk, unk, unk, unk, unk, unk, unk, unk, unk, unk, unk, unk, unk, unk, unk, unk, unk, unk, unk, unk, unk, unk, unk, unk, unk, unk, unk, unk, unk, unk, unk, unk, unk, unk, unk, unk, unk, unk, unk, unk, unk, unk, unk, unk, unk, unk, unk, unk]) (HA := HQ) (lo := [(3, 0, 1)]) (by kernel_rfl) (by kernel_rfl) (by kernel_rfl) (by kernel_rfl) (by kernel_rfl) (by kernel_rfl) (by simp only [List.map_cons, List.map_nil]; rfl) (by simp [isAlloc, clsOf]; rfl) (by (rw [hHQ]; kernel_rfl)) (by simp only [qB, qC, qD, qE, qF, qG, qH, qJ, qK, qM, qN, qP, iop1, qR, qS, iop, qT, qV, qW, qX, qY, qZ, zA, Option.getD_some, zB, zC, zD, zE, zF, zG, zH, zJ, zK, zM, zN, Step1.ofO, lenC, callF, zP, zR, zS, zT, zV, cond_true, cond_false, decide_true, decide_false, beq_self_eq_true, Bool.false_eq_true, Bool.true_eq_false, zW, zX, zY, zZ, Bool.not_true, Bool.not_false, appC, copyC, yA, List.map_cons, List.map_nil, goInt, yD, yE, yF, yG, yH, clsOf, Cls.eff, yJ, yK, ix84_0, ix84_1, l53, l55, s14, s15]; rfl) (by kernel_rfl) ⟨fun m E r1 r2 r3 => ?_, trivial⟩ (ST.go ?_))))
    · have hm : m = 0 ∨ m = 1 := by simp at r1 r2; omega
      rcases hm with rfl | rfl
      · cases r3; exact l55
      · cases r3
        have qA2 : (HQ.put h.size (.cells #[.int .i64 (a' : Int), .int .i64 (b' : Int)] 83 (0, 0))).get H.size = some (.cells [.int .i64 (a' : Int), .int .i64 (b' : Int), .int .i64 (c' : Int), .int .i64 (d' : Int)].toArray 84 (0, 0)) := by rw [get_put_ne (by omega)]; exact qA
        exact load_agg (t := 83) (i := 2) (l := [.int .i64 (a' : Int), .int .i64 (b' : Int), .int .i64 (c' : Int), .int .i64 (d' : Int)]) ag83 sz83 qA2 (by simp)
    have hoR : Old h ((HQ.put h.size (.cells #[.int .i64 (a' : Int), .int .i64 (b' : Int)] 83 (0, 0))).put (h.size + 1) (.cells #[.int .i64 (c' : Int), .int .i64 (d' : Int)] 83 (0, 0))) := (hoQ.put (Nat.le_refl _)).put (by omega)
    have w0 : ((HQ.put h.size (.cells #[.int .i64 (a' : Int), .int .i64 (b' : Int)] 83 (0, 0))).put (h.size + 1) (.cells #[.int .i64 (c' : Int), .int .i64 (d' : Int)] 83 (0, 0))).get h.size = some (.cells [.int .i64 (a' : Int), .int .i64 (b' : Int)].toArray 83 (0, 0)) := by rw [get_put_ne (by omega)]; exact get_put_eq
    have w1 : ((HQ.put h.size (.cells #[.int .i64 (a' : Int), .int .i64 (b' : Int)] 83 (0, 0))).put (h.size + 1) (.cells #[.int .i64 (c' : Int), .int .i64 (d' : Int)] 83 (0, 0))).get (h.size + 1) = some (.cells [.int .i64 (c' : Int), .int .i64 (d' : Int)].toArray 83 (0, 0)) := get_put_eq
    generalize (HQ.put h.size (.cells #[.int .i64 (a' : Int), .int .i64 (b' : Int)] 83 (0, 0))).put (h.size + 1) (.cells #[.int .i64 (c' : Int), .int .i64 (d' : Int)] 83 (0, 0)) = HR at hoR w0 w1
    have l56 : iloadAt Tryz.prog 83 (.pointer (some ⟨h.size, 0, none⟩)) HR = some (.agg #[.int .i64 (a' : Int), .int .i64 (b' : Int)]) := load_agg (t := 83) (i := 0) (l := [.int .i64 (a' : Int), .int .i64 (b' : Int)]) ag83 sz83 w0 (by simp)
    have l57 : iloadAt Tryz.prog 83 (.pointer (some ⟨h.size + 1, 0, none⟩)) HR = some (.agg #[.int .i64 (c' : Int), .int .i64 (d' : Int)]) := load_agg (t := 83) (i := 0) (l := [.int .i64 (c' : Int), .int .i64 (d' : Int)]) ag83 sz83 w1 (by simp)
    have m0 := load_cell (t := 3) ag3 (i := 0) w0 rfl
    have m1 := load_cell (t := 3) ag3 (i := 1) w0 rfl
    have m2 := load_cell (t := 3) ag3 (i := 0) w1 rfl
    have m3 := load_cell (t := 3) ag3 (i := 1) w1 rfl
    have ho3R := hold.trans hoR
    have hoAR := ho3.trans ho3R
    have hpR := picOf_old hoAR hr
    have hkR := picOf_old ho3R hks
    obtain ⟨p1, ra1, rn1, rc1, t1, x1, x2, x3, x4⟩ := pic_cell hpR hwz ha' hb'
    obtain ⟨p2, ra2, rn2, rc2, t2, y1, y2, y3, y4⟩ := pic_cell hpR hwz hc' hd'
    obtain ⟨p3, ra3, rn3, rc3, t3, u1, u2, u3, u4⟩ := pic_cell hkR hkz (by rw [hkl]; exact ha') hb'
    obtain ⟨p4, ra4, rn4, rc4, t4, z1, z2, z3, z4⟩ := pic_cell hkR hkz (by rw [hkl]; exact hc') hd'
    rw [hkm] at u4 z4
    have hce : clashErr (seenN ws (rangeI n) rs.length) (rs.map (·.2)) ws.length (a' : Int) (b' : Int) (c' : Int) (d' : Int) = cond (decide (((seenN ws (rangeI n) rs.length).getD a' []).getD b' 0 ≠ ((seenN ws (rangeI n) rs.length).getD c' []).getD d' 0) || decide (((rs.map (·.2)).getD a' []).getD b' 0 = ((rs.map (·.2)).getD c' []).getD d' 0)) 21 0 := by
      unfold clashErr atI
      simp only [List.length_map, hg0.1, hg0.2, hg1.1, hg1.2, Bool.or_self, cond_false, Int.toNat_natCast]
    generalize hc1 : ((rs.map (·.2)).getD a' []).getD b' 0 = v1 at *
    generalize hc2 : ((rs.map (·.2)).getD c' []).getD d' 0 = v2 at *
    generalize hc3 : ((seenN ws (rangeI n) rs.length).getD a' []).getD b' 0 = v3 at *
    generalize hc4 : ((seenN ws (rangeI n) rs.length).getD c' []).getD d' 0 = v4 at *
    have fin : ∀ code : Int, code = cond (decide (v3 ≠ v4) || decide (v1 = v2)) 21 0 → post69 ((((n : Int), .slice aw ws.length cw, .slice ap rs.length cp), 0), (a' : Int), (b' : Int), (c' : Int), (d' : Int)) H (.int .i64 code) HR := fun code hcode => by
      refine ⟨hoAR, code, rfl, fun h => absurd rfl h, fun _ ws' rs' hw' hr' => ?_⟩
      simp only at hw' hr'
      rw [hz] at hw'; rw [hr] at hr'
      cases hw'
      cases hr'
      simp only [Int.toNat_natCast]
      rw [hcode, ← hce]
    subst he
    cases hsm : (((a' : Int) == (c' : Int)) && ((b' : Int) == (d' : Int))) with
    | true =>
      refine setH8.drawE pureH8 0 (lo := []) (by kernel_rfl) (by kernel_rfl) (by kernel_rfl) (by kernel_rfl) (by kernel_rfl) (by kernel_rfl) (by kernel_rfl) (by simp only [List.map_cons, List.map_nil]; rfl) (by simp only [qB, qC, qD, qE, qF, qG, qH, qJ, qK, qM, qN, qP, iop1, qR, qS, iop, qT, qV, qW, qX, qY, qZ, zA, Option.getD_some, zB, zC, zD, zE, zF, zG, zH, zJ, zK, zM, zN, Step1.ofO, lenC, callF, zP, zR, zS, zT, zV, cond_true, cond_false, decide_true, decide_false, beq_self_eq_true, Bool.false_eq_true, Bool.true_eq_false, zW, zX, zY, zZ, Bool.not_true, Bool.not_false, appC, copyC, yA, List.map_cons, List.map_nil, goInt, l56, l57, eq83, hsm]; rfl) (by kernel_rfl) ?_
      refine setH8.drawE pureH8 0 (lo := []) (by kernel_rfl) (by kernel_rfl) (by kernel_rfl) (by kernel_rfl) (by kernel_rfl) (by kernel_rfl) (by kernel_rfl) (by simp only [List.map_cons, List.map_nil]; rfl) (by simp only [qB, qC, qD, qE, qF, qG, qH, qJ, qK, qM, qN, qP, iop1, qR, qS, iop, qT, qV, qW, qX, qY, qZ, zA, Option.getD_some, zB, zC, zD, zE, zF, zG, zH, zJ, zK, zM, zN, Step1.ofO, lenC, callF, zP, zR, zS, zT, zV, cond_true, cond_false, decide_true, decide_false, beq_self_eq_true, Bool.false_eq_true, Bool.true_eq_false, zW, zX, zY, zZ, Bool.not_true, Bool.not_false, appC, copyC, yA, List.map_cons, List.map_nil, goInt, e89, enter_k i89, ofK, k89]; rfl) (by kernel_rfl) (.ret ⟨.inr rfl, .int .i64 21, ires_tmp rfl (by simp only [qX, qY]), fin 21 ?_⟩)
      have : a' = c' ∧ b' = d' := by simp at hsm; omega
      have : v1 = v2 := by rw [← hc1, ← hc2, this.1, this.2]
      rw [this]; simp
    | false =>
      cases hcl : (v1 == v2) with
      | true =>
        refine setH8.drawE pureH8 0 (lo := []) (by kernel_rfl) (by kernel_rfl) (by kernel_rfl) (by kernel_rfl) (by kernel_rfl) (by kernel_rfl) (by kernel_rfl) (by simp only [List.map_cons, List.map_nil]; rfl) (by simp only [qB, qC, qD, qE, qF, qG, qH, qJ, qK, qM, qN, qP, iop1, qR, qS, iop, qT, qV, qW, qX, qY, qZ, zA, Option.getD_some, zB, zC, zD, zE, zF, zG, zH, zJ, zK, zM, zN, Step1.ofO, lenC, callF, zP, zR, zS, zT, zV, cond_true, cond_false, decide_true, decide_false, beq_self_eq_true, Bool.false_eq_true, Bool.true_eq_false, zW, zX, zY, zZ, Bool.not_true, Bool.not_false, appC, copyC, yA, List.map_cons, List.map_nil, goInt, l56, l57, eq83, hsm, ix83_00, ix83_01, m0, m1, m2, m3, x1, x2, x3, x4, y1, y2, y3, y4, hcl]; rfl) (by kernel_rfl) ?_
        refine setH8.drawE pureH8 0 (lo := []) (by kernel_rfl) (by kernel_rfl) (by kernel_rfl) (by kernel_rfl) (by kernel_rfl) (by kernel_rfl) (by kernel_rfl) (by simp only [List.map_cons, List.map_nil]; rfl) (by simp only [qB, qC, qD, qE, qF, qG, qH, qJ, qK, qM, qN, qP, iop1, qR, qS, iop, qT, qV, qW, qX, qY, qZ, zA, Option.getD_some, zB, zC, zD, zE, zF, zG, zH, zJ, zK, zM, zN, Step1.ofO, lenC, callF, zP, zR, zS, zT, zV, cond_true, cond_false, decide_true, decide_false, beq_self_eq_true, Bool.false_eq_true, Bool.true_eq_false, zW, zX, zY, zZ, Bool.not_true, Bool.not_false, appC, copyC, yA, List.map_cons, List.map_nil, goInt, e89, enter_k i89, ofK, k89]; rfl) (by kernel_rfl) (.ret ⟨.inr rfl, .int .i64 21, ires_tmp rfl (by simp only [qX, qY]), fin 21 ?_⟩)
        have : v1 = v2 := by simpa using hcl
        rw [this]; simp
      | false =>
        refine setH8.drawE pureH8 0 (lo := []) (by kernel_rfl) (by kernel_rfl) (by kernel_rfl) (by kernel_rfl) (by kernel_rfl) (by kernel_rfl) (by kernel_rfl) (by simp only [List.map_cons, List.map_nil]; rfl) (by simp only [qB, qC, qD, qE, qF, qG, qH, qJ, qK, qM, qN, qP, iop1, qR, qS, iop, qT, qV, qW, qX, qY, qZ, zA, Option.getD_some, zB, zC, zD, zE, zF, zG, zH, zJ, zK, zM, zN, Step1.ofO, lenC, callF, zP, zR, zS, zT, zV, cond_true, cond_false, decide_true, decide_false, beq_self_eq_true, Bool.false_eq_true, Bool.true_eq_false, zW, zX, zY, zZ, Bool.not_true, Bool.not_false, appC, copyC, yA, List.map_cons, List.map_nil, goInt, l56, l57, eq83, hsm, ix83_00, ix83_01, m0, m1, m2, m3, x1, x2, x3, x4, y1, y2, y3, y4, hcl]; rfl) (by kernel_rfl) ?_
        refine setH8.drawE pureH8 0 (lo := []) (by kernel_rfl) (by kernel_rfl) (by kernel_rfl) (by kernel_rfl) (by kernel_rfl) (by kernel_rfl) (by kernel_rfl) (by simp only [List.map_cons, List.map_nil]; rfl) (by simp only [qB, qC, qD, qE, qF, qG, qH, qJ, qK, qM, qN, qP, iop1, qR, qS, iop, qT, qV, qW, qX, qY, qZ, zA, Option.getD_some, zB, zC, zD, zE, zF, zG, zH, zJ, zK, zM, zN, Step1.ofO, lenC, callF, zP, zR, zS, zT, zV, cond_true, cond_false, decide_true, decide_false, beq_self_eq_true, Bool.false_eq_true, Bool.true_eq_false, zW, zX, zY, zZ, Bool.not_true, Bool.not_false, appC, copyC, yA, List.map_cons, List.map_nil, goInt, ix83_00, ix83_01, m0, m1, m2, m3, u1, u2, u3, u4, z1, z2, z3, z4, e89, enter_k i89, ofK, k89]; rfl) (by kernel_rfl) (.ret ⟨.inr rfl, .int .i64 (cond (v3 != v4) 21 0), ires_tmp rfl (by simp only [qX, qY]), fin _ ?_⟩)
        have : v1 ≠ v2 := by simpa using hcl
        rw [decide_eq_false this, Bool.or_false]
        have h8 : (v3 != v4) = decide (v3 ≠ v4) := by by_cases h9 : v3 = v4 <;> simp [h9]
        rw [h8]
end Go.Proofs.YtpdlblofcdcikaaGreatDoor
