/- Contracts of open and moved. Conditions: none. -/
import Derived.Test.YtpdlblofcdcikaaGreatDoorIdlK
import Derived.Test.YtpdlblofcdcikaaGreatDoorG8
set_option linter.unusedSimpArgs false
set_option linter.unusedVariables false
namespace Go.Proofs.YtpdlblofcdcikaaGreatDoor
open Go.Idl

theorem f117_0 (b : Nat) : ifieldAt Tryz.prog 117 (.pointer (some ⟨b, 0, none⟩)) 0 = some (.pointer (some ⟨b, 0, none⟩)) := by kernel_rfl
theorem f117_1 (b : Nat) : ifieldAt Tryz.prog 117 (.pointer (some ⟨b, 0, none⟩)) 1 = some (.pointer (some ⟨b, 1, none⟩)) := by kernel_rfl
theorem ag117 : aggT Tryz.prog 117 = some true := by kernel_rfl
theorem sz117 : szT Tryz.prog 117 = some 2 := by kernel_rfl
theorem al117 (H : IH) : ialloc Tryz.prog 117 H = some (.val (.pointer (some ⟨H.size, 0, none⟩)) (H.push (.cells #[.slice none 0 0, .slice none 0 0] 117))) := by kernel_rfl
theorem bd117 : ibuild Tryz.prog 117 [] = some (.agg #[.slice none 0 0, .slice none 0 0]) := by kernel_rfl

/-! 92: open -/
def pre92 (x : Nat × Value × List Int) (args : List Value) (H : IH) : Prop := args = [.int .i64 (x.1 : Int), x.2.1] ∧ intsOf H x.2.1 = some x.2.2 ∧ okW x.1 x.2.2 ∧ 0 < x.1 ∧ x.1 ≤ 12 ∧ H.base ≤ H.size
def post92 (x : Nat × Value × List Int) (H : IH) (v : Value) (H' : IH) : Prop := Old H H' ∧ ∃ sv fv, v = .agg #[sv, fv] ∧ Grown H' 3 H.size sv ((runW x.2.2 (rangeI x.1)).1.map (.int .i64)) ∧ OwnAt H' 3 H.size fv (fromL x.1 x.2.2)
theorem uniq92 (x y : Nat × Value × List Int) (args : List Value) (H : IH) (hx : pre92 x args H) (hy : pre92 y args H) : x = y := uniq112 x y args H ⟨hx.1, hx.2.1, hx.2.2.1, hx.2.2.2.1, hx.2.2.2.2.1, hx.2.2.2.2.2⟩ ⟨hy.1, hy.2.1, hy.2.2.1, hy.2.2.2.1, hy.2.2.2.2.1, hy.2.2.2.2.2⟩
noncomputable def nat42 : Nats := addS nat41 92 pre92 post92
set_option maxRecDepth 10000 in
theorem setup42 : Setup Tryz.prog good nat42 (globG 3) := setup41.addS pre92 post92 fun x args H ⟨ha, hz, hok, hn0, hn, hb⟩ => by
  obtain ⟨n, wv, ws⟩ := x
  simp only at ha hz hok hn hn0
  subst ha
  obtain ⟨aw, cw, rfl, hwl, _⟩ := intsOf_inv hz
  refine CallI.of Tryz.func92 rfl (N := 69) rfl ?_
  show Holds _ _ false _ [.int .i64 n, .slice aw ws.length cw, undef, undef, undef, undef, undef, undef, undef, undef, undef, undef, undef, undef, undef, undef, undef, undef, undef, undef, undef, undef, undef, undef, undef, undef, undef, undef, undef, undef, undef, undef, undef, undef, undef, undef, undef, undef, undef, undef, undef, undef, undef, undef, undef, undef, undef, undef, undef, undef, undef, undef, undef, undef, undef, undef, undef, undef, undef, undef, undef, undef, undef, undef, undef, undef, undef, undef, undef] H _
  refine setup41.regE 0 (by kernel_rfl) (by simp only [List.map_cons, List.map_nil]; rfl) (by simp only [qB, qC, qD, qE, qF, qG, qH, qJ, qK, qM, qN, qP, iop1, qR, qS, iop, qT, qV, qW, qX, qY, qZ, zA, Option.getD_some, zB, zC, zD, zE, zF, zG, zH, zJ, zK, zM, zN, Step1.ofO, lenC, callF, zP, zR, zS, zT, zV, cond_true, cond_false, decide_true, decide_false, beq_self_eq_true, Bool.false_eq_true, Bool.true_eq_false, zW, zX, zY, zZ, Bool.not_true, Bool.not_false, appC, copyC, yA, List.map_cons, List.map_nil, goInt, al117]; rfl) ?_
  have hst0 : ∀ (H0 : IH), H0.base ≤ H0.size → istoreAt Tryz.prog 117 (.pointer (some ⟨H0.size, 0, none⟩)) (.agg #[.slice none 0 0, .slice none 0 0]) (H0.push (.cells #[.slice none 0 0, .slice none 0 0] 117)) = some ((H0.push (.cells #[.slice none 0 0, .slice none 0 0] 117)).put H0.size (.cells #[.slice none 0 0, .slice none 0 0] 117)) :=
    fun H0 h0 => store_agg (vs := [.slice none 0 0, .slice none 0 0]) (l := [.slice none 0 0, .slice none 0 0]) (i := 0) sz117 rfl get_push_eq (by simp) rfl h0
  refine setup41.regE 0 (by kernel_rfl) (by simp only [List.map_cons, List.map_nil]; rfl) (by simp only [qB, qC, qD, qE, qF, qG, qH, qJ, qK, qM, qN, qP, iop1, qR, qS, iop, qT, qV, qW, qX, qY, qZ, zA, Option.getD_some, zB, zC, zD, zE, zF, zG, zH, zJ, zK, zM, zN, Step1.ofO, lenC, callF, zP, zR, zS, zT, zV, cond_true, cond_false, decide_true, decide_false, beq_self_eq_true, Bool.false_eq_true, Bool.true_eq_false, zW, zX, zY, zZ, Bool.not_true, Bool.not_false, appC, copyC, yA, List.map_cons, List.map_nil, goInt, bd117, al117, hst0 (H.push (.cells #[.slice none 0 0, .slice none 0 0] 117)) (show H.base ≤ H.size + 1 by omega)]; rfl) ?_
  generalize hb4 : H.size = b4
  have hs5 : (H.push (.cells #[.slice none 0 0, .slice none 0 0] 117)).size = b4 + 1 := by rw [← hb4]; rfl
  generalize hH2 : ((H.push (.cells #[.slice none 0 0, .slice none 0 0] 117)).push (.cells #[.slice none 0 0, .slice none 0 0] 117)).put (H.push (.cells #[.slice none 0 0, .slice none 0 0] 117)).size (.cells #[.slice none 0 0, .slice none 0 0] 117) = H2
  have hold2 : Old H H2 := by rw [← hH2]; exact ((Old.push H _).trans (Old.push _ _)).put (by simp)
  have hsz2 : H2.size = b4 + 2 := by rw [← hH2, ← hb4]; rfl
  have hg5 : H2.get (b4 + 1) = some (.cells [.slice none 0 0, .slice none 0 0].toArray 117 (0, 0)) := by rw [← hH2, hs5]; exact get_put_eq
  have hg4 : H2.get b4 = some (.cells [.slice none 0 0, .slice none 0 0].toArray 117 (0, 0)) := by
    rw [← hH2, hs5, get_put_ne (by omega), get_push_lt (by rw [hs5]; omega), ← hb4]; exact get_push_eq
  simp only [hs5]
  clear hH2 hst0
  refine .seqW (setup41.regE 0 (by kernel_rfl) (by simp only [List.map_cons, List.map_nil]; rfl) (by simp only [qB, qC, qD, qE, qF, qG, qH, qJ, qK, qM, qN, qP, iop1, qR, qS, iop, qT, qV, qW, qX, qY, qZ, zA, Option.getD_some, zB, zC, zD, zE, zF, zG, zH, zJ, zK, zM, zN, Step1.ofO, lenC, callF, zP, zR, zS, zT, zV, cond_true, cond_false, decide_true, decide_false, beq_self_eq_true, Bool.false_eq_true, Bool.true_eq_false, zW, zX, zY, zZ, Bool.not_true, Bool.not_false, appC, copyC, yA, List.map_cons, List.map_nil, goInt]; rfl) ?_)
  refine .loopW (fun m e h => ∃ (i : Nat) (fv : Value), i ≤ n ∧ m = n - i ∧ e = [.int .i64 n, .slice aw ws.length cw, unk, unk, .pointer (some ⟨b4, 0, none⟩), .pointer (some ⟨b4 + 1, 0, none⟩), unk, unk, unk, unk, unk, unk, .int .i64 n, .int .i64 (i : Nat), unk, unk, unk, unk, unk, unk, unk, unk, unk, unk, unk, unk, unk, unk, unk, unk, unk, unk, unk, unk, unk, unk, unk, unk, unk, unk, unk, unk, unk, unk, unk, unk, unk, unk, unk, unk, unk, unk, unk, unk, unk, unk, unk, unk, unk, unk, unk, unk, unk, unk, unk, unk, unk, unk, unk] ∧ Old H h ∧ b4 + 2 ≤ h.size ∧
      h.get b4 = some (.cells [.slice none 0 0, .slice none 0 0].toArray 117 (0, 0)) ∧ h.get (b4 + 1) = some (.cells [.slice none 0 0, fv].toArray 117 (0, 0)) ∧ Grown h 3 (b4 + 2) fv ((rangeI i).map (.int .i64))) n
    [.int .i64 n, .slice aw ws.length cw, unk, unk, .pointer (some ⟨b4, 0, none⟩), .pointer (some ⟨b4 + 1, 0, none⟩), unk, unk, unk, unk, unk, unk, .int .i64 n, .int .i64 0, unk, unk, unk, unk, unk, unk, unk, unk, unk, unk, unk, unk, unk, unk, unk, unk, unk, unk, unk, unk, unk, unk, unk, unk, unk, unk, unk, unk, unk, unk, unk, unk, unk, unk, unk, unk, unk, unk, unk, unk, unk, unk, unk, unk, unk, unk, unk, unk, unk, unk, unk, unk, unk, unk, unk] (by repeat (first | exact WkL.nil | refine WkL.same ?_ | refine WkL.any ?_))
    ⟨0, _, Nat.zero_le _, rfl, rfl, hold2, by omega, hg4, hg5, .nil _ _ _⟩ ?_
  rintro m e h ⟨i, fv, hi, rfl, rfl, hold, hsz, hq4, hq5, hfr⟩
  have hbase : h.base ≤ b4 := by rw [hold.base, ← hb4]; exact hb
  refine setup41.headW (by kernel_rfl) (by simp only [List.map_cons, List.map_nil]; rfl) (by simp only [qB, qC, qD, qE, qF, qG, qH, qJ, qK, qM, qN, qP, iop1, qR, qS, iop, qT, qV, qW, qX, qY, qZ, zA, Option.getD_some, zB, zC, zD, zE, zF, zG, zH, zJ, zK, zM, zN, Step1.ofO, lenC, callF, zP, zR, zS, zT, zV, cond_true, cond_false, decide_true, decide_false, beq_self_eq_true, Bool.false_eq_true, Bool.true_eq_false, zW, zX, zY, zZ, Bool.not_true, Bool.not_false, appC, copyC, yA, List.map_cons, List.map_nil, goInt]; rfl) (by kernel_rfl) (by simp only [qT, qX, qY, Option.getD_some]; rfl) (fun ht => ?_) (fun ht => ?_)
  · have hlt : i < n := by simpa using ht
    obtain ⟨fv', h3, happ, hfr', hsz3, hbs3, hkeep3, hnew3⟩ := hfr.app (x := .int .i64 (i : Int)) el22 rfl (ints_one _) (by simp [rangeI_len]; omega) (by omega) hsz
    have hld := load_cell (t := 22) ag22 (i := 1) hq5 rfl
    have hn4 : ∀ b, b < b4 + 2 → h3.get b = h.get b := fun b hb' => hkeep3 b (by omega) (hfr.notOld hb')
    have hg5' := hn4 (b4 + 1) (by omega)
    rw [hq5] at hg5'
    obtain ⟨af, haf⟩ := hfr'.len
    have hst := store_cell (t := 22) sz22 (i := 1) (v := fv') (by rw [haf]; rfl) (by rw [haf]; rfl) hg5' (by simp) rfl (by rw [hbs3]; omega)
    refine .blockW (setup41.regE 0 (by kernel_rfl) (by simp only [List.map_cons, List.map_nil]; rfl) (by simp only [qB, qC, qD, qE, qF, qG, qH, qJ, qK, qM, qN, qP, iop1, qR, qS, iop, qT, qV, qW, qX, qY, qZ, zA, Option.getD_some, zB, zC, zD, zE, zF, zG, zH, zJ, zK, zM, zN, Step1.ofO, lenC, callF, zP, zR, zS, zT, zV, cond_true, cond_false, decide_true, decide_false, beq_self_eq_true, Bool.false_eq_true, Bool.true_eq_false, zW, zX, zY, zZ, Bool.not_true, Bool.not_false, appC, copyC, yA, List.map_cons, List.map_nil, goInt]; rfl) (setup41.regZ 0 (by kernel_rfl) (by simp only [List.map_cons, List.map_nil]; rfl) (by simp only [qB, qC, qD, qE, qF, qG, qH, qJ, qK, qM, qN, qP, iop1, qR, qS, iop, qT, qV, qW, qX, qY, qZ, zA, Option.getD_some, zB, zC, zD, zE, zF, zG, zH, zJ, zK, zM, zN, Step1.ofO, lenC, callF, zP, zR, zS, zT, zV, cond_true, cond_false, decide_true, decide_false, beq_self_eq_true, Bool.false_eq_true, Bool.true_eq_false, zW, zX, zY, zZ, Bool.not_true, Bool.not_false, appC, copyC, yA, List.map_cons, List.map_nil, goInt, f117_1, hld, b1i, happ, hst]; rfl) (BT.go ?_)))
    refine setup41.regZ 0 (by kernel_rfl) (by simp only [List.map_cons, List.map_nil]; rfl) (by simp only [qB, qC, qD, qE, qF, qG, qH, qJ, qK, qM, qN, qP, iop1, qR, qS, iop, qT, qV, qW, qX, qY, qZ, zA, Option.getD_some, zB, zC, zD, zE, zF, zG, zH, zJ, zK, zM, zN, Step1.ofO, lenC, callF, zP, zR, zS, zT, zV, cond_true, cond_false, decide_true, decide_false, beq_self_eq_true, Bool.false_eq_true, Bool.true_eq_false, zW, zX, zY, zZ, Bool.not_true, Bool.not_false, appC, copyC, yA, List.map_cons, List.map_nil, goInt, wrap_succ hlt (by omega)]; rfl) (LQ.go (n - (i + 1)) (by omega) (by repeat (first | exact WkL.nil | refine WkL.same ?_ | refine WkL.any ?_)) ⟨i + 1, fv', by omega, rfl, rfl, ?_, by show b4 + 2 ≤ h3.size; omega, ?_, get_put_eq, ?_⟩)
    · exact (hold.of (by omega) hbs3 fun b hb' => hn4 b (by omega)).put (by omega)
    · rw [get_put_ne (by omega), hn4 b4 (by omega)]; exact hq4
    · rw [rangeI_succ, List.map_append]
      exact hfr'.keep (Nat.le_refl _) fun b q1 _ _ => get_put_ne (by omega)
  · have hge : i = n := by simp at ht; omega
    subst hge
    refine ST.go (.seqW (setup41.regE 0 (by kernel_rfl) (by simp only [List.map_cons, List.map_nil]; rfl) (by simp only [qB, qC, qD, qE, qF, qG, qH, qJ, qK, qM, qN, qP, iop1, qR, qS, iop, qT, qV, qW, qX, qY, qZ, zA, Option.getD_some, zB, zC, zD, zE, zF, zG, zH, zJ, zK, zM, zN, Step1.ofO, lenC, callF, zP, zR, zS, zT, zV, cond_true, cond_false, decide_true, decide_false, beq_self_eq_true, Bool.false_eq_true, Bool.true_eq_false, zW, zX, zY, zZ, Bool.not_true, Bool.not_false, appC, copyC, yA, List.map_cons, List.map_nil, goInt, lenB_slice u22]; rfl) ?_))
    have hfo : OwnAt h 3 (b4 + 2) fv (rangeI i) := hfr.own (by intro e; have := rangeI_len i; rw [e] at this; simp at this; omega)
    refine .loopW (fun m e h2 => ∃ (j : Nat) (sv : Value), j ≤ ws.length ∧ m = ws.length - j ∧ e = [unk, unk, unk, unk, .pointer (some ⟨b4, 0, none⟩), .pointer (some ⟨b4 + 1, 0, none⟩), unk, unk, unk, unk, unk, unk, unk, unk, unk, unk, unk, unk, unk, unk, unk, unk, unk, .slice aw ws.length cw, .int .i64 (ws.length : Nat), .int .i64 (j : Nat), unk, unk, unk, unk, unk, unk, unk, unk, unk, unk, unk, unk, unk, unk, unk, unk, unk, unk, unk, unk, unk, unk, unk, unk, unk, unk, unk, unk, unk, unk, unk, unk, unk, unk, unk, unk, unk, unk, unk, unk, unk, unk, unk] ∧ Old H h2 ∧ h.size ≤ h2.size ∧
        h2.get b4 = some (.cells [.slice none 0 0, .slice none 0 0].toArray 117 (0, 0)) ∧ h2.get (b4 + 1) = some (.cells [sv, fv].toArray 117 (0, 0)) ∧ OwnAt h2 3 (b4 + 2) fv (runW (ws.take j) (rangeI i)).2 ∧ Grown h2 3 h.size sv ((runW (ws.take j) (rangeI i)).1.map (.int .i64))) ws.length
      [unk, unk, unk, unk, .pointer (some ⟨b4, 0, none⟩), .pointer (some ⟨b4 + 1, 0, none⟩), unk, unk, unk, unk, unk, unk, unk, unk, unk, unk, unk, unk, unk, unk, unk, unk, unk, .slice aw ws.length cw, .int .i64 (ws.length : Nat), .int .i64 0, unk, unk, unk, unk, unk, unk, unk, unk, unk, unk, unk, unk, unk, unk, unk, unk, unk, unk, unk, unk, unk, unk, unk, unk, unk, unk, unk, unk, unk, unk, unk, unk, unk, unk, unk, unk, unk, unk, unk, unk, unk, unk, unk] (by repeat (first | exact WkL.nil | refine WkL.same ?_ | refine WkL.any ?_))
      ⟨0, _, Nat.zero_le _, rfl, rfl, hold, Nat.le_refl _, hq4, hq5, hfo, .nil _ _ _⟩ ?_
    rintro m e h2 ⟨j, sv, hj, rfl, rfl, hold2, hsz2', hr4, hr5, hown, hsn⟩
    have hbase2 : h2.base ≤ b4 := by rw [hold2.base, ← hb4]; exact hb
    refine setup41.headW (by kernel_rfl) (by simp only [List.map_cons, List.map_nil]; rfl) (by simp only [qB, qC, qD, qE, qF, qG, qH, qJ, qK, qM, qN, qP, iop1, qR, qS, iop, qT, qV, qW, qX, qY, qZ, zA, Option.getD_some, zB, zC, zD, zE, zF, zG, zH, zJ, zK, zM, zN, Step1.ofO, lenC, callF, zP, zR, zS, zT, zV, cond_true, cond_false, decide_true, decide_false, beq_self_eq_true, Bool.false_eq_true, Bool.true_eq_false, zW, zX, zY, zZ, Bool.not_true, Bool.not_false, appC, copyC, yA, List.map_cons, List.map_nil, goInt]; rfl) (by kernel_rfl) (by simp only [qT, qX, qY, Option.getD_some]; rfl) (fun ht2 => ?_) (fun ht2 => ?_)
    · have hjlt : j < ws.length := by simpa using ht2
      have hcj : ws[j]? = some ws[j] := List.getElem?_eq_getElem hjlt
      obtain ⟨hc0, hcn⟩ := hok ws[j] (List.getElem_mem hjlt)
      generalize ws[j] = c at hcj hc0 hcn
      have hl2 : (runW (ws.take j) (rangeI i)).2.length = i := by rw [(runW_len _ _).2, rangeI_len]
      have hl1 : (runW (ws.take j) (rangeI i)).1.length = j := by rw [(runW_len _ _).1]; simp; omega
      have hrun := runW_snoc c (ws.take j) (rangeI i)
      rw [← take_succ hcj] at hrun
      generalize runW (ws.take j) (rangeI i) = st at hown hsn hl1 hl2 hrun
      obtain ⟨p, hp, hld⟩ := read_int el22 (intsOf_old hold2 hz) hcj (k := .i64)
      refine .blockW (setup41.regE 0 (by kernel_rfl) (by simp only [List.map_cons, List.map_nil]; rfl) (by simp only [qB, qC, qD, qE, qF, qG, qH, qJ, qK, qM, qN, qP, iop1, qR, qS, iop, qT, qV, qW, qX, qY, qZ, zA, Option.getD_some, zB, zC, zD, zE, zF, zG, zH, zJ, zK, zM, zN, Step1.ofO, lenC, callF, zP, zR, zS, zT, zV, cond_true, cond_false, decide_true, decide_false, beq_self_eq_true, Bool.false_eq_true, Bool.true_eq_false, zW, zX, zY, zZ, Bool.not_true, Bool.not_false, appC, copyC, yA, List.map_cons, List.map_nil, goInt, hp, hld]; rfl) (setup41.regE 0 (by kernel_rfl) (by simp only [List.map_cons, List.map_nil]; rfl) (by simp only [qB, qC, qD, qE, qF, qG, qH, qJ, qK, qM, qN, qP, iop1, qR, qS, iop, qT, qV, qW, qX, qY, qZ, zA, Option.getD_some, zB, zC, zD, zE, zF, zG, zH, zJ, zK, zM, zN, Step1.ofO, lenC, callF, zP, zR, zS, zT, zV, cond_true, cond_false, decide_true, decide_false, beq_self_eq_true, Bool.false_eq_true, Bool.true_eq_false, zW, zX, zY, zZ, Bool.not_true, Bool.not_false, appC, copyC, yA, List.map_cons, List.map_nil, goInt]; rfl) ?_))
      have hk : c = (c.natAbs : Int) ∧ 0 < c ∨ c = 0 - (c.natAbs : Int) ∧ c < 0 := by omega
      generalize hkk : c.natAbs = k at hk hcn hrun
      obtain ⟨z, hzz⟩ : ∃ z, st.2[idxC c]? = some z := ⟨_, List.getElem?_eq_getElem (by unfold idxC; rw [hl2]; split <;> omega)⟩
      have hgz : st.2.getD (idxC c) 0 = z := by simp [List.getD, hzz]
      rw [hgz] at hrun
      have hov : ∃ ov : Nat, IntKind.i64.wrap (IntKind.i64.wrap ((k : Int) - 1) + (ov : Int)) = (idxC c : Nat) ∧ (0 < c ∧ ov = 0 ∨ c < 0 ∧ ov = 1) := by
        rcases hk with ⟨h1, h2⟩ | ⟨h1, h2⟩
        · refine ⟨0, ?_, .inl ⟨h2, rfl⟩⟩
          rw [wrap_pred (by omega) (by omega), wrap_id (by omega) (by omega)]
          unfold idxC; rw [if_pos h2]; omega
        · refine ⟨1, ?_, .inr ⟨h2, rfl⟩⟩
          rw [wrap_pred (by omega) (by omega), wrap_id (by omega) (by omega)]
          unfold idxC; rw [if_neg (by omega)]; omega
      obtain ⟨ov, hwov, hov⟩ := hov
      refine setup41.ifJ (fun e h' => e = [unk, unk, unk, unk, .pointer (some ⟨b4, 0, none⟩), .pointer (some ⟨b4 + 1, 0, none⟩), unk, unk, unk, .int .i64 (k : Nat), .int .i64 (ov : Nat), unk, unk, unk, unk, unk, unk, unk, unk, unk, unk, unk, unk, .slice aw ws.length cw, .int .i64 (ws.length : Nat), .int .i64 (j : Nat), unk, unk, unk, unk, unk, unk, unk, unk, unk, unk, unk, unk, unk, unk, unk, unk, unk, unk, unk, unk, unk, unk, unk, unk, unk, unk, unk, unk, unk, unk, unk, unk, unk, unk, unk, unk, unk, unk, unk, unk, unk, unk, unk] ∧ h' = h2) (by kernel_rfl) (by simp only [List.map_cons, List.map_nil]; rfl) (by simp only [qB, qC, qD, qE, qF, qG, qH, qJ, qK, qM, qN, qP, iop1, qR, qS, iop, qT, qV, qW, qX, qY, qZ, zA, Option.getD_some, zB, zC, zD, zE, zF, zG, zH, zJ, zK, zM, zN, Step1.ofO, lenC, callF, zP, zR, zS, zT, zV, cond_true, cond_false, decide_true, decide_false, beq_self_eq_true, Bool.false_eq_true, Bool.true_eq_false, zW, zX, zY, zZ, Bool.not_true, Bool.not_false, appC, copyC, yA, List.map_cons, List.map_nil, goInt]; rfl) (by kernel_rfl) (by simp only [qT, qX, qY, Option.getD_some]; rfl) (fun ht3 => ?_) (fun ht3 => ?_) ?_
      · have hc : c = 0 - (k : Int) := by simp at ht3; omega
        have ho1 : ov = 1 := by simp at ht3; omega
        subst ho1
        have hw : IntKind.i64.wrap (0 - c) = (k : Int) := by rw [wrap_id (by omega) (by omega)]; omega
        exact setup41.regZ 0 (by kernel_rfl) (by simp only [List.map_cons, List.map_nil]; rfl) (by simp only [qB, qC, qD, qE, qF, qG, qH, qJ, qK, qM, qN, qP, iop1, qR, qS, iop, qT, qV, qW, qX, qY, qZ, zA, Option.getD_some, zB, zC, zD, zE, zF, zG, zH, zJ, zK, zM, zN, Step1.ofO, lenC, callF, zP, zR, zS, zT, zV, cond_true, cond_false, decide_true, decide_false, beq_self_eq_true, Bool.false_eq_true, Bool.true_eq_false, zW, zX, zY, zZ, Bool.not_true, Bool.not_false, appC, copyC, yA, List.map_cons, List.map_nil, goInt, hw]; rfl) (JT.go (by repeat (first | exact WkL.nil | refine WkL.same ?_ | refine WkL.any ?_)) ⟨rfl, rfl⟩)
      · have hc : c = (k : Int) := by simp at ht3; omega
        have ho0 : ov = 0 := by simp at ht3; omega
        subst ho0
        subst hc
        exact .skip (JT.go (by repeat (first | exact WkL.nil | refine WkL.same ?_ | refine WkL.any ?_)) ⟨rfl, rfl⟩)
      · rintro e h' ⟨rfl, rfl⟩
        obtain ⟨p2, hp2, hld2⟩ := hown.read el22 hzz (k := .i64)
        have hl50 := load_cell (t := 22) ag22 (i := 0) hr5 rfl
        have hl51 := load_cell (t := 22) ag22 (i := 1) hr5 rfl
        obtain ⟨sv', h3, happ, hsn', hsz3, hbs3, hkeep3, hnew3⟩ := hsn.app (x := .int .i64 z) el22 rfl (ints_one _) (by simp [hl1]; omega) (by omega) hsz2'
        have hn4 : ∀ b, b < h.size → h3.get b = h'.get b := fun b hb' => hkeep3 b (by omega) (hsn.notOld hb')
        have hg5' := hn4 (b4 + 1) (by omega)
        rw [hr5] at hg5'
        obtain ⟨av, has⟩ := hsn'.len
        have hst := store_cell (t := 22) sz22 (i := 0) (v := sv') (by rw [has]; rfl) (by rw [has]; rfl) hg5' (by simp) rfl (by rw [hbs3]; omega)
        have hfb : ∀ b, blkIs fv b → b4 + 2 ≤ b ∧ b < h.size := fun b hb' => hfo.blk_lt hb'
        have hl35 : ∀ (ob : Obj), iloadAt Tryz.prog 22 (.pointer (some ⟨b4 + 1, 0, none⟩)) (h'.push ob) = some sv := fun ob => load_cell (t := 22) ag22 (i := 0) (by rw [get_push_lt (by omega)]; exact hr5) rfl
        obtain ⟨av0, hsv0⟩ := hsn.len
        refine .seqW (setup41.drawXN (lo := [(1, 0, 1)]) (by kernel_rfl) (by kernel_rfl) (by kernel_rfl) (by kernel_rfl) (by kernel_rfl) (by kernel_rfl) (by simp only [List.map_cons, List.map_nil]; rfl) (by simp only [qB, qC, qD, qE, qF, qG, qH, qJ, qK, qM, qN, qP, iop1, qR, qS, iop, qT, qV, qW, qX, qY, qZ, zA, Option.getD_some, zB, zC, zD, zE, zF, zG, zH, zJ, zK, zM, zN, Step1.ofO, lenC, callF, zP, zR, zS, zT, zV, cond_true, cond_false, decide_true, decide_false, beq_self_eq_true, Bool.false_eq_true, Bool.true_eq_false, zW, zX, zY, zZ, Bool.not_true, Bool.not_false, appC, copyC, yA, List.map_cons, List.map_nil, goInt, yD, yE, yF, yG, yH, clsOf, Cls.eff, yJ, yK, f117_0, f117_1, hl50, hl51, hwov, hp2, hld2, b1i, happ, hst]; rfl) (all_one (Bool.and_eq_true_iff.2 ⟨by kernel_rfl, by exact simple_slice hsv0⟩)) ⟨fun m E q1 q2 q3 => ?_, trivial⟩ (ST.go ?_))
        · have hm : m = 0 ∨ m = 1 := by simp at q1 q2; omega
          rcases hm with rfl | rfl
          · cases q3; exact hl50
          · cases q3; exact hl35 _
        · generalize hH4 : h3.put (b4 + 1) (.cells ([sv, fv].set 0 sv').toArray 117 (0, 0)) = H4
          have hs4 : H4.size = h3.size := by rw [← hH4]; rfl
          have hb4' : H4.base = h3.base := by rw [← hH4]; rfl
          have hk4 : ∀ b, b ≠ b4 + 1 → H4.get b = h3.get b := fun b hb' => by rw [← hH4]; exact get_put_ne hb'
          have hg45 : H4.get (b4 + 1) = some (.cells [sv', fv].toArray 117 (0, 0)) := by rw [← hH4]; exact get_put_eq
          have hown4 : OwnAt H4 3 (b4 + 2) fv st.2 := hown.keep (by omega) fun b q1 q2 q3 => by rw [hk4 b (by omega), hn4 b (hfb b q3).2]
          obtain ⟨x1, hx1⟩ : ∃ x, st.2[k - 1]? = some x := ⟨_, List.getElem?_eq_getElem (by rw [hl2]; omega)⟩
          obtain ⟨x2, hx2⟩ : ∃ x, st.2[k]? = some x := ⟨_, List.getElem?_eq_getElem (by rw [hl2]; omega)⟩
          obtain ⟨p3, q3, H5, H6, s1, s2, s3, s4, s5, s6, hown6, s7, s8, s9⟩ := hown4.swap el22 hx1 hx2 (by rw [hb4', hbs3]; omega) (k := .i64)
          have hsw : swapL st.2 k = (st.2.set (k - 1) x2).set k x1 := by simp [swapL, List.getD, hx1, hx2]
          rw [hsw] at hrun
          have hl6 := load_cell (t := 22) ag22 (i := 1) hg45 rfl
          have hn5 : ∀ b, b ≠ b4 + 1 → b < h.size → ¬ blkIs fv b → H6.get b = h'.get b := fun b q1 q2 q3 => (s9 b q3).trans ((hk4 b q1).trans (hn4 b q2))
          have hl5' : iloadAt Tryz.prog 22 (.pointer (some ⟨b4 + 1, 1, none⟩)) H5 = some fv := by
            obtain ⟨_, H5', t1, t2, _, _, _, t6⟩ := hown4.write el22 (i := k - 1) (by rw [hl2]; omega) (by rw [hb4', hbs3]; omega) x2 (k := .i64)
            rw [s1] at t1; cases t1
            rw [s5] at t2; cases t2
            exact load_cell (t := 22) ag22 (i := 1) (by rw [t6 (b4 + 1) (fun q => by have := (hfb _ q).1; omega)]; exact hg45) rfl
          obtain ⟨af0, haf0⟩ := hown.len
          refine setup41.drawXN (lo := [(5, 0, 1)]) (by kernel_rfl) (by kernel_rfl) (by kernel_rfl) (by kernel_rfl) (by kernel_rfl) (by kernel_rfl) (by simp only [List.map_cons, List.map_nil]; rfl) (by simp only [qB, qC, qD, qE, qF, qG, qH, qJ, qK, qM, qN, qP, iop1, qR, qS, iop, qT, qV, qW, qX, qY, qZ, zA, Option.getD_some, zB, zC, zD, zE, zF, zG, zH, zJ, zK, zM, zN, Step1.ofO, lenC, callF, zP, zR, zS, zT, zV, cond_true, cond_false, decide_true, decide_false, beq_self_eq_true, Bool.false_eq_true, Bool.true_eq_false, zW, zX, zY, zZ, Bool.not_true, Bool.not_false, appC, copyC, yA, List.map_cons, List.map_nil, goInt, yD, yE, yF, yG, yH, clsOf, Cls.eff, yJ, yK, f117_1, hl6, wrap_pred (k := k) (by omega) (by omega), s1, s2, s3, s4, s5, s6]; rfl) (all_one (Bool.and_eq_true_iff.2 ⟨by kernel_rfl, by exact simple_slice haf0⟩)) ⟨fun m E q1 q2 q3 => ?_, trivial⟩ (BT.go ?_)
          · have hm : m = 0 ∨ m = 1 := by simp at q1 q2; omega
            rcases hm with rfl | rfl
            · cases q3; exact hl6
            · cases q3; exact hl5'
          · refine setup41.regZ 0 (by kernel_rfl) (by simp only [List.map_cons, List.map_nil]; rfl) (by simp only [qB, qC, qD, qE, qF, qG, qH, qJ, qK, qM, qN, qP, iop1, qR, qS, iop, qT, qV, qW, qX, qY, qZ, zA, Option.getD_some, zB, zC, zD, zE, zF, zG, zH, zJ, zK, zM, zN, Step1.ofO, lenC, callF, zP, zR, zS, zT, zV, cond_true, cond_false, decide_true, decide_false, beq_self_eq_true, Bool.false_eq_true, Bool.true_eq_false, zW, zX, zY, zZ, Bool.not_true, Bool.not_false, appC, copyC, yA, List.map_cons, List.map_nil, goInt, wrap_succ hjlt hwl]; rfl) (LQ.go (ws.length - (j + 1)) (by omega) (by repeat (first | exact WkL.nil | refine WkL.same ?_ | refine WkL.any ?_)) ⟨j + 1, sv', by omega, rfl, rfl, ?_, by omega, ?_, ?_, ?_, ?_⟩)
            · exact hold2.of (by omega) (by rw [s8, hb4', hbs3]) fun b q1 => hn5 b (by omega) (by omega) fun q => by have := (hfb b q).1; omega
            · rw [hn5 b4 (by omega) (by omega) fun q => by have := (hfb _ q).1; omega]; exact hr4
            · rw [s9 (b4 + 1) fun q => by have := (hfb _ q).1; omega]; exact hg45
            · rw [hrun]; exact hown6
            · rw [hrun]
              refine (hsn'.get_cast (by simp)).keep (by omega) fun b q1 q2 q3 => ?_
              rw [s9 b fun q => by have := (hfb b q).2; omega, hk4 b (by omega)]
    · have hge : j = ws.length := by simp at ht2; omega
      subst hge
      rw [List.take_length] at hown hsn
      have hl5 : iloadAt Tryz.prog 117 (.pointer (some ⟨b4 + 1, 0, none⟩)) h2 = some (.agg #[sv, fv]) := load_agg (t := 117) (i := 0) ag117 sz117 hr5 (by simp)
      obtain ⟨av, has⟩ := hsn.len
      obtain ⟨af, haf⟩ := hown.len
      have hst : istoreAt Tryz.prog 117 (.pointer (some ⟨b4, 0, none⟩)) (.agg #[sv, fv]) h2 = some (h2.put b4 (.cells (overwrite [.slice none 0 0, .slice none 0 0] 0 [sv, fv]).toArray 117 (0, 0))) := store_agg (P := Tryz.prog) (t := 117) (vs := [sv, fv]) (i := 0) sz117 (by rw [has, haf]; rfl) hr4 (by simp) rfl hbase2
      refine ST.go (setup41.regE 0 (by kernel_rfl) (by simp only [List.map_cons, List.map_nil]; rfl) (by simp only [qB, qC, qD, qE, qF, qG, qH, qJ, qK, qM, qN, qP, iop1, qR, qS, iop, qT, qV, qW, qX, qY, qZ, zA, Option.getD_some, zB, zC, zD, zE, zF, zG, zH, zJ, zK, zM, zN, Step1.ofO, lenC, callF, zP, zR, zS, zT, zV, cond_true, cond_false, decide_true, decide_false, beq_self_eq_true, Bool.false_eq_true, Bool.true_eq_false, zW, zX, zY, zZ, Bool.not_true, Bool.not_false, appC, copyC, yA, List.map_cons, List.map_nil, goInt, hl5, hst]; rfl) ?_)
      have hol : Old H (h2.put b4 (.cells (overwrite [.slice none 0 0, .slice none 0 0] 0 [sv, fv]).toArray 117 (0, 0))) := hold2.put (by omega)
      refine .ret ⟨.inr rfl, .agg #[sv, fv], ?_, hol, sv, fv, rfl, ?_, ?_⟩
      · unfold iresults
        have hr : Tryz.f92.results = #[.cell 4 117] := rfl
        rw [hr]
        have hl4 : iloadAt Tryz.prog 117 (.pointer (some ⟨b4, 0, none⟩)) (h2.put b4 (.cells (overwrite [.slice none 0 0, .slice none 0 0] 0 [sv, fv]).toArray 117 (0, 0))) = some (.agg #[sv, fv]) := load_agg (t := 117) (i := 0) (l := [sv, fv]) ag117 sz117 get_put_eq (by simp)
        simp only [iresL, ires1, qX, qY, Option.getD_some, hl4, Option.map_some, one]
      · exact (hsn.lower (by omega)).keep (Nat.le_refl _) fun b q1 q2 q3 => get_put_ne (by have := (hsn.blk_lt q3).1; omega)
      · exact (hown.lower (by omega)).keep (Nat.le_refl _) fun b q1 q2 q3 => get_put_ne (by have := (hown.blk_lt q3).1; omega)
theorem e92 : enters Tryz.prog 92 = true := by kernel_rfl
end Go.Proofs.YtpdlblofcdcikaaGreatDoor
