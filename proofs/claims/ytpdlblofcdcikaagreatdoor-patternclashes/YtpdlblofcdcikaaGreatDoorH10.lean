/- Contract of the reference's first. Conditions: none. -/
import Derived.Test.YtpdlblofcdcikaaGreatDoorH9
set_option linter.unusedSimpArgs false
set_option linter.unusedVariables false
namespace Go.Proofs.YtpdlblofcdcikaaGreatDoor
open Go.Idl

theorem dm_eq {w i j : Nat} (h : j < w) : (i * w + j) / w = i ∧ (i * w + j) % w = j := by
  constructor
  · rw [Nat.mul_comm, Nat.mul_add_div (by omega), Nat.div_eq_of_lt h, Nat.add_zero]
  · rw [Nat.mul_comm, Nat.mul_add_mod, Nat.mod_eq_of_lt h]
theorem atM_at {m : List (List Int)} {w i j : Nat} (h : j < w) : atM m w (i * w + j) = (m.getD i []).getD j 0 := by
  unfold atM
  rw [(dm_eq h).1, (dm_eq h).2]
theorem resTT {fn : Func} {s t : Tmp} {env : Env} {H : IH} {u v : Value} (hr : fn.results = #[.tmp s, .tmp t]) (h1 : nthR env s = some u) (h2 : nthR env t = some v) : iresults Tryz.prog fn env H = some (.tuple #[u, v]) := by
  unfold iresults
  rw [hr]
  simp [iresL, ires1, h1, h2, one]
/-! 136: first -/
def pre136 (x : Value × Int) (args : List Value) (H : IH) : Prop := args = [x.1, .int .i64 x.2] ∧ ∃ rs w, picOf H x.1 = some rs ∧ (∀ zs ∈ rs.map (·.2), zs.length = w) ∧ w ≤ 1000
def post136 (x : Value × Int) (H : IH) (v : Value) (H' : IH) : Prop := H' = H ∧ (∃ a b : Int, v = .tuple #[.int .i64 a, .int .i64 b]) ∧ ∀ rs w t, picOf H x.1 = some rs → (∀ zs ∈ rs.map (·.2), zs.length = w) → t < rs.length * w → atM (rs.map (·.2)) w t = x.2 →
  v = .tuple #[.int .i64 ((fstC (atM (rs.map (·.2)) w) t / w : Nat) : Int), .int .i64 ((fstC (atM (rs.map (·.2)) w) t % w : Nat) : Int)]
theorem uniq136 (x y : Value × Int) (args : List Value) (H : IH) (hx : pre136 x args H) (hy : pre136 y args H) : x = y := by
  obtain ⟨p, z⟩ := x
  obtain ⟨p', z'⟩ := y
  have h1 := hx.1.symm.trans hy.1
  simp at h1
  rw [h1.1, h1.2]
noncomputable def hat10 : Nats := addS hat9 136 pre136 post136
theorem width_eq {rs : List (Value × List Int)} {w w' t : Nat} (h : ∀ zs ∈ rs.map (·.2), zs.length = w) (h' : ∀ zs ∈ rs.map (·.2), zs.length = w') (ht : t < rs.length * w') : w' = w := by
  cases rs with
  | nil => simp at ht
  | cons r rs => rw [← h r.2 (by simp), ← h' r.2 (by simp)]
set_option maxRecDepth 20000 in
theorem setH10 : Setup Tryz.prog good hat10 (globG 3) := setH9.addS pre136 post136 fun x args H ⟨ha, rs, w, hr, hw, hwm⟩ => by
  obtain ⟨pv, z⟩ := x
  simp only at ha hr
  subst ha
  obtain ⟨ap, cp, rfl, hrl, _⟩ := picOf_inv hr
  refine CallI.of Tryz.func136 rfl (N := 34) rfl ?_
  show Holds _ _ false _ [.slice ap rs.length cp, .int .i64 z, undef, undef, undef, undef, undef, undef, undef, undef, undef, undef, undef, undef, undef, undef, undef, undef, undef, undef, undef, undef, undef, undef, undef, undef, undef, undef, undef, undef, undef, undef, undef, undef] H _
  refine setH9.regE 0 (by kernel_rfl) (by simp only [List.map_cons, List.map_nil]; rfl) (by simp only [qB, qC, qD, qE, qF, qG, qH, qJ, qK, qM, qN, qP, iop1, qR, qS, iop, qT, qV, qW, qX, qY, qZ, zA, Option.getD_some, zB, zC, zD, zE, zF, zG, zH, zJ, zK, zM, zN, Step1.ofO, lenC, callF, zP, zR, zS, zT, zV, cond_true, cond_false, decide_true, decide_false, beq_self_eq_true, Bool.false_eq_true, Bool.true_eq_false, zW, zX, zY, zZ, Bool.not_true, Bool.not_false, appC, copyC, yA, List.map_cons, List.map_nil, goInt]; rfl) ?_
  refine .seqW (setH9.regE 0 (by kernel_rfl) (by simp only [List.map_cons, List.map_nil]; rfl) (by simp only [qB, qC, qD, qE, qF, qG, qH, qJ, qK, qM, qN, qP, iop1, qR, qS, iop, qT, qV, qW, qX, qY, qZ, zA, Option.getD_some, zB, zC, zD, zE, zF, zG, zH, zJ, zK, zM, zN, Step1.ofO, lenC, callF, zP, zR, zS, zT, zV, cond_true, cond_false, decide_true, decide_false, beq_self_eq_true, Bool.false_eq_true, Bool.true_eq_false, zW, zX, zY, zZ, Bool.not_true, Bool.not_false, appC, copyC, yA, List.map_cons, List.map_nil, goInt]; rfl) ?_)
  refine .loopW (fun m e h => ∃ (i : Nat), i ≤ rs.length ∧ m = rs.length - i ∧ e = [.slice ap rs.length cp, .int .i64 z, unk, unk, unk, unk, .int .i64 (i : Nat), unk, unk, unk, unk, unk, unk, unk, unk, unk, unk, unk, unk, unk, unk, unk, unk, unk, unk, unk, unk, unk, unk, unk, unk, unk, unk, unk] ∧ h = H ∧ ∀ x, x < i * w → atM (rs.map (·.2)) w x ≠ z) rs.length
    [.slice ap rs.length cp, .int .i64 z, unk, unk, unk, unk, .int .i64 0, unk, unk, unk, unk, unk, unk, unk, unk, unk, unk, unk, unk, unk, unk, unk, unk, unk, unk, unk, unk, unk, unk, unk, unk, unk, unk, unk] (by repeat (first | exact WkL.nil | refine WkL.same ?_ | refine WkL.any ?_)) ⟨0, Nat.zero_le _, rfl, rfl, rfl, fun x hx => by omega⟩ ?_
  rintro m e h ⟨i, hi, rfl, rfl, rfl, hno⟩
  refine setH9.headW2 (by kernel_rfl) (by simp only [List.map_cons, List.map_nil]; rfl) (by simp only [qB, qC, qD, qE, qF, qG, qH, qJ, qK, qM, qN, qP, iop1, qR, qS, iop, qT, qV, qW, qX, qY, qZ, zA, Option.getD_some, zB, zC, zD, zE, zF, zG, zH, zJ, zK, zM, zN, Step1.ofO, lenC, callF, zP, zR, zS, zT, zV, cond_true, cond_false, decide_true, decide_false, beq_self_eq_true, Bool.false_eq_true, Bool.true_eq_false, zW, zX, zY, zZ, Bool.not_true, Bool.not_false, appC, copyC, yA, List.map_cons, List.map_nil, goInt, lenB_slice u25]; rfl) (by kernel_rfl) (by simp only [qT, qX, qY, Option.getD_some]; rfl) (fun ht => ?_) (fun ht => ?_)
  · have hlt : i < rs.length := by simpa using ht
    have hx : rs[i]? = some rs[i] := List.getElem?_eq_getElem hlt
    have hl : rs[i].2.length = w := hw _ (List.mem_map.2 ⟨_, List.getElem_mem hlt, rfl⟩)
    obtain ⟨p, hp, hld, h3⟩ := read_row el25 hr hx (k := .i64)
    obtain ⟨ra, rc, h4, _, _⟩ := intsOf_inv h3
    rw [h4] at hld h3
    rw [hl] at hld h3
    refine .blockW (setH9.regE 0 (by kernel_rfl) (by simp only [List.map_cons, List.map_nil]; rfl) (by simp only [qB, qC, qD, qE, qF, qG, qH, qJ, qK, qM, qN, qP, iop1, qR, qS, iop, qT, qV, qW, qX, qY, qZ, zA, Option.getD_some, zB, zC, zD, zE, zF, zG, zH, zJ, zK, zM, zN, Step1.ofO, lenC, callF, zP, zR, zS, zT, zV, cond_true, cond_false, decide_true, decide_false, beq_self_eq_true, Bool.false_eq_true, Bool.true_eq_false, zW, zX, zY, zZ, Bool.not_true, Bool.not_false, appC, copyC, yA, List.map_cons, List.map_nil, goInt]; rfl) ?_)
    refine .loopW (fun m e h2 => ∃ (j : Nat), j ≤ w ∧ m = w - j ∧ e = [.slice ap rs.length cp, .int .i64 z, unk, unk, unk, unk, .int .i64 (i : Nat), .int .i64 (j : Nat), unk, unk, unk, unk, unk, unk, unk, unk, unk, unk, unk, unk, unk, unk, unk, unk, unk, unk, unk, unk, unk, unk, unk, unk, unk, unk] ∧ h2 = h ∧ ∀ x, x < i * w + j → atM (rs.map (·.2)) w x ≠ z) w
      [.slice ap rs.length cp, .int .i64 z, unk, unk, unk, unk, .int .i64 (i : Nat), .int .i64 0, unk, unk, unk, unk, unk, unk, unk, unk, unk, unk, unk, unk, unk, unk, unk, unk, unk, unk, unk, unk, unk, unk, unk, unk, unk, unk] (by repeat (first | exact WkL.nil | refine WkL.same ?_ | refine WkL.any ?_)) ⟨0, Nat.zero_le _, rfl, rfl, rfl, hno⟩ ?_
    rintro m e h2 ⟨j, hj, rfl, rfl, rfl, hno2⟩
    refine setH9.headW2 (by kernel_rfl) (by simp only [List.map_cons, List.map_nil]; rfl) (by simp only [qB, qC, qD, qE, qF, qG, qH, qJ, qK, qM, qN, qP, iop1, qR, qS, iop, qT, qV, qW, qX, qY, qZ, zA, Option.getD_some, zB, zC, zD, zE, zF, zG, zH, zJ, zK, zM, zN, Step1.ofO, lenC, callF, zP, zR, zS, zT, zV, cond_true, cond_false, decide_true, decide_false, beq_self_eq_true, Bool.false_eq_true, Bool.true_eq_false, zW, zX, zY, zZ, Bool.not_true, Bool.not_false, appC, copyC, yA, List.map_cons, List.map_nil, goInt, hp, hld, lenB_slice u22]; rfl) (by kernel_rfl) (by simp only [qT, qX, qY, Option.getD_some]; rfl) (fun ht2 => ?_) (fun ht2 => ?_)
    · have hjlt : j < w := by simpa using ht2
      have hy : rs[i].2[j]? = some (rs[i].2[j]'(by omega)) := List.getElem?_eq_getElem (by omega)
      obtain ⟨s, hs, hls⟩ := read_int el22 h3 hy (k := .i64)
      have hat : atM (rs.map (·.2)) w (i * w + j) = rs[i].2[j]'(by omega) := by
        rw [atM_at hjlt]
        simp [List.getD, hx, hy]
      generalize rs[i].2[j]'(by omega) = y at hs hls hat
      refine .blockW (setH9.ifZ (by kernel_rfl) (by simp only [List.map_cons, List.map_nil]; rfl) (by simp only [qB, qC, qD, qE, qF, qG, qH, qJ, qK, qM, qN, qP, iop1, qR, qS, iop, qT, qV, qW, qX, qY, qZ, zA, Option.getD_some, zB, zC, zD, zE, zF, zG, zH, zJ, zK, zM, zN, Step1.ofO, lenC, callF, zP, zR, zS, zT, zV, cond_true, cond_false, decide_true, decide_false, beq_self_eq_true, Bool.false_eq_true, Bool.true_eq_false, zW, zX, zY, zZ, Bool.not_true, Bool.not_false, appC, copyC, yA, List.map_cons, List.map_nil, goInt, hp, hld, hs, hls]; rfl) (by kernel_rfl) (by simp only [qT, qX, qY, Option.getD_some]; rfl) (fun ht3 => ?_) (fun ht3 => .skip (BT.go ?_)))
      · have hyz : y = z := by simpa using ht3
        refine setH9.regE 0 (by kernel_rfl) (by simp only [List.map_cons, List.map_nil]; rfl) (by simp only [qB, qC, qD, qE, qF, qG, qH, qJ, qK, qM, qN, qP, iop1, qR, qS, iop, qT, qV, qW, qX, qY, qZ, zA, Option.getD_some, zB, zC, zD, zE, zF, zG, zH, zJ, zK, zM, zN, Step1.ofO, lenC, callF, zP, zR, zS, zT, zV, cond_true, cond_false, decide_true, decide_false, beq_self_eq_true, Bool.false_eq_true, Bool.true_eq_false, zW, zX, zY, zZ, Bool.not_true, Bool.not_false, appC, copyC, yA, List.map_cons, List.map_nil, goInt]; rfl) (.ret (BT.rt (LQ.rt (BT.rt (LQ.rt (ST.rt ⟨.inr rfl, .tuple #[.int .i64 (i : Nat), .int .i64 (j : Nat)], resTT rfl (by simp only [qX, qY]) (by simp only [qX, qY]), rfl, ⟨_, _, rfl⟩, fun rs' w' t hr' hw' ht' hz' => ?_⟩))))))
        simp only at hr' hz'
        rw [hr] at hr'
        cases hr'
        have hww := width_eq hw hw' ht'
        subst hww
        have hfc : fstC (atM (rs.map (·.2)) w') t = i * w' + j := fstC_unique (by rw [hat, hyz, hz']) fun x hx => by rw [hz']; exact hno2 x hx
        rw [hfc, (dm_eq hjlt).1, (dm_eq hjlt).2]
      · have hyz : y ≠ z := by simpa using ht3
        refine setH9.regZ 0 (by kernel_rfl) (by simp only [List.map_cons, List.map_nil]; rfl) (by simp only [qB, qC, qD, qE, qF, qG, qH, qJ, qK, qM, qN, qP, iop1, qR, qS, iop, qT, qV, qW, qX, qY, qZ, zA, Option.getD_some, zB, zC, zD, zE, zF, zG, zH, zJ, zK, zM, zN, Step1.ofO, lenC, callF, zP, zR, zS, zT, zV, cond_true, cond_false, decide_true, decide_false, beq_self_eq_true, Bool.false_eq_true, Bool.true_eq_false, zW, zX, zY, zZ, Bool.not_true, Bool.not_false, appC, copyC, yA, List.map_cons, List.map_nil, goInt, wrap_succ hjlt hwm]; rfl) (LQ.go (w - (j + 1)) (by omega) (by repeat (first | exact WkL.nil | refine WkL.same ?_ | refine WkL.any ?_)) ⟨j + 1, by omega, rfl, rfl, rfl, fun x hx => ?_⟩)
        by_cases hxj : x = i * w + j
        · rw [hxj, hat]; exact hyz
        · exact hno2 x (by omega)
    · have hge : j = w := by simp at ht2; omega
      subst hge
      refine BT.go (setH9.regZ 0 (by kernel_rfl) (by simp only [List.map_cons, List.map_nil]; rfl) (by simp only [qB, qC, qD, qE, qF, qG, qH, qJ, qK, qM, qN, qP, iop1, qR, qS, iop, qT, qV, qW, qX, qY, qZ, zA, Option.getD_some, zB, zC, zD, zE, zF, zG, zH, zJ, zK, zM, zN, Step1.ofO, lenC, callF, zP, zR, zS, zT, zV, cond_true, cond_false, decide_true, decide_false, beq_self_eq_true, Bool.false_eq_true, Bool.true_eq_false, zW, zX, zY, zZ, Bool.not_true, Bool.not_false, appC, copyC, yA, List.map_cons, List.map_nil, goInt, wrap_succ hlt hrl]; rfl) (LQ.go (rs.length - (i + 1)) (by omega) (by repeat (first | exact WkL.nil | refine WkL.same ?_ | refine WkL.any ?_)) ⟨i + 1, by omega, rfl, rfl, rfl, fun x hx => hno2 x (by rw [Nat.succ_mul] at hx; exact hx)⟩))
  · have hge : i = rs.length := by simp at ht; omega
    subst hge
    refine ST.go (setH9.regE 0 (by kernel_rfl) (by simp only [List.map_cons, List.map_nil]; rfl) (by simp only [qB, qC, qD, qE, qF, qG, qH, qJ, qK, qM, qN, qP, iop1, qR, qS, iop, qT, qV, qW, qX, qY, qZ, zA, Option.getD_some, zB, zC, zD, zE, zF, zG, zH, zJ, zK, zM, zN, Step1.ofO, lenC, callF, zP, zR, zS, zT, zV, cond_true, cond_false, decide_true, decide_false, beq_self_eq_true, Bool.false_eq_true, Bool.true_eq_false, zW, zX, zY, zZ, Bool.not_true, Bool.not_false, appC, copyC, yA, List.map_cons, List.map_nil, goInt]; rfl) (.ret ⟨.inr rfl, .tuple #[.int .i64 0, .int .i64 0], resTT rfl (by simp only [qX, qY]) (by simp only [qX, qY]), rfl, ⟨_, _, rfl⟩, fun rs' w' t hr' hw' ht' hz' => ?_⟩))
    simp only at hr' hz'
    rw [hr] at hr'
    cases hr'
    have hww := width_eq hw hw' ht'
    subst hww
    exact absurd hz' (hno t ht')
theorem e136 : enters Tryz.prog 136 = true := by kernel_rfl
end Go.Proofs.YtpdlblofcdcikaaGreatDoor
