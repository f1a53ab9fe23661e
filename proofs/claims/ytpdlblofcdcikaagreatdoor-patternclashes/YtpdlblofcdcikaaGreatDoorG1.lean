/- Contracts of Identity and of the reference's Seen. Conditions: none. -/
import Derived.Test.YtpdlblofcdcikaaGreatDoorIdlK
import Derived.Test.YtpdlblofcdcikaaGreatDoorF6
set_option linter.unusedSimpArgs false
set_option linter.unusedVariables false
namespace Go.Proofs.YtpdlblofcdcikaaGreatDoor
open Go.Idl

theorem el22 : El Tryz.prog 22 3 := ⟨u22, sz3, ag3, by kernel_rfl⟩
theorem el25 : El Tryz.prog 25 22 := ⟨u25, sz22, ag22, by kernel_rfl⟩
theorem b1i (z : Int) (H : IH) : ibuildSlice Tryz.prog 22 1 [(0, .int .i64 z)] H = some (.val (.slice (some ⟨H.size, 0, none⟩) 1 1) (H.push (.cells #[.int .i64 z] 3))) := by kernel_rfl
theorem b1s (a : Option Addr) (n c : Nat) (H : IH) : ibuildSlice Tryz.prog 25 1 [(0, .slice a n c)] H = some (.val (.slice (some ⟨H.size, 0, none⟩) 1 1) (H.push (.cells #[.slice a n c] 22))) := by kernel_rfl
theorem ints_one (zs : List Int) : (zs.map (Value.int .i64)).all oneCell = true := by simp [oneCell]

def rangeI (n : Nat) : List Int := (List.range n).map fun (i : Nat) => (i : Int)
theorem rangeI_succ (n : Nat) : rangeI (n + 1) = rangeI n ++ [(n : Int)] := by simp [rangeI, List.range_succ]
theorem rangeI_len (n : Nat) : (rangeI n).length = n := by simp [rangeI]

/-! 135: Identity -/
def pre135 (n : Nat) (args : List Value) (H : IH) : Prop := args = [.int .i64 (n : Int)] ∧ n ≤ 1000 ∧ H.base ≤ H.size
def post135 (n : Nat) (H : IH) (v : Value) (H' : IH) : Prop := Old H H' ∧ Grown H' 3 H.size v ((rangeI n).map (.int .i64))
theorem uniq135 (x y : Nat) (args : List Value) (H : IH) (hx : pre135 x args H) (hy : pre135 y args H) : x = y := by
  have := hx.1.symm.trans hy.1
  simp at this
  omega
noncomputable def nat21 : Nats := addS nat20 135 pre135 post135
set_option maxRecDepth 10000 in
theorem setup21 : Setup Tryz.prog good nat21 (globG 3) := setup20.addS pre135 post135 fun n args H ⟨ha, hn, hb⟩ => by
  subst ha
  refine CallI.of Tryz.func135 rfl (N := 15) rfl ?_
  show Holds _ _ false _ [.int .i64 n, undef, undef, undef, undef, undef, undef, undef, undef, undef, undef, undef, undef, undef, undef] H _
  refine setup20.regE 0 (by kernel_rfl) (by simp only [List.map_cons, List.map_nil]; rfl) (by simp only [qB, qC, qD, qE, qF, qG, qH, qJ, qK, qM, qN, qP, iop1, qR, qS, iop, qT, qV, qW, qX, qY, qZ, zA, Option.getD_some, zB, zC, zD, zE, zF, zG, zH, zJ, zK, zM, zN, Step1.ofO, lenC, callF, zP, zR, zS, zT, zV, cond_true, cond_false, decide_true, decide_false, beq_self_eq_true, Bool.false_eq_true, Bool.true_eq_false, zW, zX, zY, zZ, Bool.not_true, Bool.not_false, appC, copyC, yA, List.map_cons, List.map_nil, goInt]; rfl) ?_
  refine setup20.regE 0 (by kernel_rfl) (by simp only [List.map_cons, List.map_nil]; rfl) (by simp only [qB, qC, qD, qE, qF, qG, qH, qJ, qK, qM, qN, qP, iop1, qR, qS, iop, qT, qV, qW, qX, qY, qZ, zA, Option.getD_some, zB, zC, zD, zE, zF, zG, zH, zJ, zK, zM, zN, Step1.ofO, lenC, callF, zP, zR, zS, zT, zV, cond_true, cond_false, decide_true, decide_false, beq_self_eq_true, Bool.false_eq_true, Bool.true_eq_false, zW, zX, zY, zZ, Bool.not_true, Bool.not_false, appC, copyC, yA, List.map_cons, List.map_nil, goInt]; rfl) ?_
  refine .seqW (setup20.regE 0 (by kernel_rfl) (by simp only [List.map_cons, List.map_nil]; rfl) (by simp only [qB, qC, qD, qE, qF, qG, qH, qJ, qK, qM, qN, qP, iop1, qR, qS, iop, qT, qV, qW, qX, qY, qZ, zA, Option.getD_some, zB, zC, zD, zE, zF, zG, zH, zJ, zK, zM, zN, Step1.ofO, lenC, callF, zP, zR, zS, zT, zV, cond_true, cond_false, decide_true, decide_false, beq_self_eq_true, Bool.false_eq_true, Bool.true_eq_false, zW, zX, zY, zZ, Bool.not_true, Bool.not_false, appC, copyC, yA, List.map_cons, List.map_nil, goInt]; rfl) ?_)
  refine .loopW (fun m e h => ∃ (i : Nat) (v : Value), i ≤ n ∧ m = n - i ∧ e = [.int .i64 n, unk, unk, v, .int .i64 (i : Nat), unk, unk, unk, unk, unk, unk, unk, unk, unk, unk] ∧ Old H h ∧ Grown h 3 H.size v ((rangeI i).map (.int .i64))) n [.int .i64 n, unk, unk, .slice none 0 0, .int .i64 0, unk, unk, unk, unk, unk, unk, unk, unk, unk, unk] (by repeat (first | exact WkL.nil | refine WkL.same ?_ | refine WkL.any ?_))
    ⟨0, _, Nat.zero_le _, rfl, rfl, .refl _, .nil _ _ _⟩ ?_
  rintro m e h ⟨i, v, hi, rfl, rfl, hold, hgr⟩
  refine setup20.headW2 (by kernel_rfl) (by simp only [List.map_cons, List.map_nil]; rfl) (by simp only [qB, qC, qD, qE, qF, qG, qH, qJ, qK, qM, qN, qP, iop1, qR, qS, iop, qT, qV, qW, qX, qY, qZ, zA, Option.getD_some, zB, zC, zD, zE, zF, zG, zH, zJ, zK, zM, zN, Step1.ofO, lenC, callF, zP, zR, zS, zT, zV, cond_true, cond_false, decide_true, decide_false, beq_self_eq_true, Bool.false_eq_true, Bool.true_eq_false, zW, zX, zY, zZ, Bool.not_true, Bool.not_false, appC, copyC, yA, List.map_cons, List.map_nil, goInt]; rfl) (by kernel_rfl) (by simp only [qT, qX, qY, Option.getD_some]; rfl) (fun ht => ?_) (fun ht => ?_)
  · have hlt : i < n := by simpa using ht
    obtain ⟨v', h', happ, hgr', hsz, hbs, hkeep, _⟩ := hgr.app (x := .int .i64 (i : Int)) el22 rfl (ints_one _) (by simp [rangeI_len]; omega) (by rw [hold.base]; exact hb) hold.size
    refine .blockW (setup20.regZ 0 (by kernel_rfl) (by simp only [List.map_cons, List.map_nil]; rfl) (by simp only [qB, qC, qD, qE, qF, qG, qH, qJ, qK, qM, qN, qP, iop1, qR, qS, iop, qT, qV, qW, qX, qY, qZ, zA, Option.getD_some, zB, zC, zD, zE, zF, zG, zH, zJ, zK, zM, zN, Step1.ofO, lenC, callF, zP, zR, zS, zT, zV, cond_true, cond_false, decide_true, decide_false, beq_self_eq_true, Bool.false_eq_true, Bool.true_eq_false, zW, zX, zY, zZ, Bool.not_true, Bool.not_false, appC, copyC, yA, List.map_cons, List.map_nil, goInt, b1i, happ]; rfl) (BT.go ?_))
    refine setup20.regZ 0 (by kernel_rfl) (by simp only [List.map_cons, List.map_nil]; rfl) (by simp only [qB, qC, qD, qE, qF, qG, qH, qJ, qK, qM, qN, qP, iop1, qR, qS, iop, qT, qV, qW, qX, qY, qZ, zA, Option.getD_some, zB, zC, zD, zE, zF, zG, zH, zJ, zK, zM, zN, Step1.ofO, lenC, callF, zP, zR, zS, zT, zV, cond_true, cond_false, decide_true, decide_false, beq_self_eq_true, Bool.false_eq_true, Bool.true_eq_false, zW, zX, zY, zZ, Bool.not_true, Bool.not_false, appC, copyC, yA, List.map_cons, List.map_nil, goInt, wrap_succ hlt hn]; rfl) (LQ.go (n - (i + 1)) (by omega) (by repeat (first | exact WkL.nil | refine WkL.same ?_ | refine WkL.any ?_)) ⟨i + 1, v', by omega, rfl, rfl, hold.of (by omega) hbs fun b hb' => hkeep b (Nat.lt_of_lt_of_le hb' hold.size) (hgr.notOld hb'), ?_⟩)
    rw [rangeI_succ, List.map_append]; exact hgr'
  · have hge : i = n := by simp at ht; omega
    subst hge
    refine ST.go (setup20.regE 0 (by kernel_rfl) (by simp only [List.map_cons, List.map_nil]; rfl) (by simp only [qB, qC, qD, qE, qF, qG, qH, qJ, qK, qM, qN, qP, iop1, qR, qS, iop, qT, qV, qW, qX, qY, qZ, zA, Option.getD_some, zB, zC, zD, zE, zF, zG, zH, zJ, zK, zM, zN, Step1.ofO, lenC, callF, zP, zR, zS, zT, zV, cond_true, cond_false, decide_true, decide_false, beq_self_eq_true, Bool.false_eq_true, Bool.true_eq_false, zW, zX, zY, zZ, Bool.not_true, Bool.not_false, appC, copyC, yA, List.map_cons, List.map_nil, goInt]; rfl) ?_)
    exact .ret ⟨.inr rfl, _, ires_tmp rfl (by simp only [qX, qY]), hold, hgr⟩
end Go.Proofs.YtpdlblofcdcikaaGreatDoor
