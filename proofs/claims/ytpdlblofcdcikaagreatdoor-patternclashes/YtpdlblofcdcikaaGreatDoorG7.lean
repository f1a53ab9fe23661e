/- Contracts of Inverse, Perm, Moved. Conditions: none. -/
import Derived.Test.YtpdlblofcdcikaaGreatDoorIdlK
import Derived.Test.YtpdlblofcdcikaaGreatDoorG6
set_option linter.unusedSimpArgs false
set_option linter.unusedVariables false
namespace Go.Proofs.YtpdlblofcdcikaaGreatDoor
open Go.Idl

theorem mk22 {n : Nat} (hn : n ≤ 65536) {H : IH} : imakeSlice Tryz.prog 22 (.int .i64 (n : Int)) (.int .i64 (n : Int)) H = some (.val (.slice (some ⟨H.size, 0, none⟩) n n) (H.push (.cells ((List.replicate n (0 : Int)).map (Value.int .i64)).toArray 3))) := by
  obtain ⟨info, h1, h2, h3, _⟩ := el22.info
  exact zeros_make u22 h1 h2 h3 (by kernel_rfl) hn

/-- c is put where p says -/
def scatN (p c : List Int) (n : Nat) : Nat → List Int
  | 0 => List.replicate n 0
  | k + 1 => (scatN p c n k).set (p.getD k 0).toNat (c.getD k 0)
theorem scatN_len (p c : List Int) (n : Nat) : ∀ k, (scatN p c n k).length = n
  | 0 => by simp [scatN]
  | k + 1 => by simp [scatN, scatN_len p c n k]
/-- entries that are places -/
def inR (n : Nat) (p : List Int) : Prop := ∀ z ∈ p, 0 ≤ z ∧ z < (n : Int)

/-! 150: Inverse -/
def pre150 (x : Value × List Int) (args : List Value) (H : IH) : Prop := args = [x.1] ∧ intsOf H x.1 = some x.2 ∧ inR x.2.length x.2 ∧ H.base ≤ H.size
def post150 (x : Value × List Int) (H : IH) (v : Value) (H' : IH) : Prop := Old H H' ∧ OwnAt H' 3 H.size v (scatN x.2 (rangeI x.2.length) x.2.length x.2.length)
theorem uniq150 (x y : Value × List Int) (args : List Value) (H : IH) (hx : pre150 x args H) (hy : pre150 y args H) : x = y := by
  obtain ⟨v, ws⟩ := x
  obtain ⟨v', ws'⟩ := y
  have h1 := hx.1.symm.trans hy.1
  simp at h1
  subst h1
  have h2 := hx.2.1.symm.trans hy.2.1
  simp at h2
  rw [h2]
noncomputable def nat39 : Nats := addS nat38 150 pre150 post150
theorem rangeI_getD {n i : Nat} (h : i < n) : (rangeI n).getD i 0 = (i : Int) := by simp [rangeI, List.getD, h]
set_option maxRecDepth 10000 in
theorem setup39 : Setup Tryz.prog good nat39 (globG 3) := setup38.addS pre150 post150 fun x args H ⟨ha, hz, hr, hb⟩ => by
  obtain ⟨pv, ps⟩ := x
  simp only at ha hz hr
  subst ha
  obtain ⟨aw, cw, rfl, hwl, _⟩ := intsOf_inv hz
  refine CallI.of Tryz.func150 rfl (N := 22) rfl ?_
  show Holds _ _ false _ [.slice aw ps.length cw, undef, undef, undef, undef, undef, undef, undef, undef, undef, undef, undef, undef, undef, undef, undef, undef, undef, undef, undef, undef, undef] H _
  refine setup38.regE 0 (by kernel_rfl) (by simp only [List.map_cons, List.map_nil]; rfl) (by simp only [qB, qC, qD, qE, qF, qG, qH, qJ, qK, qM, qN, qP, iop1, qR, qS, iop, qT, qV, qW, qX, qY, qZ, zA, Option.getD_some, zB, zC, zD, zE, zF, zG, zH, zJ, zK, zM, zN, Step1.ofO, lenC, callF, zP, zR, zS, zT, zV, cond_true, cond_false, decide_true, decide_false, beq_self_eq_true, Bool.false_eq_true, Bool.true_eq_false, zW, zX, zY, zZ, Bool.not_true, Bool.not_false, appC, copyC, yA, List.map_cons, List.map_nil, goInt]; rfl) ?_
  refine setup38.regE 0 (by kernel_rfl) (by simp only [List.map_cons, List.map_nil]; rfl) (by simp only [qB, qC, qD, qE, qF, qG, qH, qJ, qK, qM, qN, qP, iop1, qR, qS, iop, qT, qV, qW, qX, qY, qZ, zA, Option.getD_some, zB, zC, zD, zE, zF, zG, zH, zJ, zK, zM, zN, Step1.ofO, lenC, callF, zP, zR, zS, zT, zV, cond_true, cond_false, decide_true, decide_false, beq_self_eq_true, Bool.false_eq_true, Bool.true_eq_false, zW, zX, zY, zZ, Bool.not_true, Bool.not_false, appC, copyC, yA, List.map_cons, List.map_nil, goInt, lenB_slice u22, mk22 (n := ps.length) (by omega)]; rfl) ?_
  generalize hv : Value.slice (some ⟨H.size, 0, none⟩) ps.length ps.length = v
  have hown : OwnAt (H.push (.cells ((List.replicate ps.length (0 : Int)).map (Value.int .i64)).toArray 3)) 3 H.size v (scatN ps (rangeI ps.length) ps.length 0) := by rw [← hv]; exact OwnAt.zeros _
  have hold0 := Old.push H (.cells ((List.replicate ps.length (0 : Int)).map (Value.int .i64)).toArray 3)
  generalize H.push (.cells ((List.replicate ps.length (0 : Int)).map (Value.int .i64)).toArray 3) = H1 at hown hold0
  refine .seqW (setup38.regE 0 (by kernel_rfl) (by simp only [List.map_cons, List.map_nil]; rfl) (by simp only [qB, qC, qD, qE, qF, qG, qH, qJ, qK, qM, qN, qP, iop1, qR, qS, iop, qT, qV, qW, qX, qY, qZ, zA, Option.getD_some, zB, zC, zD, zE, zF, zG, zH, zJ, zK, zM, zN, Step1.ofO, lenC, callF, zP, zR, zS, zT, zV, cond_true, cond_false, decide_true, decide_false, beq_self_eq_true, Bool.false_eq_true, Bool.true_eq_false, zW, zX, zY, zZ, Bool.not_true, Bool.not_false, appC, copyC, yA, List.map_cons, List.map_nil, goInt]; rfl) ?_)
  refine .loopW (fun m e h => ∃ (i : Nat), i ≤ ps.length ∧ m = ps.length - i ∧ e = [.slice aw ps.length cw, unk, unk, v, .int .i64 (i : Nat), unk, unk, unk, unk, unk, unk, unk, unk, unk, unk, unk, unk, unk, unk, unk, unk, unk] ∧ Old H h ∧ OwnAt h 3 H.size v (scatN ps (rangeI ps.length) ps.length i)) ps.length
    [.slice aw ps.length cw, unk, unk, v, .int .i64 0, unk, unk, unk, unk, unk, unk, unk, unk, unk, unk, unk, unk, unk, unk, unk, unk, unk] (by repeat (first | exact WkL.nil | refine WkL.same ?_ | refine WkL.any ?_)) ⟨0, Nat.zero_le _, rfl, rfl, hold0, hown⟩ ?_
  rintro m e h ⟨i, hi, rfl, rfl, hold, hat⟩
  refine setup38.headW2 (by kernel_rfl) (by simp only [List.map_cons, List.map_nil]; rfl) (by simp only [qB, qC, qD, qE, qF, qG, qH, qJ, qK, qM, qN, qP, iop1, qR, qS, iop, qT, qV, qW, qX, qY, qZ, zA, Option.getD_some, zB, zC, zD, zE, zF, zG, zH, zJ, zK, zM, zN, Step1.ofO, lenC, callF, zP, zR, zS, zT, zV, cond_true, cond_false, decide_true, decide_false, beq_self_eq_true, Bool.false_eq_true, Bool.true_eq_false, zW, zX, zY, zZ, Bool.not_true, Bool.not_false, appC, copyC, yA, List.map_cons, List.map_nil, goInt, lenB_slice u22]; rfl) (by kernel_rfl) (by simp only [qT, qX, qY, Option.getD_some]; rfl) (fun ht => ?_) (fun ht => ?_)
  · have hlt : i < ps.length := by simpa using ht
    have hpi : ps[i]? = some ps[i] := List.getElem?_eq_getElem hlt
    obtain ⟨hz0, hz1⟩ := hr ps[i] (List.getElem_mem hlt)
    generalize ps[i] = z at hpi hz0 hz1
    obtain ⟨j, rfl⟩ := Int.eq_ofNat_of_zero_le hz0
    obtain ⟨p, hp, hld⟩ := read_int el22 (intsOf_old hold hz) hpi (k := .i64)
    obtain ⟨q, h', hq, hst, hown', hsz, hbs, hkeep⟩ := hat.write el22 (i := j) (by rw [scatN_len]; omega) (by rw [hold.base]; exact hb) (i : Int) (k := .i64)
    have hgd : ps.getD i 0 = (j : Int) := by simp [List.getD, hpi]
    have hs1 : scatN ps (rangeI ps.length) ps.length (i + 1) = (scatN ps (rangeI ps.length) ps.length i).set j (i : Int) := by
      rw [scatN, hgd, rangeI_getD hlt]; rfl
    refine .blockW (setup38.regZ 0 (by kernel_rfl) (by simp only [List.map_cons, List.map_nil]; rfl) (by simp only [qB, qC, qD, qE, qF, qG, qH, qJ, qK, qM, qN, qP, iop1, qR, qS, iop, qT, qV, qW, qX, qY, qZ, zA, Option.getD_some, zB, zC, zD, zE, zF, zG, zH, zJ, zK, zM, zN, Step1.ofO, lenC, callF, zP, zR, zS, zT, zV, cond_true, cond_false, decide_true, decide_false, beq_self_eq_true, Bool.false_eq_true, Bool.true_eq_false, zW, zX, zY, zZ, Bool.not_true, Bool.not_false, appC, copyC, yA, List.map_cons, List.map_nil, goInt, hp, hld, hq, hst]; rfl) (BT.go ?_))
    exact setup38.regZ 0 (by kernel_rfl) (by simp only [List.map_cons, List.map_nil]; rfl) (by simp only [qB, qC, qD, qE, qF, qG, qH, qJ, qK, qM, qN, qP, iop1, qR, qS, iop, qT, qV, qW, qX, qY, qZ, zA, Option.getD_some, zB, zC, zD, zE, zF, zG, zH, zJ, zK, zM, zN, Step1.ofO, lenC, callF, zP, zR, zS, zT, zV, cond_true, cond_false, decide_true, decide_false, beq_self_eq_true, Bool.false_eq_true, Bool.true_eq_false, zW, zX, zY, zZ, Bool.not_true, Bool.not_false, appC, copyC, yA, List.map_cons, List.map_nil, goInt, wrap_succ hlt hwl]; rfl) (LQ.go (ps.length - (i + 1)) (by omega) (by repeat (first | exact WkL.nil | refine WkL.same ?_ | refine WkL.any ?_)) ⟨i + 1, by omega, rfl, rfl, hold.of (by omega) hbs fun b hb' => hkeep b (hat.notOld hb'), by rw [hs1]; exact hown'⟩)
  · have hge : i = ps.length := by simp at ht; omega
    subst hge
    exact ST.go (setup38.regE 0 (by kernel_rfl) (by simp only [List.map_cons, List.map_nil]; rfl) (by simp only [qB, qC, qD, qE, qF, qG, qH, qJ, qK, qM, qN, qP, iop1, qR, qS, iop, qT, qV, qW, qX, qY, qZ, zA, Option.getD_some, zB, zC, zD, zE, zF, zG, zH, zJ, zK, zM, zN, Step1.ofO, lenC, callF, zP, zR, zS, zT, zV, cond_true, cond_false, decide_true, decide_false, beq_self_eq_true, Bool.false_eq_true, Bool.true_eq_false, zW, zX, zY, zZ, Bool.not_true, Bool.not_false, appC, copyC, yA, List.map_cons, List.map_nil, goInt]; rfl) (.ret ⟨.inr rfl, _, ires_tmp rfl (by simp only [qX, qY]), hold, hat⟩))
theorem e150 : enters Tryz.prog 150 = true := by kernel_rfl
theorem pure39 : NatPure nat39 := addS_pure pure38
end Go.Proofs.YtpdlblofcdcikaaGreatDoor
