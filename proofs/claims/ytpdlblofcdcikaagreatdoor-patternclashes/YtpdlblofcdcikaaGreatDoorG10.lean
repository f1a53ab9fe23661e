/- Contract of moved. Conditions: none. -/
import Derived.Test.YtpdlblofcdcikaaGreatDoorG9
set_option linter.unusedSimpArgs false
set_option linter.unusedVariables false
namespace Go.Proofs.YtpdlblofcdcikaaGreatDoor
open Go.Idl

theorem pure42 : NatPure nat42 := addS_pure pure41
/-- c at the places that f says -/
def gathL (f c : List Int) : List Int := f.map fun z => c.getD z.toNat 0
theorem gathL_len (f c : List Int) : (gathL f c).length = f.length := by simp [gathL]
def gathN (f c : List Int) (i : Nat) : List Int := gathL (f.take i) c ++ List.replicate (f.length - i) 0
theorem gathN_len {f c : List Int} {i : Nat} (h : i ≤ f.length) : (gathN f c i).length = f.length := by simp [gathN, gathL]; omega
theorem gathN_zero (f c : List Int) : gathN f c 0 = List.replicate f.length 0 := by simp [gathN, gathL]
theorem gathN_end (f c : List Int) : gathN f c f.length = gathL f c := by simp [gathN]
theorem gathN_set {f c : List Int} {i : Nat} {z : Int} (h : f[i]? = some z) : (gathN f c i).set i (c.getD z.toNat 0) = gathN f c (i + 1) := by
  have hlt := (List.getElem?_eq_some_iff.1 h).1
  have hl : (gathL (f.take i) c).length = i := by simp [gathL]; omega
  unfold gathN
  rw [List.set_append_right _ _ (by omega), hl, Nat.sub_self, take_succ h]
  have : f.length - i = (f.length - (i + 1)) + 1 := by omega
  rw [this, List.replicate_succ, List.set_cons_zero]
  simp [gathL]
theorem ib117 (a b : Value) (H : IH) : ibox 117 (.agg #[a, b]) H = some (.val (.pointer (some ⟨H.size, 0, none⟩)) (H.push (.cells #[a, b] 117))) := rfl

/-! 104: moved -/
def pre104 (x : (Value × Value × List Int) × Value × List Int) (args : List Value) (H : IH) : Prop :=
  args = [.agg #[x.1.1, x.1.2.1], x.2.1] ∧ intsOf H x.1.2.1 = some x.1.2.2 ∧ inR x.2.2.length x.1.2.2 ∧ intsOf H x.2.1 = some x.2.2 ∧ x.1.2.2.length = x.2.2.length ∧ H.base ≤ H.size
def post104 (x : (Value × Value × List Int) × Value × List Int) (H : IH) (v : Value) (H' : IH) : Prop := Old H H' ∧ OwnAt H' 3 H.size v (gathL x.1.2.2 x.2.2)
theorem uniq104 (x y : (Value × Value × List Int) × Value × List Int) (args : List Value) (H : IH) (hx : pre104 x args H) (hy : pre104 y args H) : x = y := by
  obtain ⟨⟨s, f, fs⟩, c, cs⟩ := x
  obtain ⟨⟨s', f', fs'⟩, c', cs'⟩ := y
  have h1 := hx.1.symm.trans hy.1
  simp at h1
  obtain ⟨⟨rfl, rfl⟩, rfl⟩ := h1
  have h2 := hx.2.1.symm.trans hy.2.1
  simp at h2
  subst h2
  have h3 := hx.2.2.2.1.symm.trans hy.2.2.2.1
  simp at h3
  subst h3
  rfl
noncomputable def nat43 : Nats := addS nat42 104 pre104 post104
set_option maxRecDepth 10000 in
theorem setup43 : Setup Tryz.prog good nat43 (globG 3) := setup42.addS pre104 post104 fun x args H ⟨ha, hzf, hr, hzc, hl, hb⟩ => by
  obtain ⟨⟨sv, fv, fs⟩, cv, cs⟩ := x
  simp only at ha hzf hr hzc hl
  subst ha
  obtain ⟨af, cf, rfl, hfl, _⟩ := intsOf_inv hzf
  obtain ⟨ac, cc, rfl, hcl, _⟩ := intsOf_inv hzc
  refine CallI.of Tryz.func104 rfl (N := 28) rfl ?_
  show Holds _ _ false _ [.agg #[sv, .slice af fs.length cf], .slice ac cs.length cc, undef, undef, undef, undef, undef, undef, undef, undef, undef, undef, undef, undef, undef, undef, undef, undef, undef, undef, undef, undef, undef, undef, undef, undef, undef, undef] H _
  refine setup42.regE 0 (by kernel_rfl) (by simp only [List.map_cons, List.map_nil]; rfl) (by simp only [qB, qC, qD, qE, qF, qG, qH, qJ, qK, qM, qN, qP, iop1, qR, qS, iop, qT, qV, qW, qX, qY, qZ, zA, Option.getD_some, zB, zC, zD, zE, zF, zG, zH, zJ, zK, zM, zN, Step1.ofO, lenC, callF, zP, zR, zS, zT, zV, cond_true, cond_false, decide_true, decide_false, beq_self_eq_true, Bool.false_eq_true, Bool.true_eq_false, zW, zX, zY, zZ, Bool.not_true, Bool.not_false, appC, copyC, yA, List.map_cons, List.map_nil, goInt, ib117]; rfl) ?_
  have hold1 := Old.push H (.cells #[sv, .slice af fs.length cf] 117)
  have hg1 : (H.push (.cells #[sv, .slice af fs.length cf] 117)).get H.size = some (.cells [sv, .slice af fs.length cf].toArray 117 (0, 0)) := get_push_eq
  have hs1 : (H.push (.cells #[sv, .slice af fs.length cf] 117)).size = H.size + 1 := rfl
  generalize H.push (.cells #[sv, .slice af fs.length cf] 117) = H1 at hold1 hg1 hs1
  refine setup42.regE 0 (by kernel_rfl) (by simp only [List.map_cons, List.map_nil]; rfl) (by simp only [qB, qC, qD, qE, qF, qG, qH, qJ, qK, qM, qN, qP, iop1, qR, qS, iop, qT, qV, qW, qX, qY, qZ, zA, Option.getD_some, zB, zC, zD, zE, zF, zG, zH, zJ, zK, zM, zN, Step1.ofO, lenC, callF, zP, zR, zS, zT, zV, cond_true, cond_false, decide_true, decide_false, beq_self_eq_true, Bool.false_eq_true, Bool.true_eq_false, zW, zX, zY, zZ, Bool.not_true, Bool.not_false, appC, copyC, yA, List.map_cons, List.map_nil, goInt, lenB_slice u22, mk22 (n := cs.length) (by omega)]; rfl) ?_
  generalize hv : Value.slice (some ⟨H1.size, 0, none⟩) cs.length cs.length = v
  have hown : OwnAt (H1.push (.cells ((List.replicate cs.length (0 : Int)).map (Value.int .i64)).toArray 3)) 3 H1.size v (gathN fs cs 0) := by rw [← hv, gathN_zero, hl]; exact OwnAt.zeros _
  have hold2 := Old.push H1 (.cells ((List.replicate cs.length (0 : Int)).map (Value.int .i64)).toArray 3)
  have hg2 := get_push_lt (H := H1) (o := .cells ((List.replicate cs.length (0 : Int)).map (Value.int .i64)).toArray 3) (b := H.size) (by omega)
  rw [hg1] at hg2
  generalize H1.push (.cells ((List.replicate cs.length (0 : Int)).map (Value.int .i64)).toArray 3) = H2 at hown hold2 hg2
  have hl1 := load_cell (t := 22) ag22 (i := 1) hg2 rfl
  refine .seqW (setup42.regE 0 (by kernel_rfl) (by simp only [List.map_cons, List.map_nil]; rfl) (by simp only [qB, qC, qD, qE, qF, qG, qH, qJ, qK, qM, qN, qP, iop1, qR, qS, iop, qT, qV, qW, qX, qY, qZ, zA, Option.getD_some, zB, zC, zD, zE, zF, zG, zH, zJ, zK, zM, zN, Step1.ofO, lenC, callF, zP, zR, zS, zT, zV, cond_true, cond_false, decide_true, decide_false, beq_self_eq_true, Bool.false_eq_true, Bool.true_eq_false, zW, zX, zY, zZ, Bool.not_true, Bool.not_false, appC, copyC, yA, List.map_cons, List.map_nil, goInt, f117_1, hl1, lenB_slice u22]; rfl) ?_)
  refine .loopW (fun m e h => ∃ (i : Nat), i ≤ fs.length ∧ m = fs.length - i ∧ e = [unk, .slice ac cs.length cc, unk, unk, unk, v, unk, unk, unk, unk, unk, unk, .slice af fs.length cf, .int .i64 (fs.length : Nat), .int .i64 (i : Nat), unk, unk, unk, unk, unk, unk, unk, unk, unk, unk, unk, unk, unk] ∧ Old H1 h ∧ OwnAt h 3 H1.size v (gathN fs cs i)) fs.length
    [unk, .slice ac cs.length cc, unk, unk, unk, v, unk, unk, unk, unk, unk, unk, .slice af fs.length cf, .int .i64 (fs.length : Nat), .int .i64 0, unk, unk, unk, unk, unk, unk, unk, unk, unk, unk, unk, unk, unk] (by repeat (first | exact WkL.nil | refine WkL.same ?_ | refine WkL.any ?_)) ⟨0, Nat.zero_le _, rfl, rfl, hold2, hown⟩ ?_
  rintro m e h ⟨i, hi, rfl, rfl, hold, hat⟩
  refine setup42.headW (by kernel_rfl) (by simp only [List.map_cons, List.map_nil]; rfl) (by simp only [qB, qC, qD, qE, qF, qG, qH, qJ, qK, qM, qN, qP, iop1, qR, qS, iop, qT, qV, qW, qX, qY, qZ, zA, Option.getD_some, zB, zC, zD, zE, zF, zG, zH, zJ, zK, zM, zN, Step1.ofO, lenC, callF, zP, zR, zS, zT, zV, cond_true, cond_false, decide_true, decide_false, beq_self_eq_true, Bool.false_eq_true, Bool.true_eq_false, zW, zX, zY, zZ, Bool.not_true, Bool.not_false, appC, copyC, yA, List.map_cons, List.map_nil, goInt]; rfl) (by kernel_rfl) (by simp only [qT, qX, qY, Option.getD_some]; rfl) (fun ht => ?_) (fun ht => ?_)
  · have hlt : i < fs.length := by simpa using ht
    obtain ⟨z, hfi⟩ : ∃ z, fs[i]? = some z := ⟨_, List.getElem?_eq_getElem hlt⟩
    obtain ⟨hz0, hz1⟩ := hr z (List.mem_of_getElem? hfi)
    obtain ⟨j, rfl⟩ := Int.eq_ofNat_of_zero_le hz0
    obtain ⟨c, hcj⟩ : ∃ c, cs[j]? = some c := ⟨_, List.getElem?_eq_getElem (by omega)⟩
    obtain ⟨p, hp, hld⟩ := read_int el22 (intsOf_old (hold1.trans hold) hzf) hfi (k := .i64)
    obtain ⟨q, hq, hld2⟩ := read_int el22 (intsOf_old (hold1.trans hold) hzc) hcj (k := .i64)
    obtain ⟨p3, h', hp3, hst, hown', hsz, hbs, hkeep⟩ := hat.write el22 (i := i) (by rw [gathN_len hi]; exact hlt) (by rw [hold.base, hold1.base]; omega) c (k := .i64)
    have hset := gathN_set (c := cs) hfi
    simp only [Int.toNat_natCast, List.getD, hcj, Option.getD_some] at hset
    rw [hset] at hown'
    refine .blockW (setup42.regE 0 (by kernel_rfl) (by simp only [List.map_cons, List.map_nil]; rfl) (by simp only [qB, qC, qD, qE, qF, qG, qH, qJ, qK, qM, qN, qP, iop1, qR, qS, iop, qT, qV, qW, qX, qY, qZ, zA, Option.getD_some, zB, zC, zD, zE, zF, zG, zH, zJ, zK, zM, zN, Step1.ofO, lenC, callF, zP, zR, zS, zT, zV, cond_true, cond_false, decide_true, decide_false, beq_self_eq_true, Bool.false_eq_true, Bool.true_eq_false, zW, zX, zY, zZ, Bool.not_true, Bool.not_false, appC, copyC, yA, List.map_cons, List.map_nil, goInt, hp, hld]; rfl) (setup42.regZ 0 (by kernel_rfl) (by simp only [List.map_cons, List.map_nil]; rfl) (by simp only [qB, qC, qD, qE, qF, qG, qH, qJ, qK, qM, qN, qP, iop1, qR, qS, iop, qT, qV, qW, qX, qY, qZ, zA, Option.getD_some, zB, zC, zD, zE, zF, zG, zH, zJ, zK, zM, zN, Step1.ofO, lenC, callF, zP, zR, zS, zT, zV, cond_true, cond_false, decide_true, decide_false, beq_self_eq_true, Bool.false_eq_true, Bool.true_eq_false, zW, zX, zY, zZ, Bool.not_true, Bool.not_false, appC, copyC, yA, List.map_cons, List.map_nil, goInt, hq, hld2, hp3, hst]; rfl) (BT.go ?_)))
    exact setup42.regZ 0 (by kernel_rfl) (by simp only [List.map_cons, List.map_nil]; rfl) (by simp only [qB, qC, qD, qE, qF, qG, qH, qJ, qK, qM, qN, qP, iop1, qR, qS, iop, qT, qV, qW, qX, qY, qZ, zA, Option.getD_some, zB, zC, zD, zE, zF, zG, zH, zJ, zK, zM, zN, Step1.ofO, lenC, callF, zP, zR, zS, zT, zV, cond_true, cond_false, decide_true, decide_false, beq_self_eq_true, Bool.false_eq_true, Bool.true_eq_false, zW, zX, zY, zZ, Bool.not_true, Bool.not_false, appC, copyC, yA, List.map_cons, List.map_nil, goInt, wrap_succ hlt hfl]; rfl) (LQ.go (fs.length - (i + 1)) (by omega) (by repeat (first | exact WkL.nil | refine WkL.same ?_ | refine WkL.any ?_)) ⟨i + 1, by omega, rfl, rfl, hold.of (by omega) hbs fun b hb' => hkeep b (hat.notOld hb'), hown'⟩)
  · have hge : i = fs.length := by simp at ht; omega
    subst hge
    rw [gathN_end] at hat
    exact ST.go (setup42.regE 0 (by kernel_rfl) (by simp only [List.map_cons, List.map_nil]; rfl) (by simp only [qB, qC, qD, qE, qF, qG, qH, qJ, qK, qM, qN, qP, iop1, qR, qS, iop, qT, qV, qW, qX, qY, qZ, zA, Option.getD_some, zB, zC, zD, zE, zF, zG, zH, zJ, zK, zM, zN, Step1.ofO, lenC, callF, zP, zR, zS, zT, zV, cond_true, cond_false, decide_true, decide_false, beq_self_eq_true, Bool.false_eq_true, Bool.true_eq_false, zW, zX, zY, zZ, Bool.not_true, Bool.not_false, appC, copyC, yA, List.map_cons, List.map_nil, goInt]; rfl) (.ret ⟨.inr rfl, v, ires_tmp rfl (by simp only [qX, qY]), hold1.trans hold, hat.lower hold1.size⟩))
theorem e104 : enters Tryz.prog 104 = true := by kernel_rfl
theorem pure43 : NatPure nat43 := addS_pure pure42
end Go.Proofs.YtpdlblofcdcikaaGreatDoor
