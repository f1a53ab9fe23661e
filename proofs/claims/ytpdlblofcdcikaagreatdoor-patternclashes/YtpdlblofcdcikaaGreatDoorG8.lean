/- Contracts of Perm and Moved. Conditions: none. -/
import Derived.Test.YtpdlblofcdcikaaGreatDoorIdlK
import Derived.Test.YtpdlblofcdcikaaGreatDoorG7
set_option linter.unusedSimpArgs false
set_option linter.unusedVariables false
namespace Go.Proofs.YtpdlblofcdcikaaGreatDoor
open Go.Idl

theorem inR_set {n : Nat} {l : List Int} (h : inR n l) {i : Nat} {z : Int} (hz : 0 ≤ z ∧ z < (n : Int)) : inR n (l.set i z) := by
  intro x hx
  rcases List.mem_or_eq_of_mem_set hx with h1 | h1
  · exact h x h1
  · rw [h1]; exact hz
theorem inR_get {n : Nat} {l : List Int} (h : inR n l) {i : Nat} (hi : i < l.length) : 0 ≤ l.getD i 0 ∧ l.getD i 0 < (n : Int) := by
  have : l.getD i 0 = l[i] := by simp [List.getD, hi]
  rw [this]; exact h _ (List.getElem_mem hi)
theorem inR_swap {n : Nat} {l : List Int} (h : inR n l) {i : Nat} (hi : i < l.length) : inR n (swapL l i) := inR_set (inR_set h (inR_get h hi)) (inR_get h (by omega))
theorem inR_run {n : Nat} : ∀ (w l : List Int), okW n w → l.length = n → inR n l → inR n (runW w l).2
  | [], l, _, _, h => h
  | c :: w, l, hw, hl, h => inR_run w (swapL l c.natAbs) (fun x hx => hw x (List.mem_cons_of_mem _ hx)) (by rw [swapL_len]; exact hl) (inR_swap h (by rw [hl]; exact (hw c List.mem_cons_self).2))
theorem inR_range (n : Nat) : inR n (rangeI n) := by
  intro z hz
  simp [rangeI] at hz
  obtain ⟨a, ha, rfl⟩ := hz
  omega
theorem inR_scat {n : Nat} {p c : List Int} (hc : inR n c) (hn : 0 < n) (hcl : c.length = n) : ∀ k, k ≤ n → inR n (scatN p c n k)
  | 0, _ => by
    intro z hz
    simp [scatN] at hz
    omega
  | k + 1, hk => inR_set (inR_scat hc hn hcl k (by omega)) (inR_get hc (by omega))
/-- the places at the end of a repetition -/
def fromL (n : Nat) (w : List Int) : List Int := (runW w (rangeI n)).2
theorem fromL_len (n : Nat) (w : List Int) : (fromL n w).length = n := by rw [fromL, (runW_len _ _).2, rangeI_len]
theorem fromL_in {n : Nat} {w : List Int} (h : okW n w) : inR n (fromL n w) := inR_run _ _ h (rangeI_len n) (inR_range n)
def permL (n : Nat) (w : List Int) : List Int := scatN (fromL n w) (rangeI n) n n
theorem permL_len (n : Nat) (w : List Int) : (permL n w).length = n := scatN_len _ _ _ _
theorem permL_in {n : Nat} {w : List Int} (hn : 0 < n) : inR n (permL n w) := inR_scat (inR_range n) hn (rangeI_len n) n (Nat.le_refl _)

/-! 112: Perm -/
def pre112 (x : Nat × Value × List Int) (args : List Value) (H : IH) : Prop := args = [.int .i64 (x.1 : Int), x.2.1] ∧ intsOf H x.2.1 = some x.2.2 ∧ okW x.1 x.2.2 ∧ 0 < x.1 ∧ x.1 ≤ 12 ∧ H.base ≤ H.size
def post112 (x : Nat × Value × List Int) (H : IH) (v : Value) (H' : IH) : Prop := Old H H' ∧ OwnAt H' 3 H.size v (permL x.1 x.2.2)
theorem uniq112 (x y : Nat × Value × List Int) (args : List Value) (H : IH) (hx : pre112 x args H) (hy : pre112 y args H) : x = y := by
  obtain ⟨n, v, ws⟩ := x
  obtain ⟨n', v', ws'⟩ := y
  have h1 := hx.1.symm.trans hy.1
  simp at h1
  obtain ⟨h1, rfl⟩ := h1
  have h2 := hx.2.1.symm.trans hy.2.1
  simp at h2
  subst h2
  have e1 : n = n' := by omega
  rw [e1]
noncomputable def nat40 : Nats := addS nat39 112 pre112 post112
theorem runW_snoc2 (c : Int) (w l : List Int) : (runW (w ++ [c]) l).2 = swapL (runW w l).2 c.natAbs := by rw [runW_snoc]
set_option maxRecDepth 10000 in
theorem setup40 : Setup Tryz.prog good nat40 (globG 3) := setup39.addS pre112 post112 fun x args H ⟨ha, hz, hok, hn0, hn, hb⟩ => by
  obtain ⟨n, wv, ws⟩ := x
  simp only at ha hz hok hn hn0
  subst ha
  obtain ⟨aw, cw, rfl, hwl, _⟩ := intsOf_inv hz
  refine CallI.of Tryz.func112 rfl (N := 42) rfl ?_
  show Holds _ _ false _ [.int .i64 n, .slice aw ws.length cw, undef, undef, undef, undef, undef, undef, undef, undef, undef, undef, undef, undef, undef, undef, undef, undef, undef, undef, undef, undef, undef, undef, undef, undef, undef, undef, undef, undef, undef, undef, undef, undef, undef, undef, undef, undef, undef, undef, undef, undef] H _
  refine setup39.regE 0 (by kernel_rfl) (by simp only [List.map_cons, List.map_nil]; rfl) (by simp only [qB, qC, qD, qE, qF, qG, qH, qJ, qK, qM, qN, qP, iop1, qR, qS, iop, qT, qV, qW, qX, qY, qZ, zA, Option.getD_some, zB, zC, zD, zE, zF, zG, zH, zJ, zK, zM, zN, Step1.ofO, lenC, callF, zP, zR, zS, zT, zV, cond_true, cond_false, decide_true, decide_false, beq_self_eq_true, Bool.false_eq_true, Bool.true_eq_false, zW, zX, zY, zZ, Bool.not_true, Bool.not_false, appC, copyC, yA, List.map_cons, List.map_nil, goInt]; rfl) ?_
  refine setup39.regS (by kernel_rfl) (by simp only [List.map_cons, List.map_nil]; rfl) ?_; simp only [qB, qC, qD, qE, qF, qG, qH, qJ, qK, qM, qN, qP, iop1, qR, qS, iop, qT, qV, qW, qX, qY, qZ, zA, Option.getD_some, zB, zC, zD, zE, zF, zG, zH, zJ, zK, zM, zN, Step1.ofO, lenC, callF, zP, zR, zS, zT, zV, cond_true, cond_false, decide_true, decide_false, beq_self_eq_true, Bool.false_eq_true, Bool.true_eq_false, zW, zX, zY, zZ, Bool.not_true, Bool.not_false, appC, copyC, yA, List.map_cons, List.map_nil, goInt, yB, yC, e135, enter_s (x := n) (show nat39 135 = some (ofS pre135 post135) from rfl) uniq135 ⟨rfl, by omega, hb⟩]
  rintro v H1 ⟨hold1, hg1⟩
  have hown1 : OwnAt H1 3 H.size v (rangeI n) := hg1.own (by intro e; have := rangeI_len n; rw [e] at this; simp at this; omega)
  refine .seqW (setup39.regE 0 (by kernel_rfl) (by simp only [List.map_cons, List.map_nil]; rfl) (by simp only [qB, qC, qD, qE, qF, qG, qH, qJ, qK, qM, qN, qP, iop1, qR, qS, iop, qT, qV, qW, qX, qY, qZ, zA, Option.getD_some, zB, zC, zD, zE, zF, zG, zH, zJ, zK, zM, zN, Step1.ofO, lenC, callF, zP, zR, zS, zT, zV, cond_true, cond_false, decide_true, decide_false, beq_self_eq_true, Bool.false_eq_true, Bool.true_eq_false, zW, zX, zY, zZ, Bool.not_true, Bool.not_false, appC, copyC, yA, List.map_cons, List.map_nil, goInt]; rfl) ?_)
  refine .loopW (fun m e h => ∃ (i : Nat), i ≤ ws.length ∧ m = ws.length - i ∧ e = [.int .i64 n, .slice aw ws.length cw, unk, unk, unk, v, .int .i64 (i : Nat), unk, unk, unk, unk, unk, unk, unk, unk, unk, unk, unk, unk, unk, unk, unk, unk, unk, unk, unk, unk, unk, unk, unk, unk, unk, unk, unk, unk, unk, unk, unk, unk, unk, unk, unk] ∧ Old H h ∧ OwnAt h 3 H.size v (runW (ws.take i) (rangeI n)).2) ws.length
    [.int .i64 n, .slice aw ws.length cw, unk, unk, unk, v, .int .i64 0, unk, unk, unk, unk, unk, unk, unk, unk, unk, unk, unk, unk, unk, unk, unk, unk, unk, unk, unk, unk, unk, unk, unk, unk, unk, unk, unk, unk, unk, unk, unk, unk, unk, unk, unk] (by repeat (first | exact WkL.nil | refine WkL.same ?_ | refine WkL.any ?_)) ⟨0, Nat.zero_le _, rfl, rfl, hold1, hown1⟩ ?_
  rintro m e h ⟨i, hi, rfl, rfl, hold, hat⟩
  have hl2 : (runW (ws.take i) (rangeI n)).2.length = n := by rw [(runW_len _ _).2, rangeI_len]
  refine setup39.headW2 (by kernel_rfl) (by simp only [List.map_cons, List.map_nil]; rfl) (by simp only [qB, qC, qD, qE, qF, qG, qH, qJ, qK, qM, qN, qP, iop1, qR, qS, iop, qT, qV, qW, qX, qY, qZ, zA, Option.getD_some, zB, zC, zD, zE, zF, zG, zH, zJ, zK, zM, zN, Step1.ofO, lenC, callF, zP, zR, zS, zT, zV, cond_true, cond_false, decide_true, decide_false, beq_self_eq_true, Bool.false_eq_true, Bool.true_eq_false, zW, zX, zY, zZ, Bool.not_true, Bool.not_false, appC, copyC, yA, List.map_cons, List.map_nil, goInt, lenB_slice u22]; rfl) (by kernel_rfl) (by simp only [qT, qX, qY, Option.getD_some]; rfl) (fun ht => ?_) (fun ht => ?_)
  · have hlt : i < ws.length := by simpa using ht
    have hci : ws[i]? = some ws[i] := List.getElem?_eq_getElem hlt
    obtain ⟨hc0, hcn⟩ := hok ws[i] (List.getElem_mem hlt)
    generalize ws[i] = c at hci hc0 hcn
    have hrun := runW_snoc2 c (ws.take i) (rangeI n)
    rw [← take_succ hci] at hrun
    generalize (runW (ws.take i) (rangeI n)).2 = st at hat hl2 hrun
    obtain ⟨p, hp, hld⟩ := read_int el22 (intsOf_old hold hz) hci (k := .i64)
    refine .blockW (setup39.regE 0 (by kernel_rfl) (by simp only [List.map_cons, List.map_nil]; rfl) (by simp only [qB, qC, qD, qE, qF, qG, qH, qJ, qK, qM, qN, qP, iop1, qR, qS, iop, qT, qV, qW, qX, qY, qZ, zA, Option.getD_some, zB, zC, zD, zE, zF, zG, zH, zJ, zK, zM, zN, Step1.ofO, lenC, callF, zP, zR, zS, zT, zV, cond_true, cond_false, decide_true, decide_false, beq_self_eq_true, Bool.false_eq_true, Bool.true_eq_false, zW, zX, zY, zZ, Bool.not_true, Bool.not_false, appC, copyC, yA, List.map_cons, List.map_nil, goInt, hp, hld]; rfl) ?_)
    have hk : c = (c.natAbs : Int) ∧ 0 < c ∨ c = 0 - (c.natAbs : Int) ∧ c < 0 := by omega
    generalize hkk : c.natAbs = k at hk hcn hrun
    refine setup39.ifJ (fun e h' => e = [.int .i64 n, .slice aw ws.length cw, unk, unk, unk, v, .int .i64 (i : Nat), .int .i64 (k : Nat), unk, unk, unk, unk, unk, unk, unk, unk, unk, unk, unk, unk, unk, unk, unk, unk, unk, unk, unk, unk, unk, unk, unk, unk, unk, unk, unk, unk, unk, unk, unk, unk, unk, unk] ∧ h' = h) (by kernel_rfl) (by simp only [List.map_cons, List.map_nil]; rfl) (by simp only [qB, qC, qD, qE, qF, qG, qH, qJ, qK, qM, qN, qP, iop1, qR, qS, iop, qT, qV, qW, qX, qY, qZ, zA, Option.getD_some, zB, zC, zD, zE, zF, zG, zH, zJ, zK, zM, zN, Step1.ofO, lenC, callF, zP, zR, zS, zT, zV, cond_true, cond_false, decide_true, decide_false, beq_self_eq_true, Bool.false_eq_true, Bool.true_eq_false, zW, zX, zY, zZ, Bool.not_true, Bool.not_false, appC, copyC, yA, List.map_cons, List.map_nil, goInt]; rfl) (by kernel_rfl) (by simp only [qT, qX, qY, Option.getD_some]; rfl) (fun ht3 => ?_) (fun ht3 => ?_) ?_
    · have hc : c = 0 - (k : Int) := by simp at ht3; omega
      have hw : IntKind.i64.wrap (0 - c) = (k : Int) := by rw [wrap_id (by omega) (by omega)]; omega
      exact setup39.regZ 0 (by kernel_rfl) (by simp only [List.map_cons, List.map_nil]; rfl) (by simp only [qB, qC, qD, qE, qF, qG, qH, qJ, qK, qM, qN, qP, iop1, qR, qS, iop, qT, qV, qW, qX, qY, qZ, zA, Option.getD_some, zB, zC, zD, zE, zF, zG, zH, zJ, zK, zM, zN, Step1.ofO, lenC, callF, zP, zR, zS, zT, zV, cond_true, cond_false, decide_true, decide_false, beq_self_eq_true, Bool.false_eq_true, Bool.true_eq_false, zW, zX, zY, zZ, Bool.not_true, Bool.not_false, appC, copyC, yA, List.map_cons, List.map_nil, goInt, hw]; rfl) (JT.go (by repeat (first | exact WkL.nil | refine WkL.same ?_ | refine WkL.any ?_)) ⟨rfl, rfl⟩)
    · have hc : c = (k : Int) := by simp at ht3; omega
      subst hc
      exact .skip (JT.go (by repeat (first | exact WkL.nil | refine WkL.same ?_ | refine WkL.any ?_)) ⟨rfl, rfl⟩)
    · rintro e h' ⟨rfl, rfl⟩
      obtain ⟨x1, hx1⟩ : ∃ x, st[k - 1]? = some x := ⟨_, List.getElem?_eq_getElem (by rw [hl2]; omega)⟩
      obtain ⟨x2, hx2⟩ : ∃ x, st[k]? = some x := ⟨_, List.getElem?_eq_getElem (by rw [hl2]; omega)⟩
      obtain ⟨p3, q3, H3, H4, s1, s2, s3, s4, s5, s6, hat4, s7, s8, s9⟩ := hat.swap el22 hx1 hx2 (by rw [hold.base]; exact hb) (k := .i64)
      have hsw : swapL st k = (st.set (k - 1) x2).set k x1 := by simp [swapL, List.getD, hx1, hx2]
      rw [hsw] at hrun
      refine setup39.drawZ pure39 0 (lo := []) (by kernel_rfl) (by kernel_rfl) (by kernel_rfl) (by kernel_rfl) (by kernel_rfl) (by kernel_rfl) (by kernel_rfl) (by simp only [List.map_cons, List.map_nil]; rfl) (by simp only [qB, qC, qD, qE, qF, qG, qH, qJ, qK, qM, qN, qP, iop1, qR, qS, iop, qT, qV, qW, qX, qY, qZ, zA, Option.getD_some, zB, zC, zD, zE, zF, zG, zH, zJ, zK, zM, zN, Step1.ofO, lenC, callF, zP, zR, zS, zT, zV, cond_true, cond_false, decide_true, decide_false, beq_self_eq_true, Bool.false_eq_true, Bool.true_eq_false, zW, zX, zY, zZ, Bool.not_true, Bool.not_false, appC, copyC, yA, List.map_cons, List.map_nil, goInt, wrap_pred (k := k) (by omega) (by omega), s1, s2, s3, s4, s5, s6]; rfl) (by kernel_rfl) (BT.go ?_)
      exact setup39.regZ 0 (by kernel_rfl) (by simp only [List.map_cons, List.map_nil]; rfl) (by simp only [qB, qC, qD, qE, qF, qG, qH, qJ, qK, qM, qN, qP, iop1, qR, qS, iop, qT, qV, qW, qX, qY, qZ, zA, Option.getD_some, zB, zC, zD, zE, zF, zG, zH, zJ, zK, zM, zN, Step1.ofO, lenC, callF, zP, zR, zS, zT, zV, cond_true, cond_false, decide_true, decide_false, beq_self_eq_true, Bool.false_eq_true, Bool.true_eq_false, zW, zX, zY, zZ, Bool.not_true, Bool.not_false, appC, copyC, yA, List.map_cons, List.map_nil, goInt, wrap_succ hlt hwl]; rfl) (LQ.go (ws.length - (i + 1)) (by omega) (by repeat (first | exact WkL.nil | refine WkL.same ?_ | refine WkL.any ?_)) ⟨i + 1, by omega, rfl, rfl, hold.of (by omega) s8 fun b hb' => s9 b (hat.notOld hb'), by rw [hrun]; exact hat4⟩)
  · have hge : i = ws.length := by simp at ht; omega
    subst hge
    rw [List.take_length] at hat hl2
    refine ST.go ?_
    have hbs : h.base ≤ h.size := by rw [hold.base]; have := hold.size; omega
    refine setup39.regS (by kernel_rfl) (by simp only [List.map_cons, List.map_nil]; rfl) ?_; simp only [qB, qC, qD, qE, qF, qG, qH, qJ, qK, qM, qN, qP, iop1, qR, qS, iop, qT, qV, qW, qX, qY, qZ, zA, Option.getD_some, zB, zC, zD, zE, zF, zG, zH, zJ, zK, zM, zN, Step1.ofO, lenC, callF, zP, zR, zS, zT, zV, cond_true, cond_false, decide_true, decide_false, beq_self_eq_true, Bool.false_eq_true, Bool.true_eq_false, zW, zX, zY, zZ, Bool.not_true, Bool.not_false, appC, copyC, yA, List.map_cons, List.map_nil, goInt, yB, yC, e150, enter_s (x := (v, fromL n ws)) (show nat39 150 = some (ofS pre150 post150) from rfl) uniq150 ⟨rfl, hat.ints (by rw [hl2]; omega), by rw [fromL_len]; exact fromL_in hok, hbs⟩]
    rintro v2 H2 ⟨hold2, hown2⟩
    refine .ret ⟨.inr rfl, v2, ires_tmp rfl (by simp only [qX, qY]), hold.trans hold2, ?_⟩
    refine (hown2.lower hold.size).cast ?_
    unfold permL
    simp only [fromL_len]
theorem e112 : enters Tryz.prog 112 = true := by kernel_rfl
theorem pure40 : NatPure nat40 := addS_pure pure39

/-! 40: Moved -/
def pre40 (x : Nat × Value × List Int × Value × List Int) (args : List Value) (H : IH) : Prop :=
  args = [.int .i64 (x.1 : Int), x.2.1, x.2.2.2.1] ∧ intsOf H x.2.1 = some x.2.2.1 ∧ okW x.1 x.2.2.1 ∧ 0 < x.1 ∧ x.1 ≤ 12 ∧ intsOf H x.2.2.2.1 = some x.2.2.2.2 ∧ x.2.2.2.2.length = x.1 ∧ H.base ≤ H.size
def post40 (x : Nat × Value × List Int × Value × List Int) (H : IH) (v : Value) (H' : IH) : Prop := Old H H' ∧ OwnAt H' 3 H.size v (scatN (permL x.1 x.2.2.1) x.2.2.2.2 x.1 x.1)
theorem uniq40 (x y : Nat × Value × List Int × Value × List Int) (args : List Value) (H : IH) (hx : pre40 x args H) (hy : pre40 y args H) : x = y := by
  obtain ⟨n, v, ws, c, cs⟩ := x
  obtain ⟨n', v', ws', c', cs'⟩ := y
  have h1 := hx.1.symm.trans hy.1
  simp at h1
  obtain ⟨h1, rfl, rfl⟩ := h1
  have h2 := hx.2.1.symm.trans hy.2.1
  simp at h2
  subst h2
  have h3 := hx.2.2.2.2.2.1.symm.trans hy.2.2.2.2.2.1
  simp at h3
  subst h3
  have e1 : n = n' := by omega
  rw [e1]
noncomputable def nat41 : Nats := addS nat40 40 pre40 post40
set_option maxRecDepth 10000 in
theorem setup41 : Setup Tryz.prog good nat41 (globG 3) := setup40.addS pre40 post40 fun x args H ⟨ha, hz, hok, hn0, hn, hzc, hcl, hb⟩ => by
  obtain ⟨n, wv, ws, cv, cs⟩ := x
  simp only at ha hz hok hn hn0 hzc hcl
  subst ha
  obtain ⟨aw, cw, rfl, hwl, _⟩ := intsOf_inv hz
  obtain ⟨ac, cc, rfl, _, _⟩ := intsOf_inv hzc
  rw [hcl] at hzc ⊢
  refine CallI.of Tryz.func40 rfl (N := 31) rfl ?_
  show Holds _ _ false _ [.int .i64 n, .slice aw ws.length cw, .slice ac n cc, undef, undef, undef, undef, undef, undef, undef, undef, undef, undef, undef, undef, undef, undef, undef, undef, undef, undef, undef, undef, undef, undef, undef, undef, undef, undef, undef, undef] H _
  refine setup40.regE 0 (by kernel_rfl) (by simp only [List.map_cons, List.map_nil]; rfl) (by simp only [qB, qC, qD, qE, qF, qG, qH, qJ, qK, qM, qN, qP, iop1, qR, qS, iop, qT, qV, qW, qX, qY, qZ, zA, Option.getD_some, zB, zC, zD, zE, zF, zG, zH, zJ, zK, zM, zN, Step1.ofO, lenC, callF, zP, zR, zS, zT, zV, cond_true, cond_false, decide_true, decide_false, beq_self_eq_true, Bool.false_eq_true, Bool.true_eq_false, zW, zX, zY, zZ, Bool.not_true, Bool.not_false, appC, copyC, yA, List.map_cons, List.map_nil, goInt]; rfl) ?_
  refine setup40.regS (by kernel_rfl) (by simp only [List.map_cons, List.map_nil]; rfl) ?_; simp only [qB, qC, qD, qE, qF, qG, qH, qJ, qK, qM, qN, qP, iop1, qR, qS, iop, qT, qV, qW, qX, qY, qZ, zA, Option.getD_some, zB, zC, zD, zE, zF, zG, zH, zJ, zK, zM, zN, Step1.ofO, lenC, callF, zP, zR, zS, zT, zV, cond_true, cond_false, decide_true, decide_false, beq_self_eq_true, Bool.false_eq_true, Bool.true_eq_false, zW, zX, zY, zZ, Bool.not_true, Bool.not_false, appC, copyC, yA, List.map_cons, List.map_nil, goInt, yB, yC, e112, enter_s (x := (n, .slice aw ws.length cw, ws)) (show nat40 112 = some (ofS pre112 post112) from rfl) uniq112 ⟨rfl, hz, hok, hn0, hn, hb⟩]
  rintro pv H1 ⟨hold1, hown1⟩
  have hp1 : intsOf H1 pv = some (permL n ws) := hown1.ints (by rw [permL_len]; omega)
  refine setup40.regE 0 (by kernel_rfl) (by simp only [List.map_cons, List.map_nil]; rfl) (by simp only [qB, qC, qD, qE, qF, qG, qH, qJ, qK, qM, qN, qP, iop1, qR, qS, iop, qT, qV, qW, qX, qY, qZ, zA, Option.getD_some, zB, zC, zD, zE, zF, zG, zH, zJ, zK, zM, zN, Step1.ofO, lenC, callF, zP, zR, zS, zT, zV, cond_true, cond_false, decide_true, decide_false, beq_self_eq_true, Bool.false_eq_true, Bool.true_eq_false, zW, zX, zY, zZ, Bool.not_true, Bool.not_false, appC, copyC, yA, List.map_cons, List.map_nil, goInt, mk22 (n := n) (by omega)]; rfl) ?_
  generalize hv : Value.slice (some ⟨H1.size, 0, none⟩) n n = v
  have hown : OwnAt (H1.push (.cells ((List.replicate n (0 : Int)).map (Value.int .i64)).toArray 3)) 3 H1.size v (scatN (permL n ws) cs n 0) := by rw [← hv]; exact OwnAt.zeros _
  have hold0 := Old.push H1 (.cells ((List.replicate n (0 : Int)).map (Value.int .i64)).toArray 3)
  generalize H1.push (.cells ((List.replicate n (0 : Int)).map (Value.int .i64)).toArray 3) = H2 at hown hold0
  refine .seqW (setup40.regE 0 (by kernel_rfl) (by simp only [List.map_cons, List.map_nil]; rfl) (by simp only [qB, qC, qD, qE, qF, qG, qH, qJ, qK, qM, qN, qP, iop1, qR, qS, iop, qT, qV, qW, qX, qY, qZ, zA, Option.getD_some, zB, zC, zD, zE, zF, zG, zH, zJ, zK, zM, zN, Step1.ofO, lenC, callF, zP, zR, zS, zT, zV, cond_true, cond_false, decide_true, decide_false, beq_self_eq_true, Bool.false_eq_true, Bool.true_eq_false, zW, zX, zY, zZ, Bool.not_true, Bool.not_false, appC, copyC, yA, List.map_cons, List.map_nil, goInt]; rfl) ?_)
  refine .loopW (fun m e h => ∃ (i : Nat), i ≤ n ∧ m = n - i ∧ e = [.int .i64 n, unk, .slice ac n cc, unk, unk, unk, unk, pv, v, .int .i64 (i : Nat), unk, unk, unk, unk, unk, unk, unk, unk, unk, unk, unk, unk, unk, unk, unk, unk, unk, unk, unk, unk, unk] ∧ Old H1 h ∧ OwnAt h 3 H1.size v (scatN (permL n ws) cs n i)) n
    [.int .i64 n, unk, .slice ac n cc, unk, unk, unk, unk, pv, v, .int .i64 0, unk, unk, unk, unk, unk, unk, unk, unk, unk, unk, unk, unk, unk, unk, unk, unk, unk, unk, unk, unk, unk] (by repeat (first | exact WkL.nil | refine WkL.same ?_ | refine WkL.any ?_)) ⟨0, Nat.zero_le _, rfl, rfl, hold0, hown⟩ ?_
  rintro m e h ⟨i, hi, rfl, rfl, hold, hat⟩
  refine setup40.headW2 (by kernel_rfl) (by simp only [List.map_cons, List.map_nil]; rfl) (by simp only [qB, qC, qD, qE, qF, qG, qH, qJ, qK, qM, qN, qP, iop1, qR, qS, iop, qT, qV, qW, qX, qY, qZ, zA, Option.getD_some, zB, zC, zD, zE, zF, zG, zH, zJ, zK, zM, zN, Step1.ofO, lenC, callF, zP, zR, zS, zT, zV, cond_true, cond_false, decide_true, decide_false, beq_self_eq_true, Bool.false_eq_true, Bool.true_eq_false, zW, zX, zY, zZ, Bool.not_true, Bool.not_false, appC, copyC, yA, List.map_cons, List.map_nil, goInt]; rfl) (by kernel_rfl) (by simp only [qT, qX, qY, Option.getD_some]; rfl) (fun ht => ?_) (fun ht => ?_)
  · have hlt : i < n := by simpa using ht
    have hpl : i < (permL n ws).length := by rw [permL_len]; exact hlt
    obtain ⟨z, hpi⟩ : ∃ z, (permL n ws)[i]? = some z := ⟨_, List.getElem?_eq_getElem hpl⟩
    obtain ⟨hz0, hz1⟩ := permL_in (w := ws) hn0 z (List.mem_of_getElem? hpi)
    obtain ⟨j, rfl⟩ := Int.eq_ofNat_of_zero_le hz0
    obtain ⟨cz, hci⟩ : ∃ c, cs[i]? = some c := ⟨_, List.getElem?_eq_getElem (by rw [hcl]; exact hlt)⟩
    obtain ⟨p, hp, hld⟩ : ∃ p, iindexAt Tryz.prog 22 pv (.int .i64 (i : Nat)) = some p ∧ iloadAt Tryz.prog 3 p h = some (.int .i64 (j : Int)) := by
      obtain ⟨ap, cp, hpv, _, _⟩ := intsOf_inv (intsOf_old hold hp1)
      have := intsOf_old hold hp1
      rw [hpv] at this ⊢
      exact read_int el22 this hpi
    obtain ⟨p2, hp2, hld2⟩ := read_int el22 (intsOf_old (hold1.trans hold) hzc) hci (k := .i64)
    obtain ⟨q, h', hq, hst, hown', hsz, hbs, hkeep⟩ := hat.write el22 (i := j) (by rw [scatN_len]; omega) (by rw [hold.base, hold1.base]; have := hold1.size; omega) cz (k := .i64)
    have hs1 : scatN (permL n ws) cs n (i + 1) = (scatN (permL n ws) cs n i).set j cz := by
      rw [scatN]; simp [List.getD, hpi, hci]
    refine .blockW (setup40.drawZ pure40 0 (lo := []) (by kernel_rfl) (by kernel_rfl) (by kernel_rfl) (by kernel_rfl) (by kernel_rfl) (by kernel_rfl) (by kernel_rfl) (by simp only [List.map_cons, List.map_nil]; rfl) (by simp only [qB, qC, qD, qE, qF, qG, qH, qJ, qK, qM, qN, qP, iop1, qR, qS, iop, qT, qV, qW, qX, qY, qZ, zA, Option.getD_some, zB, zC, zD, zE, zF, zG, zH, zJ, zK, zM, zN, Step1.ofO, lenC, callF, zP, zR, zS, zT, zV, cond_true, cond_false, decide_true, decide_false, beq_self_eq_true, Bool.false_eq_true, Bool.true_eq_false, zW, zX, zY, zZ, Bool.not_true, Bool.not_false, appC, copyC, yA, List.map_cons, List.map_nil, goInt, hp, hld, hp2, hld2, hq, hst]; rfl) (by kernel_rfl) (BT.go ?_))
    exact setup40.regZ 0 (by kernel_rfl) (by simp only [List.map_cons, List.map_nil]; rfl) (by simp only [qB, qC, qD, qE, qF, qG, qH, qJ, qK, qM, qN, qP, iop1, qR, qS, iop, qT, qV, qW, qX, qY, qZ, zA, Option.getD_some, zB, zC, zD, zE, zF, zG, zH, zJ, zK, zM, zN, Step1.ofO, lenC, callF, zP, zR, zS, zT, zV, cond_true, cond_false, decide_true, decide_false, beq_self_eq_true, Bool.false_eq_true, Bool.true_eq_false, zW, zX, zY, zZ, Bool.not_true, Bool.not_false, appC, copyC, yA, List.map_cons, List.map_nil, goInt, wrap_succ hlt (by omega)]; rfl) (LQ.go (n - (i + 1)) (by omega) (by repeat (first | exact WkL.nil | refine WkL.same ?_ | refine WkL.any ?_)) ⟨i + 1, by omega, rfl, rfl, hold.of (by omega) hbs fun b hb' => hkeep b (hat.notOld hb'), by rw [hs1]; exact hown'⟩)
  · have hge : i = n := by simp at ht; omega
    subst hge
    exact ST.go (setup40.regE 0 (by kernel_rfl) (by simp only [List.map_cons, List.map_nil]; rfl) (by simp only [qB, qC, qD, qE, qF, qG, qH, qJ, qK, qM, qN, qP, iop1, qR, qS, iop, qT, qV, qW, qX, qY, qZ, zA, Option.getD_some, zB, zC, zD, zE, zF, zG, zH, zJ, zK, zM, zN, Step1.ofO, lenC, callF, zP, zR, zS, zT, zV, cond_true, cond_false, decide_true, decide_false, beq_self_eq_true, Bool.false_eq_true, Bool.true_eq_false, zW, zX, zY, zZ, Bool.not_true, Bool.not_false, appC, copyC, yA, List.map_cons, List.map_nil, goInt]; rfl) (.ret ⟨.inr rfl, _, ires_tmp rfl (by simp only [qX, qY]), hold1.trans hold, hat.lower hold1.size⟩))
theorem e40 : enters Tryz.prog 40 = true := by kernel_rfl
theorem pure41 : NatPure nat41 := addS_pure pure40
end Go.Proofs.YtpdlblofcdcikaaGreatDoor
