/- Contract of the reference's Seen. Conditions: none. -/
import Derived.Test.YtpdlblofcdcikaaGreatDoorG1
import Derived.Test.YtpdlblofcdcikaaGreatDoorIdlK
set_option linter.unusedSimpArgs false
set_option linter.unusedVariables false
namespace Go.Proofs.YtpdlblofcdcikaaGreatDoor
open Go.Idl

/-! ### Words, plainly -/
def idxC (c : Int) : Nat := if 0 < c then c.toNat - 1 else (0 - c).toNat
def swapL (l : List Int) (i : Nat) : List Int := (l.set (i - 1) (l.getD i 0)).set i (l.getD (i - 1) 0)
theorem swapL_len (l : List Int) (i : Nat) : (swapL l i).length = l.length := by simp [swapL]
def runW : List Int → List Int → List Int × List Int
  | [], l => ([], l)
  | c :: w, l => (l.getD (idxC c) 0 :: (runW w (swapL l c.natAbs)).1, (runW w (swapL l c.natAbs)).2)
theorem runW_snoc (c : Int) : ∀ (w l : List Int), runW (w ++ [c]) l = ((runW w l).1 ++ [(runW w l).2.getD (idxC c) 0], swapL (runW w l).2 c.natAbs)
  | [], l => rfl
  | d :: w, l => by
    show (_ :: (runW (w ++ [c]) _).1, (runW (w ++ [c]) _).2) = _
    rw [runW_snoc c w]; rfl
theorem runW_len : ∀ (w l : List Int), (runW w l).1.length = w.length ∧ (runW w l).2.length = l.length
  | [], l => ⟨rfl, rfl⟩
  | d :: w, l => by
    obtain ⟨h1, h2⟩ := runW_len w (swapL l d.natAbs)
    exact ⟨by show _ + 1 = _; rw [h1]; rfl, by rw [swapL_len] at h2; exact h2⟩
def permN (w l : List Int) : Nat → List Int
  | 0 => l
  | r + 1 => (runW w (permN w l r)).2
theorem permN_len (w l : List Int) : ∀ r, (permN w l r).length = l.length
  | 0 => rfl
  | r + 1 => by rw [permN, (runW_len w _).2, permN_len w l r]
def seenN (w l : List Int) (r : Nat) : List (List Int) := (List.range r).map fun k => (runW w (permN w l k)).1
theorem seenN_succ (w l : List Int) (r : Nat) : seenN w l (r + 1) = seenN w l r ++ [(runW w (permN w l r)).1] := by simp [seenN, List.range_succ]
theorem seenN_len (w l : List Int) (r : Nat) : (seenN w l r).length = r := by simp [seenN]
def okW (n : Nat) (w : List Int) : Prop := ∀ c ∈ w, c ≠ 0 ∧ c.natAbs < n
theorem take_succ {α : Type} {l : List α} {i : Nat} {x : α} (h : l[i]? = some x) : l.take (i + 1) = l.take i ++ [x] := by rw [List.take_add_one, h]; rfl

/-! 64: Seen -/
def pre64 (x : Nat × Value × List Int × Nat) (args : List Value) (H : IH) : Prop := args = [.int .i64 (x.1 : Int), x.2.1, .int .i64 (x.2.2.2 : Int)] ∧ intsOf H x.2.1 = some x.2.2.1 ∧ okW x.1 x.2.2.1 ∧ x.1 ≤ 12 ∧ x.2.2.2 ≤ 1000 ∧ H.base ≤ H.size
def post64 (x : Nat × Value × List Int × Nat) (H : IH) (v : Value) (H' : IH) : Prop := Old H H' ∧ ∃ rows, Grown H' 22 H.size v rows ∧ IRows H' 3 H.size H'.size rows (seenN x.2.2.1 (rangeI x.1) x.2.2.2)
theorem uniq64 (x y : Nat × Value × List Int × Nat) (args : List Value) (H : IH) (hx : pre64 x args H) (hy : pre64 y args H) : x = y := by
  obtain ⟨n, v, ws, r⟩ := x
  obtain ⟨n', v', ws', r'⟩ := y
  have h1 := hx.1.symm.trans hy.1
  simp at h1
  obtain ⟨h1, rfl, h3⟩ := h1
  have h2 := hx.2.1.symm.trans hy.2.1
  simp at h2
  subst h2
  have e1 : n = n' := by omega
  have e2 : r = r' := by omega
  rw [e1, e2]
theorem e135 : enters Tryz.prog 135 = true := by kernel_rfl
noncomputable def nat22 : Nats := addS nat21 64 pre64 post64
theorem pure21 : NatPure nat21 := by
  unfold nat21
  apply addS_pure
  unfold nat20 nat19
  exact addNat_pure (addNat_pure pure18)
set_option maxRecDepth 10000 in
theorem setup22 : Setup Tryz.prog good nat22 (globG 3) := setup21.addS pre64 post64 fun x args H ⟨ha, hz, hok, hn, hr, hb⟩ => by
  obtain ⟨n, wv, ws, r⟩ := x
  simp only at ha hz hok hn hr
  subst ha
  obtain ⟨aw, cw, rfl, hwl, hwget⟩ := intsOf_inv hz
  refine CallI.of Tryz.func64 rfl (N := 70) rfl ?_
  show Holds _ _ false _ [.int .i64 n, .slice aw ws.length cw, .int .i64 r, undef, undef, undef, undef, undef, undef, undef, undef, undef, undef, undef, undef, undef, undef, undef, undef, undef, undef, undef, undef, undef, undef, undef, undef, undef, undef, undef, undef, undef, undef, undef, undef, undef, undef, undef, undef, undef, undef, undef, undef, undef, undef, undef, undef, undef, undef, undef, undef, undef, undef, undef, undef, undef, undef, undef, undef, undef, undef, undef, undef, undef, undef, undef, undef, undef, undef, undef] H _
  refine setup21.regE 0 (by kernel_rfl) (by simp only [List.map_cons, List.map_nil]; rfl) (by simp only [qB, qC, qD, qE, qF, qG, qH, qJ, qK, qM, qN, qP, iop1, qR, qS, iop, qT, qV, qW, qX, qY, qZ, zA, Option.getD_some, zB, zC, zD, zE, zF, zG, zH, zJ, zK, zM, zN, Step1.ofO, lenC, callF, zP, zR, zS, zT, zV, cond_true, cond_false, decide_true, decide_false, beq_self_eq_true, Bool.false_eq_true, Bool.true_eq_false, zW, zX, zY, zZ, Bool.not_true, Bool.not_false, appC, copyC, yA, List.map_cons, List.map_nil, goInt]; rfl) ?_
  refine setup21.regS (by kernel_rfl) (by simp only [List.map_cons, List.map_nil]; rfl) ?_; simp only [qB, qC, qD, qE, qF, qG, qH, qJ, qK, qM, qN, qP, iop1, qR, qS, iop, qT, qV, qW, qX, qY, qZ, zA, Option.getD_some, zB, zC, zD, zE, zF, zG, zH, zJ, zK, zM, zN, Step1.ofO, lenC, callF, zP, zR, zS, zT, zV, cond_true, cond_false, decide_true, decide_false, beq_self_eq_true, Bool.false_eq_true, Bool.true_eq_false, zW, zX, zY, zZ, Bool.not_true, Bool.not_false, appC, copyC, yA, List.map_cons, List.map_nil, goInt, yB, yC, e135, enter_s (x := n) (show nat21 135 = some (ofS pre135 post135) from rfl) uniq135 ⟨rfl, by omega, hb⟩]
  rintro v1 H1 ⟨hold1, hg1⟩
  refine setup21.regE 0 (by kernel_rfl) (by simp only [List.map_cons, List.map_nil]; rfl) (by simp only [qB, qC, qD, qE, qF, qG, qH, qJ, qK, qM, qN, qP, iop1, qR, qS, iop, qT, qV, qW, qX, qY, qZ, zA, Option.getD_some, zB, zC, zD, zE, zF, zG, zH, zJ, zK, zM, zN, Step1.ofO, lenC, callF, zP, zR, zS, zT, zV, cond_true, cond_false, decide_true, decide_false, beq_self_eq_true, Bool.false_eq_true, Bool.true_eq_false, zW, zX, zY, zZ, Bool.not_true, Bool.not_false, appC, copyC, yA, List.map_cons, List.map_nil, goInt]; rfl) ?_
  refine .seqW (setup21.regE 0 (by kernel_rfl) (by simp only [List.map_cons, List.map_nil]; rfl) (by simp only [qB, qC, qD, qE, qF, qG, qH, qJ, qK, qM, qN, qP, iop1, qR, qS, iop, qT, qV, qW, qX, qY, qZ, zA, Option.getD_some, zB, zC, zD, zE, zF, zG, zH, zJ, zK, zM, zN, Step1.ofO, lenC, callF, zP, zR, zS, zT, zV, cond_true, cond_false, decide_true, decide_false, beq_self_eq_true, Bool.false_eq_true, Bool.true_eq_false, zW, zX, zY, zZ, Bool.not_true, Bool.not_false, appC, copyC, yA, List.map_cons, List.map_nil, goInt]; rfl) ?_)
  refine .loopW (fun m e h => ∃ (i : Nat) (v ov : Value) (rows : List Value), i ≤ r ∧ m = r - i ∧ e = [.int .i64 n, .slice aw ws.length cw, .int .i64 r, unk, unk, unk, unk, v, ov, .int .i64 (i : Nat), unk, unk, unk, unk, unk, unk, unk, unk, unk, unk, unk, unk, unk, unk, unk, unk, unk, unk, unk, unk, unk, unk, unk, unk, unk, unk, unk, unk, unk, unk, unk, unk, unk, unk, unk, unk, unk, unk, unk, unk, unk, unk, unk, unk, unk, unk, unk, unk, unk, unk, unk, unk, unk, unk, unk, unk, unk, unk, unk, unk] ∧ Old H h ∧ H1.size ≤ h.size ∧ Grown h 3 H.size v ((permN ws (rangeI n) i).map (.int .i64)) ∧ (∀ b, blkIs v b → b < H1.size) ∧
      Grown h 22 H1.size ov rows ∧ IRows h 3 H1.size h.size rows (seenN ws (rangeI n) i)) r [.int .i64 n, .slice aw ws.length cw, .int .i64 r, unk, unk, unk, unk, v1, .slice none 0 0, .int .i64 0, unk, unk, unk, unk, unk, unk, unk, unk, unk, unk, unk, unk, unk, unk, unk, unk, unk, unk, unk, unk, unk, unk, unk, unk, unk, unk, unk, unk, unk, unk, unk, unk, unk, unk, unk, unk, unk, unk, unk, unk, unk, unk, unk, unk, unk, unk, unk, unk, unk, unk, unk, unk, unk, unk, unk, unk, unk, unk, unk, unk] (by repeat (first | exact WkL.nil | refine WkL.same ?_ | refine WkL.any ?_))
    ⟨0, _, _, [], Nat.zero_le _, rfl, rfl, hold1, Nat.le_refl _, hg1, ?_, .nil _ _ _, .nil _ _ _ _⟩ ?_
  · rcases hg1 with ⟨_, rfl⟩ | ⟨b, _, h2, rfl, _⟩
    · exact fun b h => h.elim
    · intro b' h; have : b = b' := h; omega
  rintro m e h ⟨i, v, ov, rows, hi, rfl, rfl, hold, hsz1, hat, hatlt, hout, hrows⟩
  refine setup21.headW2 (by kernel_rfl) (by simp only [List.map_cons, List.map_nil]; rfl) (by simp only [qB, qC, qD, qE, qF, qG, qH, qJ, qK, qM, qN, qP, iop1, qR, qS, iop, qT, qV, qW, qX, qY, qZ, zA, Option.getD_some, zB, zC, zD, zE, zF, zG, zH, zJ, zK, zM, zN, Step1.ofO, lenC, callF, zP, zR, zS, zT, zV, cond_true, cond_false, decide_true, decide_false, beq_self_eq_true, Bool.false_eq_true, Bool.true_eq_false, zW, zX, zY, zZ, Bool.not_true, Bool.not_false, appC, copyC, yA, List.map_cons, List.map_nil, goInt]; rfl) (by kernel_rfl) (by simp only [qT, qX, qY, Option.getD_some]; rfl) (fun ht => ?_) (fun ht => ?_)
  · have hlt : i < r := by simpa using ht
    generalize hat0 : permN ws (rangeI n) i = at0 at hat
    have hat0l : at0.length = n := by rw [← hat0, permN_len, rangeI_len]
    have hrl : rows.length = i := by rw [hrows.1, seenN_len]
    have hbs : h.base ≤ H.size := by rw [hold.base]; exact hb
    have hHh := hold.size
    have hH1 := hold1.size
    refine .blockW (setup21.regE 0 (by kernel_rfl) (by simp only [List.map_cons, List.map_nil]; rfl) (by simp only [qB, qC, qD, qE, qF, qG, qH, qJ, qK, qM, qN, qP, iop1, qR, qS, iop, qT, qV, qW, qX, qY, qZ, zA, Option.getD_some, zB, zC, zD, zE, zF, zG, zH, zJ, zK, zM, zN, Step1.ofO, lenC, callF, zP, zR, zS, zT, zV, cond_true, cond_false, decide_true, decide_false, beq_self_eq_true, Bool.false_eq_true, Bool.true_eq_false, zW, zX, zY, zZ, Bool.not_true, Bool.not_false, appC, copyC, yA, List.map_cons, List.map_nil, goInt]; rfl) ?_)
    refine .seqW (setup21.regE 0 (by kernel_rfl) (by simp only [List.map_cons, List.map_nil]; rfl) (by simp only [qB, qC, qD, qE, qF, qG, qH, qJ, qK, qM, qN, qP, iop1, qR, qS, iop, qT, qV, qW, qX, qY, qZ, zA, Option.getD_some, zB, zC, zD, zE, zF, zG, zH, zJ, zK, zM, zN, Step1.ofO, lenC, callF, zP, zR, zS, zT, zV, cond_true, cond_false, decide_true, decide_false, beq_self_eq_true, Bool.false_eq_true, Bool.true_eq_false, zW, zX, zY, zZ, Bool.not_true, Bool.not_false, appC, copyC, yA, List.map_cons, List.map_nil, goInt]; rfl) ?_)
    have hov : ∀ b, blkIs ov b → b < h.size ∧ H1.size ≤ b := fun b hb' => ⟨(hout.blk_lt hb').2.1, (hout.blk_lt hb').1⟩
    refine .loopW (fun m e h2 => ∃ (j : Nat) (rv : Value), j ≤ ws.length ∧ m = ws.length - j ∧ e = [.int .i64 n, .slice aw ws.length cw, .int .i64 r, unk, unk, unk, unk, v, ov, .int .i64 (i : Nat), rv, .int .i64 (j : Nat), unk, unk, unk, unk, unk, unk, unk, unk, unk, unk, unk, unk, unk, unk, unk, unk, unk, unk, unk, unk, unk, unk, unk, unk, unk, unk, unk, unk, unk, unk, unk, unk, unk, unk, unk, unk, unk, unk, unk, unk, unk, unk, unk, unk, unk, unk, unk, unk, unk, unk, unk, unk, unk, unk, unk, unk, unk, unk] ∧ Old H h2 ∧ h.size ≤ h2.size ∧
      Grown h2 3 H.size v ((runW (ws.take j) at0).2.map (.int .i64)) ∧ Grown h2 3 h.size rv ((runW (ws.take j) at0).1.map (.int .i64)) ∧ Grown h2 22 H1.size ov rows ∧ IRows h2 3 H1.size h.size rows (seenN ws (rangeI n) i)) ws.length
      [.int .i64 n, .slice aw ws.length cw, .int .i64 r, unk, unk, unk, unk, v, ov, .int .i64 (i : Nat), .slice none 0 0, .int .i64 0, unk, unk, unk, unk, unk, unk, unk, unk, unk, unk, unk, unk, unk, unk, unk, unk, unk, unk, unk, unk, unk, unk, unk, unk, unk, unk, unk, unk, unk, unk, unk, unk, unk, unk, unk, unk, unk, unk, unk, unk, unk, unk, unk, unk, unk, unk, unk, unk, unk, unk, unk, unk, unk, unk, unk, unk, unk, unk] (by repeat (first | exact WkL.nil | refine WkL.same ?_ | refine WkL.any ?_))
      ⟨0, _, Nat.zero_le _, rfl, rfl, hold, Nat.le_refl _, hat, .nil _ _ _, hout, hrows⟩ ?_
    rintro m e h2 ⟨j, rv, hj, rfl, rfl, hold2, hsz2, hat2, hrow2, hout2, hrows2⟩
    refine setup21.headW2 (by kernel_rfl) (by simp only [List.map_cons, List.map_nil]; rfl) (by simp only [qB, qC, qD, qE, qF, qG, qH, qJ, qK, qM, qN, qP, iop1, qR, qS, iop, qT, qV, qW, qX, qY, qZ, zA, Option.getD_some, zB, zC, zD, zE, zF, zG, zH, zJ, zK, zM, zN, Step1.ofO, lenC, callF, zP, zR, zS, zT, zV, cond_true, cond_false, decide_true, decide_false, beq_self_eq_true, Bool.false_eq_true, Bool.true_eq_false, zW, zX, zY, zZ, Bool.not_true, Bool.not_false, appC, copyC, yA, List.map_cons, List.map_nil, goInt, lenB_slice u22]; rfl) (by kernel_rfl) (by simp only [qT, qX, qY, Option.getD_some]; rfl) (fun ht2 => ?_) (fun ht2 => ?_)
    · have hjlt : j < ws.length := by simpa using ht2
      have hcj : ws[j]? = some ws[j] := List.getElem?_eq_getElem hjlt
      obtain ⟨hc0, hcn⟩ := hok ws[j] (List.getElem_mem hjlt)
      generalize ws[j] = c at hcj hc0 hcn
      have hb2 : h2.base ≤ H.size := by rw [hold2.base]; exact hb
      have hl2 : (runW (ws.take j) at0).2.length = n := by rw [(runW_len _ _).2, hat0l]
      have hl1 : (runW (ws.take j) at0).1.length = j := by rw [(runW_len _ _).1]; simp; omega
      have hrun := runW_snoc c (ws.take j) at0
      rw [← take_succ hcj] at hrun
      generalize runW (ws.take j) at0 = st at hat2 hrow2 hl1 hl2 hrun
      obtain ⟨p, hp, hld⟩ := read_int el22 (intsOf_old hold2 hz) hcj (k := .i64)
      refine .blockW (setup21.regE 0 (by kernel_rfl) (by simp only [List.map_cons, List.map_nil]; rfl) (by simp only [qB, qC, qD, qE, qF, qG, qH, qJ, qK, qM, qN, qP, iop1, qR, qS, iop, qT, qV, qW, qX, qY, qZ, zA, Option.getD_some, zB, zC, zD, zE, zF, zG, zH, zJ, zK, zM, zN, Step1.ofO, lenC, callF, zP, zR, zS, zT, zV, cond_true, cond_false, decide_true, decide_false, beq_self_eq_true, Bool.false_eq_true, Bool.true_eq_false, zW, zX, zY, zZ, Bool.not_true, Bool.not_false, appC, copyC, yA, List.map_cons, List.map_nil, goInt, hp, hld]; rfl) ?_)
      have hk : c = (c.natAbs : Int) ∧ 0 < c ∨ c = 0 - (c.natAbs : Int) ∧ c < 0 := by omega
      generalize hkk : c.natAbs = k at hk hcn hrun
      have hkidx : ∃ z, st.2[idxC c]? = some z := ⟨_, List.getElem?_eq_getElem (by unfold idxC; rw [hl2]; split <;> omega)⟩
      obtain ⟨z, hzz⟩ := hkidx
      have hgz : st.2.getD (idxC c) 0 = z := by simp [List.getD, hzz]
      rw [hgz] at hrun
      obtain ⟨rv', h3, happ, hrow3, hsz3, hbs3, hkeep3, hnew3⟩ := hrow2.app (x := .int .i64 z) el22 rfl (ints_one _) (by simp [hl1]; omega) (by omega) hsz2
      obtain ⟨p2, hp2, hld2⟩ := (hat2.read el22 (i := idxC c) (x := .int .i64 z) (by simp [hzz]) (k := .i64))
      have hrvv : ∀ b, blkIs rv b → h.size ≤ b := fun b hb' => (hrow2.blk_lt hb').1
      have hat3 : Grown h3 3 H.size v (st.2.map (.int .i64)) := hat2.keep (by omega) fun b _ q1 q2 => hkeep3 b q1 fun q3 => by have := hatlt b q2; have := hrvv b q3; omega
      refine setup21.ifJ (fun e h => e = [.int .i64 n, .slice aw ws.length cw, .int .i64 r, unk, unk, unk, unk, v, ov, .int .i64 (i : Nat), rv', .int .i64 (j : Nat), .int .i64 (k : Nat), unk, unk, unk, unk, unk, unk, unk, unk, unk, unk, unk, unk, unk, unk, unk, unk, unk, unk, unk, unk, unk, unk, unk, unk, unk, unk, unk, unk, unk, unk, unk, unk, unk, unk, unk, unk, unk, unk, unk, unk, unk, unk, unk, unk, unk, unk, unk, unk, unk, unk, unk, unk, unk, unk, unk, unk, unk] ∧ h = h3) (by kernel_rfl) (by simp only [List.map_cons, List.map_nil]; rfl) (by simp only [qB, qC, qD, qE, qF, qG, qH, qJ, qK, qM, qN, qP, iop1, qR, qS, iop, qT, qV, qW, qX, qY, qZ, zA, Option.getD_some, zB, zC, zD, zE, zF, zG, zH, zJ, zK, zM, zN, Step1.ofO, lenC, callF, zP, zR, zS, zT, zV, cond_true, cond_false, decide_true, decide_false, beq_self_eq_true, Bool.false_eq_true, Bool.true_eq_false, zW, zX, zY, zZ, Bool.not_true, Bool.not_false, appC, copyC, yA, List.map_cons, List.map_nil, goInt]; rfl) (by kernel_rfl) (by simp only [qT, qX, qY, Option.getD_some]; rfl) (fun ht3 => ?_) (fun ht3 => ?_) ?_
      · have hc : c = (k : Int) := by simp at ht3; omega
        have hix : idxC c = k - 1 := by unfold idxC; rw [hc]; split <;> omega
        rw [hix] at hp2
        subst hc
        exact setup21.regZ 0 (by kernel_rfl) (by simp only [List.map_cons, List.map_nil]; rfl) (by simp only [qB, qC, qD, qE, qF, qG, qH, qJ, qK, qM, qN, qP, iop1, qR, qS, iop, qT, qV, qW, qX, qY, qZ, zA, Option.getD_some, zB, zC, zD, zE, zF, zG, zH, zJ, zK, zM, zN, Step1.ofO, lenC, callF, zP, zR, zS, zT, zV, cond_true, cond_false, decide_true, decide_false, beq_self_eq_true, Bool.false_eq_true, Bool.true_eq_false, zW, zX, zY, zZ, Bool.not_true, Bool.not_false, appC, copyC, yA, List.map_cons, List.map_nil, goInt, wrap_pred (k := k) (by omega) (by omega), hp2, hld2, b1i, happ]; rfl) (JT.go (by repeat (first | exact WkL.nil | refine WkL.same ?_ | refine WkL.any ?_)) ⟨rfl, rfl⟩)
      · have hc : c = 0 - (k : Int) := by simp at ht3; omega
        have hix : idxC c = k := by unfold idxC; rw [hc]; split <;> omega
        rw [hix] at hp2
        have hw : IntKind.i64.wrap (0 - c) = (k : Int) := by rw [wrap_id (by omega) (by omega)]; omega
        refine setup21.regE 0 (by kernel_rfl) (by simp only [List.map_cons, List.map_nil]; rfl) (by simp only [qB, qC, qD, qE, qF, qG, qH, qJ, qK, qM, qN, qP, iop1, qR, qS, iop, qT, qV, qW, qX, qY, qZ, zA, Option.getD_some, zB, zC, zD, zE, zF, zG, zH, zJ, zK, zM, zN, Step1.ofO, lenC, callF, zP, zR, zS, zT, zV, cond_true, cond_false, decide_true, decide_false, beq_self_eq_true, Bool.false_eq_true, Bool.true_eq_false, zW, zX, zY, zZ, Bool.not_true, Bool.not_false, appC, copyC, yA, List.map_cons, List.map_nil, goInt, hw]; rfl) ?_
        exact setup21.regZ 0 (by kernel_rfl) (by simp only [List.map_cons, List.map_nil]; rfl) (by simp only [qB, qC, qD, qE, qF, qG, qH, qJ, qK, qM, qN, qP, iop1, qR, qS, iop, qT, qV, qW, qX, qY, qZ, zA, Option.getD_some, zB, zC, zD, zE, zF, zG, zH, zJ, zK, zM, zN, Step1.ofO, lenC, callF, zP, zR, zS, zT, zV, cond_true, cond_false, decide_true, decide_false, beq_self_eq_true, Bool.false_eq_true, Bool.true_eq_false, zW, zX, zY, zZ, Bool.not_true, Bool.not_false, appC, copyC, yA, List.map_cons, List.map_nil, goInt, hp2, hld2, b1i, happ]; rfl) (JT.go (by repeat (first | exact WkL.nil | refine WkL.same ?_ | refine WkL.any ?_)) ⟨rfl, rfl⟩)
      · rintro e h' ⟨rfl, rfl⟩
        obtain ⟨x1, hx1⟩ : ∃ x, st.2[k - 1]? = some x := ⟨_, List.getElem?_eq_getElem (by rw [hl2]; omega)⟩
        obtain ⟨x2, hx2⟩ : ∃ x, st.2[k]? = some x := ⟨_, List.getElem?_eq_getElem (by rw [hl2]; omega)⟩
        obtain ⟨p3, q3, H3, H4, s1, s2, s3, s4, s5, s6, hat4, s7, s8, s9⟩ := hat3.swap el22 hx1 hx2 (by omega) (k := .i64)
        have hsw : swapL st.2 k = (st.2.set (k - 1) x2).set k x1 := by simp [swapL, List.getD, hx1, hx2]
        rw [hsw] at hrun
        have hkeepv : ∀ b, H1.size ≤ b → H4.get b = h'.get b := fun b q1 => s9 b fun q2 => by have := hatlt b q2; omega
        refine setup21.drawZ pure21 0 (lo := []) (by kernel_rfl) (by kernel_rfl) (by kernel_rfl) (by kernel_rfl) (by kernel_rfl) (by kernel_rfl) (by kernel_rfl) (by simp only [List.map_cons, List.map_nil]; rfl) (by simp only [qB, qC, qD, qE, qF, qG, qH, qJ, qK, qM, qN, qP, iop1, qR, qS, iop, qT, qV, qW, qX, qY, qZ, zA, Option.getD_some, zB, zC, zD, zE, zF, zG, zH, zJ, zK, zM, zN, Step1.ofO, lenC, callF, zP, zR, zS, zT, zV, cond_true, cond_false, decide_true, decide_false, beq_self_eq_true, Bool.false_eq_true, Bool.true_eq_false, zW, zX, zY, zZ, Bool.not_true, Bool.not_false, appC, copyC, yA, List.map_cons, List.map_nil, goInt, wrap_pred (k := k) (by omega) (by omega), s1, s2, s3, s4, s5, s6]; rfl) (by kernel_rfl) (BT.go ?_)
        have hk34 : ∀ b, b < h2.size → ¬ blkIs v b → ¬ blkIs rv b → H4.get b = h2.get b := fun b q1 q2 q3 => (s9 b q2).trans (hkeep3 b q1 q3)
        refine setup21.regZ 0 (by kernel_rfl) (by simp only [List.map_cons, List.map_nil]; rfl) (by simp only [qB, qC, qD, qE, qF, qG, qH, qJ, qK, qM, qN, qP, iop1, qR, qS, iop, qT, qV, qW, qX, qY, qZ, zA, Option.getD_some, zB, zC, zD, zE, zF, zG, zH, zJ, zK, zM, zN, Step1.ofO, lenC, callF, zP, zR, zS, zT, zV, cond_true, cond_false, decide_true, decide_false, beq_self_eq_true, Bool.false_eq_true, Bool.true_eq_false, zW, zX, zY, zZ, Bool.not_true, Bool.not_false, appC, copyC, yA, List.map_cons, List.map_nil, goInt, wrap_succ hjlt hwl]; rfl) (LQ.go (ws.length - (j + 1)) (by omega) (by repeat (first | exact WkL.nil | refine WkL.same ?_ | refine WkL.any ?_)) ⟨j + 1, rv', by omega, rfl, rfl, ?_, by omega, ?_, ?_, ?_, ?_⟩)
        · refine hold2.of (by omega) (s8.trans hbs3) fun b q1 => ?_
          have q4 := hold2.size
          exact hk34 b (by omega) (hat2.notOld q1) fun q2 => by have := hrvv b q2; have := hold.size; omega
        · rw [hrun]; exact hat4
        · rw [hrun]
          refine (hrow3.get_cast (by simp)).keep (by omega) fun b q1 _ _ => hkeepv b (by omega)
        · exact hout2.keep (by omega) fun b q1 q2 q3 => hk34 b q2 (fun q4 => by have := hatlt b q4; omega) fun q4 => by have := hrvv b q4; have := (hov b q3).1; omega
        · exact hrows2.keep (by omega) fun b c fz q1 q2 q3 _ => hk34 b q3 (fun q4 => by have := hatlt b q4; omega) fun q4 => by have := hrvv b q4; omega
    · have hge : j = ws.length := by simp at ht2; omega
      subst hge
      rw [List.take_length] at hat2 hrow2
      obtain ⟨a2, hrvs⟩ := hrow2.len
      have hb2 : h2.base ≤ H.size := by rw [hold2.base]; exact hb
      obtain ⟨ov', h3, happ, hout3, hsz3, hbs3, hkeep3, hnew3⟩ := hout2.app (x := rv) el25 (by rw [hrvs]; rfl) hrows2.one (by omega) (by have := hold1.size; omega) (by omega)
      rw [hrvs] at happ
      refine ST.go ?_
      rw [hrvs]
      refine setup21.regZ 0 (by kernel_rfl) (by simp only [List.map_cons, List.map_nil]; rfl) (by simp only [qB, qC, qD, qE, qF, qG, qH, qJ, qK, qM, qN, qP, iop1, qR, qS, iop, qT, qV, qW, qX, qY, qZ, zA, Option.getD_some, zB, zC, zD, zE, zF, zG, zH, zJ, zK, zM, zN, Step1.ofO, lenC, callF, zP, zR, zS, zT, zV, cond_true, cond_false, decide_true, decide_false, beq_self_eq_true, Bool.false_eq_true, Bool.true_eq_false, zW, zX, zY, zZ, Bool.not_true, Bool.not_false, appC, copyC, yA, List.map_cons, List.map_nil, goInt, b1s, happ]; rfl) (BT.go ?_)
      refine setup21.regZ 0 (by kernel_rfl) (by simp only [List.map_cons, List.map_nil]; rfl) (by simp only [qB, qC, qD, qE, qF, qG, qH, qJ, qK, qM, qN, qP, iop1, qR, qS, iop, qT, qV, qW, qX, qY, qZ, zA, Option.getD_some, zB, zC, zD, zE, zF, zG, zH, zJ, zK, zM, zN, Step1.ofO, lenC, callF, zP, zR, zS, zT, zV, cond_true, cond_false, decide_true, decide_false, beq_self_eq_true, Bool.false_eq_true, Bool.true_eq_false, zW, zX, zY, zZ, Bool.not_true, Bool.not_false, appC, copyC, yA, List.map_cons, List.map_nil, goInt, wrap_succ hlt hr]; rfl) (LQ.go (r - (i + 1)) (by omega) (by repeat (first | exact WkL.nil | refine WkL.same ?_ | refine WkL.any ?_)) ⟨i + 1, v, ov', rows ++ [rv], by omega, rfl, rfl, ?_, by omega, ?_, hatlt, hout3, ?_⟩)
      · refine hold2.of (by omega) hbs3 fun b q1 => hkeep3 b (by have := hold2.size; omega) (hout2.notOld (by have := hold1.size; omega))
      · rw [permN, hat0]
        exact hat2.keep (by omega) fun b _ q2 q3 => hkeep3 b q2 fun q4 => by have := hatlt b q3; have := (hout2.blk_lt q4).1; omega
      · rw [seenN_succ, hat0]
        refine IRows.snoc ?_ ?_
        · exact (hrows2.keepEl hout2 (by decide) (by omega) hkeep3).lower (Nat.le_refl _) (by omega)
        · refine ((hrow2.row.lower (by omega) (Nat.le_refl _)).keep (by omega) fun b c fz q1 q2 q3 q4 _ => hkeep3 b q3 fun q5 => ?_).lower (Nat.le_refl _) (by omega)
          have := (hout2.blk_lt q5).2.2
          rw [q4] at this
          simp at this
  · have hge : i = r := by simp at ht; omega
    subst hge
    refine ST.go (setup21.regE 0 (by kernel_rfl) (by simp only [List.map_cons, List.map_nil]; rfl) (by simp only [qB, qC, qD, qE, qF, qG, qH, qJ, qK, qM, qN, qP, iop1, qR, qS, iop, qT, qV, qW, qX, qY, qZ, zA, Option.getD_some, zB, zC, zD, zE, zF, zG, zH, zJ, zK, zM, zN, Step1.ofO, lenC, callF, zP, zR, zS, zT, zV, cond_true, cond_false, decide_true, decide_false, beq_self_eq_true, Bool.false_eq_true, Bool.true_eq_false, zW, zX, zY, zZ, Bool.not_true, Bool.not_false, appC, copyC, yA, List.map_cons, List.map_nil, goInt]; rfl) ?_)
    exact .ret ⟨.inr rfl, _, ires_tmp rfl (by simp only [qX, qY]), hold, rows, hout.lower hold1.size, hrows.lower hold1.size (Nat.le_refl _)⟩
end Go.Proofs.YtpdlblofcdcikaaGreatDoor
