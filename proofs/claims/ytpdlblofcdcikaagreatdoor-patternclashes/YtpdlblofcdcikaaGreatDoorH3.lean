/- The iterator rows. Conditions: none. -/
import Derived.Test.YtpdlblofcdcikaaGreatDoorIdlK
import Derived.Test.YtpdlblofcdcikaaGreatDoorH2
import Derived.Test.YtpdlblofcdcikaaGreatDoorL1
set_option linter.unusedSimpArgs false
set_option linter.unusedVariables false
namespace Go.Proofs.YtpdlblofcdcikaaGreatDoor
open Go.Idl

/-! 146: rows -/
def pre146 (x : Value × Value × Int) (args : List Value) (H : IH) : Prop := args = [.agg #[x.1, x.2.1], .int .i64 x.2.2] ∧ H.base ≤ H.size
def post146 (x : Value × Value × Int) (H : IH) (v : Value) (H' : IH) : Prop := Old H H' ∧ ∃ b1 b2, v = .func (.func 174) #[] #[.pointer (some ⟨b1, 0, none⟩), .pointer (some ⟨b2, 0, none⟩)] ∧ H.size ≤ b1 ∧ H.size ≤ b2 ∧ b1 < H'.size ∧ b2 < H'.size ∧
  H'.get b1 = some (.cells [x.1, x.2.1].toArray 117 (0, 0)) ∧ H'.get b2 = some (.cells [.int .i64 x.2.2].toArray 3 (0, 0))
theorem uniq146 (x y : Value × Value × Int) (args : List Value) (H : IH) (hx : pre146 x args H) (hy : pre146 y args H) : x = y := by
  obtain ⟨a, b, c⟩ := x
  obtain ⟨a', b', c'⟩ := y
  have h1 := hx.1.symm.trans hy.1
  simp at h1
  obtain ⟨⟨rfl, rfl⟩, rfl⟩ := h1
  rfl
noncomputable def hat4 : Nats := addS hat3 146 pre146 post146
theorem ib3 (z : Int) (H : IH) : ibox 3 (.int .i64 z) H = some (.val (.pointer (some ⟨H.size, 0, none⟩)) (H.push (.cells #[.int .i64 z] 3))) := rfl
theorem mkf {g : FuncId} {c : Array Value} {H : IH} : imakeFunc (.func g) #[] c H = some (.val (.func (.func g) #[] c) H) := rfl
set_option maxRecDepth 10000 in
theorem setH4 : Setup Tryz.prog good hat4 (globG 3) := setH3.addS pre146 post146 fun x args H ⟨ha, hb⟩ => by
  obtain ⟨sv, fv, n⟩ := x
  simp only at ha
  subst ha
  refine CallI.of Tryz.func146 rfl (N := 6) rfl ?_
  show Holds _ _ false _ [.agg #[sv, fv], .int .i64 n, undef, undef, undef, undef] H _
  refine setH3.regE 0 (by kernel_rfl) (by simp only [List.map_cons, List.map_nil]; rfl) (by simp only [qB, qC, qD, qE, qF, qG, qH, qJ, qK, qM, qN, qP, iop1, qR, qS, iop, qT, qV, qW, qX, qY, qZ, zA, Option.getD_some, zB, zC, zD, zE, zF, zG, zH, zJ, zK, zM, zN, Step1.ofO, lenC, callF, zP, zR, zS, zT, zV, cond_true, cond_false, decide_true, decide_false, beq_self_eq_true, Bool.false_eq_true, Bool.true_eq_false, zW, zX, zY, zZ, Bool.not_true, Bool.not_false, appC, copyC, yA, List.map_cons, List.map_nil, goInt, ib117, ib3]; rfl) ?_
  refine setH3.regE 0 (by kernel_rfl) (by simp only [List.map_cons, List.map_nil]; rfl) (by simp only [qB, qC, qD, qE, qF, qG, qH, qJ, qK, qM, qN, qP, iop1, qR, qS, iop, qT, qV, qW, qX, qY, qZ, zA, Option.getD_some, zB, zC, zD, zE, zF, zG, zH, zJ, zK, zM, zN, Step1.ofO, lenC, callF, zP, zR, zS, zT, zV, cond_true, cond_false, decide_true, decide_false, beq_self_eq_true, Bool.false_eq_true, Bool.true_eq_false, zW, zX, zY, zZ, Bool.not_true, Bool.not_false, appC, copyC, yA, List.map_cons, List.map_nil, goInt, mkf, List.map_toArray]; rfl) ?_
  have ho : Old H ((H.push (.cells #[sv, fv] 117)).push (.cells #[.int .i64 n] 3)) := (Old.push H _).trans (Old.push _ _)
  exact .ret ⟨.inr rfl, .func (.func 174) #[] #[.pointer (some ⟨H.size, 0, none⟩), .pointer (some ⟨H.size + 1, 0, none⟩)], ires_tmp rfl (by simp only [qX, qY]; rfl), ho, H.size, H.size + 1, rfl, Nat.le_refl _, by omega, by show H.size < H.size + 1 + 1; omega, by show H.size + 1 < H.size + 1 + 1; omega,
    by rw [get_push_lt (by show H.size < H.size + 1; omega)]; exact get_push_eq, get_push_eq⟩
theorem e146 : enters Tryz.prog 146 = true := by kernel_rfl

/-! 174: rows$1 -/
/-- the places at the beginning, filled up to i -/
def idN (n i : Nat) : List Int := rangeI i ++ List.replicate (n - i) 0
theorem idN_len {n i : Nat} (h : i ≤ n) : (idN n i).length = n := by simp [idN, rangeI_len]; omega
theorem idN_set {n i : Nat} (h : i < n) : (idN n i).set i (i : Int) = idN n (i + 1) := by
  unfold idN
  rw [List.set_append_right _ _ (by rw [rangeI_len]; omega), rangeI_len, Nat.sub_self, rangeI_succ]
  have : n - i = (n - (i + 1)) + 1 := by omega
  rw [this, List.replicate_succ, List.set_cons_zero]
  simp
theorem idN_end (n : Nat) : idN n n = rangeI n := by simp [idN]
/-- what a round does for the iterator -/
def RowRound (l n lo : Nat) (row : Nat → List Int) (J : Nat → (Nat → Prop) → IH → Prop) (D : IH → Prop) : Prop :=
  ∀ k T H rv, k < n → J k T H → intsOf H rv = some (row k) → RowAt H 3 lo H.size rv (row k) → (∀ b, blkIs rv b → ¬ T b) →
    RoundI Tryz.prog (globG 3) l [.int .i64 (k : Nat), rv] H fun r => (r.1 = .bool true ∧ ∃ T', J (k + 1) T' r.2 ∧ Fr T H r.2 ∧ ∀ b, T' b → (T b ∨ H.size ≤ b) ∧ b < r.2.size) ∨ (r.1 = .bool false ∧ D r.2)
structure RowsIn174 (H : IH) (b1 b2 : Nat) (sv fv : Value) (ss fs : List Int) (n : Nat) : Prop where
  g1 : H.get b1 = some (.cells [sv, fv].toArray 117 (0, 0))
  g2 : H.get b2 = some (.cells [.int .i64 (n : Nat)].toArray 3 (0, 0))
  l1 : b1 < H.size
  l2 : b2 < H.size
  sz : intsOf H sv = some ss
  fz : intsOf H fv = some fs
  base : H.base ≤ H.size
theorem RowsIn174.fr {H H' : IH} {b1 b2 : Nat} {sv fv : Value} {ss fs : List Int} {n : Nat} (h : RowsIn174 H b1 b2 sv fv ss fs n) {T : Nat → Prop} (hf : Fr T H H') (ht : ∀ b, T b → b ≠ b1 ∧ b ≠ b2 ∧ ¬ blkIs sv b ∧ ¬ blkIs fv b) : RowsIn174 H' b1 b2 sv fv ss fs n :=
  ⟨(hf.get b1 h.l1 fun q => (ht _ q).1 rfl).trans h.g1, (hf.get b2 h.l2 fun q => (ht _ q).2.1 rfl).trans h.g2, Nat.lt_of_lt_of_le h.l1 hf.size, Nat.lt_of_lt_of_le h.l2 hf.size,
    intsOf_fr hf h.sz fun b hb q => (ht b q).2.2.1 hb, intsOf_fr hf h.fz fun b hb q => (ht b q).2.2.2 hb, by rw [hf.base]; exact Nat.le_trans h.base hf.size⟩
theorem res0 {fn : Func} {env : Env} {H : IH} (hr : fn.results = #[]) : iresults Tryz.prog fn env H = some (.tuple #[]) := by
  unfold iresults; rw [hr]; rfl
set_option maxRecDepth 20000 in
theorem rows_iter {l b1 b2 n : Nat} {sv fv : Value} {ss fs : List Int} {H0 : IH} {T0 : Nat → Prop} (hin : RowsIn174 H0 b1 b2 sv fv ss fs n) (hfr : inR fs.length fs) (hsr : inR fs.length ss) (hfl : fs.length ≤ 12) (hn : n ≤ 1000)
    (ht0 : ∀ b, T0 b → b < H0.size ∧ b ≠ b1 ∧ b ≠ b2 ∧ ¬ blkIs sv b ∧ ¬ blkIs fv b) {J : Nat → (Nat → Prop) → IH → Prop} {D : IH → Prop} (hJ0 : J 0 T0 H0) (hst : ∀ k T H H', J k T H → Old H H' → J k T H')
    (hround : RowRound l n H0.size (fun k => gathL ss (iterG fs k (rangeI fs.length))) J D) :
    CallI Tryz.prog (globG 3) 174 [.func (.yield l) #[] #[], .pointer (some ⟨b1, 0, none⟩), .pointer (some ⟨b2, 0, none⟩)] H0 fun r => (∃ T, J n T r.2 ∧ Fr T0 H0 r.2 ∧ ∀ b, T b → T0 b ∨ H0.size ≤ b) ∨ D r.2 := by
  refine CallI.of Tryz.func174 rfl (N := 72) rfl ?_
  show Holds _ _ false _ [.func (.yield l) #[] #[], .pointer (some ⟨b1, 0, none⟩), .pointer (some ⟨b2, 0, none⟩), undef, undef, undef, undef, undef, undef, undef, undef, undef, undef, undef, undef, undef, undef, undef, undef, undef, undef, undef, undef, undef, undef, undef, undef, undef, undef, undef, undef, undef, undef, undef, undef, undef, undef, undef, undef, undef, undef, undef, undef, undef, undef, undef, undef, undef, undef, undef, undef, undef, undef, undef, undef, undef, undef, undef, undef, undef, undef, undef, undef, undef, undef, undef, undef, undef, undef, undef, undef, undef] H0 _
  obtain ⟨asv, csv, hsv, hssl, _⟩ := intsOf_inv hin.sz
  obtain ⟨afv, cfv, hfv, _, _⟩ := intsOf_inv hin.fz
  have hl0 := load_cell (t := 22) ag22 (i := 1) hin.g1 rfl
  rw [hfv] at hl0
  refine setH4.regE 0 (by kernel_rfl) (by simp only [List.map_cons, List.map_nil]; rfl) (by simp only [qB, qC, qD, qE, qF, qG, qH, qJ, qK, qM, qN, qP, iop1, qR, qS, iop, qT, qV, qW, qX, qY, qZ, zA, Option.getD_some, zB, zC, zD, zE, zF, zG, zH, zJ, zK, zM, zN, Step1.ofO, lenC, callF, zP, zR, zS, zT, zV, cond_true, cond_false, decide_true, decide_false, beq_self_eq_true, Bool.false_eq_true, Bool.true_eq_false, zW, zX, zY, zZ, Bool.not_true, Bool.not_false, appC, copyC, yA, List.map_cons, List.map_nil, goInt, f117_1, hl0, lenB_slice u22, mk22 (n := fs.length) (by omega)]; rfl) ?_
  generalize hv : Value.slice (some ⟨H0.size, 0, none⟩) fs.length fs.length = v
  have hown : OwnAt (H0.push (.cells ((List.replicate fs.length (0 : Int)).map (Value.int .i64)).toArray 3)) 3 H0.size v (idN fs.length 0) := by
    rw [← hv]
    have : idN fs.length 0 = List.replicate fs.length 0 := by simp [idN, rangeI]
    rw [this]; exact OwnAt.zeros _
  have holdp := Old.push H0 (.cells ((List.replicate fs.length (0 : Int)).map (Value.int .i64)).toArray 3)
  generalize H0.push (.cells ((List.replicate fs.length (0 : Int)).map (Value.int .i64)).toArray 3) = H1 at hown holdp
  have hlv : ∀ H, ilenB Tryz.prog #[22] [v] H = some (.val (.int .i64 (fs.length : Nat)) H) := fun H => by rw [← hv]; exact lenB_slice u22
  have hvb : ∀ b, blkIs v b → b = H0.size := fun b hb => by rw [← hv] at hb; exact hb.symm
  refine .seqW (setH4.regE 0 (by kernel_rfl) (by simp only [List.map_cons, List.map_nil]; rfl) (by simp only [qB, qC, qD, qE, qF, qG, qH, qJ, qK, qM, qN, qP, iop1, qR, qS, iop, qT, qV, qW, qX, qY, qZ, zA, Option.getD_some, zB, zC, zD, zE, zF, zG, zH, zJ, zK, zM, zN, Step1.ofO, lenC, callF, zP, zR, zS, zT, zV, cond_true, cond_false, decide_true, decide_false, beq_self_eq_true, Bool.false_eq_true, Bool.true_eq_false, zW, zX, zY, zZ, Bool.not_true, Bool.not_false, appC, copyC, yA, List.map_cons, List.map_nil, goInt, hlv]; rfl) ?_)
  refine .loopW (fun m e h => ∃ (i : Nat), i ≤ fs.length ∧ m = fs.length - i ∧ e = [.func (.yield l) #[] #[], .pointer (some ⟨b1, 0, none⟩), .pointer (some ⟨b2, 0, none⟩), unk, v, unk, unk, unk, unk, unk, unk, unk, unk, unk, unk, unk, unk, unk, .int .i64 (fs.length : Nat), .int .i64 (i : Nat), unk, unk, unk, unk, unk, unk, unk, unk, unk, unk, unk, unk, unk, unk, unk, unk, unk, unk, unk, unk, unk, unk, unk, unk, unk, unk, unk, unk, unk, unk, unk, unk, unk, unk, unk, unk, unk, unk, unk, unk, unk, unk, unk, unk, unk, unk, unk, unk, unk, unk, unk, unk] ∧ Old H0 h ∧ OwnAt h 3 H0.size v (idN fs.length i)) fs.length
    [.func (.yield l) #[] #[], .pointer (some ⟨b1, 0, none⟩), .pointer (some ⟨b2, 0, none⟩), unk, v, unk, unk, unk, unk, unk, unk, unk, unk, unk, unk, unk, unk, unk, .int .i64 (fs.length : Nat), .int .i64 0, unk, unk, unk, unk, unk, unk, unk, unk, unk, unk, unk, unk, unk, unk, unk, unk, unk, unk, unk, unk, unk, unk, unk, unk, unk, unk, unk, unk, unk, unk, unk, unk, unk, unk, unk, unk, unk, unk, unk, unk, unk, unk, unk, unk, unk, unk, unk, unk, unk, unk, unk, unk] (by repeat (first | exact WkL.nil | refine WkL.same ?_ | refine WkL.any ?_)) ⟨0, Nat.zero_le _, rfl, rfl, holdp, hown⟩ ?_
  rintro m e h ⟨i, hi, rfl, rfl, hold, hat⟩
  refine setH4.headW (by kernel_rfl) (by simp only [List.map_cons, List.map_nil]; rfl) (by simp only [qB, qC, qD, qE, qF, qG, qH, qJ, qK, qM, qN, qP, iop1, qR, qS, iop, qT, qV, qW, qX, qY, qZ, zA, Option.getD_some, zB, zC, zD, zE, zF, zG, zH, zJ, zK, zM, zN, Step1.ofO, lenC, callF, zP, zR, zS, zT, zV, cond_true, cond_false, decide_true, decide_false, beq_self_eq_true, Bool.false_eq_true, Bool.true_eq_false, zW, zX, zY, zZ, Bool.not_true, Bool.not_false, appC, copyC, yA, List.map_cons, List.map_nil, goInt]; rfl) (by kernel_rfl) (by simp only [qT, qX, qY, Option.getD_some]; rfl) (fun ht => ?_) (fun ht => ?_)
  · have hlt : i < fs.length := by simpa using ht
    obtain ⟨p, h', hp, hst', hown', hsz, hbs, hkeep⟩ := hat.write el22 (i := i) (by rw [idN_len hi]; exact hlt) (by rw [hold.base]; exact hin.base) (i : Int) (k := .i64)
    rw [idN_set hlt] at hown'
    refine .blockW (setH4.regE 0 (by kernel_rfl) (by simp only [List.map_cons, List.map_nil]; rfl) (by simp only [qB, qC, qD, qE, qF, qG, qH, qJ, qK, qM, qN, qP, iop1, qR, qS, iop, qT, qV, qW, qX, qY, qZ, zA, Option.getD_some, zB, zC, zD, zE, zF, zG, zH, zJ, zK, zM, zN, Step1.ofO, lenC, callF, zP, zR, zS, zT, zV, cond_true, cond_false, decide_true, decide_false, beq_self_eq_true, Bool.false_eq_true, Bool.true_eq_false, zW, zX, zY, zZ, Bool.not_true, Bool.not_false, appC, copyC, yA, List.map_cons, List.map_nil, goInt]; rfl) (setH4.regZ 0 (by kernel_rfl) (by simp only [List.map_cons, List.map_nil]; rfl) (by simp only [qB, qC, qD, qE, qF, qG, qH, qJ, qK, qM, qN, qP, iop1, qR, qS, iop, qT, qV, qW, qX, qY, qZ, zA, Option.getD_some, zB, zC, zD, zE, zF, zG, zH, zJ, zK, zM, zN, Step1.ofO, lenC, callF, zP, zR, zS, zT, zV, cond_true, cond_false, decide_true, decide_false, beq_self_eq_true, Bool.false_eq_true, Bool.true_eq_false, zW, zX, zY, zZ, Bool.not_true, Bool.not_false, appC, copyC, yA, List.map_cons, List.map_nil, goInt, hp, hst']; rfl) (BT.go ?_)))
    exact setH4.regZ 0 (by kernel_rfl) (by simp only [List.map_cons, List.map_nil]; rfl) (by simp only [qB, qC, qD, qE, qF, qG, qH, qJ, qK, qM, qN, qP, iop1, qR, qS, iop, qT, qV, qW, qX, qY, qZ, zA, Option.getD_some, zB, zC, zD, zE, zF, zG, zH, zJ, zK, zM, zN, Step1.ofO, lenC, callF, zP, zR, zS, zT, zV, cond_true, cond_false, decide_true, decide_false, beq_self_eq_true, Bool.false_eq_true, Bool.true_eq_false, zW, zX, zY, zZ, Bool.not_true, Bool.not_false, appC, copyC, yA, List.map_cons, List.map_nil, goInt, wrap_succ hlt (show fs.length ≤ 1000 by omega)]; rfl) (LQ.go (fs.length - (i + 1)) (by omega) (by repeat (first | exact WkL.nil | refine WkL.same ?_ | refine WkL.any ?_)) ⟨i + 1, by omega, rfl, rfl, hold.of (by omega) hbs fun b hb' => hkeep b (hat.notOld hb'), hown'⟩)
  · have hge : i = fs.length := by simp at ht; omega
    subst hge
    rw [idN_end] at hat
    have hin1 := hin.fr (hold.fr T0) fun b hb => (ht0 b hb).2
    have hl6 := load_cell (t := 3) ag3 (i := 0) hin1.g2 rfl
    refine ST.go (setH4.regE 0 (by kernel_rfl) (by simp only [List.map_cons, List.map_nil]; rfl) (by simp only [qB, qC, qD, qE, qF, qG, qH, qJ, qK, qM, qN, qP, iop1, qR, qS, iop, qT, qV, qW, qX, qY, qZ, zA, Option.getD_some, zB, zC, zD, zE, zF, zG, zH, zJ, zK, zM, zN, Step1.ofO, lenC, callF, zP, zR, zS, zT, zV, cond_true, cond_false, decide_true, decide_false, beq_self_eq_true, Bool.false_eq_true, Bool.true_eq_false, zW, zX, zY, zZ, Bool.not_true, Bool.not_false, appC, copyC, yA, List.map_cons, List.map_nil, goInt, hl6]; rfl) ?_)
    have hszh := hold.size
    have hlo : OwnAt h 3 H0.size v (iterG fs 0 (rangeI fs.length)) := hat
    refine .loopW (fun m e h' => ∃ (k : Nat) (av : Value) (T : Nat → Prop), k ≤ n ∧ m = n - k ∧ e = [.func (.yield l) #[] #[], .pointer (some ⟨b1, 0, none⟩), .pointer (some ⟨b2, 0, none⟩), unk, av, unk, unk, unk, unk, unk, unk, unk, unk, unk, unk, unk, unk, unk, unk, unk, unk, unk, unk, unk, unk, unk, unk, .int .i64 (n : Nat), .int .i64 (k : Nat), unk, unk, unk, unk, unk, unk, unk, unk, unk, unk, unk, unk, unk, unk, unk, unk, unk, unk, unk, unk, unk, unk, unk, unk, unk, unk, unk, unk, unk, unk, unk, unk, unk, unk, unk, unk, unk, unk, unk, unk, unk, unk, unk] ∧
        Fr T0 H0 h' ∧ J k T h' ∧ (∀ b, T b → (T0 b ∨ H0.size ≤ b) ∧ b < h'.size) ∧ OwnAt h' 3 H0.size av (iterG fs k (rangeI fs.length)) ∧ ∀ b, blkIs av b → ¬ T b) n
      [.func (.yield l) #[] #[], .pointer (some ⟨b1, 0, none⟩), .pointer (some ⟨b2, 0, none⟩), unk, v, unk, unk, unk, unk, unk, unk, unk, unk, unk, unk, unk, unk, unk, unk, unk, unk, unk, unk, unk, unk, unk, unk, .int .i64 (n : Nat), .int .i64 0, unk, unk, unk, unk, unk, unk, unk, unk, unk, unk, unk, unk, unk, unk, unk, unk, unk, unk, unk, unk, unk, unk, unk, unk, unk, unk, unk, unk, unk, unk, unk, unk, unk, unk, unk, unk, unk, unk, unk, unk, unk, unk, unk] (by repeat (first | exact WkL.nil | refine WkL.same ?_ | refine WkL.any ?_))
      ⟨0, v, T0, Nat.zero_le _, rfl, rfl, hold.fr T0, hst 0 T0 H0 h hJ0 hold, fun b hb => ⟨.inl hb, by have := (ht0 b hb).1; omega⟩, hlo, fun b hb ht => by have := (ht0 b ht).1; rw [hvb b hb] at this; omega⟩ ?_
    rintro m e h1 ⟨k, av, T, hk, rfl, rfl, hfr1, hJ, hT, hav, havT⟩
    have hTb : ∀ b, T b → b ≠ b1 ∧ b ≠ b2 ∧ ¬ blkIs sv b ∧ ¬ blkIs fv b := fun b hb => by
      rcases (hT b hb).1 with h | h
      · exact (ht0 b h).2
      · have := hin.l1
        have := hin.l2
        exact ⟨by omega, by omega, fun q => by have := intsOf_blk hin.sz q; omega, fun q => by have := intsOf_blk hin.fz q; omega⟩
    have hin2 := hin.fr hfr1 fun b hb => (ht0 b hb).2
    have hitl : (iterG fs k (rangeI fs.length)).length = fs.length := iterG_len rfl (rangeI_len _) k
    refine setH4.headW (by kernel_rfl) (by simp only [List.map_cons, List.map_nil]; rfl) (by simp only [qB, qC, qD, qE, qF, qG, qH, qJ, qK, qM, qN, qP, iop1, qR, qS, iop, qT, qV, qW, qX, qY, qZ, zA, Option.getD_some, zB, zC, zD, zE, zF, zG, zH, zJ, zK, zM, zN, Step1.ofO, lenC, callF, zP, zR, zS, zT, zV, cond_true, cond_false, decide_true, decide_false, beq_self_eq_true, Bool.false_eq_true, Bool.true_eq_false, zW, zX, zY, zZ, Bool.not_true, Bool.not_false, appC, copyC, yA, List.map_cons, List.map_nil, goInt]; rfl) (by kernel_rfl) (by simp only [qT, qX, qY, Option.getD_some]; rfl) (fun ht2 => ?_) (fun ht2 => ?_)
    · have hlt : k < n := by simpa using ht2
      refine .blockW (setH4.regE 0 (by kernel_rfl) (by simp only [List.map_cons, List.map_nil]; rfl) (by simp only [qB, qC, qD, qE, qF, qG, qH, qJ, qK, qM, qN, qP, iop1, qR, qS, iop, qT, qV, qW, qX, qY, qZ, zA, Option.getD_some, zB, zC, zD, zE, zF, zG, zH, zJ, zK, zM, zN, Step1.ofO, lenC, callF, zP, zR, zS, zT, zV, cond_true, cond_false, decide_true, decide_false, beq_self_eq_true, Bool.false_eq_true, Bool.true_eq_false, zW, zX, zY, zZ, Bool.not_true, Bool.not_false, appC, copyC, yA, List.map_cons, List.map_nil, goInt]; rfl) (setH4.regE 0 (by kernel_rfl) (by simp only [List.map_cons, List.map_nil]; rfl) (by simp only [qB, qC, qD, qE, qF, qG, qH, qJ, qK, qM, qN, qP, iop1, qR, qS, iop, qT, qV, qW, qX, qY, qZ, zA, Option.getD_some, zB, zC, zD, zE, zF, zG, zH, zJ, zK, zM, zN, Step1.ofO, lenC, callF, zP, zR, zS, zT, zV, cond_true, cond_false, decide_true, decide_false, beq_self_eq_true, Bool.false_eq_true, Bool.true_eq_false, zW, zX, zY, zZ, Bool.not_true, Bool.not_false, appC, copyC, yA, List.map_cons, List.map_nil, goInt]; rfl) ?_))
      have hl10 := load_cell (t := 22) ag22 (i := 0) hin2.g1 rfl
      rw [hsv] at hl10
      refine .seqW (setH4.regE 0 (by kernel_rfl) (by simp only [List.map_cons, List.map_nil]; rfl) (by simp only [qB, qC, qD, qE, qF, qG, qH, qJ, qK, qM, qN, qP, iop1, qR, qS, iop, qT, qV, qW, qX, qY, qZ, zA, Option.getD_some, zB, zC, zD, zE, zF, zG, zH, zJ, zK, zM, zN, Step1.ofO, lenC, callF, zP, zR, zS, zT, zV, cond_true, cond_false, decide_true, decide_false, beq_self_eq_true, Bool.false_eq_true, Bool.true_eq_false, zW, zX, zY, zZ, Bool.not_true, Bool.not_false, appC, copyC, yA, List.map_cons, List.map_nil, goInt, f117_0, hl10, lenB_slice u22]; rfl) ?_)
      generalize hat0 : iterG fs k (rangeI fs.length) = at0 at hav hitl
      refine .loopW (fun m e h2 => ∃ (j : Nat) (rv : Value), j ≤ ss.length ∧ m = ss.length - j ∧ e = [.func (.yield l) #[] #[], .pointer (some ⟨b1, 0, none⟩), .pointer (some ⟨b2, 0, none⟩), unk, av, unk, .int .i64 (k : Nat), rv, unk, unk, unk, unk, unk, unk, unk, unk, unk, unk, unk, unk, unk, unk, unk, unk, unk, unk, unk, .int .i64 (n : Nat), .int .i64 (k : Nat), unk, unk, unk, .slice asv ss.length csv, .int .i64 (ss.length : Nat), .int .i64 (j : Nat), unk, unk, unk, unk, unk, unk, unk, unk, unk, unk, unk, unk, unk, unk, unk, unk, unk, unk, unk, unk, unk, unk, unk, unk, unk, unk, unk, unk, unk, unk, unk, unk, unk, unk, unk, unk, unk] ∧
          Old h1 h2 ∧ Grown h2 3 h1.size rv ((gathL (ss.take j) at0).map (.int .i64))) ss.length
        [.func (.yield l) #[] #[], .pointer (some ⟨b1, 0, none⟩), .pointer (some ⟨b2, 0, none⟩), unk, av, unk, .int .i64 (k : Nat), .slice none 0 0, unk, unk, unk, unk, unk, unk, unk, unk, unk, unk, unk, unk, unk, unk, unk, unk, unk, unk, unk, .int .i64 (n : Nat), .int .i64 (k : Nat), unk, unk, unk, .slice asv ss.length csv, .int .i64 (ss.length : Nat), .int .i64 0, unk, unk, unk, unk, unk, unk, unk, unk, unk, unk, unk, unk, unk, unk, unk, unk, unk, unk, unk, unk, unk, unk, unk, unk, unk, unk, unk, unk, unk, unk, unk, unk, unk, unk, unk, unk, unk] (by repeat (first | exact WkL.nil | refine WkL.same ?_ | refine WkL.any ?_))
        ⟨0, _, Nat.zero_le _, rfl, rfl, .refl _, .nil _ _ _⟩ ?_
      rintro m e h2 ⟨j, rv, hj, rfl, rfl, hold2, hrv⟩
      refine setH4.headW (by kernel_rfl) (by simp only [List.map_cons, List.map_nil]; rfl) (by simp only [qB, qC, qD, qE, qF, qG, qH, qJ, qK, qM, qN, qP, iop1, qR, qS, iop, qT, qV, qW, qX, qY, qZ, zA, Option.getD_some, zB, zC, zD, zE, zF, zG, zH, zJ, zK, zM, zN, Step1.ofO, lenC, callF, zP, zR, zS, zT, zV, cond_true, cond_false, decide_true, decide_false, beq_self_eq_true, Bool.false_eq_true, Bool.true_eq_false, zW, zX, zY, zZ, Bool.not_true, Bool.not_false, appC, copyC, yA, List.map_cons, List.map_nil, goInt]; rfl) (by kernel_rfl) (by simp only [qT, qX, qY, Option.getD_some]; rfl) (fun ht3 => ?_) (fun ht3 => ?_)
      · have hjlt : j < ss.length := by simpa using ht3
        obtain ⟨z, hzj⟩ : ∃ z, ss[j]? = some z := ⟨_, List.getElem?_eq_getElem hjlt⟩
        obtain ⟨hz0, hz1⟩ := hsr z (List.mem_of_getElem? hzj)
        obtain ⟨zi, rfl⟩ := Int.eq_ofNat_of_zero_le hz0
        obtain ⟨c, hci⟩ : ∃ c, at0[zi]? = some c := ⟨_, List.getElem?_eq_getElem (by omega)⟩
        have hav2 : OwnAt h2 3 H0.size av at0 := hav.keep hold2.size fun b _ q _ => hold2.get b q
        have hsz2 := intsOf_old hold2 hin2.sz
        rw [hsv] at hsz2
        obtain ⟨p, hp, hld⟩ := read_int el22 hsz2 hzj (k := .i64)
        obtain ⟨q, hq, hld2⟩ := hav2.read el22 hci (k := .i64)
        obtain ⟨rv', h3, happ, hrv', hsz3, hbs3, hkeep3, _⟩ := hrv.app (x := .int .i64 c) el22 rfl (ints_one _) (by simp [gathL_len]; omega) (by rw [hold2.base]; exact hin2.base) hold2.size
        refine .blockW (setH4.regE 0 (by kernel_rfl) (by simp only [List.map_cons, List.map_nil]; rfl) (by simp only [qB, qC, qD, qE, qF, qG, qH, qJ, qK, qM, qN, qP, iop1, qR, qS, iop, qT, qV, qW, qX, qY, qZ, zA, Option.getD_some, zB, zC, zD, zE, zF, zG, zH, zJ, zK, zM, zN, Step1.ofO, lenC, callF, zP, zR, zS, zT, zV, cond_true, cond_false, decide_true, decide_false, beq_self_eq_true, Bool.false_eq_true, Bool.true_eq_false, zW, zX, zY, zZ, Bool.not_true, Bool.not_false, appC, copyC, yA, List.map_cons, List.map_nil, goInt, hp, hld]; rfl) (setH4.regZ 0 (by kernel_rfl) (by simp only [List.map_cons, List.map_nil]; rfl) (by simp only [qB, qC, qD, qE, qF, qG, qH, qJ, qK, qM, qN, qP, iop1, qR, qS, iop, qT, qV, qW, qX, qY, qZ, zA, Option.getD_some, zB, zC, zD, zE, zF, zG, zH, zJ, zK, zM, zN, Step1.ofO, lenC, callF, zP, zR, zS, zT, zV, cond_true, cond_false, decide_true, decide_false, beq_self_eq_true, Bool.false_eq_true, Bool.true_eq_false, zW, zX, zY, zZ, Bool.not_true, Bool.not_false, appC, copyC, yA, List.map_cons, List.map_nil, goInt, hq, hld2, b1i, happ]; rfl) (BT.go ?_)))
        refine setH4.regZ 0 (by kernel_rfl) (by simp only [List.map_cons, List.map_nil]; rfl) (by simp only [qB, qC, qD, qE, qF, qG, qH, qJ, qK, qM, qN, qP, iop1, qR, qS, iop, qT, qV, qW, qX, qY, qZ, zA, Option.getD_some, zB, zC, zD, zE, zF, zG, zH, zJ, zK, zM, zN, Step1.ofO, lenC, callF, zP, zR, zS, zT, zV, cond_true, cond_false, decide_true, decide_false, beq_self_eq_true, Bool.false_eq_true, Bool.true_eq_false, zW, zX, zY, zZ, Bool.not_true, Bool.not_false, appC, copyC, yA, List.map_cons, List.map_nil, goInt, wrap_succ hjlt hssl]; rfl) (LQ.go (ss.length - (j + 1)) (by omega) (by repeat (first | exact WkL.nil | refine WkL.same ?_ | refine WkL.any ?_)) ⟨j + 1, rv', by omega, rfl, rfl, hold2.of (by omega) hbs3 fun b hb' => hkeep3 b (by have := hold2.size; omega) (hrv.notOld hb'), ?_⟩)
        rw [take_succ hzj]
        refine hrv'.get_cast ?_
        simp [gathL, List.getD, hci]
      · have hge : j = ss.length := by simp at ht3; omega
        subst hge
        rw [List.take_length] at hrv
        have hJ2 := hst _ _ _ _ hJ hold2
        have hrz : intsOf h2 rv = some (gathL ss at0) := hrv.row.ints (by rw [gathL_len]; omega)
        have hrT : ∀ b, blkIs rv b → ¬ T b := fun b hb ht => by have := (hT b ht).2; have := (hrv.blk_lt hb).1; omega
        have hrow : RowAt h2 3 H0.size h2.size rv (gathL ss at0) := hrv.row.lower (by have := hfr1.size; omega) (Nat.le_refl _)
        have hR := hround k T h2 rv hlt hJ2 (by rw [hrz, ← hat0]) (by rw [← hat0] at hrow; exact hrow) hrT
        refine ST.go (.seqW ?_)
        refine setH4.regRS (rkOne_spec hR) (by kernel_rfl) (by simp only [List.map_cons, List.map_nil]; rfl) ?_; simp only [qB, qC, qD, qE, qF, qG, qH, qJ, qK, qM, qN, qP, iop1, qR, qS, iop, qT, qV, qW, qX, qY, qZ, zA, Option.getD_some, zB, zC, zD, zE, zF, zG, zH, zJ, zK, zM, zN, Step1.ofO, lenC, callF, zP, zR, zS, zT, zV, cond_true, cond_false, decide_true, decide_false, beq_self_eq_true, Bool.false_eq_true, Bool.true_eq_false, zW, zX, zY, zZ, Bool.not_true, Bool.not_false, appC, copyC, yA, List.map_cons, List.map_nil, goInt, yB, yC, yM, yN, call_yield (l := l), rkOne_eq]
        rintro v3 h3 (⟨rfl, T', hJ3, hf3, hT'⟩ | ⟨rfl, hD⟩)
        · simp only [qB, qC, qD, qE, qF, qG, qH, qJ, qK, qM, qN, qP, iop1, qR, qS, iop, qT, qV, qW, qX, qY, qZ, zA, Option.getD_some, zB, zC, zD, zE, zF, zG, zH, zJ, zK, zM, zN, Step1.ofO, lenC, callF, zP, zR, zS, zT, zV, cond_true, cond_false, decide_true, decide_false, beq_self_eq_true, Bool.false_eq_true, Bool.true_eq_false, zW, zX, zY, zZ, Bool.not_true, Bool.not_false, appC, copyC, yA, List.map_cons, List.map_nil, goInt, yB, yC]
          refine .cond (by kernel_rfl) (by simp only [qT, qX, qY, Option.getD_some]; rfl) (fun ht4 => by cases ht4) (fun _ => .skip (ST.go ?_))
          have hav2 : OwnAt h2 3 H0.size av at0 := hav.keep hold2.size fun b _ q _ => hold2.get b q
          have hav3 : OwnAt h3 3 H0.size av at0 := hav2.keep hf3.size fun b _ q1 q2 => hf3.get b q1 (havT b q2)
          have hin3 := (hin2.fr (hold2.fr T0) fun b hb => (ht0 b hb).2).fr hf3 hTb
          have hlav : ∀ H, ilenB Tryz.prog #[22] [av] H = some (.val (.int .i64 (fs.length : Nat)) H) := fun H => by
            obtain ⟨aav, hae⟩ := hav3.len
            rw [hae, hitl]; exact lenB_slice u22
          have hl17 := load_cell (t := 22) ag22 (i := 1) hin3.g1 rfl
          rw [hfv] at hl17
          refine setH4.regE 0 (by kernel_rfl) (by simp only [List.map_cons, List.map_nil]; rfl) (by simp only [qB, qC, qD, qE, qF, qG, qH, qJ, qK, qM, qN, qP, iop1, qR, qS, iop, qT, qV, qW, qX, qY, qZ, zA, Option.getD_some, zB, zC, zD, zE, zF, zG, zH, zJ, zK, zM, zN, Step1.ofO, lenC, callF, zP, zR, zS, zT, zV, cond_true, cond_false, decide_true, decide_false, beq_self_eq_true, Bool.false_eq_true, Bool.true_eq_false, zW, zX, zY, zZ, Bool.not_true, Bool.not_false, appC, copyC, yA, List.map_cons, List.map_nil, goInt, hlav, mk22 (n := fs.length) (by omega)]; rfl) ?_
          generalize hnv : Value.slice (some ⟨h3.size, 0, none⟩) fs.length fs.length = nv
          have hown5 : OwnAt (h3.push (.cells ((List.replicate fs.length (0 : Int)).map (Value.int .i64)).toArray 3)) 3 h3.size nv (gathN fs at0 0) := by rw [← hnv, gathN_zero]; exact OwnAt.zeros _
          have hold5 := Old.push h3 (.cells ((List.replicate fs.length (0 : Int)).map (Value.int .i64)).toArray 3)
          have hnvb : ∀ b, blkIs nv b → b = h3.size := fun b hb => by rw [← hnv] at hb; exact hb.symm
          have hl17' : iloadAt Tryz.prog 22 (.pointer (some ⟨b1, 1, none⟩)) (h3.push (.cells ((List.replicate fs.length (0 : Int)).map (Value.int .i64)).toArray 3)) = some (.slice afv fs.length cfv) := by
            rw [← hfv]; exact load_cell (t := 22) ag22 (i := 1) (by rw [hold5.get b1 hin3.l1]; exact hin3.g1) rfl
          generalize h3.push (.cells ((List.replicate fs.length (0 : Int)).map (Value.int .i64)).toArray 3) = h5 at hown5 hold5 hl17'
          refine .seqW (setH4.regE 0 (by kernel_rfl) (by simp only [List.map_cons, List.map_nil]; rfl) (by simp only [qB, qC, qD, qE, qF, qG, qH, qJ, qK, qM, qN, qP, iop1, qR, qS, iop, qT, qV, qW, qX, qY, qZ, zA, Option.getD_some, zB, zC, zD, zE, zF, zG, zH, zJ, zK, zM, zN, Step1.ofO, lenC, callF, zP, zR, zS, zT, zV, cond_true, cond_false, decide_true, decide_false, beq_self_eq_true, Bool.false_eq_true, Bool.true_eq_false, zW, zX, zY, zZ, Bool.not_true, Bool.not_false, appC, copyC, yA, List.map_cons, List.map_nil, goInt, f117_1, hl17', lenB_slice u22]; rfl) ?_)
          refine .loopW (fun m e h6 => ∃ (i : Nat), i ≤ fs.length ∧ m = fs.length - i ∧ e = [.func (.yield l) #[] #[], .pointer (some ⟨b1, 0, none⟩), .pointer (some ⟨b2, 0, none⟩), unk, av, unk, unk, unk, unk, unk, nv, unk, unk, unk, unk, unk, unk, unk, unk, unk, unk, unk, unk, unk, unk, unk, unk, .int .i64 (n : Nat), .int .i64 (k : Nat), unk, unk, unk, unk, unk, unk, unk, unk, unk, unk, unk, unk, unk, unk, unk, unk, unk, unk, unk, unk, unk, unk, unk, unk, unk, unk, .slice afv fs.length cfv, .int .i64 (fs.length : Nat), .int .i64 (i : Nat), unk, unk, unk, unk, unk, unk, unk, unk, unk, unk, unk, unk, unk, unk] ∧
              Old h3 h6 ∧ OwnAt h6 3 h3.size nv (gathN fs at0 i)) fs.length
            [.func (.yield l) #[] #[], .pointer (some ⟨b1, 0, none⟩), .pointer (some ⟨b2, 0, none⟩), unk, av, unk, unk, unk, unk, unk, nv, unk, unk, unk, unk, unk, unk, unk, unk, unk, unk, unk, unk, unk, unk, unk, unk, .int .i64 (n : Nat), .int .i64 (k : Nat), unk, unk, unk, unk, unk, unk, unk, unk, unk, unk, unk, unk, unk, unk, unk, unk, unk, unk, unk, unk, unk, unk, unk, unk, unk, unk, .slice afv fs.length cfv, .int .i64 (fs.length : Nat), .int .i64 0, unk, unk, unk, unk, unk, unk, unk, unk, unk, unk, unk, unk, unk, unk] (by repeat (first | exact WkL.nil | refine WkL.same ?_ | refine WkL.any ?_))
            ⟨0, Nat.zero_le _, rfl, rfl, hold5, hown5⟩ ?_
          rintro m e h6 ⟨i, hi, rfl, rfl, hold6, hat6⟩
          have hfz6 := intsOf_old hold6 hin3.fz
          rw [hfv] at hfz6
          refine setH4.headW (by kernel_rfl) (by simp only [List.map_cons, List.map_nil]; rfl) (by simp only [qB, qC, qD, qE, qF, qG, qH, qJ, qK, qM, qN, qP, iop1, qR, qS, iop, qT, qV, qW, qX, qY, qZ, zA, Option.getD_some, zB, zC, zD, zE, zF, zG, zH, zJ, zK, zM, zN, Step1.ofO, lenC, callF, zP, zR, zS, zT, zV, cond_true, cond_false, decide_true, decide_false, beq_self_eq_true, Bool.false_eq_true, Bool.true_eq_false, zW, zX, zY, zZ, Bool.not_true, Bool.not_false, appC, copyC, yA, List.map_cons, List.map_nil, goInt]; rfl) (by kernel_rfl) (by simp only [qT, qX, qY, Option.getD_some]; rfl) (fun ht5 => ?_) (fun ht5 => ?_)
          · have hilt : i < fs.length := by simpa using ht5
            obtain ⟨z, hfi⟩ : ∃ z, fs[i]? = some z := ⟨_, List.getElem?_eq_getElem hilt⟩
            obtain ⟨hz0, hz1⟩ := hfr z (List.mem_of_getElem? hfi)
            obtain ⟨zi, rfl⟩ := Int.eq_ofNat_of_zero_le hz0
            obtain ⟨c, hci⟩ : ∃ c, at0[zi]? = some c := ⟨_, List.getElem?_eq_getElem (by omega)⟩
            have hav6 : OwnAt h6 3 H0.size av at0 := hav3.keep hold6.size fun b _ q _ => hold6.get b q
            obtain ⟨p, hp, hld⟩ := read_int el22 hfz6 hfi (k := .i64)
            obtain ⟨q, hq, hld2⟩ := hav6.read el22 hci (k := .i64)
            obtain ⟨p3, h7, hp3, hst7, hown7, hsz7, hbs7, hkeep7⟩ := hat6.write el22 (i := i) (by rw [gathN_len hi]; exact hilt) (by rw [hold6.base]; exact hin3.base) c (k := .i64)
            have hset := gathN_set (c := at0) hfi
            simp only [Int.toNat_natCast, List.getD, hci, Option.getD_some] at hset
            rw [hset] at hown7
            refine .blockW (setH4.regE 0 (by kernel_rfl) (by simp only [List.map_cons, List.map_nil]; rfl) (by simp only [qB, qC, qD, qE, qF, qG, qH, qJ, qK, qM, qN, qP, iop1, qR, qS, iop, qT, qV, qW, qX, qY, qZ, zA, Option.getD_some, zB, zC, zD, zE, zF, zG, zH, zJ, zK, zM, zN, Step1.ofO, lenC, callF, zP, zR, zS, zT, zV, cond_true, cond_false, decide_true, decide_false, beq_self_eq_true, Bool.false_eq_true, Bool.true_eq_false, zW, zX, zY, zZ, Bool.not_true, Bool.not_false, appC, copyC, yA, List.map_cons, List.map_nil, goInt, hp, hld]; rfl) (setH4.regZ 0 (by kernel_rfl) (by simp only [List.map_cons, List.map_nil]; rfl) (by simp only [qB, qC, qD, qE, qF, qG, qH, qJ, qK, qM, qN, qP, iop1, qR, qS, iop, qT, qV, qW, qX, qY, qZ, zA, Option.getD_some, zB, zC, zD, zE, zF, zG, zH, zJ, zK, zM, zN, Step1.ofO, lenC, callF, zP, zR, zS, zT, zV, cond_true, cond_false, decide_true, decide_false, beq_self_eq_true, Bool.false_eq_true, Bool.true_eq_false, zW, zX, zY, zZ, Bool.not_true, Bool.not_false, appC, copyC, yA, List.map_cons, List.map_nil, goInt, hq, hld2, hp3, hst7]; rfl) (BT.go ?_)))
            exact setH4.regZ 0 (by kernel_rfl) (by simp only [List.map_cons, List.map_nil]; rfl) (by simp only [qB, qC, qD, qE, qF, qG, qH, qJ, qK, qM, qN, qP, iop1, qR, qS, iop, qT, qV, qW, qX, qY, qZ, zA, Option.getD_some, zB, zC, zD, zE, zF, zG, zH, zJ, zK, zM, zN, Step1.ofO, lenC, callF, zP, zR, zS, zT, zV, cond_true, cond_false, decide_true, decide_false, beq_self_eq_true, Bool.false_eq_true, Bool.true_eq_false, zW, zX, zY, zZ, Bool.not_true, Bool.not_false, appC, copyC, yA, List.map_cons, List.map_nil, goInt, wrap_succ hilt (show fs.length ≤ 1000 by omega)]; rfl) (LQ.go (fs.length - (i + 1)) (by omega) (by repeat (first | exact WkL.nil | refine WkL.same ?_ | refine WkL.any ?_)) ⟨i + 1, by omega, rfl, rfl, hold6.of (by omega) hbs7 fun b hb' => hkeep7 b (hat6.notOld hb'), hown7⟩)
          · have hge6 : i = fs.length := by simp at ht5; omega
            subst hge6
            rw [gathN_end] at hat6
            refine ST.go (setH4.regZ 0 (by kernel_rfl) (by simp only [List.map_cons, List.map_nil]; rfl) (by simp only [qB, qC, qD, qE, qF, qG, qH, qJ, qK, qM, qN, qP, iop1, qR, qS, iop, qT, qV, qW, qX, qY, qZ, zA, Option.getD_some, zB, zC, zD, zE, zF, zG, zH, zJ, zK, zM, zN, Step1.ofO, lenC, callF, zP, zR, zS, zT, zV, cond_true, cond_false, decide_true, decide_false, beq_self_eq_true, Bool.false_eq_true, Bool.true_eq_false, zW, zX, zY, zZ, Bool.not_true, Bool.not_false, appC, copyC, yA, List.map_cons, List.map_nil, goInt]; rfl) (BT.go ?_))
            have hs3 := hf3.size
            have hs2 := hold2.size
            have hs1 := hfr1.size
            have hs6 := hold6.size
            refine setH4.regZ 0 (by kernel_rfl) (by simp only [List.map_cons, List.map_nil]; rfl) (by simp only [qB, qC, qD, qE, qF, qG, qH, qJ, qK, qM, qN, qP, iop1, qR, qS, iop, qT, qV, qW, qX, qY, qZ, zA, Option.getD_some, zB, zC, zD, zE, zF, zG, zH, zJ, zK, zM, zN, Step1.ofO, lenC, callF, zP, zR, zS, zT, zV, cond_true, cond_false, decide_true, decide_false, beq_self_eq_true, Bool.false_eq_true, Bool.true_eq_false, zW, zX, zY, zZ, Bool.not_true, Bool.not_false, appC, copyC, yA, List.map_cons, List.map_nil, goInt, wrap_succ hlt hn]; rfl) (LQ.go (n - (k + 1)) (by omega) (by repeat (first | exact WkL.nil | refine WkL.same ?_ | refine WkL.any ?_)) ⟨k + 1, nv, T', by omega, rfl, rfl, ?_, hst _ _ _ _ hJ3 hold6, fun b hb => ?_, ?_, fun b hb ht => ?_⟩)
            · refine ((hfr1.trans (hold2.fr T) fun x hx h => ?_).trans hf3 fun x hx h => ?_).trans (hold6.fr T) fun x hx h => ?_
              · rcases (hT x h).1 with h | h
                · exact h
                · omega
              · rcases (hT x h).1 with h | h
                · exact h
                · omega
              · rcases (hT x h).1 with h | h
                · exact h
                · omega
            · obtain ⟨q1, q2⟩ := hT' b hb
              refine ⟨?_, by omega⟩
              rcases q1 with q1 | q1
              · exact (hT b q1).1
              · exact .inr (by omega)
            · rw [← hat0] at hat6
              exact (hat6.lower (by omega))
            · have := hnvb b hb
              have := (hT' b ht).2
              omega
        · simp only [qB, qC, qD, qE, qF, qG, qH, qJ, qK, qM, qN, qP, iop1, qR, qS, iop, qT, qV, qW, qX, qY, qZ, zA, Option.getD_some, zB, zC, zD, zE, zF, zG, zH, zJ, zK, zM, zN, Step1.ofO, lenC, callF, zP, zR, zS, zT, zV, cond_true, cond_false, decide_true, decide_false, beq_self_eq_true, Bool.false_eq_true, Bool.true_eq_false, zW, zX, zY, zZ, Bool.not_true, Bool.not_false, appC, copyC, yA, List.map_cons, List.map_nil, goInt, yB, yC]
          exact .cond (by kernel_rfl) (by simp only [qT, qX, qY, Option.getD_some]; rfl) (fun _ => .ret (ST.rt (BT.rt (LQ.rt ⟨.inr rfl, .tuple #[], res0 rfl, .inr hD⟩)))) (fun ht4 => by cases ht4)
    · have hge : k = n := by simp at ht2; omega
      subst hge
      exact ⟨.inl rfl, .tuple #[], res0 rfl, .inl ⟨T, hJ, hfr1, fun b hb => (hT b hb).1⟩⟩
end Go.Proofs.YtpdlblofcdcikaaGreatDoor
