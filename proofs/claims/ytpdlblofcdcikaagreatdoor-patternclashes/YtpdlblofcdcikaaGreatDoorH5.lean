/- The iterator cells. Conditions: none. -/
import Derived.Test.YtpdlblofcdcikaaGreatDoorH4
set_option linter.unusedSimpArgs false
set_option linter.unusedVariables false
namespace Go.Proofs.YtpdlblofcdcikaaGreatDoor
open Go.Idl

theorem pureH5 : NatPure hat5 := addS_pure pureH4
/-! 99: cells -/
def post99 (x : Value × Value × Int) (H : IH) (v : Value) (H' : IH) : Prop := Old H H' ∧ ∃ b1 b2, v = .func (.func 145) #[] #[.pointer (some ⟨b1, 0, none⟩), .pointer (some ⟨b2, 0, none⟩)] ∧ H.size ≤ b1 ∧ H.size ≤ b2 ∧ b1 < H'.size ∧ b2 < H'.size ∧
  H'.get b1 = some (.cells [x.1, x.2.1].toArray 117 (0, 0)) ∧ H'.get b2 = some (.cells [.int .i64 x.2.2].toArray 3 (0, 0))
noncomputable def hat6 : Nats := addS hat5 99 pre146 post99
set_option maxRecDepth 10000 in
theorem setH6 : Setup Tryz.prog good hat6 (globG 3) := setH5.addS pre146 post99 fun x args H ⟨ha, hb⟩ => by
  obtain ⟨sv, fv, n⟩ := x
  simp only at ha
  subst ha
  refine CallI.of Tryz.func99 rfl (N := 6) rfl ?_
  show Holds _ _ false _ [.agg #[sv, fv], .int .i64 n, undef, undef, undef, undef] H _
  refine setH5.regE 0 (by kernel_rfl) (by simp only [List.map_cons, List.map_nil]; rfl) (by simp only [qB, qC, qD, qE, qF, qG, qH, qJ, qK, qM, qN, qP, iop1, qR, qS, iop, qT, qV, qW, qX, qY, qZ, zA, Option.getD_some, zB, zC, zD, zE, zF, zG, zH, zJ, zK, zM, zN, Step1.ofO, lenC, callF, zP, zR, zS, zT, zV, cond_true, cond_false, decide_true, decide_false, beq_self_eq_true, Bool.false_eq_true, Bool.true_eq_false, zW, zX, zY, zZ, Bool.not_true, Bool.not_false, appC, copyC, yA, List.map_cons, List.map_nil, goInt, ib117, ib3]; rfl) ?_
  refine setH5.regE 0 (by kernel_rfl) (by simp only [List.map_cons, List.map_nil]; rfl) (by simp only [qB, qC, qD, qE, qF, qG, qH, qJ, qK, qM, qN, qP, iop1, qR, qS, iop, qT, qV, qW, qX, qY, qZ, zA, Option.getD_some, zB, zC, zD, zE, zF, zG, zH, zJ, zK, zM, zN, Step1.ofO, lenC, callF, zP, zR, zS, zT, zV, cond_true, cond_false, decide_true, decide_false, beq_self_eq_true, Bool.false_eq_true, Bool.true_eq_false, zW, zX, zY, zZ, Bool.not_true, Bool.not_false, appC, copyC, yA, List.map_cons, List.map_nil, goInt, mkf, List.map_toArray]; rfl) ?_
  have ho : Old H ((H.push (.cells #[sv, fv] 117)).push (.cells #[.int .i64 n] 3)) := (Old.push H _).trans (Old.push _ _)
  exact .ret ⟨.inr rfl, .func (.func 145) #[] #[.pointer (some ⟨H.size, 0, none⟩), .pointer (some ⟨H.size + 1, 0, none⟩)], ires_tmp rfl (by simp only [qX, qY]; rfl), ho, H.size, H.size + 1, rfl, Nat.le_refl _, by omega, by show H.size < H.size + 1 + 1; omega, by show H.size + 1 < H.size + 1 + 1; omega,
    by rw [get_push_lt (by show H.size < H.size + 1; omega)]; exact get_push_eq, get_push_eq⟩
theorem e99 : enters Tryz.prog 99 = true := by kernel_rfl
theorem pureH6 : NatPure hat6 := addS_pure pureH5

/-! 145: cells$1 -/
/-- the strand that is seen in a cell -/
def cellK (ss fs : List Int) (r c : Nat) : Int := (rowK ss fs r).getD c 0
def CellRound (l n w : Nat) (cell : Nat → Nat → Int) (J : Nat → (Nat → Prop) → IH → Prop) (D : IH → Prop) : Prop :=
  ∀ r c T H, r < n → c < w → J (r * w + c) T H →
    RoundI Tryz.prog (globG 3) l [.agg #[.int .i64 (r : Nat), .int .i64 (c : Nat), .int .i64 (cell r c)]] H fun o => (o.1 = .bool true ∧ ∃ T', J (r * w + c + 1) T' o.2 ∧ Fr T H o.2 ∧ ∀ b, T' b → (T b ∨ H.size ≤ b) ∧ b < o.2.size) ∨ (o.1 = .bool false ∧ D o.2 ∧ Fr T H o.2)
theorem ib178 (l : Nat) (H : IH) : ibox 178 (.func (.yield l) #[] #[]) H = some (.val (.pointer (some ⟨H.size, 0, none⟩)) (H.push (.cells #[.func (.yield l) #[] #[]] 178))) := rfl
theorem ag178 : aggT Tryz.prog 178 = some false := by kernel_rfl
theorem bd83 (a b : Int) : ibuild Tryz.prog 83 [(0, .int .i64 a), (1, .int .i64 b)] = some (.agg #[.int .i64 a, .int .i64 b]) := by kernel_rfl
theorem bd133 (a b c : Int) : ibuild Tryz.prog 133 [(0, .agg #[.int .i64 a, .int .i64 b]), (1, .int .i64 c)] = some (.agg #[.int .i64 a, .int .i64 b, .int .i64 c]) := by kernel_rfl
set_option maxRecDepth 20000 in
theorem cells_iter {l b1 b2 n : Nat} {sv fv : Value} {ss fs : List Int} {H0 : IH} {T0 : Nat → Prop} (hin : RowsIn174 H0 b1 b2 sv fv ss fs n) (hfr : inR fs.length fs) (hsr : inR fs.length ss) (hfl : fs.length ≤ 12) (hn : n ≤ 1000)
    (ht0 : ∀ b, T0 b → b < H0.size ∧ b ≠ b1 ∧ b ≠ b2 ∧ ¬ blkIs sv b ∧ ¬ blkIs fv b) {J : Nat → (Nat → Prop) → IH → Prop} {D : IH → Prop} (hJ0 : J 0 T0 H0) (hst : ∀ k T H H', J k T H → OldL H0.size H H' → J k T H') (hDst : ∀ H H', D H → OldL H0.size H H' → D H')
    (hround : CellRound l n ss.length (cellK ss fs) J D) :
    CallI Tryz.prog (globG 3) 145 [.func (.yield l) #[] #[], .pointer (some ⟨b1, 0, none⟩), .pointer (some ⟨b2, 0, none⟩)] H0 fun r => (∃ T, J (n * ss.length) T r.2 ∧ Fr T0 H0 r.2 ∧ ∀ b, T b → T0 b ∨ H0.size ≤ b) ∨ D r.2 := by
  refine CallI.of Tryz.func145 rfl (N := 29) rfl ?_
  show Holds _ _ false _ [.func (.yield l) #[] #[], .pointer (some ⟨b1, 0, none⟩), .pointer (some ⟨b2, 0, none⟩), undef, undef, undef, undef, undef, undef, undef, undef, undef, undef, undef, undef, undef, undef, undef, undef, undef, undef, undef, undef, undef, undef, undef, undef, undef, undef] H0 _
  obtain ⟨asv, csv, hsv, hssl, _⟩ := intsOf_inv hin.sz
  refine setH6.regE 0 (by kernel_rfl) (by simp only [List.map_cons, List.map_nil]; rfl) (by simp only [qB, qC, qD, qE, qF, qG, qH, qJ, qK, qM, qN, qP, iop1, qR, qS, iop, qT, qV, qW, qX, qY, qZ, zA, Option.getD_some, zB, zC, zD, zE, zF, zG, zH, zJ, zK, zM, zN, Step1.ofO, lenC, callF, zP, zR, zS, zT, zV, cond_true, cond_false, decide_true, decide_false, beq_self_eq_true, Bool.false_eq_true, Bool.true_eq_false, zW, zX, zY, zZ, Bool.not_true, Bool.not_false, appC, copyC, yA, List.map_cons, List.map_nil, goInt, ib178]; rfl) ?_
  have ho1 := Old.push H0 (.cells #[.func (.yield l) #[] #[]] 178)
  have hg3 : (H0.push (.cells #[.func (.yield l) #[] #[]] 178)).get H0.size = some (.cells [.func (.yield l) #[] #[]].toArray 178 (0, 0)) := get_push_eq
  have hs1 : (H0.push (.cells #[.func (.yield l) #[] #[]] 178)).size = H0.size + 1 := rfl
  generalize H0.push (.cells #[.func (.yield l) #[] #[]] 178) = H1 at ho1 hg3 hs1
  have hin1 := hin.fr (ho1.fr T0) fun b hb => (ht0 b hb).2
  have hl1 : iloadAt Tryz.prog 117 (.pointer (some ⟨b1, 0, none⟩)) H1 = some (.agg #[sv, fv]) := load_agg (t := 117) (i := 0) (l := [sv, fv]) ag117 sz117 hin1.g1 (by simp)
  have hl2 := load_cell (t := 3) ag3 (i := 0) hin1.g2 rfl
  refine setH6.regS (by kernel_rfl) (by simp only [List.map_cons, List.map_nil]; rfl) ?_; simp only [qB, qC, qD, qE, qF, qG, qH, qJ, qK, qM, qN, qP, iop1, qR, qS, iop, qT, qV, qW, qX, qY, qZ, zA, Option.getD_some, zB, zC, zD, zE, zF, zG, zH, zJ, zK, zM, zN, Step1.ofO, lenC, callF, zP, zR, zS, zT, zV, cond_true, cond_false, decide_true, decide_false, beq_self_eq_true, Bool.false_eq_true, Bool.true_eq_false, zW, zX, zY, zZ, Bool.not_true, Bool.not_false, appC, copyC, yA, List.map_cons, List.map_nil, goInt, yB, yC, hl1, hl2, e146, enter_s (x := (sv, fv, (n : Int))) (show hat6 146 = some (ofS pre146 post146) from rfl) uniq146 ⟨rfl, hin1.base⟩]
  rintro v2 H2 ⟨hold2, c1, c2, rfl, hc1, hc2, hc1', hc2', hd1, hd2⟩
  generalize hb3 : H0.size = b3 at hg3 hs1
  have hg3' : H2.get b3 = some (.cells [.func (.yield l) #[] #[]].toArray 178 (0, 0)) := (hold2.get b3 (by omega)).trans hg3
  refine .block (.pre (env1 := [unk, unk, unk, .pointer (some ⟨b3, 0, none⟩), unk, unk, unk, unk, unk, unk, .func (.func 174) #[] #[.pointer (some ⟨c1, 0, none⟩), .pointer (some ⟨c2, 0, none⟩)], unk, unk, unk, unk, unk, unk, unk, unk, unk, unk, unk, unk, unk, unk, unk, unk, unk, unk]) (by repeat (first | exact WkL.nil | refine WkL.same ?_ | refine WkL.any ?_)) ?_)
  have hin2 := hin1.fr (hold2.fr T0) fun b hb => (ht0 b hb).2
  refine setH6.rangeW (g := 174) (first := #[]) (captured := #[.pointer (some ⟨c1, 0, none⟩), .pointer (some ⟨c2, 0, none⟩)]) (by kernel_rfl) (by kernel_rfl) (by kernel_rfl) rfl ent174 fun lp hls hpd htm hps hx hy => ?_
  have hpush := Old.push H2 (.loop lp)
  have hs2 := hold2.size
  let J' : Nat → (Nat → Prop) → IH → Prop := fun k T h => ∃ To : Nat → Prop, (∀ b, T b ↔ b = H2.size ∨ To b) ∧ J (k * ss.length) To h ∧ h.get H2.size = some (.loop lp) ∧ h.get b3 = some (.cells [.func (.yield l) #[] #[]].toArray 178 (0, 0)) ∧ H2.size < h.size ∧
    Fr T0 H0 h ∧ ∀ b, To b → (T0 b ∨ H2.size < b) ∧ b < h.size
  let D' : IH → Prop := fun h => D h ∧ ∃ lp', h.get H2.size = some (.loop lp') ∧ lp'.state = .done ∧ lp'.pending = some .ret
  refine ⟨_, rows_iter (l := H2.size) (T0 := fun b => b = H2.size ∨ T0 b) (J := J') (D := D') (n := n) (sv := sv) (fv := fv) (ss := ss) (fs := fs) ⟨?_, ?_, ?_, ?_, intsOf_old hpush hin2.sz, intsOf_old hpush hin2.fz, ?_⟩ hfr hsr hfl hn ?_ ?_ ?_ ?_, ?_⟩
  · rw [hpush.get c1 hc1']; exact hd1
  · rw [hpush.get c2 hc2']; exact hd2
  · show c1 < H2.size + 1; omega
  · show c2 < H2.size + 1; omega
  · show H2.base ≤ H2.size + 1; have := hin2.base; omega
  · rintro b (rfl | hb)
    · exact ⟨by show H2.size < H2.size + 1; omega, by omega, by omega, fun q => by have := intsOf_blk hin2.sz q; omega, fun q => by have := intsOf_blk hin2.fz q; omega⟩
    · have := ht0 b hb
      exact ⟨by show b < H2.size + 1; omega, by omega, by omega, this.2.2.2.1, this.2.2.2.2⟩
  · refine ⟨T0, fun _ => Iff.rfl, ?_, get_push_eq, (hpush.get b3 (by omega)).trans hg3', by show H2.size < H2.size + 1; omega, ((ho1.trans hold2).trans hpush).fr T0, fun b hb => ⟨.inl hb, by have := (ht0 b hb).1; show b < H2.size + 1; omega⟩⟩
    rw [Nat.zero_mul]
    exact hst _ _ _ _ hJ0 (((ho1.trans hold2).trans hpush).l _)
  · rintro k T h h' ⟨To, q1, q2, q3, q4, q5, q6, q7⟩ hold
    have := hold.size
    exact ⟨To, q1, hst _ _ _ _ q2 (hold.l _), (hold.get _ q5).trans q3, (hold.get _ (by omega)).trans q4, by omega, q6.trans (hold.fr T0) fun _ _ h => h, fun b hb => ⟨(q7 b hb).1, by have := (q7 b hb).2; omega⟩⟩
  · rintro k T h rv hk ⟨To, q1, q2, q3, q4, q5, q6, q7⟩ hrz hrow hrT
    have hrz' : intsOf h rv = some (rowK ss fs k) := hrz
    have hrl : (rowK ss fs k).length = ss.length := by unfold rowK; rw [gathL_len]
    obtain ⟨arv, crv, hrve, _, _⟩ := intsOf_inv hrz'
    rw [hrl] at hrve
    refine round_on q3 hls hpd (by rw [hps]; rfl) hx hy (env0 := [unk, unk, unk, .pointer (some ⟨b3, 0, none⟩), unk, unk, unk, unk, unk, unk, .func (.func 174) #[] #[.pointer (some ⟨c1, 0, none⟩), .pointer (some ⟨c2, 0, none⟩)], .int .i64 (k : Nat), rv, unk, unk, unk, unk, unk, unk, unk, unk, unk, unk, unk, unk, unk, unk, unk, unk]) (by rw [hps, htm]; rfl) ?_
    refine setH6.regE 0 (by kernel_rfl) (by simp only [List.map_cons, List.map_nil]; rfl) (by simp only [qB, qC, qD, qE, qF, qG, qH, qJ, qK, qM, qN, qP, iop1, qR, qS, iop, qT, qV, qW, qX, qY, qZ, zA, Option.getD_some, zB, zC, zD, zE, zF, zG, zH, zJ, zK, zM, zN, Step1.ofO, lenC, callF, zP, zR, zS, zT, zV, cond_true, cond_false, decide_true, decide_false, beq_self_eq_true, Bool.false_eq_true, Bool.true_eq_false, zW, zX, zY, zZ, Bool.not_true, Bool.not_false, appC, copyC, yA, List.map_cons, List.map_nil, goInt]; rfl) (setH6.regZ 0 (by kernel_rfl) (by simp only [List.map_cons, List.map_nil]; rfl) (by simp only [qB, qC, qD, qE, qF, qG, qH, qJ, qK, qM, qN, qP, iop1, qR, qS, iop, qT, qV, qW, qX, qY, qZ, zA, Option.getD_some, zB, zC, zD, zE, zF, zG, zH, zJ, zK, zM, zN, Step1.ofO, lenC, callF, zP, zR, zS, zT, zV, cond_true, cond_false, decide_true, decide_false, beq_self_eq_true, Bool.false_eq_true, Bool.true_eq_false, zW, zX, zY, zZ, Bool.not_true, Bool.not_false, appC, copyC, yA, List.map_cons, List.map_nil, goInt]; rfl) ⟨rfl, [unk, unk, unk, .pointer (some ⟨b3, 0, none⟩), .int .i64 (k : Nat), rv, unk, unk, unk, unk, unk, unk, unk, unk, unk, unk, unk, unk, unk, unk, unk, unk, unk, unk, unk, unk, unk, unk, unk], (by repeat (first | exact WkL.nil | refine WkL.same ?_ | refine WkL.any ?_)), q3, fun lb => ?_⟩)
    have hbl : b3 ≠ H2.size := by omega
    have hJ1 : J (k * ss.length) To (h.put H2.size (.loop lb)) := hst _ _ _ _ q2 (OldL.put (by omega) q3)
    have hg1 : (h.put H2.size (.loop lb)).get H2.size = some (.loop lb) := get_put_eq
    have hg3'' : (h.put H2.size (.loop lb)).get b3 = some (.cells [.func (.yield l) #[] #[]].toArray 178 (0, 0)) := (get_put_ne hbl).trans q4
    have hsz1 : (h.put H2.size (.loop lb)).size = h.size := rfl
    have hfr1 : Fr (fun b => b = H2.size ∨ To b) h (h.put H2.size (.loop lb)) := ⟨Nat.le_refl _, rfl, fun b _ hb => get_put_ne fun e => hb (.inl e)⟩
    generalize h.put H2.size (.loop lb) = h1 at hJ1 hg1 hg3'' hsz1 hfr1
    rw [hrve] at hrz' hrT ⊢
    refine .block (setH6.regE 0 (by kernel_rfl) (by simp only [List.map_cons, List.map_nil]; rfl) (by simp only [qB, qC, qD, qE, qF, qG, qH, qJ, qK, qM, qN, qP, iop1, qR, qS, iop, qT, qV, qW, qX, qY, qZ, zA, Option.getD_some, zB, zC, zD, zE, zF, zG, zH, zJ, zK, zM, zN, Step1.ofO, lenC, callF, zP, zR, zS, zT, zV, cond_true, cond_false, decide_true, decide_false, beq_self_eq_true, Bool.false_eq_true, Bool.true_eq_false, zW, zX, zY, zZ, Bool.not_true, Bool.not_false, appC, copyC, yA, List.map_cons, List.map_nil, goInt, lenB_slice u22]; rfl) ?_)
    refine .loopW (fun m e h' => ∃ (c : Nat) (T' : Nat → Prop), c ≤ ss.length ∧ m = ss.length - c ∧ e = [unk, unk, unk, .pointer (some ⟨b3, 0, none⟩), .int .i64 (k : Nat), unk, unk, unk, unk, unk, unk, unk, unk, .slice arv ss.length crv, .int .i64 (ss.length : Nat), .int .i64 (c : Nat), unk, unk, unk, unk, unk, unk, unk, unk, unk, unk, unk, unk, unk] ∧
        J (k * ss.length + c) T' h' ∧ h'.get H2.size = some (.loop lb) ∧ h'.get b3 = some (.cells [.func (.yield l) #[] #[]].toArray 178 (0, 0)) ∧ Fr (fun b => b = H2.size ∨ To b) h h' ∧ ∀ b, T' b → (To b ∨ h.size ≤ b) ∧ b < h'.size) ss.length
      [unk, unk, unk, .pointer (some ⟨b3, 0, none⟩), .int .i64 (k : Nat), unk, unk, unk, unk, unk, unk, unk, unk, .slice arv ss.length crv, .int .i64 (ss.length : Nat), .int .i64 0, unk, unk, unk, unk, unk, unk, unk, unk, unk, unk, unk, unk, unk] (by repeat (first | exact WkL.nil | refine WkL.same ?_ | refine WkL.any ?_))
      ⟨0, To, Nat.zero_le _, rfl, rfl, hJ1, hg1, hg3'', hfr1, fun b hb => ⟨.inl hb, by have := (q7 b hb).2; omega⟩⟩ ?_
    rintro m e h' ⟨c, T', hc, rfl, rfl, p1, p2, p3, p4, p5⟩
    have hTT : ∀ b, (b = H2.size ∨ To b) → T b := fun b hb => (q1 b).2 hb
    refine setH6.headW (by kernel_rfl) (by simp only [List.map_cons, List.map_nil]; rfl) (by simp only [qB, qC, qD, qE, qF, qG, qH, qJ, qK, qM, qN, qP, iop1, qR, qS, iop, qT, qV, qW, qX, qY, qZ, zA, Option.getD_some, zB, zC, zD, zE, zF, zG, zH, zJ, zK, zM, zN, Step1.ofO, lenC, callF, zP, zR, zS, zT, zV, cond_true, cond_false, decide_true, decide_false, beq_self_eq_true, Bool.false_eq_true, Bool.true_eq_false, zW, zX, zY, zZ, Bool.not_true, Bool.not_false, appC, copyC, yA, List.map_cons, List.map_nil, goInt]; rfl) (by kernel_rfl) (by simp only [qT, qX, qY, Option.getD_some]; rfl) (fun ht => ?_) (fun ht => ?_)
    · have hclt : c < ss.length := by simpa using ht
      obtain ⟨z, hz⟩ : ∃ z, (rowK ss fs k)[c]? = some z := ⟨_, List.getElem?_eq_getElem (by omega)⟩
      have hzc : cellK ss fs k c = z := by unfold cellK; simp [List.getD, hz]
      have hrz2 := intsOf_fr p4 hrz' fun b hb q => hrT b hb (hTT b q)
      obtain ⟨p, hp, hld⟩ := read_int el22 hrz2 hz (k := .i64)
      have hl3 := load_cell (t := 178) ag178 (i := 0) p3 rfl
      have hR := hround k c T' h' hk hclt p1
      rw [hzc] at hR
      have hnl : ¬ T' H2.size := fun hb => by
        rcases (p5 _ hb).1 with h9 | h9
        · rcases (q7 _ h9).1 with h8 | h8
          · have := (ht0 _ h8).1; omega
          · omega
        · omega
      refine .blockW (setH6.regE 0 (by kernel_rfl) (by simp only [List.map_cons, List.map_nil]; rfl) (by simp only [qB, qC, qD, qE, qF, qG, qH, qJ, qK, qM, qN, qP, iop1, qR, qS, iop, qT, qV, qW, qX, qY, qZ, zA, Option.getD_some, zB, zC, zD, zE, zF, zG, zH, zJ, zK, zM, zN, Step1.ofO, lenC, callF, zP, zR, zS, zT, zV, cond_true, cond_false, decide_true, decide_false, beq_self_eq_true, Bool.false_eq_true, Bool.true_eq_false, zW, zX, zY, zZ, Bool.not_true, Bool.not_false, appC, copyC, yA, List.map_cons, List.map_nil, goInt, hp, hld]; rfl) ?_)
      refine setH6.regRS (rkOne_spec hR) (by kernel_rfl) (by simp only [List.map_cons, List.map_nil]; rfl) ?_; simp only [qB, qC, qD, qE, qF, qG, qH, qJ, qK, qM, qN, qP, iop1, qR, qS, iop, qT, qV, qW, qX, qY, qZ, zA, Option.getD_some, zB, zC, zD, zE, zF, zG, zH, zJ, zK, zM, zN, Step1.ofO, lenC, callF, zP, zR, zS, zT, zV, cond_true, cond_false, decide_true, decide_false, beq_self_eq_true, Bool.false_eq_true, Bool.true_eq_false, zW, zX, zY, zZ, Bool.not_true, Bool.not_false, appC, copyC, yA, List.map_cons, List.map_nil, goInt, yB, yC, yM, yN, hl3, bd83, bd133, call_yield (l := l), rkOne_eq]
      rintro v3 h3 (⟨rfl, T3, hJ3, hf3, hT3⟩ | ⟨rfl, hD, hf3⟩)
      · simp only [qB, qC, qD, qE, qF, qG, qH, qJ, qK, qM, qN, qP, iop1, qR, qS, iop, qT, qV, qW, qX, qY, qZ, zA, Option.getD_some, zB, zC, zD, zE, zF, zG, zH, zJ, zK, zM, zN, Step1.ofO, lenC, callF, zP, zR, zS, zT, zV, cond_true, cond_false, decide_true, decide_false, beq_self_eq_true, Bool.false_eq_true, Bool.true_eq_false, zW, zX, zY, zZ, Bool.not_true, Bool.not_false, appC, copyC, yA, List.map_cons, List.map_nil, goInt, yB, yC]
        refine .cond (by kernel_rfl) (by simp only [qT, qX, qY, Option.getD_some]; rfl) (fun ht4 => by cases ht4) (fun _ => .skip (BT.go ?_))
        have hnb : ¬ T' b3 := fun hb => by
          rcases (p5 _ hb).1 with h9 | h9
          · rcases (q7 _ h9).1 with h8 | h8
            · have := (ht0 _ h8).1; omega
            · omega
          · omega
        have hs3 := hf3.size
        have hsp := p4.size
        refine setH6.regZ 0 (by kernel_rfl) (by simp only [List.map_cons, List.map_nil]; rfl) (by simp only [qB, qC, qD, qE, qF, qG, qH, qJ, qK, qM, qN, qP, iop1, qR, qS, iop, qT, qV, qW, qX, qY, qZ, zA, Option.getD_some, zB, zC, zD, zE, zF, zG, zH, zJ, zK, zM, zN, Step1.ofO, lenC, callF, zP, zR, zS, zT, zV, cond_true, cond_false, decide_true, decide_false, beq_self_eq_true, Bool.false_eq_true, Bool.true_eq_false, zW, zX, zY, zZ, Bool.not_true, Bool.not_false, appC, copyC, yA, List.map_cons, List.map_nil, goInt, wrap_succ hclt hssl]; rfl) (LQ.go (ss.length - (c + 1)) (by omega) (by repeat (first | exact WkL.nil | refine WkL.same ?_ | refine WkL.any ?_)) ⟨c + 1, T3, by omega, rfl, rfl, hJ3, (hf3.get _ (by omega) hnl).trans p2, (hf3.get _ (by omega) hnb).trans p3, p4.trans hf3 fun x hx hx2 => ?_, fun b hb => ?_⟩)
        · rcases (p5 x hx2).1 with h9 | h9
          · exact .inr h9
          · omega
        · obtain ⟨r1, r2⟩ := hT3 b hb
          refine ⟨?_, r2⟩
          rcases r1 with r1 | r1
          · exact (p5 b r1).1
          · exact .inr (by omega)
      · simp only [qB, qC, qD, qE, qF, qG, qH, qJ, qK, qM, qN, qP, iop1, qR, qS, iop, qT, qV, qW, qX, qY, qZ, zA, Option.getD_some, zB, zC, zD, zE, zF, zG, zH, zJ, zK, zM, zN, Step1.ofO, lenC, callF, zP, zR, zS, zT, zV, cond_true, cond_false, decide_true, decide_false, beq_self_eq_true, Bool.false_eq_true, Bool.true_eq_false, zW, zX, zY, zZ, Bool.not_true, Bool.not_false, appC, copyC, yA, List.map_cons, List.map_nil, goInt, yB, yC]
        have hg9 := (hf3.get _ (by have := p4.size; omega) hnl).trans p2
        refine .cond (by kernel_rfl) (by simp only [qT, qX, qY, Option.getD_some]; rfl) (fun _ => .ret (BT.rt (LQ.rt (BZ.rt ⟨hg9, .inr ⟨rfl, fun H' hH' => ?_⟩⟩)))) (fun ht4 => by cases ht4)
        subst hH'
        exact .inr ⟨by simp, hDst _ _ hD (OldL.put (by omega) hg9), _, get_put_eq, rfl, rfl⟩
    · have hge : c = ss.length := by simp at ht; omega
      subst hge
      refine BZ.go ⟨p2, .inl ⟨rfl, fun H' hH' => .inl ⟨rfl, fun b => b = H2.size ∨ T' b, ⟨T', fun _ => Iff.rfl, ?_, by rw [hH']; exact get_put_eq, by rw [hH', get_put_ne hbl]; exact p3, ?_, ?_, fun b hb => ?_⟩, ?_, fun b hb => ?_⟩⟩⟩
      · rw [hH', Nat.succ_mul]
        exact hst _ _ _ _ p1 (OldL.put (by omega) p2)
      · rw [hH']; have := p4.size; show H2.size < h'.size; omega
      · rw [hH']
        refine (q6.trans p4 fun x hx hx2 => ?_).trans (⟨Nat.le_refl _, rfl, fun b _ hb => get_put_ne hb⟩ : Fr (fun b => b = H2.size) h' (h'.put H2.size (.loop lp))) fun x hx hx2 => by omega
        rcases hx2 with h9 | h9
        · omega
        · rcases (q7 x h9).1 with h8 | h8
          · exact h8
          · omega
      · obtain ⟨r1, r2⟩ := p5 b hb
        refine ⟨?_, by rw [hH']; exact r2⟩
        rcases r1 with r1 | r1
        · exact (q7 b r1).1
        · exact .inr (by omega)
      · rw [hH']
        refine (p4.trans (⟨Nat.le_refl _, rfl, fun b _ hb => get_put_ne hb⟩ : Fr (fun b => b = H2.size) h' (h'.put H2.size (.loop lp))) fun x _ hx2 => .inl hx2) |> fun hh => ⟨hh.size, hh.base, fun b hb hn => hh.get b hb fun h9 => hn (hTT b h9)⟩
      · rcases hb with rfl | hb
        · exact ⟨.inl (hTT _ (.inl rfl)), by rw [hH']; have := p4.size; show H2.size < h'.size; omega⟩
        · obtain ⟨r1, r2⟩ := p5 b hb
          refine ⟨?_, by rw [hH']; exact r2⟩
          rcases r1 with r1 | r1
          · exact .inl (hTT b (.inr r1))
          · exact .inr r1
  · rintro r (⟨T, ⟨To, q1, q2, q3, q4, q5, q6, q7⟩, hfr', hT⟩ | ⟨hD, lp', q1, q2, q3⟩)
    · refine after_ok q3 hls hpd fun lp' => BZ.go ⟨.inl rfl, .tuple #[], res0 rfl, .inl ⟨To, hst _ _ _ _ q2 (OldL.put (by omega) q3), ?_, fun b hb => ?_⟩⟩
      · refine ⟨q6.size, q6.base, fun b hb hn => ?_⟩
        rw [get_put_ne (by omega)]
        exact q6.get b hb hn
      · rcases (q7 b hb).1 with h | h
        · exact .inl h
        · exact .inr (by omega)
    · exact after_ret q1 q2 q3 fun lp'' => BZ.rt ⟨.inr rfl, .tuple #[], res0 rfl, .inr (hDst _ _ hD (OldL.put (by omega) q1))⟩
end Go.Proofs.YtpdlblofcdcikaaGreatDoor
