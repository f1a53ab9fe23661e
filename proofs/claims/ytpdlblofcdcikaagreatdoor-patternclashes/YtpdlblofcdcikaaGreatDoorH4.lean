/- Contract of strands. Conditions: none. -/
import Derived.Test.YtpdlblofcdcikaaGreatDoorH3
set_option linter.unusedSimpArgs false
set_option linter.unusedVariables false
namespace Go.Proofs.YtpdlblofcdcikaaGreatDoor
open Go.Idl

theorem pureH4 : NatPure hat4 := addS_pure pureH3
/-- the rows that the iterator visits -/
def rowK (ss fs : List Int) (k : Nat) : List Int := gathL ss (iterG fs k (rangeI fs.length))
def rowsK (ss fs : List Int) (n : Nat) : List (List Int) := (List.range n).map (rowK ss fs)
theorem rowsK_succ (ss fs : List Int) (n : Nat) : rowsK ss fs (n + 1) = rowsK ss fs n ++ [rowK ss fs n] := by simp [rowsK, List.range_succ]
theorem rowsK_len (ss fs : List Int) (n : Nat) : (rowsK ss fs n).length = n := by simp [rowsK]
theorem al25 (H : IH) : ialloc Tryz.prog 25 H = some (.val (.pointer (some ⟨H.size, 0, none⟩)) (H.push (.cells #[.slice none 0 0] 25))) := by kernel_rfl
theorem ag25 : aggT Tryz.prog 25 = some false := by kernel_rfl
theorem sz25 : szT Tryz.prog 25 = some 1 := by kernel_rfl
theorem ent174 : entered Tryz.prog 174 = true := by kernel_rfl

/-- the scheme in memory, as a function's argument -/
structure SchemeIn (H : IH) (sv fv : Value) (ss fs : List Int) : Prop where
  sz : intsOf H sv = some ss
  fz : intsOf H fv = some fs
  fr : inR fs.length fs
  sr : inR fs.length ss
  len : fs.length ≤ 12
  base : H.base ≤ H.size
theorem SchemeIn.old {H H' : IH} {sv fv : Value} {ss fs : List Int} (h : SchemeIn H sv fv ss fs) (ho : Old H H') : SchemeIn H' sv fv ss fs :=
  ⟨intsOf_old ho h.sz, intsOf_old ho h.fz, h.fr, h.sr, h.len, by rw [ho.base]; exact Nat.le_trans h.base ho.size⟩

/-! 131: strands -/
def pre131 (x : (Value × Value) × (List Int × List Int) × Nat) (args : List Value) (H : IH) : Prop := args = [.agg #[x.1.1, x.1.2], .int .i64 (x.2.2 : Int)] ∧ SchemeIn H x.1.1 x.1.2 x.2.1.1 x.2.1.2 ∧ x.2.2 ≤ 1000
def post131 (x : (Value × Value) × (List Int × List Int) × Nat) (H : IH) (v : Value) (H' : IH) : Prop := Old H H' ∧ ∃ rows, Grown H' 22 H.size v rows ∧ IRows H' 3 H.size H'.size rows (rowsK x.2.1.1 x.2.1.2 x.2.2)
theorem uniq131 (x y : (Value × Value) × (List Int × List Int) × Nat) (args : List Value) (H : IH) (hx : pre131 x args H) (hy : pre131 y args H) : x = y := by
  obtain ⟨⟨a, b⟩, ⟨s, f⟩, n⟩ := x
  obtain ⟨⟨a', b'⟩, ⟨s', f'⟩, n'⟩ := y
  have h1 := hx.1.symm.trans hy.1
  simp at h1
  obtain ⟨⟨rfl, rfl⟩, h3⟩ := h1
  have h4 := hx.2.1.sz.symm.trans hy.2.1.sz
  have h5 := hx.2.1.fz.symm.trans hy.2.1.fz
  simp at h4 h5
  subst h4 h5
  have : n = n' := by omega
  rw [this]
noncomputable def hat5 : Nats := addS hat4 131 pre131 post131
set_option maxRecDepth 20000 in
theorem setH5 : Setup Tryz.prog good hat5 (globG 3) := setH4.addS pre131 post131 fun x args H ⟨ha, hin, hn⟩ => by
  obtain ⟨⟨sv, fv⟩, ⟨ss, fs⟩, n⟩ := x
  simp only at ha hin hn
  subst ha
  refine CallI.of Tryz.func131 rfl (N := 18) rfl ?_
  show Holds _ _ false _ [.agg #[sv, fv], .int .i64 (n : Int), undef, undef, undef, undef, undef, undef, undef, undef, undef, undef, undef, undef, undef, undef, undef, undef] H _
  refine setH4.regE 0 (by kernel_rfl) (by simp only [List.map_cons, List.map_nil]; rfl) (by simp only [qB, qC, qD, qE, qF, qG, qH, qJ, qK, qM, qN, qP, iop1, qR, qS, iop, qT, qV, qW, qX, qY, qZ, zA, Option.getD_some, zB, zC, zD, zE, zF, zG, zH, zJ, zK, zM, zN, Step1.ofO, lenC, callF, zP, zR, zS, zT, zV, cond_true, cond_false, decide_true, decide_false, beq_self_eq_true, Bool.false_eq_true, Bool.true_eq_false, zW, zX, zY, zZ, Bool.not_true, Bool.not_false, appC, copyC, yA, List.map_cons, List.map_nil, goInt, ib117]; rfl) ?_
  refine setH4.regE 0 (by kernel_rfl) (by simp only [List.map_cons, List.map_nil]; rfl) (by simp only [qB, qC, qD, qE, qF, qG, qH, qJ, qK, qM, qN, qP, iop1, qR, qS, iop, qT, qV, qW, qX, qY, qZ, zA, Option.getD_some, zB, zC, zD, zE, zF, zG, zH, zJ, zK, zM, zN, Step1.ofO, lenC, callF, zP, zR, zS, zT, zV, cond_true, cond_false, decide_true, decide_false, beq_self_eq_true, Bool.false_eq_true, Bool.true_eq_false, zW, zX, zY, zZ, Bool.not_true, Bool.not_false, appC, copyC, yA, List.map_cons, List.map_nil, goInt, al25]; rfl) ?_
  have ho1 : Old H ((H.push (.cells #[sv, fv] 117)).push (.cells #[.slice none 0 0] 25)) := (Old.push H _).trans (Old.push _ _)
  have hg1 : ((H.push (.cells #[sv, fv] 117)).push (.cells #[.slice none 0 0] 25)).get H.size = some (.cells [sv, fv].toArray 117 (0, 0)) := by
    rw [get_push_lt (by show H.size < H.size + 1; omega)]; exact get_push_eq
  have hg2 : ((H.push (.cells #[sv, fv] 117)).push (.cells #[.slice none 0 0] 25)).get (H.size + 1) = some (.cells [.slice none 0 0].toArray 25 (0, 0)) := get_push_eq
  have hsz1 : ((H.push (.cells #[sv, fv] 117)).push (.cells #[.slice none 0 0] 25)).size = H.size + 2 := rfl
  have hsz0 : (H.push (.cells #[sv, fv] 117)).size = H.size + 1 := rfl
  rw [hsz0]
  generalize (H.push (.cells #[sv, fv] 117)).push (.cells #[.slice none 0 0] 25) = H1 at ho1 hg1 hg2 hsz1
  have hin1 := hin.old ho1
  have hl1 : iloadAt Tryz.prog 117 (.pointer (some ⟨H.size, 0, none⟩)) H1 = some (.agg #[sv, fv]) := load_agg (t := 117) (i := 0) (l := [sv, fv]) ag117 sz117 hg1 (by simp)
  refine .seqW ?_
  refine setH4.regS (by kernel_rfl) (by simp only [List.map_cons, List.map_nil]; rfl) ?_; simp only [qB, qC, qD, qE, qF, qG, qH, qJ, qK, qM, qN, qP, iop1, qR, qS, iop, qT, qV, qW, qX, qY, qZ, zA, Option.getD_some, zB, zC, zD, zE, zF, zG, zH, zJ, zK, zM, zN, Step1.ofO, lenC, callF, zP, zR, zS, zT, zV, cond_true, cond_false, decide_true, decide_false, beq_self_eq_true, Bool.false_eq_true, Bool.true_eq_false, zW, zX, zY, zZ, Bool.not_true, Bool.not_false, appC, copyC, yA, List.map_cons, List.map_nil, goInt, yB, yC, hl1, e146, enter_s (x := (sv, fv, (n : Int))) (show hat4 146 = some (ofS pre146 post146) from rfl) uniq146 ⟨rfl, hin1.base⟩]
  rintro v2 H2 ⟨hold2, b1, b2, rfl, hb1, hb2, hb1', hb2', hc1, hc2⟩
  generalize hb5 : H.size + 1 = b5 at hg2
  have hb5l : b5 < H2.size := by have := hold2.size; omega
  have hg5 : H2.get b5 = some (.cells [.slice none 0 0].toArray 25 (0, 0)) := (hold2.get b5 (by omega)).trans hg2
  refine .block (.pre (env1 := [unk, unk, unk, unk, unk, .pointer (some ⟨b5, 0, none⟩), unk, unk, unk, unk, .func (.func 174) #[] #[.pointer (some ⟨b1, 0, none⟩), .pointer (some ⟨b2, 0, none⟩)], unk, unk, unk, unk, unk, unk, unk]) (by repeat (first | exact WkL.nil | refine WkL.same ?_ | refine WkL.any ?_)) ?_)
  have hin2 := hin1.old hold2
  refine setH4.rangeW (g := 174) (first := #[]) (captured := #[.pointer (some ⟨b1, 0, none⟩), .pointer (some ⟨b2, 0, none⟩)]) (by kernel_rfl) (by kernel_rfl) (by kernel_rfl) rfl ent174 fun lp hst hpd htm hps hx hy => ?_
  let J : Nat → (Nat → Prop) → IH → Prop := fun k T h => ∃ (ov : Value) (rows : List Value), (∀ b, T b ↔ b = H2.size ∨ b = b5 ∨ blkIs ov b) ∧ h.get H2.size = some (.loop lp) ∧ h.get b5 = some (.cells [ov].toArray 25 (0, 0)) ∧ H2.size < h.size ∧ h.base = H2.base ∧
    Grown h 22 (H2.size + 1) ov rows ∧ IRows h 3 (H2.size + 1) h.size rows (rowsK ss fs k)
  have hpush := Old.push H2 (.loop lp)
  refine ⟨_, rows_iter (l := H2.size) (T0 := fun b => b = H2.size ∨ b = b5 ∨ blkIs (.slice none 0 0) b) (J := J) (D := fun _ => False) (n := n) (sv := sv) (fv := fv) (ss := ss) (fs := fs) ⟨?_, ?_, ?_, ?_, intsOf_old hpush hin2.sz, intsOf_old hpush hin2.fz, ?_⟩ hin.fr hin.sr hin.len hn ?_ ?_ ?_ ?_, ?_⟩
  · rw [hpush.get b1 hb1']; exact hc1
  · rw [hpush.get b2 hb2']; exact hc2
  · show b1 < H2.size + 1; omega
  · show b2 < H2.size + 1; omega
  · show H2.base ≤ H2.size + 1; have := hin2.base; omega
  · rintro b (rfl | rfl | hb)
    · exact ⟨by show H2.size < H2.size + 1; omega, by omega, by omega, fun q => by have := intsOf_blk hin2.sz q; omega, fun q => by have := intsOf_blk hin2.fz q; omega⟩
    · have hs1 := hold2.size
      exact ⟨by show b < H2.size + 1; omega, by omega, by omega, fun q => by have := intsOf_blk hin.sz q; omega, fun q => by have := intsOf_blk hin.fz q; omega⟩
    · exact hb.elim
  · exact ⟨.slice none 0 0, [], fun _ => Iff.rfl, get_push_eq, (hpush.get b5 hb5l).trans hg5, by show H2.size < H2.size + 1; omega, rfl, .nil _ _ _, .nil _ _ _ _⟩
  · rintro k T h h' ⟨ov, rows, q1, q2, q3, q4, q5, q6, q7⟩ hold
    have := hold.size
    exact ⟨ov, rows, q1, (hold.get _ q4).trans q2, (hold.get _ (by omega)).trans q3, by omega, hold.base.trans q5, q6.keep hold.size fun b _ r _ => hold.get b r, (q7.keep hold.size fun b _ _ _ _ r _ => hold.get b r).lower (Nat.le_refl _) hold.size⟩
  · rintro k T h rv hk ⟨ov, rows, q1, q2, q3, q4, q5, q6, q7⟩ hrz hrow hrT
    have hbl : b5 ≠ H2.size := by omega
    obtain ⟨arv, nrv, crv, hrve⟩ : ∃ a n c, rv = .slice a n c := by
      obtain ⟨a, c, e, _⟩ := intsOf_inv hrz
      exact ⟨a, _, c, e⟩
    have hbase : h.base ≤ H2.size + 1 := by have := hin2.base; omega
    refine round_on q2 hst hpd (by rw [hps]; rfl) hx hy (env0 := [unk, unk, unk, unk, unk, .pointer (some ⟨b5, 0, none⟩), unk, unk, unk, unk, .func (.func 174) #[] #[.pointer (some ⟨b1, 0, none⟩), .pointer (some ⟨b2, 0, none⟩)], .int .i64 (k : Nat), rv, unk, unk, unk, unk, unk]) (by rw [hps, htm]; rfl) ?_
    refine setH4.regZ 0 (by kernel_rfl) (by simp only [List.map_cons, List.map_nil]; rfl) (by simp only [qB, qC, qD, qE, qF, qG, qH, qJ, qK, qM, qN, qP, iop1, qR, qS, iop, qT, qV, qW, qX, qY, qZ, zA, Option.getD_some, zB, zC, zD, zE, zF, zG, zH, zJ, zK, zM, zN, Step1.ofO, lenC, callF, zP, zR, zS, zT, zV, cond_true, cond_false, decide_true, decide_false, beq_self_eq_true, Bool.false_eq_true, Bool.true_eq_false, zW, zX, zY, zZ, Bool.not_true, Bool.not_false, appC, copyC, yA, List.map_cons, List.map_nil, goInt]; rfl) ⟨rfl, [unk, unk, unk, unk, unk, .pointer (some ⟨b5, 0, none⟩), unk, rv, unk, unk, unk, unk, unk, unk, unk, unk, unk, unk], (by repeat (first | exact WkL.nil | refine WkL.same ?_ | refine WkL.any ?_)), q2, fun lb => ?_⟩
    have hk1 : ∀ b, b ≠ H2.size → (h.put H2.size (.loop lb)).get b = h.get b := fun b hb => get_put_ne hb
    have hbs1 : (h.put H2.size (.loop lb)).base = h.base := rfl
    have hsz1 : (h.put H2.size (.loop lb)).size = h.size := rfl
    have hgl : (h.put H2.size (.loop lb)).get H2.size = some (.loop lb) := get_put_eq
    generalize h.put H2.size (.loop lb) = h1 at hk1 hbs1 hsz1 hgl
    have hov1 : Grown h1 22 (H2.size + 1) ov rows := q6.keep (by omega) fun b c1 _ _ => hk1 b (by omega)
    have hrw1 : IRows h1 3 (H2.size + 1) h.size rows (rowsK ss fs k) := q7.keep (by omega) fun b c fz c1 _ _ _ => hk1 b (by omega)
    have hg5' : h1.get b5 = some (.cells [ov].toArray 25 (0, 0)) := (hk1 b5 hbl).trans q3
    have hld := load_cell (t := 25) ag25 (i := 0) hg5' rfl
    obtain ⟨ov', h3, happ, hov3, hsz3, hbs3, hkeep3, hnew3⟩ := hov1.app (x := rv) el25 (by rw [hrve]; rfl) hrw1.one (by rw [q7.1, rowsK_len]; omega) (by omega) (by omega)
    rw [hrve] at happ
    obtain ⟨aov, hove⟩ := hov3.len
    have hov5 : ∀ b, blkIs ov b → H2.size + 1 ≤ b ∧ b < h.size := fun b hb => ⟨(q6.blk_lt hb).1, (q6.blk_lt hb).2.1⟩
    have hg53 : h3.get b5 = some (.cells [ov].toArray 25 (0, 0)) := (hkeep3 b5 (by omega) fun hb => by have := (hov5 _ hb).1; omega).trans hg5'
    have hst5 := store_cell (t := 25) sz25 (i := 0) (v := ov') (by rw [hove]; rfl) (by rw [hove]; rfl) hg53 (by simp) rfl (by rw [hbs3, hbs1, q5]; have := hin.base; have := hin2.base; rw [hold2.base, ho1.base]; omega)
    rw [hrve]
    refine .block (setH4.regZ 0 (by kernel_rfl) (by simp only [List.map_cons, List.map_nil]; rfl) (by simp only [qB, qC, qD, qE, qF, qG, qH, qJ, qK, qM, qN, qP, iop1, qR, qS, iop, qT, qV, qW, qX, qY, qZ, zA, Option.getD_some, zB, zC, zD, zE, zF, zG, zH, zJ, zK, zM, zN, Step1.ofO, lenC, callF, zP, zR, zS, zT, zV, cond_true, cond_false, decide_true, decide_false, beq_self_eq_true, Bool.false_eq_true, Bool.true_eq_false, zW, zX, zY, zZ, Bool.not_true, Bool.not_false, appC, copyC, yA, List.map_cons, List.map_nil, goInt, hld, b1s, happ, hst5]; rfl) (BZ.go ⟨?_, .inl ⟨rfl, fun H' hH' => .inl ⟨rfl, fun b => b = H2.size ∨ b = b5 ∨ blkIs ov' b, ⟨ov', rows ++ [rv], fun _ => Iff.rfl, ?_, ?_, ?_, ?_, ?_, ?_⟩, ⟨?_, ?_, ?_⟩, ?_⟩⟩⟩))
    · rw [get_put_ne hbl.symm, hkeep3 _ (by omega) fun hb => by have := (hov5 _ hb).1; omega]; exact hgl
    · rw [hH']; exact get_put_eq
    · rw [hH', get_put_ne hbl]; exact get_put_eq
    · rw [hH']; show H2.size < h3.size; omega
    · rw [hH']; show h3.base = H2.base; rw [hbs3, hbs1, q5]
    · rw [hH']
      refine (hov3.keep (H' := h3.put b5 (.cells ([ov].set 0 ov').toArray 25 (0, 0))) (Nat.le_refl _) fun b r _ _ => get_put_ne (by omega)).keep (Nat.le_refl _) fun b r _ _ => get_put_ne (by omega)
    · rw [hH', rowsK_succ]
      have hr1 : IRows h3 3 (H2.size + 1) h3.size (rows ++ [rv]) (rowsK ss fs k ++ [rowK ss fs k]) := by
        refine IRows.snoc ?_ ?_
        · exact (hrw1.keepEl hov1 (by decide) (by omega) hkeep3).lower (Nat.le_refl _) (by omega)
        · have hrow1 : RowAt h1 3 (H2.size + 1) h.size rv (rowK ss fs k) := hrow.keep (by omega) fun b c fz c1 _ _ _ _ => hk1 b (by have : H2.size + 1 ≤ b := c1; omega)
          refine (hrow1.keep (by omega) fun b c fz r1 r2 r3 r4 _ => hkeep3 b r3 fun r5 => ?_).lower (Nat.le_refl _) (by omega)
          have := (hov1.blk_lt r5).2.2
          rw [r4] at this
          simp at this
      exact (hr1.keep (H' := h3.put b5 (.cells ([ov].set 0 ov').toArray 25 (0, 0))) (Nat.le_refl _) fun b c fz r1 _ _ _ => get_put_ne (by omega)).keep (Nat.le_refl _) fun b c fz r1 _ _ _ => get_put_ne (by omega)
    · rw [hH']; show h.size ≤ h3.size; omega
    · rw [hH']; show h3.base = h.base; rw [hbs3, hbs1]
    · intro b hb hnT
      have hn := fun hx => hnT ((q1 b).2 hx)
      rw [hH', get_put_ne (fun e => hn (.inl e)), get_put_ne (fun e => hn (.inr (.inl e))), hkeep3 b (by omega) fun r => hn (.inr (.inr r)), hk1 b (fun e => hn (.inl e))]
    · rintro b (rfl | rfl | hb)
      · exact ⟨.inl ((q1 _).2 (.inl rfl)), by rw [hH']; show H2.size < h3.size; omega⟩
      · exact ⟨.inl ((q1 _).2 (.inr (.inl rfl))), by rw [hH']; show b < h3.size; omega⟩
      · have := hnew3 b hb
        have := (hov3.blk_lt hb).2.1
        exact ⟨.inr (by omega), by rw [hH']; show b < h3.size; omega⟩
  · rintro r (⟨T, ⟨ov, rows, q1, q2, q3, q4, q5, q6, q7⟩, hfr, hT⟩ | h)
    · refine after_ok q2 hst hpd fun lp' => BZ.go (ST.go ?_)
      have hbl : b5 ≠ H2.size := by omega
      have hs1 := hold2.size
      have hld : iloadAt Tryz.prog 25 (.pointer (some ⟨b5, 0, none⟩)) (r.2.put H2.size (.loop lp')) = some ov := load_cell (t := 25) ag25 (i := 0) (l := [ov]) (by rw [get_put_ne hbl]; exact q3) rfl
      refine setH4.regE 0 (by kernel_rfl) (by simp only [List.map_cons, List.map_nil]; rfl) (by simp only [qB, qC, qD, qE, qF, qG, qH, qJ, qK, qM, qN, qP, iop1, qR, qS, iop, qT, qV, qW, qX, qY, qZ, zA, Option.getD_some, zB, zC, zD, zE, zF, zG, zH, zJ, zK, zM, zN, Step1.ofO, lenC, callF, zP, zR, zS, zT, zV, cond_true, cond_false, decide_true, decide_false, beq_self_eq_true, Bool.false_eq_true, Bool.true_eq_false, zW, zX, zY, zZ, Bool.not_true, Bool.not_false, appC, copyC, yA, List.map_cons, List.map_nil, goInt, hld]; rfl) (.ret ⟨.inr rfl, ov, ires_tmp rfl (by simp only [qX, qY]), ?_, rows, ?_, ?_⟩)
      · refine ⟨by show H.size ≤ r.2.size; omega, by show r.2.base = H.base; rw [q5, hold2.base, ho1.base], fun b hb => ?_⟩
        have hn0 : ¬ (b = H2.size ∨ b = b5 ∨ blkIs (.slice none 0 0) b) := by
          rintro (h | h | h)
          · omega
          · omega
          · exact h.elim
        rw [get_put_ne (by omega), hfr.get b (by show b < H2.size + 1; omega) hn0, hpush.get b (by omega), hold2.get b (by omega), ho1.get b hb]
      · exact (q6.keep (H' := r.2.put H2.size (.loop lp')) (Nat.le_refl _) fun b c1 _ _ => get_put_ne (by omega)).lower (by omega)
      · exact (q7.keep (H' := r.2.put H2.size (.loop lp')) (Nat.le_refl _) fun b c fz c1 _ _ _ => get_put_ne (by omega)).lower (by omega) (Nat.le_refl _)
    · exact h.elim
end Go.Proofs.YtpdlblofcdcikaaGreatDoor
