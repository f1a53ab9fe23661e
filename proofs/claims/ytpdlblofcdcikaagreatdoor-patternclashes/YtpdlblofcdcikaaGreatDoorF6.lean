/- Contract of the reference's CheckPicture. Conditions: none. -/
import Derived.Test.YtpdlblofcdcikaaGreatDoorF5
set_option linter.unusedSimpArgs false
set_option linter.unusedVariables false
namespace Go.Proofs.YtpdlblofcdcikaaGreatDoor
open Go.Idl

def refRow (l0 : Nat) (zs : List Int) : Int := cond ((zs.length : Int) == 0) 12 (cond (decide (24 < (zs.length : Int))) 5 (cond ((zs.length : Int) != (l0 : Int)) 2 (cond (zs.any refColour) 3 0)))
def refRows (rs : List (Value × List Int)) : List Int := rs.map fun r => refRow (l0Of rs) r.2
noncomputable def k24 (args : List Value) (H : IH) : Option Value := match args with
  | [.slice a n c] => if n = 0 then some (.int .i64 12) else if 24 < n then some (.int .i64 5) else (picOf H (.slice a n c)).map fun rs => .int .i64 (firstNZ (refRows rs))
  | _ => none
noncomputable def nat20 : Nats := addNat nat19 24 k24
theorem s38 : nat19 38 = some (ofK k38) := rfl
theorem pure19 : NatPure nat19 := addNat_pure pure18
set_option maxRecDepth 10000 in
theorem setup20 : Setup Tryz.prog good nat20 (globG 3) := by
  refine plainN setup19 k24 Tryz.func24 rfl rfl fun args H v hk => ?_
  unfold k24 at hk
  split at hk
  · rename_i a n c
    have hv : plainV v = true := by
      split at hk
      · cases hk; rfl
      · split at hk
        · cases hk; rfl
        · obtain ⟨rs, _, rfl⟩ := Option.map_eq_some_iff.1 hk; rfl
    refine ⟨hv, ?_⟩
    show Holds _ _ false _ [.slice a n c, undef, undef, undef, undef, undef, undef, undef, undef, undef, undef, undef, undef, undef, undef, undef, undef, undef, undef, undef, undef, undef, undef, undef, undef, undef, undef, undef, undef, undef, undef, undef, undef, undef, undef, undef, undef, undef, undef, undef, undef, undef, undef, undef, undef, undef, undef, undef, undef, undef, undef, undef, undef, undef, undef, undef] H _
    refine setup19.regE 0 (by kernel_rfl) (by simp only [List.map_cons, List.map_nil]; rfl) (by simp only [qB, qC, qD, qE, qF, qG, qH, qJ, qK, qM, qN, qP, iop1, qR, qS, iop, qT, qV, qW, qX, qY, qZ, zA, Option.getD_some, zB, zC,
    zD, zE, zF, zG, zH, zJ, zK, zM, zN, Step1.ofO, lenC, callF, zP, zR, zS, zT, zV, cond_true, cond_false, decide_true, decide_false, beq_self_eq_true, Bool.false_eq_true, Bool.true_eq_false, zW, zX, zY, zZ, Bool.not_true, Bool.not_false]; rfl) ?_
    refine setup19.ifRet 0 (by kernel_rfl) (by simp only [List.map_cons, List.map_nil]; rfl) (by simp only [qB, qC, qD, qE, qF, qG, qH, qJ, qK, qM, qN, qP, iop1, qR, qS, iop, qT, qV, qW, qX, qY, qZ, zA, Option.getD_some, zB, zC,
    zD, zE, zF, zG, zH, zJ, zK, zM, zN, Step1.ofO, lenC, callF, zP, zR, zS, zT, zV, cond_true, cond_false, decide_true, decide_false, beq_self_eq_true, Bool.false_eq_true, Bool.true_eq_false, zW, zX, zY, zZ, Bool.not_true, Bool.not_false, lenB_slice u25, goInt]; rfl) (by kernel_rfl) (by simp only [qT, qX, qY, Option.getD_some]; rfl) (fun ht => ?_) (fun ht => ?_)
    · have h0 : n = 0 := by simpa using ht
      rw [if_pos h0] at hk
      cases hk
      exact setup19.regE 0 (by kernel_rfl) (by simp only [List.map_cons, List.map_nil]; rfl) (by simp only [qB, qC, qD, qE, qF, qG, qH, qJ, qK, qM, qN, qP, iop1, qR, qS, iop, qT, qV, qW, qX, qY, qZ, zA, Option.getD_some, zB, zC,
    zD, zE, zF, zG, zH, zJ, zK, zM, zN, Step1.ofO, lenC, callF, zP, zR, zS, zT, zV, cond_true, cond_false, decide_true, decide_false, beq_self_eq_true, Bool.false_eq_true, Bool.true_eq_false, zW, zX, zY, zZ, Bool.not_true, Bool.not_false]; rfl) (.ret ⟨rfl, .inr rfl, ires_tmp rfl (by simp only [qX, qY]), .refl _⟩)
    have h0 : ¬ n = 0 := by simpa using ht
    rw [if_neg h0] at hk
    refine setup19.ifRet 0 (by kernel_rfl) (by simp only [List.map_cons, List.map_nil]; rfl) (by simp only [qB, qC, qD, qE, qF, qG, qH, qJ, qK, qM, qN, qP, iop1, qR, qS, iop, qT, qV, qW, qX, qY, qZ, zA, Option.getD_some, zB, zC,
    zD, zE, zF, zG, zH, zJ, zK, zM, zN, Step1.ofO, lenC, callF, zP, zR, zS, zT, zV, cond_true, cond_false, decide_true, decide_false, beq_self_eq_true, Bool.false_eq_true, Bool.true_eq_false, zW, zX, zY, zZ, Bool.not_true, Bool.not_false, lenB_slice u25, goInt]; rfl) (by kernel_rfl) (by simp only [qT, qX, qY, Option.getD_some]; rfl) (fun ht2 => ?_) (fun ht2 => ?_)
    · have h1 : 24 < n := by simp at ht2; omega
      rw [if_pos h1] at hk
      cases hk
      exact setup19.regE 0 (by kernel_rfl) (by simp only [List.map_cons, List.map_nil]; rfl) (by simp only [qB, qC, qD, qE, qF, qG, qH, qJ, qK, qM, qN, qP, iop1, qR, qS, iop, qT, qV, qW, qX, qY, qZ, zA, Option.getD_some, zB, zC,
    zD, zE, zF, zG, zH, zJ, zK, zM, zN, Step1.ofO, lenC, callF, zP, zR, zS, zT, zV, cond_true, cond_false, decide_true, decide_false, beq_self_eq_true, Bool.false_eq_true, Bool.true_eq_false, zW, zX, zY, zZ, Bool.not_true, Bool.not_false]; rfl) (.ret ⟨rfl, .inr rfl, ires_tmp rfl (by simp only [qX, qY]), .refl _⟩)
    have h1 : ¬ 24 < n := by simp at ht2; omega
    rw [if_neg h1] at hk
    obtain ⟨rs, hp, rfl⟩ := Option.map_eq_some_iff.1 hk
    obtain ⟨a', c', hsl, hlen, hget⟩ := picOf_inv hp
    obtain ⟨rfl, hnl, rfl⟩ : a = a' ∧ n = rs.length ∧ c = c' := by
      have := hsl; simp only [Value.slice.injEq] at this; exact this
    subst hnl
    obtain ⟨r0, hr0⟩ : ∃ r0, rs[0]? = some r0 := ⟨rs[0]'(by omega), List.getElem?_eq_getElem (by omega)⟩
    have hl0 : l0Of rs = r0.2.length := by
      cases rs with
      | nil => simp at hr0
      | cons r t => simp at hr0; subst hr0; rfl
    obtain ⟨⟨b, o, sp, rfl, hb, hload0⟩, hz0⟩ := hget 0 r0 hr0
    obtain ⟨a0, c0, hv0, _, _⟩ := intsOf_inv hz0
    have hidx0 : iindexAt Tryz.prog 25 (.slice (some ⟨b, o, sp⟩) rs.length c) (.int .i64 0) = some (.pointer (some ⟨b, o, none⟩)) :=
      index_slice (k := .i64) (b := b) (o := o) (cap := c) (sp := sp) u25 sz22 (Int.le_refl 0) (by omega)
    have hld0 := load_one ag22 hload0
    simp only [Nat.add_zero] at hld0
    rw [hv0] at hld0
    refine .seqX (R1 := fun e h => firstNZ (refRows rs) = 0 ∧ h = H ∧ ∃ x3 x4 x5 x6 x7 x8 x9 x10 x11 x12 x13 x14 x15 x16 x17 x18 x19 x20 x21 x22 x23 x24 x25 x26 x27 x28 x29 x30 x31 x32 x33 x34 x35 x36 x37 x38 x39 x40 x41 x42 x43 x44 x45 x46 x47 x48 x49 x50 x51 x52 x53 x54 x55, e = [.slice (some ⟨b, o, sp⟩) rs.length c, undef, .int .i64 0, x3, x4, x5, x6, x7, x8, x9, x10, x11, x12, x13, x14, x15, x16, x17, x18, x19, x20, x21, x22, x23, x24, x25, x26, x27, x28, x29, x30, x31, x32, x33, x34, x35, x36, x37, x38, x39, x40, x41, x42, x43, x44, x45, x46, x47, x48, x49, x50, x51, x52, x53, x54, x55])
      (Q1 := fun o => iresults Tryz.prog Tryz.f24 o.env o.H = some (.int .i64 (firstNZ (refRows rs))) ∧ Old H o.H) ?_ (fun o h1 h2 => ⟨.inr h1, h2⟩) ?_
    · refine setup19.regE 0 (by kernel_rfl) (by simp only [List.map_cons, List.map_nil]; rfl) (by simp only [qB, qC, qD, qE, qF, qG, qH, qJ, qK, qM, qN, qP, iop1, qR, qS, iop, qT, qV, qW, qX, qY, qZ, zA, Option.getD_some, zB, zC,
    zD, zE, zF, zG, zH, zJ, zK, zM, zN, Step1.ofO, lenC, callF, zP, zR, zS, zT, zV, cond_true, cond_false, decide_true, decide_false, beq_self_eq_true, Bool.false_eq_true, Bool.true_eq_false, zW, zX, zY, zZ, Bool.not_true, Bool.not_false]; rfl) ?_
      refine .forR (fun m e h => ∃ i x4 x5 x6 x7 x8 x9 x10 x11 x12 x13 x14 x15 x16 x17 x18 x19 x20 x21 x22 x23 x24 x25 x26 x27 x28 x29 x30 x31 x32 x33 x34 x35 x36 x37 x38 x39 x40 x41 x42 x43 x44 x45 x46 x47 x48 x49 x50 x51 x52 x53 x54 x55, i ≤ rs.length ∧ m = rs.length - i ∧ e = [.slice (some ⟨b, o, sp⟩) rs.length c, undef, .int .i64 0, .int .i64 (i : Nat), x4, x5, x6, x7, x8, x9, x10, x11, x12, x13, x14, x15, x16, x17, x18, x19, x20, x21, x22, x23, x24, x25, x26, x27, x28, x29, x30, x31, x32, x33, x34, x35, x36, x37, x38, x39, x40, x41, x42, x43, x44, x45, x46, x47, x48, x49, x50, x51, x52, x53, x54, x55] ∧ h = H ∧ firstNZ ((refRows rs).drop i) = firstNZ (refRows rs))
        ⟨0, _, _, _, _, _, _, _, _, _, _, _, _, _, _, _, _, _, _, _, _, _, _, _, _, _, _, _, _, _, _, _, _, _, _, _, _, _, _, _, _, _, _, _, _, _, _, _, _, _, _, _, _, Nat.zero_le _, rfl, rfl, rfl, rfl⟩ ?_
      rintro m env H2 ⟨i, x4, x5, x6, x7, x8, x9, x10, x11, x12, x13, x14, x15, x16, x17, x18, x19, x20, x21, x22, x23, x24, x25, x26, x27, x28, x29, x30, x31, x32, x33, x34, x35, x36, x37, x38, x39, x40, x41, x42, x43, x44, x45, x46, x47, x48, x49, x50, x51, x52, x53, x54, x55, hi, rfl, rfl, rfl, hf⟩
      refine setup19.head2 0 (by kernel_rfl) (by simp only [List.map_cons, List.map_nil]; rfl) (by simp only [qB, qC, qD, qE, qF, qG, qH, qJ, qK, qM, qN, qP, iop1, qR, qS, iop, qT, qV, qW, qX, qY, qZ, zA, Option.getD_some, zB, zC,
    zD, zE, zF, zG, zH, zJ, zK, zM, zN, Step1.ofO, lenC, callF, zP, zR, zS, zT, zV, cond_true, cond_false, decide_true, decide_false, beq_self_eq_true, Bool.false_eq_true, Bool.true_eq_false, zW, zX, zY, zZ, Bool.not_true, Bool.not_false, lenB_slice u25, goInt]; rfl) (by kernel_rfl) (by simp only [qT, qX, qY, Option.getD_some]; rfl) (fun ht3 => ?_) (fun ht3 => ?_)
      · have hlt : i < rs.length := by simpa using ht3
        have hr1 : rs[i]? = some rs[i] := List.getElem?_eq_getElem hlt
        generalize rs[i] = r at hr1
        have her : (refRows rs)[i]? = some (refRow (l0Of rs) r.2) := by unfold refRows; rw [List.getElem?_map, hr1]; rfl
        rw [errs_drop her, hl0] at hf
        obtain ⟨⟨b', o', sp', heq, _, hload⟩, hz⟩ := hget i r hr1
        cases heq
        obtain ⟨a1, c1, hv1, hlz, hgz⟩ := intsOf_inv hz
        have hidx := index_slice (k := .i64) (b := b) (o := o) (cap := c) (sp := sp) u25 sz22 (Int.natCast_nonneg i) (Int.ofNat_lt.2 hlt)
        simp only [Int.toNat_natCast] at hidx
        have hld := load_one ag22 hload
        rw [hv1] at hld
        generalize hzs : r.2 = zs at hf hld hlz hgz
        refine .seqX (R1 := fun e h => refRow r0.2.length zs = 0 ∧ h = H2 ∧ ∃ x4 x5 x6 x7 x8 x9 x10 x11 x12 x13 x14 x15 x16 x17 x18 x19 x20 x21 x22 x23 x24 x25 x26 x27 x28 x29 x30 x31 x32 x33 x34 x35 x36 x37 x38 x39 x40 x41 x42 x43 x44 x45 x46 x47 x48 x49 x50 x51 x52 x53 x54 x55, e = [.slice (some ⟨b, o, sp⟩) rs.length c, undef, .int .i64 0, .int .i64 (i : Nat), x4, x5, x6, x7, x8, x9, x10, x11, x12, x13, x14, x15, x16, x17, x18, x19, x20, x21, x22, x23, x24, x25, x26, x27, x28, x29, x30, x31, x32, x33, x34, x35, x36, x37, x38, x39, x40, x41, x42, x43, x44, x45, x46, x47, x48, x49, x50, x51, x52, x53, x54, x55])
          (Q1 := fun o => iresults Tryz.prog Tryz.f24 o.env o.H = some (.int .i64 (firstNZ (refRows rs))) ∧ Old H2 o.H) (.blockR ?_) (fun o h1 h2 => .inr (.inr ⟨h1, h2⟩)) ?_
        · refine setup19.ifRet 0 (by kernel_rfl) (by simp only [List.map_cons, List.map_nil]; rfl) (by simp only [qB, qC, qD, qE, qF, qG, qH, qJ, qK, qM, qN, qP, iop1, qR, qS, iop, qT, qV, qW, qX, qY, qZ, zA, Option.getD_some, zB, zC,
    zD, zE, zF, zG, zH, zJ, zK, zM, zN, Step1.ofO, lenC, callF, zP, zR, zS, zT, zV, cond_true, cond_false, decide_true, decide_false, beq_self_eq_true, Bool.false_eq_true, Bool.true_eq_false, zW, zX, zY, zZ, Bool.not_true, Bool.not_false, hidx, hld, lenB_slice u22, goInt]; rfl) (by kernel_rfl) (by simp only [qT, qX, qY, Option.getD_some]; rfl) (fun ht4 => ?_) (fun ht4 => ?_)
          · have hE : refRow r0.2.length zs = 12 := by simp only [refRow, ht4, cond_true]
            exact setup19.regE 0 (by kernel_rfl) (by simp only [List.map_cons, List.map_nil]; rfl) (by simp only [qB, qC, qD, qE, qF, qG, qH, qJ, qK, qM, qN, qP, iop1, qR, qS, iop, qT, qV, qW, qX, qY, qZ, zA, Option.getD_some, zB, zC,
    zD, zE, zF, zG, zH, zJ, zK, zM, zN, Step1.ofO, lenC, callF, zP, zR, zS, zT, zV, cond_true, cond_false, decide_true, decide_false, beq_self_eq_true, Bool.false_eq_true, Bool.true_eq_false, zW, zX, zY, zZ, Bool.not_true, Bool.not_false]; rfl) (.ret ⟨rfl, .inr ⟨rfl, ires_tmp rfl (by simp only [qX, qY]; rw [← hf, hE]; rfl), .refl _⟩⟩)
          refine setup19.ifRet 0 (by kernel_rfl) (by simp only [List.map_cons, List.map_nil]; rfl) (by simp only [qB, qC, qD, qE, qF, qG, qH, qJ, qK, qM, qN, qP, iop1, qR, qS, iop, qT, qV, qW, qX, qY, qZ, zA, Option.getD_some, zB, zC,
    zD, zE, zF, zG, zH, zJ, zK, zM, zN, Step1.ofO, lenC, callF, zP, zR, zS, zT, zV, cond_true, cond_false, decide_true, decide_false, beq_self_eq_true, Bool.false_eq_true, Bool.true_eq_false, zW, zX, zY, zZ, Bool.not_true, Bool.not_false, hidx, hld, lenB_slice u22, goInt]; rfl) (by kernel_rfl) (by simp only [qT, qX, qY, Option.getD_some]; rfl) (fun ht5 => ?_) (fun ht5 => ?_)
          · have hE : refRow r0.2.length zs = 5 := by simp only [refRow, ht4, ht5, cond_true, cond_false]
            exact setup19.regE 0 (by kernel_rfl) (by simp only [List.map_cons, List.map_nil]; rfl) (by simp only [qB, qC, qD, qE, qF, qG, qH, qJ, qK, qM, qN, qP, iop1, qR, qS, iop, qT, qV, qW, qX, qY, qZ, zA, Option.getD_some, zB, zC,
    zD, zE, zF, zG, zH, zJ, zK, zM, zN, Step1.ofO, lenC, callF, zP, zR, zS, zT, zV, cond_true, cond_false, decide_true, decide_false, beq_self_eq_true, Bool.false_eq_true, Bool.true_eq_false, zW, zX, zY, zZ, Bool.not_true, Bool.not_false]; rfl) (.ret ⟨rfl, .inr ⟨rfl, ires_tmp rfl (by simp only [qX, qY]; rw [← hf, hE]; rfl), .refl _⟩⟩)
          refine setup19.drawIf pure19 10 (lo := []) (by kernel_rfl) (by kernel_rfl) (by kernel_rfl) (by kernel_rfl) (by kernel_rfl) (by kernel_rfl) (by kernel_rfl) (by simp only [List.map_cons, List.map_nil]; rfl)
            (by simp only [qB, qC, qD, qE, qF, qG, qH, qJ, qK, qM, qN, qP, iop1, qR, qS, iop, qT, qV, qW, qX, qY, qZ, zA, Option.getD_some, zB, zC,
    zD, zE, zF, zG, zH, zJ, zK, zM, zN, Step1.ofO, lenC, callF, zP, zR, zS, zT, zV, cond_true, cond_false, decide_true, decide_false, beq_self_eq_true, Bool.false_eq_true, Bool.true_eq_false, zW, zX, zY, zZ, Bool.not_true, Bool.not_false, hidx, hld, hidx0, hld0, lenB_slice u22, goInt]; rfl) (by kernel_rfl) (by kernel_rfl) (by simp only [qT, qX, qY, Option.getD_some]; rfl) (fun ht6 => ?_) (fun ht6 => ?_)
          · have hE : refRow r0.2.length zs = 2 := by simp only [refRow, ht4, ht5, ht6, cond_true, cond_false]
            exact setup19.regE 0 (by kernel_rfl) (by simp only [List.map_cons, List.map_nil]; rfl) (by simp only [qB, qC, qD, qE, qF, qG, qH, qJ, qK, qM, qN, qP, iop1, qR, qS, iop, qT, qV, qW, qX, qY, qZ, zA, Option.getD_some, zB, zC,
    zD, zE, zF, zG, zH, zJ, zK, zM, zN, Step1.ofO, lenC, callF, zP, zR, zS, zT, zV, cond_true, cond_false, decide_true, decide_false, beq_self_eq_true, Bool.false_eq_true, Bool.true_eq_false, zW, zX, zY, zZ, Bool.not_true, Bool.not_false]; rfl) (.ret ⟨rfl, .inr ⟨rfl, ires_tmp rfl (by simp only [qX, qY]; rw [← hf, hE]; rfl), .refl _⟩⟩)
          have hE : refRow r0.2.length zs = cond (zs.any refColour) 3 0 := by simp only [refRow, ht4, ht5, ht6, cond_false]
          refine setup19.regE 0 (by kernel_rfl) (by simp only [List.map_cons, List.map_nil]; rfl) (by simp only [qB, qC, qD, qE, qF, qG, qH, qJ, qK, qM, qN, qP, iop1, qR, qS, iop, qT, qV, qW, qX, qY, qZ, zA, Option.getD_some, zB, zC,
    zD, zE, zF, zG, zH, zJ, zK, zM, zN, Step1.ofO, lenC, callF, zP, zR, zS, zT, zV, cond_true, cond_false, decide_true, decide_false, beq_self_eq_true, Bool.false_eq_true, Bool.true_eq_false, zW, zX, zY, zZ, Bool.not_true, Bool.not_false]; rfl) ?_
          refine Holds.mono (Q := NR (fun e h => zs.any refColour = false ∧ h = H2 ∧ ∃ x4 x5 x6 x7 x8 x9 x10 x11 x12 x13 x14 x15 x16 x17 x18 x19 x20 x21 x22 x23 x24 x25 x26 x27 x28 x29 x30 x31 x32 x33 x34 x35 x36 x37 x38 x39 x40 x41 x42 x43 x44 x45 x46 x47 x48 x49 x50 x51 x52 x53 x54 x55, e = [.slice (some ⟨b, o, sp⟩) rs.length c, undef, .int .i64 0, .int .i64 (i : Nat), x4, x5, x6, x7, x8, x9, x10, x11, x12, x13, x14, x15, x16, x17, x18, x19, x20, x21, x22, x23, x24, x25, x26, x27, x28, x29, x30, x31, x32, x33, x34, x35, x36, x37, x38, x39, x40, x41, x42, x43, x44, x45, x46, x47, x48, x49, x50, x51, x52, x53, x54, x55])
            (fun o => iresults Tryz.prog Tryz.f24 o.env o.H = some (.int .i64 (firstNZ (refRows rs))) ∧ Old H2 o.H)) ?_ (fun o ho => ?_)
          · refine .forR (fun m e h => ∃ j x5 x6 x7 x8 x9 x10 x11 x12 x13 x14 x15 x16 x17 x18 x19 x20 x21 x22 x23 x24 x25 x26 x27 x28 x29 x30 x31 x32 x33 x34 x35 x36 x37 x38 x39 x40 x41 x42 x43 x44 x45 x46 x47 x48 x49 x50 x51 x52 x53 x54 x55, j ≤ zs.length ∧ m = zs.length - j ∧ e = [.slice (some ⟨b, o, sp⟩) rs.length c, undef, .int .i64 0, .int .i64 (i : Nat), .int .i64 (j : Nat), x5, x6, x7, x8, x9, x10, x11, x12, x13, x14, x15, x16, x17, x18, x19, x20, x21, x22, x23, x24, x25, x26, x27, x28, x29, x30, x31, x32, x33, x34, x35, x36, x37, x38, x39, x40, x41, x42, x43, x44, x45, x46, x47, x48, x49, x50, x51, x52, x53, x54, x55] ∧ h = H2 ∧ (zs.drop j).any refColour = zs.any refColour)
              ⟨0, _, _, _, _, _, _, _, _, _, _, _, _, _, _, _, _, _, _, _, _, _, _, _, _, _, _, _, _, _, _, _, _, _, _, _, _, _, _, _, _, _, _, _, _, _, _, _, _, _, _, _, Nat.zero_le _, rfl, rfl, rfl, rfl⟩ ?_
            rintro m2 env2 H3 ⟨j, x5, x6, x7, x8, x9, x10, x11, x12, x13, x14, x15, x16, x17, x18, x19, x20, x21, x22, x23, x24, x25, x26, x27, x28, x29, x30, x31, x32, x33, x34, x35, x36, x37, x38, x39, x40, x41, x42, x43, x44, x45, x46, x47, x48, x49, x50, x51, x52, x53, x54, x55, hj, rfl, rfl, rfl, hg⟩
            refine setup19.head2 0 (by kernel_rfl) (by simp only [List.map_cons, List.map_nil]; rfl) (by simp only [qB, qC, qD, qE, qF, qG, qH, qJ, qK, qM, qN, qP, iop1, qR, qS, iop, qT, qV, qW, qX, qY, qZ, zA, Option.getD_some, zB, zC,
    zD, zE, zF, zG, zH, zJ, zK, zM, zN, Step1.ofO, lenC, callF, zP, zR, zS, zT, zV, cond_true, cond_false, decide_true, decide_false, beq_self_eq_true, Bool.false_eq_true, Bool.true_eq_false, zW, zX, zY, zZ, Bool.not_true, Bool.not_false, hidx, hld, lenB_slice u22, goInt]; rfl) (by kernel_rfl) (by simp only [qT, qX, qY, Option.getD_some]; rfl) (fun ht7 => ?_) (fun ht7 => ?_)
            · have hjl : j < zs.length := by simpa using ht7
              have hz1 : zs[j]? = some zs[j] := List.getElem?_eq_getElem hjl
              generalize zs[j] = z at hz1
              rw [any_drop hz1] at hg
              obtain ⟨b1, o1, sp1, rfl, hload1⟩ := hgz j z hz1
              have hidx1 := index_slice (k := .i64) (b := b1) (o := o1) (cap := c1) (sp := sp1) u22 sz3 (Int.natCast_nonneg j) (Int.ofNat_lt.2 hjl)
              simp only [Int.toNat_natCast] at hidx1
              have hld1 := load_one ag3 hload1
              refine .seqX (R1 := fun e h => refColour z = false ∧ h = H3 ∧ ∃ x5 x6 x7 x8 x9 x10 x11 x12 x13 x14 x15 x16 x17 x18 x19 x20 x21 x22 x23 x24 x25 x26 x27 x28 x29 x30 x31 x32 x33 x34 x35 x36 x37 x38 x39 x40 x41 x42 x43 x44 x45 x46 x47 x48 x49 x50 x51 x52 x53 x54 x55, e = [.slice (some ⟨b, o, sp⟩) rs.length c, undef, .int .i64 0, .int .i64 (i : Nat), .int .i64 (j : Nat), x5, x6, x7, x8, x9, x10, x11, x12, x13, x14, x15, x16, x17, x18, x19, x20, x21, x22, x23, x24, x25, x26, x27, x28, x29, x30, x31, x32, x33, x34, x35, x36, x37, x38, x39, x40, x41, x42, x43, x44, x45, x46, x47, x48, x49, x50, x51, x52, x53, x54, x55])
                (Q1 := fun o => iresults Tryz.prog Tryz.f24 o.env o.H = some (.int .i64 (firstNZ (refRows rs))) ∧ Old H3 o.H) (.blockR ?_) (fun o h1 h2 => .inr (.inr ⟨h1, h2⟩)) ?_
              · refine setup19.ifEnd 0 (by kernel_rfl) (by simp only [List.map_cons, List.map_nil]; rfl) (by simp only [qB, qC, qD, qE, qF, qG, qH, qJ, qK, qM, qN, qP, iop1, qR, qS, iop, qT, qV, qW, qX, qY, qZ, zA, Option.getD_some, zB, zC,
    zD, zE, zF, zG, zH, zJ, zK, zM, zN, Step1.ofO, lenC, callF, zP, zR, zS, zT, zV, cond_true, cond_false, decide_true, decide_false, beq_self_eq_true, Bool.false_eq_true, Bool.true_eq_false, zW, zX, zY, zZ, Bool.not_true, Bool.not_false, hidx, hld, hidx1, hld1, e38, enter_k s38, ofK, k38]; rfl) (by kernel_rfl) (by simp only [qT, qX, qY, Option.getD_some]; rfl) (fun ht8 => ?_) (fun ht8 => ?_)
                · refine setup19.regE 0 (by kernel_rfl) (by simp only [List.map_cons, List.map_nil]; rfl) (by simp only [qB, qC, qD, qE, qF, qG, qH, qJ, qK, qM, qN, qP, iop1, qR, qS, iop, qT, qV, qW, qX, qY, qZ, zA, Option.getD_some, zB, zC,
    zD, zE, zF, zG, zH, zJ, zK, zM, zN, Step1.ofO, lenC, callF, zP, zR, zS, zT, zV, cond_true, cond_false, decide_true, decide_false, beq_self_eq_true, Bool.false_eq_true, Bool.true_eq_false, zW, zX, zY, zZ, Bool.not_true, Bool.not_false]; rfl) (.ret (.inr ⟨rfl, ires_tmp rfl ?_, .refl _⟩))
                  have : refColour z = true := ht8
                  simp only [qX, qY]
                  rw [← hf, hE, ← hg, this]; rfl
                · exact .inl ⟨rfl, ht8, rfl, _, _, _, _, _, _, _, _, _, _, _, _, _, _, _, _, _, _, _, _, _, _, _, _, _, _, _, _, _, _, _, _, _, _, _, _, _, _, _, _, _, _, _, _, _, _, _, _, _, _, _, rfl⟩
              · rintro e h ⟨hpz, rfl, x5, x6, x7, x8, x9, x10, x11, x12, x13, x14, x15, x16, x17, x18, x19, x20, x21, x22, x23, x24, x25, x26, x27, x28, x29, x30, x31, x32, x33, x34, x35, x36, x37, x38, x39, x40, x41, x42, x43, x44, x45, x46, x47, x48, x49, x50, x51, x52, x53, x54, x55, rfl⟩
                refine setup19.regZ 0 (by kernel_rfl) (by simp only [List.map_cons, List.map_nil]; rfl) (by simp only [qB, qC, qD, qE, qF, qG, qH, qJ, qK, qM, qN, qP, iop1, qR, qS, iop, qT, qV, qW, qX, qY, qZ, zA, Option.getD_some, zB, zC,
    zD, zE, zF, zG, zH, zJ, zK, zM, zN, Step1.ofO, lenC, callF, zP, zR, zS, zT, zV, cond_true, cond_false, decide_true, decide_false, beq_self_eq_true, Bool.false_eq_true, Bool.true_eq_false, zW, zX, zY, zZ, Bool.not_true, Bool.not_false, wrap_succ hjl hlz]; rfl) (.inl ⟨rfl, zs.length - (j + 1), by omega, j + 1, _, _, _, _, _, _, _, _, _, _, _, _, _, _, _, _, _, _, _, _, _, _, _, _, _, _, _, _, _, _, _, _, _, _, _, _, _, _, _, _, _, _, _, _, _, _, _, _, _, _, _, by omega, rfl, rfl, rfl, ?_⟩)
                rw [← hg, hpz]; rfl
            · have hge : j = zs.length := by simp at ht7; omega
              refine .inr (.inl ⟨rfl, ?_, rfl, _, _, _, _, _, _, _, _, _, _, _, _, _, _, _, _, _, _, _, _, _, _, _, _, _, _, _, _, _, _, _, _, _, _, _, _, _, _, _, _, _, _, _, _, _, _, _, _, _, _, _, _, rfl⟩)
              rw [← hg, hge]; simp
          · rcases ho with ⟨h1, h2, h3, h4⟩ | ho
            · exact .inl ⟨h1, by rw [hE, h2]; rfl, h3, h4⟩
            · exact .inr ho
        · rintro e h ⟨hpz, rfl, x4, x5, x6, x7, x8, x9, x10, x11, x12, x13, x14, x15, x16, x17, x18, x19, x20, x21, x22, x23, x24, x25, x26, x27, x28, x29, x30, x31, x32, x33, x34, x35, x36, x37, x38, x39, x40, x41, x42, x43, x44, x45, x46, x47, x48, x49, x50, x51, x52, x53, x54, x55, rfl⟩
          refine setup19.regZ 0 (by kernel_rfl) (by simp only [List.map_cons, List.map_nil]; rfl) (by simp only [qB, qC, qD, qE, qF, qG, qH, qJ, qK, qM, qN, qP, iop1, qR, qS, iop, qT, qV, qW, qX, qY, qZ, zA, Option.getD_some, zB, zC,
    zD, zE, zF, zG, zH, zJ, zK, zM, zN, Step1.ofO, lenC, callF, zP, zR, zS, zT, zV, cond_true, cond_false, decide_true, decide_false, beq_self_eq_true, Bool.false_eq_true, Bool.true_eq_false, zW, zX, zY, zZ, Bool.not_true, Bool.not_false, wrap_succ hlt hlen]; rfl) (.inl ⟨rfl, rs.length - (i + 1), by omega, i + 1, _, _, _, _, _, _, _, _, _, _, _, _, _, _, _, _, _, _, _, _, _, _, _, _, _, _, _, _, _, _, _, _, _, _, _, _, _, _, _, _, _, _, _, _, _, _, _, _, _, _, _, _, by omega, rfl, rfl, rfl, ?_⟩)
          rw [← hf, hpz]; rfl
      · have hge : i = rs.length := by simp at ht3; omega
        refine .inr (.inl ⟨rfl, ?_, rfl, _, _, _, _, _, _, _, _, _, _, _, _, _, _, _, _, _, _, _, _, _, _, _, _, _, _, _, _, _, _, _, _, _, _, _, _, _, _, _, _, _, _, _, _, _, _, _, _, _, _, _, _, _, rfl⟩)
        rw [← hf, hge]
        have : (refRows rs).length = rs.length := by simp [refRows]
        rw [← this, List.drop_length]; rfl
    · rintro e h ⟨hf, rfl, x3, x4, x5, x6, x7, x8, x9, x10, x11, x12, x13, x14, x15, x16, x17, x18, x19, x20, x21, x22, x23, x24, x25, x26, x27, x28, x29, x30, x31, x32, x33, x34, x35, x36, x37, x38, x39, x40, x41, x42, x43, x44, x45, x46, x47, x48, x49, x50, x51, x52, x53, x54, x55, rfl⟩
      exact setup19.regE 0 (by kernel_rfl) (by simp only [List.map_cons, List.map_nil]; rfl) (by simp only [qB, qC, qD, qE, qF, qG, qH, qJ, qK, qM, qN, qP, iop1, qR, qS, iop, qT, qV, qW, qX, qY, qZ, zA, Option.getD_some, zB, zC,
    zD, zE, zF, zG, zH, zJ, zK, zM, zN, Step1.ofO, lenC, callF, zP, zR, zS, zT, zV, cond_true, cond_false, decide_true, decide_false, beq_self_eq_true, Bool.false_eq_true, Bool.true_eq_false, zW, zX, zY, zZ, Bool.not_true, Bool.not_false]; rfl) (.ret ⟨.inr rfl, ires_tmp rfl (by simp only [qX, qY, hf]), .refl _⟩)
  · cases hk
theorem e24 : enters Tryz.prog 24 = true := by kernel_rfl
end Go.Proofs.YtpdlblofcdcikaaGreatDoor
