/- Contract of CheckPicture. Conditions: none. -/
import Derived.Test.YtpdlblofcdcikaaGreatDoorF4
set_option linter.unusedSimpArgs false
set_option linter.unusedVariables false
namespace Go.Proofs.YtpdlblofcdcikaaGreatDoor
open Go.Idl

theorem build2 (a b : Int) (H : IH) : ibuildSlice Tryz.prog 172 2 [(0, .int .i64 a), (1, .int .i64 b)] H =
    some (.val (.slice (some ⟨H.size, 0, none⟩) 2 2) (H.push (.cells #[.int .i64 a, .int .i64 b] 29))) := by kernel_rfl
theorem new2 (a b : Int) (H : IH) : intsOf (H.push (.cells #[.int .i64 a, .int .i64 b] 29)) (.slice (some ⟨H.size, 0, none⟩) 2 2) = some [a, b] := intsOf_new [a, b] 2 (by simp)

/-! 23: CheckPicture -/
def rowErr (l0 : Nat) (zs : List Int) : Int := firstNZ [cond ((zs.length : Int) == 0) 12 0, cond (decide (24 < (zs.length : Int))) 5 0, cond ((zs.length : Int) != (l0 : Int)) 2 0, cond (zs.any badColour) 3 0]
def l0Of (rs : List (Value × List Int)) : Nat := match rs with
  | [] => 0
  | r :: _ => r.2.length
def rowErrs (rs : List (Value × List Int)) : List Int := rs.map fun r => rowErr (l0Of rs) r.2
noncomputable def k23 (args : List Value) (H : IH) : Option Value := match args with
  | [.slice a n c] => if n = 0 then some (.int .i64 12) else if 24 < n then some (.int .i64 5) else (picOf H (.slice a n c)).map fun rs => .int .i64 (firstNZ (rowErrs rs))
  | _ => none
noncomputable def nat19 : Nats := addNat nat18 23 k23
theorem r89 : nat18 89 = some (ofK k89) := rfl
theorem r87 : nat18 87 = some (ofK k87) := rfl
theorem r90 : nat18 90 = some (ofK k90) := rfl
theorem pure18 : NatPure nat18 := by
  unfold nat18 nat17 nat16 nat15 nat14 nat13 nat12 nat11 nat10 nat9 nat8 nat7 nat6 nat5 nat4 nat3 nat2 nat1
  repeat (first | exact noNat_pure | apply addNat_pure)
theorem errs_drop {l : List Int} {i : Nat} {z : Int} (h : l[i]? = some z) : firstNZ (l.drop i) = cond (z != 0) z (firstNZ (l.drop (i + 1))) := firstNZ_drop h
set_option maxRecDepth 10000 in
theorem setup19 : Setup Tryz.prog good nat19 (globG 3) := by
  refine plainN setup18 k23 Tryz.func23 rfl rfl fun args H v hk => ?_
  unfold k23 at hk
  split at hk
  · rename_i a n c
    have hv : plainV v = true := by
      split at hk
      · cases hk; rfl
      · split at hk
        · cases hk; rfl
        · obtain ⟨rs, _, rfl⟩ := Option.map_eq_some_iff.1 hk; rfl
    refine ⟨hv, ?_⟩
    show Holds _ _ false _ [.slice a n c, undef, undef, undef, undef, undef, undef, undef, undef, undef, undef, undef, undef, undef, undef, undef, undef, undef, undef, undef, undef, undef, undef, undef, undef, undef, undef, undef, undef, undef, undef, undef, undef, undef, undef, undef, undef, undef, undef, undef, undef, undef, undef, undef, undef, undef, undef, undef, undef, undef, undef] H _
    refine setup18.regE 0 (by kernel_rfl) (by simp only [List.map_cons, List.map_nil]; rfl) (by simp only [qB, qC, qD, qE, qF, qG, qH, qJ, qK, qM, qN, qP, iop1, qR, qS, iop, qT, qV, qW, qX, qY, qZ, zA, Option.getD_some, zB, zC,
    zD, zE, zF, zG, zH, zJ, zK, zM, zN, Step1.ofO, lenC, callF, zP, zR, zS, zT, zV, cond_true, cond_false, decide_true, decide_false, beq_self_eq_true, Bool.false_eq_true, Bool.true_eq_false, zW, zX, zY, zZ, Bool.not_true, Bool.not_false]; rfl) ?_
    -- the error of the whole list
    have he0 : firstNZ [cond ((n : Int) == 0) 12 0, cond (decide (24 < (n : Int))) 5 0] = if n = 0 then 12 else if 24 < n then 5 else 0 := by
      by_cases h1 : n = 0
      · subst h1; rfl
      · have h1' : ((n : Int) == 0) = false := by simpa using h1
        by_cases h2 : 24 < n
        · have h2' : decide (24 < (n : Int)) = true := by simpa using (by omega : (24 : Int) < n)
          simp [firstNZ, h1', h2', h1, h2]
        · have h2' : decide (24 < (n : Int)) = false := by simpa using (by omega : (n : Int) ≤ 24)
          simp [firstNZ, h1', h2', h1, h2]
    generalize hE : firstNZ [cond ((n : Int) == 0) 12 0, cond (decide (24 < (n : Int))) 5 0] = E at he0
    refine .seqX (R1 := fun e h => E = 0 ∧ Old H h ∧ ∃ x3 x4 x5 x6 x7 x8 x9 x10 x11 x12 x13 x14 x15 x16 x17 x18 x19 x20 x21 x22 x23 x24 x25 x26 x27 x28 x29 x30 x31 x32 x33 x34 x35 x36 x37 x38 x39 x40 x41 x42 x43 x44 x45 x46 x47 x48 x49 x50, e = [.slice a n c, undef, .int .i64 0, x3, x4, x5, x6, x7, x8, x9, x10, x11, x12, x13, x14, x15, x16, x17, x18, x19, x20, x21, x22, x23, x24, x25, x26, x27, x28, x29, x30, x31, x32, x33, x34, x35, x36, x37, x38, x39, x40, x41, x42, x43, x44, x45, x46, x47, x48, x49, x50])
      (Q1 := fun o => iresults Tryz.prog Tryz.f23 o.env o.H = some v ∧ Old H o.H) ?_ (fun o h1 h2 => ⟨.inr h1, h2⟩) ?_
    · refine setup18.regE 0 (by kernel_rfl) (by simp only [List.map_cons, List.map_nil]; rfl) (by simp only [qB, qC, qD, qE, qF, qG, qH, qJ, qK, qM, qN, qP, iop1, qR, qS, iop, qT, qV, qW, qX, qY, qZ, zA, Option.getD_some, zB, zC,
    zD, zE, zF, zG, zH, zJ, zK, zM, zN, Step1.ofO, lenC, callF, zP, zR, zS, zT, zV, cond_true, cond_false, decide_true, decide_false, beq_self_eq_true, Bool.false_eq_true, Bool.true_eq_false, zW, zX, zY, zZ, Bool.not_true, Bool.not_false, lenB_slice u25, goInt, e89, enter_k r89, ofK, k89, List.map_cons, List.map_nil, build2, e87, enter_k r87, k87, new2, Option.map_some, hE]; rfl) ?_
      refine setup18.ifEnd 0 (by kernel_rfl) (by simp only [List.map_cons, List.map_nil]; rfl) (by simp only [qB, qC, qD, qE, qF, qG, qH, qJ, qK, qM, qN, qP, iop1, qR, qS, iop, qT, qV, qW, qX, qY, qZ, zA, Option.getD_some, zB, zC,
    zD, zE, zF, zG, zH, zJ, zK, zM, zN, Step1.ofO, lenC, callF, zP, zR, zS, zT, zV, cond_true, cond_false, decide_true, decide_false, beq_self_eq_true, Bool.false_eq_true, Bool.true_eq_false, zW, zX, zY, zZ, Bool.not_true, Bool.not_false]; rfl) (by kernel_rfl) (by simp only [qT, qX, qY, Option.getD_some]; rfl) (fun ht => ?_) (fun ht => ?_)
      · refine setup18.regE 0 (by kernel_rfl) (by simp only [List.map_cons, List.map_nil]; rfl) (by simp only [qB, qC, qD, qE, qF, qG, qH, qJ, qK, qM, qN, qP, iop1, qR, qS, iop, qT, qV, qW, qX, qY, qZ, zA, Option.getD_some, zB, zC,
    zD, zE, zF, zG, zH, zJ, zK, zM, zN, Step1.ofO, lenC, callF, zP, zR, zS, zT, zV, cond_true, cond_false, decide_true, decide_false, beq_self_eq_true, Bool.false_eq_true, Bool.true_eq_false, zW, zX, zY, zZ, Bool.not_true, Bool.not_false]; rfl) (.ret (.inr ⟨rfl, ires_tmp rfl ?_, .push _ _⟩))
        simp only [qX, qY]
        have hne : E ≠ 0 := by simpa using ht
        rw [he0] at hne ⊢
        split at hk
        · rename_i h1; cases hk; simp [h1]
        · rename_i h1
          split at hk
          · rename_i h2; cases hk; simp [h1, h2]
          · rename_i h2; simp [h1, h2] at hne
      · exact .inl ⟨rfl, by simpa using ht, .push _ _, _, _, _, _, _, _, _, _, _, _, _, _, _, _, _, _, _, _, _, _, _, _, _, _, _, _, _, _, _, _, _, _, _, _, _, _, _, _, _, _, _, _, _, _, _, _, _, _, rfl⟩
    · rintro env1 H1 ⟨hE0, hold, x3, x4, x5, x6, x7, x8, x9, x10, x11, x12, x13, x14, x15, x16, x17, x18, x19, x20, x21, x22, x23, x24, x25, x26, x27, x28, x29, x30, x31, x32, x33, x34, x35, x36, x37, x38, x39, x40, x41, x42, x43, x44, x45, x46, x47, x48, x49, x50, rfl⟩
      have hn : ¬ n = 0 ∧ ¬ 24 < n := by
        rw [hE0] at he0
        constructor
        · intro h; rw [if_pos h] at he0; cases he0
        · intro h; rw [if_neg (by omega), if_pos h] at he0; cases he0
      rw [if_neg hn.1, if_neg hn.2] at hk
      obtain ⟨rs, hp, rfl⟩ := Option.map_eq_some_iff.1 hk
      obtain ⟨a', c', hsl, hlen, hget⟩ := picOf_inv hp
      obtain ⟨rfl, hnl, rfl⟩ : a = a' ∧ n = rs.length ∧ c = c' := by
        have := hsl; simp only [Value.slice.injEq] at this; exact this
      subst hnl
      obtain ⟨r0, hr0⟩ : ∃ r0, rs[0]? = some r0 := ⟨rs[0]'(by omega), List.getElem?_eq_getElem (by omega)⟩
      have hl0 : l0Of rs = r0.2.length := by
        cases rs with
        | nil => simp at hr0
        | cons r t => simp at hr0; subst hr0; rfl
      obtain ⟨⟨b, o, sp, rfl, hb, hload0⟩, hz0⟩ := hget 0 r0 hr0
      obtain ⟨a0, c0, hv0, _, _⟩ := intsOf_inv hz0
      have hidx0 : iindexAt Tryz.prog 25 (.slice (some ⟨b, o, sp⟩) rs.length c) (.int .i64 0) = some (.pointer (some ⟨b, o, none⟩)) :=
        index_slice (k := .i64) (b := b) (o := o) (cap := c) (sp := sp) u25 sz22 (Int.le_refl 0) (by omega)
      refine .seqX (R1 := fun e h => firstNZ (rowErrs rs) = 0 ∧ Old H h ∧ ∃ x3 x4 x5 x6 x7 x8 x9 x10 x11 x12 x13 x14 x15 x16 x17 x18 x19 x20 x21 x22 x23 x24 x25 x26 x27 x28 x29 x30 x31 x32 x33 x34 x35 x36 x37 x38 x39 x40 x41 x42 x43 x44 x45 x46 x47 x48 x49 x50, e = [.slice (some ⟨b, o, sp⟩) rs.length c, undef, .int .i64 0, x3, x4, x5, x6, x7, x8, x9, x10, x11, x12, x13, x14, x15, x16, x17, x18, x19, x20, x21, x22, x23, x24, x25, x26, x27, x28, x29, x30, x31, x32, x33, x34, x35, x36, x37, x38, x39, x40, x41, x42, x43, x44, x45, x46, x47, x48, x49, x50])
        (Q1 := fun o => iresults Tryz.prog Tryz.f23 o.env o.H = some (.int .i64 (firstNZ (rowErrs rs))) ∧ Old H o.H) ?_ (fun o h1 h2 => ⟨.inr h1, h2⟩) ?_
      · refine setup18.regE 0 (by kernel_rfl) (by simp only [List.map_cons, List.map_nil]; rfl) (by simp only [qB, qC, qD, qE, qF, qG, qH, qJ, qK, qM, qN, qP, iop1, qR, qS, iop, qT, qV, qW, qX, qY, qZ, zA, Option.getD_some, zB, zC,
    zD, zE, zF, zG, zH, zJ, zK, zM, zN, Step1.ofO, lenC, callF, zP, zR, zS, zT, zV, cond_true, cond_false, decide_true, decide_false, beq_self_eq_true, Bool.false_eq_true, Bool.true_eq_false, zW, zX, zY, zZ, Bool.not_true, Bool.not_false, lenB_slice u25, goInt]; rfl) ?_
        refine .forR (fun m e h => ∃ i x3 x4 x5 x6 x7 x8 x9 x10 x11 x12 x13 x14 x15 x16 x17 x18 x19 x23 x24 x25 x26 x27 x28 x29 x30 x31 x32 x33 x34 x35 x36 x37 x38 x39 x40 x41 x42 x43 x44 x45 x46 x47 x48 x49 x50, i ≤ rs.length ∧ m = rs.length - i ∧ e = [.slice (some ⟨b, o, sp⟩) rs.length c, undef, .int .i64 0, x3, x4, x5, x6, x7, x8, x9, x10, x11, x12, x13, x14, x15, x16, x17, x18, x19, .slice (some ⟨b, o, sp⟩) rs.length c, .int .i64 rs.length, .int .i64 (i : Nat), x23, x24, x25, x26, x27, x28, x29, x30, x31, x32, x33, x34, x35, x36, x37, x38, x39, x40, x41, x42, x43, x44, x45, x46, x47, x48, x49, x50] ∧ Old H h ∧ firstNZ ((rowErrs rs).drop i) = firstNZ (rowErrs rs))
          ⟨0, _, _, _, _, _, _, _, _, _, _, _, _, _, _, _, _, _, _, _, _, _, _, _, _, _, _, _, _, _, _, _, _, _, _, _, _, _, _, _, _, _, _, _, _, _, Nat.zero_le _, rfl, rfl, hold, rfl⟩ ?_
        rintro m env H2 ⟨i, x3, x4, x5, x6, x7, x8, x9, x10, x11, x12, x13, x14, x15, x16, x17, x18, x19, x23, x24, x25, x26, x27, x28, x29, x30, x31, x32, x33, x34, x35, x36, x37, x38, x39, x40, x41, x42, x43, x44, x45, x46, x47, x48, x49, x50, hi, rfl, rfl, hold2, hf⟩
        refine setup18.head1 0 (by kernel_rfl) (by simp only [List.map_cons, List.map_nil]; rfl) (by simp only [qB, qC, qD, qE, qF, qG, qH, qJ, qK, qM, qN, qP, iop1, qR, qS, iop, qT, qV, qW, qX, qY, qZ, zA, Option.getD_some, zB, zC,
    zD, zE, zF, zG, zH, zJ, zK, zM, zN, Step1.ofO, lenC, callF, zP, zR, zS, zT, zV, cond_true, cond_false, decide_true, decide_false, beq_self_eq_true, Bool.false_eq_true, Bool.true_eq_false, zW, zX, zY, zZ, Bool.not_true, Bool.not_false]; rfl) (by kernel_rfl) (by simp only [qT, qX, qY, Option.getD_some]; rfl) (fun ht => ?_) (fun ht => ?_)
        · have hlt : i < rs.length := by simpa using ht
          have hr1 : rs[i]? = some rs[i] := List.getElem?_eq_getElem hlt
          generalize rs[i] = r at hr1
          have her : (rowErrs rs)[i]? = some (rowErr (l0Of rs) r.2) := by unfold rowErrs; rw [List.getElem?_map, hr1]; rfl
          rw [errs_drop her, hl0] at hf
          obtain ⟨⟨b', o', sp', heq, _, hload⟩, hz⟩ := hget i r hr1
          cases heq
          obtain ⟨a1, c1, hv1, _, _⟩ := intsOf_inv hz
          have hidx := index_slice (k := .i64) (b := b) (o := o) (cap := c) (sp := sp) u25 sz22 (Int.natCast_nonneg i) (Int.ofNat_lt.2 hlt)
          simp only [Int.toNat_natCast] at hidx
          have hld := load_one ag22 (load_old hold2 hb hload)
          have hld0 := load_one ag22 (load_old hold2 hb hload0)
          simp only [Nat.add_zero] at hld0
          have hz' := intsOf_old hold2 hz
          rw [hv1] at hld hz'
          rw [hv0] at hld0
          generalize hEr : rowErr r0.2.length r.2 = E2 at hf
          have hEr' : firstNZ [cond ((r.2.length : Int) == 0) 12 0, cond (decide (24 < (r.2.length : Int))) 5 0, cond ((r.2.length : Int) != (r0.2.length : Int)) 2 0, cond (r.2.any badColour) 3 0] = E2 := hEr
          refine .seqX (R1 := fun e h => E2 = 0 ∧ Old H h ∧ ∃ x3 x4 x5 x6 x7 x8 x9 x10 x11 x12 x13 x14 x15 x16 x17 x18 x19 x23 x24 x25 x26 x27 x28 x29 x30 x31 x32 x33 x34 x35 x36 x37 x38 x39 x40 x41 x42 x43 x44 x45 x46 x47 x48 x49 x50, e = [.slice (some ⟨b, o, sp⟩) rs.length c, undef, .int .i64 0, x3, x4, x5, x6, x7, x8, x9, x10, x11, x12, x13, x14, x15, x16, x17, x18, x19, .slice (some ⟨b, o, sp⟩) rs.length c, .int .i64 rs.length, .int .i64 (i : Nat), x23, x24, x25, x26, x27, x28, x29, x30, x31, x32, x33, x34, x35, x36, x37, x38, x39, x40, x41, x42, x43, x44, x45, x46, x47, x48, x49, x50]) (.blockR ?_) (fun o h1 h2 => .inr (.inr ⟨h1, h2⟩)) ?_
          · refine setup18.regE 0 (by kernel_rfl) (by simp only [List.map_cons, List.map_nil]; rfl) (by simp only [qB, qC, qD, qE, qF, qG, qH, qJ, qK, qM, qN, qP, iop1, qR, qS, iop, qT, qV, qW, qX, qY, qZ, zA, Option.getD_some, zB, zC,
    zD, zE, zF, zG, zH, zJ, zK, zM, zN, Step1.ofO, lenC, callF, zP, zR, zS, zT, zV, cond_true, cond_false, decide_true, decide_false, beq_self_eq_true, Bool.false_eq_true, Bool.true_eq_false, zW, zX, zY, zZ, Bool.not_true, Bool.not_false, hidx, hld]; rfl) ?_
            refine setup18.drawE pure18 19 (lo := [(5, 0, 1), (9, 0, 2), (12, 0, 2), (13, 0, 2)]) (by kernel_rfl) (by kernel_rfl) (by kernel_rfl) (by kernel_rfl) (by kernel_rfl) (by kernel_rfl) (by kernel_rfl) (by simp only [List.map_cons, List.map_nil]; rfl)
              (by simp only [qB, qC, qD, qE, qF, qG, qH, qJ, qK, qM, qN, qP, iop1, qR, qS, iop, qT, qV, qW, qX, qY, qZ, zA, Option.getD_some, zB, zC,
    zD, zE, zF, zG, zH, zJ, zK, zM, zN, Step1.ofO, lenC, callF, zP, zR, zS, zT, zV, cond_true, cond_false, decide_true, decide_false, beq_self_eq_true, Bool.false_eq_true, Bool.true_eq_false, zW, zX, zY, zZ, Bool.not_true, Bool.not_false, lenB_slice u22, goInt, e89, enter_k r89, ofK, k89, hidx0, hld0, e90, enter_k r90, k90, hz', List.map_cons, List.map_nil, build4, e87, enter_k r87, k87, new4, Option.map_some, hEr']; rfl) (by kernel_rfl) ?_
            refine setup18.ifEnd 0 (by kernel_rfl) (by simp only [List.map_cons, List.map_nil]; rfl) (by simp only [qB, qC, qD, qE, qF, qG, qH, qJ, qK, qM, qN, qP, iop1, qR, qS, iop, qT, qV, qW, qX, qY, qZ, zA, Option.getD_some, zB, zC,
    zD, zE, zF, zG, zH, zJ, zK, zM, zN, Step1.ofO, lenC, callF, zP, zR, zS, zT, zV, cond_true, cond_false, decide_true, decide_false, beq_self_eq_true, Bool.false_eq_true, Bool.true_eq_false, zW, zX, zY, zZ, Bool.not_true, Bool.not_false]; rfl) (by kernel_rfl) (by simp only [qT, qX, qY, Option.getD_some]; rfl) (fun ht5 => ?_) (fun ht5 => ?_)
            · refine setup18.regE 0 (by kernel_rfl) (by simp only [List.map_cons, List.map_nil]; rfl) (by simp only [qB, qC, qD, qE, qF, qG, qH, qJ, qK, qM, qN, qP, iop1, qR, qS, iop, qT, qV, qW, qX, qY, qZ, zA, Option.getD_some, zB, zC,
    zD, zE, zF, zG, zH, zJ, zK, zM, zN, Step1.ofO, lenC, callF, zP, zR, zS, zT, zV, cond_true, cond_false, decide_true, decide_false, beq_self_eq_true, Bool.false_eq_true, Bool.true_eq_false, zW, zX, zY, zZ, Bool.not_true, Bool.not_false]; rfl) (.ret (.inr ⟨rfl, ires_tmp rfl ?_, hold2.trans (Old.push _ _)⟩))
              simp only [qX, qY]
              rw [← hf, ht5]; rfl
            · exact .inl ⟨rfl, by simpa using ht5, hold2.trans (Old.push _ _), _, _, _, _, _, _, _, _, _, _, _, _, _, _, _, _, _, _, _, _, _, _, _, _, _, _, _, _, _, _, _, _, _, _, _, _, _, _, _, _, _, _, _, _, _, rfl⟩
          · rintro e h ⟨hpz, ho, x3, x4, x5, x6, x7, x8, x9, x10, x11, x12, x13, x14, x15, x16, x17, x18, x19, x23, x24, x25, x26, x27, x28, x29, x30, x31, x32, x33, x34, x35, x36, x37, x38, x39, x40, x41, x42, x43, x44, x45, x46, x47, x48, x49, x50, rfl⟩
            refine setup18.regZ 0 (by kernel_rfl) (by simp only [List.map_cons, List.map_nil]; rfl) (by simp only [qB, qC, qD, qE, qF, qG, qH, qJ, qK, qM, qN, qP, iop1, qR, qS, iop, qT, qV, qW, qX, qY, qZ, zA, Option.getD_some, zB, zC,
    zD, zE, zF, zG, zH, zJ, zK, zM, zN, Step1.ofO, lenC, callF, zP, zR, zS, zT, zV, cond_true, cond_false, decide_true, decide_false, beq_self_eq_true, Bool.false_eq_true, Bool.true_eq_false, zW, zX, zY, zZ, Bool.not_true, Bool.not_false, wrap_succ hlt hlen]; rfl) (.inl ⟨rfl, rs.length - (i + 1), by omega, i + 1, _, _, _, _, _, _, _, _, _, _, _, _, _, _, _, _, _, _, _, _, _, _, _, _, _, _, _, _, _, _, _, _, _, _, _, _, _, _, _, _, _, _, _, _, _, by omega, rfl, rfl, ho, ?_⟩)
            rw [← hf, hpz]; rfl
        · have hge : i = rs.length := by simp at ht; omega
          refine .inr (.inl ⟨rfl, ?_, hold2, _, _, _, _, _, _, _, _, _, _, _, _, _, _, _, _, _, _, _, _, _, _, _, _, _, _, _, _, _, _, _, _, _, _, _, _, _, _, _, _, _, _, _, _, _, _, _, _, rfl⟩)
          rw [← hf, hge]
          have : (rowErrs rs).length = rs.length := by simp [rowErrs]
          rw [← this, List.drop_length]; rfl
      · rintro e h ⟨hf, ho, x3, x4, x5, x6, x7, x8, x9, x10, x11, x12, x13, x14, x15, x16, x17, x18, x19, x20, x21, x22, x23, x24, x25, x26, x27, x28, x29, x30, x31, x32, x33, x34, x35, x36, x37, x38, x39, x40, x41, x42, x43, x44, x45, x46, x47, x48, x49, x50, rfl⟩
        exact setup18.regE 0 (by kernel_rfl) (by simp only [List.map_cons, List.map_nil]; rfl) (by simp only [qB, qC, qD, qE, qF, qG, qH, qJ, qK, qM, qN, qP, iop1, qR, qS, iop, qT, qV, qW, qX, qY, qZ, zA, Option.getD_some, zB, zC,
    zD, zE, zF, zG, zH, zJ, zK, zM, zN, Step1.ofO, lenC, callF, zP, zR, zS, zT, zV, cond_true, cond_false, decide_true, decide_false, beq_self_eq_true, Bool.false_eq_true, Bool.true_eq_false, zW, zX, zY, zZ, Bool.not_true, Bool.not_false]; rfl) (.ret ⟨.inr rfl, ires_tmp rfl (by simp only [qX, qY, hf]), ho⟩)
  · cases hk
end Go.Proofs.YtpdlblofcdcikaaGreatDoor
