/- Contracts of the reference's CheckPlacing and of ShortPicture. Conditions: none. -/
import Derived.Test.YtpdlblofcdcikaaGreatDoorIdlJ
import Derived.Test.YtpdlblofcdcikaaGreatDoorF3
set_option linter.unusedSimpArgs false
set_option linter.unusedVariables false
namespace Go.Proofs.YtpdlblofcdcikaaGreatDoor
open Go.Idl

/-! 22: the reference's CheckPlacing -/
def refColour (c : Int) : Bool := decide (c < 0) || decide (7 < c)
def refPlacing (n : Int) (zs : List Int) : Int := cond (outN n) 3 (cond ((zs.length : Int) != n) 2 (cond (zs.any refColour) 3 0))
noncomputable def k22 (args : List Value) (H : IH) : Option Value := match args with
  | [.int .i64 n, v] => (intsOf H v).map fun zs => .int .i64 (refPlacing n zs)
  | _ => none
noncomputable def nat17 : Nats := addNat nat16 22 k22
theorem q38 : nat16 38 = some (ofK k38) := rfl
set_option maxRecDepth 10000 in
theorem setup17 : Setup Tryz.prog good nat17 (globG 3) := by
  refine plainN setup16 k22 Tryz.func22 rfl rfl fun args H v hk => ?_
  unfold k22 at hk
  split at hk
  · rename_i n u
    obtain ⟨zs, hz, rfl⟩ := Option.map_eq_some_iff.1 hk
    obtain ⟨a, c, rfl, hlen, hget⟩ := intsOf_inv hz
    refine ⟨rfl, ?_⟩
    show Holds _ _ false _ [.int .i64 n, .slice a zs.length c, undef, undef, undef, undef, undef, undef, undef, undef, undef, undef, undef, undef, undef, undef, undef, undef, undef, undef, undef, undef] H _
    refine setup16.regE 0 (by kernel_rfl) (by simp only [List.map_cons, List.map_nil]; rfl) (by simp only [qB, qC, qD, qE, qF, qG, qH, qJ, qK, qM, qN, qP, iop1, qR, qS, iop, qT, qV, qW, qX, qY, qZ, zA, Option.getD_some, zB, zC,
    zD, zE, zF, zG, zH, zJ, zK, zM, zN, Step1.ofO, lenC, callF, zP, zR, zS, zT, zV, cond_true, cond_false, decide_true, decide_false, beq_self_eq_true, Bool.false_eq_true, Bool.true_eq_false, zW, zX, zY, zZ, Bool.not_true, Bool.not_false]; rfl) ?_
    refine setup16.ifRet 0 (by kernel_rfl) (by simp only [List.map_cons, List.map_nil]; rfl) (by simp only [qB, qC, qD, qE, qF, qG, qH, qJ, qK, qM, qN, qP, iop1, qR, qS, iop, qT, qV, qW, qX, qY, qZ, zA, Option.getD_some, zB, zC,
    zD, zE, zF, zG, zH, zJ, zK, zM, zN, Step1.ofO, lenC, callF, zP, zR, zS, zT, zV, cond_true, cond_false, decide_true, decide_false, beq_self_eq_true, Bool.false_eq_true, Bool.true_eq_false, zW, zX, zY, zZ, Bool.not_true, Bool.not_false, e38, enter_k q38, ofK, k38]; rfl) (by kernel_rfl) (by simp only [qT, qX, qY, Option.getD_some]; rfl) (fun ht => ?_) (fun ht => ?_)
    · exact setup16.regE 0 (by kernel_rfl) (by simp only [List.map_cons, List.map_nil]; rfl) (by simp only [qB, qC, qD, qE, qF, qG, qH, qJ, qK, qM, qN, qP, iop1, qR, qS, iop, qT, qV, qW, qX, qY, qZ, zA, Option.getD_some, zB, zC,
    zD, zE, zF, zG, zH, zJ, zK, zM, zN, Step1.ofO, lenC, callF, zP, zR, zS, zT, zV, cond_true, cond_false, decide_true, decide_false, beq_self_eq_true, Bool.false_eq_true, Bool.true_eq_false, zW, zX, zY, zZ, Bool.not_true, Bool.not_false]; rfl) (.ret ⟨rfl, .inr rfl, ires_tmp rfl (by simp only [qX, qY]; simp only [refPlacing, outN, ht, cond_true]), .refl _⟩)
    refine setup16.ifRet 0 (by kernel_rfl) (by simp only [List.map_cons, List.map_nil]; rfl) (by simp only [qB, qC, qD, qE, qF, qG, qH, qJ, qK, qM, qN, qP, iop1, qR, qS, iop, qT, qV, qW, qX, qY, qZ, zA, Option.getD_some, zB, zC,
    zD, zE, zF, zG, zH, zJ, zK, zM, zN, Step1.ofO, lenC, callF, zP, zR, zS, zT, zV, cond_true, cond_false, decide_true, decide_false, beq_self_eq_true, Bool.false_eq_true, Bool.true_eq_false, zW, zX, zY, zZ, Bool.not_true, Bool.not_false, lenB_slice u22, goInt]; rfl) (by kernel_rfl) (by simp only [qT, qX, qY, Option.getD_some]; rfl) (fun ht2 => ?_) (fun ht2 => ?_)
    · exact setup16.regE 0 (by kernel_rfl) (by simp only [List.map_cons, List.map_nil]; rfl) (by simp only [qB, qC, qD, qE, qF, qG, qH, qJ, qK, qM, qN, qP, iop1, qR, qS, iop, qT, qV, qW, qX, qY, qZ, zA, Option.getD_some, zB, zC,
    zD, zE, zF, zG, zH, zJ, zK, zM, zN, Step1.ofO, lenC, callF, zP, zR, zS, zT, zV, cond_true, cond_false, decide_true, decide_false, beq_self_eq_true, Bool.false_eq_true, Bool.true_eq_false, zW, zX, zY, zZ, Bool.not_true, Bool.not_false]; rfl) (.ret ⟨rfl, .inr rfl, ires_tmp rfl (by simp only [qX, qY]; simp only [refPlacing, outN, ht, ht2, cond_true, cond_false]), .refl _⟩)
    have hspec : refPlacing n zs = cond (zs.any refColour) 3 0 := by simp only [refPlacing, outN, ht, ht2, cond_false]
    have hn : n = (zs.length : Int) := by simp at ht2; exact ht2.symm
    clear ht ht2
    subst hn
    refine .seqX (R1 := fun e h => (∃ x5 x6 x7 x8 x9 x10 x11 x12 x13 x14 x15 x16 x17 x18 x19 x20 x21, e = [.int .i64 zs.length, .slice a zs.length c, undef, undef, .int .i64 0, x5, x6, x7, x8, x9, x10, x11, x12, x13, x14, x15, x16, x17, x18, x19, x20, x21]) ∧ h = H ∧ zs.any refColour = false)
      (Q1 := fun o => iresults Tryz.prog Tryz.f22 o.env o.H = some (.int .i64 (refPlacing zs.length zs)) ∧ Old H o.H) ?_ (fun o h1 h2 => ⟨.inr h1, h2⟩) ?_
    · refine setup16.regE 0 (by kernel_rfl) (by simp only [List.map_cons, List.map_nil]; rfl) (by simp only [qB, qC, qD, qE, qF, qG, qH, qJ, qK, qM, qN, qP, iop1, qR, qS, iop, qT, qV, qW, qX, qY, qZ, zA, Option.getD_some, zB, zC,
    zD, zE, zF, zG, zH, zJ, zK, zM, zN, Step1.ofO, lenC, callF, zP, zR, zS, zT, zV, cond_true, cond_false, decide_true, decide_false, beq_self_eq_true, Bool.false_eq_true, Bool.true_eq_false, zW, zX, zY, zZ, Bool.not_true, Bool.not_false]; rfl) ?_
      refine .forR (fun m e h => ∃ i x6 x7 x8 x9 x10 x11 x12 x13 x14 x15 x16 x17 x18 x19 x20 x21, i ≤ zs.length ∧ m = zs.length - i ∧ e = [.int .i64 zs.length, .slice a zs.length c, undef, undef, .int .i64 0, .int .i64 (i : Nat), x6, x7, x8, x9, x10, x11, x12, x13, x14, x15, x16, x17, x18, x19, x20, x21] ∧ h = H ∧ (zs.drop i).any refColour = zs.any refColour)
        ⟨0, _, _, _, _, _, _, _, _, _, _, _, _, _, _, _, _, Nat.zero_le _, rfl, rfl, rfl, rfl⟩ ?_
      rintro m env H1 ⟨i, x6, x7, x8, x9, x10, x11, x12, x13, x14, x15, x16, x17, x18, x19, x20, x21, hi, rfl, rfl, rfl, hf⟩
      refine setup16.head2 0 (by kernel_rfl) (by simp only [List.map_cons, List.map_nil]; rfl) (by simp only [qB, qC, qD, qE, qF, qG, qH, qJ, qK, qM, qN, qP, iop1, qR, qS, iop, qT, qV, qW, qX, qY, qZ, zA, Option.getD_some, zB, zC,
    zD, zE, zF, zG, zH, zJ, zK, zM, zN, Step1.ofO, lenC, callF, zP, zR, zS, zT, zV, cond_true, cond_false, decide_true, decide_false, beq_self_eq_true, Bool.false_eq_true, Bool.true_eq_false, zW, zX, zY, zZ, Bool.not_true, Bool.not_false]; rfl) (by kernel_rfl) (by simp only [qT, qX, qY, Option.getD_some]; rfl) (fun ht4 => ?_) (fun ht4 => ?_)
      · have hlt : i < zs.length := by simpa using ht4
        have hz1 : zs[i]? = some zs[i] := List.getElem?_eq_getElem hlt
        generalize zs[i] = z at hz1
        rw [any_drop hz1] at hf
        obtain ⟨b, o, sp, rfl, hload⟩ := hget i z hz1
        have hidx := index_slice (k := .i64) (b := b) (o := o) (cap := c) (sp := sp) u22 sz3 (Int.natCast_nonneg i) (Int.ofNat_lt.2 hlt)
        have hld := load_one ag3 hload
        simp only [Int.toNat_natCast] at hidx
        refine .seqX (R1 := fun e h => refColour z = false ∧ ∃ x6 x7 x8 x9 x10 x11 x12 x13 x14 x15 x16 x17 x18 x19 x20 x21, e = [.int .i64 zs.length, .slice (some ⟨b, o, sp⟩) zs.length c, undef, undef, .int .i64 0, .int .i64 (i : Nat), x6, x7, x8, x9, x10, x11, x12, x13, x14, x15, x16, x17, x18, x19, x20, x21] ∧ h = H1) (.blockR ?_) (fun o h1 h2 => .inr (.inr ⟨h1, h2⟩)) ?_
        · refine setup16.ifEnd 0 (by kernel_rfl) (by simp only [List.map_cons, List.map_nil]; rfl) (by simp only [qB, qC, qD, qE, qF, qG, qH, qJ, qK, qM, qN, qP, iop1, qR, qS, iop, qT, qV, qW, qX, qY, qZ, zA, Option.getD_some, zB, zC,
    zD, zE, zF, zG, zH, zJ, zK, zM, zN, Step1.ofO, lenC, callF, zP, zR, zS, zT, zV, cond_true, cond_false, decide_true, decide_false, beq_self_eq_true, Bool.false_eq_true, Bool.true_eq_false, zW, zX, zY, zZ, Bool.not_true, Bool.not_false, hidx, hld, e38, enter_k q38, ofK, k38]; rfl) (by kernel_rfl) (by simp only [qT, qX, qY, Option.getD_some]; rfl) (fun ht5 => ?_) (fun ht5 => ?_)
          · refine setup16.regE 0 (by kernel_rfl) (by simp only [List.map_cons, List.map_nil]; rfl) (by simp only [qB, qC, qD, qE, qF, qG, qH, qJ, qK, qM, qN, qP, iop1, qR, qS, iop, qT, qV, qW, qX, qY, qZ, zA, Option.getD_some, zB, zC,
    zD, zE, zF, zG, zH, zJ, zK, zM, zN, Step1.ofO, lenC, callF, zP, zR, zS, zT, zV, cond_true, cond_false, decide_true, decide_false, beq_self_eq_true, Bool.false_eq_true, Bool.true_eq_false, zW, zX, zY, zZ, Bool.not_true, Bool.not_false]; rfl) (.ret (.inr ⟨rfl, ires_tmp rfl ?_, .refl _⟩))
            have : refColour z = true := ht5
            simp only [qX, qY]
            rw [hspec, ← hf, this]; rfl
          · exact .inl ⟨rfl, ht5, _, _, _, _, _, _, _, _, _, _, _, _, _, _, _, _, rfl, rfl⟩
        · rintro e h ⟨hpz, x6, x7, x8, x9, x10, x11, x12, x13, x14, x15, x16, x17, x18, x19, x20, x21, rfl, rfl⟩
          refine setup16.regZ 0 (by kernel_rfl) (by simp only [List.map_cons, List.map_nil]; rfl) (by simp only [qB, qC, qD, qE, qF, qG, qH, qJ, qK, qM, qN, qP, iop1, qR, qS, iop, qT, qV, qW, qX, qY, qZ, zA, Option.getD_some, zB, zC,
    zD, zE, zF, zG, zH, zJ, zK, zM, zN, Step1.ofO, lenC, callF, zP, zR, zS, zT, zV, cond_true, cond_false, decide_true, decide_false, beq_self_eq_true, Bool.false_eq_true, Bool.true_eq_false, zW, zX, zY, zZ, Bool.not_true, Bool.not_false, wrap_succ hlt hlen]; rfl) (.inl ⟨rfl, zs.length - (i + 1), by omega, i + 1, _, _, _, _, _, _, _, _, _, _, _, _, _, _, _, _, by omega, rfl, rfl, rfl, ?_⟩)
          rw [← hf, hpz]; rfl
      · have hge : i = zs.length := by simp at ht4; omega
        refine .inr (.inl ⟨rfl, ⟨_, _, _, _, _, _, _, _, _, _, _, _, _, _, _, _, _, rfl⟩, rfl, ?_⟩)
        rw [← hf, hge]; simp
    · rintro e h ⟨⟨x5, x6, x7, x8, x9, x10, x11, x12, x13, x14, x15, x16, x17, x18, x19, x20, x21, rfl⟩, rfl, hf⟩
      exact setup16.regE 0 (by kernel_rfl) (by simp only [List.map_cons, List.map_nil]; rfl) (by simp only [qB, qC, qD, qE, qF, qG, qH, qJ, qK, qM, qN, qP, iop1, qR, qS, iop, qT, qV, qW, qX, qY, qZ, zA, Option.getD_some, zB, zC,
    zD, zE, zF, zG, zH, zJ, zK, zM, zN, Step1.ofO, lenC, callF, zP, zR, zS, zT, zV, cond_true, cond_false, decide_true, decide_false, beq_self_eq_true, Bool.false_eq_true, Bool.true_eq_false, zW, zX, zY, zZ, Bool.not_true, Bool.not_false]; rfl) (.ret ⟨.inr rfl, ires_tmp rfl (by simp only [qX, qY]; rw [hspec, hf]; rfl), .refl _⟩)
  · cases hk
theorem e22 : enters Tryz.prog 22 = true := by kernel_rfl

/-! 17: ShortPicture -/
noncomputable def lensOf (H : IH) (a : Option Addr) (n : Nat) : Option (List Nat) := match a with
  | none => if n = 0 then some [] else none
  | some a => if a.block < H.size then lensAt H a.block a.off (min n 25) else none
def shortPic (n : Nat) (ls : List Nat) : Bool := (ls.all fun m => decide ((m : Int) ≤ 27)) && decide ((n : Int) ≤ 27)
noncomputable def k17 (args : List Value) (H : IH) : Option Value := match args with
  | [.slice a n _] => (lensOf H a n).map fun ls => .bool (shortPic n ls)
  | _ => none
noncomputable def nat18 : Nats := addNat nat17 17 k17
theorem lensOf_inv {H : IH} {a : Option Addr} {n : Nat} {ls : List Nat} (h : lensOf H a n = some ls) : ls.length = min n 25 ∧ ∀ (i : Nat) m, ls[i]? = some m → ∃ b o sp a' c', a = some ⟨b, o, sp⟩ ∧ H.load b (o + i) = some (.slice a' m c') := by
  unfold lensOf at h
  split at h
  · split at h
    · rename_i hn; cases h; exact ⟨by simp [hn], fun i m hi => by simp at hi⟩
    · cases h
  · rename_i a
    split at h
    · obtain ⟨h1, h2⟩ := lensAt_get _ _ _ h
      refine ⟨h1, fun i m hi => ?_⟩
      obtain ⟨a', c', h3⟩ := h2 i m hi
      exact ⟨a.block, a.off, a.spot, a', c', rfl, h3⟩
    · cases h
theorem lensOf_old {H H' : IH} (h : Old H H') {a : Option Addr} {n : Nat} {ls : List Nat} (hl : lensOf H a n = some ls) : lensOf H' a n = some ls := by
  unfold lensOf at hl ⊢
  split at hl
  · exact hl
  · split at hl
    · rename_i hb
      rw [if_pos (Nat.lt_of_lt_of_le hb h.size), lensAt_old h hb]
      exact hl
    · cases hl
set_option maxRecDepth 10000 in
theorem setup18 : Setup Tryz.prog good nat18 (globG 3) := by
  refine plainN setup17 k17 Tryz.func17 rfl rfl fun args H v hk => ?_
  unfold k17 at hk
  split at hk
  · rename_i a n c
    obtain ⟨ls, hl, rfl⟩ := Option.map_eq_some_iff.1 hk
    obtain ⟨hll, hget⟩ := lensOf_inv hl
    refine ⟨rfl, ?_⟩
    show Holds _ _ false _ [.slice a n c, undef, undef, undef, undef, undef, undef, undef, undef, undef, undef, undef, undef, undef, undef, undef, undef, undef, undef, undef, undef, undef, undef] H _
    refine setup17.regE 0 (by kernel_rfl) (by simp only [List.map_cons, List.map_nil]; rfl) (by simp only [qB, qC, qD, qE, qF, qG, qH, qJ, qK, qM, qN, qP, iop1, qR, qS, iop, qT, qV, qW, qX, qY, qZ, zA, Option.getD_some, zB, zC,
    zD, zE, zF, zG, zH, zJ, zK, zM, zN, Step1.ofO, lenC, callF, zP, zR, zS, zT, zV, cond_true, cond_false, decide_true, decide_false, beq_self_eq_true, Bool.false_eq_true, Bool.true_eq_false, zW, zX, zY, zZ, Bool.not_true, Bool.not_false]; rfl) ?_
    refine .seqX (R1 := fun e h => (∃ x3 x4 x5 x6 x7 x8 x9 x10 x11 x12 x13 x14 x15 x16 x17 x18 x19 x20 x21 x22, e = [.slice a n c, undef, .bool false, x3, x4, x5, x6, x7, x8, x9, x10, x11, x12, x13, x14, x15, x16, x17, x18, x19, x20, x21, x22]) ∧ h = H ∧ (ls.all fun m => decide ((m : Int) ≤ 27)) = true)
      (Q1 := fun o => iresults Tryz.prog Tryz.f17 o.env o.H = some (.bool (shortPic n ls)) ∧ Old H o.H) ?_ (fun o h1 h2 => ⟨.inr h1, h2⟩) ?_
    · refine setup17.regE 0 (by kernel_rfl) (by simp only [List.map_cons, List.map_nil]; rfl) (by simp only [qB, qC, qD, qE, qF, qG, qH, qJ, qK, qM, qN, qP, iop1, qR, qS, iop, qT, qV, qW, qX, qY, qZ, zA, Option.getD_some, zB, zC,
    zD, zE, zF, zG, zH, zJ, zK, zM, zN, Step1.ofO, lenC, callF, zP, zR, zS, zT, zV, cond_true, cond_false, decide_true, decide_false, beq_self_eq_true, Bool.false_eq_true, Bool.true_eq_false, zW, zX, zY, zZ, Bool.not_true, Bool.not_false]; rfl) ?_
      refine .forR (fun m e h => ∃ i x4 x5 x6 x7 x8 x9 x10 x11 x12 x13 x14 x15 x16 x17 x18 x19 x20 x21 x22, i ≤ min n 25 ∧ m = min n 25 - i ∧ e = [.slice a n c, undef, .bool false, .int .i64 (i : Nat), x4, x5, x6, x7, x8, x9, x10, x11, x12, x13, x14, x15, x16, x17, x18, x19, x20, x21, x22] ∧ h = H ∧ ((ls.take i).all fun m => decide ((m : Int) ≤ 27)) = true)
        ⟨0, _, _, _, _, _, _, _, _, _, _, _, _, _, _, _, _, _, _, _, Nat.zero_le _, rfl, rfl, rfl, rfl⟩ ?_
      rintro m env H1 ⟨i, x4, x5, x6, x7, x8, x9, x10, x11, x12, x13, x14, x15, x16, x17, x18, x19, x20, x21, x22, hi, rfl, rfl, rfl, hf⟩
      have fin : i = min n 25 → (ls.all fun m => decide ((m : Int) ≤ 27)) = true := fun h => by
        rw [h, ← hll, List.take_length] at hf; exact hf
      by_cases hin : (i : Int) < (n : Int)
      · refine setup17.head2 0 (by kernel_rfl) (by simp only [List.map_cons, List.map_nil]; rfl) (by simp only [qB, qC, qD, qE, qF, qG, qH, qJ, qK, qM, qN, qP, iop1, qR, qS, iop, qT, qV, qW, qX, qY, qZ, zA, Option.getD_some, zB, zC,
    zD, zE, zF, zG, zH, zJ, zK, zM, zN, Step1.ofO, lenC, callF, zP, zR, zS, zT, zV, cond_true, cond_false, decide_true, decide_false, beq_self_eq_true, Bool.false_eq_true, Bool.true_eq_false, zW, zX, zY, zZ, Bool.not_true, Bool.not_false, lenB_slice u25, goInt, hin]; rfl) (by kernel_rfl) (by simp only [qT, qX, qY, Option.getD_some]; rfl) (fun ht4 => ?_) (fun ht4 => ?_)
        · have hlt : i < min n 25 := by simp at ht4; omega
          have hz1 : ls[i]? = some ls[i] := List.getElem?_eq_getElem (by omega)
          generalize ls[i] = m at hz1
          obtain ⟨b, o, sp, a', c', rfl, hload⟩ := hget i m hz1
          have hidx := index_slice (k := .i64) (b := b) (o := o) (cap := c) (sp := sp) u25 sz22 (Int.natCast_nonneg i) hin
          have hld := load_one ag22 hload
          simp only [Int.toNat_natCast] at hidx
          refine .seqX (R1 := fun e h => decide ((m : Int) ≤ 27) = true ∧ ∃ x4 x5 x6 x7 x8 x9 x10 x11 x12 x13 x14 x15 x16 x17 x18 x19 x20 x21 x22, e = [.slice (some ⟨b, o, sp⟩) n c, undef, .bool false, .int .i64 (i : Nat), x4, x5, x6, x7, x8, x9, x10, x11, x12, x13, x14, x15, x16, x17, x18, x19, x20, x21, x22] ∧ h = H1) (.blockR ?_) (fun o h1 h2 => .inr (.inr ⟨h1, h2⟩)) ?_
          · refine setup17.ifEnd 0 (by kernel_rfl) (by simp only [List.map_cons, List.map_nil]; rfl) (by simp only [qB, qC, qD, qE, qF, qG, qH, qJ, qK, qM, qN, qP, iop1, qR, qS, iop, qT, qV, qW, qX, qY, qZ, zA, Option.getD_some, zB, zC,
    zD, zE, zF, zG, zH, zJ, zK, zM, zN, Step1.ofO, lenC, callF, zP, zR, zS, zT, zV, cond_true, cond_false, decide_true, decide_false, beq_self_eq_true, Bool.false_eq_true, Bool.true_eq_false, zW, zX, zY, zZ, Bool.not_true, Bool.not_false, hidx, hld, lenB_slice u22, goInt]; rfl) (by kernel_rfl) (by simp only [qT, qX, qY, Option.getD_some]; rfl) (fun ht5 => ?_) (fun ht5 => ?_)
            · refine setup17.regE 0 (by kernel_rfl) (by simp only [List.map_cons, List.map_nil]; rfl) (by simp only [qB, qC, qD, qE, qF, qG, qH, qJ, qK, qM, qN, qP, iop1, qR, qS, iop, qT, qV, qW, qX, qY, qZ, zA, Option.getD_some, zB, zC,
    zD, zE, zF, zG, zH, zJ, zK, zM, zN, Step1.ofO, lenC, callF, zP, zR, zS, zT, zV, cond_true, cond_false, decide_true, decide_false, beq_self_eq_true, Bool.false_eq_true, Bool.true_eq_false, zW, zX, zY, zZ, Bool.not_true, Bool.not_false]; rfl) (.ret (.inr ⟨rfl, ires_tmp rfl ?_, .refl _⟩))
              simp only [qX, qY]
              have : shortPic n ls = false := by
                unfold shortPic
                have : (ls.all fun m => decide ((m : Int) ≤ 27)) = false := by
                  rw [List.all_eq_false]
                  refine ⟨m, List.mem_of_getElem? hz1, ?_⟩
                  simp at ht5; simp; omega
                rw [this]; rfl
              rw [this]
            · exact .inl ⟨rfl, by simp at ht5; simp; omega, _, _, _, _, _, _, _, _, _, _, _, _, _, _, _, _, _, _, _, rfl, rfl⟩
          · rintro e h ⟨hpz, x4, x5, x6, x7, x8, x9, x10, x11, x12, x13, x14, x15, x16, x17, x18, x19, x20, x21, x22, rfl, rfl⟩
            have hw : IntKind.i64.wrap ((i : Int) + 1) = ((i + 1 : Nat) : Int) := wrap_succ (n := 25) (by omega) (by omega)
            refine setup17.regZ 0 (by kernel_rfl) (by simp only [List.map_cons, List.map_nil]; rfl) (by simp only [qB, qC, qD, qE, qF, qG, qH, qJ, qK, qM, qN, qP, iop1, qR, qS, iop, qT, qV, qW, qX, qY, qZ, zA, Option.getD_some, zB, zC,
    zD, zE, zF, zG, zH, zJ, zK, zM, zN, Step1.ofO, lenC, callF, zP, zR, zS, zT, zV, cond_true, cond_false, decide_true, decide_false, beq_self_eq_true, Bool.false_eq_true, Bool.true_eq_false, zW, zX, zY, zZ, Bool.not_true, Bool.not_false, hw]; rfl) (.inl ⟨rfl, min n 25 - (i + 1), by omega, i + 1, _, _, _, _, _, _, _, _, _, _, _, _, _, _, _, _, _, _, _, by omega, rfl, rfl, rfl, ?_⟩)
            rw [List.take_add_one, hz1, List.all_append, hf]
            simpa using hpz
        · refine .inr (.inl ⟨rfl, ⟨_, _, _, _, _, _, _, _, _, _, _, _, _, _, _, _, _, _, _, _, rfl⟩, rfl, fin ?_⟩)
          simp at ht4; omega
      · refine setup17.head2 0 (by kernel_rfl) (by simp only [List.map_cons, List.map_nil]; rfl) (by simp only [qB, qC, qD, qE, qF, qG, qH, qJ, qK, qM, qN, qP, iop1, qR, qS, iop, qT, qV, qW, qX, qY, qZ, zA, Option.getD_some, zB, zC,
    zD, zE, zF, zG, zH, zJ, zK, zM, zN, Step1.ofO, lenC, callF, zP, zR, zS, zT, zV, cond_true, cond_false, decide_true, decide_false, beq_self_eq_true, Bool.false_eq_true, Bool.true_eq_false, zW, zX, zY, zZ, Bool.not_true, Bool.not_false, lenB_slice u25, goInt, hin]; rfl) (by kernel_rfl) (by simp only [qT, qX, qY, Option.getD_some]; rfl) (fun ht4 => ?_) (fun ht4 => ?_)
        · cases ht4
        · refine .inr (.inl ⟨rfl, ⟨_, _, _, _, _, _, _, _, _, _, _, _, _, _, _, _, _, _, _, _, rfl⟩, rfl, fin ?_⟩)
          omega
    · rintro e h ⟨⟨x3, x4, x5, x6, x7, x8, x9, x10, x11, x12, x13, x14, x15, x16, x17, x18, x19, x20, x21, x22, rfl⟩, rfl, hf⟩
      exact setup17.regE 0 (by kernel_rfl) (by simp only [List.map_cons, List.map_nil]; rfl) (by simp only [qB, qC, qD, qE, qF, qG, qH, qJ, qK, qM, qN, qP, iop1, qR, qS, iop, qT, qV, qW, qX, qY, qZ, zA, Option.getD_some, zB, zC,
    zD, zE, zF, zG, zH, zJ, zK, zM, zN, Step1.ofO, lenC, callF, zP, zR, zS, zT, zV, cond_true, cond_false, decide_true, decide_false, beq_self_eq_true, Bool.false_eq_true, Bool.true_eq_false, zW, zX, zY, zZ, Bool.not_true, Bool.not_false, lenB_slice u25, goInt]; rfl) (.ret ⟨.inr rfl, ires_tmp rfl (by simp only [qX, qY]; simp only [shortPic, hf, Bool.true_and]), .refl _⟩)
  · cases hk
theorem e17 : enters Tryz.prog 17 = true := by kernel_rfl
end Go.Proofs.YtpdlblofcdcikaaGreatDoor
