/- Contracts of small, CheckFit and checkFit. Conditions: none. -/
import Derived.Test.YtpdlblofcdcikaaGreatDoorG9
import Derived.Test.YtpdlblofcdcikaaGreatDoorF7
set_option linter.unusedSimpArgs false
set_option linter.unusedVariables false
namespace Go.Proofs.YtpdlblofcdcikaaGreatDoor
open Go.Idl

theorem pureG9 : NatPure nat42 := addS_pure pure41

/-! 25: small -/
noncomputable def lensAll (H : IH) (a : Option Addr) (n : Nat) : Option (List Nat) := match a with
  | none => if n = 0 then some [] else none
  | some a => if a.block < H.size ∧ n ≤ 27 then lensAt H a.block a.off n else none
def midB (m : Nat) : Bool := decide (10 < m) && decide (m ≤ 24)
noncomputable def k25 (args : List Value) (H : IH) : Option Value := match args with
  | [.slice a n _] => (match lensOf H a n with
    | some ls => if shortPic n ls then (lensAll H a n).map fun l2 => .bool (!midB n && !l2.any midB) else some (.bool false)
    | none => none)
  | _ => none
theorem lensAll_inv {H : IH} {a : Option Addr} {n : Nat} {ls : List Nat} (h : lensAll H a n = some ls) : ls.length = n ∧ n ≤ 27 ∧ ∀ (i : Nat) m, ls[i]? = some m → ∃ b o sp a' c', a = some ⟨b, o, sp⟩ ∧ b < H.size ∧ H.load b (o + i) = some (.slice a' m c') := by
  unfold lensAll at h
  split at h
  · split at h
    · rename_i hn; cases h; exact ⟨by simp [hn], by omega, fun i m hi => by simp at hi⟩
    · cases h
  · rename_i a
    split at h
    · rename_i hn
      obtain ⟨h1, h2⟩ := lensAt_get _ _ _ h
      refine ⟨h1, hn.2, fun i m hi => ?_⟩
      obtain ⟨a', c', h3⟩ := h2 i m hi
      exact ⟨a.block, a.off, a.spot, a', c', rfl, hn.1, h3⟩
    · cases h
theorem any_drop_mid {l : List Nat} {i m : Nat} (h : l[i]? = some m) : (l.drop i).any midB = (midB m || (l.drop (i + 1)).any midB) := by
  obtain ⟨hlt, e⟩ := List.getElem?_eq_some_iff.1 h
  rw [List.drop_eq_getElem_cons hlt, e]; rfl
noncomputable def hat1 : Nats := addNat nat42 25 k25
theorem h17 : nat42 17 = some (ofK k17) := rfl
set_option maxRecDepth 10000 in
theorem setH1 : Setup Tryz.prog good hat1 (globG 3) := by
  refine plainN setup42 k25 Tryz.func25 rfl rfl fun args H v hk => ?_
  unfold k25 at hk
  split at hk
  · rename_i a n c
    split at hk
    · rename_i ls hls
      have hv : plainV v = true := by
        split at hk
        · obtain ⟨l2, _, rfl⟩ := Option.map_eq_some_iff.1 hk; rfl
        · cases hk; rfl
      refine ⟨hv, ?_⟩
      have hk17 : k17 [.slice a n c] H = some (.bool (shortPic n ls)) := by unfold k17; simp only [hls, Option.map_some]
      show Holds _ _ false _ [.slice a n c, undef, undef, undef, undef, undef, undef, undef, undef, undef, undef, undef, undef, undef, undef, undef, undef, undef, undef, undef, undef, undef, undef, undef, undef, undef, undef, undef, undef, undef, undef] H _
      refine setup42.regE 0 (by kernel_rfl) (by simp only [List.map_cons, List.map_nil]; rfl) (by simp only [qB, qC, qD, qE, qF, qG, qH, qJ, qK, qM, qN, qP, iop1, qR, qS, iop, qT, qV, qW, qX, qY, qZ, zA, Option.getD_some, zB, zC, zD, zE, zF, zG, zH, zJ, zK, zM, zN, Step1.ofO, lenC, callF, zP, zR, zS, zT, zV, cond_true, cond_false, decide_true, decide_false, beq_self_eq_true, Bool.false_eq_true, Bool.true_eq_false, zW, zX, zY, zZ, Bool.not_true, Bool.not_false, appC, copyC, yA, List.map_cons, List.map_nil, goInt]; rfl) ?_
      refine setup42.ifW (by kernel_rfl) (by simp only [List.map_cons, List.map_nil]; rfl) (by simp only [qB, qC, qD, qE, qF, qG, qH, qJ, qK, qM, qN, qP, iop1, qR, qS, iop, qT, qV, qW, qX, qY, qZ, zA, Option.getD_some, zB, zC, zD, zE, zF, zG, zH, zJ, zK, zM, zN, Step1.ofO, lenC, callF, zP, zR, zS, zT, zV, cond_true, cond_false, decide_true, decide_false, beq_self_eq_true, Bool.false_eq_true, Bool.true_eq_false, zW, zX, zY, zZ, Bool.not_true, Bool.not_false, appC, copyC, yA, List.map_cons, List.map_nil, goInt, e17, enter_k h17, ofK, hk17]; rfl) (by kernel_rfl) (by simp only [qT, qX, qY, Option.getD_some]; rfl) (fun ht => ?_) (fun ht => .skip (ST.go ?_))
      · have hs : shortPic n ls = false := by simpa using ht
        rw [hs] at hk
        cases hk
        exact setup42.regE 0 (by kernel_rfl) (by simp only [List.map_cons, List.map_nil]; rfl) (by simp only [qB, qC, qD, qE, qF, qG, qH, qJ, qK, qM, qN, qP, iop1, qR, qS, iop, qT, qV, qW, qX, qY, qZ, zA, Option.getD_some, zB, zC, zD, zE, zF, zG, zH, zJ, zK, zM, zN, Step1.ofO, lenC, callF, zP, zR, zS, zT, zV, cond_true, cond_false, decide_true, decide_false, beq_self_eq_true, Bool.false_eq_true, Bool.true_eq_false, zW, zX, zY, zZ, Bool.not_true, Bool.not_false, appC, copyC, yA, List.map_cons, List.map_nil, goInt]; rfl) (.ret (ST.rt ⟨.inr rfl, ires_tmp rfl (by simp only [qX, qY]), .refl _⟩))
      · have hs : shortPic n ls = true := by simpa using ht
        rw [hs] at hk
        simp only [if_true] at hk
        obtain ⟨l2, hl2, rfl⟩ := Option.map_eq_some_iff.1 hk
        obtain ⟨hlen, hn27, hget⟩ := lensAll_inv hl2
        have hmid : ∀ m : Nat, midB m = (decide ((10 : Int) < (m : Int)) && decide ((m : Int) ≤ 24)) := fun m => by
          unfold midB
          have e1 : decide (10 < m) = decide ((10 : Int) < (m : Int)) := by rw [decide_eq_decide]; omega
          have e2 : decide (m ≤ 24) = decide ((m : Int) ≤ 24) := by rw [decide_eq_decide]; omega
          rw [e1, e2]
        have tail : ∀ e h, (e = [.slice a n c, unk, unk, unk, unk, unk, unk, unk, unk, unk, unk, unk, unk, unk, unk, unk, unk, unk, unk, unk, unk, unk, unk, unk, unk, unk, unk, unk, unk, unk, unk] ∧ h = H ∧ midB n = false) → Holds Tryz.prog (globG 3) false (dropS 3 (Tryz.f25.body.getD .skip)) e h fun o => (o.e = .normal ∨ o.e = .ret) ∧ iresults Tryz.prog Tryz.f25 o.env o.H = some (.bool (!midB n && !l2.any midB)) ∧ Old H o.H := by
          rintro e h ⟨rfl, rfl, hmn⟩
          rw [hmn]
          refine .seqW (setup42.regE 0 (by kernel_rfl) (by simp only [List.map_cons, List.map_nil]; rfl) (by simp only [qB, qC, qD, qE, qF, qG, qH, qJ, qK, qM, qN, qP, iop1, qR, qS, iop, qT, qV, qW, qX, qY, qZ, zA, Option.getD_some, zB, zC, zD, zE, zF, zG, zH, zJ, zK, zM, zN, Step1.ofO, lenC, callF, zP, zR, zS, zT, zV, cond_true, cond_false, decide_true, decide_false, beq_self_eq_true, Bool.false_eq_true, Bool.true_eq_false, zW, zX, zY, zZ, Bool.not_true, Bool.not_false, appC, copyC, yA, List.map_cons, List.map_nil, goInt, lenB_slice u25]; rfl) ?_)
          refine .loopW (fun m e h' => ∃ (i : Nat), i ≤ n ∧ m = n - i ∧ e = [unk, unk, unk, unk, unk, unk, unk, unk, unk, unk, unk, unk, unk, unk, unk, unk, .slice a n c, .int .i64 (n : Nat), .int .i64 (i : Nat), unk, unk, unk, unk, unk, unk, unk, unk, unk, unk, unk, unk] ∧ h' = h ∧ (l2.drop i).any midB = l2.any midB) n
            [unk, unk, unk, unk, unk, unk, unk, unk, unk, unk, unk, unk, unk, unk, unk, unk, .slice a n c, .int .i64 (n : Nat), .int .i64 0, unk, unk, unk, unk, unk, unk, unk, unk, unk, unk, unk, unk] (by repeat (first | exact WkL.nil | refine WkL.same ?_ | refine WkL.any ?_)) ⟨0, Nat.zero_le _, rfl, rfl, rfl, rfl⟩ ?_
          rintro m e h' ⟨i, hi, rfl, rfl, rfl, heq⟩
          refine setup42.headW (by kernel_rfl) (by simp only [List.map_cons, List.map_nil]; rfl) (by simp only [qB, qC, qD, qE, qF, qG, qH, qJ, qK, qM, qN, qP, iop1, qR, qS, iop, qT, qV, qW, qX, qY, qZ, zA, Option.getD_some, zB, zC, zD, zE, zF, zG, zH, zJ, zK, zM, zN, Step1.ofO, lenC, callF, zP, zR, zS, zT, zV, cond_true, cond_false, decide_true, decide_false, beq_self_eq_true, Bool.false_eq_true, Bool.true_eq_false, zW, zX, zY, zZ, Bool.not_true, Bool.not_false, appC, copyC, yA, List.map_cons, List.map_nil, goInt]; rfl) (by kernel_rfl) (by simp only [qT, qX, qY, Option.getD_some]; rfl) (fun ht2 => ?_) (fun ht2 => ?_)
          · have hlt : i < n := by simpa using ht2
            obtain ⟨m, hm⟩ : ∃ m, l2[i]? = some m := ⟨_, List.getElem?_eq_getElem (by omega)⟩
            obtain ⟨b, o, sp, a', c', rfl, _, hl⟩ := hget i m hm
            have hidx := index_slice (k := .i64) (b := b) (o := o) (cap := c) (sp := sp) u25 sz22 (Int.natCast_nonneg i) (Int.ofNat_lt.2 hlt)
            simp only [Int.toNat_natCast] at hidx
            have hld := load_one ag22 hl
            rw [any_drop_mid hm, hmid] at heq
            refine .blockW (setup42.regE 0 (by kernel_rfl) (by simp only [List.map_cons, List.map_nil]; rfl) (by simp only [qB, qC, qD, qE, qF, qG, qH, qJ, qK, qM, qN, qP, iop1, qR, qS, iop, qT, qV, qW, qX, qY, qZ, zA, Option.getD_some, zB, zC, zD, zE, zF, zG, zH, zJ, zK, zM, zN, Step1.ofO, lenC, callF, zP, zR, zS, zT, zV, cond_true, cond_false, decide_true, decide_false, beq_self_eq_true, Bool.false_eq_true, Bool.true_eq_false, zW, zX, zY, zZ, Bool.not_true, Bool.not_false, appC, copyC, yA, List.map_cons, List.map_nil, goInt, hidx, hld]; rfl) ?_)
            by_cases h10 : (10 : Int) < (m : Int)
            · by_cases h24 : (m : Int) ≤ 24
              · refine setup42.ifZ (by kernel_rfl) (by simp only [List.map_cons, List.map_nil]; rfl) (by simp only [qB, qC, qD, qE, qF, qG, qH, qJ, qK, qM, qN, qP, iop1, qR, qS, iop, qT, qV, qW, qX, qY, qZ, zA, Option.getD_some, zB, zC, zD, zE, zF, zG, zH, zJ, zK, zM, zN, Step1.ofO, lenC, callF, zP, zR, zS, zT, zV, cond_true, cond_false, decide_true, decide_false, beq_self_eq_true, Bool.false_eq_true, Bool.true_eq_false, zW, zX, zY, zZ, Bool.not_true, Bool.not_false, appC, copyC, yA, List.map_cons, List.map_nil, goInt, lenB_slice u22, decide_eq_true h10, decide_eq_true h24]; rfl) (by kernel_rfl) (by simp only [qT, qX, qY, Option.getD_some]; rfl) (fun _ => ?_) (fun ht3 => by cases ht3)
                rw [decide_eq_true h10, decide_eq_true h24] at heq
                have hany : l2.any midB = true := heq.symm
                exact setup42.regE 0 (by kernel_rfl) (by simp only [List.map_cons, List.map_nil]; rfl) (by simp only [qB, qC, qD, qE, qF, qG, qH, qJ, qK, qM, qN, qP, iop1, qR, qS, iop, qT, qV, qW, qX, qY, qZ, zA, Option.getD_some, zB, zC, zD, zE, zF, zG, zH, zJ, zK, zM, zN, Step1.ofO, lenC, callF, zP, zR, zS, zT, zV, cond_true, cond_false, decide_true, decide_false, beq_self_eq_true, Bool.false_eq_true, Bool.true_eq_false, zW, zX, zY, zZ, Bool.not_true, Bool.not_false, appC, copyC, yA, List.map_cons, List.map_nil, goInt]; rfl) (.ret (BT.rt (LQ.rt (ST.rt ⟨.inr rfl, ires_tmp rfl (by simp only [qX, qY, hany, Bool.not_true, Bool.and_false]), .refl _⟩))))
              · rw [decide_eq_true h10, decide_eq_false h24] at heq
                refine setup42.ifZ (by kernel_rfl) (by simp only [List.map_cons, List.map_nil]; rfl) (by simp only [qB, qC, qD, qE, qF, qG, qH, qJ, qK, qM, qN, qP, iop1, qR, qS, iop, qT, qV, qW, qX, qY, qZ, zA, Option.getD_some, zB, zC, zD, zE, zF, zG, zH, zJ, zK, zM, zN, Step1.ofO, lenC, callF, zP, zR, zS, zT, zV, cond_true, cond_false, decide_true, decide_false, beq_self_eq_true, Bool.false_eq_true, Bool.true_eq_false, zW, zX, zY, zZ, Bool.not_true, Bool.not_false, appC, copyC, yA, List.map_cons, List.map_nil, goInt, lenB_slice u22, decide_eq_true h10, decide_eq_false h24]; rfl) (by kernel_rfl) (by simp only [qT, qX, qY, Option.getD_some]; rfl) (fun ht3 => by cases ht3) (fun _ => .skip (BT.go ?_))
                exact setup42.regZ 0 (by kernel_rfl) (by simp only [List.map_cons, List.map_nil]; rfl) (by simp only [qB, qC, qD, qE, qF, qG, qH, qJ, qK, qM, qN, qP, iop1, qR, qS, iop, qT, qV, qW, qX, qY, qZ, zA, Option.getD_some, zB, zC, zD, zE, zF, zG, zH, zJ, zK, zM, zN, Step1.ofO, lenC, callF, zP, zR, zS, zT, zV, cond_true, cond_false, decide_true, decide_false, beq_self_eq_true, Bool.false_eq_true, Bool.true_eq_false, zW, zX, zY, zZ, Bool.not_true, Bool.not_false, appC, copyC, yA, List.map_cons, List.map_nil, goInt, wrap_succ hlt (show n ≤ 1000 by omega)]; rfl) (LQ.go (n - (i + 1)) (by omega) (by repeat (first | exact WkL.nil | refine WkL.same ?_ | refine WkL.any ?_)) ⟨i + 1, by omega, rfl, rfl, rfl, heq⟩)
            · rw [decide_eq_false h10] at heq
              refine setup42.ifZ (by kernel_rfl) (by simp only [List.map_cons, List.map_nil]; rfl) (by simp only [qB, qC, qD, qE, qF, qG, qH, qJ, qK, qM, qN, qP, iop1, qR, qS, iop, qT, qV, qW, qX, qY, qZ, zA, Option.getD_some, zB, zC, zD, zE, zF, zG, zH, zJ, zK, zM, zN, Step1.ofO, lenC, callF, zP, zR, zS, zT, zV, cond_true, cond_false, decide_true, decide_false, beq_self_eq_true, Bool.false_eq_true, Bool.true_eq_false, zW, zX, zY, zZ, Bool.not_true, Bool.not_false, appC, copyC, yA, List.map_cons, List.map_nil, goInt, lenB_slice u22, decide_eq_false h10]; rfl) (by kernel_rfl) (by simp only [qT, qX, qY, Option.getD_some]; rfl) (fun ht3 => by cases ht3) (fun _ => .skip (BT.go ?_))
              exact setup42.regZ 0 (by kernel_rfl) (by simp only [List.map_cons, List.map_nil]; rfl) (by simp only [qB, qC, qD, qE, qF, qG, qH, qJ, qK, qM, qN, qP, iop1, qR, qS, iop, qT, qV, qW, qX, qY, qZ, zA, Option.getD_some, zB, zC, zD, zE, zF, zG, zH, zJ, zK, zM, zN, Step1.ofO, lenC, callF, zP, zR, zS, zT, zV, cond_true, cond_false, decide_true, decide_false, beq_self_eq_true, Bool.false_eq_true, Bool.true_eq_false, zW, zX, zY, zZ, Bool.not_true, Bool.not_false, appC, copyC, yA, List.map_cons, List.map_nil, goInt, wrap_succ hlt (show n ≤ 1000 by omega)]; rfl) (LQ.go (n - (i + 1)) (by omega) (by repeat (first | exact WkL.nil | refine WkL.same ?_ | refine WkL.any ?_)) ⟨i + 1, by omega, rfl, rfl, rfl, heq⟩)
          · have hge : i = n := by simp at ht2; omega
            have hany : l2.any midB = false := by
              rw [← heq, hge, ← hlen, List.drop_length]; rfl
            exact ST.go (setup42.regE 0 (by kernel_rfl) (by simp only [List.map_cons, List.map_nil]; rfl) (by simp only [qB, qC, qD, qE, qF, qG, qH, qJ, qK, qM, qN, qP, iop1, qR, qS, iop, qT, qV, qW, qX, qY, qZ, zA, Option.getD_some, zB, zC, zD, zE, zF, zG, zH, zJ, zK, zM, zN, Step1.ofO, lenC, callF, zP, zR, zS, zT, zV, cond_true, cond_false, decide_true, decide_false, beq_self_eq_true, Bool.false_eq_true, Bool.true_eq_false, zW, zX, zY, zZ, Bool.not_true, Bool.not_false, appC, copyC, yA, List.map_cons, List.map_nil, goInt]; rfl) (.ret ⟨.inr rfl, ires_tmp rfl (by simp only [qX, qY, hany, Bool.not_false, Bool.and_true]), .refl _⟩))
        by_cases h10 : (10 : Int) < (n : Int)
        · by_cases h24 : (n : Int) ≤ 24
          · have hm : midB n = true := by rw [hmid, decide_eq_true h10, decide_eq_true h24]; rfl
            refine setup42.ifW (by kernel_rfl) (by simp only [List.map_cons, List.map_nil]; rfl) (by simp only [qB, qC, qD, qE, qF, qG, qH, qJ, qK, qM, qN, qP, iop1, qR, qS, iop, qT, qV, qW, qX, qY, qZ, zA, Option.getD_some, zB, zC, zD, zE, zF, zG, zH, zJ, zK, zM, zN, Step1.ofO, lenC, callF, zP, zR, zS, zT, zV, cond_true, cond_false, decide_true, decide_false, beq_self_eq_true, Bool.false_eq_true, Bool.true_eq_false, zW, zX, zY, zZ, Bool.not_true, Bool.not_false, appC, copyC, yA, List.map_cons, List.map_nil, goInt, lenB_slice u25, decide_eq_true h10, decide_eq_true h24]; rfl) (by kernel_rfl) (by simp only [qT, qX, qY, Option.getD_some]; rfl) (fun _ => ?_) (fun ht3 => by cases ht3)
            exact setup42.regE 0 (by kernel_rfl) (by simp only [List.map_cons, List.map_nil]; rfl) (by simp only [qB, qC, qD, qE, qF, qG, qH, qJ, qK, qM, qN, qP, iop1, qR, qS, iop, qT, qV, qW, qX, qY, qZ, zA, Option.getD_some, zB, zC, zD, zE, zF, zG, zH, zJ, zK, zM, zN, Step1.ofO, lenC, callF, zP, zR, zS, zT, zV, cond_true, cond_false, decide_true, decide_false, beq_self_eq_true, Bool.false_eq_true, Bool.true_eq_false, zW, zX, zY, zZ, Bool.not_true, Bool.not_false, appC, copyC, yA, List.map_cons, List.map_nil, goInt]; rfl) (.ret (ST.rt ⟨.inr rfl, ires_tmp rfl (by simp only [qX, qY, hm, Bool.not_true, Bool.false_and]), .refl _⟩))
          · have hm : midB n = false := by rw [hmid, decide_eq_true h10, decide_eq_false h24]; rfl
            exact setup42.ifW (by kernel_rfl) (by simp only [List.map_cons, List.map_nil]; rfl) (by simp only [qB, qC, qD, qE, qF, qG, qH, qJ, qK, qM, qN, qP, iop1, qR, qS, iop, qT, qV, qW, qX, qY, qZ, zA, Option.getD_some, zB, zC, zD, zE, zF, zG, zH, zJ, zK, zM, zN, Step1.ofO, lenC, callF, zP, zR, zS, zT, zV, cond_true, cond_false, decide_true, decide_false, beq_self_eq_true, Bool.false_eq_true, Bool.true_eq_false, zW, zX, zY, zZ, Bool.not_true, Bool.not_false, appC, copyC, yA, List.map_cons, List.map_nil, goInt, lenB_slice u25, decide_eq_true h10, decide_eq_false h24]; rfl) (by kernel_rfl) (by simp only [qT, qX, qY, Option.getD_some]; rfl) (fun ht3 => by cases ht3) (fun _ => .skip (ST.go (.pre (by repeat (first | exact WkL.nil | refine WkL.same ?_ | refine WkL.any ?_)) (tail _ _ ⟨rfl, rfl, hm⟩))))
        · have hm : midB n = false := by rw [hmid, decide_eq_false h10]; rfl
          exact setup42.ifW (by kernel_rfl) (by simp only [List.map_cons, List.map_nil]; rfl) (by simp only [qB, qC, qD, qE, qF, qG, qH, qJ, qK, qM, qN, qP, iop1, qR, qS, iop, qT, qV, qW, qX, qY, qZ, zA, Option.getD_some, zB, zC, zD, zE, zF, zG, zH, zJ, zK, zM, zN, Step1.ofO, lenC, callF, zP, zR, zS, zT, zV, cond_true, cond_false, decide_true, decide_false, beq_self_eq_true, Bool.false_eq_true, Bool.true_eq_false, zW, zX, zY, zZ, Bool.not_true, Bool.not_false, appC, copyC, yA, List.map_cons, List.map_nil, goInt, lenB_slice u25, decide_eq_false h10]; rfl) (by kernel_rfl) (by simp only [qT, qX, qY, Option.getD_some]; rfl) (fun ht3 => by cases ht3) (fun _ => .skip (ST.go (.pre (by repeat (first | exact WkL.nil | refine WkL.same ?_ | refine WkL.any ?_)) (tail _ _ ⟨rfl, rfl, hm⟩))))
    · cases hk
  · cases hk
end Go.Proofs.YtpdlblofcdcikaaGreatDoor
