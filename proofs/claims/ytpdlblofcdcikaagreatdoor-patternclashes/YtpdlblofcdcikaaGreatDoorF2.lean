/- Contracts of the chapter's small functions: a list of errors, a search in a list. Conditions: none. -/
import Derived.Test.YtpdlblofcdcikaaGreatDoorIdlJ
import Derived.Test.YtpdlblofcdcikaaGreatDoorF1
set_option linter.unusedSimpArgs false
set_option linter.unusedVariables false
namespace Go.Proofs.YtpdlblofcdcikaaGreatDoor
open Go.Idl

/-! 87: first -/
def firstNZ : List Int → Int
  | [] => 0
  | z :: r => cond (z != 0) z (firstNZ r)
theorem firstNZ_drop {zs : List Int} {i : Nat} {z : Int} (h : zs[i]? = some z) : firstNZ (zs.drop i) = cond (z != 0) z (firstNZ (zs.drop (i + 1))) := by
  have hlt : i < zs.length := (List.getElem?_eq_some_iff.1 h).1
  have e : zs[i] = z := (List.getElem?_eq_some_iff.1 h).2
  rw [List.drop_eq_getElem_cons hlt, e]; rfl
noncomputable def k87 (args : List Value) (H : IH) : Option Value := match args with
  | [v] => (intsOf H v).map fun zs => .int .i64 (firstNZ zs)
  | _ => none
noncomputable def nat8 : Nats := addNat nat7 87 k87
set_option maxRecDepth 10000 in
theorem setup8 : Setup Tryz.prog good nat8 (globG 3) := by
  refine plainN setup7 k87 Tryz.func87 rfl rfl fun args H v hk => ?_
  unfold k87 at hk
  split at hk
  · rename_i u
    obtain ⟨zs, hz, rfl⟩ := Option.map_eq_some_iff.1 hk
    obtain ⟨a, c, rfl, hlen, hget⟩ := intsOf_inv hz
    refine ⟨rfl, ?_⟩
    show Holds _ _ false _ [.slice a zs.length c, undef, undef, undef, undef, undef, undef, undef, undef, undef, undef, undef, undef, undef, undef] H _
    refine setup7.regE 0 (by kernel_rfl) (by simp only [List.map_cons, List.map_nil]; rfl) (by simp only [qB, qC, qD, qE, qF, qG, qH, qJ, qK, qM, qN, qP, iop1, qR, qS, iop, qT, qV, qW, qX, qY, qZ, zA, Option.getD_some, zB, zC,
    zD, zE, zF, zG, zH, zJ, zK, zM, zN, Step1.ofO, lenC, callF, zP, zR, zS, zT, zV, cond_true, cond_false, decide_true, decide_false, beq_self_eq_true, Bool.false_eq_true, Bool.true_eq_false, zW, zX, zY, zZ, Bool.not_true, Bool.not_false]; rfl) ?_
    refine .seqX (R1 := fun e h => ∃ x4 x8 x9 x10 x11 x12 x13 x14, e = [.slice a zs.length c, undef, .int .i64 0, undef, x4, .slice a zs.length c, .int .i64 zs.length, .int .i64 zs.length, x8, x9, x10, x11, x12, x13, x14] ∧ h = H ∧ firstNZ zs = 0) (Q1 := fun o => iresults Tryz.prog Tryz.f87 o.env o.H = some (.int .i64 (firstNZ zs)) ∧ Old H o.H) ?_ (fun o h1 h2 => ⟨.inr h1, h2⟩) ?_
    · refine setup7.regE 0 (by kernel_rfl) (by simp only [List.map_cons, List.map_nil]; rfl) (by simp only [qB, qC, qD, qE, qF, qG, qH, qJ, qK, qM, qN, qP, iop1, qR, qS, iop, qT, qV, qW, qX, qY, qZ, zA, Option.getD_some, zB, zC,
    zD, zE, zF, zG, zH, zJ, zK, zM, zN, Step1.ofO, lenC, callF, zP, zR, zS, zT, zV, cond_true, cond_false, decide_true, decide_false, beq_self_eq_true, Bool.false_eq_true, Bool.true_eq_false, zW, zX, zY, zZ, Bool.not_true, Bool.not_false, lenB_slice u172, goInt]; rfl) ?_
      refine .forR (fun m e h => ∃ i x4 x8 x9 x10 x11 x12 x13 x14, i ≤ zs.length ∧ m = zs.length - i ∧ e = [.slice a zs.length c, undef, .int .i64 0, undef, x4, .slice a zs.length c, .int .i64 zs.length, .int .i64 (i : Nat), x8, x9, x10, x11, x12, x13, x14] ∧ h = H ∧ firstNZ (zs.drop i) = firstNZ zs)
        ⟨0, _, _, _, _, _, _, _, _, Nat.zero_le _, rfl, rfl, rfl, rfl⟩ ?_
      rintro m env H1 ⟨i, x4, x8, x9, x10, x11, x12, x13, x14, hi, rfl, rfl, rfl, hf⟩
      refine setup7.head1 0 (by kernel_rfl) (by simp only [List.map_cons, List.map_nil]; rfl) (by simp only [qB, qC, qD, qE, qF, qG, qH, qJ, qK, qM, qN, qP, iop1, qR, qS, iop, qT, qV, qW, qX, qY, qZ, zA, Option.getD_some, zB, zC,
    zD, zE, zF, zG, zH, zJ, zK, zM, zN, Step1.ofO, lenC, callF, zP, zR, zS, zT, zV, cond_true, cond_false, decide_true, decide_false, beq_self_eq_true, Bool.false_eq_true, Bool.true_eq_false, zW, zX, zY, zZ, Bool.not_true, Bool.not_false]; rfl) (by kernel_rfl) (by simp only [qT, qX, qY, Option.getD_some]; rfl) (fun ht => ?_) (fun ht => ?_)
      · have hlt : i < zs.length := by simpa using ht
        have hz1 : zs[i]? = some zs[i] := List.getElem?_eq_getElem hlt
        generalize zs[i] = z at hz1
        rw [firstNZ_drop hz1] at hf
        obtain ⟨b, o, sp, rfl, hload⟩ := hget i z hz1
        have hidx := index_slice (k := .i64) (b := b) (o := o) (cap := c) (sp := sp) u172 sz29 (Int.natCast_nonneg i) (Int.ofNat_lt.2 hlt)
        have hld := load_one ag29 hload
        simp only [Int.toNat_natCast] at hidx
        refine .seqX (R1 := fun e h => z = 0 ∧ ∃ x4 x8 x9 x10 x11 x12 x13 x14, e = [.slice (some ⟨b, o, sp⟩) zs.length c, undef, .int .i64 0, undef, x4, .slice (some ⟨b, o, sp⟩) zs.length c, .int .i64 zs.length, .int .i64 (i : Nat), x8, x9, x10, x11, x12, x13, x14] ∧ h = H1) (.blockR ?_) (fun o h1 h2 => .inr (.inr ⟨h1, h2⟩)) ?_
        · refine setup7.regE 0 (by kernel_rfl) (by simp only [List.map_cons, List.map_nil]; rfl) (by simp only [qB, qC, qD, qE, qF, qG, qH, qJ, qK, qM, qN, qP, iop1, qR, qS, iop, qT, qV, qW, qX, qY, qZ, zA, Option.getD_some, zB, zC,
    zD, zE, zF, zG, zH, zJ, zK, zM, zN, Step1.ofO, lenC, callF, zP, zR, zS, zT, zV, cond_true, cond_false, decide_true, decide_false, beq_self_eq_true, Bool.false_eq_true, Bool.true_eq_false, zW, zX, zY, zZ, Bool.not_true, Bool.not_false, hidx, hld]; rfl) ?_
          refine setup7.ifEnd 0 (by kernel_rfl) (by simp only [List.map_cons, List.map_nil]; rfl) (by simp only [qB, qC, qD, qE, qF, qG, qH, qJ, qK, qM, qN, qP, iop1, qR, qS, iop, qT, qV, qW, qX, qY, qZ, zA, Option.getD_some, zB, zC,
    zD, zE, zF, zG, zH, zJ, zK, zM, zN, Step1.ofO, lenC, callF, zP, zR, zS, zT, zV, cond_true, cond_false, decide_true, decide_false, beq_self_eq_true, Bool.false_eq_true, Bool.true_eq_false, zW, zX, zY, zZ, Bool.not_true, Bool.not_false]; rfl) (by kernel_rfl) (by simp only [qT, qX, qY, Option.getD_some]; rfl) (fun ht => ?_) (fun ht => ?_)
          · refine setup7.regE 0 (by kernel_rfl) (by simp only [List.map_cons, List.map_nil]; rfl) (by simp only [qB, qC, qD, qE, qF, qG, qH, qJ, qK, qM, qN, qP, iop1, qR, qS, iop, qT, qV, qW, qX, qY, qZ, zA, Option.getD_some, zB, zC,
    zD, zE, zF, zG, zH, zJ, zK, zM, zN, Step1.ofO, lenC, callF, zP, zR, zS, zT, zV, cond_true, cond_false, decide_true, decide_false, beq_self_eq_true, Bool.false_eq_true, Bool.true_eq_false, zW, zX, zY, zZ, Bool.not_true, Bool.not_false]; rfl) (.ret (.inr ⟨rfl, ires_tmp rfl ?_, .refl _⟩))
            rw [ht] at hf
            simp only [qX, qY, ← hf, cond_true]
          · exact .inl ⟨rfl, by simpa using ht, _, _, _, _, _, _, _, _, rfl, rfl⟩
        · rintro e h ⟨rfl, x4, x8, x9, x10, x11, x12, x13, x14, rfl, rfl⟩
          refine setup7.regZ 0 (by kernel_rfl) (by simp only [List.map_cons, List.map_nil]; rfl) (by simp only [qB, qC, qD, qE, qF, qG, qH, qJ, qK, qM, qN, qP, iop1, qR, qS, iop, qT, qV, qW, qX, qY, qZ, zA, Option.getD_some, zB, zC,
    zD, zE, zF, zG, zH, zJ, zK, zM, zN, Step1.ofO, lenC, callF, zP, zR, zS, zT, zV, cond_true, cond_false, decide_true, decide_false, beq_self_eq_true, Bool.false_eq_true, Bool.true_eq_false, zW, zX, zY, zZ, Bool.not_true, Bool.not_false, wrap_succ hlt hlen]; rfl) (.inl ⟨rfl, zs.length - (i + 1), by omega, i + 1, _, _, _, _, _, _, _, _, by omega, rfl, rfl, rfl, ?_⟩)
          simpa using hf
      · have hge : i = zs.length := by simp at ht; omega
        subst hge
        refine .inr (.inl ⟨rfl, _, _, _, _, _, _, _, _, rfl, rfl, ?_⟩)
        rw [← hf]; simp [firstNZ]
    · rintro e h ⟨x4, x8, x9, x10, x11, x12, x13, x14, rfl, rfl, hf⟩
      exact setup7.regE 0 (by kernel_rfl) (by simp only [List.map_cons, List.map_nil]; rfl) (by simp only [qB, qC, qD, qE, qF, qG, qH, qJ, qK, qM, qN, qP, iop1, qR, qS, iop, qT, qV, qW, qX, qY, qZ, zA, Option.getD_some, zB, zC,
    zD, zE, zF, zG, zH, zJ, zK, zM, zN, Step1.ofO, lenC, callF, zP, zR, zS, zT, zV, cond_true, cond_false, decide_true, decide_false, beq_self_eq_true, Bool.false_eq_true, Bool.true_eq_false, zW, zX, zY, zZ, Bool.not_true, Bool.not_false]; rfl) (.ret ⟨.inr rfl, ires_tmp rfl (by simp only [qX, qY, hf]), .refl _⟩)
  · cases hk
theorem e87 : enters Tryz.prog 87 = true := by kernel_rfl

/-! 140: no colour -/
noncomputable def k140 (args : List Value) (_ : IH) : Option Value := match args with
  | [.int .i64 n] => some (.bool (!(decide (0 ≤ n) && decide (n < 8))))
  | _ => none
noncomputable def nat9 : Nats := addNat nat8 140 k140
theorem n124' : nat8 124 = some (ofK k124) := rfl
set_option maxRecDepth 10000 in
theorem setup9 : Setup Tryz.prog good nat9 (globG 3) := by
  refine plainN setup8 k140 Tryz.func140 rfl rfl fun args H v hk => ?_
  unfold k140 at hk
  split at hk
  · rename_i n
    cases hk
    refine ⟨rfl, ?_⟩
    show Holds _ _ false _ [.int .i64 n, undef, undef, undef, undef, undef] H _
    refine setup8.regE 0 (by kernel_rfl) (by simp only [List.map_cons, List.map_nil]; rfl) (by simp only [qB, qC, qD, qE, qF, qG, qH, qJ, qK, qM, qN, qP, iop1, qR, qS, iop, qT, qV, qW, qX, qY, qZ, zA, Option.getD_some, zB, zC,
    zD, zE, zF, zG, zH, zJ, zK, zM, zN, Step1.ofO, lenC, callF, zP, zR, zS, zT, zV, cond_true, cond_false, decide_true, decide_false, beq_self_eq_true, Bool.false_eq_true, Bool.true_eq_false, zW, zX, zY, zZ, Bool.not_true, Bool.not_false]; rfl) ?_
    exact setup8.regE 0 (by kernel_rfl) (by simp only [List.map_cons, List.map_nil]; rfl) (by simp only [qB, qC, qD, qE, qF, qG, qH, qJ, qK, qM, qN, qP, iop1, qR, qS, iop, qT, qV, qW, qX, qY, qZ, zA, Option.getD_some, zB, zC,
    zD, zE, zF, zG, zH, zJ, zK, zM, zN, Step1.ofO, lenC, callF, zP, zR, zS, zT, zV, cond_true, cond_false, decide_true, decide_false, beq_self_eq_true, Bool.false_eq_true, Bool.true_eq_false, zW, zX, zY, zZ, Bool.not_true, Bool.not_false, e124, enter_k n124', ofK, k124]; rfl) (.ret ⟨.inr rfl, ires_tmp rfl (by simp only [qX, qY]), .refl _⟩)
  · cases hk

/-! 86: out of a scheme -/
noncomputable def k86 (args : List Value) (H : IH) : Option Value := match args with
  | [.int .i64 c, p] => (match iloadAt Tryz.prog 3 p H with
    | some (.int .i64 n) => some (.bool (c == 0 || (decide (c ≤ IntKind.i64.wrap (0 - n)) || decide (n ≤ c))))
    | _ => none)
  | _ => none
noncomputable def nat10 : Nats := addNat nat9 86 k86
set_option maxRecDepth 10000 in
theorem setup10 : Setup Tryz.prog good nat10 (globG 3) := by
  refine plainN setup9 k86 Tryz.func86 rfl rfl fun args H v hk => ?_
  unfold k86 at hk
  split at hk
  · rename_i c p
    split at hk
    · rename_i n hn
      cases hk
      refine ⟨rfl, ?_⟩
      show Holds _ _ false _ [.int .i64 c, p, undef, undef, undef, undef, undef, undef, undef, undef, undef, undef, undef, undef, undef, undef, undef] H _
      refine setup9.regE 0 (by kernel_rfl) (by simp only [List.map_cons, List.map_nil]; rfl) (by simp only [qB, qC, qD, qE, qF, qG, qH, qJ, qK, qM, qN, qP, iop1, qR, qS, iop, qT, qV, qW, qX, qY, qZ, zA, Option.getD_some, zB, zC,
    zD, zE, zF, zG, zH, zJ, zK, zM, zN, Step1.ofO, lenC, callF, zP, zR, zS, zT, zV, cond_true, cond_false, decide_true, decide_false, beq_self_eq_true, Bool.false_eq_true, Bool.true_eq_false, zW, zX, zY, zZ, Bool.not_true, Bool.not_false]; rfl) ?_
      by_cases h1 : c = 0
      · subst h1
        exact setup9.regE 0 (by kernel_rfl) (by simp only [List.map_cons, List.map_nil]; rfl) (by simp only [qB, qC, qD, qE, qF, qG, qH, qJ, qK, qM, qN, qP, iop1, qR, qS, iop, qT, qV, qW, qX, qY, qZ, zA, Option.getD_some, zB, zC,
    zD, zE, zF, zG, zH, zJ, zK, zM, zN, Step1.ofO, lenC, callF, zP, zR, zS, zT, zV, cond_true, cond_false, decide_true, decide_false, beq_self_eq_true, Bool.false_eq_true, Bool.true_eq_false, zW, zX, zY, zZ, Bool.not_true, Bool.not_false]; rfl) (.ret ⟨.inr rfl, ires_tmp rfl (by simp only [qX, qY]; simp), .refl _⟩)
      · have h1' : (c == 0) = false := by simpa using h1
        by_cases h2 : c ≤ IntKind.i64.wrap (0 - n)
        · exact setup9.regE 0 (by kernel_rfl) (by simp only [List.map_cons, List.map_nil]; rfl) (by simp only [qB, qC, qD, qE, qF, qG, qH, qJ, qK, qM, qN, qP, iop1, qR, qS, iop, qT, qV, qW, qX, qY, qZ, zA, Option.getD_some, zB, zC,
    zD, zE, zF, zG, zH, zJ, zK, zM, zN, Step1.ofO, lenC, callF, zP, zR, zS, zT, zV, cond_true, cond_false, decide_true, decide_false, beq_self_eq_true, Bool.false_eq_true, Bool.true_eq_false, zW, zX, zY, zZ, Bool.not_true, Bool.not_false, h1', h2, hn]; rfl) (.ret ⟨.inr rfl, ires_tmp rfl (by simp only [qX, qY, h1', h2, decide_true, Bool.false_or, Bool.true_or]), .refl _⟩)
        · exact setup9.regE 0 (by kernel_rfl) (by simp only [List.map_cons, List.map_nil]; rfl) (by simp only [qB, qC, qD, qE, qF, qG, qH, qJ, qK, qM, qN, qP, iop1, qR, qS, iop, qT, qV, qW, qX, qY, qZ, zA, Option.getD_some, zB, zC,
    zD, zE, zF, zG, zH, zJ, zK, zM, zN, Step1.ofO, lenC, callF, zP, zR, zS, zT, zV, cond_true, cond_false, decide_true, decide_false, beq_self_eq_true, Bool.false_eq_true, Bool.true_eq_false, zW, zX, zY, zZ, Bool.not_true, Bool.not_false, h1', h2, hn]; rfl) (.ret ⟨.inr rfl, ires_tmp rfl (by simp only [qX, qY, h1', h2, decide_false, Bool.false_or]), .refl _⟩)
    · cases hk
  · cases hk

/-! 139: slices.IndexFunc, at these two functions -/
noncomputable def clo (H : IH) (f : Value) : Option (Int → Bool) := match f with
  | .func (.func 140) first captured => if first.size = 0 ∧ captured.size = 0 then some (fun n => !(decide (0 ≤ n) && decide (n < 8))) else none
  | .func (.func 86) first captured => if first.size = 0 ∧ captured.size = 1 then (match iloadAt Tryz.prog 3 (captured.getD 0 undef) H with
    | some (.int .i64 n) => some (fun c => c == 0 || (decide (c ≤ IntKind.i64.wrap (0 - n)) || decide (n ≤ c)))
    | _ => none) else none
  | _ => none
theorem e140 : enters Tryz.prog 140 = true := by kernel_rfl
theorem e86 : enters Tryz.prog 86 = true := by kernel_rfl
theorem clo_call {H : IH} {f : Value} {p : Int → Bool} (h : clo H f = some p) {o : Oper} {x y : Operand} {ts : Array TypeId} {env : Env} {z : Int} (hx : env.val x = f) (hy : env.val y = .int .i64 z) {run : Job → IH → T Out} :
    step1T run nat10 (icallOp Tryz.prog o ⟨.value x, #[y], ts⟩ env H) = .ret (.bool (p z), H) := by
  unfold clo at h
  split at h
  · rename_i first captured
    split at h
    · rename_i hs
      cases h
      obtain ⟨h1, h2⟩ := hs
      have e1 : first = #[] := Array.eq_empty_of_size_eq_zero h1
      have e2 : captured = #[] := Array.eq_empty_of_size_eq_zero h2
      subst e1 e2
      rw [call_func hx e140, qS, enter_k (k := k140) rfl]
      show ofK k140 [env.val y] H = _
      rw [hy]; rfl
    · cases h
  · rename_i first captured
    split at h
    · rename_i hs
      obtain ⟨h1, h2⟩ := hs
      have e1 : first = #[] := Array.eq_empty_of_size_eq_zero h1
      subst e1
      obtain ⟨q, rfl⟩ : ∃ q, captured = #[q] := ⟨captured[0], by apply Array.ext (by simpa using h2); intro i h3 h4; simp at h4; subst h4; rfl⟩
      split at h
      · rename_i n hn
        cases h
        have hn' : iloadAt Tryz.prog 3 q H = some (.int .i64 n) := hn
        rw [call_func hx e86, qS, enter_k (k := k86) rfl]
        show ofK k86 [env.val y, q] H = _
        rw [hy]
        exact ofK_some (by simp only [k86, hn'])
      · cases h
    · cases h
  · cases h
def idxOf (p : Int → Bool) : List Int → Int → Int
  | [], _ => -1
  | z :: r, i => cond (p z) i (idxOf p r (i + 1))
theorem idxOf_drop {p : Int → Bool} {zs : List Int} {i : Nat} {z : Int} (h : zs[i]? = some z) (j : Int) : idxOf p (zs.drop i) j = cond (p z) j (idxOf p (zs.drop (i + 1)) (j + 1)) := by
  have hlt : i < zs.length := (List.getElem?_eq_some_iff.1 h).1
  have e : zs[i] = z := (List.getElem?_eq_some_iff.1 h).2
  rw [List.drop_eq_getElem_cons hlt, e]; rfl
noncomputable def k139 (args : List Value) (H : IH) : Option Value := match args with
  | [v, f] => (match intsOf H v, clo H f with
    | some zs, some p => some (.int .i64 (idxOf p zs 0))
    | _, _ => none)
  | _ => none
noncomputable def nat11 : Nats := addNat nat10 139 k139
set_option maxRecDepth 10000 in
theorem setup11 : Setup Tryz.prog good nat11 (globG 3) := by
  refine plainN setup10 k139 Tryz.func139 rfl rfl fun args H v hk => ?_
  unfold k139 at hk
  split at hk
  · rename_i u fv
    split at hk
    · rename_i zs p hz hp
      cases hk
      obtain ⟨a, c, rfl, hlen, hget⟩ := intsOf_inv hz
      refine ⟨rfl, ?_⟩
      show Holds _ _ false _ [.slice a zs.length c, fv, undef, undef, undef, undef, undef, undef, undef, undef, undef, undef, undef, undef, undef, undef, undef, undef, undef] H _
      refine setup10.regE 0 (by kernel_rfl) (by simp only [List.map_cons, List.map_nil]; rfl) (by simp only [qB, qC, qD, qE, qF, qG, qH, qJ, qK, qM, qN, qP, iop1, qR, qS, iop, qT, qV, qW, qX, qY, qZ, zA, Option.getD_some, zB, zC,
    zD, zE, zF, zG, zH, zJ, zK, zM, zN, Step1.ofO, lenC, callF, zP, zR, zS, zT, zV, cond_true, cond_false, decide_true, decide_false, beq_self_eq_true, Bool.false_eq_true, Bool.true_eq_false, zW, zX, zY, zZ, Bool.not_true, Bool.not_false]; rfl) ?_
      refine .seqX (R1 := fun e h => ∃ x5 x9 x10 x11 x12 x13 x14 x15 x16 x17 x18, e = [.slice a zs.length c, fv, undef, undef, .int .i64 0, x5, .slice a zs.length c, .int .i64 zs.length, .int .i64 zs.length, x9, x10, x11, x12, x13, x14, x15, x16, x17, x18] ∧ h = H ∧ idxOf p zs 0 = -1) (Q1 := fun o => iresults Tryz.prog Tryz.f139 o.env o.H = some (.int .i64 (idxOf p zs 0)) ∧ Old H o.H) ?_ (fun o h1 h2 => ⟨.inr h1, h2⟩) ?_
      · refine setup10.regE 0 (by kernel_rfl) (by simp only [List.map_cons, List.map_nil]; rfl) (by simp only [qB, qC, qD, qE, qF, qG, qH, qJ, qK, qM, qN, qP, iop1, qR, qS, iop, qT, qV, qW, qX, qY, qZ, zA, Option.getD_some, zB, zC,
    zD, zE, zF, zG, zH, zJ, zK, zM, zN, Step1.ofO, lenC, callF, zP, zR, zS, zT, zV, cond_true, cond_false, decide_true, decide_false, beq_self_eq_true, Bool.false_eq_true, Bool.true_eq_false, zW, zX, zY, zZ, Bool.not_true, Bool.not_false, lenB_slice u22, goInt]; rfl) ?_
        refine .forR (fun m e h => ∃ i x5 x9 x10 x11 x12 x13 x14 x15 x16 x17 x18, i ≤ zs.length ∧ m = zs.length - i ∧ e = [.slice a zs.length c, fv, undef, undef, .int .i64 0, x5, .slice a zs.length c, .int .i64 zs.length, .int .i64 (i : Nat), x9, x10, x11, x12, x13, x14, x15, x16, x17, x18] ∧ h = H ∧ idxOf p (zs.drop i) (i : Nat) = idxOf p zs 0)
          ⟨0, _, _, _, _, _, _, _, _, _, _, _, Nat.zero_le _, rfl, rfl, rfl, rfl⟩ ?_
        rintro m env H1 ⟨i, x5, x9, x10, x11, x12, x13, x14, x15, x16, x17, x18, hi, rfl, rfl, rfl, hf⟩
        refine setup10.head1 0 (by kernel_rfl) (by simp only [List.map_cons, List.map_nil]; rfl) (by simp only [qB, qC, qD, qE, qF, qG, qH, qJ, qK, qM, qN, qP, iop1, qR, qS, iop, qT, qV, qW, qX, qY, qZ, zA, Option.getD_some, zB, zC,
    zD, zE, zF, zG, zH, zJ, zK, zM, zN, Step1.ofO, lenC, callF, zP, zR, zS, zT, zV, cond_true, cond_false, decide_true, decide_false, beq_self_eq_true, Bool.false_eq_true, Bool.true_eq_false, zW, zX, zY, zZ, Bool.not_true, Bool.not_false]; rfl) (by kernel_rfl) (by simp only [qT, qX, qY, Option.getD_some]; rfl) (fun ht => ?_) (fun ht => ?_)
        · have hlt : i < zs.length := by simpa using ht
          have hz1 : zs[i]? = some zs[i] := List.getElem?_eq_getElem hlt
          generalize zs[i] = z at hz1
          rw [idxOf_drop hz1] at hf
          obtain ⟨b, o, sp, rfl, hload⟩ := hget i z hz1
          have hidx := index_slice (k := .i64) (b := b) (o := o) (cap := c) (sp := sp) u22 sz3 (Int.natCast_nonneg i) (Int.ofNat_lt.2 hlt)
          have hld := load_one ag3 hload
          simp only [Int.toNat_natCast] at hidx
          refine .seqX (R1 := fun e h => p z = false ∧ ∃ x5 x9 x10 x11 x12 x13 x14 x15 x16 x17 x18, e = [.slice (some ⟨b, o, sp⟩) zs.length c, fv, undef, undef, .int .i64 0, x5, .slice (some ⟨b, o, sp⟩) zs.length c, .int .i64 zs.length, .int .i64 (i : Nat), x9, x10, x11, x12, x13, x14, x15, x16, x17, x18] ∧ h = H1) (.blockR ?_) (fun o h1 h2 => .inr (.inr ⟨h1, h2⟩)) ?_
          · refine setup10.regE 0 (by kernel_rfl) (by simp only [List.map_cons, List.map_nil]; rfl) (by simp only [qB, qC, qD, qE, qF, qG, qH, qJ, qK, qM, qN, qP, iop1, qR, qS, iop, qT, qV, qW, qX, qY, qZ, zA, Option.getD_some, zB, zC,
    zD, zE, zF, zG, zH, zJ, zK, zM, zN, Step1.ofO, lenC, callF, zP, zR, zS, zT, zV, cond_true, cond_false, decide_true, decide_false, beq_self_eq_true, Bool.false_eq_true, Bool.true_eq_false, zW, zX, zY, zZ, Bool.not_true, Bool.not_false]; rfl) ?_
            refine setup10.ifEnd (t := p z) (env1 := [.slice (some ⟨b, o, sp⟩) zs.length c, fv, undef, undef, .int .i64 0, .int .i64 (i : Nat), .slice (some ⟨b, o, sp⟩) zs.length c, .int .i64 zs.length, .int .i64 (i : Nat), .bool (decide (((i : Nat) : Int) < (zs.length : Int))), .int .i64 (i : Nat), fv, .slice (some ⟨b, o, sp⟩) zs.length c, .int .i64 (i : Nat), .pointer (some ⟨b, o + i, none⟩), .int .i64 z, .bool (p z), x17, x18]) (H1 := H1) 0 (by kernel_rfl) (by simp only [List.map_cons, List.map_nil]; rfl) ?_ (by kernel_rfl) rfl (fun ht => ?_) (fun ht => ?_)
            · simp only [qB, qC, qD, qE, qF, qG, qH, qJ, qK, qM, qN, qP, iop1, qR, qS, iop, qT, qV, qW, qX, qY, qZ, zA, Option.getD_some, zB, zC,
    zD, zE, zF, zG, zH, zJ, zK, zM, zN, Step1.ofO, lenC, callF, zP, zR, zS, zT, zV, cond_true, cond_false, decide_true, decide_false, beq_self_eq_true, Bool.false_eq_true, Bool.true_eq_false, zW, zX, zY, zZ, Bool.not_true, Bool.not_false, hidx, hld]
              rw [clo_call hp rfl rfl]
              simp only [qB, qC, qD, qE, qF, qG, qH, qJ, qK, qM, qN, qP, iop1, qR, qS, iop, qT, qV, qW, qX, qY, qZ, zA, Option.getD_some, zB, zC,
    zD, zE, zF, zG, zH, zJ, zK, zM, zN, Step1.ofO, lenC, callF, zP, zR, zS, zT, zV, cond_true, cond_false, decide_true, decide_false, beq_self_eq_true, Bool.false_eq_true, Bool.true_eq_false, zW, zX, zY, zZ, Bool.not_true, Bool.not_false]
            · refine setup10.regE 0 (by kernel_rfl) (by simp only [List.map_cons, List.map_nil]; rfl) (by simp only [qB, qC, qD, qE, qF, qG, qH, qJ, qK, qM, qN, qP, iop1, qR, qS, iop, qT, qV, qW, qX, qY, qZ, zA, Option.getD_some, zB, zC,
    zD, zE, zF, zG, zH, zJ, zK, zM, zN, Step1.ofO, lenC, callF, zP, zR, zS, zT, zV, cond_true, cond_false, decide_true, decide_false, beq_self_eq_true, Bool.false_eq_true, Bool.true_eq_false, zW, zX, zY, zZ, Bool.not_true, Bool.not_false]; rfl) (.ret (.inr ⟨rfl, ires_tmp rfl ?_, .refl _⟩))
              rw [ht] at hf
              simp only [qX, qY, ← hf, cond_true]
            · exact .inl ⟨rfl, ht, _, _, _, _, _, _, _, _, _, _, _, rfl, rfl⟩
          · rintro e h ⟨hpz, x5, x9, x10, x11, x12, x13, x14, x15, x16, x17, x18, rfl, rfl⟩
            refine setup10.regZ 0 (by kernel_rfl) (by simp only [List.map_cons, List.map_nil]; rfl) (by simp only [qB, qC, qD, qE, qF, qG, qH, qJ, qK, qM, qN, qP, iop1, qR, qS, iop, qT, qV, qW, qX, qY, qZ, zA, Option.getD_some, zB, zC,
    zD, zE, zF, zG, zH, zJ, zK, zM, zN, Step1.ofO, lenC, callF, zP, zR, zS, zT, zV, cond_true, cond_false, decide_true, decide_false, beq_self_eq_true, Bool.false_eq_true, Bool.true_eq_false, zW, zX, zY, zZ, Bool.not_true, Bool.not_false, wrap_succ hlt hlen]; rfl) (.inl ⟨rfl, zs.length - (i + 1), by omega, i + 1, _, _, _, _, _, _, _, _, _, _, _, by omega, rfl, rfl, rfl, ?_⟩)
            rw [← hf, hpz]; rfl
        · have hge : i = zs.length := by simp at ht; omega
          subst hge
          refine .inr (.inl ⟨rfl, _, _, _, _, _, _, _, _, _, _, _, rfl, rfl, ?_⟩)
          rw [← hf]; simp [idxOf]
      · rintro e h ⟨x5, x9, x10, x11, x12, x13, x14, x15, x16, x17, x18, rfl, rfl, hf⟩
        exact setup10.regE 0 (by kernel_rfl) (by simp only [List.map_cons, List.map_nil]; rfl) (by simp only [qB, qC, qD, qE, qF, qG, qH, qJ, qK, qM, qN, qP, iop1, qR, qS, iop, qT, qV, qW, qX, qY, qZ, zA, Option.getD_some, zB, zC,
    zD, zE, zF, zG, zH, zJ, zK, zM, zN, Step1.ofO, lenC, callF, zP, zR, zS, zT, zV, cond_true, cond_false, decide_true, decide_false, beq_self_eq_true, Bool.false_eq_true, Bool.true_eq_false, zW, zX, zY, zZ, Bool.not_true, Bool.not_false]; rfl) (.ret ⟨.inr rfl, ires_tmp rfl (by simp only [qX, qY, hf]), .refl _⟩)
    · cases hk
  · cases hk
theorem e139 : enters Tryz.prog 139 = true := by kernel_rfl
theorem n139 : nat11 139 = some (ofK k139) := rfl

/-! 85: slices.ContainsFunc -/
theorem idxOf_any (p : Int → Bool) : ∀ (zs : List Int) (i : Int), 0 ≤ i → decide (0 ≤ idxOf p zs i) = zs.any p
  | [], i, _ => by simp [idxOf]
  | z :: r, i, h => by
    unfold idxOf
    rw [List.any_cons]
    cases p z with
    | true => simp [h]
    | false => simp only [cond_false, Bool.false_or]; exact idxOf_any p r (i + 1) (by omega)
noncomputable def k85 (args : List Value) (H : IH) : Option Value := match args with
  | [v, f] => (match intsOf H v, clo H f with
    | some zs, some p => some (.bool (zs.any p))
    | _, _ => none)
  | _ => none
noncomputable def nat12 : Nats := addNat nat11 85 k85
set_option maxRecDepth 10000 in
theorem setup12 : Setup Tryz.prog good nat12 (globG 3) := by
  refine plainN setup11 k85 Tryz.func85 rfl rfl fun args H v hk => ?_
  unfold k85 at hk
  split at hk
  · rename_i u fv
    split at hk
    · rename_i zs p hz hp
      cases hk
      refine ⟨rfl, ?_⟩
      show Holds _ _ false _ [u, fv, undef, undef, undef, undef, undef, undef, undef] H _
      refine setup11.regE 0 (by kernel_rfl) (by simp only [List.map_cons, List.map_nil]; rfl) (by simp only [qB, qC, qD, qE, qF, qG, qH, qJ, qK, qM, qN, qP, iop1, qR, qS, iop, qT, qV, qW, qX, qY, qZ, zA, Option.getD_some, zB, zC,
    zD, zE, zF, zG, zH, zJ, zK, zM, zN, Step1.ofO, lenC, callF, zP, zR, zS, zT, zV, cond_true, cond_false, decide_true, decide_false, beq_self_eq_true, Bool.false_eq_true, Bool.true_eq_false, zW, zX, zY, zZ, Bool.not_true, Bool.not_false]; rfl) ?_
      exact setup11.regE 0 (by kernel_rfl) (by simp only [List.map_cons, List.map_nil]; rfl) (by simp only [qB, qC, qD, qE, qF, qG, qH, qJ, qK, qM, qN, qP, iop1, qR, qS, iop, qT, qV, qW, qX, qY, qZ, zA, Option.getD_some, zB, zC,
    zD, zE, zF, zG, zH, zJ, zK, zM, zN, Step1.ofO, lenC, callF, zP, zR, zS, zT, zV, cond_true, cond_false, decide_true, decide_false, beq_self_eq_true, Bool.false_eq_true, Bool.true_eq_false, zW, zX, zY, zZ, Bool.not_true, Bool.not_false, e139, enter_k n139, ofK, k139, hz, hp]; rfl) (.ret ⟨.inr rfl, ires_tmp rfl (by simp only [qX, qY, idxOf_any p zs 0 (Int.le_refl 0)]), .refl _⟩)
    · cases hk
  · cases hk
theorem e85 : enters Tryz.prog 85 = true := by kernel_rfl
theorem n85 : nat12 85 = some (ofK k85) := rfl

/-! 90: noColour -/
def badColour (n : Int) : Bool := !(decide (0 ≤ n) && decide (n < 8))
noncomputable def k90 (args : List Value) (H : IH) : Option Value := match args with
  | [v] => (intsOf H v).map fun zs => .bool (zs.any badColour)
  | _ => none
noncomputable def nat13 : Nats := addNat nat12 90 k90
theorem clo140 {H : IH} : clo H (.func (.func 140) #[] #[]) = some badColour := rfl
set_option maxRecDepth 10000 in
theorem setup13 : Setup Tryz.prog good nat13 (globG 3) := by
  refine plainN setup12 k90 Tryz.func90 rfl rfl fun args H v hk => ?_
  unfold k90 at hk
  split at hk
  · rename_i u
    obtain ⟨zs, hz, rfl⟩ := Option.map_eq_some_iff.1 hk
    refine ⟨rfl, ?_⟩
    show Holds _ _ false _ [u, undef, undef, undef, undef] H _
    refine setup12.regE 0 (by kernel_rfl) (by simp only [List.map_cons, List.map_nil]; rfl) (by simp only [qB, qC, qD, qE, qF, qG, qH, qJ, qK, qM, qN, qP, iop1, qR, qS, iop, qT, qV, qW, qX, qY, qZ, zA, Option.getD_some, zB, zC,
    zD, zE, zF, zG, zH, zJ, zK, zM, zN, Step1.ofO, lenC, callF, zP, zR, zS, zT, zV, cond_true, cond_false, decide_true, decide_false, beq_self_eq_true, Bool.false_eq_true, Bool.true_eq_false, zW, zX, zY, zZ, Bool.not_true, Bool.not_false]; rfl) ?_
    exact setup12.regE 0 (by kernel_rfl) (by simp only [List.map_cons, List.map_nil]; rfl) (by simp only [qB, qC, qD, qE, qF, qG, qH, qJ, qK, qM, qN, qP, iop1, qR, qS, iop, qT, qV, qW, qX, qY, qZ, zA, Option.getD_some, zB, zC,
    zD, zE, zF, zG, zH, zJ, zK, zM, zN, Step1.ofO, lenC, callF, zP, zR, zS, zT, zV, cond_true, cond_false, decide_true, decide_false, beq_self_eq_true, Bool.false_eq_true, Bool.true_eq_false, zW, zX, zY, zZ, Bool.not_true, Bool.not_false, e85, enter_k n85, ofK, k85, hz, clo140]; rfl) (.ret ⟨.inr rfl, ires_tmp rfl (by simp only [qX, qY]), .refl _⟩)
  · cases hk
theorem e90 : enters Tryz.prog 90 = true := by kernel_rfl
end Go.Proofs.YtpdlblofcdcikaaGreatDoor
