/- Contracts of CheckScheme and CheckPlacing, and of their references. Conditions: none. -/
import Derived.Test.YtpdlblofcdcikaaGreatDoorF2
set_option linter.unusedSimpArgs false
set_option linter.unusedVariables false
namespace Go.Proofs.YtpdlblofcdcikaaGreatDoor
open Go.Idl

theorem build4 (a b c d : Int) (H : IH) : ibuildSlice Tryz.prog 172 4 [(0, .int .i64 a), (1, .int .i64 b), (2, .int .i64 c), (3, .int .i64 d)] H =
    some (.val (.slice (some ⟨H.size, 0, none⟩) 4 4) (H.push (.cells #[.int .i64 a, .int .i64 b, .int .i64 c, .int .i64 d] 29))) := by kernel_rfl
theorem build3 (a b c : Int) (H : IH) : ibuildSlice Tryz.prog 172 3 [(0, .int .i64 a), (1, .int .i64 b), (2, .int .i64 c)] H =
    some (.val (.slice (some ⟨H.size, 0, none⟩) 3 3) (H.push (.cells #[.int .i64 a, .int .i64 b, .int .i64 c] 29))) := by kernel_rfl
theorem new4 (a b c d : Int) (H : IH) : intsOf (H.push (.cells #[.int .i64 a, .int .i64 b, .int .i64 c, .int .i64 d] 29)) (.slice (some ⟨H.size, 0, none⟩) 4 4) = some [a, b, c, d] := intsOf_new [a, b, c, d] 4 (by simp)
theorem new3 (a b c : Int) (H : IH) : intsOf (H.push (.cells #[.int .i64 a, .int .i64 b, .int .i64 c] 29)) (.slice (some ⟨H.size, 0, none⟩) 3 3) = some [a, b, c] := intsOf_new [a, b, c] 3 (by simp)

/-- a number that no letter of a scheme is -/
def badLetter (n c : Int) : Bool := c == 0 || (decide (c ≤ IntKind.i64.wrap (0 - n)) || decide (n ≤ c))
def outN (n : Int) : Bool := decide (n < 2) || decide (12 < n)
def chkScheme (n : Int) (zs : List Int) : Int :=
  firstNZ [cond (outN n) 3 0, cond ((zs.length : Int) == 0) 12 0, cond (decide (24 < (zs.length : Int))) 5 0, cond (zs.any (badLetter n)) 3 0]

/-! 19: CheckScheme -/
noncomputable def k19 (args : List Value) (H : IH) : Option Value := match args with
  | [.int .i64 n, v] => (intsOf H v).map fun zs => .int .i64 (chkScheme n zs)
  | _ => none
noncomputable def nat14 : Nats := addNat nat13 19 k19
theorem n85' : nat13 85 = some (ofK k85) := rfl
theorem n88' : nat13 88 = some (ofK k88) := rfl
theorem n89' : nat13 89 = some (ofK k89) := rfl
theorem n87' : nat13 87 = some (ofK k87) := rfl
theorem n90' : nat13 90 = some (ofK k90) := rfl
theorem n38' : nat13 38 = some (ofK k38) := rfl
theorem mkF (g : FuncId) (a c : Array Value) (H : IH) : imakeFunc (.func g) a c H = some (.val (.func (.func g) a c) H) := rfl
theorem map0 (f : Operand → Value) : (#[] : Array Operand).map f = #[] := by simp
theorem map1 (f : Operand → Value) (x : Operand) : (#[x] : Array Operand).map f = #[f x] := by simp
set_option maxRecDepth 10000 in
theorem setup14 : Setup Tryz.prog good nat14 (globG 3) := by
  refine plainN setup13 k19 Tryz.func19 rfl rfl fun args H v hk => ?_
  unfold k19 at hk
  split at hk
  · rename_i n u
    obtain ⟨zs, hz, rfl⟩ := Option.map_eq_some_iff.1 hk
    obtain ⟨a, c, rfl, hlen, _⟩ := intsOf_inv hz
    refine ⟨rfl, ?_⟩
    show Holds _ _ false _ [.int .i64 n, .slice a zs.length c, undef, undef, undef, undef, undef, undef, undef, undef, undef, undef, undef, undef, undef, undef, undef, undef, undef, undef, undef, undef, undef] H _
    refine setup13.regE 0 (by kernel_rfl) (by simp only [List.map_cons, List.map_nil]; rfl) (by simp only [qB, qC, qD, qE, qF, qG, qH, qJ, qK, qM, qN, qP, iop1, qR, qS, iop, qT, qV, qW, qX, qY, qZ, zA, Option.getD_some, zB, zC,
    zD, zE, zF, zG, zH, zJ, zK, zM, zN, Step1.ofO, lenC, callF, zP, zR, zS, zT, zV, cond_true, cond_false, decide_true, decide_false, beq_self_eq_true, Bool.false_eq_true, Bool.true_eq_false, zW, zX, zY, zZ, Bool.not_true, Bool.not_false, box_int]; rfl) ?_
    have ho : Old H (H.push (.cells #[.int .i64 n] 3)) := .push _ _
    have hz1 := intsOf_old ho hz
    have hld : iloadAt Tryz.prog 3 (.pointer (some ⟨H.size, 0, none⟩)) (H.push (.cells #[.int .i64 n] 3)) = some (.int .i64 n) := by
      refine load_one ag3 ?_
      unfold IH.load
      rw [IH.get_push, if_pos rfl]; rfl
    have hclo : clo (H.push (.cells #[.int .i64 n] 3)) (.func (.func 86) #[] #[.pointer (some ⟨H.size, 0, none⟩)]) = some (badLetter n) := by
      unfold clo
      simp only
      rw [if_pos ⟨rfl, rfl⟩]
      show (match iloadAt Tryz.prog 3 (.pointer (some ⟨H.size, 0, none⟩)) (H.push (.cells #[.int .i64 n] 3)) with
        | some (.int .i64 n) => _
        | _ => none) = _
      rw [hld]; rfl
    refine setup13.regE 0 (by kernel_rfl) (by simp only [List.map_cons, List.map_nil]; rfl) (by simp only [qB, qC, qD, qE, qF, qG, qH, qJ, qK, qM, qN, qP, iop1, qR, qS, iop, qT, qV, qW, qX, qY, qZ, zA, Option.getD_some, zB, zC,
    zD, zE, zF, zG, zH, zJ, zK, zM, zN, Step1.ofO, lenC, callF, zP, zR, zS, zT, zV, cond_true, cond_false, decide_true, decide_false, beq_self_eq_true, Bool.false_eq_true, Bool.true_eq_false, zW, zX, zY, zZ, Bool.not_true, Bool.not_false, mkF, map0, map1, e85, enter_k n85', ofK, k85, hz1, hclo]; rfl) ?_
    refine setup13.regE 0 (by kernel_rfl) (by simp only [List.map_cons, List.map_nil]; rfl) (by simp only [qB, qC, qD, qE, qF, qG, qH, qJ, qK, qM, qN, qP, iop1, qR, qS, iop, qT, qV, qW, qX, qY, qZ, zA, Option.getD_some, zB, zC,
    zD, zE, zF, zG, zH, zJ, zK, zM, zN, Step1.ofO, lenC, callF, zP, zR, zS, zT, zV, cond_true, cond_false, decide_true, decide_false, beq_self_eq_true, Bool.false_eq_true, Bool.true_eq_false, zW, zX, zY, zZ, Bool.not_true, Bool.not_false, hld, e88, enter_k n88', ofK, k88, lenB_slice u22, goInt, e89, enter_k n89', k89, List.map_cons, List.map_nil, build4, e87, enter_k n87', k87, new4, Option.map_some]; rfl) (.ret ⟨.inr rfl, ires_tmp rfl (by simp only [qX, qY]; rfl), (Old.push _ _).trans (Old.push _ _)⟩)
  · cases hk
theorem e19 : enters Tryz.prog 19 = true := by kernel_rfl

/-! 21: CheckPlacing -/
def chkPlacing (n : Int) (zs : List Int) : Int := firstNZ [cond (outN n) 3 0, cond ((zs.length : Int) != n) 2 0, cond (zs.any badColour) 3 0]
noncomputable def k21 (args : List Value) (H : IH) : Option Value := match args with
  | [.int .i64 n, v] => (intsOf H v).map fun zs => .int .i64 (chkPlacing n zs)
  | _ => none
noncomputable def nat15 : Nats := addNat nat14 21 k21
theorem m88 : nat14 88 = some (ofK k88) := rfl
theorem m89 : nat14 89 = some (ofK k89) := rfl
theorem m87 : nat14 87 = some (ofK k87) := rfl
theorem m90 : nat14 90 = some (ofK k90) := rfl
set_option maxRecDepth 10000 in
theorem setup15 : Setup Tryz.prog good nat15 (globG 3) := by
  refine plainN setup14 k21 Tryz.func21 rfl rfl fun args H v hk => ?_
  unfold k21 at hk
  split at hk
  · rename_i n u
    obtain ⟨zs, hz, rfl⟩ := Option.map_eq_some_iff.1 hk
    obtain ⟨a, c, rfl, hlen, _⟩ := intsOf_inv hz
    refine ⟨rfl, ?_⟩
    show Holds _ _ false _ [.int .i64 n, .slice a zs.length c, undef, undef, undef, undef, undef, undef, undef, undef, undef, undef, undef, undef, undef, undef, undef] H _
    refine setup14.regE 0 (by kernel_rfl) (by simp only [List.map_cons, List.map_nil]; rfl) (by simp only [qB, qC, qD, qE, qF, qG, qH, qJ, qK, qM, qN, qP, iop1, qR, qS, iop, qT, qV, qW, qX, qY, qZ, zA, Option.getD_some, zB, zC,
    zD, zE, zF, zG, zH, zJ, zK, zM, zN, Step1.ofO, lenC, callF, zP, zR, zS, zT, zV, cond_true, cond_false, decide_true, decide_false, beq_self_eq_true, Bool.false_eq_true, Bool.true_eq_false, zW, zX, zY, zZ, Bool.not_true, Bool.not_false]; rfl) ?_
    exact setup14.regE 0 (by kernel_rfl) (by simp only [List.map_cons, List.map_nil]; rfl) (by simp only [qB, qC, qD, qE, qF, qG, qH, qJ, qK, qM, qN, qP, iop1, qR, qS, iop, qT, qV, qW, qX, qY, qZ, zA, Option.getD_some, zB, zC,
    zD, zE, zF, zG, zH, zJ, zK, zM, zN, Step1.ofO, lenC, callF, zP, zR, zS, zT, zV, cond_true, cond_false, decide_true, decide_false, beq_self_eq_true, Bool.false_eq_true, Bool.true_eq_false, zW, zX, zY, zZ, Bool.not_true, Bool.not_false, e88, enter_k m88, ofK, k88, lenB_slice u22, goInt, e89, enter_k m89, k89, e90, enter_k m90, k90, hz, List.map_cons, List.map_nil, build3, e87, enter_k m87, k87, new3, Option.map_some]; rfl) (.ret ⟨.inr rfl, ires_tmp rfl (by simp only [qX, qY]; rfl), .push _ _⟩)
  · cases hk
theorem e21 : enters Tryz.prog 21 = true := by kernel_rfl

/-! 20: the reference's CheckScheme -/
def refLetter (n c : Int) : Bool := c == 0 || (decide (c < IntKind.i64.wrap (1 - n)) || decide (IntKind.i64.wrap (n - 1) < c))
def refScheme (n : Int) (zs : List Int) : Int :=
  cond (outN n) 3 (cond ((zs.length : Int) == 0) 12 (cond (decide (24 < (zs.length : Int))) 5 (cond (zs.any (refLetter n)) 3 0)))
noncomputable def k20 (args : List Value) (H : IH) : Option Value := match args with
  | [.int .i64 n, v] => (intsOf H v).map fun zs => .int .i64 (refScheme n zs)
  | _ => none
noncomputable def nat16 : Nats := addNat nat15 20 k20
theorem p38 : nat15 38 = some (ofK k38) := rfl
theorem any_drop {p : Int → Bool} {zs : List Int} {i : Nat} {z : Int} (h : zs[i]? = some z) : (zs.drop i).any p = (p z || (zs.drop (i + 1)).any p) := by
  have hlt : i < zs.length := (List.getElem?_eq_some_iff.1 h).1
  have e : zs[i] = z := (List.getElem?_eq_some_iff.1 h).2
  rw [List.drop_eq_getElem_cons hlt, e]; rfl
set_option maxRecDepth 10000 in
theorem setup16 : Setup Tryz.prog good nat16 (globG 3) := by
  refine plainN setup15 k20 Tryz.func20 rfl rfl fun args H v hk => ?_
  unfold k20 at hk
  split at hk
  · rename_i n u
    obtain ⟨zs, hz, rfl⟩ := Option.map_eq_some_iff.1 hk
    obtain ⟨a, c, rfl, hlen, hget⟩ := intsOf_inv hz
    refine ⟨rfl, ?_⟩
    show Holds _ _ false _ [.int .i64 n, .slice a zs.length c, undef, undef, undef, undef, undef, undef, undef, undef, undef, undef, undef, undef, undef, undef, undef, undef, undef, undef, undef, undef, undef, undef, undef, undef, undef, undef, undef, undef, undef, undef, undef, undef, undef, undef] H _
    refine setup15.regE 0 (by kernel_rfl) (by simp only [List.map_cons, List.map_nil]; rfl) (by simp only [qB, qC, qD, qE, qF, qG, qH, qJ, qK, qM, qN, qP, iop1, qR, qS, iop, qT, qV, qW, qX, qY, qZ, zA, Option.getD_some, zB, zC,
    zD, zE, zF, zG, zH, zJ, zK, zM, zN, Step1.ofO, lenC, callF, zP, zR, zS, zT, zV, cond_true, cond_false, decide_true, decide_false, beq_self_eq_true, Bool.false_eq_true, Bool.true_eq_false, zW, zX, zY, zZ, Bool.not_true, Bool.not_false]; rfl) ?_
    refine setup15.ifRet 0 (by kernel_rfl) (by simp only [List.map_cons, List.map_nil]; rfl) (by simp only [qB, qC, qD, qE, qF, qG, qH, qJ, qK, qM, qN, qP, iop1, qR, qS, iop, qT, qV, qW, qX, qY, qZ, zA, Option.getD_some, zB, zC,
    zD, zE, zF, zG, zH, zJ, zK, zM, zN, Step1.ofO, lenC, callF, zP, zR, zS, zT, zV, cond_true, cond_false, decide_true, decide_false, beq_self_eq_true, Bool.false_eq_true, Bool.true_eq_false, zW, zX, zY, zZ, Bool.not_true, Bool.not_false, e38, enter_k p38, ofK, k38]; rfl) (by kernel_rfl) (by simp only [qT, qX, qY, Option.getD_some]; rfl) (fun ht => ?_) (fun ht => ?_)
    · exact setup15.regE 0 (by kernel_rfl) (by simp only [List.map_cons, List.map_nil]; rfl) (by simp only [qB, qC, qD, qE, qF, qG, qH, qJ, qK, qM, qN, qP, iop1, qR, qS, iop, qT, qV, qW, qX, qY, qZ, zA, Option.getD_some, zB, zC,
    zD, zE, zF, zG, zH, zJ, zK, zM, zN, Step1.ofO, lenC, callF, zP, zR, zS, zT, zV, cond_true, cond_false, decide_true, decide_false, beq_self_eq_true, Bool.false_eq_true, Bool.true_eq_false, zW, zX, zY, zZ, Bool.not_true, Bool.not_false]; rfl) (.ret ⟨rfl, .inr rfl, ires_tmp rfl (by simp only [qX, qY]; simp only [refScheme, outN, ht, cond_true]), .refl _⟩)
    refine setup15.ifRet 0 (by kernel_rfl) (by simp only [List.map_cons, List.map_nil]; rfl) (by simp only [qB, qC, qD, qE, qF, qG, qH, qJ, qK, qM, qN, qP, iop1, qR, qS, iop, qT, qV, qW, qX, qY, qZ, zA, Option.getD_some, zB, zC,
    zD, zE, zF, zG, zH, zJ, zK, zM, zN, Step1.ofO, lenC, callF, zP, zR, zS, zT, zV, cond_true, cond_false, decide_true, decide_false, beq_self_eq_true, Bool.false_eq_true, Bool.true_eq_false, zW, zX, zY, zZ, Bool.not_true, Bool.not_false, lenB_slice u22, goInt]; rfl) (by kernel_rfl) (by simp only [qT, qX, qY, Option.getD_some]; rfl) (fun ht2 => ?_) (fun ht2 => ?_)
    · exact setup15.regE 0 (by kernel_rfl) (by simp only [List.map_cons, List.map_nil]; rfl) (by simp only [qB, qC, qD, qE, qF, qG, qH, qJ, qK, qM, qN, qP, iop1, qR, qS, iop, qT, qV, qW, qX, qY, qZ, zA, Option.getD_some, zB, zC,
    zD, zE, zF, zG, zH, zJ, zK, zM, zN, Step1.ofO, lenC, callF, zP, zR, zS, zT, zV, cond_true, cond_false, decide_true, decide_false, beq_self_eq_true, Bool.false_eq_true, Bool.true_eq_false, zW, zX, zY, zZ, Bool.not_true, Bool.not_false]; rfl) (.ret ⟨rfl, .inr rfl, ires_tmp rfl (by simp only [qX, qY]; simp only [refScheme, outN, ht, ht2, cond_true, cond_false]), .refl _⟩)
    refine setup15.ifRet 0 (by kernel_rfl) (by simp only [List.map_cons, List.map_nil]; rfl) (by simp only [qB, qC, qD, qE, qF, qG, qH, qJ, qK, qM, qN, qP, iop1, qR, qS, iop, qT, qV, qW, qX, qY, qZ, zA, Option.getD_some, zB, zC,
    zD, zE, zF, zG, zH, zJ, zK, zM, zN, Step1.ofO, lenC, callF, zP, zR, zS, zT, zV, cond_true, cond_false, decide_true, decide_false, beq_self_eq_true, Bool.false_eq_true, Bool.true_eq_false, zW, zX, zY, zZ, Bool.not_true, Bool.not_false, lenB_slice u22, goInt]; rfl) (by kernel_rfl) (by simp only [qT, qX, qY, Option.getD_some]; rfl) (fun ht3 => ?_) (fun ht3 => ?_)
    · exact setup15.regE 0 (by kernel_rfl) (by simp only [List.map_cons, List.map_nil]; rfl) (by simp only [qB, qC, qD, qE, qF, qG, qH, qJ, qK, qM, qN, qP, iop1, qR, qS, iop, qT, qV, qW, qX, qY, qZ, zA, Option.getD_some, zB, zC,
    zD, zE, zF, zG, zH, zJ, zK, zM, zN, Step1.ofO, lenC, callF, zP, zR, zS, zT, zV, cond_true, cond_false, decide_true, decide_false, beq_self_eq_true, Bool.false_eq_true, Bool.true_eq_false, zW, zX, zY, zZ, Bool.not_true, Bool.not_false]; rfl) (.ret ⟨rfl, .inr rfl, ires_tmp rfl (by simp only [qX, qY]; simp only [refScheme, outN, ht, ht2, ht3, cond_true, cond_false]), .refl _⟩)
    have hspec : refScheme n zs = cond (zs.any (refLetter n)) 3 0 := by simp only [refScheme, outN, ht, ht2, ht3, cond_false]
    refine .seqX (R1 := fun e h => (∃ x5 x14 x15 x16 x17 x18 x19 x20 x21 x22 x23 x24 x25 x26 x27 x28 x29 x30 x31 x32 x33 x34 x35, e = [.int .i64 n, .slice a zs.length c, undef, undef, .int .i64 0, x5, .int .i64 n, .bool (decide (n < 2) || decide (12 < n)), .slice a zs.length c, .int .i64 zs.length, .bool ((zs.length : Int) == 0), .slice a zs.length c, .int .i64 zs.length, .bool (decide (24 < (zs.length : Int))), x14, x15, x16, x17, x18, x19, x20, x21, x22, x23, x24, x25, x26, x27, x28, x29, x30, x31, x32, x33, x34, x35]) ∧ h = H ∧ zs.any (refLetter n) = false)
      (Q1 := fun o => iresults Tryz.prog Tryz.f20 o.env o.H = some (.int .i64 (refScheme n zs)) ∧ Old H o.H) ?_ (fun o h1 h2 => ⟨.inr h1, h2⟩) ?_
    · refine setup15.regE 0 (by kernel_rfl) (by simp only [List.map_cons, List.map_nil]; rfl) (by simp only [qB, qC, qD, qE, qF, qG, qH, qJ, qK, qM, qN, qP, iop1, qR, qS, iop, qT, qV, qW, qX, qY, qZ, zA, Option.getD_some, zB, zC,
    zD, zE, zF, zG, zH, zJ, zK, zM, zN, Step1.ofO, lenC, callF, zP, zR, zS, zT, zV, cond_true, cond_false, decide_true, decide_false, beq_self_eq_true, Bool.false_eq_true, Bool.true_eq_false, zW, zX, zY, zZ, Bool.not_true, Bool.not_false]; rfl) ?_
      refine .forR (fun m e h => ∃ i x14 x15 x16 x17 x18 x19 x20 x21 x22 x23 x24 x25 x26 x27 x28 x29 x30 x31 x32 x33 x34 x35, i ≤ zs.length ∧ m = zs.length - i ∧ e = [.int .i64 n, .slice a zs.length c, undef, undef, .int .i64 0, .int .i64 (i : Nat), .int .i64 n, .bool (decide (n < 2) || decide (12 < n)), .slice a zs.length c, .int .i64 zs.length, .bool ((zs.length : Int) == 0), .slice a zs.length c, .int .i64 zs.length, .bool (decide (24 < (zs.length : Int))), x14, x15, x16, x17, x18, x19, x20, x21, x22, x23, x24, x25, x26, x27, x28, x29, x30, x31, x32, x33, x34, x35] ∧ h = H ∧ (zs.drop i).any (refLetter n) = zs.any (refLetter n))
        ⟨0, _, _, _, _, _, _, _, _, _, _, _, _, _, _, _, _, _, _, _, _, _, _, Nat.zero_le _, rfl, rfl, rfl, rfl⟩ ?_
      rintro m env H1 ⟨i, x14, x15, x16, x17, x18, x19, x20, x21, x22, x23, x24, x25, x26, x27, x28, x29, x30, x31, x32, x33, x34, x35, hi, rfl, rfl, rfl, hf⟩
      refine setup15.head2 0 (by kernel_rfl) (by simp only [List.map_cons, List.map_nil]; rfl) (by simp only [qB, qC, qD, qE, qF, qG, qH, qJ, qK, qM, qN, qP, iop1, qR, qS, iop, qT, qV, qW, qX, qY, qZ, zA, Option.getD_some, zB, zC,
    zD, zE, zF, zG, zH, zJ, zK, zM, zN, Step1.ofO, lenC, callF, zP, zR, zS, zT, zV, cond_true, cond_false, decide_true, decide_false, beq_self_eq_true, Bool.false_eq_true, Bool.true_eq_false, zW, zX, zY, zZ, Bool.not_true, Bool.not_false, lenB_slice u22, goInt]; rfl) (by kernel_rfl) (by simp only [qT, qX, qY, Option.getD_some]; rfl) (fun ht4 => ?_) (fun ht4 => ?_)
      · have hlt : i < zs.length := by simpa using ht4
        have hz1 : zs[i]? = some zs[i] := List.getElem?_eq_getElem hlt
        generalize zs[i] = z at hz1
        rw [any_drop hz1] at hf
        obtain ⟨b, o, sp, rfl, hload⟩ := hget i z hz1
        have hidx := index_slice (k := .i64) (b := b) (o := o) (cap := c) (sp := sp) u22 sz3 (Int.natCast_nonneg i) (Int.ofNat_lt.2 hlt)
        have hld := load_one ag3 hload
        simp only [Int.toNat_natCast] at hidx
        refine .seqX (R1 := fun e h => refLetter n z = false ∧ ∃ x14 x15 x16 x17 x18 x19 x20 x21 x22 x23 x24 x25 x26 x27 x28 x29 x30 x31 x32 x33 x34 x35, e = [.int .i64 n, .slice (some ⟨b, o, sp⟩) zs.length c, undef, undef, .int .i64 0, .int .i64 (i : Nat), .int .i64 n, .bool (decide (n < 2) || decide (12 < n)), .slice (some ⟨b, o, sp⟩) zs.length c, .int .i64 zs.length, .bool ((zs.length : Int) == 0), .slice (some ⟨b, o, sp⟩) zs.length c, .int .i64 zs.length, .bool (decide (24 < (zs.length : Int))), x14, x15, x16, x17, x18, x19, x20, x21, x22, x23, x24, x25, x26, x27, x28, x29, x30, x31, x32, x33, x34, x35] ∧ h = H1) (.blockR ?_) (fun o h1 h2 => .inr (.inr ⟨h1, h2⟩)) ?_
        · by_cases h0 : z = 0
          · subst h0
            refine setup15.ifEnd 0 (by kernel_rfl) (by simp only [List.map_cons, List.map_nil]; rfl) (by simp only [qB, qC, qD, qE, qF, qG, qH, qJ, qK, qM, qN, qP, iop1, qR, qS, iop, qT, qV, qW, qX, qY, qZ, zA, Option.getD_some, zB, zC,
    zD, zE, zF, zG, zH, zJ, zK, zM, zN, Step1.ofO, lenC, callF, zP, zR, zS, zT, zV, cond_true, cond_false, decide_true, decide_false, beq_self_eq_true, Bool.false_eq_true, Bool.true_eq_false, zW, zX, zY, zZ, Bool.not_true, Bool.not_false, hidx, hld]; rfl) (by kernel_rfl) (by simp only [qT, qX, qY, Option.getD_some]; rfl) (fun ht5 => ?_) (fun ht5 => by simp at ht5)
            refine setup15.regE 0 (by kernel_rfl) (by simp only [List.map_cons, List.map_nil]; rfl) (by simp only [qB, qC, qD, qE, qF, qG, qH, qJ, qK, qM, qN, qP, iop1, qR, qS, iop, qT, qV, qW, qX, qY, qZ, zA, Option.getD_some, zB, zC,
    zD, zE, zF, zG, zH, zJ, zK, zM, zN, Step1.ofO, lenC, callF, zP, zR, zS, zT, zV, cond_true, cond_false, decide_true, decide_false, beq_self_eq_true, Bool.false_eq_true, Bool.true_eq_false, zW, zX, zY, zZ, Bool.not_true, Bool.not_false]; rfl) (.ret (.inr ⟨rfl, ires_tmp rfl ?_, .refl _⟩))
            rw [hspec, ← hf]; rfl
          · have h0' : (z == 0) = false := by simpa using h0
            refine setup15.ifEnd 0 (by kernel_rfl) (by simp only [List.map_cons, List.map_nil]; rfl) (by simp only [qB, qC, qD, qE, qF, qG, qH, qJ, qK, qM, qN, qP, iop1, qR, qS, iop, qT, qV, qW, qX, qY, qZ, zA, Option.getD_some, zB, zC,
    zD, zE, zF, zG, zH, zJ, zK, zM, zN, Step1.ofO, lenC, callF, zP, zR, zS, zT, zV, cond_true, cond_false, decide_true, decide_false, beq_self_eq_true, Bool.false_eq_true, Bool.true_eq_false, zW, zX, zY, zZ, Bool.not_true, Bool.not_false, hidx, hld, h0', e38, enter_k p38, ofK, k38]; rfl) (by kernel_rfl) (by simp only [qT, qX, qY, Option.getD_some]; rfl) (fun ht5 => ?_) (fun ht5 => ?_)
            · refine setup15.regE 0 (by kernel_rfl) (by simp only [List.map_cons, List.map_nil]; rfl) (by simp only [qB, qC, qD, qE, qF, qG, qH, qJ, qK, qM, qN, qP, iop1, qR, qS, iop, qT, qV, qW, qX, qY, qZ, zA, Option.getD_some, zB, zC,
    zD, zE, zF, zG, zH, zJ, zK, zM, zN, Step1.ofO, lenC, callF, zP, zR, zS, zT, zV, cond_true, cond_false, decide_true, decide_false, beq_self_eq_true, Bool.false_eq_true, Bool.true_eq_false, zW, zX, zY, zZ, Bool.not_true, Bool.not_false]; rfl) (.ret (.inr ⟨rfl, ires_tmp rfl ?_, .refl _⟩))
              have : refLetter n z = true := by simp only [refLetter, h0', ht5, Bool.false_or]
              rw [hspec, ← hf, this]; rfl
            · exact .inl ⟨rfl, by simp only [refLetter, h0', ht5, Bool.false_or], _, _, _, _, _, _, _, _, _, _, _, _, _, _, _, _, _, _, _, _, _, _, rfl, rfl⟩
        · rintro e h ⟨hpz, x14, x15, x16, x17, x18, x19, x20, x21, x22, x23, x24, x25, x26, x27, x28, x29, x30, x31, x32, x33, x34, x35, rfl, rfl⟩
          refine setup15.regZ 0 (by kernel_rfl) (by simp only [List.map_cons, List.map_nil]; rfl) (by simp only [qB, qC, qD, qE, qF, qG, qH, qJ, qK, qM, qN, qP, iop1, qR, qS, iop, qT, qV, qW, qX, qY, qZ, zA, Option.getD_some, zB, zC,
    zD, zE, zF, zG, zH, zJ, zK, zM, zN, Step1.ofO, lenC, callF, zP, zR, zS, zT, zV, cond_true, cond_false, decide_true, decide_false, beq_self_eq_true, Bool.false_eq_true, Bool.true_eq_false, zW, zX, zY, zZ, Bool.not_true, Bool.not_false, wrap_succ hlt hlen]; rfl) (.inl ⟨rfl, zs.length - (i + 1), by omega, i + 1, _, _, _, _, _, _, _, _, _, _, _, _, _, _, _, _, _, _, _, _, _, _, by omega, rfl, rfl, rfl, ?_⟩)
          rw [← hf, hpz]; rfl
      · have hge : i = zs.length := by simp at ht4; omega
        subst hge
        refine .inr (.inl ⟨rfl, ⟨_, _, _, _, _, _, _, _, _, _, _, _, _, _, _, _, _, _, _, _, _, _, _, rfl⟩, rfl, ?_⟩)
        rw [← hf]; simp
    · rintro e h ⟨⟨x5, x14, x15, x16, x17, x18, x19, x20, x21, x22, x23, x24, x25, x26, x27, x28, x29, x30, x31, x32, x33, x34, x35, rfl⟩, rfl, hf⟩
      exact setup15.regE 0 (by kernel_rfl) (by simp only [List.map_cons, List.map_nil]; rfl) (by simp only [qB, qC, qD, qE, qF, qG, qH, qJ, qK, qM, qN, qP, iop1, qR, qS, iop, qT, qV, qW, qX, qY, qZ, zA, Option.getD_some, zB, zC,
    zD, zE, zF, zG, zH, zJ, zK, zM, zN, Step1.ofO, lenC, callF, zP, zR, zS, zT, zV, cond_true, cond_false, decide_true, decide_false, beq_self_eq_true, Bool.false_eq_true, Bool.true_eq_false, zW, zX, zY, zZ, Bool.not_true, Bool.not_false]; rfl) (.ret ⟨.inr rfl, ires_tmp rfl (by simp only [qX, qY]; rw [hspec, hf]; rfl), .refl _⟩)
  · cases hk
theorem e20 : enters Tryz.prog 20 = true := by kernel_rfl
end Go.Proofs.YtpdlblofcdcikaaGreatDoor
