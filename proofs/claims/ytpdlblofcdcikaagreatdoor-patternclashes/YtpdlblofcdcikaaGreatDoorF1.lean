/- Contracts of the chapter's small functions. Conditions: none. -/
import Derived.Test.YtpdlblofcdcikaaGreatDoorIdlJ
import Derived.Test.YtpdlblofcdcikaaGreatDoorAwake
set_option linter.unusedSimpArgs false
set_option linter.unusedVariables false
namespace Go.Proofs.YtpdlblofcdcikaaGreatDoor
open Go.Idl

/-- the shape of a contract's proof: the code from the arguments on -/
theorem plainN {nat : Nats} (s : Setup Tryz.prog good nat (globG 3)) {g : FuncId} {fn : Func} {c : Code} {N : Nat} (k : List Value → IH → Option Value) (hfn : Tryz.prog.funcs[g]? = some fn) (hb : fn.body = some c) (hN : fn.ntmps = N)
    (hk : ∀ args H v, k args H = some v → plainV v = true ∧ Holds Tryz.prog (globG 3) false c (args ++ List.replicate (N - args.length) undef) H fun o => (o.e = .normal ∨ o.e = .ret) ∧ iresults Tryz.prog fn o.env o.H = some v ∧ Old H o.H) :
    Setup Tryz.prog good (addNat nat g k) (globG 3) := s.plain k hfn hb (by subst hN; exact hk)

/-- the law's fixed examples -/
noncomputable def k18 (args : List Value) (_ : IH) : Option Value := match args with
  | [] => some (.bool true)
  | _ => none
noncomputable def nat1 : Nats := addNat noNat 18 k18
theorem setup1 : Setup Tryz.prog good nat1 (globG 3) := setup0.addC k18 fun args H v hk args' f w hR hG ha => by
  unfold k18 at hk
  split at hk
  · cases hk
    rw [ha.nil_left]
    exact call_own rfl Tryz.func18 (show Tryz.f18.body = some c18 from rfl) awake_holds hR hG
  · cases hk

theorem u22 : Tryz.prog.underlying 22 = some (.slice 3) := by kernel_rfl
theorem u25 : Tryz.prog.underlying 25 = some (.slice 22) := by kernel_rfl
theorem u172 : Tryz.prog.underlying 172 = some (.slice 29) := by kernel_rfl
theorem sz3 : szT Tryz.prog 3 = some 1 := by kernel_rfl
theorem sz22 : szT Tryz.prog 22 = some 1 := by kernel_rfl
theorem sz29 : szT Tryz.prog 29 = some 1 := by kernel_rfl
theorem ag3 : aggT Tryz.prog 3 = some false := by kernel_rfl
theorem ag22 : aggT Tryz.prog 22 = some false := by kernel_rfl
theorem ag29 : aggT Tryz.prog 29 = some false := by kernel_rfl

/-! 38: Out -/
noncomputable def k38 (args : List Value) (_ : IH) : Option Value := match args with
  | [.int .i64 n, .int .i64 a, .int .i64 b] => some (.bool (decide (n < a) || decide (b < n)))
  | _ => none
noncomputable def nat2 : Nats := addNat nat1 38 k38
set_option maxRecDepth 10000 in
theorem setup2 : Setup Tryz.prog good nat2 (globG 3) := by
  refine plainN setup1 k38 Tryz.func38 rfl rfl fun args H v hk => ?_
  unfold k38 at hk
  split at hk
  · rename_i n a b
    cases hk
    refine ⟨rfl, ?_⟩
    show Holds _ _ false _ [.int .i64 n, .int .i64 a, .int .i64 b, undef, undef, undef, undef, undef, undef, undef, undef, undef, undef, undef, undef] H _
    by_cases h1 : n < a
    · refine setup1.regE 0 (by kernel_rfl) (by simp only [List.map_cons, List.map_nil]; rfl) (by simp only [qB, qC, qD, qE, qF, qG, qH, qJ, qK, qM, qN, qP, iop1, qR, qS, iop, qT, qV, qW, qX, qY, qZ, zA, Option.getD_some, zB, zC,
    zD, zE, zF, zG, zH, zJ, zK, zM, zN, Step1.ofO, lenC, callF, zP, zR, zS, zT, zV, cond_true, cond_false, decide_true, decide_false, beq_self_eq_true, Bool.false_eq_true, Bool.true_eq_false, zW, zX, zY, zZ, Bool.not_true, Bool.not_false]; rfl) ?_
      refine setup1.regE 0 (by kernel_rfl) (by simp only [List.map_cons, List.map_nil]; rfl) (by simp only [qB, qC, qD, qE, qF, qG, qH, qJ, qK, qM, qN, qP, iop1, qR, qS, iop, qT, qV, qW, qX, qY, qZ, zA, Option.getD_some, zB, zC,
    zD, zE, zF, zG, zH, zJ, zK, zM, zN, Step1.ofO, lenC, callF, zP, zR, zS, zT, zV, cond_true, cond_false, decide_true, decide_false, beq_self_eq_true, Bool.false_eq_true, Bool.true_eq_false, zW, zX, zY, zZ, Bool.not_true, Bool.not_false, h1]; rfl) (.ret ⟨.inr rfl, ires_tmp rfl (by simp only [qX, qY]; simp [h1]), .refl _⟩)
    · refine setup1.regE 0 (by kernel_rfl) (by simp only [List.map_cons, List.map_nil]; rfl) (by simp only [qB, qC, qD, qE, qF, qG, qH, qJ, qK, qM, qN, qP, iop1, qR, qS, iop, qT, qV, qW, qX, qY, qZ, zA, Option.getD_some, zB, zC,
    zD, zE, zF, zG, zH, zJ, zK, zM, zN, Step1.ofO, lenC, callF, zP, zR, zS, zT, zV, cond_true, cond_false, decide_true, decide_false, beq_self_eq_true, Bool.false_eq_true, Bool.true_eq_false, zW, zX, zY, zZ, Bool.not_true, Bool.not_false]; rfl) ?_
      refine setup1.regE 0 (by kernel_rfl) (by simp only [List.map_cons, List.map_nil]; rfl) (by simp only [qB, qC, qD, qE, qF, qG, qH, qJ, qK, qM, qN, qP, iop1, qR, qS, iop, qT, qV, qW, qX, qY, qZ, zA, Option.getD_some, zB, zC,
    zD, zE, zF, zG, zH, zJ, zK, zM, zN, Step1.ofO, lenC, callF, zP, zR, zS, zT, zV, cond_true, cond_false, decide_true, decide_false, beq_self_eq_true, Bool.false_eq_true, Bool.true_eq_false, zW, zX, zY, zZ, Bool.not_true, Bool.not_false, h1]; rfl) (.ret ⟨.inr rfl, ires_tmp rfl (by simp only [qX, qY]; simp [h1]), .refl _⟩)
  · cases hk
theorem e38 : enters Tryz.prog 38 = true := by kernel_rfl

/-! 89: when -/
noncomputable def k89 (args : List Value) (_ : IH) : Option Value := match args with
  | [.bool b, .int .i64 e] => some (.int .i64 (cond b e 0))
  | _ => none
noncomputable def nat3 : Nats := addNat nat2 89 k89
set_option maxRecDepth 10000 in
theorem setup3 : Setup Tryz.prog good nat3 (globG 3) := by
  refine plainN setup2 k89 Tryz.func89 rfl rfl fun args H v hk => ?_
  unfold k89 at hk
  split at hk
  · rename_i b e
    cases hk
    refine ⟨rfl, ?_⟩
    show Holds _ _ false _ [.bool b, .int .i64 e, undef, undef, undef, undef, undef] H _
    refine setup2.regE 0 (by kernel_rfl) (by simp only [List.map_cons, List.map_nil]; rfl) (by simp only [qB, qC, qD, qE, qF, qG, qH, qJ, qK, qM, qN, qP, iop1, qR, qS, iop, qT, qV, qW, qX, qY, qZ, zA, Option.getD_some, zB, zC,
    zD, zE, zF, zG, zH, zJ, zK, zM, zN, Step1.ofO, lenC, callF, zP, zR, zS, zT, zV, cond_true, cond_false, decide_true, decide_false, beq_self_eq_true, Bool.false_eq_true, Bool.true_eq_false, zW, zX, zY, zZ, Bool.not_true, Bool.not_false]; rfl) ?_
    cases b with
    | true =>
      refine Holds.seqQ (Q1 := fun o => o.e = .ret ∧ iresults Tryz.prog Tryz.f89 o.env o.H = some (.int .i64 e) ∧ Old H o.H) ?_ (fun o h hn => by rw [h.1] at hn; cases hn) (fun o h _ => ⟨.inr h.1, h.2⟩)
      refine setup2.regE 0 (by kernel_rfl) (by simp only [List.map_cons, List.map_nil]; rfl) (by simp only [qB, qC, qD, qE, qF, qG, qH, qJ, qK, qM, qN, qP, iop1, qR, qS, iop, qT, qV, qW, qX, qY, qZ, zA, Option.getD_some, zB, zC,
    zD, zE, zF, zG, zH, zJ, zK, zM, zN, Step1.ofO, lenC, callF, zP, zR, zS, zT, zV, cond_true, cond_false, decide_true, decide_false, beq_self_eq_true, Bool.false_eq_true, Bool.true_eq_false, zW, zX, zY, zZ, Bool.not_true, Bool.not_false]; rfl) ?_
      refine Holds.cond (t := true) (by kernel_rfl) rfl (fun _ => ?_) (fun h => by cases h)
      exact setup2.regE 0 (by kernel_rfl) (by simp only [List.map_cons, List.map_nil]; rfl) (by simp only [qB, qC, qD, qE, qF, qG, qH, qJ, qK, qM, qN, qP, iop1, qR, qS, iop, qT, qV, qW, qX, qY, qZ, zA, Option.getD_some, zB, zC,
    zD, zE, zF, zG, zH, zJ, zK, zM, zN, Step1.ofO, lenC, callF, zP, zR, zS, zT, zV, cond_true, cond_false, decide_true, decide_false, beq_self_eq_true, Bool.false_eq_true, Bool.true_eq_false, zW, zX, zY, zZ, Bool.not_true, Bool.not_false]; rfl) (.ret ⟨rfl, ires_tmp rfl (by simp only [qX, qY]), .refl _⟩)
    | false =>
      refine Holds.seqN (Q1 := fun env1 H1 => env1 = [.bool false, .int .i64 e, undef, undef, .int .i64 0, .bool false, undef] ∧ H1 = H) ?_ ?_
      · refine setup2.regE 0 (by kernel_rfl) (by simp only [List.map_cons, List.map_nil]; rfl) (by simp only [qB, qC, qD, qE, qF, qG, qH, qJ, qK, qM, qN, qP, iop1, qR, qS, iop, qT, qV, qW, qX, qY, qZ, zA, Option.getD_some, zB, zC,
    zD, zE, zF, zG, zH, zJ, zK, zM, zN, Step1.ofO, lenC, callF, zP, zR, zS, zT, zV, cond_true, cond_false, decide_true, decide_false, beq_self_eq_true, Bool.false_eq_true, Bool.true_eq_false, zW, zX, zY, zZ, Bool.not_true, Bool.not_false]; rfl) ?_
        exact Holds.cond (t := false) (by kernel_rfl) rfl (fun h => by cases h) (fun _ => .skip ⟨rfl, rfl, rfl⟩)
      · rintro env1 H1 ⟨rfl, rfl⟩
        exact setup2.regE 0 (by kernel_rfl) (by simp only [List.map_cons, List.map_nil]; rfl) (by simp only [qB, qC, qD, qE, qF, qG, qH, qJ, qK, qM, qN, qP, iop1, qR, qS, iop, qT, qV, qW, qX, qY, qZ, zA, Option.getD_some, zB, zC,
    zD, zE, zF, zG, zH, zJ, zK, zM, zN, Step1.ofO, lenC, callF, zP, zR, zS, zT, zV, cond_true, cond_false, decide_true, decide_false, beq_self_eq_true, Bool.false_eq_true, Bool.true_eq_false, zW, zX, zY, zZ, Bool.not_true, Bool.not_false]; rfl) (.ret ⟨.inr rfl, ires_tmp rfl (by simp only [qX, qY, cond_false]), .refl _⟩)
  · cases hk
theorem e89 : enters Tryz.prog 89 = true := by kernel_rfl
theorem n89 : nat3 89 = some (ofK k89) := rfl

/-! 109: within -/
noncomputable def k109 (args : List Value) (_ : IH) : Option Value := match args with
  | [.int .i64 n, .int .i64 a, .int .i64 b] => some (.int .i64 (cond (decide (n < a) || decide (b < n)) 3 0))
  | _ => none
noncomputable def nat4 : Nats := addNat nat3 109 k109
set_option maxRecDepth 10000 in
theorem setup4 : Setup Tryz.prog good nat4 (globG 3) := by
  refine plainN setup3 k109 Tryz.func109 rfl rfl fun args H v hk => ?_
  unfold k109 at hk
  split at hk
  · rename_i n a b
    cases hk
    refine ⟨rfl, ?_⟩
    show Holds _ _ false _ [.int .i64 n, .int .i64 a, .int .i64 b, undef, undef, undef, undef, undef, undef, undef, undef, undef, undef, undef, undef, undef] H _
    by_cases h1 : n < a
    · refine setup3.regE 0 (by kernel_rfl) (by simp only [List.map_cons, List.map_nil]; rfl) (by simp only [qB, qC, qD, qE, qF, qG, qH, qJ, qK, qM, qN, qP, iop1, qR, qS, iop, qT, qV, qW, qX, qY, qZ, zA, Option.getD_some, zB, zC,
    zD, zE, zF, zG, zH, zJ, zK, zM, zN, Step1.ofO, lenC, callF, zP, zR, zS, zT, zV, cond_true, cond_false, decide_true, decide_false, beq_self_eq_true, Bool.false_eq_true, Bool.true_eq_false, zW, zX, zY, zZ, Bool.not_true, Bool.not_false]; rfl) ?_
      refine setup3.regE 0 (by kernel_rfl) (by simp only [List.map_cons, List.map_nil]; rfl) (by simp only [qB, qC, qD, qE, qF, qG, qH, qJ, qK, qM, qN, qP, iop1, qR, qS, iop, qT, qV, qW, qX, qY, qZ, zA, Option.getD_some, zB, zC,
    zD, zE, zF, zG, zH, zJ, zK, zM, zN, Step1.ofO, lenC, callF, zP, zR, zS, zT, zV, cond_true, cond_false, decide_true, decide_false, beq_self_eq_true, Bool.false_eq_true, Bool.true_eq_false, zW, zX, zY, zZ, Bool.not_true, Bool.not_false, h1, e89, enter_k n89, ofK, k89]; rfl) (.ret ⟨.inr rfl, ires_tmp rfl (by simp only [qX, qY]; simp [h1]), .refl _⟩)
    · refine setup3.regE 0 (by kernel_rfl) (by simp only [List.map_cons, List.map_nil]; rfl) (by simp only [qB, qC, qD, qE, qF, qG, qH, qJ, qK, qM, qN, qP, iop1, qR, qS, iop, qT, qV, qW, qX, qY, qZ, zA, Option.getD_some, zB, zC,
    zD, zE, zF, zG, zH, zJ, zK, zM, zN, Step1.ofO, lenC, callF, zP, zR, zS, zT, zV, cond_true, cond_false, decide_true, decide_false, beq_self_eq_true, Bool.false_eq_true, Bool.true_eq_false, zW, zX, zY, zZ, Bool.not_true, Bool.not_false]; rfl) ?_
      refine setup3.regE 0 (by kernel_rfl) (by simp only [List.map_cons, List.map_nil]; rfl) (by simp only [qB, qC, qD, qE, qF, qG, qH, qJ, qK, qM, qN, qP, iop1, qR, qS, iop, qT, qV, qW, qX, qY, qZ, zA, Option.getD_some, zB, zC,
    zD, zE, zF, zG, zH, zJ, zK, zM, zN, Step1.ofO, lenC, callF, zP, zR, zS, zT, zV, cond_true, cond_false, decide_true, decide_false, beq_self_eq_true, Bool.false_eq_true, Bool.true_eq_false, zW, zX, zY, zZ, Bool.not_true, Bool.not_false, h1, e89, enter_k n89, ofK, k89]; rfl) (.ret ⟨.inr rfl, ires_tmp rfl (by simp only [qX, qY]; simp [h1]), .refl _⟩)
  · cases hk
theorem e109 : enters Tryz.prog 109 = true := by kernel_rfl
theorem n109 : nat4 109 = some (ofK k109) := rfl

/-! 88: checkStrands -/
noncomputable def k88 (args : List Value) (_ : IH) : Option Value := match args with
  | [.int .i64 n] => some (.int .i64 (cond (decide (n < 2) || decide (12 < n)) 3 0))
  | _ => none
noncomputable def nat5 : Nats := addNat nat4 88 k88
set_option maxRecDepth 10000 in
theorem setup5 : Setup Tryz.prog good nat5 (globG 3) := by
  refine plainN setup4 k88 Tryz.func88 rfl rfl fun args H v hk => ?_
  unfold k88 at hk
  split at hk
  · rename_i n
    cases hk
    refine ⟨rfl, ?_⟩
    show Holds _ _ false _ [.int .i64 n, undef, undef, undef, undef] H _
    refine setup4.regE 0 (by kernel_rfl) (by simp only [List.map_cons, List.map_nil]; rfl) (by simp only [qB, qC, qD, qE, qF, qG, qH, qJ, qK, qM, qN, qP, iop1, qR, qS, iop, qT, qV, qW, qX, qY, qZ, zA, Option.getD_some, zB, zC,
    zD, zE, zF, zG, zH, zJ, zK, zM, zN, Step1.ofO, lenC, callF, zP, zR, zS, zT, zV, cond_true, cond_false, decide_true, decide_false, beq_self_eq_true, Bool.false_eq_true, Bool.true_eq_false, zW, zX, zY, zZ, Bool.not_true, Bool.not_false]; rfl) ?_
    exact setup4.regE 0 (by kernel_rfl) (by simp only [List.map_cons, List.map_nil]; rfl) (by simp only [qB, qC, qD, qE, qF, qG, qH, qJ, qK, qM, qN, qP, iop1, qR, qS, iop, qT, qV, qW, qX, qY, qZ, zA, Option.getD_some, zB, zC,
    zD, zE, zF, zG, zH, zJ, zK, zM, zN, Step1.ofO, lenC, callF, zP, zR, zS, zT, zV, cond_true, cond_false, decide_true, decide_false, beq_self_eq_true, Bool.false_eq_true, Bool.true_eq_false, zW, zX, zY, zZ, Bool.not_true, Bool.not_false, e109, enter_k n109, ofK, k109]; rfl) (.ret ⟨.inr rfl, ires_tmp rfl (by simp only [qX, qY]), .refl _⟩)
  · cases hk
theorem e88 : enters Tryz.prog 88 = true := by kernel_rfl

/-! 124: isColour -/
noncomputable def k124 (args : List Value) (_ : IH) : Option Value := match args with
  | [.int .i64 n] => some (.bool (decide (0 ≤ n) && decide (n < 8)))
  | _ => none
noncomputable def nat6 : Nats := addNat nat5 124 k124
set_option maxRecDepth 10000 in
theorem setup6 : Setup Tryz.prog good nat6 (globG 3) := by
  refine plainN setup5 k124 Tryz.func124 rfl rfl fun args H v hk => ?_
  unfold k124 at hk
  split at hk
  · rename_i n
    cases hk
    refine ⟨rfl, ?_⟩
    show Holds _ _ false _ [.int .i64 n, undef, undef, undef, undef, undef, undef, undef, undef] H _
    by_cases h1 : 0 ≤ n
    · refine setup5.regE 0 (by kernel_rfl) (by simp only [List.map_cons, List.map_nil]; rfl) (by simp only [qB, qC, qD, qE, qF, qG, qH, qJ, qK, qM, qN, qP, iop1, qR, qS, iop, qT, qV, qW, qX, qY, qZ, zA, Option.getD_some, zB, zC,
    zD, zE, zF, zG, zH, zJ, zK, zM, zN, Step1.ofO, lenC, callF, zP, zR, zS, zT, zV, cond_true, cond_false, decide_true, decide_false, beq_self_eq_true, Bool.false_eq_true, Bool.true_eq_false, zW, zX, zY, zZ, Bool.not_true, Bool.not_false]; rfl) ?_
      exact setup5.regE 0 (by kernel_rfl) (by simp only [List.map_cons, List.map_nil]; rfl) (by simp only [qB, qC, qD, qE, qF, qG, qH, qJ, qK, qM, qN, qP, iop1, qR, qS, iop, qT, qV, qW, qX, qY, qZ, zA, Option.getD_some, zB, zC,
    zD, zE, zF, zG, zH, zJ, zK, zM, zN, Step1.ofO, lenC, callF, zP, zR, zS, zT, zV, cond_true, cond_false, decide_true, decide_false, beq_self_eq_true, Bool.false_eq_true, Bool.true_eq_false, zW, zX, zY, zZ, Bool.not_true, Bool.not_false, h1]; rfl) (.ret ⟨.inr rfl, ires_tmp rfl (by simp only [qX, qY]; simp [h1]), .refl _⟩)
    · refine setup5.regE 0 (by kernel_rfl) (by simp only [List.map_cons, List.map_nil]; rfl) (by simp only [qB, qC, qD, qE, qF, qG, qH, qJ, qK, qM, qN, qP, iop1, qR, qS, iop, qT, qV, qW, qX, qY, qZ, zA, Option.getD_some, zB, zC,
    zD, zE, zF, zG, zH, zJ, zK, zM, zN, Step1.ofO, lenC, callF, zP, zR, zS, zT, zV, cond_true, cond_false, decide_true, decide_false, beq_self_eq_true, Bool.false_eq_true, Bool.true_eq_false, zW, zX, zY, zZ, Bool.not_true, Bool.not_false]; rfl) ?_
      exact setup5.regE 0 (by kernel_rfl) (by simp only [List.map_cons, List.map_nil]; rfl) (by simp only [qB, qC, qD, qE, qF, qG, qH, qJ, qK, qM, qN, qP, iop1, qR, qS, iop, qT, qV, qW, qX, qY, qZ, zA, Option.getD_some, zB, zC,
    zD, zE, zF, zG, zH, zJ, zK, zM, zN, Step1.ofO, lenC, callF, zP, zR, zS, zT, zV, cond_true, cond_false, decide_true, decide_false, beq_self_eq_true, Bool.false_eq_true, Bool.true_eq_false, zW, zX, zY, zZ, Bool.not_true, Bool.not_false, h1]; rfl) (.ret ⟨.inr rfl, ires_tmp rfl (by simp only [qX, qY]; simp [h1]), .refl _⟩)
  · cases hk
theorem e124 : enters Tryz.prog 124 = true := by kernel_rfl
theorem n124 : nat6 124 = some (ofK k124) := rfl

/-! 16: scheme -/
noncomputable def k16 (args : List Value) (_ : IH) : Option Value := match args with
  | [.slice _ n _] => some (.bool (decide ((n : Int) ≤ 27)))
  | _ => none
noncomputable def nat7 : Nats := addNat nat6 16 k16
set_option maxRecDepth 10000 in
theorem setup7 : Setup Tryz.prog good nat7 (globG 3) := by
  refine plainN setup6 k16 Tryz.func16 rfl rfl fun args H v hk => ?_
  unfold k16 at hk
  split at hk
  · rename_i a n c
    cases hk
    refine ⟨rfl, ?_⟩
    show Holds _ _ false _ [.slice a n c, undef, undef, undef, undef, undef] H _
    refine setup6.regE 0 (by kernel_rfl) (by simp only [List.map_cons, List.map_nil]; rfl) (by simp only [qB, qC, qD, qE, qF, qG, qH, qJ, qK, qM, qN, qP, iop1, qR, qS, iop, qT, qV, qW, qX, qY, qZ, zA, Option.getD_some, zB, zC,
    zD, zE, zF, zG, zH, zJ, zK, zM, zN, Step1.ofO, lenC, callF, zP, zR, zS, zT, zV, cond_true, cond_false, decide_true, decide_false, beq_self_eq_true, Bool.false_eq_true, Bool.true_eq_false, zW, zX, zY, zZ, Bool.not_true, Bool.not_false]; rfl) ?_
    exact setup6.regE 0 (by kernel_rfl) (by simp only [List.map_cons, List.map_nil]; rfl) (by simp only [qB, qC, qD, qE, qF, qG, qH, qJ, qK, qM, qN, qP, iop1, qR, qS, iop, qT, qV, qW, qX, qY, qZ, zA, Option.getD_some, zB, zC,
    zD, zE, zF, zG, zH, zJ, zK, zM, zN, Step1.ofO, lenC, callF, zP, zR, zS, zT, zV, cond_true, cond_false, decide_true, decide_false, beq_self_eq_true, Bool.false_eq_true, Bool.true_eq_false, zW, zX, zY, zZ, Bool.not_true, Bool.not_false, lenB_slice u22, goInt]; rfl) (.ret ⟨.inr rfl, ires_tmp rfl (by simp only [qX, qY]), .refl _⟩)
  · cases hk
theorem e16 : enters Tryz.prog 16 = true := by kernel_rfl
end Go.Proofs.YtpdlblofcdcikaaGreatDoor
