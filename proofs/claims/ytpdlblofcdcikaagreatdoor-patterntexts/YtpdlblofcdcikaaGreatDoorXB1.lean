/- Builders of texts: copyCheck and String, told by hand. Conditions: none. -/
import Derived.Test.YtpdlblofcdcikaaGreatDoorLB0
import Derived.Test.YtpdlblofcdcikaaGreatDoorIdlI
set_option linter.all false
namespace Go.Proofs.YtpdlblofcdcikaaGreatDoor
open Go Go.Idl Go.Sv
theorem q94 : qKY Tryz.prog 149 = some false := by kernel_rfl
theorem q8C : qKY Tryz.prog 150 = some false := by kernel_rfl
theorem q9F : szT Tryz.prog 149 = some 1 := by kernel_rfl
theorem q8D : Tryz.prog.underlying 150 = some (.slice 5) := by kernel_rfl
theorem fl0 (b : Nat) : uO Tryz.prog 152 (.pointer (some ⟨b, 0, none⟩)) 0 = some (.pointer (some ⟨b, 0, none⟩)) := by kernel_rfl
theorem fl1 (b : Nat) : uO Tryz.prog 152 (.pointer (some ⟨b, 0, none⟩)) 1 = some (.pointer (some ⟨b, 1, none⟩)) := by kernel_rfl
theorem q30 (a : Addr) (H : IH) : jZ (.pointer (some a)) H = some (.val (.pointer (some a)) H) := rfl
theorem q8Y {o : Oper} {env : Env} {H : IH} : zN Tryz.prog o .eql 149 (.pointer none) (.pointer none) env H = some (.val (.bool true) H) := by kernel_rfl
theorem q8V {o : Oper} {env : Env} {H : IH} (b : Nat) : zN Tryz.prog o .eql 149 (.pointer (some ⟨b, 0, none⟩)) (.pointer none) env H = some (.val (.bool false) H) := by kernel_rfl
theorem cv1 {o : Oper} {env : Env} {H : IH} {b : Nat} {x y : Value} (h : H.get b = some (.cells #[x, y] 152 (0, 0))) : vT Tryz.prog o 149 210 (.pointer (some ⟨b, 0, none⟩)) env H = some (.val (.pointer (some ⟨b, 0, none⟩)) H) := by
 show Step1.ofO H (fG Tryz.prog 149 210 (.pointer (some ⟨b, 0, none⟩)) H) = _;unfold fG;simp only [h]
 kernel_rfl
theorem cv2 {o : Oper} {env : Env} {H : IH} {b : Nat} {x y : Value} (h : H.get b = some (.cells #[x, y] 152 (0, 0))) : vT Tryz.prog o 210 149 (.pointer (some ⟨b, 0, none⟩)) env H = some (.val (.pointer (some ⟨b, 0, none⟩)) H) := by
 show Step1.ofO H (fG Tryz.prog 210 149 (.pointer (some ⟨b, 0, none⟩)) H) = _;unfold fG;simp only [h]
 kernel_rfl
variable {nat : yU}
theorem q9Y : Tryz.prog.underlying 149 = some (.pointer 152) := by kernel_rfl
theorem z152 : szT Tryz.prog 152 = some 2 := by kernel_rfl
theorem q9D {o : Oper} {env : Env} {H : IH} {b : Nat} : zN Tryz.prog o .neq 149 (.pointer (some ⟨b, 0, none⟩)) (.pointer (some ⟨b, 0, none⟩)) env H = some (.val (.bool false) H) := by
 have h1 : nL Tryz.prog 149 (.pointer (some ⟨b, 0, none⟩)) (.pointer (some ⟨b, 0, none⟩)) = some true := by
  show qKE Tryz.prog 149 (.pointer (some ⟨b, 0, none⟩)) (.pointer (some ⟨b, 0, none⟩)) = some true;unfold qKE;simp only [q9Y, z152];simp
 show nilBin Tryz.prog o .neq 149 (.pointer (some ⟨b, 0, none⟩)) (.pointer (some ⟨b, 0, none⟩)) env H = _;unfold nilBin;simp only [h1];rfl
theorem q66 : ∀ {fn : Func}, Tryz.prog.funcs[181]? = some fn -> fn.body.isSome = false ∧ (fn.name == "internal/abi.NoEscape" && fn.origin == "") = true := fun {fn} h => by
 have : Tryz.prog.funcs[181]? = some Tryz.f181 := Tryz.func181;rw [this] at h;cases h;exact ⟨by kernel_rfl, by kernel_rfl⟩
theorem noE {o : Oper} {i : Nat} {ts : Array TypeId} {env : Env} {H : IH} : qU Tryz.prog o ⟨.value (.func 181), #[.tmp i], ts⟩ env H = some (.val (env.val (.tmp i)) H) := by
 have h1 : vG Tryz.prog ⟨.value (.func 181), #[.tmp i], ts⟩ env H = some (.val (env.val (.tmp i)) H) := by
  unfold vG;simp only [show env.val (.func 181) = .func (.func 181) #[] #[] from rfl, Tryz.func181];obtain ⟨h1, h2⟩ := q66 Tryz.func181;rw [h1, h2];rfl
 unfold qU;rw [h1]
set_option maxRecDepth 10000 in
theorem q28 (s : Setup Tryz.prog good nat (zL 3)) {b : Nat} {x y : Value} {H : IH} (hb : H.base <= b) (hg : H.get b = some (.cells #[x, y] 152 (0, 0))) (hx : x = .pointer none ∨ x = .pointer (some ⟨b, 0, none⟩)) :
 gK Tryz.prog (zL 3) 153 [.pointer (some ⟨b, 0, none⟩)] H fun r => r.1 = .tuple #[] ∧ (r.2 = H.put b (.cells #[.pointer (some ⟨b, 0, none⟩), y] 152 (0, 0)) ∨ (r.2 = H ∧ x = .pointer (some ⟨b, 0, none⟩))) := by
 refine gK.of Tryz.func153 rfl (N := 20) rfl ?_;show Holds _ _ false _ [.pointer (some ⟨b, 0, none⟩), undef, undef, undef, undef, undef, undef, undef, undef, undef, undef, undef, undef, undef, undef, undef, undef, undef, undef, undef] H _;have l0 : yQ Tryz.prog 149 (.pointer (some ⟨b, 0, none⟩)) H = some x := qCG (l := [x, y]) q94 hg rfl;have st : xD Tryz.prog 149 (.pointer (some ⟨b, 0, none⟩)) (.pointer (some ⟨b, 0, none⟩)) H = some (H.put b (.cells #[.pointer (some ⟨b, 0, none⟩), y] 152 (0, 0))) := qQM (l := [x, y]) q9F rfl rfl hg (by simp) rfl hb;rcases hx with rfl | rfl
 ·refine s.ifZ (by kernel_rfl) (by simp only [List.map_cons, List.map_nil]; rfl) (by simp only [kX, uG, kI, kF, kH, kJ, kG, kR, xH, uE, vI, vJ, aH, uZ, kS, iop, wW, vE, uP, yK, yJ, j5, vM, Option.getD_some, vH, vC, bO, bQ, bL, bR, bF, bK, bW, aT, j4, Step1.ofO, qZ0, qJL, uW, jY, sP, sW, r9, cond_true, cond_false, decide_true, decide_false, beq_self_eq_true, Bool.false_eq_true, Bool.true_eq_false, rY, sG, sS, sM, Bool.not_true, Bool.not_false, qZN, qHM, kN, List.map_cons, List.map_nil, goInt, q30, fl0, l0, q8Y]; rfl) (by kernel_rfl) (by simp only [wW, yK, yJ, Option.getD_some]; rfl) (fun _ => ?_) (fun ht => by cases ht);exact s.regZ 0 (by kernel_rfl) (by simp only [List.map_cons, List.map_nil]; rfl) (by simp only [kX, uG, kI, kF, kH, kJ, kG, kR, xH, uE, vI, vJ, aH, uZ, kS, iop, wW, vE, uP, yK, yJ, j5, vM, Option.getD_some, vH, vC, bO, bQ, bL, bR, bF, bK, bW, aT, j4, Step1.ofO, qZ0, qJL, uW, jY, sP, sW, r9, cond_true, cond_false, decide_true, decide_false, beq_self_eq_true, Bool.false_eq_true, Bool.true_eq_false, rY, sG, sS, sM, Bool.not_true, Bool.not_false, qZN, qHM, kN, List.map_cons, List.map_nil, goInt, q30, fl0, cv1 hg, noE, cv2 hg, st]; rfl) ⟨.inl rfl, .tuple #[], rfl, rfl, .inl rfl⟩
 ·refine s.ifZ (by kernel_rfl) (by simp only [List.map_cons, List.map_nil]; rfl) (by simp only [kX, uG, kI, kF, kH, kJ, kG, kR, xH, uE, vI, vJ, aH, uZ, kS, iop, wW, vE, uP, yK, yJ, j5, vM, Option.getD_some, vH, vC, bO, bQ, bL, bR, bF, bK, bW, aT, j4, Step1.ofO, qZ0, qJL, uW, jY, sP, sW, r9, cond_true, cond_false, decide_true, decide_false, beq_self_eq_true, Bool.false_eq_true, Bool.true_eq_false, rY, sG, sS, sM, Bool.not_true, Bool.not_false, qZN, qHM, kN, List.map_cons, List.map_nil, goInt, q30, fl0, l0, q8V]; rfl) (by kernel_rfl) (by simp only [wW, yK, yJ, Option.getD_some]; rfl) (fun ht => by cases ht) (fun _ => ?_);refine s.ifZ (by kernel_rfl) (by simp only [List.map_cons, List.map_nil]; rfl) (by simp only [kX, uG, kI, kF, kH, kJ, kG, kR, xH, uE, vI, vJ, aH, uZ, kS, iop, wW, vE, uP, yK, yJ, j5, vM, Option.getD_some, vH, vC, bO, bQ, bL, bR, bF, bK, bW, aT, j4, Step1.ofO, qZ0, qJL, uW, jY, sP, sW, r9, cond_true, cond_false, decide_true, decide_false, beq_self_eq_true, Bool.false_eq_true, Bool.true_eq_false, rY, sG, sS, sM, Bool.not_true, Bool.not_false, qZN, qHM, kN, List.map_cons, List.map_nil, goInt, q30, fl0, l0, q9D]; rfl) (by kernel_rfl) (by simp only [wW, yK, yJ, Option.getD_some]; rfl) (fun ht => by cases ht) (fun _ => .skip ⟨.inl rfl, .tuple #[], rfl, rfl, .inr ⟨rfl, rfl⟩⟩)
theorem q8J : Tryz.prog.underlying 188 = some (.pointer 5) := by kernel_rfl
def bText (l : List Int) : ByteArray := ⟨(l.map fun z => UInt8.ofNat z.toNat).toArray⟩
theorem qOC : ∀ l : List Int, qY (l.map (Value.int .u8)) = some (l.map fun z => UInt8.ofNat z.toNat)
 | [] => rfl
 | z :: l => by
   show (qY (l.map (Value.int .u8))).map (UInt8.ofNat z.toNat :: ·) = _;rw [qOC l]; rfl
theorem usN {o : Oper} {i : Nat} {ts : Array TypeId} {env : Env} {H : IH} (hx : env.val (.tmp i) = .slice none 0 0) : qU Tryz.prog o ⟨.builtin .unsafeSliceData, #[.tmp i], ts⟩ env H = some (.val (.pointer none) H) := by
 have : vG Tryz.prog ⟨.builtin .unsafeSliceData, #[.tmp i], ts⟩ env H = some (.val (.pointer none) H) := by
  show zD Tryz.prog .unsafeSliceData ⟨.builtin .unsafeSliceData, #[.tmp i], ts⟩ [env.val (.tmp i)] H = _;rw [hx]; rfl
 unfold qU;rw [this]
theorem usD {o : Oper} {i : Nat} {ts : Array TypeId} {env : Env} {H : IH} {b n : Nat} {sp : Option TypeId} (hn : n ≠ 0) (hx : env.val (.tmp i) = .slice (some ⟨b, 0, sp⟩) n n) : qU Tryz.prog o ⟨.builtin .unsafeSliceData, #[.tmp i], ts⟩ env H = some (.val (.pointer (some ⟨b, 0, none⟩)) H) := by
 have : vG Tryz.prog ⟨.builtin .unsafeSliceData, #[.tmp i], ts⟩ env H = some (.val (.pointer (some ⟨b, 0, none⟩)) H) := by
  show zD Tryz.prog .unsafeSliceData ⟨.builtin .unsafeSliceData, #[.tmp i], ts⟩ [env.val (.tmp i)] H = _;rw [hx];unfold zD;simp [hn]
 unfold qU;rw [this]
theorem usE {o : Oper} {i j : Nat} {env : Env} {H : IH} (hx : env.val (.tmp i) = .pointer none) (hy : env.val (.tmp j) = .int .i64 ((0 : Nat) : Int)) : qU Tryz.prog o ⟨.builtin .unsafeString, #[.tmp i, .tmp j], #[188, 3]⟩ env H = some (.val (.string .empty) H) := by
 have : vG Tryz.prog ⟨.builtin .unsafeString, #[.tmp i, .tmp j], #[188, 3]⟩ env H = some (.val (.string .empty) H) := by
  show zD Tryz.prog .unsafeString ⟨.builtin .unsafeString, #[.tmp i, .tmp j], #[188, 3]⟩ [env.val (.tmp i), env.val (.tmp j)] H = _;rw [hx, hy];show zJ Tryz.prog #[188, 3] [.pointer none, .int .i64 0] H = _;unfold zJ;simp [q8J]
 unfold qU;rw [this]
theorem usS {o : Oper} {i j : Nat} {env : Env} {H : IH} {b : Nat} {l : List Int} (hl : l ≠ []) (h60 : l.length <= 1048576) (hb : H.base <= b) (hg : H.get b = some (.cells (l.map (Value.int .u8)).toArray 5 qX)) (hx : env.val (.tmp i) = .pointer (some ⟨b, 0, none⟩)) (hy : env.val (.tmp j) = .int .i64 (l.length : Int)) :
 qU Tryz.prog o ⟨.builtin .unsafeString, #[.tmp i, .tmp j], #[188, 3]⟩ env H = some (.val (.string (bText l)) (H.put b (.cells (l.map (Value.int .u8)).toArray 5 (0, 1)))) := by
 have : vG Tryz.prog ⟨.builtin .unsafeString, #[.tmp i, .tmp j], #[188, 3]⟩ env H = some (.val (.string (bText l)) (H.put b (.cells (l.map (Value.int .u8)).toArray 5 (0, 1)))) := by
  show zD Tryz.prog .unsafeString ⟨.builtin .unsafeString, #[.tmp i, .tmp j], #[188, 3]⟩ [env.val (.tmp i), env.val (.tmp j)] H = _;rw [hx, hy];show zJ Tryz.prog #[188, 3] [.pointer (some ⟨b, 0, none⟩), .int .i64 (l.length : Int)] H = _;have h0 : 0 < l.length := List.length_pos_iff.2 hl
  have e1 : H.loads b 0 l.length = some (l.map (Value.int .u8)) := by
   have := qUC hg
   rwa [List.length_map] at this
  unfold zJ;have c0 : ((#[188, 3] : Array TypeId)[0]? : Option TypeId) = some 188 := rfl;simp only [c0, q8J];rw [if_neg (by omega), if_pos (by simp; omega)];simp only [hg, Int.toNat_natCast, e1, Option.bind_some, qOC]
  rw [if_pos (by
   have q1 : (uH qX && Tryz.prog.cellsOf 5 == 1 && sameLayout Tryz.prog Tryz.prog.depth 5 5) = true := by kernel_rfl
   rw [q1, decide_eq_true hb]; rfl)]
  rfl
 unfold qU;rw [this]
set_option maxRecDepth 10000 in
theorem qPO (s : Setup Tryz.prog good jD (zL 3)) {b : Nat} {x : Value} {H : IH} (hg : H.get b = some (.cells #[x, .slice none 0 0] 152 (0, 0))) :
 gK Tryz.prog (zL 3) 120 [.pointer (some ⟨b, 0, none⟩)] H fun r => r = (.string .empty, H) := by
 refine gK.of Tryz.func120 rfl (N := 14) rfl ?_;show Holds _ _ false _ [.pointer (some ⟨b, 0, none⟩), undef, undef, undef, undef, undef, undef, undef, undef, undef, undef, undef, undef, undef] H _;have l1 : yQ Tryz.prog 150 (.pointer (some ⟨b, 1, none⟩)) H = some (.slice none 0 0) := qCG (l := [x, .slice none 0 0]) q8C hg rfl;refine s.regE 0 (by kernel_rfl) (by simp only [List.map_cons, List.map_nil]; rfl) (by simp only [kX, uG, kI, kF, kH, kJ, kG, kR, xH, uE, vI, vJ, aH, uZ, kS, iop, wW, vE, uP, yK, yJ, j5, vM, Option.getD_some, vH, vC, bO, bQ, bL, bR, bF, bK, bW, aT, j4, Step1.ofO, qZ0, qJL, uW, jY, sP, sW, r9, cond_true, cond_false, decide_true, decide_false, beq_self_eq_true, Bool.false_eq_true, Bool.true_eq_false, rY, sG, sS, sM, Bool.not_true, Bool.not_false, qZN, qHM, kN, List.map_cons, List.map_nil, goInt]; rfl) ?_;refine s.drawE qDU 0 (lo := []) (by kernel_rfl) (by kernel_rfl) (by kernel_rfl) (by kernel_rfl) (by kernel_rfl) (by kernel_rfl) (by kernel_rfl) (by simp only [List.map_cons, List.map_nil]; rfl) (by simp only [kX, uG, kI, kF, kH, kJ, kG, kR, xH, uE, vI, vJ, aH, uZ, kS, iop, wW, vE, uP, yK, yJ, j5, vM, Option.getD_some, vH, vC, bO, bQ, bL, bR, bF, bK, bW, aT, j4, Step1.ofO, qZ0, qJL, uW, jY, sP, sW, r9, cond_true, cond_false, decide_true, decide_false, beq_self_eq_true, Bool.false_eq_true, Bool.true_eq_false, rY, sG, sS, sM, Bool.not_true, Bool.not_false, qZN, qHM, kN, List.map_cons, List.map_nil, goInt, q30, fl1, l1, usN, usE, qEC q8D]; rfl) (by kernel_rfl) (.ret ⟨.inr rfl, .string .empty, qOV rfl (by simp only [yK, yJ]), rfl⟩)
set_option maxRecDepth 10000 in
theorem q3B (s : Setup Tryz.prog good jD (zL 3)) {b b2 : Nat} {x : Value} {H : IH} {l : List Int} (hl : l ≠ []) (h60 : l.length <= 1048576) (hb : H.base <= b2) (hg2 : H.get b2 = some (.cells (l.map (Value.int .u8)).toArray 5 qX)) (hg : H.get b = some (.cells #[x, .slice (some ⟨b2, 0, some 5⟩) l.length l.length] 152 (0, 0))) :
 gK Tryz.prog (zL 3) 120 [.pointer (some ⟨b, 0, none⟩)] H fun r => r = (.string (bText l), H.put b2 (.cells (l.map (Value.int .u8)).toArray 5 (0, 1))) := by
 refine gK.of Tryz.func120 rfl (N := 14) rfl ?_;show Holds _ _ false _ [.pointer (some ⟨b, 0, none⟩), undef, undef, undef, undef, undef, undef, undef, undef, undef, undef, undef, undef, undef] H _;have l1 : yQ Tryz.prog 150 (.pointer (some ⟨b, 1, none⟩)) H = some (.slice (some ⟨b2, 0, some 5⟩) l.length l.length) := qCG (l := [x, .slice (some ⟨b2, 0, some 5⟩) l.length l.length]) q8C hg rfl;have hn : l.length ≠ 0 := fun h => hl (List.length_eq_zero_iff.1 h)
 refine s.regE 0 (by kernel_rfl) (by simp only [List.map_cons, List.map_nil]; rfl) (by simp only [kX, uG, kI, kF, kH, kJ, kG, kR, xH, uE, vI, vJ, aH, uZ, kS, iop, wW, vE, uP, yK, yJ, j5, vM, Option.getD_some, vH, vC, bO, bQ, bL, bR, bF, bK, bW, aT, j4, Step1.ofO, qZ0, qJL, uW, jY, sP, sW, r9, cond_true, cond_false, decide_true, decide_false, beq_self_eq_true, Bool.false_eq_true, Bool.true_eq_false, rY, sG, sS, sM, Bool.not_true, Bool.not_false, qZN, qHM, kN, List.map_cons, List.map_nil, goInt]; rfl) ?_;refine s.drawE qDU 0 (lo := []) (by kernel_rfl) (by kernel_rfl) (by kernel_rfl) (by kernel_rfl) (by kernel_rfl) (by kernel_rfl) (by kernel_rfl) (by simp only [List.map_cons, List.map_nil]; rfl) (by simp only [kX, uG, kI, kF, kH, kJ, kG, kR, xH, uE, vI, vJ, aH, uZ, kS, iop, wW, vE, uP, yK, yJ, j5, vM, Option.getD_some, vH, vC, bO, bQ, bL, bR, bF, bK, bW, aT, j4, Step1.ofO, qZ0, qJL, uW, jY, sP, sW, r9, cond_true, cond_false, decide_true, decide_false, beq_self_eq_true, Bool.false_eq_true, Bool.true_eq_false, rY, sG, sS, sM, Bool.not_true, Bool.not_false, qZN, qHM, kN, List.map_cons, List.map_nil, goInt, q30, fl1, l1, usD (b := b2) (sp := some 5) hn, usS hl h60 hb hg2, qEC q8D]; rfl) (by kernel_rfl) (.ret ⟨.inr rfl, .string (bText l), qOV rfl (by simp only [yK, yJ]), rfl⟩)
end Go.Proofs.YtpdlblofcdcikaaGreatDoor
