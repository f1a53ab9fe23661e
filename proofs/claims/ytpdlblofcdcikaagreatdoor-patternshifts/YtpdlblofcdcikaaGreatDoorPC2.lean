/- slices.Concat and slices.Grow keep their contracts. Conditions: none. -/
import Derived.Test.YtpdlblofcdcikaaGreatDoorPC1
set_option linter.unusedSimpArgs false
set_option linter.unusedVariables false
namespace Go.Proofs.YtpdlblofcdcikaaGreatDoor
open Go.Idl Go.Sv
theorem qIC : Tryz.prog.underlying 22 = some (.slice 3) := by kernel_rfl
theorem qXS : Tryz.prog.underlying 25 = some (.slice 22) := by kernel_rfl
theorem q5E : Tryz.prog.underlying 3 = some (.int .i64) := by kernel_rfl
theorem qXV : szT Tryz.prog 3 = some 1 := by kernel_rfl
theorem qPD : El Tryz.prog 22 3 := ⟨qIC, qXV, by kernel_rfl, by kernel_rfl⟩
theorem qXD : El Tryz.prog 25 22 := ⟨qXS, by kernel_rfl, by kernel_rfl, by kernel_rfl⟩
theorem q5X : pF Tryz.prog 3 = some (.int .i64 0) := by kernel_rfl
theorem q4W {ty : TypeId} {i : Nat} {H : IH} : qEM H (uL Tryz.prog (execOp (fun _ => .slice none 0 0) (cop (.call ⟨.builtin .cap, #[.tmp i], #[22]⟩) ty))) = some (.val (.int .i64 0) H) := by kernel_rfl
theorem q31 {d : Option Tmp} {ty : TypeId} {po : String} {af : Array Edge} {gu : Option (Nat × Bool)} {i : Nat} {env : Env} {H : IH} (hx : env.val (.tmp i) = .slice none 0 0) :
 yT Tryz.prog ⟨d, .call ⟨.builtin .cap, #[.tmp i], #[22]⟩, ty, po, af, gu⟩ ⟨.builtin .cap, #[.tmp i], #[22]⟩ env H = some (.val (.int .i64 0) H) := by
 have h2 : jZ env.val (Oper.op ⟨d, .call ⟨.builtin .cap, #[.tmp i], #[22]⟩, ty, po, af, gu⟩).operands.toList = [env.val (.tmp i)] := rfl
 show jQ Tryz.prog ⟨d, .call ⟨.builtin .cap, #[.tmp i], #[22]⟩, ty, po, af, gu⟩ env H = _
 have h3 : execOp env.val ⟨d, .call ⟨.builtin .cap, #[.tmp i], #[22]⟩, ty, po, af, gu⟩ = execOp (fun _ => .slice none 0 0) (cop (.call ⟨.builtin .cap, #[.tmp i], #[22]⟩) ty) := by
  simp only [cop, execOp, resolve, List.map_toArray, List.map_cons, List.map_nil, hx]
 unfold jQ
 rw [h2, h3, hx]
 rw [if_pos (show jN [Value.slice none 0 0] = true from rfl)]
 exact q4W
theorem slN {o : Oper} {env : Env} {H : IH} : jI Tryz.prog o 22 (.slice none 0 0) none (some (.int .i64 0)) none env H = some (.val (.slice none 0 0) H) := by
 unfold jI wC
 simp only [qIC, qXV]
 rfl
theorem slB {o : Oper} {env : Env} {H : IH} {b n : Nat} (hn : n ≠ 0) : jI Tryz.prog o 22 (.slice (some ⟨b, 0, some 3⟩) n n) none (some (.int .i64 ((0 : Nat) : Int))) none env H = some (.val (.slice (some ⟨b, 0, some 3⟩) 0 n) H) := by
 unfold jI wC
 simp only [qIC, qXV]
 have h1 : vR n n (some (.int .i64 ((0 : Nat) : Int))) = some 0 := by simp [vR]
 have h2 : vR 0 0 none = some 0 := by simp [vR]
 simp only [h1, h2]
 rw [if_pos (by simp), if_neg hn]
 simp [Step1.ofO]
def tJ (n : Nat) (args : List Value) (H : IH) : Prop := args = [.slice none 0 0, .int .i64 (n : Nat)] ∧ n <= 65536
def tV (n : Nat) (H : IH) (v : Value) (H' : IH) : Prop := (n = 0 ∧ v = .slice none 0 0 ∧ H' = H) ∨ (n ≠ 0 ∧ v = .slice (some ⟨H.size, 0, some 3⟩) 0 n ∧ H' = H.push (.cells ((List.replicate n 0).map (Value.int .i64)).toArray 3 zC))
theorem qYS (x y : Nat) (args : List Value) (H : IH) (hx : tJ x args H) (hy : tJ y args H) : x = y := by
 have h1 := hx.1.symm.trans hy.1
 simp at h1
 exact Int.ofNat.inj h1
theorem q5L : enters Tryz.prog 162 = true := by kernel_rfl
variable {nat : xU}
set_option maxRecDepth 10000 in
theorem qYV (s : Setup Tryz.prog good nat (qO 3)) : Setup Tryz.prog good (addS nat 162 tJ tV) (qO 3) := s.addS tJ tV fun n args H ⟨ha, hn⟩ => by
 subst ha
 refine gX.of Tryz.func162 rfl (N := 27) rfl ?_
 show Holds _ _ false _ [.slice none 0 0, .int .i64 (n : Nat), undef, undef, undef, undef, undef, undef, undef, undef, undef, undef, undef, undef, undef, undef, undef, undef, undef, undef, undef, undef, undef, undef, undef, undef, undef] H _
 refine s.regE 0 (by kernel_rfl) (by simp only [List.map_cons, List.map_nil]; rfl) (by simp only [zM, zY, qZ, qQ, qV, qW, qR, qU, qK, zT, zF, zG, wB, zW, qY, iop, z8, zJ, zU, qI, qJ, zN, zH, Option.getD_some, zL, zI, yV, yU, yZ, yO, yP, yS, yR, yY, zK, Step1.ofO, rJ, wJ, zX, zO, kG, kL, kF, cond_true, cond_false, decide_true, decide_false, beq_self_eq_true, Bool.false_eq_true, Bool.true_eq_false, kI, kH, kM, kE, Bool.not_true, Bool.not_false, sI, wF, qX, List.map_cons, List.map_nil, goInt]; rfl) ?_
 refine s.ifW (by kernel_rfl) (by simp only [List.map_cons, List.map_nil]; rfl) (by simp only [zM, zY, qZ, qQ, qV, qW, qR, qU, qK, zT, zF, zG, wB, zW, qY, iop, z8, zJ, zU, qI, qJ, zN, zH, Option.getD_some, zL, zI, yV, yU, yZ, yO, yP, yS, yR, yY, zK, Step1.ofO, rJ, wJ, zX, zO, kG, kL, kF, cond_true, cond_false, decide_true, decide_false, beq_self_eq_true, Bool.false_eq_true, Bool.true_eq_false, kI, kH, kM, kE, Bool.not_true, Bool.not_false, sI, wF, qX, List.map_cons, List.map_nil, goInt]; rfl) (by kernel_rfl) (by simp only [z8, qI, qJ, Option.getD_some]; rfl) (fun ht => by simp at ht; omega) (fun ht => .skip (ST.go ?_))
 by_cases h0 : n = 0
 ·subst h0
  refine .seqW (s.regE 0 (by kernel_rfl) (by simp only [List.map_cons, List.map_nil]; rfl) (by simp only [zM, zY, qZ, qQ, qV, qW, qR, qU, qK, zT, zF, zG, wB, zW, qY, iop, z8, zJ, zU, qI, qJ, zN, zH, Option.getD_some, zL, zI, yV, yU, yZ, yO, yP, yS, yR, yY, zK, Step1.ofO, rJ, wJ, zX, zO, kG, kL, kF, cond_true, cond_false, decide_true, decide_false, beq_self_eq_true, Bool.false_eq_true, Bool.true_eq_false, kI, kH, kM, kE, Bool.not_true, Bool.not_false, sI, wF, qX, List.map_cons, List.map_nil, goInt, q31, wM qIC, show IntKind.i64.wrap (0 - ((0 : Nat) : Int)) = 0 by rfl]; rfl) (s.ifZ (by kernel_rfl) (by simp only [List.map_cons, List.map_nil]; rfl) (by simp only [zM, zY, qZ, qQ, qV, qW, qR, qU, qK, zT, zF, zG, wB, zW, qY, iop, z8, zJ, zU, qI, qJ, zN, zH, Option.getD_some, zL, zI, yV, yU, yZ, yO, yP, yS, yR, yY, zK, Step1.ofO, rJ, wJ, zX, zO, kG, kL, kF, cond_true, cond_false, decide_true, decide_false, beq_self_eq_true, Bool.false_eq_true, Bool.true_eq_false, kI, kH, kM, kE, Bool.not_true, Bool.not_false, sI, wF, qX, List.map_cons, List.map_nil, goInt]; rfl) (by kernel_rfl) (by simp only [z8, qI, qJ, Option.getD_some]; rfl) (fun ht => by cases ht) (fun ht => .skip (ST.go ?_))))
  exact s.regE 0 (by kernel_rfl) (by simp only [List.map_cons, List.map_nil]; rfl) (by simp only [zM, zY, qZ, qQ, qV, qW, qR, qU, qK, zT, zF, zG, wB, zW, qY, iop, z8, zJ, zU, qI, qJ, zN, zH, Option.getD_some, zL, zI, yV, yU, yZ, yO, yP, yS, yR, yY, zK, Step1.ofO, rJ, wJ, zX, zO, kG, kL, kF, cond_true, cond_false, decide_true, decide_false, beq_self_eq_true, Bool.false_eq_true, Bool.true_eq_false, kI, kH, kM, kE, Bool.not_true, Bool.not_false, sI, wF, qX, List.map_cons, List.map_nil, goInt]; rfl) (.ret ⟨.inr rfl, .slice none 0 0, qFS rfl (by simp only [qI, qJ]), .inl ⟨rfl, rfl, rfl⟩⟩)
 ·have hw : IntKind.i64.wrap ((n : Int) - 0) = ((n : Nat) : Int) := by rw [wQ (by omega) (by omega)]; omega
  have hap := qUJ (kk := .i64) qPD q5E q5X (H := H) h0 hn
  refine .seqW (s.regE 0 (by kernel_rfl) (by simp only [List.map_cons, List.map_nil]; rfl) (by simp only [zM, zY, qZ, qQ, qV, qW, qR, qU, qK, zT, zF, zG, wB, zW, qY, iop, z8, zJ, zU, qI, qJ, zN, zH, Option.getD_some, zL, zI, yV, yU, yZ, yO, yP, yS, yR, yY, zK, Step1.ofO, rJ, wJ, zX, zO, kG, kL, kF, cond_true, cond_false, decide_true, decide_false, beq_self_eq_true, Bool.false_eq_true, Bool.true_eq_false, kI, kH, kM, kE, Bool.not_true, Bool.not_false, sI, wF, qX, List.map_cons, List.map_nil, goInt, q31, wM qIC, show IntKind.i64.wrap (0 - ((0 : Nat) : Int)) = 0 by rfl, hw]; rfl) (s.ifZ (by kernel_rfl) (by simp only [List.map_cons, List.map_nil]; rfl) (by simp only [zM, zY, qZ, qQ, qV, qW, qR, qU, qK, zT, zF, zG, wB, zW, qY, iop, z8, zJ, zU, qI, qJ, zN, zH, Option.getD_some, zL, zI, yV, yU, yZ, yO, yP, yS, yR, yY, zK, Step1.ofO, rJ, wJ, zX, zO, kG, kL, kF, cond_true, cond_false, decide_true, decide_false, beq_self_eq_true, Bool.false_eq_true, Bool.true_eq_false, kI, kH, kM, kE, Bool.not_true, Bool.not_false, sI, wF, qX, List.map_cons, List.map_nil, goInt]; rfl) (by kernel_rfl) (by simp only [z8, qI, qJ, Option.getD_some]; rfl) (fun ht => ?_) (fun ht => by simp at ht; omega)))
  refine s.regZ 0 (by kernel_rfl) (by simp only [List.map_cons, List.map_nil]; rfl) (by simp only [zM, zY, qZ, qQ, qV, qW, qR, qU, qK, zT, zF, zG, wB, zW, qY, iop, z8, zJ, zU, qI, qJ, zN, zH, Option.getD_some, zL, zI, yV, yU, yZ, yO, yP, yS, yR, yY, zK, Step1.ofO, rJ, wJ, zX, zO, kG, kL, kF, cond_true, cond_false, decide_true, decide_false, beq_self_eq_true, Bool.false_eq_true, Bool.true_eq_false, kI, kH, kM, kE, Bool.not_true, Bool.not_false, sI, wF, qX, List.map_cons, List.map_nil, goInt, q31, Option.map_none, Option.map_some, slN, hap, slB h0, wM qIC]; rfl) (ST.go ?_)
  exact s.regE 0 (by kernel_rfl) (by simp only [List.map_cons, List.map_nil]; rfl) (by simp only [zM, zY, qZ, qQ, qV, qW, qR, qU, qK, zT, zF, zG, wB, zW, qY, iop, z8, zJ, zU, qI, qJ, zN, zH, Option.getD_some, zL, zI, yV, yU, yZ, yO, yP, yS, yR, yY, zK, Step1.ofO, rJ, wJ, zX, zO, kG, kL, kF, cond_true, cond_false, decide_true, decide_false, beq_self_eq_true, Bool.false_eq_true, Bool.true_eq_false, kI, kH, kM, kE, Bool.not_true, Bool.not_false, sI, wF, qX, List.map_cons, List.map_nil, goInt]; rfl) (.ret ⟨.inr rfl, .slice (some ⟨H.size, 0, some 3⟩) 0 n, qFS rfl (by simp only [qI, qJ]), .inr ⟨h0, rfl, rfl⟩⟩)
def H137 (x : TyL [(Ty.list 22 (Ty.list 3 (Ty.int IntKind.i64)))]) : Option (TyL [(Ty.list 3 (Ty.int IntKind.i64))]) := if List.length x <= 100 ∧ ∀ r ∈ (x : List (List Int)), r.length <= 100 then some (List.flatten (x : List (List Int))) else none
theorem qK3 {x : List (List Int)} {c : Nat} (h : ∀ r ∈ x, r.length <= c) : x.flatten.length <= x.length * c := by
 induction x with
 | nil => simp
 | cons r x ih =>
   have h1 := h r (by simp)
   have h2 := ih fun s hs => h s (by simp [hs])
   rw [List.flatten_cons, List.length_append, List.length_cons, Nat.succ_mul]
   omega
theorem gD {x : List (List Int)} {i : Nat} {zs : List Int} (h : x[i]? = some zs) : (x.take (i + 1)).flatten = (x.take i).flatten ++ zs := by
 rw [List.take_add_one, h, List.flatten_append]
 simp
def Room (H : IH) (lo n : Nat) (v : Value) (A : List Int) : Prop :=
 A.length <= n ∧ ((n = 0 ∧ v = .slice none 0 0) ∨ ∃ b, lo <= b ∧ b < H.size ∧ v = .slice (some ⟨b, 0, some 3⟩) A.length n ∧ H.get b = some (.cells ((A ++ List.replicate (n - A.length) 0).map (Value.int .i64)).toArray 3 zC))
theorem Room.app {H : IH} {lo n : Nat} {v : Value} {A zs : List Int} (h : Room H lo n v A) {u : Value} {a : Option Addr} {c : Nat} (hu : u = .slice a zs.length c) (hf : kJ 1 zs.length H u = some (zs.map (Value.int .i64)))
 (hz : A.length + zs.length <= n) (hb : H.base <= lo) :
 ∃ v' H', xL Tryz.prog #[22, 22] [v, u] H = some (.val v' H') ∧ Room H' lo n v' (A ++ zs) ∧ H'.size = H.size ∧ H'.base = H.base ∧ ∀ b', b' < lo -> H'.get b' = H.get b' := by
 obtain ⟨h0, ⟨rfl, rfl⟩ | ⟨b, h1, h2, rfl, h3⟩⟩ := h
 ·have hA : A = [] := List.length_eq_zero_iff.1 (by omega)
  have hzs : zs = [] := List.length_eq_zero_iff.1 (by omega)
  subst hA hzs
  refine ⟨.slice none 0 0, H, ?_, ⟨by simp, .inl ⟨rfl, rfl⟩⟩, rfl, rfl, fun _ _ => rfl⟩
  subst hu
  obtain ⟨info, hi, hsz, hby, hzt⟩ := qPD.info
  unfold xL
  simp only [qIC, hi]
  have hnews : d9 Tryz.prog 3 info (.slice 3) (.slice a ([] : List Int).length c) H = some (0, []) := by
   unfold d9
   simp only [kN, qGY, hsz, hf, cond_true, Option.map_some]
   rfl
  simp only [hnews, kK]
  rfl
 ·obtain ⟨H', g1, g2, g3, g4, g5⟩ := qT6 qPD (n := n) (m := A.length) (k := n - A.length) hu hf h3 rfl (by omega) (by omega) (Nat.le_trans hb h1)
  refine ⟨_, H', g1, ⟨by rw [List.length_append]; exact hz, .inr ⟨b, h1, by rw [g3]; exact h2, ?_, ?_⟩⟩, g3, g4, fun b' hb' => g5 b' (by omega)⟩
  ·simp only [List.length_append]
  ·rw [g2, List.length_append, Nat.sub_sub]
theorem Room.post {H : IH} {n : Nat} {v : Value} {H' : IH} (h : tV n H v H') : Room H' H.size n v [] ∧ Old H H' := by
 rcases h with ⟨rfl, rfl, rfl⟩ | ⟨h0, rfl, rfl⟩
 ·exact ⟨⟨by simp, .inl ⟨rfl, rfl⟩⟩, .refl _⟩
 ·refine ⟨⟨by simp, .inr ⟨H.size, Nat.le_refl _, Nat.lt_succ_self _, rfl, ?_⟩⟩, .push _ _⟩
  rw [j6]; simp
set_option maxRecDepth 10000 in
theorem qYZ {nat : xU} (s : Setup Tryz.prog good nat (qO 3)) (x : List (List Int)) (v : Value) (H : IH) (hx : x.length <= 100) (hr : ∀ r ∈ x, r.length <= 100) (Z : Nat -> Prop) (hz : ∀ b, Z b -> b < H.size) (hv : FR Z H ((q07 22).fv x) v) (hb : H.base <= H.size) :
 gX Tryz.prog (qO 3) 137 [v] H fun q => Old H q.2 ∧ Room q.2 H.size x.flatten.length q.1 x.flatten := by
 have s2 := qYV s
 obtain ⟨a, c, rfl⟩ := qYK hv
 have hfl := qK3 hr
 have hx2 : x.length * 100 <= 100 * 100 := Nat.mul_le_mul_right _ hx
 refine gX.of Tryz.func137 rfl (N := 36) rfl ?_
 show Holds _ _ false _ [.slice a x.length c, undef, undef, undef, undef, undef, undef, undef, undef, undef, undef, undef, undef, undef, undef, undef, undef, undef, undef, undef, undef, undef, undef, undef, undef, undef, undef, undef, undef, undef, undef, undef, undef, undef, undef, undef] H _
 refine s2.regE 0 (by kernel_rfl) (by simp only [List.map_cons, List.map_nil]; rfl) (by simp only [zM, zY, qZ, qQ, qV, qW, qR, qU, qK, zT, zF, zG, wB, zW, qY, iop, z8, zJ, zU, qI, qJ, zN, zH, Option.getD_some, zL, zI, yV, yU, yZ, yO, yP, yS, yR, yY, zK, Step1.ofO, rJ, wJ, zX, zO, kG, kL, kF, cond_true, cond_false, decide_true, decide_false, beq_self_eq_true, Bool.false_eq_true, Bool.true_eq_false, kI, kH, kM, kE, Bool.not_true, Bool.not_false, sI, wF, qX, List.map_cons, List.map_nil, goInt]; rfl) ?_
 refine s2.regE 0 (by kernel_rfl) (by simp only [List.map_cons, List.map_nil]; rfl) (by simp only [zM, zY, qZ, qQ, qV, qW, qR, qU, qK, zT, zF, zG, wB, zW, qY, iop, z8, zJ, zU, qI, qJ, zN, zH, Option.getD_some, zL, zI, yV, yU, yZ, yO, yP, yS, yR, yY, zK, Step1.ofO, rJ, wJ, zX, zO, kG, kL, kF, cond_true, cond_false, decide_true, decide_false, beq_self_eq_true, Bool.false_eq_true, Bool.true_eq_false, kI, kH, kM, kE, Bool.not_true, Bool.not_false, sI, wF, qX, List.map_cons, List.map_nil, goInt]; rfl) ?_
 refine .seqW (s2.regE 0 (by kernel_rfl) (by simp only [List.map_cons, List.map_nil]; rfl) (by simp only [zM, zY, qZ, qQ, qV, qW, qR, qU, qK, zT, zF, zG, wB, zW, qY, iop, z8, zJ, zU, qI, qJ, zN, zH, Option.getD_some, zL, zI, yV, yU, yZ, yO, yP, yS, yR, yY, zK, Step1.ofO, rJ, wJ, zX, zO, kG, kL, kF, cond_true, cond_false, decide_true, decide_false, beq_self_eq_true, Bool.false_eq_true, Bool.true_eq_false, kI, kH, kM, kE, Bool.not_true, Bool.not_false, sI, wF, qX, List.map_cons, List.map_nil, goInt, wM qXS]; rfl) ?_)
 refine .loopW (fun m e h => ∃ (i : Nat), i <= x.length ∧ m = x.length - i ∧ H = h ∧ e = [.slice a x.length c, unk, unk, .int .i64 ((x.take i).flatten.length : Nat), unk, unk, unk, unk, unk, .slice a x.length c, .int .i64 (x.length : Nat), .int .i64 (i : Nat), unk, unk, unk, unk, unk, unk, unk, unk, unk, unk, unk, unk, unk, unk, unk, unk, unk, unk, unk, unk, unk, unk, unk, unk]) x.length
  [.slice a x.length c, unk, unk, .int .i64 0, unk, unk, unk, unk, unk, .slice a x.length c, .int .i64 (x.length : Nat), .int .i64 0, unk, unk, unk, unk, unk, unk, unk, unk, unk, unk, unk, unk, unk, unk, unk, unk, unk, unk, unk, unk, unk, unk, unk, unk] (by repeat (first | exact WkL.nil | refine WkL.same ?_ | refine WkL.any ?_)) ⟨0, Nat.zero_le _, rfl, rfl, rfl⟩ ?_
 ·rintro m e h ⟨i, hi, rfl, rfl, rfl⟩
  refine s2.headW (by kernel_rfl) (by simp only [List.map_cons, List.map_nil]; rfl) (by simp only [zM, zY, qZ, qQ, qV, qW, qR, qU, qK, zT, zF, zG, wB, zW, qY, iop, z8, zJ, zU, qI, qJ, zN, zH, Option.getD_some, zL, zI, yV, yU, yZ, yO, yP, yS, yR, yY, zK, Step1.ofO, rJ, wJ, zX, zO, kG, kL, kF, cond_true, cond_false, decide_true, decide_false, beq_self_eq_true, Bool.false_eq_true, Bool.true_eq_false, kI, kH, kM, kE, Bool.not_true, Bool.not_false, sI, wF, qX, List.map_cons, List.map_nil, goInt]; rfl) (by kernel_rfl) (by simp only [z8, qI, qJ, Option.getD_some]; rfl) (fun ht => ?_) (fun ht => ?_)
  ·have hlt : i < x.length := by simpa using ht
   obtain ⟨zs, hzs⟩ : ∃ zs, x[i]? = some zs := ⟨_, List.getElem?_eq_getElem hlt⟩
   obtain ⟨u, p, hp, hld, hfu⟩ := qWD qXD hv hzs (k := .i64)
   obtain ⟨au, cu, rfl, _⟩ := qP3 hfu
   have hzl := hr zs (List.mem_of_getElem? hzs)
   have hft : (x.take i).flatten.length <= i * 100 := by
    have := qK3 (x := x.take i) (c := 100) fun r h => hr r (List.mem_of_mem_take h)
    rwa [List.length_take, Nat.min_eq_left hi] at this
   have hi2 : i * 100 <= 100 * 100 := Nat.mul_le_mul_right _ (by omega)
   have hw : IntKind.i64.wrap (((x.take i).flatten.length : Int) + (zs.length : Int)) = (((x.take (i + 1)).flatten.length : Nat) : Int) := by
    rw [gD hzs, List.length_append, wQ (by omega) (by omega)]; simp
   refine .blockW (s2.regE 0 (by kernel_rfl) (by simp only [List.map_cons, List.map_nil]; rfl) (by simp only [zM, zY, qZ, qQ, qV, qW, qR, qU, qK, zT, zF, zG, wB, zW, qY, iop, z8, zJ, zU, qI, qJ, zN, zH, Option.getD_some, zL, zI, yV, yU, yZ, yO, yP, yS, yR, yY, zK, Step1.ofO, rJ, wJ, zX, zO, kG, kL, kF, cond_true, cond_false, decide_true, decide_false, beq_self_eq_true, Bool.false_eq_true, Bool.true_eq_false, kI, kH, kM, kE, Bool.not_true, Bool.not_false, sI, wF, qX, List.map_cons, List.map_nil, goInt, hp, hld]; rfl) ?_)
   refine s2.regE 0 (by kernel_rfl) (by simp only [List.map_cons, List.map_nil]; rfl) (by simp only [zM, zY, qZ, qQ, qV, qW, qR, qU, qK, zT, zF, zG, wB, zW, qY, iop, z8, zJ, zU, qI, qJ, zN, zH, Option.getD_some, zL, zI, yV, yU, yZ, yO, yP, yS, yR, yY, zK, Step1.ofO, rJ, wJ, zX, zO, kG, kL, kF, cond_true, cond_false, decide_true, decide_false, beq_self_eq_true, Bool.false_eq_true, Bool.true_eq_false, kI, kH, kM, kE, Bool.not_true, Bool.not_false, sI, wF, qX, List.map_cons, List.map_nil, goInt, wM qIC, hw]; rfl) ?_
   refine s2.ifZ (by kernel_rfl) (by simp only [List.map_cons, List.map_nil]; rfl) (by simp only [zM, zY, qZ, qQ, qV, qW, qR, qU, qK, zT, zF, zG, wB, zW, qY, iop, z8, zJ, zU, qI, qJ, zN, zH, Option.getD_some, zL, zI, yV, yU, yZ, yO, yP, yS, yR, yY, zK, Step1.ofO, rJ, wJ, zX, zO, kG, kL, kF, cond_true, cond_false, decide_true, decide_false, beq_self_eq_true, Bool.false_eq_true, Bool.true_eq_false, kI, kH, kM, kE, Bool.not_true, Bool.not_false, sI, wF, qX, List.map_cons, List.map_nil, goInt]; rfl) (by kernel_rfl) (by simp only [z8, qI, qJ, Option.getD_some]; rfl) (fun ht2 => by simp at ht2; omega) (fun ht2 => .skip (BT.go ?_))
   exact s2.regZ 0 (by kernel_rfl) (by simp only [List.map_cons, List.map_nil]; rfl) (by simp only [zM, zY, qZ, qQ, qV, qW, qR, qU, qK, zT, zF, zG, wB, zW, qY, iop, z8, zJ, zU, qI, qJ, zN, zH, Option.getD_some, zL, zI, yV, yU, yZ, yO, yP, yS, yR, yY, zK, Step1.ofO, rJ, wJ, zX, zO, kG, kL, kF, cond_true, cond_false, decide_true, decide_false, beq_self_eq_true, Bool.false_eq_true, Bool.true_eq_false, kI, kH, kM, kE, Bool.not_true, Bool.not_false, sI, wF, qX, List.map_cons, List.map_nil, goInt, qG4 hlt (by omega)]; rfl) (LQ.go (x.length - (i + 1)) (by omega) (by repeat (first | exact WkL.nil | refine WkL.same ?_ | refine WkL.any ?_)) ⟨i + 1, by omega, rfl, rfl, rfl⟩)
  ·have hge : i = x.length := by simp at ht; omega
   subst hge
   rw [List.take_length]
   refine ST.go ?_
   have hpre : tJ x.flatten.length [.slice none 0 0, .int .i64 (x.flatten.length : Nat)] H := ⟨rfl, by omega⟩
   refine s2.regS (by kernel_rfl) (by simp only [List.map_cons, List.map_nil]; rfl) ?_; simp only [zM, zY, qZ, qQ, qV, qW, qR, qU, qK, zT, zF, zG, wB, zW, qY, iop, z8, zJ, zU, qI, qJ, zN, zH, Option.getD_some, zL, zI, yV, yU, yZ, yO, yP, yS, yR, yY, zK, Step1.ofO, rJ, wJ, zX, zO, kG, kL, kF, cond_true, cond_false, decide_true, decide_false, beq_self_eq_true, Bool.false_eq_true, Bool.true_eq_false, kI, kH, kM, kE, Bool.not_true, Bool.not_false, sI, wF, qX, List.map_cons, List.map_nil, goInt, qU7, holds_ret, q5L, qZA (x := x.flatten.length) (show addS nat 162 tJ tV 162 = some (ofS tJ tV) from rfl) qYS hpre]
   intro v1 H1 hp1
   obtain ⟨hroom, hold1⟩ := Room.post hp1
   clear hp1
   refine .seqW (s2.regE 0 (by kernel_rfl) (by simp only [List.map_cons, List.map_nil]; rfl) (by simp only [zM, zY, qZ, qQ, qV, qW, qR, qU, qK, zT, zF, zG, wB, zW, qY, iop, z8, zJ, zU, qI, qJ, zN, zH, Option.getD_some, zL, zI, yV, yU, yZ, yO, yP, yS, yR, yY, zK, Step1.ofO, rJ, wJ, zX, zO, kG, kL, kF, cond_true, cond_false, decide_true, decide_false, beq_self_eq_true, Bool.false_eq_true, Bool.true_eq_false, kI, kH, kM, kE, Bool.not_true, Bool.not_false, sI, wF, qX, List.map_cons, List.map_nil, goInt, wM qXS]; rfl) ?_)
   refine .loopW (fun m e h => ∃ (i : Nat) (v : Value), i <= x.length ∧ m = x.length - i ∧ Old H h ∧ Room h H.size x.flatten.length v (x.take i).flatten ∧ e = [.slice a x.length c, unk, unk, unk, unk, unk, v, unk, unk, unk, unk, unk, unk, unk, unk, unk, unk, unk, unk, unk, unk, unk, unk, unk, unk, .slice a x.length c, .int .i64 (x.length : Nat), .int .i64 (i : Nat), unk, unk, unk, unk, unk, unk, unk, unk]) x.length
    [.slice a x.length c, unk, unk, unk, unk, unk, v1, unk, unk, unk, unk, unk, unk, unk, unk, unk, unk, unk, unk, unk, unk, unk, unk, unk, unk, .slice a x.length c, .int .i64 (x.length : Nat), .int .i64 0, unk, unk, unk, unk, unk, unk, unk, unk] (by repeat (first | exact WkL.nil | refine WkL.same ?_ | refine WkL.any ?_)) ⟨0, v1, Nat.zero_le _, rfl, hold1, hroom, rfl⟩ ?_
   rintro m e h ⟨i, v2, hi2, rfl, hold, hrm, rfl⟩
   refine s2.headW (by kernel_rfl) (by simp only [List.map_cons, List.map_nil]; rfl) (by simp only [zM, zY, qZ, qQ, qV, qW, qR, qU, qK, zT, zF, zG, wB, zW, qY, iop, z8, zJ, zU, qI, qJ, zN, zH, Option.getD_some, zL, zI, yV, yU, yZ, yO, yP, yS, yR, yY, zK, Step1.ofO, rJ, wJ, zX, zO, kG, kL, kF, cond_true, cond_false, decide_true, decide_false, beq_self_eq_true, Bool.false_eq_true, Bool.true_eq_false, kI, kH, kM, kE, Bool.not_true, Bool.not_false, sI, wF, qX, List.map_cons, List.map_nil, goInt]; rfl) (by kernel_rfl) (by simp only [z8, qI, qJ, Option.getD_some]; rfl) (fun ht2 => ?_) (fun ht2 => ?_)
   ·have hlt : i < x.length := by simpa using ht2
    obtain ⟨zs, hzs⟩ : ∃ zs, x[i]? = some zs := ⟨_, List.getElem?_eq_getElem hlt⟩
    have hv2 := hv.mono (fun b h => h) hold.size fun b h1 h2 => hold.get b h2
    obtain ⟨u, p, hp, hld, hfu⟩ := qWD qXD hv2 hzs (k := .i64)
    obtain ⟨au, cu, hu, hfz⟩ := qP3 hfu
    have hlen : (x.take i).flatten.length + zs.length <= x.flatten.length := by
     have e1 : x.flatten = (x.take (i + 1)).flatten ++ (x.drop (i + 1)).flatten := by rw [<- List.flatten_append, List.take_append_drop]
     rw [e1, gD hzs, List.length_append, List.length_append]
     omega
    obtain ⟨v3, H3, q1, q2, q3, q4, q5⟩ := hrm.app hu hfz hlen (by rw [hold.base]; exact hb)
    rw [<- gD hzs] at q2
    refine .blockW (s2.regE 0 (by kernel_rfl) (by simp only [List.map_cons, List.map_nil]; rfl) (by simp only [zM, zY, qZ, qQ, qV, qW, qR, qU, qK, zT, zF, zG, wB, zW, qY, iop, z8, zJ, zU, qI, qJ, zN, zH, Option.getD_some, zL, zI, yV, yU, yZ, yO, yP, yS, yR, yY, zK, Step1.ofO, rJ, wJ, zX, zO, kG, kL, kF, cond_true, cond_false, decide_true, decide_false, beq_self_eq_true, Bool.false_eq_true, Bool.true_eq_false, kI, kH, kM, kE, Bool.not_true, Bool.not_false, sI, wF, qX, List.map_cons, List.map_nil, goInt, hp, hld]; rfl) (s2.regZ 0 (by kernel_rfl) (by simp only [List.map_cons, List.map_nil]; rfl) (by simp only [zM, zY, qZ, qQ, qV, qW, qR, qU, qK, zT, zF, zG, wB, zW, qY, iop, z8, zJ, zU, qI, qJ, zN, zH, Option.getD_some, zL, zI, yV, yU, yZ, yO, yP, yS, yR, yY, zK, Step1.ofO, rJ, wJ, zX, zO, kG, kL, kF, cond_true, cond_false, decide_true, decide_false, beq_self_eq_true, Bool.false_eq_true, Bool.true_eq_false, kI, kH, kM, kE, Bool.not_true, Bool.not_false, sI, wF, qX, List.map_cons, List.map_nil, goInt, q1]; rfl) (BT.go ?_)))
    exact s2.regZ 0 (by kernel_rfl) (by simp only [List.map_cons, List.map_nil]; rfl) (by simp only [zM, zY, qZ, qQ, qV, qW, qR, qU, qK, zT, zF, zG, wB, zW, qY, iop, z8, zJ, zU, qI, qJ, zN, zH, Option.getD_some, zL, zI, yV, yU, yZ, yO, yP, yS, yR, yY, zK, Step1.ofO, rJ, wJ, zX, zO, kG, kL, kF, cond_true, cond_false, decide_true, decide_false, beq_self_eq_true, Bool.false_eq_true, Bool.true_eq_false, kI, kH, kM, kE, Bool.not_true, Bool.not_false, sI, wF, qX, List.map_cons, List.map_nil, goInt, qG4 hlt (by omega)]; rfl) (LQ.go (x.length - (i + 1)) (by omega) (by repeat (first | exact WkL.nil | refine WkL.same ?_ | refine WkL.any ?_)) ⟨i + 1, v3, by omega, rfl, ⟨by rw [q3]; exact hold.size, by rw [q4]; exact hold.base, fun b hb' => (q5 b hb').trans (hold.get b hb')⟩, q2, rfl⟩)
   ·have hge : i = x.length := by simp at ht2; omega
    subst hge
    rw [List.take_length] at hrm
    refine ST.go ?_
    exact s2.regE 0 (by kernel_rfl) (by simp only [List.map_cons, List.map_nil]; rfl) (by simp only [zM, zY, qZ, qQ, qV, qW, qR, qU, qK, zT, zF, zG, wB, zW, qY, iop, z8, zJ, zU, qI, qJ, zN, zH, Option.getD_some, zL, zI, yV, yU, yZ, yO, yP, yS, yR, yY, zK, Step1.ofO, rJ, wJ, zX, zO, kG, kL, kF, cond_true, cond_false, decide_true, decide_false, beq_self_eq_true, Bool.false_eq_true, Bool.true_eq_false, kI, kH, kM, kE, Bool.not_true, Bool.not_false, sI, wF, qX, List.map_cons, List.map_nil, goInt]; rfl) (.ret ⟨.inr rfl, v2, qFS rfl (by simp only [qI, qJ]), hold, hrm⟩)
theorem Room.fr {H : IH} {lo n : Nat} {v : Value} {A : List Int} (h : Room H lo n v A) (hn : n = A.length) : FR (fun b => lo <= b ∧ b < H.size) H (eH A) v := by
 subst hn
 rw [qGH]
 obtain ⟨_, ⟨h0, rfl⟩ | ⟨b, h1, h2, rfl, h3⟩⟩ := h
 ·rw [List.length_eq_zero_iff.1 h0]
  exact .nil (fun _ => rfl) fun x h => by cases h
 ·refine .l (b := b) (o := 0) (vs := A.map (Value.int .i64)) ⟨h1, h2⟩ h2 (Nat.le_refl _) (.inr rfl) ?_ fun i x v hx hv => ?_
  ·rw [Nat.sub_self, List.replicate_zero, List.append_nil] at h3
   have := qH2 h3
   rw [List.length_map] at this ⊢
   exact this
  ·rw [List.getElem?_map] at hx hv
   cases hz : A[i]? with
   | none => rw [hz] at hx; cases hx
   | some z =>
     rw [hz] at hx hv
     cases hx
     cases hv
     exact .v rfl rfl
theorem e137 : enters Tryz.prog 137 = true := by kernel_rfl
theorem q0S {T : xZ} {IT : List (FuncId × IEnt)} (L : Lib Tryz.prog good (qO 3) T IT) : Lib Tryz.prog good (qO 3) ((137, ⟨[(Ty.list 22 (Ty.list 3 (Ty.int IntKind.i64)))], [(Ty.list 3 (Ty.int IntKind.i64))], H137⟩) :: T) IT :=
 L.addCall 137 _ _ H137 e137 fun s x y args H hF ⟨Z, hv, hz⟩ hb => by
  unfold H137 at hF
  split at hF
  ·rename_i hc
   cases hF
   obtain ⟨v, vs, rfl, h1, h2⟩ := hv.uncons
   rw [h2.nil_left]
   have hfr : FR Z H ((q07 22).fv x) v := by
    cases h1 with
    | f h => exact h
   refine (qYZ s x v H hc.1 hc.2 Z hz hfr hb).mono ?_
   rintro ⟨r, H'⟩ ⟨hold, hroom⟩
   exact ⟨hold, _, if_pos hc, fun b => H.size <= b ∧ b < H'.size, fun b h => h.2, fun b h hlt => absurd h.1 (by omega), .f (hroom.fr rfl)⟩
  ·cases hF
end Go.Proofs.YtpdlblofcdcikaaGreatDoor
