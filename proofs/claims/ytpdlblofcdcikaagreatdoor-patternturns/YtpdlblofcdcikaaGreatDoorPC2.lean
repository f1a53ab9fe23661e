/- slices.Concat and slices.Grow keep their contracts. Conditions: none. -/
import Derived.Test.YtpdlblofcdcikaaGreatDoorPC1
set_option linter.all false
namespace Go.Proofs.YtpdlblofcdcikaaGreatDoor
open Go.Idl Go.Sv
variable {A zs : List Int} {H : IH} {c i lo n : Nat} {env : Env} {o : Oper} {ty : TypeId} {v : Value} {x : List (List Int)}
theorem qIU : Tryz.prog.underlying 22 = some (.slice 3) := by kernel_rfl
theorem q3G : Tryz.prog.underlying 25 = some (.slice 22) := by kernel_rfl
theorem zBC : Tryz.prog.underlying 3 = some (.int .i64) := by kernel_rfl
theorem q2G : szT Tryz.prog 3 = some 1 := by kernel_rfl
theorem qWS : El Tryz.prog 22 3 := ⟨qIU, q2G, by kernel_rfl, by kernel_rfl⟩
theorem q1J : El Tryz.prog 25 22 := ⟨q3G, by kernel_rfl, by kernel_rfl, by kernel_rfl⟩
theorem zB1 : pK Tryz.prog 3 = some (.int .i64 0) := by kernel_rfl
theorem zCE : tX H (kL Tryz.prog (execOp (fun _ => .slice none 0 0) (cop (.call ⟨.builtin .cap, #[.tmp i], #[22]⟩) ty))) = some (.val (.int .i64 0) H) := by kernel_rfl
theorem q9F {d : Option Tmp} {po : String} {af : Array Edge} {gu : Option (Nat × Bool)} (hx : env.val (.tmp i) = .slice none 0 0) :
 yN Tryz.prog ⟨d, .call ⟨.builtin .cap, #[.tmp i], #[22]⟩, ty, po, af, gu⟩ ⟨.builtin .cap, #[.tmp i], #[22]⟩ env H = some (.val (.int .i64 0) H) := by
 have h2 : kZ env.val (Oper.op ⟨d, .call ⟨.builtin .cap, #[.tmp i], #[22]⟩, ty, po, af, gu⟩).operands.toList = [env.val (.tmp i)] := rfl;show kS Tryz.prog ⟨d, .call ⟨.builtin .cap, #[.tmp i], #[22]⟩, ty, po, af, gu⟩ env H = _
 have h3 : execOp env.val ⟨d, .call ⟨.builtin .cap, #[.tmp i], #[22]⟩, ty, po, af, gu⟩ = execOp (fun _ => .slice none 0 0) (cop (.call ⟨.builtin .cap, #[.tmp i], #[22]⟩) ty) := by
  simp only [cop, execOp, resolve, List.map_toArray, List.map_cons, List.map_nil, hx]
 unfold kS;rw [h2, h3, hx];rw [if_pos (show yY [Value.slice none 0 0] = true from rfl)];exact zCE
theorem slN : kQ Tryz.prog o 22 (.slice none 0 0) none (some (.int .i64 0)) none env H = some (.val (.slice none 0 0) H) := by
 unfold kQ vO;simp only [qIU, q2G];rfl
theorem slB {b : Nat} (hn : n ≠ 0) : kQ Tryz.prog o 22 (.slice (some ⟨b, 0, some 3⟩) n n) none (some (.int .i64 ((0 : Nat) : Int))) none env H = some (.val (.slice (some ⟨b, 0, some 3⟩) 0 n) H) := by
 unfold kQ vO;simp only [qIU, q2G];have h1 : vD n n (some (.int .i64 ((0 : Nat) : Int))) = some 0 := by simp [vD]
 have h2 : vD 0 0 none = some 0 := by simp [vD]
 simp only [h1, h2];rw [if_pos (by simp), if_neg hn];simp [Step1.ofO]
def qAG (n : Nat) (args : List Value) (H : IH) : Prop := args = [.slice none 0 0, .int .i64 (n : Nat)] ∧ n <= 65536
def qBF (n : Nat) (H : IH) (v : Value) (H' : IH) : Prop := (n = 0 ∧ v = .slice none 0 0 ∧ H' = H) ∨ (n ≠ 0 ∧ v = .slice (some ⟨H.size, 0, some 3⟩) 0 n ∧ H' = H.push (.cells ((List.replicate n 0).map (Value.int .i64)).toArray 3 qV))
theorem q2N (x y : Nat) (args : List Value) (H : IH) (hx : qAG x args H) (hy : qAG y args H) : x = y := by
 have h1 := hx.1.symm.trans hy.1;simp at h1;exact Int.ofNat.inj h1
theorem zBK : enters Tryz.prog 162 = true := by kernel_rfl
variable {nat : xJ}
set_option maxRecDepth 10000 in
theorem q21 (s : Setup Tryz.prog good nat (zW 3)) : Setup Tryz.prog good (addS nat 162 qAG qBF) (zW 3) := s.addS qAG qBF fun n args H ⟨ha, hn⟩ => by
 subst ha;refine gI.of Tryz.func162 rfl (N := 27) rfl ?_;show Holds _ _ false _ [.slice none 0 0, .int .i64 (n : Nat), undef, undef, undef, undef, undef, undef, undef, undef, undef, undef, undef, undef, undef, undef, undef, undef, undef, undef, undef, undef, undef, undef, undef, undef, undef] H _;refine s.regE 0 (by kernel_rfl) (by simp only [List.map_cons, List.map_nil]; rfl) (by simp only [qZ, zJ, qO, zL, zB, vN, zI, iop, xK, qY, zA, qX]; rfl) ?_;refine s.ifW (by kernel_rfl) (by simp only [List.map_cons, List.map_nil]; rfl) (by simp only [qZ, zJ, qO, zL, zB, vN, zI, iop, zS, xK, qM, qL, qY, zA, Option.getD_some, qX, qGH]; rfl) (by kernel_rfl) (by simp only [zS, qM, qL, Option.getD_some]; rfl) (fun ht => by simp at ht; omega) (fun ht => .skip (ST.go ?_));by_cases h0 : n = 0
 ·subst h0;refine .seqW (s.regE 0 (by kernel_rfl) (by simp only [List.map_cons, List.map_nil]; rfl) (by simp only [qZ, zJ, qO, zL, zB, vN, zI, iop, zS, qM, qL, qY, zA, Option.getD_some, qX, qTX, q5L, goInt, q9F, vT qIU, show IntKind.i64.wrap (0 - ((0 : Nat) : Int)) = 0 by rfl]; rfl) (s.ifZ (by kernel_rfl) (by simp only [List.map_cons, List.map_nil]; rfl) (by simp only [qZ, zJ, qO, zL, zB, vN, zI, iop, zS, xK, qM, qL, qY, zA, Option.getD_some, qX, qWV]; rfl) (by kernel_rfl) (by simp only [zS, qM, qL, Option.getD_some]; rfl) (fun ht => by cases ht) (fun ht => .skip (ST.go ?_))));exact s.regE 0 (by kernel_rfl) (by simp only [List.map_cons, List.map_nil]; rfl) (by simp only [qZ, zJ, qO, zL, zB, vN, zI, iop, zS, qM, qL, qY, zA, Option.getD_some, qX]; rfl) (.ret ⟨.inr rfl, .slice none 0 0, qF0 rfl (by simp only [qM, qL]), .inl ⟨rfl, rfl, rfl⟩⟩)
 ·have hw : IntKind.i64.wrap ((n : Int) - 0) = ((n : Nat) : Int) := by rw [dX (by omega) (by omega)]; omega
  have hap := qXZ (kk := .i64) qWS zBC zB1 (H := H) h0 hn;refine .seqW (s.regE 0 (by kernel_rfl) (by simp only [List.map_cons, List.map_nil]; rfl) (by simp only [qZ, zJ, qO, zL, zB, vN, zI, iop, zS, qM, qL, qY, zA, Option.getD_some, qX, qTX, q5L, goInt, q9F, vT qIU, show IntKind.i64.wrap (0 - ((0 : Nat) : Int)) = 0 by rfl, hw]; rfl) (s.ifZ (by kernel_rfl) (by simp only [List.map_cons, List.map_nil]; rfl) (by simp only [qZ, zJ, qO, zL, zB, vN, zI, iop, zS, xK, qM, qL, qY, zA, Option.getD_some, qX, qWV]; rfl) (by kernel_rfl) (by simp only [zS, qM, qL, Option.getD_some]; rfl) (fun ht => ?_) (fun ht => by simp at ht; omega)));refine s.regZ 0 (by kernel_rfl) (by simp only [List.map_cons, List.map_nil]; rfl) (by simp only [qZ, zJ, qO, zL, zB, vN, zI, iop, zS, qM, qL, qY, zA, Option.getD_some, qX, q5L, zA0, goInt, q9F, Option.map_none, Option.map_some, slN, hap, slB h0, vT qIU]; rfl) (ST.go ?_);exact s.regE 0 (by kernel_rfl) (by simp only [List.map_cons, List.map_nil]; rfl) (by simp only [qZ, zJ, qO, zL, zB, vN, zI, iop, zS, qM, qL, qY, zA, Option.getD_some, qX]; rfl) (.ret ⟨.inr rfl, .slice (some ⟨H.size, 0, some 3⟩) 0 n, qF0 rfl (by simp only [qM, qL]), .inr ⟨h0, rfl, rfl⟩⟩)
def H137 (x : TyL [(Ty.list 22 (Ty.list 3 (Ty.int IntKind.i64)))]) : Option (TyL [(Ty.list 3 (Ty.int IntKind.i64))]) := if List.length x <= 100 ∧ ∀ r ∈ (x : List (List Int)), r.length <= 100 then some (List.flatten (x : List (List Int))) else none
theorem qKS {x : List (List Int)} (h : ∀ r ∈ x, r.length <= c) : x.flatten.length <= x.length * c := by
 induction x with
 | nil => simp
 | cons r x ih =>
   have h1 := h r (by simp);have h2 := ih fun s hs => h s (by simp [hs])
   rw [List.flatten_cons, List.length_append, List.length_cons, Nat.succ_mul];omega
theorem uK (h : x[i]? = some zs) : (x.take (i + 1)).flatten = (x.take i).flatten ++ zs := by
 rw [List.take_add_one, h, List.flatten_append];simp
def Room (H : IH) (lo n : Nat) (v : Value) (A : List Int) : Prop :=
 A.length <= n ∧ ((n = 0 ∧ v = .slice none 0 0) ∨ ∃ b, lo <= b ∧ b < H.size ∧ v = .slice (some ⟨b, 0, some 3⟩) A.length n ∧ H.get b = some (.cells ((A ++ List.replicate (n - A.length) 0).map (Value.int .i64)).toArray 3 qV))
theorem Room.app (h : Room H lo n v A) {u : Value} {a : Option Addr} (hu : u = .slice a zs.length c) (hf : xZ 1 zs.length H u = some (zs.map (Value.int .i64)))
 (hz : A.length + zs.length <= n) (hb : H.base <= lo) :
 ∃ v' H', yU Tryz.prog #[22, 22] [v, u] H = some (.val v' H') ∧ Room H' lo n v' (A ++ zs) ∧ H'.size = H.size ∧ H'.base = H.base ∧ ∀ b', b' < lo -> H'.get b' = H.get b' := by
 obtain ⟨h0, ⟨rfl, rfl⟩ | ⟨b, h1, h2, rfl, h3⟩⟩ := h
 ·have hA : A = [] := List.length_eq_zero_iff.1 (by omega);have hzs : zs = [] := List.length_eq_zero_iff.1 (by omega);subst hA hzs;refine ⟨.slice none 0 0, H, ?_, ⟨by simp, .inl ⟨rfl, rfl⟩⟩, rfl, rfl, fun _ _ => rfl⟩;subst hu;obtain ⟨info, hi, hsz, hby, hzt⟩ := qWS.info;unfold yU;simp only [qIU, hi]
  have hnews : dO Tryz.prog 3 info (.slice 3) (.slice a ([] : List Int).length c) H = some (0, []) := by
   unfold dO;simp only [xY, qIP, hsz, hf, cond_true, Option.map_some];rfl
  simp only [hnews, xX];rfl
 ·obtain ⟨H', g1, g2, g3, g4, g5⟩ := q0D qWS (n := n) (m := A.length) (k := n - A.length) hu hf h3 rfl (by omega) (by omega) (Nat.le_trans hb h1);refine ⟨_, H', g1, ⟨by rw [List.length_append]; exact hz, .inr ⟨b, h1, by rw [g3]; exact h2, ?_, ?_⟩⟩, g3, g4, fun b' hb' => g5 b' (by omega)⟩
  ·simp only [List.length_append]
  ·rw [g2, List.length_append, Nat.sub_sub]
theorem Room.post {H' : IH} (h : qBF n H v H') : Room H' H.size n v [] ∧ Old H H' := by
 rcases h with ⟨rfl, rfl, rfl⟩ | ⟨h0, rfl, rfl⟩
 ·exact ⟨⟨by simp, .inl ⟨rfl, rfl⟩⟩, .refl _⟩
 ·refine ⟨⟨by simp, .inr ⟨H.size, Nat.le_refl _, Nat.lt_succ_self _, rfl, ?_⟩⟩, .push _ _⟩;rw [jK]; simp
set_option maxRecDepth 10000 in
theorem q2K {nat : xJ} (s : Setup Tryz.prog good nat (zW 3)) (x : List (List Int)) (v : Value) (H : IH) (hx : x.length <= 100) (hr : ∀ r ∈ x, r.length <= 100) (Z : Nat -> Prop) (hz : ∀ b, Z b -> b < H.size) (hv : FR Z H ((q56 22).fv x) v) (hb : H.base <= H.size) :
 gI Tryz.prog (zW 3) 137 [v] H fun q => Old H q.2 ∧ Room q.2 H.size x.flatten.length q.1 x.flatten := by
 have s2 := q21 s;obtain ⟨a, c, rfl⟩ := q4Y hv;have hfl := qKS hr;have hx2 : x.length * 100 <= 100 * 100 := Nat.mul_le_mul_right _ hx;refine gI.of Tryz.func137 rfl (N := 36) rfl ?_;show Holds _ _ false _ [.slice a x.length c, undef, undef, undef, undef, undef, undef, undef, undef, undef, undef, undef, undef, undef, undef, undef, undef, undef, undef, undef, undef, undef, undef, undef, undef, undef, undef, undef, undef, undef, undef, undef, undef, undef, undef, undef] H _;refine s2.regE 0 (by kernel_rfl) (by simp only [List.map_cons, List.map_nil]; rfl) (by simp only [qZ, zJ, qO, zL, zB, vN, zI, iop, xK, qY, zA, qX]; rfl) ?_;refine s2.regE 0 (by kernel_rfl) (by simp only [List.map_cons, List.map_nil]; rfl) (by simp only [qZ, zJ, qO, zL, zB, vN, zI, iop, xK, qY, zA, qX]; rfl) ?_;refine .seqW (s2.regE 0 (by kernel_rfl) (by simp only [List.map_cons, List.map_nil]; rfl) (by simp only [qZ, zJ, qO, zL, zB, vN, zI, iop, zS, xK, qM, qL, qY, zA, Option.getD_some, qX, q5L, goInt, vT q3G]; rfl) ?_)
 refine .loopW (fun m e h => ∃ (i : Nat), i <= x.length ∧ m = x.length - i ∧ H = h ∧ e = [.slice a x.length c, unk, unk, .int .i64 ((x.take i).flatten.length : Nat), unk, unk, unk, unk, unk, .slice a x.length c, .int .i64 (x.length : Nat), .int .i64 (i : Nat), unk, unk, unk, unk, unk, unk, unk, unk, unk, unk, unk, unk, unk, unk, unk, unk, unk, unk, unk, unk, unk, unk, unk, unk]) x.length
  [.slice a x.length c, unk, unk, .int .i64 0, unk, unk, unk, unk, unk, .slice a x.length c, .int .i64 (x.length : Nat), .int .i64 0, unk, unk, unk, unk, unk, unk, unk, unk, unk, unk, unk, unk, unk, unk, unk, unk, unk, unk, unk, unk, unk, unk, unk, unk] (by repeat (first | exact WkL.nil | refine WkL.same ?_ | refine WkL.any ?_)) ⟨0, Nat.zero_le _, rfl, rfl, rfl⟩ ?_
 ·rintro m e h ⟨i, hi, rfl, rfl, rfl⟩;refine s2.headW (by kernel_rfl) (by simp only [List.map_cons, List.map_nil]; rfl) (by simp only [qZ, zJ, qO, zL, zB, vN, zI, iop, zS, qM, qL, qY, zA, Option.getD_some, qX, qGH]; rfl) (by kernel_rfl) (by simp only [zS, qM, qL, Option.getD_some]; rfl) (fun ht => ?_) (fun ht => ?_)
  ·have hlt : i < x.length := by simpa using ht
   obtain ⟨zs, hzs⟩ : ∃ zs, x[i]? = some zs := ⟨_, List.getElem?_eq_getElem hlt⟩
   obtain ⟨u, p, hp, hld, hfu⟩ := q1U q1J hv hzs (k := .i64);obtain ⟨au, cu, rfl, _⟩ := qT7 hfu;have hzl := hr zs (List.mem_of_getElem? hzs)
   have hft : (x.take i).flatten.length <= i * 100 := by
    have := qKS (x := x.take i) (c := 100) fun r h => hr r (List.mem_of_mem_take h)
    rwa [List.length_take, Nat.min_eq_left hi] at this
   have hi2 : i * 100 <= 100 * 100 := Nat.mul_le_mul_right _ (by omega)
   have hw : IntKind.i64.wrap (((x.take i).flatten.length : Int) + (zs.length : Int)) = (((x.take (i + 1)).flatten.length : Nat) : Int) := by
    rw [uK hzs, List.length_append, dX (by omega) (by omega)]; simp
   refine .blockW (s2.regE 0 (by kernel_rfl) (by simp only [List.map_cons, List.map_nil]; rfl) (by simp only [qZ, zJ, qO, zL, zB, vN, zI, iop, zS, qM, qL, qY, zA, Option.getD_some, qX, Step1.ofO, hp, hld]; rfl) ?_);refine s2.regE 0 (by kernel_rfl) (by simp only [List.map_cons, List.map_nil]; rfl) (by simp only [qZ, zJ, qO, zL, zB, vN, zI, iop, zS, qM, qL, qY, zA, Option.getD_some, qX, qLX, q5L, goInt, vT qIU, hw]; rfl) ?_;refine s2.ifZ (by kernel_rfl) (by simp only [List.map_cons, List.map_nil]; rfl) (by simp only [qZ, zJ, qO, zL, zB, vN, zI, iop, zS, xK, qM, qL, qY, zA, Option.getD_some, qX, qGH]; rfl) (by kernel_rfl) (by simp only [zS, qM, qL, Option.getD_some]; rfl) (fun ht2 => by simp at ht2; omega) (fun ht2 => .skip (BT.go ?_));exact s2.regZ 0 (by kernel_rfl) (by simp only [List.map_cons, List.map_nil]; rfl) (by simp only [qZ, zJ, qO, zL, zB, vN, zI, iop, zS, xK, qM, qL, qY, zA, Option.getD_some, qX, qLX, qJB hlt (by omega)]; rfl) (LQ.go (x.length - (i + 1)) (by omega) (by repeat (first | exact WkL.nil | refine WkL.same ?_ | refine WkL.any ?_)) ⟨i + 1, by omega, rfl, rfl, rfl⟩)
  ·have hge : i = x.length := by simp at ht; omega
   subst hge;rw [List.take_length];refine ST.go ?_
   have hpre : qAG x.flatten.length [.slice none 0 0, .int .i64 (x.flatten.length : Nat)] H := ⟨rfl, by omega⟩
   refine s2.regS (by kernel_rfl) (by simp only [List.map_cons, List.map_nil]; rfl) ?_; simp only [qZ, zJ, qO, zL, zB, vN, zI, qP7, iop, zS, xK, qM, qL, qY, zA, Option.getD_some, qX, q9O, qYP, qVM, qZT, holds_ret, zBK, q45 (x := x.flatten.length) (show addS nat 162 qAG qBF 162 = some (ofS qAG qBF) from rfl) q2N hpre];intro v1 H1 hp1;obtain ⟨hroom, hold1⟩ := Room.post hp1;clear hp1;refine .seqW (s2.regE 0 (by kernel_rfl) (by simp only [List.map_cons, List.map_nil]; rfl) (by simp only [qZ, zJ, qO, zL, zB, vN, zI, iop, zS, xK, qM, qL, qY, zA, Option.getD_some, qX, q5L, goInt, vT q3G]; rfl) ?_)
   refine .loopW (fun m e h => ∃ (i : Nat) (v : Value), i <= x.length ∧ m = x.length - i ∧ Old H h ∧ Room h H.size x.flatten.length v (x.take i).flatten ∧ e = [.slice a x.length c, unk, unk, unk, unk, unk, v, unk, unk, unk, unk, unk, unk, unk, unk, unk, unk, unk, unk, unk, unk, unk, unk, unk, unk, .slice a x.length c, .int .i64 (x.length : Nat), .int .i64 (i : Nat), unk, unk, unk, unk, unk, unk, unk, unk]) x.length
    [.slice a x.length c, unk, unk, unk, unk, unk, v1, unk, unk, unk, unk, unk, unk, unk, unk, unk, unk, unk, unk, unk, unk, unk, unk, unk, unk, .slice a x.length c, .int .i64 (x.length : Nat), .int .i64 0, unk, unk, unk, unk, unk, unk, unk, unk] (by repeat (first | exact WkL.nil | refine WkL.same ?_ | refine WkL.any ?_)) ⟨0, v1, Nat.zero_le _, rfl, hold1, hroom, rfl⟩ ?_
   rintro m e h ⟨i, v2, hi2, rfl, hold, hrm, rfl⟩;refine s2.headW (by kernel_rfl) (by simp only [List.map_cons, List.map_nil]; rfl) (by simp only [qZ, zJ, qO, zL, zB, vN, zI, iop, zS, qM, qL, qY, zA, Option.getD_some, qX, qGH]; rfl) (by kernel_rfl) (by simp only [zS, qM, qL, Option.getD_some]; rfl) (fun ht2 => ?_) (fun ht2 => ?_)
   ·have hlt : i < x.length := by simpa using ht2
    obtain ⟨zs, hzs⟩ : ∃ zs, x[i]? = some zs := ⟨_, List.getElem?_eq_getElem hlt⟩
    have hv2 := hv.mono (fun b h => h) hold.size fun b h1 h2 => hold.get b h2
    obtain ⟨u, p, hp, hld, hfu⟩ := q1U q1J hv2 hzs (k := .i64);obtain ⟨au, cu, hu, hfz⟩ := qT7 hfu
    have hlen : (x.take i).flatten.length + zs.length <= x.flatten.length := by
     have e1 : x.flatten = (x.take (i + 1)).flatten ++ (x.drop (i + 1)).flatten := by rw [<- List.flatten_append, List.take_append_drop]
     rw [e1, uK hzs, List.length_append, List.length_append];omega
    obtain ⟨v3, H3, q1, q2, q3, q4, q5⟩ := hrm.app hu hfz hlen (by rw [hold.base]; exact hb);rw [<- uK hzs] at q2;refine .blockW (s2.regE 0 (by kernel_rfl) (by simp only [List.map_cons, List.map_nil]; rfl) (by simp only [qZ, zJ, qO, zL, zB, vN, zI, iop, zS, qM, qL, qY, zA, Option.getD_some, qX, Step1.ofO, hp, hld]; rfl) (s2.regZ 0 (by kernel_rfl) (by simp only [List.map_cons, List.map_nil]; rfl) (by simp only [qZ, zJ, qO, zL, zB, vN, zI, iop, zS, qM, qL, qY, zA, Option.getD_some, qX, zA0, q1]; rfl) (BT.go ?_)));exact s2.regZ 0 (by kernel_rfl) (by simp only [List.map_cons, List.map_nil]; rfl) (by simp only [qZ, zJ, qO, zL, zB, vN, zI, iop, zS, xK, qM, qL, qY, zA, Option.getD_some, qX, qLX, qJB hlt (by omega)]; rfl) (LQ.go (x.length - (i + 1)) (by omega) (by repeat (first | exact WkL.nil | refine WkL.same ?_ | refine WkL.any ?_)) ⟨i + 1, v3, by omega, rfl, ⟨by rw [q3]; exact hold.size, by rw [q4]; exact hold.base, fun b hb' => (q5 b hb').trans (hold.get b hb')⟩, q2, rfl⟩)
   ·have hge : i = x.length := by simp at ht2; omega
    subst hge;rw [List.take_length] at hrm;refine ST.go ?_;exact s2.regE 0 (by kernel_rfl) (by simp only [List.map_cons, List.map_nil]; rfl) (by simp only [qZ, zJ, qO, zL, zB, vN, zI, iop, zS, qM, qL, qY, zA, Option.getD_some, qX]; rfl) (.ret ⟨.inr rfl, v2, qF0 rfl (by simp only [qM, qL]), hold, hrm⟩)
theorem Room.fr (h : Room H lo n v A) (hn : n = A.length) : FR (fun b => lo <= b ∧ b < H.size) H (nI A) v := by
 subst hn;rw [qJE];obtain ⟨_, ⟨h0, rfl⟩ | ⟨b, h1, h2, rfl, h3⟩⟩ := h
 ·rw [List.length_eq_zero_iff.1 h0];exact .nil (fun _ => rfl) fun x h => by cases h
 ·refine .l (b := b) (o := 0) (vs := A.map (Value.int .i64)) ⟨h1, h2⟩ h2 (Nat.le_refl _) (.inr rfl) ?_ fun i x v hx hv => ?_
  ·rw [Nat.sub_self, List.replicate_zero, List.append_nil] at h3;have := qHP h3;rw [List.length_map] at this ⊢;exact this
  ·rw [List.getElem?_map] at hx hv
   cases hz : A[i]? with
   | none => rw [hz] at hx; cases hx
   | some z =>
     rw [hz] at hx hv;cases hx;cases hv;exact .v rfl rfl
theorem e137 : enters Tryz.prog 137 = true := by kernel_rfl
theorem q62 {T : xD} {IT : List (FuncId × IEnt)} (L : Lib Tryz.prog good (zW 3) T IT) : Lib Tryz.prog good (zW 3) ((137, ⟨[(Ty.list 22 (Ty.list 3 (Ty.int IntKind.i64)))], [(Ty.list 3 (Ty.int IntKind.i64))], H137⟩) :: T) IT :=
 L.addCall 137 _ _ H137 e137 fun s x y args H hF ⟨Z, hv, hz⟩ hb hgl => by
  unfold H137 at hF;split at hF
  ·rename_i hc;cases hF;obtain ⟨v, vs, rfl, h1, h2⟩ := hv.uncons;rw [h2.nil_left]
   have hfr : FR Z H ((q56 22).fv x) v := by
    cases h1 with
    | f h => exact h
   refine (q2K s x v H hc.1 hc.2 Z hz hfr hb).mono ?_;rintro ⟨r, H'⟩ ⟨hold, hroom⟩;exact ⟨hold, _, if_pos hc, fun b => H.size <= b ∧ b < H'.size, fun b h => h.2, fun b h hlt => absurd h.1 (by omega), .f (hroom.fr rfl)⟩
  ·cases hF
end Go.Proofs.YtpdlblofcdcikaaGreatDoor
