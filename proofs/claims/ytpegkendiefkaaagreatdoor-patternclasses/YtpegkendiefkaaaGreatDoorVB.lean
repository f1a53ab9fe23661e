/- What the functions compute, plainly, and the law. Conditions: none. -/
import Derived.Test.YtpegkendiefkaaaGreatDoorSvB
import Derived.Test.YtpegkendiefkaaaGreatDoorLB0
import Derived.Test.YtpegkendiefkaaaGreatDoorVA
set_option linter.all false
namespace Go.Sv
open Go.Idl
noncomputable section
variable [Gc]
variable {P : Program} {good : FuncId -> Bool} {G : Nat -> Bool} {T : zU} {IT : List (FuncId × zIV)}
theorem Lib.sub {T' : zU} (L : Lib P good G T IT) (h : ∀ g e, slT g T' = some e -> slT g T = some e) : Lib P good G T' IT := by
 obtain ⟨nat, tab, s, ht, hit⟩ := L;exact ⟨nat, tab, s, fun g e hg => ht g e (h g e hg), hit⟩
theorem Lib.cut {g : FuncId} {a b : Ent} (L : Lib P good G ((g, a) :: (g, b) :: T) IT) : Lib P good G ((g, a) :: T) IT := L.sub fun g' e h => by
 have h : cond (Nat.beq g' g) (some a) (slT g' T) = some e := h;show cond (Nat.beq g' g) (some a) (cond (Nat.beq g' g) (some b) (slT g' T)) = some e
 cases hb : Nat.beq g' g with
 | true => rw [hb] at h; exact h
 | false => rw [hb] at h; exact h
theorem Lib.addN (L : Lib P good G T IT) (g : FuncId) (az rs : List Ty) (hent : enters P g = true) : Lib P good G ((g, ⟨az, rs, fun _ => none⟩) :: T) IT :=
 L.zJE g az rs (fun _ => none) hent fun _ x y args H h => by cases h
end
end Go.Sv
namespace Go.Proofs.YtpegkendiefkaaaGreatDoor
open Go Go.Idl Go.Sv Go.Proofs
def aG (l : List Int) : Value := .agg #[.int .i64 (l.getD 0 0), .int .i64 (l.getD 1 0), .int .i64 (l.getD 2 0), .int .i64 (l.getD 3 0), .int .i64 (l.getD 4 0), .int .i64 (l.getD 5 0), .int .i64 (l.getD 6 0), .int .i64 (l.getD 7 0)]
def yI (L : List (List Int × Int)) : List (Value × Value) := L.map fun p => (aG p.1, .int .i64 p.2)
structure zH6 (L : List (List Int × Int)) : Prop where
 len : ∀ p ∈ L, p.1.length = 8
 ran : ∀ p ∈ L, ∀ x ∈ p.1, 0 <= x ∧ x <= 1000
 val : ∀ p ∈ L, IntKind.i64.wrap p.2 = p.2
 nod : (L.map (·.1)).Nodup
def j5 (L : List (List Int × Int)) (r : List Int) : Int := (L.map fun p => p.2 * wW false r p.1).sum
abbrev AW := Option (List Int -> Int)
open Classical in
noncomputable def alW (es : List (Value × Value)) : AW := if h : ∃ L, zH6 L ∧ es = yI L then some fun r => j5 (Classical.choose h) r % 18446744073709551616 else none
noncomputable def zGW : Ab := ⟨fun _ => AW, fun ts => match ts with
 | [.raw] => fun s => alW s
 | _ => fun _ => none⟩
noncomputable def zGA : Ab := ⟨fun _ => Int × AW, fun ts => match ts with
 | [.int _, .raw] => fun s => (s.1, alW s.2)
 | _ => fun _ => (0, none)⟩
theorem q2K {a b : List Int} (ha : a.length = 8) (hb : b.length = 8) (h : aG a = aG b) : a = b := by
 match a, ha, b, hb with
 | [a0, a1, a2, a3, a4, a5, a6, a7], _, [b0, b1, b2, b3, b4, b5, b6, b7], _ =>
   simp only [aG, List.getD_cons_zero, zYK] at h;injection h with h;injection h with h;injection h with h0 h;injection h with h1 h;injection h with h2 h;injection h with h3 h;injection h with h4 h;injection h with h5 h;injection h with h6 h;injection h with h7 h;injection h0 with _ h0;injection h1 with _ h1;injection h2 with _ h2;injection h3 with _ h3;injection h4 with _ h4;injection h5 with _ h5;injection h6 with _ h6;injection h7 with _ h7;subst h0 h1 h2 h3 h4 h5 h6 h7;rfl
theorem qQC : ∀ {L M : List (List Int × Int)}, (∀ p ∈ L, p.1.length = 8) -> (∀ p ∈ M, p.1.length = 8) -> yI L = yI M -> L = M
 | [], [], _, _, _ => rfl
 | [], _ :: _, _, _, h => by cases h
 | _ :: _, [], _, _, h => by cases h
 | (a, x) :: L, (b, y) :: M, h1, h2, h => by
   have h : (aG a, Value.int .i64 x) :: yI L = (aG b, Value.int .i64 y) :: yI M := h;injection h with e1 e2;injection e1 with e3 e4;injection e4 with _ e4;have := q2K (h1 _ zT8) (h2 _ zT8) e3;have q := qQC (fun p hp => h1 p (zT4 _ hp)) (fun p hp => h2 p (zT4 _ hp)) e2;subst this e4 q;rfl
theorem fJ {L : List (List Int × Int)} (h : zH6 L) : alW (yI L) = some fun r => j5 L r % 18446744073709551616 := by
 have hx : ∃ M, zH6 M ∧ yI L = yI M := ⟨L, h, rfl⟩
 unfold alW;rw [dif_pos hx];obtain ⟨h1, h2⟩ := Classical.choose_spec hx;rw [<- qQC h.len h1.len h2]
theorem qNW {es : List (Value × Value)} {f : List Int -> Int} (h : alW es = some f) : ∃ L, zH6 L ∧ es = yI L ∧ f = fun r => j5 L r % 18446744073709551616 := by
 unfold alW at h;split at h
 ·rename_i hx;obtain ⟨h1, h2⟩ := Classical.choose_spec hx;cases h;exact ⟨_, h1, h2, rfl⟩
 ·cases h
theorem u3 : yZ Tryz.prog (underlying 3) = some (.int .i64) := by kernel_rfl
theorem zF3 : yZ Tryz.prog (underlying 81) = some (.array 8 3) := by kernel_rfl
theorem s3 : yZ Tryz.prog (sizeOf 3) = some 1 := by kernel_rfl
section
variable (v0 v1 v2 v3 v4 v5 v6 v7 : Value)
theorem p80 : yZ Tryz.prog (part 3 #[v0, v1, v2, v3, v4, v5, v6, v7] 0) = some v0 := by kernel_rfl
theorem p81 : yZ Tryz.prog (part 3 #[v0, v1, v2, v3, v4, v5, v6, v7] 1) = some v1 := by kernel_rfl
theorem p82 : yZ Tryz.prog (part 3 #[v0, v1, v2, v3, v4, v5, v6, v7] 2) = some v2 := by kernel_rfl
theorem p83 : yZ Tryz.prog (part 3 #[v0, v1, v2, v3, v4, v5, v6, v7] 3) = some v3 := by kernel_rfl
theorem p84 : yZ Tryz.prog (part 3 #[v0, v1, v2, v3, v4, v5, v6, v7] 4) = some v4 := by kernel_rfl
theorem p85 : yZ Tryz.prog (part 3 #[v0, v1, v2, v3, v4, v5, v6, v7] 5) = some v5 := by kernel_rfl
theorem p86 : yZ Tryz.prog (part 3 #[v0, v1, v2, v3, v4, v5, v6, v7] 6) = some v6 := by kernel_rfl
theorem p87 : yZ Tryz.prog (part 3 #[v0, v1, v2, v3, v4, v5, v6, v7] 7) = some v7 := by kernel_rfl
end
theorem sP {α : Type} (a : α) : yZ Tryz.prog (pure a : Sem α) = some a := rfl
theorem sB {α β : Type} (s : Sem α) (g : α -> Sem β) : yZ Tryz.prog (s >>= g) = (yZ Tryz.prog s).bind fun a => yZ Tryz.prog (g a) := j3 g s
theorem eI (e : Nat) (a c : Int) : yZ Tryz.prog (Op.equalIn (e + 1) 3 (.int .i64 a) (.int .i64 c)) = some (a == c) := by
 simp [Op.equalIn, sB, u3, sP]
theorem r8 : List.range' 0 8 = [0, 1, 2, 3, 4, 5, 6, 7] := rfl
theorem eA8 (e : Nat) (a0 a1 a2 a3 a4 a5 a6 a7 b0 b1 b2 b3 b4 b5 b6 b7 : Int) :
 yZ Tryz.prog (Op.equalIn (e + 2) 81 (.agg #[.int .i64 a0, .int .i64 a1, .int .i64 a2, .int .i64 a3, .int .i64 a4, .int .i64 a5, .int .i64 a6, .int .i64 a7]) (.agg #[.int .i64 b0, .int .i64 b1, .int .i64 b2, .int .i64 b3, .int .i64 b4, .int .i64 b5, .int .i64 b6, .int .i64 b7])) =
  some (a0 == b0 && (a1 == b1 && (a2 == b2 && (a3 == b3 && (a4 == b4 && (a5 == b5 && (a6 == b6 && a7 == b7))))))) := by
 rw [Op.equalIn];simp only [sB, zF3, zUT, s3];simp only [r8, List.forIn_cons, List.forIn_nil, sB, p80, p81, p82, p83, p84, p85, p86, p87, eI, sP, Std.Legacy.Range.forIn_eq_forIn_range', Std.Legacy.Range.size, zUT, zYH, Nat.mul_one, Nat.one_mul, Nat.sub_zero, zXU, zYO];cases h0 : (a0 == b0)
 ·simp [sB, sP]
 cases h1 : (a1 == b1)
 ·simp [sB, sP, p80, p81, p82, p83, p84, p85, p86, p87, eI, h1]
 cases h2 : (a2 == b2)
 ·simp [sB, sP, p80, p81, p82, p83, p84, p85, p86, p87, eI, h1, h2]
 cases h3 : (a3 == b3)
 ·simp [sB, sP, p80, p81, p82, p83, p84, p85, p86, p87, eI, h1, h2, h3]
 cases h4 : (a4 == b4)
 ·simp [sB, sP, p80, p81, p82, p83, p84, p85, p86, p87, eI, h1, h2, h3, h4]
 cases h5 : (a5 == b5)
 ·simp [sB, sP, p80, p81, p82, p83, p84, p85, p86, p87, eI, h1, h2, h3, h4, h5]
 cases h6 : (a6 == b6)
 ·simp [sB, sP, p80, p81, p82, p83, p84, p85, p86, p87, eI, h1, h2, h3, h4, h5, h6]
 cases h7 : (a7 == b7)
 ·simp [sB, sP, p80, p81, p82, p83, p84, p85, p86, p87, eI, h1, h2, h3, h4, h5, h6, h7]
 ·simp [sB, sP, p80, p81, p82, p83, p84, p85, p86, p87, eI, h1, h2, h3, h4, h5, h6, h7]
theorem zB3 {l m : List Int} (hl : l.length = 8) (hm : m.length = 8) : yZ Tryz.prog (Op.equal 81 (aG l) (aG m)) = some (decide (m = l)) := by
 match l, hl, m, hm with
 | [a0, a1, a2, a3, a4, a5, a6, a7], _, [b0, b1, b2, b3, b4, b5, b6, b7], _ =>
   unfold Op.equal;rw [show Op.maxDepth = 9998 + 2 from rfl];simp only [aG, List.getD_cons_zero, zYK];rw [eA8]
   congr 1
   rw [zYE];simp only [zTY, beq_iff_eq, decide_eq_true_eq, zU4, and_true];constructor
   ·rintro ⟨h0, h1, h2, h3, h4, h5, h6, h7⟩; exact ⟨h0.symm, h1.symm, h2.symm, h3.symm, h4.symm, h5.symm, h6.symm, h7.symm⟩
   ·rintro ⟨h0, h1, h2, h3, h4, h5, h6, h7⟩; exact ⟨h0.symm, h1.symm, h2.symm, h3.symm, h4.symm, h5.symm, h6.symm, h7.symm⟩
theorem zHF (b : Bool) (a0 a1 a2 a3 a4 a5 a6 a7 : Int) : yZ Tryz.prog (Instr.checkKey b 10000 81 (.agg #[.int .i64 a0, .int .i64 a1, .int .i64 a2, .int .i64 a3, .int .i64 a4, .int .i64 a5, .int .i64 a6, .int .i64 a7])) = some () := by kernel_rfl
theorem qXJ (b : Bool) (l : List Int) : yZ Tryz.prog (Instr.checkKey b 10000 81 (aG l)) = some () := zHF ..
theorem qBJ (l : List Int) : zG (aG l) = true := rfl
def pX (l : List Int) : List (List Int × Int) -> Option Nat
 | [] => none
 | p :: L => cond (decide (p.1 = l)) (some 0) ((pX l L).map (· + 1))
theorem qV8 {l : List Int} (hl : l.length = 8) : ∀ {L : List (List Int × Int)} (n i : Nat), (∀ p ∈ L, p.1.length = 8) -> ∃ f : Nat -> Value, yZ Tryz.prog (Instr.findAsking 81 (aG l) (zQ n (yI L)) i) = some ((pX l L).map fun j => (i + j, f j))
 | [], n, i, _ => ⟨fun _ => .bool true, rfl⟩
 | p :: L, n, i, h => by
   obtain ⟨f, hf⟩ := qV8 hl (L := L) (n + 1) (i + 1) fun q hq => h q (zT4 _ hq)
   have e : zQ n (yI (p :: L)) = ⟨aG p.1, .int .i64 p.2, n⟩ :: zQ (n + 1) (yI L) := rfl;rw [e];unfold Instr.findAsking;rw [sB, zB3 hl (h p zT8), zUT];unfold pX;by_cases hp : p.1 = l
   ·refine ⟨fun _ => .int .i64 p.2, ?_⟩;simp only [hp, decide_true, if_true, cond_true, zT7, zWD];rfl
   ·refine ⟨fun j => f (j - 1), ?_⟩;simp only [hp, decide_false, zV4, if_false, cond_false];rw [hf]
    cases pX l L with
    | none => rfl
    | some j =>
      simp only [zT7, zXU];rw [show i + 1 + j = i + (j + 1) by omega]
theorem q2H (k : Value) (es : List MapEntry) : yZ Tryz.prog (Instr.findKey 81 k es) = yZ Tryz.prog (Instr.findAsking 81 k es 0) := by
 unfold Instr.findKey;rw [sB, zF3, zUT]
 cases es with
 | nil => rfl
 | cons e es => rfl
theorem gJ {l : List Int} (hl : l.length = 8) {L : List (List Int × Int)} (h : ∀ p ∈ L, p.1.length = 8) : vQ Tryz.prog 81 (aG l) (zQ 0 (yI L)) = some (pX l L) := by
 obtain ⟨f, hf⟩ := qV8 hl 0 0 h
 have hall : ∀ (n : Nat) (L : List (List Int × Int)), (zQ n (yI L)).all (fun e => zG e.key) = true := fun n L => by
  induction L generalizing n with
  | nil => rfl
  | cons p L ih =>
    show (zG (aG p.1) && (zQ (n + 1) (yI L)).all _) = true;rw [qBJ, ih]; rfl
 unfold vQ;rw [qBJ, hall, zU3, if_pos rfl, qXJ, qXJ, q2H, hf];simp only;cases pX l L <;> simp
end Go.Proofs.YtpegkendiefkaaaGreatDoor
namespace Go.Proofs.YtpegkendiefkaaaGreatDoor
open Go Go.Idl Go.Sv Go.Proofs
variable {L : List (List Int × Int)} {i : Nat} {l : List Int} {n : Int}
theorem qLC {l : List Int} : ∀ {L : List (List Int × Int)} {i : Nat}, pX l L = some i -> ∃ n, L[i]? = some (l, n)
 | [], i, h => by cases h
 | p :: L, i, h => by
   unfold pX at h;by_cases hp : p.1 = l
   ·rw [decide_eq_true hp] at h;cases h;exact ⟨p.2, by rw [<- hp]; rfl⟩
   ·rw [decide_eq_false hp] at h;obtain ⟨j, h1, rfl⟩ := zT6.1 h;obtain ⟨n, hn⟩ := qLC h1;exact ⟨n, hn⟩
theorem qKR {l : List Int} : ∀ {L : List (List Int × Int)}, pX l L = none -> ∀ p ∈ L, p.1 ≠ l
 | [], _, p, hp => by cases hp
 | q :: L, h, p, hp => by
   unfold pX at h;by_cases hq : q.1 = l
   ·rw [decide_eq_true hq] at h; cases h
   ·rw [decide_eq_false hq] at h;rcases zUD.1 hp with rfl | h1
    ·exact hq
    ·exact qKR (zX7.1 h) p h1
theorem qPE {l : List Int} {v : Int} : ∀ {L : List (List Int × Int)}, pX l L = none -> pX l (L ++ [(l, v)]) = some L.length
 | [], _ => by
   show pX l [(l, v)] = some 0;unfold pX;simp
 | p :: L, h => by
   unfold pX at h;by_cases hp : p.1 = l
   ·rw [decide_eq_true hp] at h; cases h
   ·rw [decide_eq_false hp] at h;show pX l (p :: (L ++ [(l, v)])) = _;unfold pX;rw [decide_eq_false hp, qPE (zX7.1 h)]; rfl
theorem qAW : (yI L)[i]? = (L[i]?).map fun p => (aG p.1, Value.int .i64 p.2) := by
 unfold yI; rw [zT9]
theorem qIF (L : List (List Int × Int)) : (yI L).length = L.length := by simp [yI]
theorem q4F (L M : List (List Int × Int)) : yI (L ++ M) = yI L ++ yI M := by simp [yI]
theorem qQ1 (L : List (List Int × Int)) (i : Nat) (l : List Int) (v : Int) : (yI L).set i (aG l, .int .i64 v) = yI (L.set i (l, v)) := by
 unfold yI; rw [List.map_set]
theorem qAI (hl : l.length = 8) {L : List (List Int × Int)} (h : ∀ p ∈ L, p.1.length = 8) : q7Z Tryz.prog 81 (aG l) (yI L) = some (pX l L).isSome := by
 unfold q7Z; rw [gJ hl h]; rfl
theorem qQE (hl : l.length = 8) {L : List (List Int × Int)} (h : ∀ p ∈ L, p.1.length = 8) (hi : pX l L = some i) (hn : L[i]? = some (l, n)) : q5K Tryz.prog 81 (.int .i64) (aG l) (yI L) = some n := by
 unfold q5K; rw [gJ hl h, hi];simp only;rw [qAW, hn]; rfl
theorem zAO (l : List Int) : Instr.sameBits 10000 (aG l) (aG l) = true := by
 have key : ∀ a0 a1 a2 a3 a4 a5 a6 a7 : Int, Instr.sameBits 10000 (Value.agg #[.int .i64 a0, .int .i64 a1, .int .i64 a2, .int .i64 a3, .int .i64 a4, .int .i64 a5, .int .i64 a6, .int .i64 a7]) (Value.agg #[.int .i64 a0, .int .i64 a1, .int .i64 a2, .int .i64 a3, .int .i64 a4, .int .i64 a5, .int .i64 a6, .int .i64 a7]) = true := fun a0 a1 a2 a3 a4 a5 a6 a7 => by
  rw [show (10000 : Nat) = 9999 + 1 from rfl, Instr.sameBits];simp [Instr.sameBits]
 exact key _ _ _ _ _ _ _ _
theorem set_self {p : List Int × Int} (h : L[i]? = some p) : L.set i p = L := by
 apply zUX;intro j;rw [zUM];by_cases hij : i = j
 ·subst hij;rw [if_pos rfl, h];simp [(zT2.1 h).1]
 ·rw [if_neg hij]
theorem zA9 (hl : l.length = 8) {L : List (List Int × Int)} (h : ∀ p ∈ L, p.1.length = 8) (hi : pX l L = some i) (hn : L[i]? = some (l, n)) : qZ9 Tryz.prog 81 (.int .i64) (aG l) (.int .i64 0) (yI L) = some (yI L, i, n) := by
 unfold qZ9;rw [gJ hl h, hi];simp only;rw [qAW, hn, zT7];simp only;rw [zAO, qQ1, set_self hn, gJ hl h, hi];simp only [q5C, nP, zU3, cond_true];rfl
theorem zBJ (hl : l.length = 8) {L : List (List Int × Int)} (h : ∀ p ∈ L, p.1.length = 8) (hi : pX l L = none) : qZ9 Tryz.prog 81 (.int .i64) (aG l) (.int .i64 0) (yI L) = some (yI (L ++ [(l, 0)]), L.length, 0) := by
 have h2 : ∀ p ∈ L ++ [(l, (0 : Int))], p.1.length = 8 := fun p hp => by
  rcases zUQ.1 hp with q | q
  ·exact h p q
  ·rw [zVC.1 q]; exact hl
 have e : yI L ++ [(aG l, Value.int .i64 0)] = yI (L ++ [(l, 0)]) := by rw [q4F]; rfl
 unfold qZ9;rw [gJ hl h, hi];simp only;rw [e, gJ hl h2, qPE hi, qIF];simp only [q5C, nP, cond_true];rfl
theorem qRQ (v : Int) (hn : L[i]? = some (l, n)) : q47 (i : Int) (.int .i64 v) (yI L) = some (yI (L.set i (l, v))) := by
 have hb : (zQ 0 (yI L)).findIdx? (fun e => (e.born : Int) == (i : Int)) = some i := by
  rw [List.findIdx?_eq_some_iff_getElem]
  have hlt : i < (zQ 0 (yI L)).length := by
   rw [oI, qIF]; exact (zT2.1 hn).1
  have hget : ∀ j (hj : j < (zQ 0 (yI L)).length), ((zQ 0 (yI L))[j]).born = j := fun j hj => by
   have h1 := vC 0 (yI L) j;rw [zT1 hj] at h1
   cases h2 : (yI L)[j]? with
   | none => rw [h2] at h1; cases h1
   | some p =>
     rw [h2] at h1;simp only [zT7, zT5] at h1;rw [h1]; simp
  refine ⟨hlt, ?_, fun j hj => ?_⟩
  ·rw [hget]; simp
  ·rw [hget];simp;omega
 unfold q47;rw [hb];simp only;rw [qAW, hn, zT7];simp only;rw [qQ1]
end Go.Proofs.YtpegkendiefkaaaGreatDoor
set_option maxRecDepth 10000
namespace Go.Proofs.YtpegkendiefkaaaGreatDoor
open Go Go.Idl Go.Sv Go.Proofs
noncomputable section
abbrev aN : An := ⟨[], [], [], []⟩
abbrev Lb (U : zU) (V : List (FuncId × zIV)) : Prop := Lib Tryz.prog good (vD 3) U V
abbrev ent (g : FuncId) {az rs : List Ty} (F : TyL az -> Option (TyL rs)) : FuncId × Ent := (g, ⟨az, rs, F⟩)
theorem _root_.Go.Sv.Lib.aE {T : zU} {IT : List (FuncId × zIV)} (L : Lib Tryz.prog good (vD 3) T IT) (g : FuncId) (ans : Ans) (an : An) {az rs : List Ty} (fn : Func) (F : TyL az -> Option (TyL rs)) (hfn : Tryz.prog.funcs[g]? = some fn) (hent : enters Tryz.prog g = true := by kernel_rfl) (hc : qU4 az rs fn = true := by kernel_rfl)
 (hF : (fun (y : Yl) (x : TyL az) => @fnS y Tryz.prog (vD 3) T IT (ciN Tryz.prog (vD 3) T IT ans 3) an az rs fn x) = fun (_ : Yl) x => F x := by kernel_rfl) : Lib Tryz.prog good (vD 3) ((g, ⟨az, rs, F⟩) :: T) IT := L.zSG g ans an az rs fn F hent hfn hc hF
abbrev tI : Ty := .int .i64
abbrev tL3 : Ty := .list 3 tI
abbrev zHH : Ty := .list 27 tI
abbrev tP3 : Ty := .pair tL3 tL3
abbrev tP4 : Ty := .pair tI tI
abbrev tP5 : Ty := .pair tI tP4
abbrev tP6 : Ty := .pair tI tP5
abbrev tP7 : Ty := .pair tI tP6
abbrev tP8 : Ty := .pair tI tP7
abbrev tP9 : Ty := .pair tI tP8
abbrev zFN : Ty := .pair tI tP9
abbrev q4T : Ty := .pair .bool tL3
abbrev qTT : Ty := .list 22 tL3
abbrev zG7 : Ty := .pair tI tL3
def G16 (x0 : List Int) : zHP (TyL [.bool]) := zHP.ret (decide ((x0.length : Int) <= 27))
def H16 (x : TyL [tL3]) := (G16 x).run
def U16 : zU := ent 4 H16 :: TB0
theorem L16 : Lb U16 [] := LB0.aE 4 [] aN Tryz.f4 H16 Tryz.func4
def G38 (x0 : Int) (x1 : Int) (x2 : Int) : zHP (TyL [.bool]) := zHP.ite (yD (decide (x0 < x1)) false) (zHP.ret (decide (x2 < x0))) (zHP.ret true)
def H38 (x : TyL [tI, tI, tI]) := (G38 x.1 x.2.1 x.2.2).run
def U38 : zU := ent 13 H38 :: U16
theorem L38 : Lb U38 [] := L16.aE 13 [] aN Tryz.f13 H38 Tryz.func13
def G20 (x0 : Int) (x1 : List Int) : zHP (TyL [tI]) := zHP.bind (H38 (x0, 2, 12)) fun x2 => zHP.ite x2 (zHP.ret 3) (zHP.ite ((x1.length : Int) == 0) (zHP.ret 12) (zHP.ite (decide (24 < (x1.length : Int))) (zHP.ret 5) (zHP.bind (qJ (fun (s3 : Int) => zHP.ite (decide (s3 < (x1.length : Int))) (zHP.bind (idx x1.length s3) fun x4 => zHP.bind x1[x4]? fun x5 => zHP.ite (yD (x5 == 0) false) (zHP.bind (idx x1.length s3) fun x6 => zHP.bind x1[x6]? fun x7 => zHP.bind (H38 (x7, IntKind.i64.wrap (1 - x0), IntKind.i64.wrap (x0 - 1))) fun x8 => zHP.ite x8 (zHP.ret (Sum.inr (Sum.inr (Sum.inl 3)))) (zHP.ret (Sum.inl (IntKind.i64.wrap (s3 + 1))))) (zHP.ret (Sum.inr (Sum.inr (Sum.inl 3))))) (zHP.ret (Sum.inr (Sum.inl s3)))) 0) fun (x3 : Int ⊕ Int ⊕ Nat × Int) => zHP.sum x3 (fun s4 => zHP.ret 0) fun (s4 : Int ⊕ Nat × Int) => zHP.sum s4 (fun s5 => zHP.ret s5) fun (s5 : Nat × Int) => zHP.fail)))
def H20 (x : TyL [tI, tL3]) := (G20 x.1 x.2).run
def U20 : zU := ent 9 H20 :: U38
theorem L20 : Lb U20 [] := L38.aE 9 [] ⟨[], [(0, ⟨[5], [], [], [], [], [], []⟩)], [], []⟩ Tryz.f9 H20 Tryz.func9
def G22 (x0 : Int) (x1 : List Int) : zHP (TyL [tI]) := zHP.bind (H38 (x0, 2, 12)) fun x2 => zHP.ite x2 (zHP.ret 3) (zHP.ite ((x1.length : Int) != x0) (zHP.ret 2) (zHP.bind (qJ (fun (s3 : Int) => zHP.ite (decide (s3 < x0)) (zHP.bind (idx x1.length s3) fun x4 => zHP.bind x1[x4]? fun x5 => zHP.bind (H38 (x5, 0, 7)) fun x6 => zHP.ite x6 (zHP.ret (Sum.inr (Sum.inr (Sum.inl 3)))) (zHP.ret (Sum.inl (IntKind.i64.wrap (s3 + 1))))) (zHP.ret (Sum.inr (Sum.inl s3)))) 0) fun (x3 : Int ⊕ Int ⊕ Nat × Int) => zHP.sum x3 (fun s4 => zHP.ret 0) fun (s4 : Int ⊕ Nat × Int) => zHP.sum s4 (fun s5 => zHP.ret s5) fun (s5 : Nat × Int) => zHP.fail))
def H22 (x : TyL [tI, tL3]) := (G22 x.1 x.2).run
def U22 : zU := ent 11 H22 :: U20
theorem L22 : Lb U22 [] := L20.aE 11 [] ⟨[], [(0, ⟨[5], [], [], [], [], [], []⟩)], [], []⟩ Tryz.f11 H22 Tryz.func11
def G52 (x0 : List Int) (x1 : List Int) : zHP (TyL [.bool]) := zHP.ite ((x0.length : Int) != (x1.length : Int)) (zHP.ret false) (zHP.bind (qJ (fun (s2 : Int) => zHP.ite (decide (s2 < (x0.length : Int))) (zHP.bind (idx x0.length s2) fun x3 => zHP.bind x0[x3]? fun x4 => zHP.bind (idx x1.length s2) fun x5 => zHP.bind x1[x5]? fun x6 => zHP.ite (x4 != x6) (zHP.ret (Sum.inr (Sum.inr (Sum.inl false)))) (zHP.ret (Sum.inl (IntKind.i64.wrap (s2 + 1))))) (zHP.ret (Sum.inr (Sum.inl s2)))) 0) fun (x2 : Int ⊕ Bool ⊕ Nat × Int) => zHP.sum x2 (fun s3 => zHP.ret true) fun (s3 : Bool ⊕ Nat × Int) => zHP.sum s3 (fun s4 => zHP.ret s4) fun (s4 : Nat × Int) => zHP.fail)
def H52 (x : TyL [tL3, tL3]) := (G52 x.1 x.2).run
def U52 : zU := ent 31 H52 :: U22
theorem L52 : Lb U52 [] := L22.aE 31 [] ⟨[], [(0, ⟨[5], [], [], [], [], [], []⟩)], [], []⟩ Tryz.f31 H52 Tryz.func31
def G33 (x0 : List Int) (x1 : Int) (x2 : List Int) (x3 : Int) : zHP (TyL [.bool]) := zHP.ite (yD (x1 == x3) true) (zHP.bind (H52 (x0, x2)) fun x4 => zHP.ret x4) (zHP.ret false)
def H33 (x : TyL [tL3, tI, tL3, tI]) := (G33 x.1 x.2.1 x.2.2.1 x.2.2.2).run
def U33 : zU := ent 18 H33 :: U52
theorem L33 : Lb U33 [] := L52.aE 18 [] aN Tryz.f18 H33 Tryz.func18
def G30 (x0 : Bool) (x1 : Int) : zHP (TyL [tI]) := zHP.ite x0 (zHP.ret x1) (zHP.ret 0)
def H30 (x : TyL [.bool, tI]) := (G30 x.1 x.2).run
def U30 : zU := ent 12 H30 :: U33
theorem L30 : Lb U30 [] := L33.aE 12 [] aN Tryz.f12 H30 Tryz.func12
def G37 (x0 : List Int) : zHP (TyL [tI]) := zHP.bind (qJ (fun (s1 : Int) => zHP.ite (decide (s1 < (x0.length : Int))) (zHP.bind (idx x0.length s1) fun x2 => zHP.bind x0[x2]? fun x3 => zHP.ite (x3 != 0) (zHP.ret (Sum.inr (Sum.inr (Sum.inl x3)))) (zHP.ret (Sum.inl (IntKind.i64.wrap (s1 + 1))))) (zHP.ret (Sum.inr (Sum.inl s1)))) 0) fun (x1 : Int ⊕ Int ⊕ Nat × Int) => zHP.sum x1 (fun s2 => zHP.ret 0) fun (s2 : Int ⊕ Nat × Int) => zHP.sum s2 (fun s3 => zHP.ret s3) fun (s3 : Nat × Int) => zHP.fail
def H37 (x : TyL [tL3]) := (G37 x).run
def U37 : zU := ent 10 H37 :: U30
theorem L37 : Lb U37 [] := L30.aE 10 [] ⟨[], [(0, ⟨[7], [], [], [], [], [], []⟩)], [], []⟩ Tryz.f10 H37 Tryz.func10
def G43 (x0 : Int) (x1 : Int) (x2 : Int) (x3 : Int) : zHP (TyL [.bool]) := zHP.ite (yD (x1 == x3) true) (zHP.ret (x0 == x2)) (zHP.ret false)
def H43 (x : TyL [tI, tI, tI, tI]) := (G43 x.1 x.2.1 x.2.2.1 x.2.2.2).run
def U43 : zU := ent 19 H43 :: U37
theorem L43 : Lb U43 [] := L37.aE 19 [] aN Tryz.f19 H43 Tryz.func19
def F39 (x1 : List Int) : Int × Int -> Option (Int × Int ⊕ Int × Int ⊕ Int ⊕ Nat × Int × Int) := (fun (s2 : Int × Int) => zHP.ite (decide (s2.snd < (x1.length : Int))) (zHP.bind (idx x1.length s2.snd) fun x3 => zHP.bind x1[x3]? fun x4 => zHP.bind (H38 (x4, 0, 12)) fun x5 => zHP.ite x5 (zHP.ret (Sum.inr (Sum.inr (Sum.inl 3)))) (zHP.bind (idx x1.length s2.snd) fun x6 => zHP.bind x1[x6]? fun x7 => zHP.ret (Sum.inl (IntKind.i64.wrap (s2.fst + x7), IntKind.i64.wrap (s2.snd + 1))))) (zHP.ret (Sum.inr (Sum.inl (s2.fst, s2.snd)))))
def G39 (x0 : Int) (x1 : List Int) : zHP (TyL [tI]) := zHP.ite (decide (8 < (x1.length : Int))) (zHP.ret 5) (zHP.bind (qJ (F39 x1) (0, 0)) fun x2 => zHP.sum x2 (fun s3 => zHP.ite (s3.fst != x0) (zHP.ret 2) (zHP.ret 0)) fun (s3 : Int ⊕ Nat × Int × Int) => zHP.sum s3 (fun s4 => zHP.ret s4) fun (s4 : Nat × Int × Int) => zHP.fail)
def H39 (x : TyL [tI, tL3]) := (G39 x.1 x.2).run
def U39 : zU := ent 14 H39 :: U43
theorem L39 : Lb U39 [] := L43.aE 14 [] ⟨[], [(0, ⟨[5, 6], [], [], [], [], [], []⟩)], [], []⟩ Tryz.f14 H39 Tryz.func14
def zP7 : Ans := (110, (⟨[], [(0, ⟨[8], [], [], [], [], [], []⟩)], [], []⟩, [tI])) :: []
def zSI : Ans := (83, (⟨[], [], [], []⟩, [.bool])) :: zP7
def zIW : Ans := (84, (⟨[], [], [], []⟩, [.bool])) :: zSI
def G87 (x0 : List Int) : zHP (TyL [tI]) := zHP.bind (qJ (fun (s1 : Int) => zHP.ite (decide (s1 < (x0.length : Int))) (zHP.bind (idx x0.length s1) fun x2 => zHP.bind x0[x2]? fun x3 => zHP.ite (x3 != 0) (zHP.ret (Sum.inr (Sum.inr (Sum.inl x3)))) (zHP.ret (Sum.inl (IntKind.i64.wrap (s1 + 1))))) (zHP.ret (Sum.inr (Sum.inl s1)))) 0) fun (x1 : Int ⊕ Int ⊕ Nat × Int) => zHP.sum x1 (fun s2 => zHP.ret 0) fun (s2 : Int ⊕ Nat × Int) => zHP.sum s2 (fun s3 => zHP.ret s3) fun (s3 : Nat × Int) => zHP.fail
def H87 (x : TyL [zHH]) := (G87 x).run
def U87 : zU := ent 40 H87 :: U39
theorem L87 : Lb U87 [] := L39.aE 40 zIW ⟨[], [(0, ⟨[7], [], [], [], [], [], []⟩)], [], []⟩ Tryz.f40 H87 Tryz.func40
def G89 (x0 : Bool) (x1 : Int) : zHP (TyL [tI]) := zHP.ite x0 (zHP.ret x1) (zHP.ret 0)
def H89 (x : TyL [.bool, tI]) := (G89 x.1 x.2).run
def U89 : zU := ent 46 H89 :: U87
theorem L89 : Lb U89 [] := L87.aE 46 zIW aN Tryz.f46 H89 Tryz.func46
def zN1 (x0 : Int) (x1 : Int) (x2 : Int) : zHP (TyL [tI]) := zHP.ite (yD (decide (x0 < x1)) false) (zHP.bind (H89 (decide (x2 < x0), 3)) fun x3 => zHP.ret x3) (zHP.ret 3)
def zKA (x : TyL [tI, tI, tI]) := (zN1 x.1 x.2.1 x.2.2).run
def zP8 : zU := ent 47 zKA :: U89
theorem zSJ : Lb zP8 [] := L89.aE 47 zIW aN Tryz.f47 zKA Tryz.func47
def G88 (x0 : Int) : zHP (TyL [tI]) := zHP.bind (zKA (x0, 2, 12)) fun x1 => zHP.ret x1
def H88 (x : TyL [tI]) := (G88 x).run
def U88 : zU := ent 85 H88 :: zP8
theorem L88 : Lb U88 [] := zSJ.aE 85 zIW aN Tryz.f85 H88 Tryz.func85
def G19 (x0 : Int) (x1 : List Int) : zHP (TyL [tI]) := zHP.bind (qJ (fun (s2 : Int) => zHP.ite (decide (s2 < (x1.length : Int))) (zHP.bind (idx x1.length s2) fun x3 => zHP.bind x1[x3]? fun x4 => zHP.ite (yD (x4 == 0) false) (zHP.ite (yD (decide (x4 <= IntKind.i64.wrap (0 - x0))) false) (zHP.ite (decide (x0 <= x4)) (zHP.ret (Sum.inr (Sum.inr (Sum.inl s2)))) (zHP.ret (Sum.inl (IntKind.i64.wrap (s2 + 1))))) (zHP.ret (Sum.inr (Sum.inr (Sum.inl s2))))) (zHP.ret (Sum.inr (Sum.inr (Sum.inl s2))))) (zHP.ret (Sum.inr (Sum.inl s2)))) 0) fun (x2 : Int ⊕ Int ⊕ Nat × Int) => zHP.sum x2 (fun s3 => zHP.bind (H88 x0) fun x4 => zHP.bind (H89 ((x1.length : Int) == 0, 12)) fun x5 => zHP.bind (H89 (decide (24 < (x1.length : Int)), 5)) fun x6 => zHP.bind (H87 [x4, x5, x6, 0]) fun x7 => zHP.ret x7) fun (s3 : Int ⊕ Nat × Int) => zHP.sum s3 (fun s4 => zHP.bind (H88 x0) fun x5 => zHP.bind (H89 ((x1.length : Int) == 0, 12)) fun x6 => zHP.bind (H89 (decide (24 < (x1.length : Int)), 5)) fun x7 => zHP.bind (H89 (decide (0 <= s4), 3)) fun x8 => zHP.bind (H87 [x5, x6, x7, x8]) fun x9 => zHP.ret x9) fun (s4 : Nat × Int) => zHP.fail
def H19 (x : TyL [tI, tL3]) := (G19 x.1 x.2).run
def U19 : zU := ent 41 H19 :: U88
theorem L19 : Lb U19 [] := L88.aE 41 zIW aN Tryz.f41 H19 Tryz.func41
def zN2 (x0 : Int) : zHP (TyL [tI]) := zHP.bind (zKA (x0, 1, 8)) fun x1 => zHP.ret x1
def zME (x : TyL [tI]) := (zN2 x).run
def zP9 : zU := ent 42 zME :: U19
theorem zSK : Lb zP9 [] := L19.aE 42 zIW aN Tryz.f42 zME Tryz.func42
def G92 (x0 : Int) (x1 : List Int) : zHP (TyL [tP3]) := zHP.bind (qJ (fun (s2 : Int × List Int × List Int) => zHP.ite (decide (s2.fst < x0)) (zHP.ite ((s2.snd.snd.length + [s2.fst].length).ble 1048576) (zHP.ret (Sum.inl (IntKind.i64.wrap (s2.fst + 1), s2.snd.fst, s2.snd.snd ++ [s2.fst]))) zHP.fail) (zHP.ret (Sum.inr (Sum.inl (s2.fst, s2.snd.fst, s2.snd.snd))))) (0, [], [])) fun (x2 : Int × List Int × List Int ⊕ List Int × List Int ⊕ Nat × Int × List Int × List Int) => zHP.sum x2 (fun s3 => zHP.bind (qJ (fun (s4 : Int × List Int × List Int) => zHP.ite (decide (s4.fst < (x1.length : Int))) (zHP.bind (idx x1.length s4.fst) fun x5 => zHP.bind x1[x5]? fun x6 => zHP.ite (decide (x6 < 0)) (zHP.bind (idx s4.snd.snd.length (IntKind.i64.wrap (IntKind.i64.wrap (IntKind.i64.wrap (0 - x6) - 1) + 1))) fun x7 => zHP.bind s4.snd.snd[x7]? fun x8 => zHP.ite ((s4.snd.fst.length + [x8].length).ble 1048576) (zHP.bind (idx s4.snd.snd.length (IntKind.i64.wrap (0 - x6))) fun x9 => zHP.bind s4.snd.snd[x9]? fun x10 => zHP.bind (idx s4.snd.snd.length (IntKind.i64.wrap (IntKind.i64.wrap (0 - x6) - 1))) fun x11 => zHP.bind s4.snd.snd[x11]? fun x12 => zHP.bind (idx s4.snd.snd.length (IntKind.i64.wrap (IntKind.i64.wrap (0 - x6) - 1))) fun x13 => zHP.bind s4.snd.snd[x13]? fun x14 => zHP.bind (idx s4.snd.snd.length (IntKind.i64.wrap (0 - x6))) fun x15 => zHP.bind (s4.snd.snd.set x13 x10)[x15]? fun x16 => zHP.ret (Sum.inl (IntKind.i64.wrap (s4.fst + 1), s4.snd.fst ++ [x8], (s4.snd.snd.set x13 x10).set x15 x12))) zHP.fail) (zHP.bind (idx s4.snd.snd.length (IntKind.i64.wrap (IntKind.i64.wrap (x6 - 1) + 0))) fun x7 => zHP.bind s4.snd.snd[x7]? fun x8 => zHP.ite ((s4.snd.fst.length + [x8].length).ble 1048576) (zHP.bind (idx s4.snd.snd.length x6) fun x9 => zHP.bind s4.snd.snd[x9]? fun x10 => zHP.bind (idx s4.snd.snd.length (IntKind.i64.wrap (x6 - 1))) fun x11 => zHP.bind s4.snd.snd[x11]? fun x12 => zHP.bind (idx s4.snd.snd.length (IntKind.i64.wrap (x6 - 1))) fun x13 => zHP.bind s4.snd.snd[x13]? fun x14 => zHP.bind (idx s4.snd.snd.length x6) fun x15 => zHP.bind (s4.snd.snd.set x13 x10)[x15]? fun x16 => zHP.ret (Sum.inl (IntKind.i64.wrap (s4.fst + 1), s4.snd.fst ++ [x8], (s4.snd.snd.set x13 x10).set x15 x12))) zHP.fail)) (zHP.ret (Sum.inr (Sum.inl (s4.fst, s4.snd.fst, s4.snd.snd))))) (0, s3.snd.fst, s3.snd.snd)) fun (x4 : Int × List Int × List Int ⊕ List Int × List Int ⊕ Nat × Int × List Int × List Int) => zHP.sum x4 (fun s5 => zHP.ret (s5.snd.fst, s5.snd.snd)) fun (s5 : List Int × List Int ⊕ Nat × Int × List Int × List Int) => zHP.sum s5 (fun s6 => zHP.fail) fun (s6 : Nat × Int × List Int × List Int) => zHP.fail) fun (s3 : List Int × List Int ⊕ Nat × Int × List Int × List Int) => zHP.sum s3 (fun s4 => zHP.fail) fun (s4 : Nat × Int × List Int × List Int) => zHP.fail
def H92 (x : TyL [tI, tL3]) := (G92 x.1 x.2).run
def U92 : zU := ent 38 H92 :: zP9
theorem L92 : Lb U92 [] := zSK.aE 38 zIW ⟨[], [(0, ⟨[13], [520, 521], [], [], [], [(5, [some 520, some 521])], [(5, 0, 3, 520), (5, 1, 3, 521)]⟩), (2, ⟨[25], [520, 521], [], [], [], [(5, [some 520, some 521])], [(5, 0, 3, 520), (5, 1, 3, 521)]⟩)], [], []⟩ Tryz.f38 H92 Tryz.func38
def zN3 (x0 : Int) (x1 : Int) : zHP (TyL [tI]) := zHP.bind (qJ (fun (s2 : Int × Int) => zHP.ite (s2.snd != 0) (zHP.bind (qP1 s2.fst s2.snd) fun x3 => zHP.ret (Sum.inl (s2.snd, x3))) (zHP.ret (Sum.inr (Sum.inl (s2.fst, s2.snd))))) (x0, x1)) fun (x2 : Int × Int ⊕ Int ⊕ Nat × Int × Int) => zHP.sum x2 (fun s3 => zHP.bind (qAE IntKind.i64 x0 s3.fst) fun x4 => zHP.ret (IntKind.i64.wrap (x4 * x1))) fun (s3 : Int ⊕ Nat × Int × Int) => zHP.sum s3 (fun s4 => zHP.ret s4) fun (s4 : Nat × Int × Int) => zHP.fail
def zMF (x : TyL [tI, tI]) := (zN3 x.1 x.2).run
def zQA : zU := ent 86 zMF :: U92
theorem zSL : Lb zQA [] := L92.aE 86 zIW ⟨[], [(0, ⟨[5, 6], [], [], [], [], [], []⟩)], [], []⟩ Tryz.f86 zMF Tryz.func86
def zN4 (x0 : List Int × List Int) (x1 : Int) : zHP (TyL [tI]) := zHP.bind (idx x0.snd.length x1) fun x2 => zHP.bind x0.snd[x2]? fun x3 => zHP.bind (qJ (fun (s4 : Int × Int) => zHP.ite (s4.snd != x1) (zHP.bind (idx x0.snd.length s4.snd) fun x5 => zHP.bind x0.snd[x5]? fun x6 => zHP.ret (Sum.inl (IntKind.i64.wrap (s4.fst + 1), x6))) (zHP.ret (Sum.inr (Sum.inl (s4.fst, s4.snd))))) (1, x3)) fun (x4 : Int × Int ⊕ Int ⊕ Nat × Int × Int) => zHP.sum x4 (fun s5 => zHP.ret s5.fst) fun (s5 : Int ⊕ Nat × Int × Int) => zHP.sum s5 (fun s6 => zHP.ret s6) fun (s6 : Nat × Int × Int) => zHP.fail
def zLL (x : TyL [tP3, tI]) := (zN4 x.1 x.2).run
def zQB : zU := ent 87 zLL :: zQA
theorem zSM : Lb zQB [] := zSL.aE 87 zIW ⟨[], [(0, ⟨[5, 6], [], [], [], [], [], []⟩)], [], []⟩ Tryz.f87 zLL Tryz.func87
def zN5 (x0 : Int) : zHP (TyL [.bool]) := zHP.ite (yD (decide (0 <= x0)) true) (zHP.ret (decide (x0 < 8))) (zHP.ret false)
def zMG (x : TyL [tI]) := (zN5 x).run
def zQC : zU := ent 81 zMG :: zQB
theorem zSN : Lb zQC [] := zSM.aE 81 zIW aN Tryz.f81 zMG Tryz.func81
def zN6 (x0 : Int) : zHP (TyL [.bool]) := zHP.bind (zMG x0) fun x1 => zHP.ret !x1
def zMH (x : TyL [tI]) := (zN6 x).run
def zQD : zU := ent 118 zMH :: zQC
theorem zSO : Lb zQD [] := zSN.aE 118 zIW aN Tryz.f118 zMH Tryz.func118
def G90 (x0 : List Int) : zHP (TyL [.bool]) := zHP.bind (qJ (fun (s1 : Int) => zHP.ite (decide (s1 < (x0.length : Int))) (zHP.bind (idx x0.length s1) fun x2 => zHP.bind x0[x2]? fun x3 => zHP.bind (zMH x3) fun x4 => zHP.ite x4 (zHP.ret (Sum.inr (Sum.inr (Sum.inl s1)))) (zHP.ret (Sum.inl (IntKind.i64.wrap (s1 + 1))))) (zHP.ret (Sum.inr (Sum.inl s1)))) 0) fun (x1 : Int ⊕ Int ⊕ Nat × Int) => zHP.sum x1 (fun s2 => zHP.ret (decide (0 <= -1))) fun (s2 : Int ⊕ Nat × Int) => zHP.sum s2 (fun s3 => zHP.ret (decide (0 <= s3))) fun (s3 : Nat × Int) => zHP.fail
def H90 (x : TyL [tL3]) := (G90 x).run
def U90 : zU := ent 94 H90 :: zQD
theorem L90 : Lb U90 [] := zSO.aE 94 zIW aN Tryz.f94 H90 Tryz.func94
def G21 (x0 : Int) (x1 : List Int) : zHP (TyL [tI]) := zHP.bind (H88 x0) fun x2 => zHP.bind (H89 ((x1.length : Int) != x0, 2)) fun x3 => zHP.bind (H90 x1) fun x4 => zHP.bind (H89 (x4, 3)) fun x5 => zHP.bind (H87 [x2, x3, x5]) fun x6 => zHP.ret x6
def H21 (x : TyL [tI, tL3]) := (G21 x.1 x.2).run
def U21 : zU := ent 82 H21 :: U90
theorem L21 : Lb U21 [] := L90.aE 82 zIW aN Tryz.f82 H21 Tryz.func82
def zN7 (x0 : Int) (x1 : List Int) (x2 : List Int) : zHP (TyL [tI]) := zHP.bind (H19 (x0, x1)) fun x3 => zHP.bind (H21 (x0, x2)) fun x4 => zHP.bind (H87 [x3, x4]) fun x5 => zHP.ret x5
def zMI (x : TyL [tI, tL3, tL3]) := (zN7 x.1 x.2.1 x.2.2).run
def zQE : zU := ent 37 zMI :: U21
theorem zSP : Lb zQE [] := L21.aE 37 zIW aN Tryz.f37 zMI Tryz.func37
def zN8 (x0 : List Int × List Int) (x1 : List Int) : zHP (TyL [tL3]) := zHP.bind (mkN (x1.length : Int)) fun x2 => zHP.bind (qJ (fun (s3 : Int × List Int) => zHP.ite (decide (s3.fst < (x0.snd.length : Int))) (zHP.bind (idx x0.snd.length s3.fst) fun x4 => zHP.bind x0.snd[x4]? fun x5 => zHP.bind (idx x1.length x5) fun x6 => zHP.bind x1[x6]? fun x7 => zHP.bind (idx s3.snd.length s3.fst) fun x8 => zHP.bind s3.snd[x8]? fun x9 => zHP.ret (Sum.inl (IntKind.i64.wrap (s3.fst + 1), s3.snd.set x8 x7))) (zHP.ret (Sum.inr (Sum.inl (s3.fst, s3.snd))))) (0, List.replicate x2 0)) fun (x3 : Int × List Int ⊕ List Int ⊕ Nat × Int × List Int) => zHP.sum x3 (fun s4 => zHP.ret s4.snd) fun (s4 : List Int ⊕ Nat × Int × List Int) => zHP.sum s4 (fun s5 => zHP.ret s5) fun (s5 : Nat × Int × List Int) => zHP.fail
def zKB (x : TyL [tP3, tL3]) := (zN8 x.1 x.2).run
def zQF : zU := ent 39 zKB :: zQE
theorem zSQ : Lb zQF [] := zSP.aE 39 zIW ⟨[], [(0, ⟨[14], [10], [(5, 10)], [], [], [], []⟩)], [], []⟩ Tryz.f39 zKB Tryz.func39
def G34 (x0 : Int) (x1 : List Int) (x2 : List Int) : zHP (TyL [tL3, tI]) := zHP.bind (zMI (x0, x1, x2)) fun x3 => zHP.ite (x3 != 0) (zHP.ret ([], x3)) (zHP.bind (H92 (x0, x1)) fun x4 => zHP.bind (zKB ((x4.fst, x4.snd), x2)) fun x5 => zHP.ret (x5, 0))
def H34 (x : TyL [tI, tL3, tL3]) := (G34 x.1 x.2.1 x.2.2).run
def U34 : zU := ent 6 H34 :: zQF
theorem L34 : Lb U34 [] := zSQ.aE 6 zIW aN Tryz.f6 H34 Tryz.func6
def qOM (x0 : List Int × List Int) : Int × List Bool -> Option (Int × List Bool ⊕ Int × List Bool ⊕ List Int ⊕ Nat × Int × List Bool) := (fun (s6 : Int × List Bool) => zHP.bind (idx s6.snd.length s6.fst) fun x7 => zHP.bind s6.snd[x7]? fun x8 => zHP.ite (!x8) (zHP.bind (idx s6.snd.length s6.fst) fun x9 => zHP.bind s6.snd[x9]? fun x10 => zHP.bind (idx x0.snd.length s6.fst) fun x11 => zHP.bind x0.snd[x11]? fun x12 => zHP.ret (Sum.inl (x12, s6.snd.set x9 true))) (zHP.ret (Sum.inr (Sum.inl (s6.fst, s6.snd)))))
def qXM (x0 : List Int × List Int) : Int × List Int × List Bool -> Option (Int × List Int × List Bool ⊕ Int × List Int × List Bool ⊕ List Int ⊕ Nat × Int × List Int × List Bool) := (fun (s2 : Int × List Int × List Bool) => zHP.ite (decide (s2.fst < (x0.snd.length : Int))) (zHP.bind (idx s2.snd.snd.length s2.fst) fun x3 => zHP.bind s2.snd.snd[x3]? fun x4 => zHP.ite x4 (zHP.ret (Sum.inl (IntKind.i64.wrap (s2.fst + 1), s2.snd.fst, s2.snd.snd))) (zHP.bind (zLL ((x0.fst, x0.snd), s2.fst)) fun x5 => zHP.ite ((s2.snd.fst.length + [x5].length).ble 1048576) (zHP.bind (qJ (qOM x0) (s2.fst, s2.snd.snd)) fun x6 => zHP.sum x6 (fun s7 => zHP.ret (Sum.inl (IntKind.i64.wrap (s2.fst + 1), s2.snd.fst ++ [x5], s7.snd))) fun (s7 : List Int ⊕ Nat × Int × List Bool) => zHP.sum s7 (fun s8 => zHP.ret (Sum.inr (Sum.inr (Sum.inl s8)))) fun (s8 : Nat × Int × List Bool) => zHP.fail) zHP.fail)) (zHP.ret (Sum.inr (Sum.inl (s2.fst, s2.snd.fst, s2.snd.snd)))))
def zN9 (x0 : List Int × List Int) : zHP (TyL [tL3]) := zHP.bind (mkN (x0.snd.length : Int)) fun x1 => zHP.bind (qJ (qXM x0) (0, [], List.replicate x1 false)) fun x2 => zHP.sum x2 (fun s3 => zHP.ret s3.snd.fst) fun (s3 : List Int ⊕ Nat × Int × List Int × List Bool) => zHP.sum s3 (fun s4 => zHP.ret s4) fun (s4 : Nat × Int × List Int × List Bool) => zHP.fail
def zMJ (x : TyL [tP3]) := (zN9 x).run
def zQG : zU := ent 88 zMJ :: U34
theorem zSR : Lb zQG [] := L34.aE 88 zIW ⟨[], [(0, ⟨[14], [3, 10], [(3, 3), (4, 10)], [(3, 3)], [], [], []⟩), (2, ⟨[6], [10], [(4, 10)], [], [], [], []⟩)], [], []⟩ Tryz.f88 zMJ Tryz.func88
def zOA (x0 : Int) (x1 : Int) : zHP (TyL [tI]) := zHP.bind (qJ (fun (s2 : Int × Int) => zHP.ite (decide (s2.snd < x1)) (zHP.ret (Sum.inl (IntKind.i64.wrap (s2.fst * x0), IntKind.i64.wrap (s2.snd + 1)))) (zHP.ret (Sum.inr (Sum.inl (s2.fst, s2.snd))))) (1, 0)) fun (x2 : Int × Int ⊕ Int ⊕ Nat × Int × Int) => zHP.sum x2 (fun s3 => zHP.ret s3.fst) fun (s3 : Int ⊕ Nat × Int × Int) => zHP.sum s3 (fun s4 => zHP.ret s4) fun (s4 : Nat × Int × Int) => zHP.fail
def zKC (x : TyL [tI, tI]) := (zOA x.1 x.2).run
def zQH : zU := ent 45 zKC :: zQG
theorem zSS : Lb zQH [] := zSR.aE 45 zIW ⟨[], [(0, ⟨[5, 7], [], [], [], [], [], []⟩)], [], []⟩ Tryz.f45 zKC Tryz.func45
def zQI : Ans := (44, (⟨[], [], [], []⟩, [tI])) :: zIW
def zLM : Ans := (43, (⟨[(9, [(8, 4000000022)]), (14, [(8, 4000100022)])], [(0, ⟨[5, 13], [], [], [], [], [], []⟩), (2, ⟨[30], [44025], [], [], [], [(44008, [none, some 44025])], []⟩), (4, ⟨[7, 40], [], [], [], [], [(44008, [none, none])], []⟩)], [], []⟩, [tI])) :: zQI
def FMa (x6 : List Int × List Int) : Int × Int -> Option (Int × Int ⊕ Int × Int ⊕ Int ⊕ Nat × Int × Int) := (fun (s7 : Int × Int) => zHP.ite (decide (s7.snd < (x6.snd.length : Int))) (zHP.bind (zLL ((x6.fst, x6.snd), s7.snd)) fun x8 => zHP.bind (zMF (s7.fst, x8)) fun x9 => zHP.ret (Sum.inl (x9, IntKind.i64.wrap (s7.snd + 1)))) (zHP.ret (Sum.inr (Sum.inl (s7.fst, s7.snd)))))
def FMb (x9 : Nat) : Int × List Int × List Int -> Option (Int × List Int × List Int ⊕ Int × List Int × List Int ⊕ Int ⊕ Nat × Int × List Int × List Int) := (fun (s10 : Int × List Int × List Int) => zHP.ite (decide (s10.fst < (x9 : Int))) (zHP.bind (idx s10.snd.fst.length s10.fst) fun x11 => zHP.bind s10.snd.fst[x11]? fun x12 => zHP.ret (Sum.inl (IntKind.i64.wrap (s10.fst + 1), s10.snd.fst.set x11 s10.fst, s10.snd.snd))) (zHP.ret (Sum.inr (Sum.inl (s10.fst, s10.snd.fst, s10.snd.snd)))))
def FMc (G : List Int -> Option Int) (x6 : List Int × List Int) (all : Int) : Int × Int × List Int × List Int -> Option (Int × Int × List Int × List Int ⊕ Int × Int × List Int × List Int ⊕ Int ⊕ Nat × Int × Int × List Int × List Int) := (fun (s12 : Int × Int × List Int × List Int) => zHP.ite (decide (s12.snd.fst < all)) (zHP.bind (zMJ (s12.snd.snd.fst, s12.snd.snd.snd)) fun x13 => zHP.bind (G x13) fun x14 => zHP.bind (zKB ((x6.fst, x6.snd), s12.snd.snd.snd)) fun x15 => zHP.ret (Sum.inl (IntKind.i64.wrap (s12.fst + x14), IntKind.i64.wrap (s12.snd.fst + 1), s12.snd.snd.fst, x15))) (zHP.ret (Sum.inr (Sum.inl (s12.fst, s12.snd.fst, s12.snd.snd.fst, s12.snd.snd.snd)))))
def G35 (x0 : Int) (x1 : List Int) (x2 : Int) : zHP (TyL [tI, tI]) := zHP.bind (H19 (x0, x1)) fun x3 => zHP.bind (zME x2) fun x4 => zHP.bind (H87 [x3, x4]) fun x5 => zHP.ite (x5 != 0) (zHP.ret (0, x5)) (zHP.bind (H92 (x0, x1)) fun x6 => zHP.bind (qJ (FMa x6) (1, 0)) fun x7 => zHP.sum x7 (fun s8 => zHP.bind (mkN (x6.snd.length : Int)) fun x9 => zHP.bind (qJ (FMb x9) (0, List.replicate x9 0, [])) fun x10 => zHP.sum x10 (fun s11 => zHP.bind (qJ (FMc (fun x13 => zKC (x2, (x13.length : Int))) x6 s8.fst) (0, 0, s11.snd.snd, s11.snd.fst)) fun x12 => zHP.sum x12 (fun s13 => zHP.bind (qAE IntKind.i64 s13.fst s8.fst) fun x14 => zHP.ret (x14, 0)) fun (s13 : Int ⊕ Nat × Int × Int × List Int × List Int) => zHP.sum s13 (fun s14 => zHP.ret (s14, 0)) fun (s14 : Nat × Int × Int × List Int × List Int) => zHP.fail) fun (s11 : Int ⊕ Nat × Int × List Int × List Int) => zHP.sum s11 (fun s12 => zHP.ret (s12, 0)) fun (s12 : Nat × Int × List Int × List Int) => zHP.fail) fun (s8 : Int ⊕ Nat × Int × Int) => zHP.sum s8 (fun s9 => zHP.ret (s9, 0)) fun (s9 : Nat × Int × Int) => zHP.fail)
def H35 (x : TyL [tI, tL3, tI]) := (G35 x.1 x.2.1 x.2.2).run
def U35 : zU := ent 7 H35 :: zQH
theorem L35 : Lb U35 [] := zSS.aE 7 zLM aN Tryz.f7 H35 Tryz.func7
def zMK (x5 : Int) (x9 : (Int × Int × Int × Int × Int × Int × Int × Int) × Int) : Int × List (Value × Value) -> Option (Int × List (Value × Value) ⊕ (Int × List (Value × Value) ⊕ Int ⊕ Nat × Int × List (Value × Value))) := (fun (s10 : Int × List (Value × Value)) => zHP.ite (decide (s10.fst < 8)) (zHP.bind (idx 8 s10.fst) fun x11 => zHP.bind [x9.fst.fst, x9.fst.snd.fst, x9.fst.snd.snd.fst, x9.fst.snd.snd.snd.fst, x9.fst.snd.snd.snd.snd.fst, x9.fst.snd.snd.snd.snd.snd.fst, x9.fst.snd.snd.snd.snd.snd.snd.fst, x9.fst.snd.snd.snd.snd.snd.snd.snd][0 + x11 * 1]? fun x12 => zHP.ite (decide (x5 <= x12)) (zHP.bind (idx 8 s10.fst) fun x13 => zHP.bind [x9.fst.fst, x9.fst.snd.fst, x9.fst.snd.snd.fst, x9.fst.snd.snd.snd.fst, x9.fst.snd.snd.snd.snd.fst, x9.fst.snd.snd.snd.snd.snd.fst, x9.fst.snd.snd.snd.snd.snd.snd.fst, x9.fst.snd.snd.snd.snd.snd.snd.snd][0 + x13 * 1]? fun x14 => zHP.bind (idx 8 s10.fst) fun x15 => zHP.bind (qT0 (0 + x15 * 1) (IntKind.i64.wrap (x14 - x5)) [x9.fst.fst, x9.fst.snd.fst, x9.fst.snd.snd.fst, x9.fst.snd.snd.snd.fst, x9.fst.snd.snd.snd.snd.fst, x9.fst.snd.snd.snd.snd.snd.fst, x9.fst.snd.snd.snd.snd.snd.snd.fst, x9.fst.snd.snd.snd.snd.snd.snd.snd]) fun x16 => zHP.bind (q7Z Tryz.prog 81 (aG x16) s10.snd) fun x17 => zHP.ite x17 (zHP.bind (q5K Tryz.prog 81 (Ty.int IntKind.i64) (aG x16) s10.snd) fun x18 => zHP.bind (qZ9 Tryz.prog 81 (Ty.int IntKind.i64) (aG x16) (Value.int IntKind.i64 0) s10.snd) fun x19 => zHP.bind (q47 (x19.snd.fst : Int) (Value.int IntKind.i64 (IntKind.i64.wrap (x18 + x9.snd))) x19.fst) fun x20 => zHP.ret (Sum.inl (IntKind.i64.wrap (s10.fst + 1), x20))) (zHP.bind (qZ9 Tryz.prog 81 (Ty.int IntKind.i64) (aG x16) (Value.int IntKind.i64 0) s10.snd) fun x18 => zHP.bind (q47 (x18.snd.fst : Int) (Value.int IntKind.i64 (IntKind.i64.wrap (0 + x9.snd))) x18.fst) fun x19 => zHP.ret (Sum.inl (IntKind.i64.wrap (s10.fst + 1), x19)))) (zHP.ret (Sum.inl (IntKind.i64.wrap (s10.fst + 1), s10.snd)))) (zHP.ret (Sum.inr (Sum.inl (s10.fst, s10.snd)))))
def zLN (x5 : Int) (es : List (Value × Value)) : Nat -> AW -> Option AW := (fun (i6 : Nat) (s7 : AW) => aR (fun (s8 : List Nat × List (Value × Value)) => alW s8.snd = s7) fun (s8 : List Nat × List (Value × Value)) => zHP.ite (spec Tryz.prog 1000000001 && (spec Tryz.prog 1000000002 && (Nat.beq 4 4 && (Nat.beq 0 0 && es.length.beq es.length)))) (zHP.bind (qI9 zFN (Ty.int IntKind.i64) (Nat.add._f Nat.zero PUnit.unit i6) es) fun x9 => zHP.bind (qJ (zMK x5 x9) (0, s8.snd)) fun x10 => zHP.sum x10 (fun (s11 : Int × List (Value × Value)) => zHP.ret (alW s11.snd)) fun (s11 : Int ⊕ Nat × Int × List (Value × Value)) => zHP.sum s11 (fun s12 => zHP.fail) fun (s12 : Nat × Int × List (Value × Value)) => zHP.fail) zHP.fail)
def zKD (x0 : List Int) : Int × AW -> Option (Int × AW ⊕ Int × AW ⊕ Int) := (fun (s2 : Int × AW) => aR (fun (s3 : Int × List (Value × Value)) => (s3.fst, alW s3.snd) = s2) fun (s3 : Int × List (Value × Value)) => zHP.ite (decide (s3.fst < (x0.length : Int))) (zHP.bind (idx x0.length s3.fst) fun x4 => zHP.bind x0[x4]? fun x5 => zHP.ite (s3.snd.length.beq s3.snd.length) (zHP.ite (s3.snd.all fun (p : Value × Value) => zG p.fst) (zHP.bind (wX s3.snd.length (zLN x5 s3.snd) (alW [])) fun x6 => zHP.bind (aR (fun (s7 : List Nat × List (Value × Value)) => alW s7.snd = x6) fun (s7 : List Nat × List (Value × Value)) => zHP.ret (Sum.inl (IntKind.i64.wrap (s3.fst + 1), alW s7.snd))) fun (x7 : Int × AW ⊕ Int × AW ⊕ Int) => zHP.ret x7) zHP.fail) zHP.fail) (zHP.ret (Sum.inr (Sum.inl (s3.fst, alW s3.snd)))))
def zML (es : List (Value × Value)) : zHP (TyL [tI]) := zHP.bind (q7Z Tryz.prog 81 (aG []) es) fun x5 => zHP.ite x5 (zHP.bind (q5K Tryz.prog 81 (Ty.int IntKind.i64) (aG []) es) fun x6 => zHP.ret x6) (zHP.ret 0)
def zOB (x0 : List Int) (x1 : Int × Int × Int × Int × Int × Int × Int × Int) : zHP (TyL [tI]) := zHP.bind (qJ (zKD x0) (0, alW ([] ++ [(Value.agg #[Value.int IntKind.i64 x1.fst, Value.int IntKind.i64 x1.snd.fst, Value.int IntKind.i64 x1.snd.snd.fst, Value.int IntKind.i64 x1.snd.snd.snd.fst, Value.int IntKind.i64 x1.snd.snd.snd.snd.fst, Value.int IntKind.i64 x1.snd.snd.snd.snd.snd.fst, Value.int IntKind.i64 x1.snd.snd.snd.snd.snd.snd.fst, Value.int IntKind.i64 x1.snd.snd.snd.snd.snd.snd.snd], Value.int IntKind.i64 1)]))) fun x2 => zHP.sum x2 (fun s3 => zHP.bind (aR (fun (s4 : Int × List (Value × Value)) => (s4.fst, alW s4.snd) = s3) fun (s4 : Int × List (Value × Value)) => zML s4.snd) fun x4 => zHP.ret x4) fun (s3 : Int) => zHP.ret s3
def zKX (x : TyL [tL3, zFN]) := (zOB x.1 x.2).run
def zQJ : zU := ent 49 zKX :: U35
theorem zST : Lb zQJ [] := L35.aE 49 zLM ⟨[(2, [(5, 2000000000)]), (18, [(23, 3000000000), (5, 2000000000)])], [(0, ⟨[18], [5], [(5, 1000000000000005)], [], [], [], []⟩), (2, ⟨[], [22], [], [], [], [], []⟩), (4, ⟨[30], [22], [], [], [], [], []⟩)], [], [(0, zGA), (2, zGW)]⟩ Tryz.f49 zKX Tryz.func49
def zND : Ans := (48, (⟨[], [], [], []⟩, [tI])) :: zLM
def F36 (x2 : List Int) : Int × Int × Int × Int × Int × Int × Int × Int × Int × Int -> Option (Int × Int × Int × Int × Int × Int × Int × Int × Int × Int ⊕ Int × Int × Int × Int × Int × Int × Int × Int × Int × Int ⊕ Int × Int ⊕ Nat × Int × Int × Int × Int × Int × Int × Int × Int × Int × Int) := (fun (s6 : Int × Int × Int × Int × Int × Int × Int × Int × Int × Int) => zHP.ite (decide (s6.snd.fst < (x2.length : Int))) (zHP.bind (idx x2.length s6.snd.fst) fun x7 => zHP.bind x2[x7]? fun x8 => zHP.bind (zKA (x8, 0, 12)) fun x9 => zHP.ite (x9 != 0) (zHP.ret (Sum.inr (Sum.inr (Sum.inl (0, x9))))) (zHP.bind (idx 8 s6.snd.fst) fun x10 => zHP.bind (qT0 (0 + x10 * 1) x8 [s6.snd.snd.fst, s6.snd.snd.snd.fst, s6.snd.snd.snd.snd.fst, s6.snd.snd.snd.snd.snd.fst, s6.snd.snd.snd.snd.snd.snd.fst, s6.snd.snd.snd.snd.snd.snd.snd.fst, s6.snd.snd.snd.snd.snd.snd.snd.snd.fst, s6.snd.snd.snd.snd.snd.snd.snd.snd.snd]) fun x11 => zHP.ret (Sum.inl (IntKind.i64.wrap (s6.fst + x8), IntKind.i64.wrap (s6.snd.fst + 1), x11.getD 0 0, x11.getD 1 0, x11.getD 2 0, x11.getD 3 0, x11.getD 4 0, x11.getD 5 0, x11.getD 6 0, x11.getD 7 0)))) (zHP.ret (Sum.inr (Sum.inl (s6.fst, s6.snd.fst, s6.snd.snd.fst, s6.snd.snd.snd.fst, s6.snd.snd.snd.snd.fst, s6.snd.snd.snd.snd.snd.fst, s6.snd.snd.snd.snd.snd.snd.fst, s6.snd.snd.snd.snd.snd.snd.snd.fst, s6.snd.snd.snd.snd.snd.snd.snd.snd.fst, s6.snd.snd.snd.snd.snd.snd.snd.snd.snd)))))
def G36 (x0 : Int) (x1 : List Int) (x2 : List Int) : zHP (TyL [tI, tI]) := zHP.bind (H19 (x0, x1)) fun x3 => zHP.bind (H89 (decide (8 < (x2.length : Int)), 5)) fun x4 => zHP.bind (H87 [x3, x4]) fun x5 => zHP.ite (x5 != 0) (zHP.ret (0, x5)) (zHP.bind (qJ (F36 x2) (0, 0, 0, 0, 0, 0, 0, 0, 0, 0)) fun x6 => zHP.sum x6 (fun s7 => zHP.ite (s7.fst != x0) (zHP.ret (0, 2)) (zHP.bind (H92 (x0, x1)) fun x8 => zHP.bind (qJ (FMa x8) (1, 0)) fun x9 => zHP.sum x9 (fun s10 => zHP.bind (mkN (x8.snd.length : Int)) fun x11 => zHP.bind (qJ (FMb x11) (0, List.replicate x11 0, [])) fun x12 => zHP.sum x12 (fun s13 => zHP.bind (qJ (FMc (fun x15 => zKX (x15, s7.snd.snd.fst, s7.snd.snd.snd.fst, s7.snd.snd.snd.snd.fst, s7.snd.snd.snd.snd.snd.fst, s7.snd.snd.snd.snd.snd.snd.fst, s7.snd.snd.snd.snd.snd.snd.snd.fst, s7.snd.snd.snd.snd.snd.snd.snd.snd.fst, s7.snd.snd.snd.snd.snd.snd.snd.snd.snd)) x8 s10.fst) (0, 0, s13.snd.snd, s13.snd.fst)) fun x14 => zHP.sum x14 (fun s15 => zHP.bind (qAE IntKind.i64 s15.fst s10.fst) fun x16 => zHP.ret (x16, 0)) fun (s15 : Int ⊕ Nat × Int × Int × List Int × List Int) => zHP.sum s15 (fun s16 => zHP.ret (s16, 0)) fun (s16 : Nat × Int × Int × List Int × List Int) => zHP.fail) fun (s13 : Int ⊕ Nat × Int × List Int × List Int) => zHP.sum s13 (fun s14 => zHP.ret (s14, 0)) fun (s14 : Nat × Int × List Int × List Int) => zHP.fail) fun (s10 : Int ⊕ Nat × Int × Int) => zHP.sum s10 (fun s11 => zHP.ret (s11, 0)) fun (s11 : Nat × Int × Int) => zHP.fail)) fun (s7 : Int × Int ⊕ Nat × Int × Int × Int × Int × Int × Int × Int × Int × Int × Int) => zHP.sum s7 (fun s8 => zHP.ret (s8.fst, s8.snd)) fun (s8 : Nat × Int × Int × Int × Int × Int × Int × Int × Int × Int × Int) => zHP.fail)
def H36 (x : TyL [tI, tL3, tL3]) := (G36 x.1 x.2.1 x.2.2).run
def U36 : zU := ent 8 H36 :: zQJ
theorem L36 : Lb U36 [] := zST.aE 8 zND ⟨[], [(0, ⟨[10, 28], [], [], [], [], [(9, [none, none, none, none, none, none, none, none])], []⟩)], [], []⟩ Tryz.f8 H36 Tryz.func8
def zH4 : Ans := (89, (⟨[], [(0, ⟨[4], [90003], [(3, 90003)], [(3, 3)], [], [], []⟩)], [], []⟩, [tL3])) :: zND
def zOC (x0 : List Int) : zHP (TyL [tL3]) := zHP.bind (mkN (x0.length : Int)) fun x1 => zHP.bind (qJ (fun (s2 : Int × List Int) => zHP.ite (decide (s2.fst < (x0.length : Int))) (zHP.bind (idx x0.length s2.fst) fun x3 => zHP.bind x0[x3]? fun x4 => zHP.bind (idx s2.snd.length x4) fun x5 => zHP.bind s2.snd[x5]? fun x6 => zHP.ret (Sum.inl (IntKind.i64.wrap (s2.fst + 1), s2.snd.set x5 s2.fst))) (zHP.ret (Sum.inr (Sum.inl (s2.fst, s2.snd))))) (0, List.replicate x1 0)) fun (x2 : Int × List Int ⊕ List Int ⊕ Nat × Int × List Int) => zHP.sum x2 (fun s3 => zHP.ret s3.snd) fun (s3 : List Int ⊕ Nat × Int × List Int) => zHP.sum s3 (fun s4 => zHP.ret s4) fun (s4 : Nat × Int × List Int) => zHP.fail
def zLO (x : TyL [tL3]) := (zOC x).run
def zQK : zU := ent 90 zLO :: U36
theorem zSU : Lb zQK [] := L36.aE 90 zH4 ⟨[], [(0, ⟨[4], [7], [(3, 7)], [], [], [], []⟩)], [], []⟩ Tryz.f90 zLO Tryz.func90
def zOD (x0 : Int) (x1 : List Int) : zHP (TyL [tL3]) := zHP.bind (qJ (fun (s2 : Int × List Int) => zHP.ite (decide (s2.fst < x0)) (zHP.ite ((s2.snd.length + [s2.fst].length).ble 1048576) (zHP.ret (Sum.inl (IntKind.i64.wrap (s2.fst + 1), s2.snd ++ [s2.fst]))) zHP.fail) (zHP.ret (Sum.inr (Sum.inl (s2.fst, s2.snd))))) (0, [])) fun (x2 : Int × List Int ⊕ List Int ⊕ Nat × Int × List Int) => zHP.sum x2 (fun s3 => zHP.bind (qJ (fun (s4 : Int × List Int) => zHP.ite (decide (s4.fst < (x1.length : Int))) (zHP.bind (idx x1.length s4.fst) fun x5 => zHP.bind x1[x5]? fun x6 => zHP.ite (decide (x6 < 0)) (zHP.bind (idx s4.snd.length (IntKind.i64.wrap (0 - x6))) fun x7 => zHP.bind s4.snd[x7]? fun x8 => zHP.bind (idx s4.snd.length (IntKind.i64.wrap (IntKind.i64.wrap (0 - x6) - 1))) fun x9 => zHP.bind s4.snd[x9]? fun x10 => zHP.bind (idx s4.snd.length (IntKind.i64.wrap (IntKind.i64.wrap (0 - x6) - 1))) fun x11 => zHP.bind s4.snd[x11]? fun x12 => zHP.bind (idx s4.snd.length (IntKind.i64.wrap (0 - x6))) fun x13 => zHP.bind (s4.snd.set x11 x8)[x13]? fun x14 => zHP.ret (Sum.inl (IntKind.i64.wrap (s4.fst + 1), (s4.snd.set x11 x8).set x13 x10))) (zHP.bind (idx s4.snd.length x6) fun x7 => zHP.bind s4.snd[x7]? fun x8 => zHP.bind (idx s4.snd.length (IntKind.i64.wrap (x6 - 1))) fun x9 => zHP.bind s4.snd[x9]? fun x10 => zHP.bind (idx s4.snd.length (IntKind.i64.wrap (x6 - 1))) fun x11 => zHP.bind s4.snd[x11]? fun x12 => zHP.bind (idx s4.snd.length x6) fun x13 => zHP.bind (s4.snd.set x11 x8)[x13]? fun x14 => zHP.ret (Sum.inl (IntKind.i64.wrap (s4.fst + 1), (s4.snd.set x11 x8).set x13 x10)))) (zHP.ret (Sum.inr (Sum.inl (s4.fst, s4.snd))))) (0, s3.snd)) fun (x4 : Int × List Int ⊕ List Int ⊕ Nat × Int × List Int) => zHP.sum x4 (fun s5 => zHP.bind (zLO s5.snd) fun x6 => zHP.ret x6) fun (s5 : List Int ⊕ Nat × Int × List Int) => zHP.sum s5 (fun s6 => zHP.ret s6) fun (s6 : Nat × Int × List Int) => zHP.fail) fun (s3 : List Int ⊕ Nat × Int × List Int) => zHP.sum s3 (fun s4 => zHP.fail) fun (s4 : Nat × Int × List Int) => zHP.fail
def zKE (x : TyL [tI, tL3]) := (zOD x.1 x.2).run
def zQL : zU := ent 50 zKE :: zQK
theorem zSV : Lb zQL [] := zSU.aE 50 zH4 ⟨[], [(0, ⟨[6], [90003], [(5, 90003)], [], [], [], []⟩)], [], []⟩ Tryz.f50 zKE Tryz.func50
def G40 (x0 : Int) (x1 : List Int) (x2 : List Int) : zHP (TyL [tL3]) := zHP.bind (zKE (x0, x1)) fun x3 => zHP.bind (mkN x0) fun x4 => zHP.bind (qJ (fun (s5 : Int × List Int) => zHP.ite (decide (s5.fst < x0)) (zHP.bind (idx x3.length s5.fst) fun x6 => zHP.bind x3[x6]? fun x7 => zHP.bind (idx x2.length s5.fst) fun x8 => zHP.bind x2[x8]? fun x9 => zHP.bind (idx s5.snd.length x7) fun x10 => zHP.bind s5.snd[x10]? fun x11 => zHP.ret (Sum.inl (IntKind.i64.wrap (s5.fst + 1), s5.snd.set x10 x9))) (zHP.ret (Sum.inr (Sum.inl (s5.fst, s5.snd))))) (0, List.replicate x4 0)) fun (x5 : Int × List Int ⊕ List Int ⊕ Nat × Int × List Int) => zHP.sum x5 (fun s6 => zHP.ret s6.snd) fun (s6 : List Int ⊕ Nat × Int × List Int) => zHP.sum s6 (fun s7 => zHP.ret s7) fun (s7 : Nat × Int × List Int) => zHP.fail
def H40 (x : TyL [tI, tL3, tL3]) := (G40 x.1 x.2.1 x.2.2).run
def U40 : zU := ent 15 H40 :: zQL
theorem L40 : Lb U40 [] := zSV.aE 15 zH4 ⟨[], [(0, ⟨[9], [14], [(8, 14)], [], [], [], []⟩)], [], []⟩ Tryz.f15 H40 Tryz.func15
def zOE (x0 : ByteArray) : zHP (TyL [tI]) := zHP.bind (qJ (fun (s1 : Int) => zHP.ite (decide (s1 < (x0.size : Int))) (zHP.bind (qDY x0 s1) fun x2 => zHP.ite (x2 == 47) (zHP.ret (Sum.inr (Sum.inr (Sum.inl s1)))) (zHP.ret (Sum.inl (IntKind.i64.wrap (s1 + 1))))) (zHP.ret (Sum.inr (Sum.inl s1)))) 0) fun (x1 : Int ⊕ Int ⊕ Nat × Int) => zHP.sum x1 (fun s2 => zHP.ret (x0.size : Int)) fun (s2 : Int ⊕ Nat × Int) => zHP.sum s2 (fun s3 => zHP.ret s3) fun (s3 : Nat × Int) => zHP.fail
def zJJ (x : TyL [.str]) := (zOE x).run
def zQM : zU := ent 136 zJJ :: U40
theorem zSW : Lb zQM [] := L40.aE 136 zH4 ⟨[], [(0, ⟨[3], [], [], [], [], [], []⟩)], [], []⟩ Tryz.f136 zJJ Tryz.func136
def zOF (x0 : ByteArray) : zHP (TyL [.bool]) := zHP.bind (zJJ x0) fun x1 => zHP.ret (x1 == (x0.size : Int))
def zLP (x : TyL [.str]) := (zOF x).run
def zQN : zU := ent 111 zLP :: zQM
theorem zSX : Lb zQN [] := zSW.aE 111 zH4 aN Tryz.f111 zLP Tryz.func111
def zOG (x0 : ByteArray) : zHP (TyL [tI]) := zHP.bind (qJ (fun (s1 : Int × Int) => zHP.ite (decide (s1.snd < (x0.size : Int))) (zHP.bind (qDY x0 s1.snd) fun x2 => zHP.ret (Sum.inl (IntKind.i64.wrap (IntKind.i64.wrap (IntKind.i64.wrap (10 * s1.fst) + IntKind.i64.wrap x2) - 48), IntKind.i64.wrap (s1.snd + 1)))) (zHP.ret (Sum.inr (Sum.inl (s1.fst, s1.snd))))) (0, 0)) fun (x1 : Int × Int ⊕ Int ⊕ Nat × Int × Int) => zHP.sum x1 (fun s2 => zHP.ret s2.fst) fun (s2 : Int ⊕ Nat × Int × Int) => zHP.sum s2 (fun s3 => zHP.ret s3) fun (s3 : Nat × Int × Int) => zHP.fail
def zI0 (x : TyL [.str]) := (zOG x).run
def zQO : zU := ent 137 zI0 :: zQN
theorem zSY : Lb zQO [] := zSX.aE 137 zH4 ⟨[], [(0, ⟨[3, 4], [], [], [], [], [], []⟩)], [], []⟩ Tryz.f137 zI0 Tryz.func137
def zJZ : List Int -> Option (List Int ⊕ (List Int ⊕ List Int ⊕ Nat × List Int)) := fun (s1 : List Int) => zHP.ite (yD (decide (0 < (s1.length : Int))) true) (zHP.bind (idx s1.length (IntKind.i64.wrap ((s1.length : Int) - 1))) fun x2 => zHP.bind s1[x2]? fun x3 => zHP.ite (x3 == 0) (zHP.bind (eB s1.length (IntKind.i64.wrap ((s1.length : Int) - 1))) fun x4 => zHP.ret (Sum.inl (List.take (x4 - 0) (List.drop 0 s1)))) (zHP.ret (Sum.inr (Sum.inl s1)))) (zHP.ret (Sum.inr (Sum.inl s1)))
def zOH (x0 : List Int) : zHP (TyL [tL3]) := zHP.bind (qJ zJZ x0) fun x1 => zHP.sum x1 (fun s2 => zHP.ret s2) fun (s2 : List Int ⊕ Nat × List Int) => zHP.sum s2 (fun s3 => zHP.ret s3) fun (s3 : Nat × List Int) => zHP.fail
def zJN (x : TyL [tL3]) := (zOH x).run
def zQP : zU := ent 156 zJN :: zQO
theorem zSZ : Lb zQP [] := zSY.aE 156 zH4 ⟨[], [(0, ⟨[0], [], [], [], [], [], []⟩)], [], []⟩ Tryz.f156 zJN Tryz.func156
def zOI (x0 : Bool) (x1 : List Int) : zHP (TyL [q4T]) := zHP.bind (zJN x1) fun x2 => zHP.ite (yD x0 true) (zHP.ret (decide (0 < (x2.length : Int)), x2)) (zHP.ret (false, x2))
def zJK (x : TyL [.bool, tL3]) := (zOI x.1 x.2).run
def zQQ : zU := ent 138 zJK :: zQP
theorem zS0 : Lb zQQ [] := zSZ.aE 138 zH4 aN Tryz.f138 zJK Tryz.func138
def zOJ (x0 : ByteArray) : zHP (TyL [q4T]) := zHP.ite (yD (decide (0 < (x0.size : Int))) true) (zHP.bind (qDY x0 0) fun x1 => zHP.ite (x1 == 45) (zHP.bind (eB x0.size 1) fun x2 => zHP.bind (qJ (fun (s3 : ByteArray × List Int) => zHP.ite (decide (9 < (s3.fst.size : Int))) (zHP.bind (eB s3.fst.size (IntKind.i64.wrap ((s3.fst.size : Int) - 9))) fun x4 => zHP.bind (zI0 (s3.fst.extract x4 s3.fst.size)) fun x5 => zHP.ite ((s3.snd.length + [x5].length).ble 1048576) (zHP.bind (eB s3.fst.size (IntKind.i64.wrap ((s3.fst.size : Int) - 9))) fun x6 => zHP.ret (Sum.inl (s3.fst.extract 0 x6, s3.snd ++ [x5]))) zHP.fail) (zHP.ret (Sum.inr (Sum.inl (s3.fst, s3.snd))))) (x0.extract x2 x0.size, [])) fun (x3 : ByteArray × List Int ⊕ Bool × List Int ⊕ Nat × ByteArray × List Int) => zHP.sum x3 (fun s4 => zHP.bind (zI0 s4.fst) fun x5 => zHP.ite ((s4.snd.length + [x5].length).ble 1048576) (zHP.bind (zJK (x1 == 45, s4.snd ++ [x5])) fun x6 => zHP.ret (x6.fst, x6.snd)) zHP.fail) fun (s4 : Bool × List Int ⊕ Nat × ByteArray × List Int) => zHP.sum s4 (fun s5 => zHP.fail) fun (s5 : Nat × ByteArray × List Int) => zHP.fail) (zHP.bind (qJ (fun (s2 : ByteArray × List Int) => zHP.ite (decide (9 < (s2.fst.size : Int))) (zHP.bind (eB s2.fst.size (IntKind.i64.wrap ((s2.fst.size : Int) - 9))) fun x3 => zHP.bind (zI0 (s2.fst.extract x3 s2.fst.size)) fun x4 => zHP.ite ((s2.snd.length + [x4].length).ble 1048576) (zHP.bind (eB s2.fst.size (IntKind.i64.wrap ((s2.fst.size : Int) - 9))) fun x5 => zHP.ret (Sum.inl (s2.fst.extract 0 x5, s2.snd ++ [x4]))) zHP.fail) (zHP.ret (Sum.inr (Sum.inl (s2.fst, s2.snd))))) (x0, [])) fun (x2 : ByteArray × List Int ⊕ Bool × List Int ⊕ Nat × ByteArray × List Int) => zHP.sum x2 (fun s3 => zHP.bind (zI0 s3.fst) fun x4 => zHP.ite ((s3.snd.length + [x4].length).ble 1048576) (zHP.bind (zJK (x1 == 45, s3.snd ++ [x4])) fun x5 => zHP.ret (x5.fst, x5.snd)) zHP.fail) fun (s3 : Bool × List Int ⊕ Nat × ByteArray × List Int) => zHP.sum s3 (fun s4 => zHP.fail) fun (s4 : Nat × ByteArray × List Int) => zHP.fail)) (zHP.bind (qJ (fun (s1 : ByteArray × List Int) => zHP.ite (decide (9 < (s1.fst.size : Int))) (zHP.bind (eB s1.fst.size (IntKind.i64.wrap ((s1.fst.size : Int) - 9))) fun x2 => zHP.bind (zI0 (s1.fst.extract x2 s1.fst.size)) fun x3 => zHP.ite ((s1.snd.length + [x3].length).ble 1048576) (zHP.bind (eB s1.fst.size (IntKind.i64.wrap ((s1.fst.size : Int) - 9))) fun x4 => zHP.ret (Sum.inl (s1.fst.extract 0 x4, s1.snd ++ [x3]))) zHP.fail) (zHP.ret (Sum.inr (Sum.inl (s1.fst, s1.snd))))) (x0, [])) fun (x1 : ByteArray × List Int ⊕ Bool × List Int ⊕ Nat × ByteArray × List Int) => zHP.sum x1 (fun s2 => zHP.bind (zI0 s2.fst) fun x3 => zHP.ite ((s2.snd.length + [x3].length).ble 1048576) (zHP.bind (zJK (false, s2.snd ++ [x3])) fun x4 => zHP.ret (x4.fst, x4.snd)) zHP.fail) fun (s2 : Bool × List Int ⊕ Nat × ByteArray × List Int) => zHP.sum s2 (fun s3 => zHP.fail) fun (s3 : Nat × ByteArray × List Int) => zHP.fail)
def zJ4 (x : TyL [.str]) := (zOJ x).run
def zQR : zU := ent 112 zJ4 :: zQQ
theorem zS1 : Lb zQR [] := zS0.aE 112 zH4 ⟨[], [(0, ⟨[0], [4], [(4, 4)], [(4, 3)], [], [], []⟩)], [], []⟩ Tryz.f112 zJ4 Tryz.func112
def zMM (x2 : Bool × List Int) : Int × Int -> Option (Int × Int ⊕ (Int × Int ⊕ (Int × Bool) ⊕ Nat × Int × Int)) := fun (s3 : Int × Int) => zHP.ite (decide (0 <= s3.snd)) (zHP.bind (idx x2.snd.length s3.snd) fun x4 => zHP.bind x2.snd[x4]? fun x5 => zHP.ite x2.fst (zHP.ite (yD (decide (9223372036 < s3.fst)) false) (zHP.ite (yD (decide (s3.fst < -9223372036)) false) (zHP.ite (yD (s3.fst == 9223372036) true) (zHP.ite (yD (decide (854775807 < IntKind.i64.wrap (0 - x5))) false) (zHP.ite (yD (s3.fst == -9223372036) true) (zHP.ite (decide (IntKind.i64.wrap (0 - x5) < -854775808)) (zHP.ret (Sum.inr (Sum.inr (Sum.inl (0, false))))) (zHP.ret (Sum.inl (IntKind.i64.wrap (IntKind.i64.wrap (s3.fst * 1000000000) + IntKind.i64.wrap (0 - x5)), IntKind.i64.wrap (s3.snd - 1))))) (zHP.ret (Sum.inl (IntKind.i64.wrap (IntKind.i64.wrap (s3.fst * 1000000000) + IntKind.i64.wrap (0 - x5)), IntKind.i64.wrap (s3.snd - 1))))) (zHP.ret (Sum.inr (Sum.inr (Sum.inl (0, false)))))) (zHP.ite (yD (s3.fst == -9223372036) true) (zHP.ite (decide (IntKind.i64.wrap (0 - x5) < -854775808)) (zHP.ret (Sum.inr (Sum.inr (Sum.inl (0, false))))) (zHP.ret (Sum.inl (IntKind.i64.wrap (IntKind.i64.wrap (s3.fst * 1000000000) + IntKind.i64.wrap (0 - x5)), IntKind.i64.wrap (s3.snd - 1))))) (zHP.ret (Sum.inl (IntKind.i64.wrap (IntKind.i64.wrap (s3.fst * 1000000000) + IntKind.i64.wrap (0 - x5)), IntKind.i64.wrap (s3.snd - 1)))))) (zHP.ret (Sum.inr (Sum.inr (Sum.inl (0, false)))))) (zHP.ret (Sum.inr (Sum.inr (Sum.inl (0, false)))))) (zHP.ite (yD (decide (9223372036 < s3.fst)) false) (zHP.ite (yD (decide (s3.fst < -9223372036)) false) (zHP.ite (yD (s3.fst == 9223372036) true) (zHP.ite (yD (decide (854775807 < x5)) false) (zHP.ite (yD (s3.fst == -9223372036) true) (zHP.ite (decide (x5 < -854775808)) (zHP.ret (Sum.inr (Sum.inr (Sum.inl (0, false))))) (zHP.ret (Sum.inl (IntKind.i64.wrap (IntKind.i64.wrap (s3.fst * 1000000000) + x5), IntKind.i64.wrap (s3.snd - 1))))) (zHP.ret (Sum.inl (IntKind.i64.wrap (IntKind.i64.wrap (s3.fst * 1000000000) + x5), IntKind.i64.wrap (s3.snd - 1))))) (zHP.ret (Sum.inr (Sum.inr (Sum.inl (0, false)))))) (zHP.ite (yD (s3.fst == -9223372036) true) (zHP.ite (decide (x5 < -854775808)) (zHP.ret (Sum.inr (Sum.inr (Sum.inl (0, false))))) (zHP.ret (Sum.inl (IntKind.i64.wrap (IntKind.i64.wrap (s3.fst * 1000000000) + x5), IntKind.i64.wrap (s3.snd - 1))))) (zHP.ret (Sum.inl (IntKind.i64.wrap (IntKind.i64.wrap (s3.fst * 1000000000) + x5), IntKind.i64.wrap (s3.snd - 1)))))) (zHP.ret (Sum.inr (Sum.inr (Sum.inl (0, false)))))) (zHP.ret (Sum.inr (Sum.inr (Sum.inl (0, false))))))) (zHP.ret (Sum.inr (Sum.inl (s3.fst, s3.snd))))
def zOK (x0 : ByteArray) : zHP (TyL [tI, .bool]) := zHP.bind (zLP x0) fun x1 => zHP.ite (yD (!x1) false) (zHP.ite (decide (20 < (x0.size : Int))) (zHP.ret (0, false)) (zHP.bind (zJ4 x0) fun x2 => zHP.bind (qJ (zMM x2) (0, IntKind.i64.wrap ((x2.snd.length : Int) - 1))) fun x3 => zHP.sum x3 (fun s4 => zHP.ret (s4.fst, true)) fun (s4 : Int × Bool ⊕ Nat × Int × Int) => zHP.sum s4 (fun s5 => zHP.ret (s5.fst, s5.snd)) fun (s5 : Nat × Int × Int) => zHP.fail)) (zHP.ret (0, false))
def zMN (x : TyL [.str]) := (zOK x).run
def zQS : zU := ent 91 zMN :: zQR
theorem zS2 : Lb zQS [] := zS1.aE 91 zH4 ⟨[], [(0, ⟨[5, 6], [], [], [], [], [], []⟩)], [], []⟩ Tryz.f91 zMN Tryz.func91
def qG1 (x0 : List Int) : Int × List Int × List Bool -> Option (Int × List Int × List Bool ⊕ (Int × List Int × List Bool ⊕ List (List Int) ⊕ Nat × Int × List Int × List Bool)) := fun (s3 : Int × List Int × List Bool) => zHP.bind (idx s3.snd.snd.length s3.fst) fun x4 => zHP.bind s3.snd.snd[x4]? fun x5 => zHP.ite (!x5) (zHP.bind (idx s3.snd.snd.length s3.fst) fun x6 => zHP.bind s3.snd.snd[x6]? fun x7 => zHP.ite ((s3.snd.fst.length + [s3.fst].length).ble 1048576) (zHP.bind (idx x0.length s3.fst) fun x8 => zHP.bind x0[x8]? fun x9 => zHP.ret (Sum.inl (x9, s3.snd.fst ++ [s3.fst], s3.snd.snd.set x6 true))) zHP.fail) (zHP.ret (Sum.inr (Sum.inl (s3.fst, s3.snd.fst, s3.snd.snd))))
def qWB (x0 : List Int) : Int × List (List Int) × List Bool -> Option (Int × List (List Int) × List Bool ⊕ Int × List (List Int) × List Bool ⊕ List (List Int) ⊕ Nat × Int × List (List Int) × List Bool) := (fun (s2 : Int × List (List Int) × List Bool) => zHP.ite (decide (s2.fst < (x0.length : Int))) (zHP.bind (qJ (qG1 x0) (s2.fst, [], s2.snd.snd)) fun x3 => zHP.sum x3 (fun s4 => zHP.ite (decide (0 < (s4.snd.fst.length : Int))) (zHP.ite ((s2.snd.fst.length + [s4.snd.fst].length).ble 1048576) (zHP.ret (Sum.inl (IntKind.i64.wrap (s2.fst + 1), s2.snd.fst ++ [s4.snd.fst], s4.snd.snd))) zHP.fail) (zHP.ret (Sum.inl (IntKind.i64.wrap (s2.fst + 1), s2.snd.fst, s4.snd.snd)))) fun (s4 : List (List Int) ⊕ Nat × Int × List Int × List Bool) => zHP.sum s4 (fun (s5 : List (List Int)) => zHP.ret (Sum.inr (Sum.inr (Sum.inl s5)))) fun (s5 : Nat × Int × List Int × List Bool) => zHP.fail) (zHP.ret (Sum.inr (Sum.inl (s2.fst, s2.snd.fst, s2.snd.snd)))))
def zLQ (x0 : List Int) : zHP (TyL [qTT]) := zHP.bind (mkN (x0.length : Int)) fun x1 => zHP.bind (qJ (qWB x0) (0, [], List.replicate x1 false)) fun x2 => zHP.sum x2 (fun (s3 : Int × List (List Int) × List Bool) => zHP.ret s3.snd.fst) fun (s3 : List (List Int) ⊕ Nat × Int × List (List Int) × List Bool) => zHP.sum s3 (fun (s4 : List (List Int)) => zHP.ret s4) fun (s4 : Nat × Int × List (List Int) × List Bool) => zHP.fail
def zJ0 (x : TyL [tL3]) := (zLQ x).run
def zQT : zU := ent 53 zJ0 :: zQS
theorem zS3 : Lb zQT [] := zS2.aE 53 zH4 ⟨[(13, [(6, 22)])], [(0, ⟨[5], [3, 10], [(3, 3), (4, 10)], [(3, 22)], [], [], []⟩), (2, ⟨[7], [6, 10], [(6, 6), (4, 10)], [(6, 3)], [], [], []⟩)], [], []⟩ Tryz.f53 zJ0 Tryz.func53
def zJ5 (x1 : Int) : Int × ByteArray -> Option (Int × ByteArray ⊕ (Int × ByteArray ⊕ ByteArray ⊕ Nat × Int × ByteArray)) := fun (s2 : Int × ByteArray) => zHP.ite (yD (decide (0 < s2.fst)) false) (zHP.ite (decide ((s2.snd.size : Int) < x1)) (zHP.bind (eB (⟨#[48, 49, 50, 51, 52, 53, 54, 55, 56, 57]⟩ : ByteArray).size (IntKind.i64.wrap (s2.fst.tmod 10 + 1))) fun x3 => zHP.bind (eB x3 (s2.fst.tmod 10)) fun x4 => zHP.ite ((((⟨#[48, 49, 50, 51, 52, 53, 54, 55, 56, 57]⟩ : ByteArray).extract x4 x3).size + s2.snd.size).ble 9223372036854775807) (zHP.ret (Sum.inl (IntKind.i64.wrap (s2.fst.tdiv 10), (⟨#[48, 49, 50, 51, 52, 53, 54, 55, 56, 57]⟩ : ByteArray).extract x4 x3 ++ s2.snd))) zHP.fail) (zHP.ret (Sum.inr (Sum.inl (s2.fst, s2.snd))))) (zHP.bind (eB (⟨#[48, 49, 50, 51, 52, 53, 54, 55, 56, 57]⟩ : ByteArray).size (IntKind.i64.wrap (s2.fst.tmod 10 + 1))) fun x3 => zHP.bind (eB x3 (s2.fst.tmod 10)) fun x4 => zHP.ite ((((⟨#[48, 49, 50, 51, 52, 53, 54, 55, 56, 57]⟩ : ByteArray).extract x4 x3).size + s2.snd.size).ble 9223372036854775807) (zHP.ret (Sum.inl (IntKind.i64.wrap (s2.fst.tdiv 10), (⟨#[48, 49, 50, 51, 52, 53, 54, 55, 56, 57]⟩ : ByteArray).extract x4 x3 ++ s2.snd))) zHP.fail)
def zOL (x0 : Int) (x1 : Int) : zHP (TyL [.str]) := zHP.bind (qJ (zJ5 x1) (x0, (⟨#[]⟩ : ByteArray))) fun x2 => zHP.sum x2 (fun s3 => zHP.ret s3.snd) fun (s3 : ByteArray ⊕ Nat × Int × ByteArray) => zHP.sum s3 (fun s4 => zHP.ret s4) fun (s4 : Nat × Int × ByteArray) => zHP.fail
def zI8 (x : TyL [tI, tI]) := (zOL x.1 x.2).run
def zQU : zU := ent 157 zI8 :: zQT
theorem zS4 : Lb zQU [] := zS3.aE 157 zH4 ⟨[], [(0, ⟨[0, 5], [], [], [], [], [], []⟩)], [], []⟩ Tryz.f157 zI8 Tryz.func157
def zOM (x0 : Bool × List Int) : zHP (TyL [.str]) := zHP.ite ((x0.snd.length : Int) == 0) (zHP.ret (⟨#[48]⟩ : ByteArray)) (zHP.bind (idx x0.snd.length (IntKind.i64.wrap ((x0.snd.length : Int) - 1))) fun x1 => zHP.bind x0.snd[x1]? fun x2 => zHP.bind (zI8 (x2, 1)) fun x3 => zHP.bind (qJ (fun (s4 : ByteArray × Int) => zHP.ite (decide (0 <= s4.snd)) (zHP.bind (idx x0.snd.length s4.snd) fun x5 => zHP.bind x0.snd[x5]? fun x6 => zHP.bind (zI8 (x6, 9)) fun x7 => zHP.ite ((s4.fst.size + x7.size).ble 9223372036854775807) (zHP.ret (Sum.inl (s4.fst ++ x7, IntKind.i64.wrap (s4.snd - 1)))) zHP.fail) (zHP.ret (Sum.inr (Sum.inl (s4.fst, s4.snd))))) (x3, IntKind.i64.wrap ((x0.snd.length : Int) - 2))) fun (x4 : ByteArray × Int ⊕ ByteArray ⊕ Nat × ByteArray × Int) => zHP.sum x4 (fun s5 => zHP.ite x0.fst (zHP.ite (((⟨#[45]⟩ : ByteArray).size + s5.fst.size).ble 9223372036854775807) (zHP.ret ((⟨#[45]⟩ : ByteArray) ++ s5.fst)) zHP.fail) (zHP.ret s5.fst)) fun (s5 : ByteArray ⊕ Nat × ByteArray × Int) => zHP.sum s5 (fun s6 => zHP.ret s6) fun (s6 : Nat × ByteArray × Int) => zHP.fail)
def zKF (x : TyL [q4T]) := (zOM x).run
def zQV : zU := ent 139 zKF :: zQU
theorem zS5 : Lb zQV [] := zS4.aE 139 zH4 ⟨[], [(0, ⟨[3, 4], [], [], [], [], [], []⟩)], [], []⟩ Tryz.f139 zKF Tryz.func139
def zON (x0 : Int) (x1 : Int) : zHP (TyL [tI]) := zHP.bind (qJ (fun (s2 : Int × Int) => zHP.ite (decide (0 < s2.snd)) (zHP.bind (qP1 s2.fst s2.snd) fun x3 => zHP.ret (Sum.inl (s2.snd, x3))) (zHP.ret (Sum.inr (Sum.inl (s2.fst, s2.snd))))) (x0, x1)) fun (x2 : Int × Int ⊕ Int ⊕ Nat × Int × Int) => zHP.sum x2 (fun s3 => zHP.ret s3.fst) fun (s3 : Int ⊕ Nat × Int × Int) => zHP.sum s3 (fun s4 => zHP.ret s4) fun (s4 : Nat × Int × Int) => zHP.fail
def zLR (x : TyL [tI, tI]) := (zON x.1 x.2).run
def zQW : zU := ent 158 zLR :: zQV
theorem zS6 : Lb zQW [] := zS5.aE 158 zH4 ⟨[], [(0, ⟨[0, 1], [], [], [], [], [], []⟩)], [], []⟩ Tryz.f158 zLR Tryz.func158
def zOO (x0 : Int) (x1 : Int) : zHP (TyL [.str]) := zHP.ite (yD (decide (x0 < -4000000000000000000)) false) (zHP.ite (yD (decide (4000000000000000000 < x0)) false) (zHP.ite (yD (decide (x1 < -4000000000000000000)) false) (zHP.ite (decide (4000000000000000000 < x1)) zHP.fail (zHP.ite (decide (x1 < 0)) (zHP.bind (zLR (bif decide (IntKind.i64.wrap (0 - x0) < IntKind.i64.wrap (0 - IntKind.i64.wrap (0 - x0))) then IntKind.i64.wrap (0 - IntKind.i64.wrap (0 - x0)) else IntKind.i64.wrap (0 - x0), IntKind.i64.wrap (0 - x1))) fun x2 => zHP.bind (qAE IntKind.i64 (IntKind.i64.wrap (0 - x0)) x2) fun x3 => zHP.bind (qAE IntKind.i64 (IntKind.i64.wrap (0 - x1)) x2) fun x4 => zHP.ite (decide (x3 < 0)) (zHP.bind (zI8 (bif decide (x3 < IntKind.i64.wrap (0 - x3)) then IntKind.i64.wrap (0 - x3) else x3, 1)) fun x5 => zHP.ite (((⟨#[45]⟩ : ByteArray).size + x5.size).ble 9223372036854775807) (zHP.ite (decide (1 < x4)) (zHP.ite ((((⟨#[45]⟩ : ByteArray) ++ x5).size + (⟨#[47]⟩ : ByteArray).size).ble 9223372036854775807) (zHP.bind (zI8 (x4, 1)) fun x6 => zHP.ite ((((⟨#[45]⟩ : ByteArray) ++ x5 ++ (⟨#[47]⟩ : ByteArray)).size + x6.size).ble 9223372036854775807) (zHP.ret ((⟨#[45]⟩ : ByteArray) ++ x5 ++ (⟨#[47]⟩ : ByteArray) ++ x6)) zHP.fail) zHP.fail) (zHP.ret ((⟨#[45]⟩ : ByteArray) ++ x5))) zHP.fail) (zHP.bind (zI8 (bif decide (x3 < IntKind.i64.wrap (0 - x3)) then IntKind.i64.wrap (0 - x3) else x3, 1)) fun x5 => zHP.ite (((⟨#[]⟩ : ByteArray).size + x5.size).ble 9223372036854775807) (zHP.ite (decide (1 < x4)) (zHP.ite ((((⟨#[]⟩ : ByteArray) ++ x5).size + (⟨#[47]⟩ : ByteArray).size).ble 9223372036854775807) (zHP.bind (zI8 (x4, 1)) fun x6 => zHP.ite ((((⟨#[]⟩ : ByteArray) ++ x5 ++ (⟨#[47]⟩ : ByteArray)).size + x6.size).ble 9223372036854775807) (zHP.ret ((⟨#[]⟩ : ByteArray) ++ x5 ++ (⟨#[47]⟩ : ByteArray) ++ x6)) zHP.fail) zHP.fail) (zHP.ret ((⟨#[]⟩ : ByteArray) ++ x5))) zHP.fail)) (zHP.bind (zLR (bif decide (x0 < IntKind.i64.wrap (0 - x0)) then IntKind.i64.wrap (0 - x0) else x0, x1)) fun x2 => zHP.bind (qAE IntKind.i64 x0 x2) fun x3 => zHP.bind (qAE IntKind.i64 x1 x2) fun x4 => zHP.ite (decide (x3 < 0)) (zHP.bind (zI8 (bif decide (x3 < IntKind.i64.wrap (0 - x3)) then IntKind.i64.wrap (0 - x3) else x3, 1)) fun x5 => zHP.ite (((⟨#[45]⟩ : ByteArray).size + x5.size).ble 9223372036854775807) (zHP.ite (decide (1 < x4)) (zHP.ite ((((⟨#[45]⟩ : ByteArray) ++ x5).size + (⟨#[47]⟩ : ByteArray).size).ble 9223372036854775807) (zHP.bind (zI8 (x4, 1)) fun x6 => zHP.ite ((((⟨#[45]⟩ : ByteArray) ++ x5 ++ (⟨#[47]⟩ : ByteArray)).size + x6.size).ble 9223372036854775807) (zHP.ret ((⟨#[45]⟩ : ByteArray) ++ x5 ++ (⟨#[47]⟩ : ByteArray) ++ x6)) zHP.fail) zHP.fail) (zHP.ret ((⟨#[45]⟩ : ByteArray) ++ x5))) zHP.fail) (zHP.bind (zI8 (bif decide (x3 < IntKind.i64.wrap (0 - x3)) then IntKind.i64.wrap (0 - x3) else x3, 1)) fun x5 => zHP.ite (((⟨#[]⟩ : ByteArray).size + x5.size).ble 9223372036854775807) (zHP.ite (decide (1 < x4)) (zHP.ite ((((⟨#[]⟩ : ByteArray) ++ x5).size + (⟨#[47]⟩ : ByteArray).size).ble 9223372036854775807) (zHP.bind (zI8 (x4, 1)) fun x6 => zHP.ite ((((⟨#[]⟩ : ByteArray) ++ x5 ++ (⟨#[47]⟩ : ByteArray)).size + x6.size).ble 9223372036854775807) (zHP.ret ((⟨#[]⟩ : ByteArray) ++ x5 ++ (⟨#[47]⟩ : ByteArray) ++ x6)) zHP.fail) zHP.fail) (zHP.ret ((⟨#[]⟩ : ByteArray) ++ x5))) zHP.fail)))) zHP.fail) zHP.fail) zHP.fail
def zMO (x : TyL [tI, tI]) := (zOO x.1 x.2).run
def zQX : zU := ent 142 zMO :: zQW
theorem zS7 : Lb zQX [] := zS6.aE 142 zH4 aN Tryz.f142 zMO Tryz.func142
def zKY : Int × List Int -> Option (Int × List Int ⊕ (Int × List Int ⊕ (Bool × List Int) ⊕ Nat × Int × List Int)) := fun (s1 : Int × List Int) => zHP.ite (s1.fst != 0) (zHP.ite (decide (s1.fst.tmod 1000000000 < 0)) (zHP.ite ((s1.snd.length + [IntKind.i64.wrap (0 - s1.fst.tmod 1000000000)].length).ble 1048576) (zHP.ret (Sum.inl (IntKind.i64.wrap (s1.fst.tdiv 1000000000), s1.snd ++ [IntKind.i64.wrap (0 - s1.fst.tmod 1000000000)]))) zHP.fail) (zHP.ite ((s1.snd.length + [s1.fst.tmod 1000000000].length).ble 1048576) (zHP.ret (Sum.inl (IntKind.i64.wrap (s1.fst.tdiv 1000000000), s1.snd ++ [s1.fst.tmod 1000000000]))) zHP.fail)) (zHP.ret (Sum.inr (Sum.inl (s1.fst, s1.snd))))
def zOP (x0 : Int) : zHP (TyL [q4T]) := zHP.bind (qJ zKY (x0, [])) fun x1 => zHP.sum x1 (fun s2 => zHP.bind (zJK (decide (x0 < 0), s2.snd)) fun x3 => zHP.ret (x3.fst, x3.snd)) fun (s2 : Bool × List Int ⊕ Nat × Int × List Int) => zHP.sum s2 (fun s3 => zHP.fail) fun (s3 : Nat × Int × List Int) => zHP.fail
def zKZ (x : TyL [tI]) := (zOP x).run
def zQY : zU := ent 140 zKZ :: zQX
theorem zS8 : Lb zQY [] := zS7.aE 140 zH4 ⟨[], [(0, ⟨[0], [3], [(3, 3)], [(3, 3)], [], [], []⟩)], [], []⟩ Tryz.f140 zKZ Tryz.func140
def zOQ (x0 : Int) : zHP (TyL [.str]) := zHP.bind (zKZ x0) fun x1 => zHP.bind (zKF (x1.fst, x1.snd)) fun x2 => zHP.ret x2
def zMP (x : TyL [tI]) := (zOQ x).run
def zQZ : zU := ent 113 zMP :: zQY
theorem zS9 : Lb zQZ [] := zS8.aE 113 zH4 aN Tryz.f113 zMP Tryz.func113
def zOR (x0 : ByteArray) : zHP (TyL [tI, tI, .bool]) := zHP.ite (decide (20 < (x0.size : Int))) (zHP.ret (0, 0, false)) (zHP.ite (yD (decide (0 < (x0.size : Int))) true) (zHP.bind (qDY x0 0) fun x1 => zHP.ite (x1 == 45) (zHP.bind (eB x0.size 1) fun x2 => zHP.bind (zJJ (x0.extract x2 x0.size)) fun x3 => zHP.ite (yD (decide (9 < x3)) false) (zHP.ite (decide (10 < IntKind.i64.wrap (((x0.extract x2 x0.size).size : Int) - x3))) (zHP.ret (0, 0, false)) (zHP.bind (eB (x0.extract x2 x0.size).size x3) fun x4 => zHP.bind (zI0 ((x0.extract x2 x0.size).extract 0 x4)) fun x5 => zHP.ite (decide (x3 < ((x0.extract x2 x0.size).size : Int))) (zHP.bind (eB (x0.extract x2 x0.size).size (IntKind.i64.wrap (x3 + 1))) fun x6 => zHP.bind (zI0 ((x0.extract x2 x0.size).extract x6 (x0.extract x2 x0.size).size)) fun x7 => zHP.ite (x1 == 45) (zHP.ret (IntKind.i64.wrap (0 - x5), x7, true)) (zHP.ret (x5, x7, true))) (zHP.ite (x1 == 45) (zHP.ret (IntKind.i64.wrap (0 - x5), 1, true)) (zHP.ret (x5, 1, true))))) (zHP.ret (0, 0, false))) (zHP.bind (zJJ x0) fun x2 => zHP.ite (yD (decide (9 < x2)) false) (zHP.ite (decide (10 < IntKind.i64.wrap ((x0.size : Int) - x2))) (zHP.ret (0, 0, false)) (zHP.bind (eB x0.size x2) fun x3 => zHP.bind (zI0 (x0.extract 0 x3)) fun x4 => zHP.ite (decide (x2 < (x0.size : Int))) (zHP.bind (eB x0.size (IntKind.i64.wrap (x2 + 1))) fun x5 => zHP.bind (zI0 (x0.extract x5 x0.size)) fun x6 => zHP.ite (x1 == 45) (zHP.ret (IntKind.i64.wrap (0 - x4), x6, true)) (zHP.ret (x4, x6, true))) (zHP.ite (x1 == 45) (zHP.ret (IntKind.i64.wrap (0 - x4), 1, true)) (zHP.ret (x4, 1, true))))) (zHP.ret (0, 0, false)))) (zHP.bind (zJJ x0) fun x1 => zHP.ite (yD (decide (9 < x1)) false) (zHP.ite (decide (10 < IntKind.i64.wrap ((x0.size : Int) - x1))) (zHP.ret (0, 0, false)) (zHP.bind (eB x0.size x1) fun x2 => zHP.bind (zI0 (x0.extract 0 x2)) fun x3 => zHP.ite (decide (x1 < (x0.size : Int))) (zHP.bind (eB x0.size (IntKind.i64.wrap (x1 + 1))) fun x4 => zHP.bind (zI0 (x0.extract x4 x0.size)) fun x5 => zHP.ret (x3, x5, true)) (zHP.ret (x3, 1, true)))) (zHP.ret (0, 0, false))))
def zLS (x : TyL [.str]) := (zOR x).run
def zQ0 : zU := ent 141 zLS :: zQZ
theorem zTA : Lb zQ0 [] := zS9.aE 141 zH4 aN Tryz.f141 zLS Tryz.func141
def zOS (x0 : ByteArray) (x1 : ByteArray) : zHP (TyL [.str]) := zHP.bind (zLS x0) fun x2 => zHP.bind (zLS x1) fun x3 => zHP.ite (yD x2.snd.snd true) (zHP.ite x3.snd.snd (zHP.bind (zMO (IntKind.i64.wrap (x2.fst * x3.fst), IntKind.i64.wrap (x2.snd.fst * x3.snd.fst))) fun x4 => zHP.ret x4) zHP.fail) zHP.fail
def zK0 (x : TyL [.str, .str]) := (zOS x.1 x.2).run
def zQ1 : zU := ent 114 zK0 :: zQ0
theorem zTB : Lb zQ1 [] := zTA.aE 114 zH4 aN Tryz.f114 zK0 Tryz.func114
def zOT (x0 : List Int) (x1 : List Int) : zHP (TyL [tI]) := zHP.ite ((x0.length : Int) != (x1.length : Int)) (zHP.ite (decide ((x0.length : Int) < (x1.length : Int))) (zHP.ret (-1)) (zHP.ret 1)) (zHP.bind (qJ (fun (s2 : Int) => zHP.ite (decide (0 <= s2)) (zHP.bind (idx x0.length s2) fun x3 => zHP.bind x0[x3]? fun x4 => zHP.bind (idx x1.length s2) fun x5 => zHP.bind x1[x5]? fun x6 => zHP.ite (decide (x4 < x6)) (zHP.ret (Sum.inr (Sum.inr (Sum.inl (-1))))) (zHP.bind (idx x0.length s2) fun x7 => zHP.bind x0[x7]? fun x8 => zHP.bind (idx x1.length s2) fun x9 => zHP.bind x1[x9]? fun x10 => zHP.ite (decide (x10 < x8)) (zHP.ret (Sum.inr (Sum.inr (Sum.inl 1)))) (zHP.ret (Sum.inl (IntKind.i64.wrap (s2 - 1)))))) (zHP.ret (Sum.inr (Sum.inl s2)))) (IntKind.i64.wrap ((x0.length : Int) - 1))) fun (x2 : Int ⊕ Int ⊕ Nat × Int) => zHP.sum x2 (fun s3 => zHP.ret 0) fun (s3 : Int ⊕ Nat × Int) => zHP.sum s3 (fun s4 => zHP.ret s4) fun (s4 : Nat × Int) => zHP.fail)
def zMQ (x : TyL [tL3, tL3]) := (zOT x.1 x.2).run
def zQ2 : zU := ent 169 zMQ :: zQ1
theorem zTC : Lb zQ2 [] := zTB.aE 169 zH4 ⟨[], [(0, ⟨[5], [], [], [], [], [], []⟩)], [], []⟩ Tryz.f169 zMQ Tryz.func169
def zOU (x0 : List Int) (x1 : Int) : zHP (TyL [tL3, tI]) := zHP.bind (mkN (x0.length : Int)) fun x2 => zHP.bind (qJ (fun (s3 : Int × Int × List Int) => zHP.ite (decide (0 <= s3.snd.fst)) (zHP.bind (idx x0.length s3.snd.fst) fun x4 => zHP.bind x0[x4]? fun x5 => zHP.bind (qAE IntKind.i64 (IntKind.i64.wrap (IntKind.i64.wrap (s3.fst * 1000000000) + x5)) x1) fun x6 => zHP.bind (idx s3.snd.snd.length s3.snd.fst) fun x7 => zHP.bind s3.snd.snd[x7]? fun x8 => zHP.bind (qP1 (IntKind.i64.wrap (IntKind.i64.wrap (s3.fst * 1000000000) + x5)) x1) fun x9 => zHP.ret (Sum.inl (x9, IntKind.i64.wrap (s3.snd.fst - 1), s3.snd.snd.set x7 x6))) (zHP.ret (Sum.inr (Sum.inl (s3.fst, s3.snd.fst, s3.snd.snd))))) (0, IntKind.i64.wrap ((x0.length : Int) - 1), List.replicate x2 0)) fun (x3 : Int × Int × List Int ⊕ List Int × Int ⊕ Nat × Int × Int × List Int) => zHP.sum x3 (fun s4 => zHP.bind (zJN s4.snd.snd) fun x5 => zHP.ret (x5, s4.fst)) fun (s4 : List Int × Int ⊕ Nat × Int × Int × List Int) => zHP.sum s4 (fun s5 => zHP.ret (s5.fst, s5.snd)) fun (s5 : Nat × Int × Int × List Int) => zHP.fail
def zMR (x : TyL [tL3, tI]) := (zOU x.1 x.2).run
def zQ3 : zU := ent 170 zMR :: zQ2
theorem zTD : Lb zQ3 [] := zTC.aE 170 zH4 ⟨[], [(0, ⟨[7, 8], [12], [(6, 12)], [], [], [], []⟩)], [], []⟩ Tryz.f170 zMR Tryz.func170
def zOV (x0 : List Int) (x1 : List Int) : zHP (TyL [tL3, tL3]) := zHP.bind (zMQ (x0, x1)) fun x2 => zHP.ite (decide (x2 < 0)) (zHP.ret ([], x0)) (zHP.ite ((x1.length : Int) == 1) (zHP.bind (idx x1.length 0) fun x3 => zHP.bind x1[x3]? fun x4 => zHP.bind (zMR (x0, x4)) fun x5 => zHP.bind (zJN [x5.snd]) fun x6 => zHP.ret (x5.fst, x6)) (zHP.bind (idx x1.length (IntKind.i64.wrap ((x1.length : Int) - 1))) fun x3 => zHP.bind x1[x3]? fun x4 => zHP.bind (qAE IntKind.i64 1000000000 (IntKind.i64.wrap (x4 + 1))) fun x5 => zHP.fail))
def zK1 (x : TyL [tL3, tL3]) := (zOV x.1 x.2).run
def zQ4 : zU := ent 161 zK1 :: zQ3
theorem zTE : Lb zQ4 [] := zTD.aE 161 zH4 ⟨[], [(0, ⟨[11], [], [], [], [], [], []⟩), (2, ⟨[13], [76], [(12, 76)], [], [], [], []⟩), (4, ⟨[15, 16], [], [], [], [], [], []⟩), (6, ⟨[19, 20], [], [], [], [], [], []⟩)], [], []⟩ Tryz.f161 zK1 Tryz.func161
def zK2 : List Int × List Int -> Option (List Int × List Int ⊕ (List Int × List Int ⊕ List Int ⊕ Nat × List Int × List Int)) := fun (s2 : List Int × List Int) => zHP.ite (decide (0 < (s2.snd.length : Int))) (zHP.bind (zK1 (s2.fst, s2.snd)) fun x3 => zHP.ret (Sum.inl (s2.snd, x3.snd))) (zHP.ret (Sum.inr (Sum.inl (s2.fst, s2.snd))))
def zOW (x0 : List Int) (x1 : List Int) : zHP (TyL [tL3]) := zHP.bind (qJ zK2 (x0, x1)) fun x2 => zHP.sum x2 (fun s3 => zHP.ret s3.fst) fun (s3 : List Int ⊕ Nat × List Int × List Int) => zHP.sum s3 (fun s4 => zHP.ret s4) fun (s4 : Nat × List Int × List Int) => zHP.fail
def zMS (x : TyL [tL3, tL3]) := (zOW x.1 x.2).run
def zQ5 : zU := ent 160 zMS :: zQ4
theorem zTF : Lb zQ5 [] := zTE.aE 160 zH4 ⟨[], [(0, ⟨[0, 1], [], [], [], [], [], []⟩)], [], []⟩ Tryz.f160 zMS Tryz.func160
def zOX (x0 : Bool × List Int) (x1 : Bool × List Int) : zHP (TyL [.str]) := zHP.ite x1.fst zHP.fail (zHP.bind (zMS (x0.snd, x1.snd)) fun x2 => zHP.bind (zK1 (x0.snd, x2)) fun x3 => zHP.bind (zK1 (x1.snd, x2)) fun x4 => zHP.bind (zJK (x0.fst, x3.fst)) fun x5 => zHP.bind (zKF (x5.fst, x5.snd)) fun x6 => zHP.ite (yD ((x4.fst.length : Int) == 1) true) (zHP.bind (idx x4.fst.length 0) fun x7 => zHP.bind x4.fst[x7]? fun x8 => zHP.ite (x8 == 1) (zHP.ret x6) (zHP.ite ((x6.size + (⟨#[47]⟩ : ByteArray).size).ble 9223372036854775807) (zHP.bind (zJK (false, x4.fst)) fun x9 => zHP.bind (zKF (x9.fst, x9.snd)) fun x10 => zHP.ite (((x6 ++ (⟨#[47]⟩ : ByteArray)).size + x10.size).ble 9223372036854775807) (zHP.ret (x6 ++ (⟨#[47]⟩ : ByteArray) ++ x10)) zHP.fail) zHP.fail)) (zHP.ite ((x6.size + (⟨#[47]⟩ : ByteArray).size).ble 9223372036854775807) (zHP.bind (zJK (false, x4.fst)) fun x7 => zHP.bind (zKF (x7.fst, x7.snd)) fun x8 => zHP.ite (((x6 ++ (⟨#[47]⟩ : ByteArray)).size + x8.size).ble 9223372036854775807) (zHP.ret (x6 ++ (⟨#[47]⟩ : ByteArray) ++ x8)) zHP.fail) zHP.fail))
def zMT (x : TyL [q4T, q4T]) := (zOX x.1 x.2).run
def zQ6 : zU := ent 144 zMT :: zQ5
theorem zTG : Lb zQ6 [] := zTF.aE 144 zH4 aN Tryz.f144 zMT Tryz.func144
def zOY (x0 : ByteArray) : zHP (TyL [q4T, q4T]) := zHP.bind (zJJ x0) fun x1 => zHP.ite (x1 == (x0.size : Int)) (zHP.bind (zJ4 x0) fun x2 => zHP.bind (zKZ 1) fun x3 => zHP.ret ((x2.fst, x2.snd), x3.fst, x3.snd)) (zHP.bind (eB x0.size x1) fun x2 => zHP.bind (zJ4 (x0.extract 0 x2)) fun x3 => zHP.bind (eB x0.size (IntKind.i64.wrap (x1 + 1))) fun x4 => zHP.bind (zJ4 (x0.extract x4 x0.size)) fun x5 => zHP.ret ((x3.fst, x3.snd), x5.fst, x5.snd))
def zMU (x : TyL [.str]) := (zOY x).run
def zQ7 : zU := ent 143 zMU :: zQ6
theorem zTH : Lb zQ7 [] := zTG.aE 143 zH4 aN Tryz.f143 zMU Tryz.func143
def zOZ (x0 : ByteArray) : zHP (TyL [.str]) := zHP.bind (zJJ x0) fun x1 => zHP.bind (eB x0.size x1) fun x2 => zHP.ret (x0.extract 0 x2)
def zLT (x : TyL [.str]) := (zOZ x).run
def zQ8 : zU := ent 115 zLT :: zQ7
theorem zTI : Lb zQ8 [] := zTH.aE 115 zH4 aN Tryz.f115 zLT Tryz.func115
def zO0 (x0 : ByteArray) : zHP (TyL [.str]) := zHP.bind (zMU x0) fun x1 => zHP.bind (zMT ((x1.snd.fst, x1.snd.snd), x1.fst.fst, x1.fst.snd)) fun x2 => zHP.ret x2
def zMV (x : TyL [.str]) := (zO0 x).run
def zQ9 : zU := ent 146 zMV :: zQ8
theorem zTJ : Lb zQ9 [] := zTI.aE 146 zH4 aN Tryz.f146 zMV Tryz.func146
def zO1 (x0 : ByteArray) (x1 : ByteArray) : zHP (TyL [.str]) := zHP.bind (zMV x1) fun x2 => zHP.bind (zK0 (x0, x2)) fun x3 => zHP.ret x3
def zMW (x : TyL [.str, .str]) := (zO1 x.1 x.2).run
def zRA : zU := ent 116 zMW :: zQ9
theorem zTK : Lb zRA [] := zTJ.aE 116 zH4 aN Tryz.f116 zMW Tryz.func116
def zO2 (x0 : List Int) : zHP (TyL [.str]) := zHP.bind (zJ0 x0) fun x1 => zHP.bind (qJ (fun (s2 : ByteArray × Int) => zHP.ite (decide (s2.snd < (x1.length : Int))) (zHP.bind (idx x1.length s2.snd) fun x3 => zHP.bind x1[x3]? fun x4 => zHP.bind (zMP (x4.length : Int)) fun x5 => zHP.bind (zMW (s2.fst, x5)) fun x6 => zHP.bind (zLT x6) fun x7 => zHP.bind (zK0 (x7, x5)) fun x8 => zHP.ret (Sum.inl (x8, IntKind.i64.wrap (s2.snd + 1)))) (zHP.ret (Sum.inr (Sum.inl (s2.fst, s2.snd))))) ((⟨#[49]⟩ : ByteArray), 0)) fun (x2 : ByteArray × Int ⊕ ByteArray ⊕ Nat × ByteArray × Int) => zHP.sum x2 (fun s3 => zHP.ret s3.fst) fun (s3 : ByteArray ⊕ Nat × ByteArray × Int) => zHP.sum s3 (fun s4 => zHP.ret s4) fun (s4 : Nat × ByteArray × Int) => zHP.fail
def zMX (x : TyL [tL3]) := (zO2 x).run
def zRB : zU := ent 92 zMX :: zRA
theorem zTL : Lb zRB [] := zTK.aE 92 zH4 ⟨[], [(0, ⟨[3, 5], [], [], [], [], [], []⟩)], [], []⟩ Tryz.f92 zMX Tryz.func92
def zLU (x0 : Int) (x1 : List Int) : zHP (TyL [tI]) := zHP.bind (zKE (x0, x1)) fun x2 => zHP.bind (zMX x2) fun x3 => zHP.bind (zMN x3) fun x4 => zHP.ret x4.fst
def zK3 (x : TyL [tI, tL3]) := (zLU x.1 x.2).run
def zRC : zU := ent 51 zK3 :: zRB
theorem zTM : Lb zRC [] := zTL.aE 51 zH4 aN Tryz.f51 zK3 Tryz.func51
def zTN (x0 : Int) (x1 : Int) : zHP (TyL [tI]) := zHP.bind (qJ (fun (s2 : Int × Int) => zHP.ite (decide (s2.snd < x1)) (zHP.ret (Sum.inl (IntKind.i64.wrap (s2.fst * x0), IntKind.i64.wrap (s2.snd + 1)))) (zHP.ret (Sum.inr (Sum.inl (s2.fst, s2.snd))))) (1, 0)) fun (x2 : Int × Int ⊕ Int ⊕ Nat × Int × Int) => zHP.sum x2 (fun s3 => zHP.ret s3.fst) fun (s3 : Int ⊕ Nat × Int × Int) => zHP.sum s3 (fun s4 => zHP.ret s4) fun (s4 : Nat × Int × Int) => zHP.fail
def zLV (x : TyL [tI, tI]) := (zTN x.1 x.2).run
def zRD : zU := ent 52 zLV :: zRC
theorem zTO : Lb zRD [] := zTM.aE 52 zH4 ⟨[], [(0, ⟨[5, 6], [], [], [], [], [], []⟩)], [], []⟩ Tryz.f52 zLV Tryz.func52
def qYH (x3 : List (List Int)) (q : Int) (x6 : List Int) (x8 : Int) : Int × List Int -> Option (Int × List Int ⊕ Int × List Int ⊕ List Int ⊕ Nat × Int × List Int) := (fun (s9 : Int × List Int) => zHP.ite (decide (s9.fst < (x6.length : Int))) (zHP.bind (idx x3.length q) fun x10 => zHP.bind x3[x10]? fun x11 => zHP.bind (idx x11.length s9.fst) fun x12 => zHP.bind x11[x12]? fun x13 => zHP.bind (idx x3.length q) fun x14 => zHP.bind x3[x14]? fun x15 => zHP.bind (qP1 (IntKind.i64.wrap (s9.fst + x8)) (x6.length : Int)) fun x16 => zHP.bind (idx x15.length x16) fun x17 => zHP.bind x15[x17]? fun x18 => zHP.bind (idx s9.snd.length x13) fun x19 => zHP.bind s9.snd[x19]? fun x20 => zHP.ret (Sum.inl (IntKind.i64.wrap (s9.fst + 1), s9.snd.set x19 x18))) (zHP.ret (Sum.inr (Sum.inl (s9.fst, s9.snd)))))
def qS5 (x1 : Int) (x3 : List (List Int)) : Int × List Int -> Option (Int × List Int ⊕ Int × List Int ⊕ List Int ⊕ Nat × Int × List Int) := (fun (s4 : Int × List Int) => zHP.ite (decide (s4.fst < (x3.length : Int))) (zHP.bind (idx x3.length s4.fst) fun x5 => zHP.bind x3[x5]? fun x6 => zHP.bind (qP1 x1 (x6.length : Int)) fun x7 => zHP.bind (qP1 (IntKind.i64.wrap (x7 + (x6.length : Int))) (x6.length : Int)) fun x8 => zHP.bind (qJ (qYH x3 s4.fst x6 x8) (0, s4.snd)) fun x9 => zHP.sum x9 (fun s10 => zHP.ret (Sum.inl (IntKind.i64.wrap (s4.fst + 1), s10.snd))) fun (s10 : List Int ⊕ Nat × Int × List Int) => zHP.sum s10 (fun s11 => zHP.ret (Sum.inr (Sum.inr (Sum.inl s11)))) fun (s11 : Nat × Int × List Int) => zHP.fail) (zHP.ret (Sum.inr (Sum.inl (s4.fst, s4.snd)))))
def zO3 (x0 : List Int) (x1 : Int) : zHP (TyL [tL3]) := zHP.bind (mkN (x0.length : Int)) fun x2 => zHP.bind (zJ0 x0) fun x3 => zHP.bind (qJ (qS5 x1 x3) (0, List.replicate x2 0)) fun x4 => zHP.sum x4 (fun s5 => zHP.ret s5.snd) fun (s5 : List Int ⊕ Nat × Int × List Int) => zHP.sum s5 (fun s6 => zHP.ret s6) fun (s6 : Nat × Int × List Int) => zHP.fail
def zLW (x : TyL [tL3, tI]) := (zO3 x.1 x.2).run
def zRE : zU := ent 54 zLW :: zRD
theorem zTP : Lb zRE [] := zTO.aE 54 zH4 ⟨[], [(0, ⟨[7], [13], [(5, 13)], [], [], [], []⟩), (2, ⟨[10], [13], [(5, 13)], [], [], [], []⟩)], [], []⟩ Tryz.f54 zLW Tryz.func54
def F41 (x0 : Int) (x1 : List Int) (x2 x3 : Int) : Int × Int -> Option (Int × Int ⊕ Int × Int ⊕ Int ⊕ Nat × Int × Int) := (fun (s4 : Int × Int) => zHP.ite (decide (s4.snd < x3)) (zHP.bind (zKE (x0, x1)) fun x5 => zHP.bind (zLW (x5, s4.snd)) fun x6 => zHP.bind (zJ0 x6) fun x7 => zHP.bind (zLV (x2, (x7.length : Int))) fun x8 => zHP.ret (Sum.inl (IntKind.i64.wrap (s4.fst + x8), IntKind.i64.wrap (s4.snd + 1)))) (zHP.ret (Sum.inr (Sum.inl (s4.fst, s4.snd)))))
def G41 (x0 : Int) (x1 : List Int) (x2 : Int) : zHP (TyL [tI]) := zHP.bind (zK3 (x0, x1)) fun x3 => zHP.bind (qJ (F41 x0 x1 x2 x3) (0, 0)) fun x4 => zHP.sum x4 (fun s5 => zHP.bind (qAE IntKind.i64 s5.fst x3) fun x6 => zHP.ret x6) fun (s5 : Int ⊕ Nat × Int × Int) => zHP.sum s5 (fun s6 => zHP.ret s6) fun (s6 : Nat × Int × Int) => zHP.fail
def H41 (x : TyL [tI, tL3, tI]) := (G41 x.1 x.2.1 x.2.2).run
def U41 : zU := ent 16 H41 :: zRE
theorem L41 : Lb U41 [] := zTP.aE 16 zH4 ⟨[], [(0, ⟨[8, 9], [], [], [], [], [], []⟩)], [], []⟩ Tryz.f16 H41 Tryz.func16
def zK4 (zO4 : TyL [qTT, tI, tL3] -> Option (TyL [tI])) (x0 : List (List Int)) (x1 : Int) (x2 : List Int) : Int × Int -> Option (Int × Int ⊕ Int × Int ⊕ Int ⊕ Nat × Int × Int) := (fun (s3 : Int × Int) => zHP.ite (decide (s3.snd < (x2.length : Int))) (zHP.bind (idx x2.length s3.snd) fun x4 => zHP.bind x2[x4]? fun x5 => zHP.bind (idx x0.length x1) fun x6 => zHP.bind x0[x6]? fun x7 => zHP.ite (decide ((x7.length : Int) <= x5)) (zHP.ite (x2.length.beq 0) (zHP.bind (idx 0 s3.snd) fun x8 => zHP.fail) (zHP.ite ((0 + x2.length).ble 1048576) (zHP.bind (idx (0 + x2.length) s3.snd) fun x8 => zHP.bind ([] ++ x2)[x8]? fun x9 => zHP.bind (idx x0.length x1) fun x10 => zHP.bind x0[x10]? fun x11 => zHP.bind (idx (0 + x2.length) s3.snd) fun x12 => zHP.bind ([] ++ x2)[x12]? fun x13 => zHP.bind (zO4 (x0, IntKind.i64.wrap (x1 + 1), ([] ++ x2).set x12 (IntKind.i64.wrap (x9 - (x11.length : Int))))) fun x14 => zHP.ret (Sum.inl (IntKind.i64.wrap (s3.fst + x14), IntKind.i64.wrap (s3.snd + 1)))) zHP.fail)) (zHP.ret (Sum.inl (s3.fst, IntKind.i64.wrap (s3.snd + 1))))) (zHP.ret (Sum.inr (Sum.inl (s3.fst, s3.snd)))))
def zMY (zO4 : TyL [qTT, tI, tL3] -> Option (TyL [tI])) (x0 : List (List Int)) (x1 : Int) (x2 : List Int) : zHP (TyL [tI]) := zHP.ite (x1 == (x0.length : Int)) (zHP.ret 1) (zHP.bind (qJ (zK4 zO4 x0 x1 x2) (0, 0)) fun x3 => zHP.sum x3 (fun s4 => zHP.ret s4.fst) fun (s4 : Int ⊕ Nat × Int × Int) => zHP.sum s4 (fun s5 => zHP.ret s5) fun (s5 : Nat × Int × Int) => zHP.fail)
def zJ1 : Nat -> TyL [qTT, tI, tL3] -> Option (TyL [tI])
 | 0 => fun _ => none
 | k + 1 => fun x => (zMY (zJ1 k) (x.1) (x.2.1) (x.2.2)).run
def zKN (W : TyL [qTT, tI, tL3] -> Option (TyL [tI])) : zU := (55, ⟨[qTT, tI, tL3], [tI], W⟩) :: U41
theorem zTQ : (fun (W : TyL [qTT, tI, tL3] -> Option (TyL [tI])) (y : Yl) (x : TyL [qTT, tI, tL3]) => @fnS y Tryz.prog (vD 3) (zKN W) [] (ciN Tryz.prog (vD 3) (zKN W) [] zH4 3) ⟨[], [(0, ⟨[7, 8], [], [], [], [], [], []⟩)], [], []⟩ [qTT, tI, tL3] [tI] Tryz.f55 x) = fun W (_ : Yl) x => (zMY W (x.1) (x.2.1) (x.2.2)).run := by kernel_rfl
theorem zNE : ∀ k, Lib Tryz.prog good (vD 3) (zKN (zJ1 k)) []
 | 0 => L41.addN 55 [qTT, tI, tL3] [tI] (by kernel_rfl)
 | k + 1 => ((zNE k).add 55 zH4 3 ⟨[], [(0, ⟨[7, 8], [], [], [], [], [], []⟩)], [], []⟩ [qTT, tI, tL3] [tI] Tryz.f55 (zJ1 (k + 1)) (by kernel_rfl) Tryz.func55 (by kernel_rfl) fun y x => congrFun (congrFun (congrFun zTQ (zJ1 k)) y) x).cut
def zO5 : TyL [qTT, tI, tL3] -> Option (TyL [tI]) := zJ1 14
def zRF : zU := zKN zO5
theorem zTR : Lb zRF [] := zNE 14
def F42 (x0 : Int) (x1 : List Int) (x2 : List Int) (x3 : Int) : Int × Int -> Option (Int × Int ⊕ Int × Int ⊕ Int ⊕ Nat × Int × Int) := (fun (s4 : Int × Int) => zHP.ite (decide (s4.snd < x3)) (zHP.bind (zKE (x0, x1)) fun x5 => zHP.bind (zLW (x5, s4.snd)) fun x6 => zHP.bind (zJ0 x6) fun x7 => zHP.bind (zO5 (x7, 0, x2)) fun x8 => zHP.ret (Sum.inl (IntKind.i64.wrap (s4.fst + x8), IntKind.i64.wrap (s4.snd + 1)))) (zHP.ret (Sum.inr (Sum.inl (s4.fst, s4.snd)))))
def G42 (x0 : Int) (x1 : List Int) (x2 : List Int) : zHP (TyL [tI]) := zHP.bind (zK3 (x0, x1)) fun x3 => zHP.bind (qJ (F42 x0 x1 x2 x3) (0, 0)) fun x4 => zHP.sum x4 (fun s5 => zHP.bind (qAE IntKind.i64 s5.fst x3) fun x6 => zHP.ret x6) fun (s5 : Int ⊕ Nat × Int × Int) => zHP.sum s5 (fun s6 => zHP.ret s6) fun (s6 : Nat × Int × Int) => zHP.fail
def H42 (x : TyL [tI, tL3, tL3]) := (G42 x.1 x.2.1 x.2.2).run
def U42 : zU := ent 17 H42 :: zRF
theorem L42 : Lb U42 [] := zTR.aE 17 zH4 ⟨[], [(0, ⟨[8, 9], [], [], [], [], [], []⟩)], [], []⟩ Tryz.f17 H42 Tryz.func17
def F5 (x1 : List Int) : Int × Int -> Option (Int × Int ⊕ Int × Int ⊕ Bool ⊕ Nat × Int × Int) := (fun (s14 : Int × Int) => zHP.ite (decide (s14.snd < (x1.length : Int))) (zHP.bind (idx x1.length s14.snd) fun x15 => zHP.bind x1[x15]? fun x16 => zHP.ret (Sum.inl (IntKind.i64.wrap (s14.fst + bif decide ((bif decide (0 < x16) then x16 else 0) < 1) then bif decide (0 < x16) then x16 else 0 else 1), IntKind.i64.wrap (s14.snd + 1)))) (zHP.ret (Sum.inr (Sum.inl (s14.fst, s14.snd)))))
def T5 (x3 : List Int × Int) (x4 x5 : Int × Int) (x8 x11 x13 : Int) (a : List Int) (b c : Int) : zHP (TyL [.bool]) := zHP.bind (H33 (x3.fst, x3.snd, a, x8)) fun x => zHP.ite (yD x true) (zHP.bind (H43 (x4.fst, x4.snd, b, x11)) fun x => zHP.ite (yD x true) (zHP.bind (H43 (x5.fst, x5.snd, c, x13)) fun x => zHP.ite (yD x true) (zHP.ret true) (zHP.ret false)) (zHP.ret false)) (zHP.ret false)
def B5 (x0 : Int × List Int) (x1 : List Int) (x2 : Int) (x3 : List Int × Int) (x4 x5 : Int × Int) (x8 x11 x13 : Int) : zHP (TyL [.bool]) := zHP.ite (x8 == 0) (zHP.bind (H40 (x0.fst, x0.snd, x1)) fun x16 => zHP.ite (x11 == 0) (zHP.bind (H41 (x0.fst, x0.snd, x2)) fun x17 => zHP.ite (x13 == 0) (zHP.bind (H42 (x0.fst, x0.snd, x1)) fun x18 => T5 x3 x4 x5 x8 x11 x13 x16 x17 x18) (T5 x3 x4 x5 x8 x11 x13 x16 x17 0)) (zHP.ite (x13 == 0) (zHP.bind (H42 (x0.fst, x0.snd, x1)) fun x17 => T5 x3 x4 x5 x8 x11 x13 x16 0 x17) (T5 x3 x4 x5 x8 x11 x13 x16 0 0))) (zHP.ite (x11 == 0) (zHP.bind (H41 (x0.fst, x0.snd, x2)) fun x16 => zHP.ite (x13 == 0) (zHP.bind (H42 (x0.fst, x0.snd, x1)) fun x17 => T5 x3 x4 x5 x8 x11 x13 [] x16 x17) (T5 x3 x4 x5 x8 x11 x13 [] x16 0)) (zHP.ite (x13 == 0) (zHP.bind (H42 (x0.fst, x0.snd, x1)) fun x16 => T5 x3 x4 x5 x8 x11 x13 [] 0 x16) (T5 x3 x4 x5 x8 x11 x13 [] 0 0)))
def G5 (x0 : Int × List Int) (x1 : List Int) (x2 : Int) : zHP (TyL [.bool]) := zHP.ite (yD (!decide ((x0.snd.length : Int) <= 27)) false) (zHP.ite (decide (30 < (x1.length : Int))) (zHP.ret true) (zHP.bind (H34 (x0.fst, x0.snd, x1)) fun x3 => zHP.bind (H35 (x0.fst, x0.snd, x2)) fun x4 => zHP.bind (H36 (x0.fst, x0.snd, x1)) fun x5 => zHP.bind (H20 (x0.fst, x0.snd)) fun x6 => zHP.bind (H22 (x0.fst, x1)) fun x7 => zHP.bind (H37 [x6, x7]) fun x8 => zHP.bind (H38 (x2, 1, 8)) fun x9 => zHP.bind (H30 (x9, 3)) fun x10 => zHP.bind (H37 [x6, x10]) fun x11 => zHP.bind (H39 (x0.fst, x1)) fun x12 => zHP.bind (H37 [x6, x12]) fun x13 => zHP.bind (qJ (F5 x1) (0, 0)) fun x14 => zHP.sum x14 (fun s15 => zHP.ite (yD (x13 == 0) true) (zHP.ite (yD (decide (8 < x0.fst)) true) (zHP.ite (decide (3 < s15.fst)) (zHP.ret true) (B5 x0 x1 x2 x3 x4 x5 x8 x11 x13)) (B5 x0 x1 x2 x3 x4 x5 x8 x11 x13)) (B5 x0 x1 x2 x3 x4 x5 x8 x11 x13)) fun (s15 : Bool ⊕ Nat × Int × Int) => zHP.sum s15 (fun s16 => zHP.ret s16) fun (s16 : Nat × Int × Int) => zHP.fail)) (zHP.ret true)
def H5 (x : TyL [zG7, tL3, tI]) := (G5 x.1 x.2.1 x.2.2).run
def U5 : zU := ent 3 H5 :: U42
theorem L5 : Lb U5 [] := L42.aE 3 zH4 ⟨[], [(0, ⟨[19, 83], [], [], [], [], [], []⟩)], [], []⟩ Tryz.f3 H5 Tryz.func3
end
end Go.Proofs.YtpegkendiefkaaaGreatDoor
namespace Go.Proofs.YtpegkendiefkaaaGreatDoor
open Go Go.Idl Go.Sv Go.Proofs
variable {L : List (List Int × Int)} {a b k n v : Int} {l : List Int}
theorem kK {S σ τ : Type} {F : S -> Option (S ⊕ τ)} (E : Nat -> σ -> S) (I : Nat -> σ -> Prop) (dn : σ -> τ) {n : Nat}
 (hs : ∀ k s, k < n -> I k s -> ∃ s', F (E k s) = some (.inl (E (k + 1) s')) ∧ I (k + 1) s') (he : ∀ s, I n s -> F (E n s) = some (.inr (dn s))) : ∀ (m k : Nat) (s : σ), k + m = n -> I k s -> ∃ s', qJ F (E k s) = some (dn s') ∧ I n s'
 | 0, k, s, h, hI => by
   have : k = n := by omega
   subst this;exact ⟨s, by rw [qO, he s hI], hI⟩
 | m + 1, k, s, h, hI => by
   obtain ⟨s', h1, h2⟩ := hs k s (by omega) hI;obtain ⟨s2, h3, h4⟩ := kK E I dn hs he m (k + 1) s' (by omega) h2;exact ⟨s2, by rw [qO, h1]; exact h3, h4⟩
def eqM (a b : Int) : Prop := a % 18446744073709551616 = b % 18446744073709551616
theorem eqM.refl (a : Int) : eqM a a := rfl
theorem eqM.trans {a b c : Int} (h : eqM a b) (g : eqM b c) : eqM a c := Eq.trans h g
theorem eqM.symm {a b : Int} (h : eqM a b) : eqM b a := Eq.symm h
theorem eqM.add {c d : Int} (h : eqM a b) (g : eqM c d) : eqM (a + c) (b + d) := by
 unfold eqM at *;rw [Int.add_emod, h, g, <- Int.add_emod]
theorem eqM.mul (h : eqM a b) (c : Int) : eqM (a * c) (b * c) := by
 unfold eqM at *;rw [Int.mul_emod, h, <- Int.mul_emod]
theorem qGJ (a : Int) : eqM (IntKind.i64.wrap a) a := qRF a
theorem qZX (h : eqM a b) : IntKind.i64.wrap a = IntKind.i64.wrap b := qZG h
theorem zCF (a : Int) : IntKind.i64.wrap (IntKind.i64.wrap a) = IntKind.i64.wrap a := qZX (qGJ a)
theorem q07 (L : List (List Int × Int)) (l : List Int) (v : Int) (r : List Int) : j5 (L ++ [(l, v)]) r = j5 L r + v * wW false r l := by
 unfold j5;rw [zUR, zWL];simp
theorem qP8 {r l : List Int} {n v : Int} : ∀ {L : List (List Int × Int)} {i : Nat}, L[i]? = some (l, n) -> j5 (L.set i (l, v)) r = j5 L r - n * wW false r l + v * wW false r l
 | [], i, h => by simp at h
 | p :: L, 0, h => by
   simp only [zUL, zT5] at h;subst h;show v * wW false r l + j5 L r = (n * wW false r l + j5 L r) - n * wW false r l + v * wW false r l;omega
 | p :: L, i + 1, h => by
   have ih := qP8 (r := r) (v := v) (L := L) (i := i) (by simpa using h);show p.2 * wW false r p.1 + j5 (L.set i (l, v)) r = (p.2 * wW false r p.1 + j5 L r) - n * wW false r l + v * wW false r l;rw [ih];omega
theorem q06 {i : Nat} (h : zH6 L) (hn : L[i]? = some (l, n)) (hv : IntKind.i64.wrap v = v) : zH6 (L.set i (l, v)) := by
 have hm : (l, n) ∈ L := zUP hn;refine ⟨fun p hp => ?_, fun p hp => ?_, fun p hp => ?_, ?_⟩
 ·rcases zVH hp with q | rfl
  ·exact h.len p q
  ·exact h.len (l, n) hm
 ·rcases zVH hp with q | rfl
  ·exact h.ran p q
  ·exact h.ran (l, n) hm
 ·rcases zVH hp with q | rfl
  ·exact h.val p q
  ·exact hv
 ·have : (L.set i (l, v)).map (·.1) = L.map (·.1) := by
   apply zUX;intro j;rw [zT9, zT9, zUM];by_cases hij : i = j
   ·subst hij;rw [if_pos rfl, hn];simp [(zT2.1 hn).1]
   ·rw [if_neg hij]
  rw [this]; exact h.nod
theorem q1P {L : List (List Int × Int)} {l : List Int} (h : zH6 L) (hl : l.length = 8) (hr : ∀ x ∈ l, 0 <= x ∧ x <= 1000) (hv : IntKind.i64.wrap v = v) (hno : ∀ p ∈ L, p.1 ≠ l) : zH6 (L ++ [(l, v)]) := by
 have two : ∀ {p : List Int × Int}, p ∈ L ++ [(l, v)] -> p ∈ L ∨ p = (l, v) := fun {p} hp => by
  rcases zUQ.1 hp with q | q
  ·exact .inl q
  ·exact .inr (zVC.1 q)
 refine ⟨fun p hp => ?_, fun p hp => ?_, fun p hp => ?_, ?_⟩
 ·rcases two hp with q | rfl
  ·exact h.len p q
  ·exact hl
 ·rcases two hp with q | rfl
  ·exact h.ran p q
  ·exact hr
 ·rcases two hp with q | rfl
  ·exact h.val p q
  ·exact hv
 ·rw [zUR, zYT];refine ⟨h.nod, by simp, fun x hx y hy e => ?_⟩;obtain ⟨p, hp, rfl⟩ := zUN.1 hx;have : y = l := by simpa using hy
  exact hno p hp (e.trans this)
def qCO (l : List Int) : Int × Int × Int × Int × Int × Int × Int × Int := (l.getD 0 0, l.getD 1 0, l.getD 2 0, l.getD 3 0, l.getD 4 0, l.getD 5 0, l.getD 6 0, l.getD 7 0)
noncomputable def zJ6 (x5 : Int) (l : List Int) (n : Int) : Int × List (Value × Value) -> Option (Int × List (Value × Value) ⊕ (Int × List (Value × Value) ⊕ Int ⊕ Nat × Int × List (Value × Value))) := (fun (s10 : Int × List (Value × Value)) => zHP.ite (decide (s10.fst < 8)) (zHP.bind (idx 8 s10.fst) fun (x11 : Nat) => zHP.bind l[0 + x11 * 1]? fun (x12 : Int) => zHP.ite (decide (x5 <= x12)) (zHP.bind (idx 8 s10.fst) fun (x13 : Nat) => zHP.bind l[0 + x13 * 1]? fun (x14 : Int) => zHP.bind (idx 8 s10.fst) fun (x15 : Nat) => zHP.bind (qT0 (0 + x15 * 1) (IntKind.i64.wrap (x14 - x5)) l) fun (x16 : List Int) => zHP.bind (q7Z Tryz.prog 81 (aG x16) s10.snd) fun (x17 : Bool) => zHP.ite x17 (zHP.bind (q5K Tryz.prog 81 (Ty.int IntKind.i64) (aG x16) s10.snd) fun (x18 : Int) => zHP.bind (qZ9 Tryz.prog 81 (Ty.int IntKind.i64) (aG x16) (Value.int IntKind.i64 0) s10.snd) fun (x19 : List (Value × Value) × Nat × Int) => zHP.bind (q47 (↑x19.snd.fst : Int) (Value.int IntKind.i64 (IntKind.i64.wrap (x18 + n))) x19.fst) fun (x20 : List (Value × Value)) => zHP.ret (Sum.inl (IntKind.i64.wrap (s10.fst + 1), x20))) (zHP.bind (qZ9 Tryz.prog 81 (Ty.int IntKind.i64) (aG x16) (Value.int IntKind.i64 0) s10.snd) fun (x18 : List (Value × Value) × Nat × Int) => zHP.bind (q47 (↑x18.snd.fst : Int) (Value.int IntKind.i64 (IntKind.i64.wrap (0 + n))) x18.fst) fun (x19 : List (Value × Value)) => zHP.ret (Sum.inl (IntKind.i64.wrap (s10.fst + 1), x19)))) (zHP.ret (Sum.inl (IntKind.i64.wrap (s10.fst + 1), s10.snd)))) (zHP.ret (Sum.inr (Sum.inl (s10.fst, s10.snd)))))
theorem IJ (hl : l.length = 8) : zMK k (qCO l, n) = zJ6 k l n := by
 match l, hl with
 | [a0, a1, a2, a3, a4, a5, a6, a7], _ => rfl
def wK (k : Int) (r l : List Int) (c : Nat) : Int := ((List.range c).map fun i => if k <= l.getD i 0 then wW false r (l.set i (l.getD i 0 - k)) else 0).sum
theorem qV1 (k : Int) (r l : List Int) (c : Nat) : wK k r l (c + 1) = wK k r l c + (if k <= l.getD c 0 then wW false r (l.set c (l.getD c 0 - k)) else 0) := by
 unfold wK;rw [zWB, zUR, zWL];simp
theorem zCS {c : Nat} (h : c < 8) : idx 8 (c : Int) = some c := qR h
theorem q1M {l : List Int} (hk : 1 <= k) (hl : l.length = 8) (hr : ∀ x ∈ l, 0 <= x ∧ x <= 1000) {L0 : List (List Int × Int)} (hG : zH6 L0) :
 ∃ L1, qJ (zMK k (qCO l, n)) (0, yI L0) = some (.inl (8, yI L1)) ∧ zH6 L1 ∧ ∀ r, eqM (j5 L1 r) (j5 L0 r + n * wW false (k :: r) l) := by
 rw [IJ hl];have hl2 : l.length = 8 := hl
 refine Exists.elim (kK (τ := Int × List (Value × Value) ⊕ Int ⊕ Nat × Int × List (Value × Value)) (F := zJ6 k l n) (fun (c : Nat) (es : List (Value × Value)) => ((c : Int), es)) (fun c es => ∃ L, es = yI L ∧ zH6 L ∧ ∀ r, eqM (j5 L r) (j5 L0 r + n * wK k r l c)) (fun es => Sum.inl (8, es)) (n := 8) (fun c es hc hI => ?step) (fun es hI => ?fin) 8 0 (yI L0) (by omega) ⟨L0, rfl, hG, fun r => by
  have : wK k r l 0 = 0 := rfl
  rw [this, Int.mul_zero, zXW]; exact .refl _⟩) (fun es' hh => ?main)
 case main =>
  obtain ⟨h1, L1, rfl, h3, h4⟩ := hh;refine ⟨L1, h1, h3, fun r => ?_⟩
  have : wW false (k :: r) l = wK k r l 8 := by
   show ((List.range l.length).map _).sum = _;rw [hl2]; rfl
  rw [this]; exact h4 r
 case fin =>
  have h8 : decide (((8 : Nat) : Int) < 8) = false := rfl;unfold zJ6;simp only [h8, qC];rfl
 case step =>
  obtain ⟨L, rfl, hGL, hS⟩ := hI;have hc8 : decide ((c : Int) < 8) = true := decide_eq_true (by omega);have hcl : c < l.length := by omega
  have hx : l[0 + c * 1]? = some (l.getD c 0) := by
   rw [show 0 + c * 1 = c by omega, zT1 hcl];simp [List.getD, hcl]
  have hw1 : IntKind.i64.wrap ((c : Int) + 1) = ((c + 1 : Nat) : Int) := yK (by omega);have hm := hr _ (qGD hcl);by_cases hkl : k <= l.getD c 0
  ·have hwk : IntKind.i64.wrap (l.getD c 0 - k) = l.getD c 0 - k := wrap_i64 (by omega) (by omega)
   have hset : qT0 (0 + c * 1) (l.getD c 0 - k) l = some (l.set c (l.getD c 0 - k)) := by
    unfold qT0;rw [show 0 + c * 1 = c by omega, if_pos hcl]
   generalize hl' : l.set c (l.getD c 0 - k) = l' at hset;have zK5 : l'.length = 8 := by rw [<- hl', zUY, hl2]
   have hr' : ∀ x ∈ l', 0 <= x ∧ x <= 1000 := fun x hx => by
    rw [<- hl'] at hx;rcases zVH hx with q | rfl
    ·exact hr x q
    ·omega
   have zTS : ∀ r, wK k r l (c + 1) = wK k r l c + wW false r l' := fun r => by rw [qV1, if_pos hkl, hl']
   have hlen := hGL.len
   have fin : ∀ {L1 : List (List Int × Int)}, zH6 L1 -> (∀ r, eqM (j5 L1 r) (j5 L r + n * wW false r l')) -> zJ6 k l n ((c : Int), yI L) = some (.inl (((c + 1 : Nat) : Int), yI L1)) -> ∃ s', zJ6 k l n ((c : Int), yI L) = some (.inl (((c + 1 : Nat) : Int), s')) ∧ ∃ L1, s' = yI L1 ∧ zH6 L1 ∧ ∀ r, eqM (j5 L1 r) (j5 L0 r + n * wK k r l (c + 1)) := fun {L1} g1 g2 g3 => ⟨_, g3, L1, rfl, g1, fun r => by
    refine (g2 r).trans ?_;rw [zTS, Int.mul_add, <- Int.add_assoc]
    exact (hS r).add (.refl _)⟩
   cases hp : pX l' L with
   | some i =>
     obtain ⟨m, hm2⟩ := qLC hp;refine fin (L1 := L.set i (l', IntKind.i64.wrap (m + n))) (q06 hGL hm2 (zCF _)) (fun r => ?_) ?_
     ·rw [qP8 hm2];have h1 := (qGJ (m + n)).mul (wW false r l');rw [Int.add_mul] at h1;have h2 := (eqM.refl (j5 L r - m * wW false r l')).add h1;refine h2.trans ?_;rw [show j5 L r - m * wW false r l' + (m * wW false r l' + n * wW false r l') = j5 L r + n * wW false r l' by omega];exact .refl _
     ·unfold zJ6;simp only [hc8, qG, zCS hc, qA, hx, decide_eq_true hkl, hwk, hset, qAI zK5 hlen, hp, zW6, qQE zK5 hlen hp hm2, zA9 zK5 hlen hp hm2, qRQ _ hm2, hw1];rfl
   | none =>
     have hno := qKR hp;have hget : (L ++ [(l', (0 : Int))])[L.length]? = some (l', 0) := by simp
     have zRG : ∀ v, (L ++ [(l', (0 : Int))]).set L.length (l', v) = L ++ [(l', v)] := fun v => by simp
     refine fin (L1 := L ++ [(l', IntKind.i64.wrap (0 + n))]) (q1P hGL zK5 hr' (zCF _) hno) (fun r => ?_) ?_
     ·rw [q07, Int.zero_add];exact (eqM.refl _).add ((qGJ n).mul _)
     ·unfold zJ6;simp only [hc8, qG, zCS hc, qA, hx, decide_eq_true hkl, hwk, hset, qAI zK5 hlen, hp, zXT, qC, zBJ zK5 hlen hp, qRQ _ hget, zRG, hw1];rfl
  ·refine ⟨yI L, ?_, L, rfl, hGL, fun r => ?_⟩
   ·unfold zJ6;simp only [hc8, qG, zCS hc, qA, hx, decide_eq_false hkl, qC, hw1];rfl
   ·rw [qV1, if_neg hkl, zXW]; exact hS r
end Go.Proofs.YtpegkendiefkaaaGreatDoor
set_option maxRecDepth 10000
namespace Go.Proofs.YtpegkendiefkaaaGreatDoor
open Go Go.Idl Go.Sv Go.Proofs
variable {L : List (List Int × Int)} {i : Nat} {k : Int} {l x0 : List Int} {p : List Int × Int}
theorem zE3 (l : List Int) (n : Int) : (Ty.ofV ((Ty.int IntKind.i64).pair ((Ty.int IntKind.i64).pair ((Ty.int IntKind.i64).pair ((Ty.int IntKind.i64).pair ((Ty.int IntKind.i64).pair ((Ty.int IntKind.i64).pair ((Ty.int IntKind.i64).pair (Ty.int IntKind.i64)))))))) (aG l)) = some (qCO l) := by
 have key : ∀ a0 a1 a2 a3 a4 a5 a6 a7 : Int, Ty.ofV ((Ty.int IntKind.i64).pair ((Ty.int IntKind.i64).pair ((Ty.int IntKind.i64).pair ((Ty.int IntKind.i64).pair ((Ty.int IntKind.i64).pair ((Ty.int IntKind.i64).pair ((Ty.int IntKind.i64).pair (Ty.int IntKind.i64)))))))) (Value.agg #[.int .i64 a0, .int .i64 a1, .int .i64 a2, .int .i64 a3, .int .i64 a4, .int .i64 a5, .int .i64 a6, .int .i64 a7]) = some (a0, a1, a2, a3, a4, a5, a6, a7) := fun _ _ _ _ _ _ _ _ => rfl
 exact key _ _ _ _ _ _ _ _
theorem qTL (h : L[i]? = some p) : qI9 ((Ty.int IntKind.i64).pair ((Ty.int IntKind.i64).pair ((Ty.int IntKind.i64).pair ((Ty.int IntKind.i64).pair ((Ty.int IntKind.i64).pair ((Ty.int IntKind.i64).pair ((Ty.int IntKind.i64).pair (Ty.int IntKind.i64)))))))) (.int .i64) i (yI L) = some (qCO p.1, p.2) := by
 unfold qI9;rw [qAW, h, zT7];simp only;rw [zE3 p.1 p.2];rfl
theorem q9Q : (spec Tryz.prog 1000000001 && (spec Tryz.prog 1000000002 && (Nat.beq 4 4 && (Nat.beq 0 0 && true)))) = true := by kernel_rfl
theorem zEQ (i : Nat) : (Nat.add._f Nat.zero PUnit.unit i) = i := rfl
def q49 (k : Int) (L : List (List Int × Int)) (is : List Nat) (r : List Int) : Int := (is.map fun i => match L[i]? with
 | some p => p.2 * wW false (k :: r) p.1
 | none => 0).sum
theorem zAP (hk : 1 <= k) (hL : zH6 L) (hp : L[i]? = some p) {L0 : List (List Int × Int)} (h0 : zH6 L0) :
 ∃ L1, zLN k (yI L) i (alW (yI L0)) = some (alW (yI L1)) ∧ zH6 L1 ∧ ∀ r, eqM (j5 L1 r) (j5 L0 r + p.2 * wW false (k :: r) p.1) := by
 have hm := zUP hp;have one : ∀ {M : List (List Int × Int)}, zH6 M -> ∃ M1, qJ (zMK k (qCO p.1, p.2)) (0, yI M) = some (.inl (8, yI M1)) ∧ zH6 M1 ∧ ∀ r, eqM (j5 M1 r) (j5 M r + p.2 * wW false (k :: r) p.1) := fun g => q1M hk (hL.len p hm) (hL.ran p hm) g
 obtain ⟨L1, h1, h2, h3⟩ := one h0;refine ⟨L1, ?_, h2, h3⟩;unfold zLN;refine dI ⟨([], yI L0), rfl⟩ fun s8 hs => ?_
 obtain ⟨ns, es⟩ := s8;have hs : alW es = alW (yI L0) := hs;rw [fJ h0] at hs;obtain ⟨M, g1, rfl, g3⟩ := qNW hs;obtain ⟨M1, q1, q2, q3⟩ := one g1
 have heq : alW (yI M1) = alW (yI L1) := by
  rw [fJ q2, fJ h2]
  congr 1
  funext r
  have e0 : j5 L0 r % 18446744073709551616 = j5 M r % 18446744073709551616 := congrFun g3 r;exact (q3 r).trans ((eqM.add (eqM.symm e0) (.refl _)).trans (h3 r).symm)
 simp only [Nat.beq_refl, nP, q9Q, qG, zEQ, qTL hp, qA, q1, zW, heq];rfl
theorem qWW {k : Int} (hk : 1 <= k) {L : List (List Int × Int)} (hL : zH6 L) : ∀ (is : List Nat), (∀ i ∈ is, i < L.length) -> ∀ {L0 : List (List Int × Int)}, zH6 L0 ->
 ∃ L1, is.foldlM (fun s i => zLN k (yI L) i s) (alW (yI L0)) = some (alW (yI L1)) ∧ zH6 L1 ∧ ∀ r, eqM (j5 L1 r) (j5 L0 r + q49 k L is r)
 | [], _, L0, h0 => ⟨L0, rfl, h0, fun r => by
   have : q49 k L [] r = 0 := rfl
   rw [this, zXW]; exact .refl _⟩
 | i :: is, hi, L0, h0 => by
   have hlt := hi i zT8;obtain ⟨M, a1, a2, a3⟩ := zAP hk hL (zT1 hlt) h0;obtain ⟨L1, b1, b2, b3⟩ := qWW hk hL is (fun j hj => hi j (zT4 _ hj)) a2;refine ⟨L1, ?_, b2, fun r => ?_⟩
   ·rw [List.foldlM_cons, a1];exact b1
   ·refine (b3 r).trans ?_;refine ((a3 r).add (.refl _)).trans ?_
    have : q49 k L (i :: is) r = (L[i]).2 * wW false (k :: r) (L[i]).1 + q49 k L is r := by
     unfold q49;rw [zUB, zVQ, zT1 hlt]
    rw [this, <- Int.add_assoc];exact .refl _
theorem q2M {m : List Int} (h : l.Perm m) : l.sum = m.sum := by
 induction h with
 | nil => rfl
 | cons x _ ih => simp only [zVQ, ih]
 | swap x y l => simp only [zVQ]; omega
 | trans _ _ i1 i2 => exact i1.trans i2
theorem q8J {r : List Int} : ∀ (L : List (List Int × Int)), q49 k L (List.range L.length) r = j5 L (k :: r) := fun L => by
 unfold q49 j5
 congr 1
 apply zUX;intro i;rw [zT9, zT9];by_cases h : i < L.length
 ·rw [zVZ h, zT1 h];simp [zT1 h]
 ·rw [zUF (by simpa using h), zUF (by simpa using h)]; rfl
theorem qO2 : zH6 [] := ⟨fun p h => by (cases h), fun p h => by (cases h), fun p h => by (cases h), List.nodup_nil⟩
theorem zCE (hk : 1 <= k) (hL : zH6 L) : ∃ L1, wX (yI L).length (zLN k (yI L)) (alW []) = some (alW (yI L1)) ∧ zH6 L1 ∧ ∀ r, eqM (j5 L1 r) (j5 L (k :: r)) := by
 have zTT : ∀ r, j5 [] r = 0 := fun r => rfl
 have pv : ∀ {l : List Nat}, l.Perm (List.range L.length) -> ∀ r, q49 k L l r = j5 L (k :: r) := fun h r => by
  rw [<- q8J];exact q2M (h.map _)
 obtain ⟨L1, a1, a2, a3⟩ := qWW hk hL (List.range L.length) (fun i h => zUW.1 h) qO2;refine ⟨L1, qNT fun l hl => ?_, a2, fun r => ?_⟩
 ·rw [qIF] at hl;obtain ⟨M, b1, b2, b3⟩ := qWW hk hL l (fun i h => zUW.1 (hl.mem_iff.1 h)) qO2;refine (show _ = some (alW (yI M)) from b1).trans ?_;rw [fJ b2, fJ a2]
  congr 2
  funext r
  refine (b3 r).trans (Eq.trans ?_ (a3 r).symm);rw [pv hl, pv (.refl _)]
 ·refine (a3 r).trans ?_;rw [pv (.refl _), zTT, Int.zero_add];exact .refl _
theorem qZH (L : List (List Int × Int)) : ((yI L).all fun (p : Value × Value) => zG p.fst) = true := by
 induction L with
 | nil => rfl
 | cons p L ih =>
   show (zG (aG p.1) && (yI L).all _) = true;rw [qBJ, ih]; rfl
theorem zA5 {x0 : List Int} (hi : i < x0.length) (hb : x0.length < 2 ^ 62) (hk : ∀ k ∈ x0, 1 <= k) (hL : zH6 L) :
 ∃ L1, zKD x0 ((i : Int), alW (yI L)) = some (.inl (((i + 1 : Nat) : Int), alW (yI L1))) ∧ zH6 L1 ∧ ∀ r, eqM (j5 L1 r) (j5 L (x0.getD i 0 :: r)) := by
 have hx : x0[i]? = some (x0.getD i 0) := by simp [List.getD, zT1 hi]
 have hk1 := hk _ (qGD hi);obtain ⟨L1, a1, a2, a3⟩ := zCE hk1 hL;refine ⟨L1, ?_, a2, a3⟩;unfold zKD;refine dI ⟨((i : Int), yI L), rfl⟩ fun s3 hs => ?_
 obtain ⟨j, es⟩ := s3;obtain ⟨hj, hs1⟩ := Prod.mk.inj (show (j, alW es) = ((i : Int), alW (yI L)) from hs);clear hs;have hs := hs1;subst hj;rw [fJ hL] at hs;obtain ⟨M, g1, rfl, g3⟩ := qNW hs;obtain ⟨M1, q1, q2, q3⟩ := zCE hk1 g1
 have heq : alW (yI M1) = alW (yI L1) := by
  rw [fJ q2, fJ a2]
  congr 1
  funext r
  have e0 : j5 L (x0.getD i 0 :: r) % 18446744073709551616 = j5 M (x0.getD i 0 :: r) % 18446744073709551616 := congrFun g3 _;exact (q3 r).trans (Eq.trans e0.symm (a3 r).symm)
 have hlt : (i : Int) < ((x0.length : Nat) : Int) := by omega
 have hal : ∀ {R : Type} (K : AW -> R), aR (fun (s7 : List Nat × List (Value × Value)) => alW s7.snd = alW (yI L1)) (fun s7 => some (K (alW s7.snd))) = some (K (alW (yI L1))) := fun K => dI ⟨([], yI L1), rfl⟩ fun s h => by rw [h]
 simp only [gP hlt, qG, qR hi, qA, hx, Nat.beq_refl, nP, qZH, q1, heq, yK (show i < 2 ^ 62 by omega)];exact congrArg (fun x => (zHP.bind x _ : Option _)) (hal fun a => (Sum.inl (((i + 1 : Nat) : Int), a) : Int × AW ⊕ Int × AW ⊕ Int))
theorem zDD (hL : zH6 L) : zKD x0 ((x0.length : Int), alW (yI L)) = some (.inr (.inl ((x0.length : Int), alW (yI L)))) := by
 unfold zKD;refine dI ⟨((x0.length : Int), yI L), rfl⟩ fun s3 hs => ?_
 obtain ⟨j, es⟩ := s3;obtain ⟨hj, hs1⟩ := Prod.mk.inj (show (j, alW es) = ((x0.length : Int), alW (yI L)) from hs);clear hs;have hs := hs1;subst hj;simp only [fU (zUV _), qC, hs];rfl
theorem zBQ (hL : zH6 L) : (pX (List.replicate 8 0) L = none ∧ j5 L [] = 0) ∨ ∃ i n, pX (List.replicate 8 0) L = some i ∧ L[i]? = some (List.replicate 8 0, n) ∧ j5 L [] = n := by
 have z8 : ∀ {l : List Int}, l.length = 8 -> (leaf false l = 1 ∧ l = List.replicate 8 0) ∨ (leaf false l = 0 ∧ l ≠ List.replicate 8 0) := fun {l} h => by
  by_cases e : l = List.replicate 8 0
  ·subst e; exact .inl ⟨rfl, rfl⟩
  ·refine .inr ⟨?_, e⟩;unfold leaf;rw [if_neg];intro q;simp only [zX8, zT3, decide_eq_true_eq] at q;exact e (List.eq_replicate_iff.2 ⟨h, q⟩)
 have nz : ∀ {M : List (List Int × Int)}, (∀ p ∈ M, p.1.length = 8) -> (∀ p ∈ M, p.1 ≠ List.replicate 8 0) -> j5 M [] = 0 := fun {M} h1 h2 => by
  induction M with
  | nil => rfl
  | cons p M ih =>
    show p.2 * leaf false p.1 + j5 M [] = 0;rw [ih (fun q hq => h1 q (zT4 _ hq)) fun q hq => h2 q (zT4 _ hq)]
    rcases z8 (h1 p zT8) with ⟨a, b⟩ | ⟨a, b⟩
    ·exact absurd b (h2 p zT8)
    ·rw [a]; omega
 have h1 := hL.len;have h2 := hL.nod;clear hL
 induction L with
 | nil => exact .inl ⟨rfl, rfl⟩
 | cons p L ih =>
   have hp := h1 p zT8;rw [zUB, List.nodup_cons] at h2
   rcases z8 hp with ⟨a, b⟩ | ⟨a, b⟩
   ·refine .inr ⟨0, p.2, ?_, by rw [<- b]; rfl, ?_⟩
    ·unfold pX; rw [decide_eq_true b]; rfl
    ·show p.2 * leaf false p.1 + j5 L [] = p.2;rw [a, nz (fun q hq => h1 q (zT4 _ hq)) fun q hq e => h2.1 (zUN.2 ⟨q, hq, e.trans b.symm⟩)];omega
   ·have hs : j5 (p :: L) [] = j5 L [] := by
     show p.2 * leaf false p.1 + j5 L [] = _;rw [a]; omega
    have hpos : pX (List.replicate 8 0) (p :: L) = (pX (List.replicate 8 0) L).map (· + 1) := by
     show cond (decide (p.1 = List.replicate 8 0)) (some 0) ((pX (List.replicate 8 0) L).map (· + 1)) = _;rw [decide_eq_false b]; rfl
    rw [hs, hpos]
    rcases ih (fun q hq => h1 q (zT4 _ hq)) h2.2 with ⟨c, d⟩ | ⟨i, n, c, d, e⟩
    ·exact .inl ⟨by rw [c]; rfl, d⟩
    ·exact .inr ⟨i + 1, n, by rw [c]; rfl, by simpa using d, e⟩
theorem zEN {x0 l : List Int} (hk : ∀ k ∈ x0, 1 <= k) (hb : x0.length < 2 ^ 62) (hl : l.length = 8) (hr : ∀ x ∈ l, 0 <= x ∧ x <= 1000) : zKX (x0, qCO l) = some (IntKind.i64.wrap (wW false x0 l)) := by
 show (zOB x0 (qCO l)).run = _;unfold zOB
 have hG0 : zH6 [(l, 1)] := ⟨fun p h => by rw [zVC.1 h]; exact hl, fun p h => by rw [zVC.1 h]; exact hr, fun p h => by rw [zVC.1 h]; rfl, by simp⟩
 obtain ⟨a', h1, L, rfl, h3, h4⟩ := kK (τ := Int × AW ⊕ Int) (F := zKD x0) (fun (i : Nat) (a : AW) => ((i : Int), a)) (fun i a => ∃ L, a = alW (yI L) ∧ zH6 L ∧ ∀ r, eqM (j5 L r) (wW false (x0.take i ++ r) l)) (fun a => Sum.inl ((x0.length : Int), a)) (n := x0.length) (fun i a hi hI => by
  obtain ⟨L, rfl, g1, g2⟩ := hI;obtain ⟨L1, a1, a2, a3⟩ := zA5 hi hb hk g1;refine ⟨_, a1, L1, rfl, a2, fun r => (a3 r).trans ((g2 _).trans ?_)⟩
  have : x0.take i ++ x0.getD i 0 :: r = x0.take (i + 1) ++ r := by
   have hx : x0.getD i 0 = x0[i] := by simp [List.getD, zT1 hi]
   rw [zWM, zT1 hi, hx, zUZ];rfl
  rw [this]; exact .refl _) (fun a hI => by
  obtain ⟨L, rfl, g1, g2⟩ := hI
  exact zDD g1) x0.length 0 (alW (yI [(l, 1)])) (by omega) ⟨[(l, 1)], rfl, hG0, fun r => by
   show (1 * wW false r l + 0) % _ = wW false r l % _
   rw [Int.one_mul, zXW]⟩
 refine (congrArg (fun x => (zHP.bind x _ : Option _)) (show qJ (zKD x0) (0, alW (yI [(l, 1)])) = _ from h1)).trans ?_;simp only [qA, zW];have h4 := h4 [];rw [zU8, zVL] at h4
 have hfin : aR (fun (s4 : Int × List (Value × Value)) => (s4.fst, alW s4.snd) = ((x0.length : Int), alW (yI L))) (fun s4 => zML s4.snd) = some (IntKind.i64.wrap (wW false x0 l)) := by
  refine dI ⟨((x0.length : Int), yI L), rfl⟩ fun s4 hs => ?_
  obtain ⟨j, es⟩ := s4;obtain ⟨hj, hs1⟩ := Prod.mk.inj (show (j, alW es) = ((x0.length : Int), alW (yI L)) from hs);clear hs;rw [fJ h3] at hs1;obtain ⟨M, g1, rfl, g3⟩ := qNW hs1;have g4 : j5 L [] % 18446744073709551616 = j5 M [] % 18446744073709551616 := congrFun g3 []
  have hz : ∀ {n : Int}, j5 M [] = n -> IntKind.i64.wrap (wW false x0 l) = IntKind.i64.wrap n := fun e => by
   subst e;exact qZX (h4.symm.trans g4)
  have k0 : aG [] = aG (List.replicate 8 0) := rfl;have hl8 : (List.replicate 8 (0 : Int)).length = 8 := rfl
  rcases zBQ g1 with ⟨c1, c2⟩ | ⟨i, n, c1, c2, c3⟩
  ·simp only [zML, k0, qAI hl8 g1.len, c1, zXT, qA, qC];rw [hz c2]; rfl
  ·have hn := g1.val _ (zUP c2);simp only [zML, k0, qAI hl8 g1.len, c1, zW6, qA, qG, qQE hl8 g1.len c1 c2];rw [hz c3];exact congrArg some hn.symm
 exact (congrArg (fun x => (zHP.bind x _ : Option _)) hfin).trans rfl
end Go.Proofs.YtpegkendiefkaaaGreatDoor
namespace Go.Proofs.YtpegkendiefkaaaGreatDoor
open Go.Idl Go.Sv
variable {a b c n : Int} {l w : List Int}
noncomputable def GE {α : Type} (H : α × α -> Option Bool) (x0 x1 : List α) : zHP Bool :=
 zHP.ite ((x0.length : Int) != (x1.length : Int)) (zHP.ret false)
  (zHP.bind
    (qJ
      (fun (s2 : Int) =>
        zHP.ite (decide (s2 < (x0.length : Int)))
         (zHP.bind (idx x0.length s2) fun (x3 : Nat) =>
           zHP.bind x0[x3]? fun (x4 : α) =>
            zHP.bind (idx x1.length s2) fun (x5 : Nat) =>
             zHP.bind x1[x5]? fun (x6 : α) =>
              zHP.bind (H (x4, x6)) fun (x7 : Bool) =>
               zHP.ite (!x7) (zHP.ret (Sum.inr (Sum.inr (Sum.inl false))))
                (zHP.ret (Sum.inl (IntKind.i64.wrap (s2 + 1)))))
         (zHP.ret (Sum.inr (Sum.inl s2))))
      0)
    fun (x2 : Int ⊕ Bool ⊕ Nat × Int) =>
    zHP.sum x2 (fun (s3 : Int) => zHP.ret true) fun (s3 : Bool ⊕ Nat × Int) =>
     zHP.sum s3 (fun (s4 : Bool) => zHP.ret s4) fun (s4 : Nat × Int) => zHP.fail)
theorem zE8 {α : Type} [DecidableEq α] {H : α × α -> Option Bool} {a b : List α} (ha : a.length < 2 ^ 62) (hH : ∀ x ∈ a, ∀ y ∈ b, H (x, y) = some (decide (x = y))) : (GE H a b).run = some (decide (a = b)) := by
 unfold GE;by_cases hl : a.length = b.length
 ·have h0 : ((a.length : Int) != (b.length : Int)) = false := by simp [hl]
  rw [h0, qC];refine wL a.length (fun i => if a[i]? = b[i]? then none else some false) (fun x => Sum.inr (Sum.inl x)) (Sum.inl (a.length : Int)) (fun k hk => ?_) ?_ ?_
  ·obtain ⟨x, hx, mx⟩ := kR hk;obtain ⟨y, hy, my⟩ := kR (show k < b.length by omega);have hk2 : k < b.length := by omega
   have hk3 : (k : Int) < (a.length : Int) := by omega
   simp only [gP hk3, qG, qR hk, qA, hx, qR hk2, hy, hH x mx y my, yK (show k < 2 ^ 62 by omega)];by_cases hxy : x = y
   ·simp [hxy, qC]; rfl
   ·simp [hxy, qG]; rfl
  ·simp only [fU (zUV _), qC];rfl
  ·cases hs : scan (fun i => if a[i]? = b[i]? then none else some false) a.length 0 with
   | none =>
     have hab : a = b := zUX fun i => by
      by_cases hi : i < a.length
      ·have := aU.1 hs i (zVN _) (by omega);by_cases h : a[i]? = b[i]?
       ·exact h
       ·rw [if_neg h] at this; cases this
      ·rw [zUF (by omega), zUF (by omega)]
     simp only [zW, qZ, hab, decide_true]
   | some r =>
     obtain ⟨i, _, _, hi, _⟩ := aS hs
     have hne : a ≠ b := fun e => by
      rw [e] at hi;simp at hi
     have hr : r = false := by
      by_cases h : a[i]? = b[i]?
      ·rw [if_pos h] at hi; cases hi
      ·rw [if_neg h] at hi; cases hi; rfl
     subst hr;simp only [qD7, zW, qZ, hne, decide_false]
 ·have h0 : ((a.length : Int) != (b.length : Int)) = true := by simp; omega
  rw [h0, qG, qZ];have : a ≠ b := fun e => hl (by rw [e])
  simp [this]
theorem zGO {a b : List Int} (ha : a.length < 2 ^ 62) : H52 (a, b) = some (decide (a = b)) := by
 have : H52 (a, b) = (GE (fun p : Int × Int => some (p.1 == p.2)) a b).run := rfl;rw [this]
 exact zE8 ha fun x _ y _ => by
  by_cases h : x = y <;> simp [h]
theorem q82 (x : Int × Int × Int) : H38 x = some (decide (x.1 < x.2.1) || decide (x.2.2 < x.1)) := by
 obtain ⟨n, a, b⟩ := x;show (G38 n a b).run = some (decide (n < a) || decide (b < n));unfold G38;by_cases h : n < a
 ·simp only [h, decide_true]; rfl
 ·simp only [h, decide_false]; rfl
theorem zCA (x : Bool × Int) : H89 x = some (cond x.1 x.2 0) := by
 obtain ⟨b, e⟩ := x;show (G89 b e).run = some (cond b e 0);unfold G89;cases b <;> rfl
theorem zD2 : zMG c = some (decide (0 <= c) && decide (c < 8)) := by
 show (zN5 c).run = _;unfold zN5;by_cases h : 0 <= c
 ·simp only [h, decide_true]; rfl
 ·simp only [h, decide_false]; rfl
theorem zE4 : zMH c = some (!(decide (0 <= c) && decide (c < 8))) := by
 show (zN6 c).run = _;unfold zN6;rw [zD2, qA, qZ]
def wQ : List Int -> Int
 | [] => 0
 | x :: l => if x ≠ 0 then x else wQ l
theorem qLV (l : List Int) : ∀ (m k : Nat), k + m = l.length -> scan (fun i => if l.getD i 0 ≠ 0 then some (l.getD i 0) else none) m k = if wQ (l.drop k) = 0 then none else some (wQ (l.drop k))
 | 0, k, h => by
   rw [List.drop_eq_nil_of_le (by omega)];rfl
 | m + 1, k, h => by
   have hk : k < l.length := by omega
   rw [zVG hk];unfold scan;have e : l.getD k 0 = l[k] := by simp [List.getD, hk]
   rw [e];by_cases hx : l[k] = 0
   ·simp only [hx, ne_eq, not_true, if_false];rw [qLV l m (k + 1) (by omega)];simp [wQ, hx]
   ·simp only [ne_eq, hx, not_false_iff, if_true];simp [wQ, hx]
theorem zFJ (hl : l.length < 2 ^ 62) : H37 l = some (wQ l) := by
 show (G37 l).run = _;unfold G37;refine wL l.length (fun i => if l.getD i 0 ≠ 0 then some (l.getD i 0) else none) (fun x => Sum.inr (Sum.inl x)) (Sum.inl (l.length : Int)) (fun k hk => ?_) ?_ ?_
 ·obtain ⟨x, hx, mx⟩ := kR hk;have hk3 : (k : Int) < (l.length : Int) := by omega
  have hd : l.getD k 0 = x := by simp [List.getD, hx]
  simp only [gP hk3, qG, qR hk, qA, hx, hd, yK (show k < 2 ^ 62 by omega)];by_cases h0 : x = 0
  ·simp [h0, qC]; rfl
  ·have : (x != 0) = true := by simpa using h0
   rw [this, qG];simp [h0]; rfl
 ·simp only [fU (zUV _), qC];rfl
 ·rw [qLV l l.length 0 (by omega), zVU];by_cases h : wQ l = 0
  ·simp only [h, if_true, zW, qZ]
  ·simp only [h, if_false, qD7, zW, qZ]
theorem q3L (hl : l.length < 2 ^ 62) : H87 l = some (wQ l) := (show H87 l = H37 l from rfl).trans (zFJ hl)
def qCT (r : List Int) : Bool := r.all fun c => decide (0 <= c) && decide (c < 8)
theorem q2X (r : List Int) {ρ : Type} (v : Nat -> ρ) : (scan (fun i => if (decide (0 <= r.getD i 0) && decide (r.getD i 0 < 8)) = true then none else some (v i)) r.length 0).isSome = !qCT r := by
 cases hs : scan (fun i => if (decide (0 <= r.getD i 0) && decide (r.getD i 0 < 8)) = true then none else some (v i)) r.length 0 with
 | none =>
   have : qCT r = true := by
    unfold qCT;rw [zT3];intro c hc;obtain ⟨i, hi, rfl⟩ := List.getElem_of_mem hc;have := aU.1 hs i (zVN _) (by omega);have e : r.getD i 0 = r[i] := by simp [List.getD, hi]
    rw [e] at this;by_cases h : (decide (0 <= r[i]) && decide (r[i] < 8)) = true
    ·exact h
    ·rw [if_neg h] at this; cases this
   rw [this]; rfl
 | some x =>
   obtain ⟨i, _, hi, hf, _⟩ := aS hs;have hi : i < r.length := by omega
   have e : r.getD i 0 = r[i] := by simp [List.getD, hi]
   have : qCT r = false := by
    cases hc : qCT r with
    | false => rfl
    | true =>
      unfold qCT at hc;have := zT3.1 hc r[i] (zV3 hi);rw [e, if_pos this] at hf;cases hf
   rw [this]; rfl
theorem zHD {r : List Int} (hr : r.length < 2 ^ 62) : H90 r = some (!qCT r) := by
 show (G90 r).run = _;unfold G90;refine wL r.length (fun i => if (decide (0 <= r.getD i 0) && decide (r.getD i 0 < 8)) = true then none else some (i : Int)) (fun x => Sum.inr (Sum.inl x)) (Sum.inl (r.length : Int)) (fun k hk => ?_) ?_ ?_
 ·obtain ⟨x, hx, mx⟩ := kR hk;have hk3 : (k : Int) < (r.length : Int) := by omega
  have hd : r.getD k 0 = x := by simp [List.getD, hx]
  simp only [gP hk3, qG, qR hk, qA, hx, hd, zE4, yK (show k < 2 ^ 62 by omega)];cases (decide (0 <= x) && decide (x < 8)) <;> rfl
 ·simp only [fU (zUV _), qC];rfl
 ·have := q2X r (fun i => (i : Int))
  cases hs : scan (fun i => if (decide (0 <= r.getD i 0) && decide (r.getD i 0 < 8)) = true then none else some (i : Int)) r.length 0 with
  | none =>
    rw [hs] at this;have hc : qCT r = true := by simpa using this.symm
    simp only [zW, qZ, hc];rfl
  | some v =>
    rw [hs] at this;have hc : qCT r = false := by simpa using this.symm
    obtain ⟨i, _, hi, hf, _⟩ := aS hs
    have hv : 0 <= v := by
     by_cases h : (decide (0 <= r.getD i 0) && decide (r.getD i 0 < 8)) = true
     ·rw [if_pos h] at hf; cases hf
     ·rw [if_neg h] at hf; cases hf; omega
    simp only [qD7, zW, qZ, hc, hv, decide_true];rfl
theorem getD_at {α : Type} {l : List α} {k : Nat} {x d : α} (h : l[k]? = some x) : l.getD k d = x := by simp [List.getD, h]
theorem bP (b : Bool) : yD b false = !b := by cases b <;> rfl
theorem vK (b : Bool) : yD b true = b := by cases b <;> rfl
theorem qGY {α ρ : Type} (q : α -> Bool) (d : α) (l : List α) (v : Nat -> ρ) : (∃ i, scan (fun i => if q (l.getD i d) = true then none else some (v i)) l.length 0 = some (v i) ∧ l.all q = false) ∨ (scan (fun i => if q (l.getD i d) = true then none else some (v i)) l.length 0 = none ∧ l.all q = true) := by
 cases hs : scan (fun i => if q (l.getD i d) = true then none else some (v i)) l.length 0 with
 | none =>
   refine .inr ⟨rfl, zT3.2 fun c hc => ?_⟩;obtain ⟨i, hi, rfl⟩ := List.getElem_of_mem hc;have := aU.1 hs i (zVN _) (by omega);have e : l.getD i d = l[i] := by simp [List.getD, hi]
   rw [e] at this
   cases h : q l[i] with
   | true => rfl
   | false => rw [h] at this; simp at this
 | some x =>
   obtain ⟨i, _, hi, hf, _⟩ := aS hs;have hi : i < l.length := by omega
   have e : l.getD i d = l[i] := by simp [List.getD, hi]
   rw [e] at hf
   cases h : q l[i] with
   | true => rw [h] at hf; simp at hf
   | false =>
     rw [h] at hf;simp at hf;refine .inl ⟨i, by rw [hf], ?_⟩
     cases ha : l.all q with
     | false => rfl
     | true => rw [zT3.1 ha _ (zV3 hi)] at h; cases h
def qAV (n a b : Int) : Bool := decide (n < a) || decide (b < n)
theorem q03 : zKA (n, a, b) = some (cond (qAV n a b) 3 0) := by
 show (zN1 n a b).run = _;unfold zN1 qAV;rw [bP]
 cases decide (n < a) with
 | true => rfl
 | false =>
   show (zHP.bind (H89 (decide (b < n), 3)) _).run = _;rw [zCA, qA, qZ];rfl
theorem zDX : H88 n = some (cond (qAV n 2 12) 3 0) := by
 show (G88 n).run = _;unfold G88;rw [q03, qA, qZ]
def q1A (n c : Int) : Bool := !(c == 0) && (!decide (c <= IntKind.i64.wrap (0 - n)) && !decide (n <= c))
def bY (n : Int) (w : List Int) : Int := cond (qAV n 2 12) 3 (if w.length = 0 then 12 else if 24 < w.length then 5 else cond (w.all (q1A n)) 0 3)
theorem zD6 {α : Type} (w : List α) : ((w.length : Int) == 0) = decide (w.length = 0) := by
 by_cases h : w.length = 0
 ·simp [h]
 ·have : ((w.length : Int) == 0) = false := by simpa using h
  rw [this, decide_eq_false h]
theorem q6B {α : Type} (w : List α) : decide ((24 : Int) < (w.length : Int)) = decide (24 < w.length) := by
 by_cases h : 24 < w.length
 ·rw [decide_eq_true h, decide_eq_true (by omega)]
 ·rw [decide_eq_false h, decide_eq_false (by omega)]
theorem zA0 (hw : w.length < 2 ^ 62) : H19 (n, w) = some (bY n w) := by
 show (G19 n w).run = _;unfold G19 bY;refine wL w.length (fun i => if q1A n (w.getD i 0) = true then none else some (i : Int)) (fun x => Sum.inr (Sum.inl x)) (Sum.inl (w.length : Int)) (fun k hk => ?_) ?_ ?_
 ·obtain ⟨x, hx, mx⟩ := kR hk;have hk3 : (k : Int) < (w.length : Int) := by omega
  simp only [gP hk3, qG, qR hk, qA, hx, getD_at hx, bP, yK (show k < 2 ^ 62 by omega), q1A];cases (x == 0) <;> cases decide (x <= IntKind.i64.wrap (0 - n)) <;> cases decide (n <= x) <;> rfl
 ·simp only [fU (zUV _), qC];rfl
 ·rcases qGY (q1A n) 0 w (fun i => (i : Int)) with ⟨i, h1, h2⟩ | ⟨h1, h2⟩
  ·have hi : decide ((0 : Int) <= (i : Int)) = true := decide_eq_true (by omega);simp only [h1, h2, qD7, zW, zDX, zCA, qA, hi, zD6, q6B, q3L (show [_, _, _, _].length < 2 ^ 62 by simp), qZ, cond_true, cond_false];cases qAV n 2 12
   ·by_cases a : w.length = 0
    ·simp [a, wQ]
    ·by_cases b : 24 < w.length <;> simp [a, b, wQ]
   ·simp [wQ]
  ·simp only [h1, h2, qD7, zW, zDX, zCA, qA, zD6, q6B, q3L (show [_, _, _, _].length < 2 ^ 62 by simp), qZ, cond_true, cond_false];cases qAV n 2 12
   ·by_cases a : w.length = 0
    ·simp [a, wQ]
    ·by_cases b : 24 < w.length <;> simp [a, b, wQ]
   ·simp [wQ]
theorem qPA (h1 : 2 <= n) (h2 : n <= 12) : IntKind.i64.wrap (0 - n) = 0 - n := uV (by omega) (by omega)
theorem qUR (h : qAV n 2 12 = false) : 2 <= n ∧ n <= 12 := by
 unfold qAV at h;rw [Bool.or_eq_false_iff, decide_eq_false_iff_not, decide_eq_false_iff_not] at h;omega
theorem zF9 : H20 (n, w) = some (bY n w) := by
 show (G20 n w).run = _;unfold G20 bY;rw [q82, qA];show (zHP.ite (qAV n 2 12) _ _).run = _
 cases ho : qAV n 2 12 with
 | true => rfl
 | false =>
   obtain ⟨hn1, hn2⟩ := qUR ho;rw [qC, zD6, q6B];by_cases a : w.length = 0
   ·simp only [a, decide_true, qG, qZ, if_true, cond_false]
   ·by_cases b : 24 < w.length
    ·simp only [a, b, decide_true, decide_false, qG, qC, qZ, if_true, if_false, cond_false]
    ·simp only [a, b, decide_false, qC, if_false, cond_false];refine wL w.length (fun i => if q1A n (w.getD i 0) = true then none else some (3 : Int)) (fun x => Sum.inr (Sum.inl x)) (Sum.inl (w.length : Int)) (fun k hk => ?_) ?_ ?_
     ·obtain ⟨x, hx, mx⟩ := kR hk;have hk3 : (k : Int) < (w.length : Int) := by omega
      have e1 : IntKind.i64.wrap (1 - n) = 1 - n := uV (by omega) (by omega);have e2 : IntKind.i64.wrap (n - 1) = n - 1 := uV (by omega) (by omega)
      have e3 : (decide (x < 1 - n) || decide (n - 1 < x)) = !(!decide (x <= IntKind.i64.wrap (0 - n)) && !decide (n <= x)) := by
       rw [qPA hn1 hn2];have q1 : decide (x < 1 - n) = decide (x <= 0 - n) := by by_cases h : x < 1 - n <;> simp [h] <;> omega
       have q2 : decide (n - 1 < x) = decide (n <= x) := by by_cases h : n - 1 < x <;> simp [h] <;> omega
       rw [q1, q2];cases decide (x <= 0 - n) <;> cases decide (n <= x) <;> rfl
      simp only [gP hk3, qG, qR hk, qA, hx, getD_at hx, bP, q82, e1, e2, e3, yK (show k < 2 ^ 62 by omega), q1A];cases (x == 0) <;> cases (!decide (x <= IntKind.i64.wrap (0 - n)) && !decide (n <= x)) <;> rfl
     ·simp only [fU (zUV _), qC];rfl
     ·rcases qGY (q1A n) 0 w (fun _ => (3 : Int)) with ⟨i, h1, h2⟩ | ⟨h1, h2⟩
      ·simp only [h1, h2, qD7, zW, qZ, cond_false]
      ·simp only [h1, h2, qD7, zW, qZ, cond_true]
def qTF (n : Int) (c : List Int) : Int := cond (qAV n 2 12) 3 (cond ((c.length : Int) != n) 2 (cond (qCT c) 0 3))
theorem zGK {c : List Int} (hc : c.length < 2 ^ 62) : H21 (n, c) = some (qTF n c) := by
 show (G21 n c).run = _;unfold G21 qTF;simp only [zDX, zCA, zHD hc, qA, q3L (show [_, _, _].length < 2 ^ 62 by simp), qZ];cases qAV n 2 12 <;> cases ((c.length : Int) != n) <;> cases qCT c <;> rfl
theorem zHJ {c : List Int} : H22 (n, c) = some (qTF n c) := by
 show (G22 n c).run = _;unfold G22 qTF;rw [q82, qA];show (zHP.ite (qAV n 2 12) _ _).run = _
 cases ho : qAV n 2 12 with
 | true => rfl
 | false =>
   obtain ⟨hn1, hn2⟩ := qUR ho;rw [qC]
   cases hl : ((c.length : Int) != n) with
   | true => rfl
   | false =>
     rw [qC];have hl : (c.length : Int) = n := by simpa using hl
     refine wL c.length (fun i => if (decide (0 <= c.getD i 0) && decide (c.getD i 0 < 8)) = true then none else some (3 : Int)) (fun x => Sum.inr (Sum.inl x)) (Sum.inl (c.length : Int)) (fun k hk => ?_) ?_ ?_
     ·obtain ⟨x, hx, mx⟩ := kR hk;have hk3 : (k : Int) < n := by omega
      have e3 : (decide (x < 0) || decide (7 < x)) = !(decide (0 <= x) && decide (x < 8)) := by
       by_cases h : 0 <= x
       ·have : ¬ x < 0 := by omega
        by_cases h2 : x < 8
        ·have : ¬ 7 < x := by omega
         simp [*]
        ·have : 7 < x := by omega
         simp [*]
       ·have : x < 0 := by omega
        simp [*]
      simp only [gP hk3, qG, qR hk, qA, hx, getD_at hx, q82, e3, yK (show k < 2 ^ 62 by omega)];cases (decide (0 <= x) && decide (x < 8)) <;> rfl
     ·simp only [fU (show ¬ (c.length : Int) < n by omega), qC];rfl
     ·rcases qGY (fun z => decide (0 <= z) && decide (z < 8)) 0 c (fun _ => (3 : Int)) with ⟨i, h1, h2⟩ | ⟨h1, h2⟩
      ·have h2 : qCT c = false := h2;simp only [h1, h2, qD7, zW, qZ, cond_false]
      ·have h2 : qCT c = true := h2;simp only [h1, h2, qD7, zW, qZ, cond_true, cond_false]
theorem zBD {c : List Int} (hw : w.length < 2 ^ 62) (hc : c.length < 2 ^ 62) : zMI (n, w, c) = some (wQ [bY n w, qTF n c]) := by
 show (zN7 n w c).run = _;unfold zN7;rw [zA0 hw, qA, zGK hc, qA, q3L (by simp), qA, qZ]
theorem zGE {e : Int} : H43 (a, e, b, c) = some (e == c && a == b) := by
 show (G43 a e b c).run = _;unfold G43;rw [vK];cases e == c <;> rfl
end Go.Proofs.YtpegkendiefkaaaGreatDoor
namespace Go.Proofs.YtpegkendiefkaaaGreatDoor
open Go.Idl Go.Sv
variable {k m n : Nat} {l w : List Int}
theorem rd (h : k < l.length) : l[k]? = some (l.getD k 0) := by
 rw [zT1 h];simp [List.getD, h]
theorem q5L {α : Type} {a : List α} {x : α} (h : a.length < 1048576) : (a.length + [x].length).ble 1048576 = true := zUG (by simp; omega)
structure Let (c : Int) (m : Nat) : Prop where
 one : 1 <= m
 abs : c.natAbs = m
 pos : 0 < c -> c = (m : Int) ∧ q6A c = m - 1
 neg : c < 0 -> IntKind.i64.wrap (0 - c) = (m : Int) ∧ q6A c = m
theorem q4W {c : Int} (hn : n <= 1000) (h : c ≠ 0 ∧ c.natAbs < n) : Let c c.natAbs := by
 refine ⟨by omega, rfl, fun hc => ⟨by omega, ?_⟩, fun hc => ⟨?_, ?_⟩⟩
 ·unfold q6A; rw [if_pos hc]; omega
 ·rw [uV (by omega) (by omega)]; omega
 ·unfold q6A; rw [if_neg (by omega)]; omega
theorem q21 (h1 : 1 <= m) (h : m <= 1000) : IntKind.i64.wrap ((m : Int) - 1) = ((m - 1 : Nat) : Int) := by
 rw [uV (by omega) (by omega)]; omega
theorem zB2 (h : m <= 1000) : IntKind.i64.wrap ((m : Int) + 0) = (m : Int) := by
 rw [uV (by omega) (by omega)]; omega
theorem zFE (h1 : 1 <= m) (h : m <= 1000) : IntKind.i64.wrap (((m - 1 : Nat) : Int) + 1) = (m : Int) := by
 rw [uV (by omega) (by omega)]; omega
theorem gI {x : Int} (h : w[k]? = some x) : w.take (k + 1) = w.take k ++ [x] := by
 rw [zWM, h];rfl
theorem qH8 (h1 : 1 <= m) (h : m < l.length) : (l.set (m - 1) (l.getD m 0))[m]? = some (l.getD m 0) := by
 rw [zXJ (by omega), rd h]
theorem qE7 (k : Nat) : qW k ++ [(k : Int)] = qW (k + 1) := (qBQ k).symm
theorem zC2 (hn : n <= 1000) (hw : okW n w) (hl : w.length <= 1000) : H92 ((n : Int), w) = some (rA w (qW n)) := by
 show (G92 n w).run = _;unfold G92;refine kG n (fun (k : Nat) (s : List Int) => ((k : Int), ([] : List Int), s)) (fun k s => s = qW k) (fun k s => s ++ [(k : Int)]) (fun s => Sum.inl ((n : Int), [], s)) [] rfl rfl (fun k s hk hs => ?_) (fun s hs => ?_) (fun hI => ?_)
 ·subst hs;have hk3 : (k : Int) < (n : Int) := by omega
  simp only [gP hk3, qG, q5L (show (qW k).length < 1048576 by rw [y9]; omega), yK (show k < 2 ^ 62 by omega), qE7];exact ⟨rfl, trivial⟩
 ·simp only [fU (zUV _), qC];rfl
 ·rw [hI];simp only [zW];refine kG w.length (fun (k : Nat) (s : List Int × List Int) => ((k : Int), s.1, s.2)) (fun k s => s = rA (w.take k) (qW n)) (fun k s => rA (w.take (k + 1)) (qW n)) (fun s => Sum.inl ((w.length : Int), s.1, s.2)) ([], qW n) rfl rfl (fun k s hk hs => ?_) (fun s hs => ?_) (fun hI => ?_)
  ·obtain ⟨c, hc, mc⟩ := kR hk;have hk3 : (k : Int) < (w.length : Int) := by omega
   have hlc := q4W hn (hw c mc);have hm := (hw c mc).2;generalize c.natAbs = m at hlc hm;have hsl := qAR (w.take k) (qW n);rw [y9, zU1] at hsl
   have hx : rA (w.take (k + 1)) (qW n) = (s.1 ++ [s.2.getD (q6A c) 0], oN s.2 m) := by
    rw [gI hc, qBS, hlc.abs, hs]
   rw [<- hs] at hsl;have h1 := hlc.one;have hb : s.1.length < 1048576 := by omega
   have q1 : m < s.2.length := by omega
   have q2 : m - 1 < s.2.length := by omega
   have q3 : m < (s.2.set (m - 1) (s.2.getD m 0)).length := by simp; omega
   refine ⟨?_, rfl⟩;rw [hx];by_cases h0 : c < 0
   ·obtain ⟨e1, e2⟩ := hlc.neg h0;simp only [gP hk3, qG, qR hk, qA, hc, gP h0, e1, q21 h1 (show m <= 1000 by omega), zFE h1 (show m <= 1000 by omega), qR q1, rd q1, q5L hb, qR q2, rd q2, qH8 h1 q1, yK (show k < 2 ^ 62 by omega), e2];rfl
   ·obtain ⟨e1, e2⟩ := hlc.pos (by have := (hw c mc).1; omega);subst e1;simp only [gP hk3, qG, qR hk, qA, hc, fU h0, qC, q21 h1 (show m <= 1000 by omega), zB2 (show m - 1 <= 1000 by omega), qR q1, rd q1, q5L hb, qR q2, rd q2, qH8 h1 q1, yK (show k < 2 ^ 62 by omega), e2];rfl
  ·simp only [fU (zUV _), qC];rfl
  ·rw [hI, zU8];simp only [zW, qZ]
end Go.Proofs.YtpegkendiefkaaaGreatDoor
namespace Go.Proofs.YtpegkendiefkaaaGreatDoor
open Go.Idl Go.Sv
variable {a : List Int} {k n : Nat} {z : Int}
theorem q2U (h : n <= 65536) : mkN (n : Int) = some n := by
 unfold mkN;rw [if_pos ⟨by omega, by omega⟩, zV9]
theorem qGV {v : Int} (ha : a.length = k) (hk : k < n) : (a ++ List.replicate (n - k) 0).set k v = (a ++ [v]) ++ List.replicate (n - (k + 1)) 0 := by
 have e : n - k = (n - (k + 1)) + 1 := by omega
 rw [zYC _ _ (by omega), e, zVM, ha, zXD, List.set_cons_zero];simp
theorem q0R (ha : a.length = k) (hk : k <= n) : (a ++ List.replicate (n - k) 0).length = n := by simp; omega
theorem qX3 {f c : List Int} (h : f[k]? = some z) : aM (f.take (k + 1)) c = aM (f.take k) c ++ [c.getD z.toNat 0] := by
 rw [gI h]; simp [aM]
theorem qWN {l : List Int} (h : inR n l) (hz : l[k]? = some z) : ∃ y : Nat, z = (y : Int) ∧ y < n := by
 obtain ⟨h1, h2⟩ := h z (zUP hz);exact ⟨z.toNat, by omega, by omega⟩
theorem zDV {p : List Int} (hp : inR p.length p) (hl : p.length <= 1000) : zLO p = some (fI p (qW p.length) p.length p.length) := by
 show (zOC p).run = _;unfold zOC;rw [q2U (by omega), qA];refine kG p.length (fun (k : Nat) (s : List Int) => ((k : Int), s)) (fun k s => s = fI p (qW p.length) p.length k) (fun k s => fI p (qW p.length) p.length (k + 1)) (fun s => Sum.inl ((p.length : Int), s)) (List.replicate p.length 0) rfl rfl (fun k s hk hs => ?_) (fun s hs => ?_) (fun hI => ?_)
 ·refine ⟨?_, rfl⟩;obtain ⟨c, hc, mc⟩ := kR hk;obtain ⟨y, rfl, hy⟩ := qWN hp hc;have hk3 : (k : Int) < (p.length : Int) := by omega
  have hsl : s.length = p.length := by rw [hs, gM]
  have q1 : y < s.length := by omega
  have e : fI p (qW p.length) p.length (k + 1) = s.set y (k : Int) := by
   rw [fI, <- hs, getD_at hc, qBG hk, zV9]
  rw [e];simp only [gP hk3, qG, qR hk, qA, hc, qR q1, rd q1, yK (show k < 2 ^ 62 by omega)];rfl
 ·simp only [fU (zUV _), qC];rfl
 ·rw [hI];simp only [zW, qZ]
theorem qXI {w : List Int} (hn : n <= 1000) (hw : okW n w) (hl : w.length <= 1000) : zKE ((n : Int), w) = some (xK n w) := by
 show (zOD n w).run = _;unfold zOD;refine kG n (fun (k : Nat) (s : List Int) => ((k : Int), s)) (fun k s => s = qW k) (fun k s => s ++ [(k : Int)]) (fun s => Sum.inl ((n : Int), s)) [] rfl rfl (fun k s hk hs => ?_) (fun s hs => ?_) (fun hI => ?_)
 ·subst hs;have hk3 : (k : Int) < (n : Int) := by omega
  simp only [gP hk3, qG, q5L (show (qW k).length < 1048576 by rw [y9]; omega), yK (show k < 2 ^ 62 by omega), qE7];exact ⟨rfl, trivial⟩
 ·simp only [fU (zUV _), qC];rfl
 ·rw [hI];simp only [zW];refine kG w.length (fun (k : Nat) (s : List Int) => ((k : Int), s)) (fun k s => s = (rA (w.take k) (qW n)).2) (fun k s => (rA (w.take (k + 1)) (qW n)).2) (fun s => Sum.inl ((w.length : Int), s)) (qW n) rfl rfl (fun k s hk hs => ?_) (fun s hs => ?_) (fun hI => ?_)
  ·obtain ⟨c, hc, mc⟩ := kR hk;have hk3 : (k : Int) < (w.length : Int) := by omega
   have hlc := q4W hn (hw c mc);have hm := (hw c mc).2;generalize c.natAbs = m at hlc hm;have hsl := (qAR (w.take k) (qW n)).2;rw [y9] at hsl
   have hx : (rA (w.take (k + 1)) (qW n)).2 = oN s m := by
    rw [gI hc, qBS, hlc.abs, hs]
   rw [<- hs] at hsl;have h1 := hlc.one;have q1 : m < s.length := by omega
   have q2 : m - 1 < s.length := by omega
   have q3 : m < (s.set (m - 1) (s.getD m 0)).length := by simp; omega
   refine ⟨?_, rfl⟩;rw [hx];by_cases h0 : c < 0
   ·obtain ⟨e1, e2⟩ := hlc.neg h0;simp only [gP hk3, qG, qR hk, qA, hc, gP h0, e1, q21 h1 (show m <= 1000 by omega), qR q1, rd q1, qR q2, rd q2, qH8 h1 q1, yK (show k < 2 ^ 62 by omega)];rfl
   ·obtain ⟨e1, e2⟩ := hlc.pos (by have := (hw c mc).1; omega);subst e1;simp only [gP hk3, qG, qR hk, qA, hc, fU h0, qC, q21 h1 (show m <= 1000 by omega), qR q1, rd q1, qR q2, rd q2, qH8 h1 q1, yK (show k < 2 ^ 62 by omega)];rfl
  ·simp only [fU (zUV _), qC];rfl
  ·rw [hI, zU8];have hf := yM hw;have he := zDV (p := zK n w) (by rw [hf.len]; exact hf.ran) (by rw [hf.len]; exact hn);rw [hf.len] at he;have he : zLO (rA w (qW n)).2 = some (xK n w) := he;simp only [zW, he, qA, qZ]
end Go.Proofs.YtpegkendiefkaaaGreatDoor
namespace Go.Proofs.YtpegkendiefkaaaGreatDoor
open Go.Idl Go.Sv
section
variable {α : Type} [DecidableEq α]
end
end Go.Proofs.YtpegkendiefkaaaGreatDoor
namespace Go.Proofs.YtpegkendiefkaaaGreatDoor
open Go.Idl Go.Sv
variable {a b : Nat}
theorem qXC (hb : b ≠ 0) : qP1 (a : Int) (b : Int) = some ((a % b : Nat) : Int) := by
 unfold qP1;rw [if_neg (by omega), <- Int.ofNat_tmod]
theorem q3P (hb : b ≠ 0) (ha : a < 2 ^ 62) : qAE .i64 (a : Int) (b : Int) = some ((a / b : Nat) : Int) := by
 unfold qAE;rw [if_neg (by omega), <- Int.ofNat_tdiv];have := zWC a b;generalize a / b = q at this ⊢;rw [uV (by omega) (by omega)]
noncomputable def zLX (s2 : Int × Int) : Option (Int × Int ⊕ (Int × Int ⊕ Int ⊕ Nat × Int × Int)) := zHP.ite (s2.snd != 0) (zHP.bind (qP1 s2.fst s2.snd) fun (x3 : Int) => zHP.ret (Sum.inl (s2.snd, x3))) (zHP.ret (Sum.inr (Sum.inl (s2.fst, s2.snd))))
theorem q8H : ∀ (y x : Nat), qJ zLX ((x : Int), (y : Int)) = some (Sum.inl (((Nat.gcd x y : Nat) : Int), 0)) := by
 intro y
 induction y using Nat.strongRecOn with
 | _ y ih =>
   intro x;rw [qO];by_cases hy : y = 0
   ·subst hy;have e : zLX ((x : Int), ((0 : Nat) : Int)) = some (Sum.inr (Sum.inl ((x : Int), 0))) := rfl;rw [e, zYQ]
   ·have hb : ((y : Int) != 0) = true := by simp; omega
    have e : zLX ((x : Int), (y : Int)) = some (Sum.inl ((y : Int), ((x % y : Nat) : Int))) := by
     unfold zLX;simp only [hb, qG, qXC hy, qA];rfl
    rw [e];simp only;rw [ih (x % y) (zV7 _ (by omega)) y]
    congr 3
    rw [zXX x y, Nat.gcd_rec y x, zXX]
theorem zDH (ha : 1 <= a) (hb : 1 <= b) (h1 : a < 2 ^ 30) (h2 : b < 2 ^ 30) : zMF ((a : Int), (b : Int)) = some ((Nat.lcm a b : Nat) : Int) := by
 show (zN3 a b).run = _;unfold zN3;have hl := q8H b a;have hg : 0 < Nat.gcd a b := Nat.gcd_pos_of_pos_left b (by omega);have h3 : a / Nat.gcd a b <= a := zWC _ _;have h4 : a / Nat.gcd a b * b <= a * b := zVB _ h3
 have h5 : a * b < 2 ^ 60 := by
  have := Nat.mul_lt_mul'' h1 h2;have e : (2 : Nat) ^ 30 * 2 ^ 30 = 2 ^ 60 := by decide
  omega
 have hw : IntKind.i64.wrap (((a / Nat.gcd a b : Nat) : Int) * (b : Int)) = ((Nat.lcm a b : Nat) : Int) := by
  have e : Nat.lcm a b = a / Nat.gcd a b * b := by
   unfold Nat.lcm;rw [zXV a b, Nat.mul_div_assoc _ (Nat.gcd_dvd_left a b), zXV]
  rw [e, <- zXN, uV (by omega) (by omega)]
 show (zHP.bind (qJ zLX ((a : Int), (b : Int))) _ : zHP Int).run = _;rw [hl, qA];simp only [zW, q3P (show Nat.gcd a b ≠ 0 by omega) (show a < 2 ^ 62 by omega), qA, hw, qZ]
noncomputable def zLY (fs : List Int) (p : Nat) (s4 : Int × Int) : Option (Int × Int ⊕ (Int × Int ⊕ Int ⊕ Nat × Int × Int)) := zHP.ite (s4.snd != (p : Int)) (zHP.bind (idx fs.length s4.snd) fun (x5 : Nat) => zHP.bind fs[x5]? fun (x6 : Int) => zHP.ret (Sum.inl (IntKind.i64.wrap (s4.fst + 1), x6))) (zHP.ret (Sum.inr (Sum.inl (s4.fst, s4.snd))))
theorem zAF {n : Nat} {ss fs : List Int} {p : Nat} (hf : zH0 n fs) (hp : p < n) (hn : n <= 1000) : zLL ((ss, fs), (p : Int)) = some ((cyc fs n p : Nat) : Int) := by
 show (zN4 (ss, fs) p).run = _;unfold zN4;obtain ⟨c1, c2, c3, c4⟩ := zC hf hp;obtain ⟨g1, g2⟩ := jU hf hp;have hl : p < fs.length := by rw [hf.len]; exact hp
 simp only [qR hl, qA, g1]
 have key : ∀ (m t : Nat), 1 <= t -> t + m = cyc fs n p -> qJ (zLY fs p) ((t : Int), ((itp fs t p : Nat) : Int)) = some (Sum.inl (((cyc fs n p : Nat) : Int), (p : Int))) := by
  intro m
  induction m with
  | zero =>
    intro t ht h;have : t = cyc fs n p := by omega
    subst this;rw [qO, c1];have e : ((p : Int) != (p : Int)) = false := by simp
    unfold zLY;simp only [e, qC];rfl
  | succ m ih =>
    intro t ht h;have hne := c4 t ht (by omega);have hlt := xL hf t hp;have e : (((itp fs t p : Nat) : Int) != (p : Int)) = true := by simp; omega
    have q1 : itp fs t p < fs.length := by rw [hf.len]; exact hlt
    have := ih (t + 1) (by omega) (by omega);rw [jX] at this;rw [qO]
    have e2 : zLY fs p ((t : Int), ((itp fs t p : Nat) : Int)) = some (Sum.inl (((t + 1 : Nat) : Int), ((phi fs (itp fs t p) : Nat) : Int))) := by
     unfold zLY;simp only [e, qG, qR q1, qA, (jU hf hlt).1, yK (show t < 2 ^ 62 by omega)];rfl
    rw [e2];exact this
 have hk := key (cyc fs n p - 1) 1 (zT0 _) (by omega);have e0 : ((1 : Nat) : Int) = 1 := rfl;rw [e0] at hk;have e1 : itp fs 1 p = phi fs p := rfl;rw [e1] at hk;show (zHP.bind (qJ (zLY fs p) (1, ((phi fs p : Nat) : Int))) _ : zHP Int).run = _;rw [hk, qA];simp only [zW, qZ]
end Go.Proofs.YtpegkendiefkaaaGreatDoor
namespace Go.Proofs.YtpegkendiefkaaaGreatDoor
open Go.Idl Go.Sv
structure Ord (n : Nat) (w : List Int) (h : Nat) : Prop where
 n2 : 2 <= n
 n12 : n <= 12
 ok : okW n w
 l1 : 1 <= w.length
 l24 : w.length <= 24
 ord : zK3 ((n : Int), w) = some (h : Int)
 h1 : 1 <= h
 h2 : h <= 10000
 fix : ∀ i, i < n -> itp (zK n w) h i = i
variable {k n : Nat} {l : List UInt8}
def tx (l : List UInt8) : ByteArray := ⟨l.toArray⟩
theorem zP (l : List UInt8) : (tx l).size = l.length := rfl
theorem qDD (a b : List UInt8) : tx a ++ tx b = tx (a ++ b) := by
 apply ByteArray.ext;rw [ByteArray.data_append];simp [tx]
theorem dW (l : List UInt8) (a b : Nat) : (tx l).extract a b = tx ((l.take b).drop a) := by
 apply ByteArray.ext;rw [ByteArray.data_extract];apply zVA;simp [tx, zYN]
theorem zB1 (l : List UInt8) (a : Nat) : (tx l).extract a (tx l).size = tx (l.drop a) := by
 rw [dW, zP, zU8]
theorem q8Q {i : Nat} {c : UInt8} (h : l[i]? = some c) : qDY (tx l) (i : Int) = some (c.toNat : Int) := by
 unfold qDY;rw [if_pos (by omega), zV9];obtain ⟨h1, h2⟩ := zT2.1 h;have h3 : i < (tx l).size := h1;rw [getElem?_pos (tx l) i h3, ByteArray.getElem_eq_getElem_data, zT7];rw [<- h2];rfl
def dig (k : Nat) : UInt8 := UInt8.ofNat (48 + k)
theorem mM (h : k < 10) : (dig k).toNat = 48 + k := by
 unfold dig;rw [UInt8.toNat_ofNat'];omega
def zHZ (n : Nat) : List UInt8 := if h : n < 10 then [dig n] else zHZ (n / 10) ++ [dig (n % 10)]
termination_by n
decreasing_by omega
theorem aB (h : n < 10) : zHZ n = [dig n] := by rw [zHZ, dif_pos h]
theorem rQ (h : ¬ n < 10) : zHZ n = zHZ (n / 10) ++ [dig (n % 10)] := by rw [zHZ, dif_neg h]
def isD (l : List UInt8) : Prop := ∀ c ∈ l, ∃ k, k < 10 ∧ c = dig k
theorem nH (n : Nat) : isD (zHZ n) := by
 induction n using Nat.strongRecOn with
 | _ n ih =>
   by_cases h : n < 10
   ·rw [aB h];intro c hc;exact ⟨n, h, by simpa using hc⟩
   ·rw [rQ h];intro c hc;rcases zUQ.1 hc with hc | hc
    ·exact ih (n / 10) (by omega) c hc
    ·exact ⟨n % 10, by omega, by simpa using hc⟩
theorem qF4 (n : Nat) : 0 < (zHZ n).length := by
 by_cases h : n < 10
 ·rw [aB h]; simp
 ·rw [rQ h]; simp
theorem o9 : ∀ (k n : Nat), n < 10 ^ (k + 1) -> (zHZ n).length <= k + 1
 | 0, n, h => by rw [aB (by simpa using h)]; simp
 | k + 1, n, h => by
   by_cases h1 : n < 10
   ·rw [aB h1]; simp
   ·rw [rQ h1, zUK];have := o9 k (n / 10) (by rw [Nat.pow_succ] at h; omega);simp; omega
theorem kH (h : n < 1000000000) : (zHZ n).length <= 9 := o9 8 n (by simpa using h)
def qTW (l : List UInt8) : Nat := l.foldl (fun a c => 10 * a + (c.toNat - 48)) 0
theorem qCF (l : List UInt8) (c : UInt8) : qTW (l ++ [c]) = 10 * qTW l + (c.toNat - 48) := by
 unfold qTW; rw [zYS]; rfl
theorem q0Q (n : Nat) : qTW (zHZ n) = n := by
 induction n using Nat.strongRecOn with
 | _ n ih =>
   by_cases h : n < 10
   ·rw [aB h];show 10 * 0 + ((dig n).toNat - 48) = n;rw [mM h]; omega
   ·rw [rQ h, qCF, ih (n / 10) (by omega), mM (by omega)];omega
theorem qJR {l : List UInt8} (h : isD l) : ∀ k, qTW (l.take k) < 10 ^ k
 | 0 => by simp [qTW]
 | k + 1 => by
   have ih := qJR h k
   cases hk : l[k]? with
   | none =>
     have : l.take (k + 1) = l.take k := by rw [zWM, hk]; simp
     rw [this, Nat.pow_succ]; omega
   | some c =>
     have e : l.take (k + 1) = l.take k ++ [c] := by rw [zWM, hk]; rfl
     obtain ⟨d, hd, rfl⟩ := h c (zUP hk);rw [e, qCF, mM hd, Nat.pow_succ];omega
theorem q8C (h : k <= 18) : (10 : Nat) ^ k <= 1000000000000000000 := by
 have := zXK (n := 10) (by omega) h;simpa using this
theorem zDB (hd : isD l) (hl : l.length <= 18) : zI0 (tx l) = some ((qTW l : Nat) : Int) := by
 show (zOG (tx l)).run = _;unfold zOG;refine kG l.length (fun (k : Nat) (s : Int) => (s, (k : Int))) (fun k s => s = ((qTW (l.take k) : Nat) : Int)) (fun k s => ((qTW (l.take (k + 1)) : Nat) : Int)) (fun s => Sum.inl (s, (l.length : Int))) 0 rfl rfl (fun k s hk hs => ?_) (fun s hs => ?_) (fun hI => ?_)
 ·refine ⟨?_, rfl⟩;obtain ⟨c, hc, mc⟩ := kR hk;obtain ⟨d, zRH, rfl⟩ := hd c mc;have hk3 : (k : Int) < ((tx l).size : Int) := by rw [zP]; omega
  have hv := qJR hd k;have hp := q8C (show k + 1 <= 18 by omega);rw [Nat.pow_succ] at hp
  have e : qTW (l.take (k + 1)) = 10 * qTW (l.take k) + d := by
   have : l.take (k + 1) = l.take k ++ [dig d] := by rw [zWM, hc]; rfl
   rw [this, qCF, mM zRH]; omega
  generalize qTW (l.take k) = v at hs hv e;rw [e, hs];have w1 : IntKind.i64.wrap (10 * (v : Int)) = ((10 * v : Nat) : Int) := by rw [uV (by omega) (by omega)]; omega
  have w2 : IntKind.i64.wrap ((48 + d : Nat) : Int) = ((48 + d : Nat) : Int) := uV (by omega) (by omega);have w3 : IntKind.i64.wrap (((10 * v : Nat) : Int) + ((48 + d : Nat) : Int)) = ((10 * v + (48 + d) : Nat) : Int) := by rw [uV (by omega) (by omega)]; omega
  have w4 : IntKind.i64.wrap (((10 * v + (48 + d) : Nat) : Int) - 48) = ((10 * v + d : Nat) : Int) := by rw [uV (by omega) (by omega)]; omega
  simp only [gP hk3, qG, q8Q hc, qA, mM zRH, w1, w2, w3, w4, yK (show k < 2 ^ 62 by omega)];rfl
 ·simp only [fU (show ¬ ((l.length : Int) < ((tx l).size : Int)) by rw [zP]; omega), qC];rfl
 ·rw [hI, zU8];simp only [zW, qZ]
theorem qWV (h : n < 1000000000) : zI0 (tx (zHZ n)) = some (n : Int) := by
 rw [zDB (nH n) (by have := kH h; omega), q0Q]
def noS (l : List UInt8) : Prop := ∀ c ∈ l, c.toNat ≠ 47
theorem qVK (h : isD l) : noS l := fun c hc => by
 obtain ⟨k, hk, rfl⟩ := h c hc;rw [mM hk]; omega
theorem qE8 {ρ : Type} {f : Nat -> Option ρ} {r : ρ} : ∀ (m k i : Nat), k <= i -> i < k + m -> (∀ j, k <= j -> j < i -> f j = none) -> f i = some r -> scan f m k = some r
 | 0, k, i, h1, h2, _, _ => by omega
 | m + 1, k, i, h1, h2, h3, h4 => by
   unfold scan;by_cases e : k = i
   ·subst e; rw [h4]
   ·rw [h3 k (zT0 _) (by omega)];exact qE8 m (k + 1) i (by omega) (by omega) (fun j a b => h3 j (by omega) b) h4
theorem zBS {a b : List UInt8} (hl : l.length < 2 ^ 62) (ha : noS a) (h : l = a ∧ b = [] ∨ l = a ++ 47 :: b) : zJJ (tx l) = some (a.length : Int) := by
 show (zOE (tx l)).run = _;unfold zOE;refine wL l.length (fun i => if (l.getD i 0).toNat = 47 then some (i : Int) else none) (fun x => Sum.inr (Sum.inl x)) (Sum.inl (l.length : Int)) (fun k hk => ?_) ?_ ?_
 ·obtain ⟨c, hc, mc⟩ := kR hk;have hk3 : (k : Int) < ((tx l).size : Int) := by rw [zP]; omega
  have hg : l.getD k 0 = c := by simp [List.getD, hc]
  simp only [gP hk3, qG, q8Q hc, qA, hg, yK (show k < 2 ^ 62 by omega)];by_cases h47 : c.toNat = 47
  ·have : ((c.toNat : Int) == 47) = true := by simp [h47]
   rw [this, if_pos h47]; rfl
  ·have : ((c.toNat : Int) == 47) = false := by simp; omega
   rw [this, if_neg h47]; rfl
 ·simp only [fU (show ¬ ((l.length : Int) < ((tx l).size : Int)) by rw [zP]; omega), qC];rfl
 ·rcases h with ⟨rfl, _⟩ | rfl
  ·rw [aU.2 fun i _ hi => by
    obtain ⟨c, hc, mc⟩ := kR (show i < l.length by omega);have hg : l.getD i 0 = c := by simp [List.getD, hc]
    rw [hg, if_neg (ha c mc)]]
   simp only [zW, qZ, zP]
  ·rw [qE8 (r := (a.length : Int)) _ 0 a.length (zVN _) (by simp) (fun j _ hj => by
    obtain ⟨c, hc, mc⟩ := kR hj;have hg : (a ++ 47 :: b).getD j 0 = c := by simp [List.getD, zU7 hj, hc]
    rw [hg, if_neg (ha c mc)]) (by
    have hg : (a ++ 47 :: b).getD a.length 0 = 47 := by simp [List.getD]
    rw [hg]; rfl)]
   simp only [qD7, zW, qZ]
end Go.Proofs.YtpegkendiefkaaaGreatDoor
namespace Go.Proofs.YtpegkendiefkaaaGreatDoor
open Go.Idl Go.Sv
variable {l r : List Int} {m n : Nat} {s : List UInt8} {x1 : Int}
theorem qAQ {R S τ : Type} {F : S -> Option (S ⊕ τ)} {K : τ -> zHP R} {v : Option R} {s : S} {t : τ} (h : F s = some (.inr t)) (hv : (K t).run = v) : (zHP.bind (qJ F s) K).run = v := by
 rw [qO, h];exact hv
theorem zBX : ∀ d : Nat, d < 10 -> (⟨#[48, 49, 50, 51, 52, 53, 54, 55, 56, 57]⟩ : ByteArray).extract d (d + 1) = tx [dig d] := by
 intro d hd;have e : (⟨#[48, 49, 50, 51, 52, 53, 54, 55, 56, 57]⟩ : ByteArray) = tx [48, 49, 50, 51, 52, 53, 54, 55, 56, 57] := rfl;rw [e, dW];have h : ∀ d : Fin 10, (([48, 49, 50, 51, 52, 53, 54, 55, 56, 57] : List UInt8).take (d.val + 1)).drop d.val = [dig d.val] := by decide
 rw [h ⟨d, hd⟩]
theorem qW9 (hm : m < 2 ^ 62) (hs : s.length <= 1000) (h : 1 <= m ∨ (s.length : Int) < x1) : zJ5 x1 ((m : Int), tx s) = some (Sum.inl (((m / 10 : Nat) : Int), tx (dig (m % 10) :: s))) := by
 unfold zJ5;have hd : m % 10 < 10 := zV7 _ (by omega);have e1 : (m : Int).tmod 10 = ((m % 10 : Nat) : Int) := (Int.ofNat_tmod m 10).symm;have e2 : (m : Int).tdiv 10 = ((m / 10 : Nat) : Int) := (Int.ofNat_tdiv m 10).symm;have e3 : (⟨#[48, 49, 50, 51, 52, 53, 54, 55, 56, 57]⟩ : ByteArray).size = 10 := rfl;have e4 : IntKind.i64.wrap (((m % 10 : Nat) : Int) + 1) = ((m % 10 + 1 : Nat) : Int) := yK (by omega);have e5 : eB 10 ((m % 10 + 1 : Nat) : Int) = some (m % 10 + 1) := qC2 (by omega);have e6 : eB (m % 10 + 1) ((m % 10 : Nat) : Int) = some (m % 10) := qC2 (by omega);have e7 : ((tx [dig (m % 10)]).size + (tx s).size).ble 9223372036854775807 = true := zUG (by rw [zP, zP]; simp; omega);have e8 : IntKind.i64.wrap ((m / 10 : Nat) : Int) = ((m / 10 : Nat) : Int) := uV (by omega) (by omega);have e9 : tx [dig (m % 10)] ++ tx s = tx (dig (m % 10) :: s) := qDD _ _;simp only [e1, e2, e3, e4, e5, e6, qA, zBX _ hd, e7, qG, e8, e9, bP];by_cases h1 : 1 <= m
 ·have : decide ((0 : Int) < (m : Int)) = true := decide_eq_true (by omega);rw [this]; rfl
 ·have h2 : decide ((0 : Int) < (m : Int)) = false := decide_eq_false (by omega)
  have h3 : (((tx s).size : Nat) : Int) < x1 := by
   rw [zP];rcases h with h | h
   ·omega
   ·exact h
  rw [h2, decide_eq_true h3];rfl
theorem q5T (h : x1 <= (s.length : Int)) : zJ5 x1 (0, tx s) = some (Sum.inr (Sum.inl (0, tx s))) := by
 unfold zJ5;have h3 : ¬ (((tx s).size : Nat) : Int) < x1 := by rw [zP]; omega
 have h2 : decide ((0 : Int) < (0 : Int)) = false := rfl;simp only [h2, bP, zVV, qG, fU h3, qC];rfl
theorem q6K (hx : x1 <= 1) : ∀ (m : Nat) (s : List UInt8), 1 <= m -> m < 2 ^ 62 -> s.length + (zHZ m).length <= 1000 -> qJ (zJ5 x1) ((m : Int), tx s) = some (Sum.inl (0, tx (zHZ m ++ s))) := by
 intro m
 induction m using Nat.strongRecOn with
 | _ m ih =>
   intro s h1 h2 h3;have hp := qF4 m;rw [qO, qW9 h2 (by omega) (.inl h1)];simp only;by_cases h : m < 10
   ·have e0 : m / 10 = 0 := by omega
    have e1 : m % 10 = m := by omega
    rw [e0, e1, qO, show ((0 : Nat) : Int) = 0 from rfl, q5T (by simp; omega), aB h];rfl
   ·have hl : (zHZ m).length = (zHZ (m / 10)).length + 1 := by rw [rQ h]; simp
    rw [ih (m / 10) (by omega) (dig (m % 10) :: s) (by omega) (by omega) (by simp; omega), rQ h, zUZ];rfl
theorem q8N (h : m < 1000000000000000000) : zI8 ((m : Int), 1) = some (tx (zHZ m)) := by
 show (zOL m 1).run = _;have hl : (zHZ m).length <= 18 := o9 17 m (by simpa using h)
 have key : qJ (zJ5 1) ((m : Int), tx []) = some (Sum.inl (0, tx (zHZ m))) := by
  by_cases h1 : 1 <= m
  ·have := q6K (x1 := 1) (Int.le_refl _) m [] h1 (by omega) (by simp; omega)
   rwa [zVL] at this
  ·have : m = 0 := by omega
   subst this;rw [qO, qW9 (by omega) (by simp) (.inr (by simp))];simp only;rw [qO, show ((0 / 10 : Nat) : Int) = 0 from rfl, q5T (by simp), aB (by omega)]
 have e : zOL m 1 = zHP.bind (qJ (zJ5 1) ((m : Int), tx [])) fun (x2 : Int × ByteArray ⊕ ByteArray ⊕ Nat × Int × ByteArray) => zHP.sum x2 (fun (s3 : Int × ByteArray) => zHP.ret s3.snd) fun (s3 : ByteArray ⊕ Nat × Int × ByteArray) => zHP.sum s3 (fun (s4 : ByteArray) => zHP.ret s4) fun (s4 : Nat × Int × ByteArray) => zHP.fail := rfl
 rw [e, key, qA];rfl
def wd (n : Nat) : List Int := if n = 0 then [] else [(n : Int)]
theorem qQT : qJ zJZ [] = some (Sum.inl []) := by
 rw [qO];rfl
theorem q3Q : qJ zJZ [(n : Int)] = some (Sum.inl (wd n)) := by
 rw [qO];have i1 : idx 1 (IntKind.i64.wrap (((1 : Nat) : Int) - 1)) = some 0 := by decide
 have i2 : eB 1 (IntKind.i64.wrap (((1 : Nat) : Int) - 1)) = some 0 := by decide
 by_cases h : n = 0
 ·subst h
  have e : zJZ [((0 : Nat) : Int)] = some (Sum.inl []) := by
   unfold zJZ;simp only [zUI, zWK, zU2, i1, i2, vK, qA, zUL];rfl
  rw [e];exact qQT
 ·have hb : ((n : Int) == 0) = false := by simp; omega
  have e : zJZ [(n : Int)] = some (Sum.inr (Sum.inl [(n : Int)])) := by
   unfold zJZ;simp only [zUI, zWK, zU2, i1, i2, vK, qA, zUL, hb, qC];rfl
  rw [e];unfold wd;rw [if_neg h]
theorem q4Q (h : qJ zJZ l = some (Sum.inl r)) : zJN l = some r := by
 have e : zOH l = zHP.bind (qJ zJZ l) fun (x1 : List Int ⊕ List Int ⊕ Nat × List Int) => zHP.sum x1 (fun (s2 : List Int) => zHP.ret s2) fun (s2 : List Int ⊕ Nat × List Int) => zHP.sum s2 (fun (s3 : List Int) => zHP.ret s3) fun (s3 : Nat × List Int) => zHP.fail := rfl
 show (zOH l).run = _;rw [e, h, qA];rfl
theorem zBU : zJN [] = some [] := q4Q qQT
theorem q0S : zJN [(n : Int)] = some (wd n) := q4Q q3Q
theorem qVX : zJN (wd n) = some (wd n) := by
 unfold wd;by_cases h : n = 0
 ·rw [if_pos h]; exact zBU
 ·rw [if_neg h, q0S];unfold wd;rw [if_neg h]
theorem q4I (h : zJN l = some r) : zJK (false, l) = some (false, r) := by
 show (zOI false l).run = _;unfold zOI;rw [h, qA];rfl
theorem zCD (h : n < 1000000000) : zKZ (n : Int) = some (false, wd n) := by
 have key : qJ zKY ((n : Int), []) = some (Sum.inl (0, wd n)) := by
  have e0 : ∀ l, zKY (0, l) = some (Sum.inr (Sum.inl (0, l))) := fun l => rfl
  rw [qO];by_cases h0 : n = 0
  ·subst h0;rw [show ((0 : Nat) : Int) = 0 from rfl, e0];rfl
  ·have hb : ((n : Int) != 0) = true := by simp; omega
   have e1 : (n : Int).tmod 1000000000 = (n : Int) := by rw [show (1000000000 : Int) = ((1000000000 : Nat) : Int) from rfl, <- Int.ofNat_tmod, Nat.mod_eq_of_lt h]
   have e2 : (n : Int).tdiv 1000000000 = 0 := by rw [show (1000000000 : Int) = ((1000000000 : Nat) : Int) from rfl, <- Int.ofNat_tdiv, Nat.div_eq_of_lt h]; rfl
   have e3 : IntKind.i64.wrap 0 = 0 := by decide
   have e : zKY ((n : Int), []) = some (Sum.inl (0, [(n : Int)])) := by
    unfold zKY;simp only [hb, qG, e1, e2, e3, fU (show ¬ (n : Int) < 0 by omega), qC];rfl
   rw [e];simp only;rw [qO, e0];unfold wd;rw [if_neg h0]
 have e : zOP (n : Int) = zHP.bind (qJ zKY ((n : Int), [])) fun (x1 : Int × List Int ⊕ Bool × List Int ⊕ Nat × Int × List Int) => zHP.sum x1 (fun (s2 : Int × List Int) => zHP.bind (zJK (decide ((n : Int) < 0), s2.snd)) fun (x3 : Bool × List Int) => zHP.ret (x3.fst, x3.snd)) fun (s2 : Bool × List Int ⊕ Nat × Int × List Int) => zHP.sum s2 (fun (s3 : Bool × List Int) => zHP.fail) fun (s3 : Nat × Int × List Int) => zHP.fail := rfl
 show (zOP n).run = _;rw [e, key, qA];simp only [zW, fU (show ¬ (n : Int) < 0 by omega), q4I qVX, qA, qZ]
theorem q66 (h : n < 1000000000) : zKF (false, wd n) = some (tx (zHZ n)) := by
 show (zOM (false, wd n)).run = _;unfold zOM wd;by_cases h0 : n = 0
 ·subst h0;rw [aB (by omega)];rfl
 ·have i1 : idx 1 (IntKind.i64.wrap (((1 : Nat) : Int) - 1)) = some 0 := by decide
  have b0 : (((1 : Nat) : Int) == 0) = false := rfl;rw [if_neg h0];simp only [zUI, zWK, zU2, b0, qC, i1, qA, zUL, q8N (show n < 1000000000000000000 by omega)];refine qAQ (t := Sum.inl (tx (zHZ n), -1)) rfl ?_;rfl
theorem zEC (h : n < 1000000000) : zMP (n : Int) = some (tx (zHZ n)) := by
 show (zOQ n).run = _;unfold zOQ;rw [zCD h, qA];simp only [q66 h, qA, qZ]
end Go.Proofs.YtpegkendiefkaaaGreatDoor
namespace Go.Proofs.YtpegkendiefkaaaGreatDoor
open Go.Idl Go.Sv
variable {l : List UInt8} {n p q : Nat}
theorem zF5 (h : isD l) (hp : 0 < l.length) : ∃ c, l[0]? = some c ∧ ((c.toNat : Int) == 45) = false := by
 obtain ⟨c, hc, mc⟩ := kR hp;obtain ⟨d, hd, rfl⟩ := h c mc;refine ⟨_, hc, ?_⟩;rw [mM hd];simp; omega
theorem at0 {c : UInt8} (h : l[0]? = some c) : qDY (tx l) 0 = some (c.toNat : Int) := q8Q (i := 0) h
noncomputable def zRI : ByteArray × List Int -> Option (ByteArray × List Int ⊕ (ByteArray × List Int ⊕ (Bool × List Int) ⊕ Nat × ByteArray × List Int)) := fun (s2 : ByteArray × List Int) => zHP.ite (decide (9 < (↑s2.fst.size : Int))) (zHP.bind (eB s2.fst.size (IntKind.i64.wrap ((↑s2.fst.size : Int) - 9))) fun (x3 : Nat) => zHP.bind (zI0 (s2.fst.extract x3 s2.fst.size)) fun (x4 : Int) => zHP.ite ((s2.snd.length + [x4].length).ble 1048576) (zHP.bind (eB s2.fst.size (IntKind.i64.wrap ((↑s2.fst.size : Int) - 9))) fun (x5 : Nat) => zHP.ret (Sum.inl (s2.fst.extract 0 x5, s2.snd ++ [x4]))) zHP.fail) (zHP.ret (Sum.inr (Sum.inl (s2.fst, s2.snd))))
theorem q97 (h : l.length <= 9) (w : List Int) : zRI (tx l, w) = some (Sum.inr (Sum.inl (tx l, w))) := by
 unfold zRI;simp only [fU (show ¬ ((9 : Int) < ((tx l).size : Int)) by rw [zP]; omega), qC];rfl
theorem zCL (h : n < 1000000000) : zJ4 (tx (zHZ n)) = some (false, wd n) := by
 show (zOJ (tx (zHZ n))).run = _;have hl := kH h;have hp := qF4 n;obtain ⟨c, hc, h45⟩ := zF5 (nH n) hp;unfold zOJ;have h0 : decide ((0 : Int) < ((tx (zHZ n)).size : Int)) = true := decide_eq_true (by rw [zP]; omega);simp only [h0, vK, qG, at0 hc, qA, h45, qC];refine qAQ (t := Sum.inl (tx (zHZ n), [])) (q97 hl []) ?_;simp only [zW, qWV h, qA, zXS, q4I (q0S (n := n)), qZ];rfl
theorem q37 : zKZ 1 = some (false, wd 1) := zCD (n := 1) (by omega)
theorem qKV (n : Nat) (h : n < 1000000000) : zJJ (tx (zHZ n)) = some ((zHZ n).length : Int) := zBS (a := zHZ n) (b := []) (by have := kH h; omega) (qVK (nH n)) (.inl ⟨rfl, rfl⟩)
theorem zFB (h : n < 1000000000) : zMU (tx (zHZ n)) = some ((false, wd n), (false, wd 1)) := by
 show (zOY (tx (zHZ n))).run = _;unfold zOY;have hb : (((zHZ n).length : Int) == ((tx (zHZ n)).size : Int)) = true := by rw [zP]; simp
 rw [qKV n h, qA, hb, qG, zCL h, qA, q37, qA, qZ]
def yE (p q : Nat) : List UInt8 := if q = 1 then zHZ p else zHZ p ++ 47 :: zHZ q
theorem fD (p : Nat) : yE p 1 = zHZ p := by unfold yE; rw [if_pos rfl]
theorem qP4 (hp : p < 1000000000) (hq : q < 1000000000) : (yE p q).length <= 19 := by
 have h1 := kH hp;have h2 := kH hq;unfold yE;split
 ·omega
 ·simp; omega
theorem qEG (hp : p < 1000000000) (hq : q < 1000000000) : zJJ (tx (yE p q)) = some ((zHZ p).length : Int) := by
 have hl := qP4 hp hq;refine zBS (a := zHZ p) (b := if q = 1 then [] else zHZ q) (by omega) (qVK (nH p)) ?_;unfold yE;by_cases h : q = 1
 ·rw [if_pos h, if_pos h]; exact .inl ⟨rfl, rfl⟩
 ·rw [if_neg h, if_neg h]; exact .inr rfl
theorem zEE (hp : p < 1000000000) (hq : q < 1000000000) : zLT (tx (yE p q)) = some (tx (zHZ p)) := by
 show (zOZ (tx (yE p q))).run = _;unfold zOZ;have hle : (zHZ p).length <= (yE p q).length := by unfold yE; split <;> simp
 have ht : (yE p q).take (zHZ p).length = zHZ p := by
  unfold yE; split
  ·exact zU8
  ·exact List.take_left
 have hb : eB (tx (yE p q)).size ((zHZ p).length : Int) = some (zHZ p).length := qC2 (by rw [zP]; exact hle);rw [qEG hp hq, qA, hb, qA, dW, zVU, ht, qZ]
theorem q9S (hp : p < 1000000000) (hq : q < 1000000000) : zLS (tx (yE p q)) = some ((p : Int), (q : Int), true) := by
 show (zOR (tx (yE p q))).run = _;have hl := qP4 hp hq;have h9 := kH hp;have q9 := kH hq;have hpp := qF4 p;have hle : (zHZ p).length <= (yE p q).length := by unfold yE; split <;> simp
 have ht : (yE p q).take (zHZ p).length = zHZ p := by
  unfold yE; split
  ·exact zU8
  ·exact List.take_left
 obtain ⟨c, hc, h45⟩ := zF5 (nH p) hpp
 have hc2 : (yE p q)[0]? = some c := by
  rw [<- List.getElem?_take_of_lt (show 0 < (zHZ p).length by omega), ht]; exact hc
 have hb : eB (tx (yE p q)).size ((zHZ p).length : Int) = some (zHZ p).length := qC2 (by rw [zP]; exact hle);have h0 : decide ((0 : Int) < ((tx (yE p q)).size : Int)) = true := decide_eq_true (by rw [zP]; omega);have h20 : decide ((20 : Int) < ((tx (yE p q)).size : Int)) = false := decide_eq_false (by rw [zP]; omega);have hs9 : decide ((9 : Int) < ((zHZ p).length : Int)) = false := decide_eq_false (by omega)
 have hr : (yE p q).length - (zHZ p).length <= 10 := by
  unfold yE; split
  ·omega
  ·simp; omega
 have h10 : decide ((10 : Int) < IntKind.i64.wrap (((tx (yE p q)).size : Int) - ((zHZ p).length : Int))) = false := by
  rw [uV (by rw [zP]; omega) (by rw [zP]; omega)];exact decide_eq_false (by rw [zP]; omega)
 have e1 : (tx (yE p q)).extract 0 (zHZ p).length = tx (zHZ p) := by rw [dW, zVU, ht]
 unfold zOR;simp only [h20, qC, h0, vK, qG, at0 hc2, qA, h45, qEG hp hq, bP, hs9, zVV, h10, hb, e1, qWV hp];by_cases h1 : q = 1
 ·subst h1;have hk : ¬ (((zHZ p).length : Int) < ((tx (yE p 1)).size : Int)) := by rw [zP, fD]; omega
  simp only [fU hk, qC, qZ];rfl
 ·have hf : yE p q = zHZ p ++ 47 :: zHZ q := by unfold yE; rw [if_neg h1]
  have hk : ((zHZ p).length : Int) < ((tx (yE p q)).size : Int) := by rw [zP, hf]; simp; omega
  have hb2 : eB (tx (yE p q)).size (((zHZ p).length + 1 : Nat) : Int) = some ((zHZ p).length + 1) := qC2 (by rw [zP, hf]; simp)
  have e2 : (tx (yE p q)).extract ((zHZ p).length + 1) (tx (yE p q)).size = tx (zHZ q) := by
   rw [zB1, hf, show zHZ p ++ 47 :: zHZ q = (zHZ p ++ [47]) ++ zHZ q by simp, List.drop_left' (by simp)]
  simp only [gP hk, qG, yK (show (zHZ p).length < 2 ^ 62 by omega), hb2, qA, e2, qWV hq, qZ]
theorem qBF (h : 1 <= n) : wd n = [(n : Int)] := by unfold wd; rw [if_neg (by omega)]
theorem zFD {a b : Nat} (hb : 1 <= b) : ∃ c, zMQ (wd a, [(b : Int)]) = some c ∧ decide (c < 0) = decide (a < b) := by
 show ∃ c, (zOT (wd a) [(b : Int)]).run = some c ∧ _;unfold zOT wd;by_cases h0 : a = 0
 ·subst h0;exact ⟨-1, rfl, by rw [decide_eq_true (show (0 : Nat) < b by omega)]; rfl⟩
 ·rw [if_neg h0];by_cases h1 : a < b
  ·refine ⟨-1, ?_, by rw [decide_eq_true h1]; rfl⟩;have e : decide ((a : Int) < (b : Int)) = true := decide_eq_true (by omega);refine qAQ (t := Sum.inr (Sum.inl (-1))) ?_ rfl;show (zHP.ite (decide ((a : Int) < (b : Int))) _ _ : Option _) = _;rw [e]; rfl
  ·have e : decide ((a : Int) < (b : Int)) = false := decide_eq_false (by omega);by_cases h2 : b < a
   ·refine ⟨1, ?_, by rw [decide_eq_false h1]; rfl⟩;have e2 : decide ((b : Int) < (a : Int)) = true := decide_eq_true (by omega);refine qAQ (t := Sum.inr (Sum.inl 1)) ?_ rfl;show (zHP.ite (decide ((a : Int) < (b : Int))) _ (zHP.ite (decide ((b : Int) < (a : Int))) _ _) : Option _) = _;rw [e, e2]; rfl
   ·refine ⟨0, ?_, by rw [decide_eq_false h1]; rfl⟩;have e2 : decide ((b : Int) < (a : Int)) = false := decide_eq_false (by omega);have hstep : ∀ {K : Int ⊕ (Int ⊕ Int ⊕ Nat × Int) -> zHP Int}, True := fun {_} => trivial
    have key : ∀ (F : Int -> Option (Int ⊕ (Int ⊕ Int ⊕ Nat × Int))), F 0 = some (Sum.inl (-1)) -> F (-1) = some (Sum.inr (Sum.inl (-1))) -> qJ F 0 = some (Sum.inl (-1)) := fun F h1 h2 => by
     rw [qO, h1];simp only;rw [qO, h2]
    refine (congrArg (fun x => (zHP.bind x _ : Option Int)) (key _ ?_ rfl)).trans rfl;show (zHP.ite (decide ((a : Int) < (b : Int))) _ (zHP.ite (decide ((b : Int) < (a : Int))) _ _) : Option _) = _;rw [e, e2]; rfl
end Go.Proofs.YtpegkendiefkaaaGreatDoor
namespace Go.Proofs.YtpegkendiefkaaaGreatDoor
open Go.Idl Go.Sv
variable {a b n : Nat}
theorem zC9 (ha : 1 <= a) (hb : 1 <= b) (h : a < 1000000000) : zMR ([(a : Int)], (b : Int)) = some (wd (a / b), ((a % b : Nat) : Int)) := by
 show (zOU [(a : Int)] b).run = _;have hm : mkN (([(a : Int)].length : Nat) : Int) = some 1 := rfl
 have e1 : IntKind.i64.wrap (IntKind.i64.wrap (0 * 1000000000) + (a : Int)) = (a : Int) := by
  rw [show IntKind.i64.wrap (0 * 1000000000) = 0 by decide, Int.zero_add];exact uV (by omega) (by omega)
 have key : ∀ (F : Int × Int × List Int -> Option (Int × Int × List Int ⊕ (Int × Int × List Int ⊕ (List Int × Int) ⊕ Nat × Int × Int × List Int))), F (0, 0, [0]) = some (Sum.inl (((a % b : Nat) : Int), -1, [((a / b : Nat) : Int)])) -> F (((a % b : Nat) : Int), -1, [((a / b : Nat) : Int)]) = some (Sum.inr (Sum.inl (((a % b : Nat) : Int), -1, [((a / b : Nat) : Int)]))) -> qJ F (0, 0, [0]) = some (Sum.inl (((a % b : Nat) : Int), -1, [((a / b : Nat) : Int)])) := fun F h1 h2 => by
  rw [qO, h1];simp only;rw [qO, h2]
 unfold zOU;rw [hm, qA];refine (congrArg (fun x => (zHP.bind x _ : Option _)) (key _ ?_ rfl)).trans ?_
 ·show (zHP.bind (qAE IntKind.i64 (IntKind.i64.wrap (IntKind.i64.wrap (0 * 1000000000) + (a : Int))) (b : Int)) fun x6 => zHP.bind (qP1 (IntKind.i64.wrap (IntKind.i64.wrap (0 * 1000000000) + (a : Int))) (b : Int)) fun x9 => zHP.ret (Sum.inl (x9, -1, [x6])) : Option _) = _;rw [e1, q3P (by omega) (by omega), qA, qXC (by omega), qA];rfl
 ·simp only [qA, zW]
  erw [q0S]
  rfl
theorem q8Z (hb : 1 <= b) (h : a < 1000000000) : zK1 (wd a, [(b : Int)]) = some (wd (a / b), wd (a % b)) := by
 show (zOV (wd a) [(b : Int)]).run = _;obtain ⟨c, hc, hlt⟩ := zFD (a := a) hb;unfold zOV;rw [hc, qA, hlt];by_cases h1 : a < b
 ·rw [decide_eq_true h1, qG, qZ, Nat.div_eq_of_lt h1, Nat.mod_eq_of_lt h1];rfl
 ·rw [decide_eq_false h1, qC, qBF (show 1 <= a by omega)];have b1 : ((([(b : Int)].length : Nat) : Int) == 1) = true := rfl;have i1 : idx [(b : Int)].length 0 = some 0 := rfl;simp only [b1, qG, i1, qA, zUL, zC9 (show 1 <= a by omega) hb h]
  erw [q0S]
  rfl
theorem q7O : ∀ (y x : Nat), x < 1000000000 -> y < 1000000000 -> qJ zK2 (wd x, wd y) = some (Sum.inl (wd (Nat.gcd x y), [])) := by
 intro y
 induction y using Nat.strongRecOn with
 | _ y ih =>
   intro x hx hy;rw [qO];by_cases h0 : y = 0
   ·subst h0;have e : zK2 (wd x, wd 0) = some (Sum.inr (Sum.inl (wd x, []))) := rfl;rw [e, zYQ]
   ·have e : zK2 (wd x, wd y) = some (Sum.inl (wd y, wd (x % y))) := by
     unfold zK2;rw [qBF (show 1 <= y by omega)];have b1 : decide ((0 : Int) < (([(y : Int)].length : Nat) : Int)) = true := rfl;simp only [b1, qG, q8Z (show 1 <= y by omega) hx, qA];rfl
    rw [e];simp only;have hm := zV7 x (show y > 0 by omega);rw [ih (x % y) hm y hy (by omega)]
    congr 4
    rw [zXX x y, Nat.gcd_rec y x, zXX]
theorem zER (ha : a < 1000000000) (hb : b < 1000000000) : zMS (wd a, wd b) = some (wd (Nat.gcd a b)) := by
 have e : zOW (wd a) (wd b) = zHP.bind (qJ zK2 (wd a, wd b)) fun (x2 : List Int × List Int ⊕ List Int ⊕ Nat × List Int × List Int) => zHP.sum x2 (fun (s3 : List Int × List Int) => zHP.ret s3.fst) fun (s3 : List Int ⊕ Nat × List Int × List Int) => zHP.sum s3 (fun (s4 : List Int) => zHP.ret s4) fun (s4 : Nat × List Int × List Int) => zHP.fail := rfl
 show (zOW (wd a) (wd b)).run = _;rw [e, q7O b a ha hb, qA];rfl
theorem zFI : (⟨#[47]⟩ : ByteArray) = tx [47] := rfl
theorem zEX (hb1 : 1 <= b) (ha : a < 1000000000) (hb : b < 1000000000) : zMT ((false, wd a), (false, wd b)) = some (tx (yE (a / Nat.gcd a b) (b / Nat.gcd a b))) := by
 show (zOX (false, wd a) (false, wd b)).run = _;have hg : 0 < Nat.gcd a b := zXY a (by omega);have hgb : Nat.gcd a b <= b := Nat.gcd_le_right a (by omega);have e1 := q8Z (a := a) (b := Nat.gcd a b) hg ha;have e2 := q8Z (a := b) (b := Nat.gcd a b) hg hb;rw [<- qBF hg] at e1 e2;have hp : a / Nat.gcd a b < 1000000000 := zXZ (zWC _ _) ha;have hq : b / Nat.gcd a b < 1000000000 := zXZ (zWC _ _) hb;have hq1 : 1 <= b / Nat.gcd a b := Nat.div_pos hgb hg;unfold zOX;simp only [qC, zER ha hb, qA, e1, e2];generalize a / Nat.gcd a b = p at *;generalize b / Nat.gcd a b = q at *;have b1 : ((((wd q).length : Nat) : Int) == 1) = true := by rw [qBF hq1]; rfl
 have i1 : idx (wd q).length 0 = some 0 := by rw [qBF hq1]; rfl
 have g0 : (wd q)[0]? = some (q : Int) := by rw [qBF hq1]; rfl
 have l9 := kH hp;have l9q := kH hq;simp only [q4I (qVX (n := p)), q4I (qVX (n := q)), qA, q66 hp, q66 hq, b1, vK, qG, i1, g0, zFI, qDD, zP];by_cases h1 : q = 1
 ·subst h1;have : (((1 : Nat) : Int) == 1) = true := rfl;rw [this, qG, qZ, fD]
 ·have h2 : ((q : Int) == 1) = false := by simp; omega
  have k1 : ((zHZ p).length + [(47 : UInt8)].length).ble 9223372036854775807 = true := zUG (by simp; omega);have k2 : ((zHZ p ++ [47]).length + (zHZ q).length).ble 9223372036854775807 = true := zUG (by simp; omega);rw [h2, qC, k1, qG, k2, qG, qZ];unfold yE;rw [if_neg h1, zUZ];rfl
theorem zEJ (h1 : 1 <= n) (h : n < 1000000000) : zMV (tx (zHZ n)) = some (tx (yE 1 n)) := by
 show (zO0 (tx (zHZ n))).run = _;unfold zO0;rw [zFB h, qA];simp only;rw [zEX h1 (by omega) h, qA, qZ, Nat.gcd_one_left, zYO, zYO]
noncomputable def zLZ (s2 : Int × Int) : Option (Int × Int ⊕ (Int × Int ⊕ Int ⊕ Nat × Int × Int)) := zHP.ite (decide (0 < s2.snd)) (zHP.bind (qP1 s2.fst s2.snd) fun (x3 : Int) => zHP.ret (Sum.inl (s2.snd, x3))) (zHP.ret (Sum.inr (Sum.inl (s2.fst, s2.snd))))
theorem q7Y : ∀ (y x : Nat), qJ zLZ ((x : Int), (y : Int)) = some (Sum.inl (((Nat.gcd x y : Nat) : Int), 0)) := by
 intro y
 induction y using Nat.strongRecOn with
 | _ y ih =>
   intro x;rw [qO];by_cases hy : y = 0
   ·subst hy;have e : zLZ ((x : Int), ((0 : Nat) : Int)) = some (Sum.inr (Sum.inl ((x : Int), 0))) := rfl;rw [e, zYQ]
   ·have hb : decide ((0 : Int) < (y : Int)) = true := decide_eq_true (by omega)
    have e : zLZ ((x : Int), (y : Int)) = some (Sum.inl ((y : Int), ((x % y : Nat) : Int))) := by
     unfold zLZ;simp only [hb, qG, qXC hy, qA];rfl
    rw [e];simp only;rw [ih (x % y) (zV7 _ (by omega)) y]
    congr 3
    rw [zXX x y, Nat.gcd_rec y x, zXX]
theorem zEV : zLR ((a : Int), (b : Int)) = some ((Nat.gcd a b : Nat) : Int) := by
 show (zON a b).run = _;have e : zON a b = zHP.bind (qJ zLZ ((a : Int), (b : Int))) fun (x2 : Int × Int ⊕ Int ⊕ Nat × Int × Int) => zHP.sum x2 (fun (s3 : Int × Int) => zHP.ret s3.fst) fun (s3 : Int ⊕ Nat × Int × Int) => zHP.sum s3 (fun (s4 : Int) => zHP.ret s4) fun (s4 : Nat × Int × Int) => zHP.fail := rfl
 rw [e, q7Y, qA];rfl
theorem tx0 : (⟨#[]⟩ : ByteArray) = tx [] := rfl
theorem zD8 (hb1 : 1 <= b) (ha : a < 1000000000000000000) (hb : b < 1000000000000000000) : zMO ((a : Int), (b : Int)) = some (tx (yE (a / Nat.gcd a b) (b / Nat.gcd a b))) := by
 show (zOO a b).run = _;have hg : 0 < Nat.gcd a b := zXY a (by omega);have hgb : Nat.gcd a b <= b := Nat.gcd_le_right a (by omega);have c1 : decide ((a : Int) < -4000000000000000000) = false := decide_eq_false (by omega);have c2 : decide ((4000000000000000000 : Int) < (a : Int)) = false := decide_eq_false (by omega);have c3 : decide ((b : Int) < -4000000000000000000) = false := decide_eq_false (by omega);have c4 : decide ((4000000000000000000 : Int) < (b : Int)) = false := decide_eq_false (by omega);have c5 : decide ((b : Int) < 0) = false := decide_eq_false (by omega)
 have neg : ∀ k : Nat, k < 1000000000000000000 -> (bif decide ((k : Int) < IntKind.i64.wrap (0 - (k : Int))) then IntKind.i64.wrap (0 - (k : Int)) else (k : Int)) = (k : Int) := fun k hk => by
  rw [uV (by omega) (by omega), decide_eq_false (show ¬ ((k : Int) < 0 - (k : Int)) by omega)];rfl
 have hp : a / Nat.gcd a b < 1000000000000000000 := zXZ (zWC _ _) ha;have hq : b / Nat.gcd a b < 1000000000000000000 := zXZ (zWC _ _) hb;have hq1 : 1 <= b / Nat.gcd a b := Nat.div_pos hgb hg;have d1 : qAE IntKind.i64 (a : Int) ((Nat.gcd a b : Nat) : Int) = some ((a / Nat.gcd a b : Nat) : Int) := q3P (by omega) (by omega);have d2 : qAE IntKind.i64 (b : Int) ((Nat.gcd a b : Nat) : Int) = some ((b / Nat.gcd a b : Nat) : Int) := q3P (by omega) (by omega);unfold zOO;simp only [c1, c2, c3, c4, c5, bP, zVV, qG, qC, neg a ha]
 erw [zEV]
 simp only [qA, d1, d2];generalize a / Nat.gcd a b = p at *;generalize b / Nat.gcd a b = q at *;have c6 : decide ((p : Int) < 0) = false := decide_eq_false (by omega);have l9 : (zHZ p).length <= 18 := o9 17 p (by simpa using hp);have l9q : (zHZ q).length <= 18 := o9 17 q (by simpa using hq);have k0 : (([] : List UInt8).length + (zHZ p).length).ble 9223372036854775807 = true := zUG (by simp; omega);simp only [c6, qC, neg p hp, q8N hp, q8N hq, qA, tx0, zFI, qDD, zP, k0, qG, zXS];by_cases h1 : q = 1
 ·have : decide ((1 : Int) < (q : Int)) = false := decide_eq_false (by omega);rw [this, qC, qZ, h1, fD]
 ·have h2 : decide ((1 : Int) < (q : Int)) = true := decide_eq_true (by omega);have k1 : ((zHZ p).length + [(47 : UInt8)].length).ble 9223372036854775807 = true := zUG (by simp; omega);have k2 : ((zHZ p ++ [47]).length + (zHZ q).length).ble 9223372036854775807 = true := zUG (by simp; omega);rw [h2, qG, k1, qG, k2, qG, qZ];unfold yE;rw [if_neg h1, zUZ];rfl
theorem qYB (ha : a < 1000000000) (hb : b < 1000000000) : a * b < 1000000000000000000 := by
 have := Nat.mul_lt_mul'' ha hb;omega
theorem q9L {p q r s : Nat} (hp : p < 1000000000) (hq : q < 1000000000) (hr : r < 1000000000) (hs : s < 1000000000) (hq1 : 1 <= q) (hs1 : 1 <= s) : zK0 (tx (yE p q), tx (yE r s)) = some (tx (yE (p * r / Nat.gcd (p * r) (q * s)) (q * s / Nat.gcd (p * r) (q * s)))) := by
 show (zOS (tx (yE p q)) (tx (yE r s))).run = _;have m1 := qYB hp hr;have m2 := qYB hq hs;have e1 : IntKind.i64.wrap ((p : Int) * (r : Int)) = ((p * r : Nat) : Int) := by rw [<- zXN, uV (by omega) (by omega)]
 have e2 : IntKind.i64.wrap ((q : Int) * (s : Int)) = ((q * s : Nat) : Int) := by rw [<- zXN, uV (by omega) (by omega)]
 unfold zOS;simp only [q9S hp hq, q9S hr hs, qA, vK, qG, e1, e2, zD8 (Nat.mul_pos hq1 hs1) m1 m2, qZ]
theorem q81 {o : Nat} (ho : o < 30000) (hn : n < 30000) (hn1 : 1 <= n) : ∃ d, zMW (tx (zHZ o), tx (zHZ n)) = some (tx d) ∧ zLT (tx d) = some (tx (zHZ (o / Nat.gcd o n))) ∧ zK0 (tx (zHZ (o / Nat.gcd o n)), tx (zHZ n)) = some (tx (zHZ (Nat.lcm o n))) := by
 have hg : 0 < Nat.gcd o n := zXY o (by omega);have hp : o / Nat.gcd o n <= o := zWC _ _;have hq : n / Nat.gcd o n <= n := zWC _ _;refine ⟨yE (o / Nat.gcd o n) (n / Nat.gcd o n), ?_, zEE (by omega) (by omega), ?_⟩
 ·show (zO1 (tx (zHZ o)) (tx (zHZ n))).run = _;unfold zO1;have := q9L (p := o) (q := 1) (r := 1) (s := n) (by omega) (by omega) (by omega) (by omega) (by omega) hn1;rw [fD, Nat.mul_one, Nat.one_mul] at this;rw [zEJ hn1 (by omega), qA, this, qA, qZ]
 ·have := q9L (p := o / Nat.gcd o n) (q := 1) (r := n) (s := 1) (by omega) (by omega) (by omega) (by omega) (by omega) (by omega);rw [fD, fD, Nat.mul_one, Nat.gcd_one_right, zYO, zYO, fD] at this;rw [this]
  congr 3
  unfold Nat.lcm;rw [zXV o n, Nat.mul_div_assoc _ (Nat.gcd_dvd_left o n), zXV]
theorem zC7 (h : n < 1000000000) : zLP (tx (zHZ n)) = some true := by
 show (zOF (tx (zHZ n))).run = _;unfold zOF;have hb : (((zHZ n).length : Int) == ((tx (zHZ n)).size : Int)) = true := by rw [zP]; simp
 rw [qKV n h, qA, hb, qZ]
end Go.Proofs.YtpegkendiefkaaaGreatDoor
namespace Go.Proofs.YtpegkendiefkaaaGreatDoor
open Go.Idl Go.Sv
theorem qJH {R S τ : Type} {F : S -> Option (S ⊕ τ)} {K : τ -> zHP R} {v : Option R} {s : S} {t : τ} (h : F s = some (.inr t)) (hv : (K t).run = v) : zHP.bind (qJ F s) K = v := by
 rw [qO, h];exact hv
section
variable {n : Nat} {p : List Int}
theorem rO (hp : zH0 n p) {i : Nat} (hi : i < n) (hn : n <= 1000) {s0 : List Bool} (hl : s0.length = n) (hc : q0V n p s0) (h0 : s0.getD i false = false) : ∀ (m t : Nat), t + m = cyc p n i -> qJ (qG1 p) (((itp p t i : Nat) : Int), cT p i t, y7 p i s0 t) = some (Sum.inl ((i : Int), cT p i (cyc p n i), y7 p i s0 (cyc p n i)))
 | 0, t, h => by
   have ht : t = cyc p n i := by omega
   subst ht;obtain ⟨c1, c2, c3, c4⟩ := zC hp hi;rw [c1, qO];have q1 : i < (y7 p i s0 (cyc p n i)).length := by rw [kX, hl]; exact hi
   have g1 : (y7 p i s0 (cyc p n i))[i]? = some true := by
    rw [rdB q1, (vS hp hi hl i _).2 (.inr ⟨0, by omega, rfl⟩)]
   have e : qG1 p ((i : Int), cT p i (cyc p n i), y7 p i s0 (cyc p n i)) = some (Sum.inr (Sum.inl ((i : Int), cT p i (cyc p n i), y7 p i s0 (cyc p n i)))) := by
    unfold qG1;simp only [qR q1, qA, g1, zVK, qC];rfl
   rw [e]
 | m + 1, t, h => by
   obtain ⟨c1, c2, c3, c4⟩ := zC hp hi;have hit := xL hp t hi;have q1 : itp p t i < (y7 p i s0 t).length := by rw [kX, hl]; exact hit
   have g1 := free_at hp hi hl hc h0 (t := t) (by omega);obtain ⟨g2, g3⟩ := jU hp hit;have q2 : itp p t i < p.length := by rw [hp.len]; exact hit
   have hb : (cT p i t).length < 1048576 := by unfold cT; simp; omega
   have e : qG1 p (((itp p t i : Nat) : Int), cT p i t, y7 p i s0 t) = some (Sum.inl (((itp p (t + 1) i : Nat) : Int), cT p i (t + 1), y7 p i s0 (t + 1))) := by
    unfold qG1;simp only [qR q1, qA, g1, zVV, qG, q5L hb, qR q2, g2];rw [jX];show some (Sum.inl _) = _
    congr 4
    unfold cT;rw [zWB, zUR];rfl
   rw [qO, e];exact rO hp hi hn hl hc h0 m (t + 1) (by omega)
structure zRJ (n : Nat) (p : List Int) (k : Nat) (s : List (List Int) × List Bool) : Prop where
 len : s.2.length = n
 zMZ : q0V n p s.2
 cov : ∀ x, x < n -> s.2.getD x false = true -> ∃ c ∈ s.1, itp p c.length x = x
 low : ∀ x, x < k -> x < n -> s.2.getD x false = true
 sum : (s.1.map List.length).sum <= cnt s.2
 pos : ∀ c ∈ s.1, 1 <= c.length
theorem qOA : ∀ {L : List (List Int)}, (∀ c ∈ L, 1 <= c.length) -> L.length <= (L.map List.length).sum
 | [], _ => zT0 _
 | c :: L, h => by
   have h1 := h c zT8;have h2 := qOA (L := L) fun d hd => h d (zT4 _ hd)
   simp only [zUI, zUB, zVQ];omega
theorem zEU (hp : zH0 n p) (hn : n <= 1000) : ∃ L, zJ0 p = some L ∧ (∀ x, x < n -> ∃ c ∈ L, itp p c.length x = x) ∧ (L.map List.length).sum <= n ∧ ∀ c ∈ L, 1 <= c.length := by
 show ∃ L, (zLQ p).run = some L ∧ _;have hmk : mkN ((p.length : Nat) : Int) = some n := by rw [hp.len]; exact q2U (by omega)
 have hpl := hp.len;unfold zLQ;rw [hmk, qA]
 have hI0 : zRJ n p 0 ([], List.replicate n false) := by
  have hz : ∀ x, (List.replicate n false).getD x false = false := fun x => by
   by_cases h : x < n
   ·simp [List.getD, h]
   ·simp [List.getD, h]
  exact ⟨by simp, fun x _ => (by rw [hz, hz]), fun x _ h => (by rw [hz] at h; cases h), fun x h _ => (by omega), by simp, fun c h => (by cases h)⟩
 refine Exists.elim (kK (τ := Int × List (List Int) × List Bool ⊕ List (List Int) ⊕ Nat × Int × List (List Int) × List Bool) (F := fun (s2 : Int × List (List Int) × List Bool) => zHP.ite (decide (s2.fst < (↑p.length : Int))) (zHP.bind (qJ (fun (s3 : Int × List Int × List Bool) => zHP.bind (idx s3.snd.snd.length s3.fst) fun (x4 : Nat) => zHP.bind s3.snd.snd[x4]? fun (x5 : Bool) => zHP.ite (!x5) (zHP.bind (idx s3.snd.snd.length s3.fst) fun (x6 : Nat) => zHP.bind s3.snd.snd[x6]? fun (x7 : Bool) => zHP.ite ((s3.snd.fst.length + [s3.fst].length).ble 1048576) (zHP.bind (idx p.length s3.fst) fun (x8 : Nat) => zHP.bind p[x8]? fun (x9 : Int) => zHP.ret (Sum.inl (x9, s3.snd.fst ++ [s3.fst], s3.snd.snd.set x6 true))) zHP.fail) (zHP.ret (Sum.inr (Sum.inl (s3.fst, s3.snd.fst, s3.snd.snd))))) (s2.fst, [], s2.snd.snd)) fun (x3 : Int × List Int × List Bool ⊕ List (List Int) ⊕ Nat × Int × List Int × List Bool) => zHP.sum x3 (fun (s4 : Int × List Int × List Bool) => zHP.ite (decide (0 < (↑s4.snd.fst.length : Int))) (zHP.ite ((s2.snd.fst.length + [s4.snd.fst].length).ble 1048576) (zHP.ret (Sum.inl (IntKind.i64.wrap (s2.fst + 1), s2.snd.fst ++ [s4.snd.fst], s4.snd.snd))) zHP.fail) (zHP.ret (Sum.inl (IntKind.i64.wrap (s2.fst + 1), s2.snd.fst, s4.snd.snd)))) fun (s4 : List (List Int) ⊕ Nat × Int × List Int × List Bool) => zHP.sum s4 (fun (s5 : List (List Int)) => zHP.ret (Sum.inr (Sum.inr (Sum.inl s5)))) fun (s5 : Nat × Int × List Int × List Bool) => zHP.fail) (zHP.ret (Sum.inr (Sum.inl (s2.fst, s2.snd.fst, s2.snd.snd))))) (fun (k : Nat) (s : List (List Int) × List Bool) => ((k : Int), s.1, s.2)) (zRJ n p) (fun s => Sum.inl ((n : Int), s.1, s.2)) (n := n) (fun k s hk hs => ?step) (fun s hs => ?fin) n 0 ([], List.replicate n false) (by omega) hI0) (fun s' hh => ?main)
 case main =>
  obtain ⟨h1, h2⟩ := hh;refine ⟨s'.1, ?_, fun x hx => h2.cov x hx (h2.low x hx hx), zUS h2.sum (by have := qPT s'.2; rw [h2.len] at this; exact this), h2.pos⟩;refine (congrArg (fun x => (zHP.bind x _ : Option _)) h1).trans ?_;rfl
 case step =>
  obtain ⟨L, sn⟩ := s;have hk3 : (k : Int) < ((p.length : Nat) : Int) := by omega
  have hLl := qOA hs.pos;have hcl := qPT sn;have hsl : sn.length = n := hs.len;have hsum := hs.sum;have hbL : L.length < 1048576 := by simp only at hLl hsum; omega
  simp only [gP hk3, qG]
  cases h0 : sn.getD k false with
  | true =>
    refine ⟨(L, sn), ?_, ⟨hs.len, hs.zMZ, hs.cov, fun x h1 h2 => ?_, hs.sum, hs.pos⟩⟩
    ·have q1 : k < sn.length := by omega
     have g1 : sn[k]? = some true := by rw [rdB q1, h0]
     refine qJH (t := Sum.inl ((k : Int), [], sn)) ?_ ?_
     ·simp only [qR q1, qA, g1, zVK, qC];rfl
     ·have hz : decide ((0 : Int) < ((([] : List Int).length : Nat) : Int)) = false := rfl;simp only [zW, hz, qC, yK (show k < 2 ^ 62 by omega)];rfl
    ·rcases zV5 x k with h | h
     ·exact hs.low x h h2
     ·have : x = k := by omega
      subst this; exact h0
  | false =>
    obtain ⟨c1, c2, c3, c4⟩ := zC hp hk;have hin := rO hp hk hn hs.len hs.zMZ h0 (cyc p n k) 0 (by omega);have hct := qCV hp hk hs.len hs.zMZ h0 (cyc p n k) (zT0 _);refine ⟨(L ++ [cT p k (cyc p n k)], y7 p k sn (cyc p n k)), ?_, ⟨by rw [kX]; exact hs.len, qEV hp hk hs.len hs.zMZ, fun x hx hsx => ?_, fun x h1 h2 => ?_, ?_, fun c hc => ?_⟩⟩
    ·refine (congrArg (fun x => (zHP.bind x _ : Option _)) (show qJ (qG1 p) ((k : Int), [], sn) = _ from hin)).trans ?_;have hz : decide ((0 : Int) < (((cT p k (cyc p n k)).length : Nat) : Int)) = true := decide_eq_true (by rw [oL]; omega);simp only [qA, zW, hz, qG, q5L hbL, yK (show k < 2 ^ 62 by omega)];rfl
    ·rcases (vS hp hk hs.len x _).1 hsx with h | ⟨s, h1, h2⟩
     ·obtain ⟨c, hc, he⟩ := hs.cov x hx h;exact ⟨c, zV8 _ hc, he⟩
     ·refine ⟨cT p k (cyc p n k), zXB _ (zX4 _), ?_⟩;rw [oL, <- h2, <- yX, zV2, yX, c1]
    ·refine (vS hp hk hs.len x _).2 ?_;rcases zV5 x k with h | h
     ·exact .inl (hs.low x h h2)
     ·exact .inr ⟨0, by omega, by show k = x; omega⟩
    ·show ((L ++ [cT p k (cyc p n k)]).map List.length).sum <= cnt (y7 p k sn (cyc p n k));have hsum : (L.map List.length).sum <= cnt sn := hsum;have hct : cnt (y7 p k sn (cyc p n k)) = cnt sn + cyc p n k := hct;rw [hct];simp only [zUR, zWL, zUB, zWE, zVQ, List.sum_nil, oL];omega
    ·rcases zUQ.1 hc with h | h
     ·exact hs.pos c h
     ·rw [zVC.1 h, oL]; exact c2
 case fin =>
  have hk3 : ¬ (n : Int) < ((p.length : Nat) : Int) := by omega
  simp only [fU hk3, qC];rfl
end
end Go.Proofs.YtpegkendiefkaaaGreatDoor
namespace Go.Proofs.YtpegkendiefkaaaGreatDoor
open Go.Idl Go.Sv
variable {L : List (List Int)} {c w : List Int} {n : Nat}
theorem q9F {h : Nat} (h1 : 1 <= h) (hh : h < 1000000000) : zMN (tx (zHZ h)) = some ((h : Int), true) := by
 have hl := kH hh
 have key : qJ (zMM (false, [(h : Int)])) (0, 0) = some (Sum.inl ((h : Int), -1)) := by
  have e : zMM (false, [(h : Int)]) (0, 0) = some (Sum.inl (IntKind.i64.wrap (IntKind.i64.wrap (0 * 1000000000) + (h : Int)), IntKind.i64.wrap (0 - 1))) := rfl
  have e1 : IntKind.i64.wrap (IntKind.i64.wrap (0 * 1000000000) + (h : Int)) = (h : Int) := by
   rw [show IntKind.i64.wrap (0 * 1000000000) = 0 by decide, Int.zero_add];exact uV (by omega) (by omega)
  have e2 : IntKind.i64.wrap (0 - 1) = -1 := by decide
  rw [qO, e, e1, e2];simp only;rw [qO];rfl
 have h20 : decide ((20 : Int) < ((tx (zHZ h)).size : Int)) = false := decide_eq_false (by rw [zP]; omega)
 have e0 : IntKind.i64.wrap ((([(h : Int)].length : Nat) : Int) - 1) = 0 := by
  show IntKind.i64.wrap (((1 : Nat) : Int) - 1) = 0;decide
 have e : zOK (tx (zHZ h)) = zHP.bind (zLP (tx (zHZ h))) fun (x1 : Bool) => zHP.ite (yD (!x1) false) (zHP.ite (decide (20 < ((tx (zHZ h)).size : Int))) (zHP.ret (0, false)) (zHP.bind (zJ4 (tx (zHZ h))) fun (x2 : Bool × List Int) => zHP.bind (qJ (zMM x2) (0, IntKind.i64.wrap ((x2.snd.length : Int) - 1))) fun (x3 : Int × Int ⊕ Int × Bool ⊕ Nat × Int × Int) => zHP.sum x3 (fun (s4 : Int × Int) => zHP.ret (s4.fst, true)) fun (s4 : Int × Bool ⊕ Nat × Int × Int) => zHP.sum s4 (fun (s5 : Int × Bool) => zHP.ret (s5.fst, s5.snd)) fun (s5 : Nat × Int × Int) => zHP.fail)) (zHP.ret (0, false)) := rfl
 show (zOK (tx (zHZ h))).run = _;rw [e, zC7 hh, qA, zCL hh];simp only [zVK, bP, zVV, qG, h20, qC, qA, qBF h1, e0];rw [key, qA];rfl
def qDQ (L : List (List Int)) : Nat := L.foldl (fun a c => Nat.lcm a c.length) 1
theorem qXS (L : List (List Int)) (c : List Int) : qDQ (L ++ [c]) = Nat.lcm (qDQ L) c.length := by
 unfold qDQ; rw [zYS]; rfl
theorem zEO (L : List (List Int)) : ∀ (a : Nat), (a ∣ L.foldl (fun a c => Nat.lcm a c.length) a) ∧ (∀ c ∈ L, c.length ∣ L.foldl (fun a c => Nat.lcm a c.length) a) := by
 induction L with
 | nil => intro a; exact ⟨Nat.dvd_refl _, fun c h => by cases h⟩
 | cons c L ih =>
   intro a;obtain ⟨h1, h2⟩ := ih (Nat.lcm a c.length);refine ⟨zXL (Nat.dvd_lcm_left _ _) h1, fun d hd => ?_⟩;rcases zUD.1 hd with rfl | hd
   ·exact zXL (zYU _ _) h1
   ·exact h2 d hd
theorem q1G (h : c ∈ L) : c.length ∣ qDQ L := (zEO L 1).2 c h
theorem zCC (a b : Nat) : Nat.lcm a b <= a * b := by
 unfold Nat.lcm;exact zWC _ _
theorem q3A (L : List (List Int)) : ∀ (a : Nat), L.foldl (fun a c => Nat.lcm a c.length) a <= a * 2 ^ (L.map List.length).sum := by
 induction L with
 | nil => intro a; simp
 | cons c L ih =>
   intro a;refine zUS (ih _) ?_;rw [zUB, zVQ, Nat.pow_add, <- Nat.mul_assoc];refine zVB _ (zUS (zCC a c.length) (Nat.mul_le_mul_left _ (Nat.le_of_lt Nat.lt_two_pow_self)))
theorem qJP (L : List (List Int)) (h : ∀ c ∈ L, 1 <= c.length) : ∀ (a : Nat), 1 <= a -> 1 <= L.foldl (fun a c => Nat.lcm a c.length) a := by
 induction L with
 | nil => intro a ha; exact ha
 | cons c L ih =>
   intro a ha;exact ih (fun d hd => h d (zT4 _ hd)) _ (Nat.lcm_pos (by omega) (h c zT8))
theorem qOR (L : List (List Int)) : qDQ L <= 2 ^ (L.map List.length).sum := by
 have := q3A L 1
 rwa [Nat.one_mul] at this
theorem q31 (L : List (List Int)) (k : Nat) : ((L.take k).map List.length).sum <= (L.map List.length).sum := by
 have h : L.map List.length = (L.take k).map List.length ++ (L.drop k).map List.length := by rw [<- zUR, zWX]
 rw [h, zWL];omega
theorem q7P (h : c ∈ L) : c.length <= (L.map List.length).sum := by
 obtain ⟨a, b, rfl⟩ := List.append_of_mem h;simp only [zUR, zWL, zUB, zVQ];omega
theorem qSM {k : Nat} {x : List Int} (h : L[k]? = some x) : L.take (k + 1) = L.take k ++ [x] := by
 rw [zWM, h];rfl
theorem q95 {p : List Int} {L : List (List Int)} (hL : zJ0 p = some L) (hs : (L.map List.length).sum <= 12) (hpos : ∀ c ∈ L, 1 <= c.length) : zMX p = some (tx (zHZ (qDQ L))) := by
 show (zO2 p).run = _;unfold zO2;rw [hL, qA];have hLl := qOA hpos;have e1 : (⟨#[49]⟩ : ByteArray) = tx (zHZ 1) := by rw [aB (by omega)]; rfl
 rw [e1]
 have bnd : ∀ k, qDQ (L.take k) <= 4096 := fun k => by
  have h1 := qOR (L.take k);have h2 := q31 L k;have h3 := zXK (n := 2) (by omega) (show ((L.take k).map List.length).sum <= 12 by omega);have h4 : (2 : Nat) ^ 12 = 4096 := rfl;omega
 refine kG L.length (fun (k : Nat) (s : ByteArray) => (s, (k : Int))) (fun k s => s = tx (zHZ (qDQ (L.take k)))) (fun k s => tx (zHZ (qDQ (L.take (k + 1))))) (fun s => Sum.inl (s, (L.length : Int))) (tx (zHZ 1)) rfl rfl (fun k s hk hI => ?_) (fun s hI => ?_) (fun hI => ?_)
 ·refine ⟨?_, rfl⟩;obtain ⟨c, hc, mc⟩ := kR hk;have hk3 : (k : Int) < (L.length : Int) := by omega
  have hcl := q7P mc;have hc1 := hpos c mc;obtain ⟨d, s1, s2, s3⟩ := q81 (o := qDQ (L.take k)) (n := c.length) (by have := bnd k; omega) (by omega) hc1;rw [qSM hc, qXS, hI];simp only [gP hk3, qG, qR hk, qA, hc, zEC (show c.length < 1000000000 by omega), s1, s2, s3, yK (show k < 2 ^ 62 by omega)];rfl
 ·simp only [fU (zUV _), qC];rfl
 ·rw [hI, zU8];simp only [zW, qZ]
theorem qFX (h : okW n w) {i : Nat} (hi : i < n) : phi (xK n w) (phi (zK n w) i) = i := by
 obtain ⟨h1, h2⟩ := jU (yM h) hi;have h3 := o7 h h1;unfold phi at h3 ⊢;rw [List.getD, h3];simp
theorem qUY {n : Nat} {w : List Int} (h : okW n w) : ∀ (t : Nat) {i : Nat}, i < n -> itp (xK n w) t (itp (zK n w) t i) = i
 | 0, i, _ => rfl
 | t + 1, i, hi => by
   have hlt := xL (yM h) t hi;rw [jX (zK n w) t i];show itp (xK n w) t (phi (xK n w) (phi (zK n w) (itp (zK n w) t i))) = i;rw [qFX h hlt, qUY h t hi]
theorem zBT (h2 : 2 <= n) (h12 : n <= 12) (hw : okW n w) (l1 : 1 <= w.length) (l24 : w.length <= 24) : ∃ h, Ord n w h := by
 have hp := fZ (show 0 < n by omega) hw;obtain ⟨L, hL, zTU, hsum, hpos⟩ := zEU hp (by omega);have hpl : 1 <= qDQ L := qJP L hpos 1 (zT0 _)
 have hle : qDQ L <= 4096 := by
  have h1 := qOR L;have h3 := zXK (n := 2) (by omega) (show (L.map List.length).sum <= 12 by omega);have h4 : (2 : Nat) ^ 12 = 4096 := rfl;omega
 refine ⟨qDQ L, h2, h12, hw, l1, l24, ?_, hpl, by omega, fun i hi => ?_⟩
 ·show (zLU n w).run = _;unfold zLU;rw [qXI (by omega) hw (by omega), qA, q95 hL (by omega) hpos, qA, q9F hpl (by omega), qA, qZ]
 ·have hfix : ∀ x, x < n -> itp (xK n w) (qDQ L) x = x := fun x hx => by
   obtain ⟨c, hc, he⟩ := zTU x hx;obtain ⟨q, hq⟩ := q1G hc;rw [hq];exact rW he q
  have hf := xL (yM hw) (qDQ L) hi;have e := qUY hw (qDQ L) hi;rw [hfix _ hf] at e;exact e
end Go.Proofs.YtpegkendiefkaaaGreatDoor
namespace Go.Proofs.YtpegkendiefkaaaGreatDoor
open Go.Idl Go.Sv
variable {e n : Int}
theorem q7M {w : List Int} (h : bY n w = 0) : ∃ m : Nat, n = (m : Int) ∧ 2 <= m ∧ m <= 12 ∧ okW m w ∧ 1 <= w.length ∧ w.length <= 24 := by
 unfold bY at h
 cases ho : qAV n 2 12 with
 | true => rw [ho] at h; cases h
 | false =>
   obtain ⟨h1, h2⟩ := qUR ho;rw [ho] at h;simp only [cond_false] at h;by_cases h3 : w.length = 0
   ·rw [if_pos h3] at h; cases h
   ·rw [if_neg h3] at h;by_cases h4 : 24 < w.length
    ·rw [if_pos h4] at h; cases h
    ·rw [if_neg h4] at h
     cases hl : w.all (q1A n) with
     | false => rw [hl] at h; cases h
     | true =>
       refine ⟨n.toNat, by omega, by omega, by omega, fun c hc => ?_, by omega, by omega⟩;have := zT3.1 hl c hc;unfold q1A at this;rw [qPA h1 h2] at this;simp only [zTY, zU0, beq_eq_false_iff_ne, decide_eq_false_iff_not] at this;exact ⟨this.1, by omega⟩
theorem q8G {c : List Int} (h : qTF n c = 0) : (c.length : Int) = n := by
 unfold qTF at h
 cases h1 : qAV n 2 12 with
 | true => rw [h1] at h; cases h
 | false =>
   cases h2 : ((c.length : Int) != n) with
   | true => rw [h1, h2] at h; cases h
   | false => simpa using h2
theorem ne0 (h : e ≠ 0) : (e == 0) = false ∧ (e != 0) = true := by simp [h]
theorem qT6 (h : e ≠ 0) (l : List Int) : wQ (e :: l) = e := by unfold wQ; rw [if_pos h]
theorem q02 (l : List Int) : wQ (0 :: l) = wQ l := by
 show (if (0 : Int) ≠ 0 then (0 : Int) else wQ l) = _;rw [if_neg (by simp)]
theorem q25 (e : Int) : wQ [e] = e := by
 unfold wQ;split
 ·rfl
 ·rename_i h;have h : e = 0 := by simpa using h
  rw [h]; rfl
end Go.Proofs.YtpegkendiefkaaaGreatDoor
set_option maxRecDepth 10000
namespace Go.Proofs.YtpegkendiefkaaaGreatDoor
open Go Go.Idl Go.Sv Go.Proofs
section
variable {n : Nat} {p : List Int}
theorem qO9 (hp : zH0 n p) (hn : n <= 1000) : zJ0 p = some (wY p n n) := by
 show (zLQ p).run = _;have hmk : mkN ((p.length : Nat) : Int) = some n := by rw [hp.len]; exact q2U (by omega)
 have hpl := hp.len;unfold zLQ;rw [hmk, qA]
 have hloop : qJ (qWB p) (0, [], List.replicate n false) = some (.inl ((n : Int), wY p n n, sK p n n)) := by
  refine Exists.elim (kK (F := qWB p) (fun (k : Nat) (s : List (List Int) × List Bool) => ((k : Int), s.1, s.2)) (fun k s => s = (wY p n k, sK p n k)) (fun s => .inl ((n : Int), s.1, s.2)) (n := n) (fun k s hk hs => ?step) (fun s hs => ?fin) n 0 ([], List.replicate n false) (by omega) rfl) (fun s' hh => ?main)
  case main =>
   obtain ⟨h1, h2⟩ := hh;rw [h2] at h1;exact h1
  case fin =>
   subst hs;unfold qWB;have : ¬ (n : Int) < ((p.length : Nat) : Int) := by omega
   simp only [fU this, qC];rfl
  case step =>
   subst hs;have hk3 : (k : Int) < ((p.length : Nat) : Int) := by omega
   have hLl := qG7 (n := n) (p := p) k;have hbL : (wY p n k).length < 1048576 := by omega
   have h0 := qU0 hp hk;unfold qWB;simp only [gP hk3, qG]
   cases hr : rep p n k with
   | false =>
     rw [hr] at h0;refine ⟨(wY p n (k + 1), sK p n (k + 1)), ?_, rfl⟩;rw [q91 hr, q9A hr];have q1 : k < (sK p n k).length := by rw [bK]; exact hk
     have g1 : (sK p n k)[k]? = some true := by rw [rdB q1, h0]; rfl
     refine qJH (t := Sum.inl ((k : Int), [], sK p n k)) ?_ ?_
     ·unfold qG1;simp only [qR q1, qA, g1, zVK, qC];rfl
     ·have hz : decide ((0 : Int) < ((([] : List Int).length : Nat) : Int)) = false := rfl;simp only [zW, hz, qC, yK (show k < 2 ^ 62 by omega)];rfl
   | true =>
     rw [hr] at h0;obtain ⟨c1, c2, c3, c4⟩ := zC hp hk;have hin := rO hp hk hn (bK k) (qC3 hp k (by omega)) h0 (cyc p n k) 0 (by omega);refine ⟨(wY p n (k + 1), sK p n (k + 1)), ?_, rfl⟩;rw [zBI hr, q9D hr];refine (congrArg (fun x => (zHP.bind x _ : Option _)) (show qJ (qG1 p) ((k : Int), [], sK p n k) = _ from hin)).trans ?_;have hz : decide ((0 : Int) < (((cT p k (cyc p n k)).length : Nat) : Int)) = true := decide_eq_true (by rw [oL]; omega);simp only [qA, zW, hz, qG, q5L hbL, yK (show k < 2 ^ 62 by omega)];rfl
 exact (congrArg (fun x => (zHP.bind x _ : Option _)) hloop).trans rfl
def asI (l : List Nat) : List Int := l.map fun (c : Nat) => (c : Int)
theorem qRR {ss : List Int} (hp : zH0 n p) {i : Nat} (hi : i < n) {s0 : List Bool} (hl : s0.length = n) (hc : q0V n p s0) (h0 : s0.getD i false = false) : ∀ (m t : Nat), t + m = cyc p n i -> qJ (qOM (ss, p)) (((itp p t i : Nat) : Int), y7 p i s0 t) = some (Sum.inl ((i : Int), y7 p i s0 (cyc p n i)))
 | 0, t, h => by
   have ht : t = cyc p n i := by omega
   subst ht;obtain ⟨c1, c2, c3, c4⟩ := zC hp hi;rw [c1, qO];have q1 : i < (y7 p i s0 (cyc p n i)).length := by rw [kX, hl]; exact hi
   have g1 : (y7 p i s0 (cyc p n i))[i]? = some true := by
    rw [rdB q1, (vS hp hi hl i _).2 (.inr ⟨0, by omega, rfl⟩)]
   have e : qOM (ss, p) ((i : Int), y7 p i s0 (cyc p n i)) = some (Sum.inr (Sum.inl ((i : Int), y7 p i s0 (cyc p n i)))) := by
    unfold qOM;simp only [qR q1, qA, g1, zVK, qC];rfl
   rw [e]
 | m + 1, t, h => by
   obtain ⟨c1, c2, c3, c4⟩ := zC hp hi;have hit := xL hp t hi;have q1 : itp p t i < (y7 p i s0 t).length := by rw [kX, hl]; exact hit
   have g1 := free_at hp hi hl hc h0 (t := t) (by omega);obtain ⟨g2, g3⟩ := jU hp hit;have q2 : itp p t i < p.length := by rw [hp.len]; exact hit
   have e : qOM (ss, p) (((itp p t i : Nat) : Int), y7 p i s0 t) = some (Sum.inl (((itp p (t + 1) i : Nat) : Int), y7 p i s0 (t + 1))) := by
    unfold qOM;simp only [qR q1, qA, g1, zVV, qG, qR q2, g2];rw [jX];rfl
   rw [qO, e];exact qRR hp hi hl hc h0 m (t + 1) (by omega)
theorem q2P (l : List Nat) (c : Nat) : asI (l ++ [c]) = asI l ++ [(c : Int)] := by simp [asI]
theorem qNU (l : List Nat) : (asI l).length = l.length := by simp [asI]
theorem zE6 {ss : List Int} (hp : zH0 n p) (hn : n <= 1000) : zMJ (ss, p) = some (asI (lens p n)) := by
 show (zN9 (ss, p)).run = _;have hmk : mkN ((p.length : Nat) : Int) = some n := by rw [hp.len]; exact q2U (by omega)
 have hpl := hp.len;unfold zN9;simp only [hmk, qA]
 have hloop : qJ (qXM (ss, p)) (0, [], List.replicate n false) = some (.inl ((n : Int), asI (aF p n n), sK p n n)) := by
  refine Exists.elim (kK (F := qXM (ss, p)) (fun (k : Nat) (s : List Int × List Bool) => ((k : Int), s.1, s.2)) (fun k s => s = (asI (aF p n k), sK p n k)) (fun s => .inl ((n : Int), s.1, s.2)) (n := n) (fun k s hk hs => ?step) (fun s hs => ?fin) n 0 ([], List.replicate n false) (by omega) rfl) (fun s' hh => ?main)
  case main =>
   obtain ⟨h1, h2⟩ := hh;rw [h2] at h1;exact h1
  case fin =>
   subst hs;unfold qXM;have : ¬ (n : Int) < ((p.length : Nat) : Int) := by omega
   simp only [fU this, qC];rfl
  case step =>
   subst hs;have hk3 : (k : Int) < ((p.length : Nat) : Int) := by omega
   have hLl := qAO p n k;have hbL : (asI (aF p n k)).length < 1048576 := by rw [qNU]; omega
   have h0 := qU0 hp hk;have q1 : k < (sK p n k).length := by rw [bK]; exact hk
   unfold qXM;simp only [gP hk3, qG, qR q1, qA]
   cases hr : rep p n k with
   | false =>
     rw [hr] at h0;refine ⟨(asI (aF p n (k + 1)), sK p n (k + 1)), ?_, rfl⟩;rw [qWF hr, q9A hr];have g1 : (sK p n k)[k]? = some true := by rw [rdB q1, h0]; rfl
     simp only [g1, qA, qG, yK (show k < 2 ^ 62 by omega)];rfl
   | true =>
     rw [hr] at h0;obtain ⟨c1, c2, c3, c4⟩ := zC hp hk;have g1 : (sK p n k)[k]? = some false := by rw [rdB q1, h0]; rfl
     have hin := qRR (ss := ss) hp hk (bK k) (qC3 hp k (by omega)) h0 (cyc p n k) 0 (by omega);have hin : qJ (qOM (ss, p)) ((k : Int), sK p n k) = some (Sum.inl ((k : Int), y7 p k (sK p n k) (cyc p n k))) := hin;refine ⟨(asI (aF p n (k + 1)), sK p n (k + 1)), ?_, rfl⟩;rw [qZ2 hr, q9D hr, q2P];simp only [g1, qA, qC, zAF (ss := ss) hp hk hn, q5L hbL, qG, hin, zW, yK (show k < 2 ^ 62 by omega)];rfl
 exact (congrArg (fun x => (zHP.bind x _ : Option _)) hloop).trans rfl
end
def zBZ (a : Int) : Nat -> Int
 | 0 => 1
 | k + 1 => IntKind.i64.wrap (zBZ a k * a)
theorem zA7 {a : Int} {k : Nat} (hk : k < 2 ^ 62) : zKC (a, (k : Int)) = some (zBZ a k) := by
 show (zOA a k).run = _;unfold zOA;refine kG k (fun (i : Nat) (s : Int) => (s, (i : Int))) (fun i s => s = zBZ a i) (fun i s => IntKind.i64.wrap (s * a)) (fun s => Sum.inl (s, (k : Int))) 1 rfl rfl (fun i s hi hs => ?_) (fun s hs => ?_) (fun hI => ?_)
 ·refine ⟨?_, by rw [hs]; rfl⟩;simp only [gP (show (i : Int) < (k : Int) by omega), qG, yK (show i < 2 ^ 62 by omega)];rfl
 ·simp only [fU (zUV _), qC];rfl
 ·rw [hI];simp only [zW, qZ]
theorem zD0 {a : Int} {k : Nat} (hk : k < 2 ^ 62) : zLV (a, (k : Int)) = some (zBZ a k) := (show zLV (a, (k : Int)) = zKC (a, (k : Int)) from rfl).trans (zA7 hk)
end Go.Proofs.YtpegkendiefkaaaGreatDoor
set_option maxRecDepth 10000
namespace Go.Proofs.YtpegkendiefkaaaGreatDoor
open Go Go.Idl Go.Sv Go.Proofs
variable {L : List (List Int)} {h j q : Nat} {out w : List Int}
section
variable {n : Nat} {p : List Int}
def qK7 (out pwl : List Int) (y : Nat) : Prop := out[y]? = pwl[y]?
theorem qQ6 {pwl : List Int} {x y : Nat} {v : Int} (hx : x < out.length) (hv : pwl[x]? = some v) (h : qK7 out pwl y ∨ y = x) : qK7 (out.set x v) pwl y := by
 unfold qK7 at *;rw [zUM];by_cases e : x = y
 ·subst e;rw [if_pos rfl, if_pos hx, hv]
 ·rw [if_neg e];rcases h with h | h
  ·exact h
  ·exact absurd h.symm e
theorem q2W (hp : zH0 n p) {i : Nat} (hi : i < n) (hn : n <= 1000) (hq : L[q]? = some (cT p i (cyc p n i))) (hl : out.length = n) :
 ∃ out', qJ (qYH L (q : Int) (cT p i (cyc p n i)) ((j % cyc p n i : Nat) : Int)) (0, out) = some (.inl (((cyc p n i : Nat) : Int), out')) ∧ out'.length = n ∧ (∀ y, qK7 out (pw p n j) y -> qK7 out' (pw p n j) y) ∧ ∀ t, t < cyc p n i -> qK7 out' (pw p n j) (itp p t i) := by
 obtain ⟨c1, c2, c3, c4⟩ := zC hp hi;have hcl : (cT p i (cyc p n i)).length = cyc p n i := oL _ _
 have zRK : ∀ s, s < cyc p n i -> (cT p i (cyc p n i))[s]? = some ((itp p s i : Nat) : Int) := fun s hs => by
  unfold cT;rw [zT9, zVZ hs]; rfl
 have hqL : q < L.length := (zT2.1 hq).1;refine Exists.elim (kK (F := qYH L (q : Int) (cT p i (cyc p n i)) ((j % cyc p n i : Nat) : Int)) (fun (s : Nat) (o : List Int) => ((s : Int), o)) (fun s o => o.length = n ∧ (∀ y, qK7 out (pw p n j) y -> qK7 o (pw p n j) y) ∧ ∀ t, t < s -> qK7 o (pw p n j) (itp p t i)) (fun o => .inl (((cyc p n i : Nat) : Int), o)) (n := cyc p n i) (fun s o hs hI => ?step) (fun o hI => ?fin) (cyc p n i) 0 out (by omega) ⟨hl, fun _ h => h, fun t h => by omega⟩) (fun o hh => ⟨o, hh.1, hh.2⟩)
 case fin =>
  unfold qYH;simp only [hcl, fU (zUV _), qC];rfl
 case step =>
  obtain ⟨h1, h2, h3⟩ := hI;have hk3 : (s : Int) < ((cyc p n i : Nat) : Int) := by omega
  have hm : (s + j % cyc p n i) % cyc p n i < cyc p n i := zV7 _ (by omega);have hs1 : s < (cT p i (cyc p n i)).length := by rw [hcl]; exact hs
  have hs2 : (s + j % cyc p n i) % cyc p n i < (cT p i (cyc p n i)).length := by rw [hcl]; exact hm
  have hml : j % cyc p n i < cyc p n i := zV7 _ (by omega)
  have hw : IntKind.i64.wrap ((s : Int) + ((j % cyc p n i : Nat) : Int)) = ((s + j % cyc p n i : Nat) : Int) := by
   rw [wrap_i64 (by omega) (by omega)]; omega
  have hit := xL hp s hi;have ho : itp p s i < o.length := by rw [h1]; exact hit
  have hv : itp p ((s + j % cyc p n i) % cyc p n i) i = itp p j (itp p s i) := by
   rw [<- yX];have := qFV hp hi (s + j);rw [this, Nat.add_mod_mod]
  have hpv : (pw p n j)[itp p s i]? = some ((itp p ((s + j % cyc p n i) % cyc p n i) i : Nat) : Int) := by
   rw [qCN hit, hv]
  refine ⟨o.set (itp p s i) ((itp p ((s + j % cyc p n i) % cyc p n i) i : Nat) : Int), ?_, by rw [zUY]; exact h1, fun y hy => qQ6 ho hpv (.inl (h2 y hy)), fun t ht => ?_⟩
  ·unfold qYH;simp only [hcl, gP hk3, qG, qR hqL, qA, hq, qR hs, zRK s hs, hw, qXC (show cyc p n i ≠ 0 by omega), qR hm, zRK _ hm, qR ho, rd ho, yK (show s < 2 ^ 62 by omega)];rfl
  ·refine qQ6 ho hpv ?_;rcases zV5 t s with h | h
   ·exact .inl (h3 t h)
   ·exact .inr (by rw [show t = s by omega])
theorem q28 {c : List Int} (h : (wY p n n)[q]? = some c) : ∃ i, i < n ∧ c = cT p i (cyc p n i) := by
 unfold wY at h;rw [zT9] at h;obtain ⟨i, h1, rfl⟩ := zT6.1 h;exact ⟨i, zUW.1 (zVS.1 (zUP h1)).1, rfl⟩
theorem q9O (hp : zH0 n p) (hn : n <= 1000) (hj : j < 2 ^ 30) : zLW (p, (j : Int)) = some (pw p n j) := by
 show (zO3 p j).run = _;have hmk : mkN ((p.length : Nat) : Int) = some n := by rw [hp.len]; exact q2U (by omega)
 unfold zO3;simp only [hmk, qA, qO9 hp hn];have hcl := qG7 (n := n) (p := p) n
 have hloop : ∃ out, qJ (qS5 (j : Int) (wY p n n)) (0, List.replicate n 0) = some (.inl (((wY p n n).length : Int), out)) ∧ out.length = n ∧ ∀ q c, q < (wY p n n).length -> (wY p n n)[q]? = some c -> ∀ i, c = cT p i (cyc p n i) -> i < n -> ∀ t, t < cyc p n i -> qK7 out (pw p n j) (itp p t i) := by
  refine Exists.elim (kK (F := qS5 (j : Int) (wY p n n)) (fun (q : Nat) (o : List Int) => ((q : Int), o)) (fun q o => o.length = n ∧ ∀ q' c, q' < q -> (wY p n n)[q']? = some c -> ∀ i, c = cT p i (cyc p n i) -> i < n -> ∀ t, t < cyc p n i -> qK7 o (pw p n j) (itp p t i)) (fun o => .inl (((wY p n n).length : Int), o)) (n := (wY p n n).length) (fun q o hq hI => ?step) (fun o hI => ?fin) (wY p n n).length 0 (List.replicate n 0) (by omega) ⟨by simp, fun q' c h => by omega⟩) (fun o hh => ⟨o, hh.1, hh.2⟩)
  case fin =>
   unfold qS5;simp only [fU (zUV _), qC];rfl
  case step =>
   obtain ⟨h1, h2⟩ := hI;obtain ⟨c, hc, _⟩ := kR hq;obtain ⟨i, hi, rfl⟩ := q28 hc;obtain ⟨c1, c2, c3, c4⟩ := zC hp hi;obtain ⟨o', a1, a2, a3, a4⟩ := q2W hp (j := j) hi hn hc h1;have hk3 : (q : Int) < (((wY p n n).length : Nat) : Int) := by omega
   have zTV : (cT p i (cyc p n i)).length = cyc p n i := oL _ _;have hml : j % cyc p n i < cyc p n i := zV7 _ (by omega)
   have hw : IntKind.i64.wrap (((j % cyc p n i : Nat) : Int) + ((cyc p n i : Nat) : Int)) = ((j % cyc p n i + cyc p n i : Nat) : Int) := by
    rw [wrap_i64 (by omega) (by omega)]; omega
   have hm2 : (j % cyc p n i + cyc p n i) % cyc p n i = j % cyc p n i := by
    rw [Nat.add_mod_right, Nat.mod_mod]
   refine ⟨o', ?_, a2, fun q' c hq' hc' i' e hi' t ht => ?_⟩
   ·unfold qS5;simp only [gP hk3, qG, qR hq, qA, hc, zTV, qXC (show cyc p n i ≠ 0 by omega), hw, hm2, a1, zW, yK (show q < 2 ^ 62 by omega)];rfl
   ·rcases zV5 q' q with h | h
    ·exact a3 _ (h2 q' c h hc' i' e hi' t ht)
    ·have : q' = q := by omega
     subst this;rw [hc] at hc';injection hc' with hc';have e := hc'.trans e;obtain ⟨d1, d2, d3, d4⟩ := zC hp hi'
     have hl2 : cyc p n i = cyc p n i' := by
      have := congrArg List.length e
      rwa [oL, oL] at this
     have h0 : i = i' := by
      have h0 := congrArg (fun l : List Int => l[0]?) e;simp only [cT, zT9, zVZ (show 0 < cyc p n i by omega), zVZ (show 0 < cyc p n i' by omega), zT7, itp, zT5] at h0;omega
     subst h0;exact a4 t ht
 obtain ⟨out, b1, b2, b3⟩ := hloop
 have hout : out = pw p n j := by
  apply zUX;intro y;by_cases hy : y < n
  ·obtain ⟨r, t, g1, g2, g3⟩ := qZM hp (y + 1) y (by omega) hy
   have hmem : cT p r (cyc p n r) ∈ wY p n n := by
    unfold wY;exact zUN.2 ⟨r, zVS.2 ⟨zUW.2 g1, g2⟩, rfl⟩
   obtain ⟨q, hq⟩ := List.getElem?_of_mem hmem;obtain ⟨d1, d2, d3, d4⟩ := zC hp g1;have := b3 q _ (zT2.1 hq).1 hq r rfl g1 (t % cyc p n r) (zV7 _ (by omega));rw [<- qFV hp g1, g3] at this;exact this
  ·rw [zUF (by omega), zUF (by rw [qE2]; omega)]
 refine (congrArg (fun x => (zHP.bind x _ : Option _)) (show qJ (qS5 (j : Int) (wY p n n)) (0, List.replicate n 0) = _ from b1)).trans ?_;rw [hout];rfl
end
theorem q8U {L : List (List Int)} {m : Nat} : qDQ L ∣ m ↔ ∀ c ∈ L, c.length ∣ m := by
 have key : ∀ (L : List (List Int)) (a : Nat), L.foldl (fun a c => Nat.lcm a c.length) a ∣ m ↔ a ∣ m ∧ ∀ c ∈ L, c.length ∣ m := fun L => by
  induction L with
  | nil => intro a; simp
  | cons c L ih =>
    intro a;rw [zVJ, ih];constructor
    ·rintro ⟨h1, h2⟩
     exact ⟨zXL (Nat.dvd_lcm_left _ _) h1, fun d hd => by
      rcases zUD.1 hd with rfl | h
      ·exact zXL (zYU _ _) h1
      ·exact h2 d h⟩
    ·rintro ⟨h1, h2⟩;exact ⟨Nat.lcm_dvd h1 (h2 c zT8), fun d hd => h2 d (zT4 _ hd)⟩
 unfold qDQ;rw [key];simp
theorem zBA {n : Nat} {w : List Int} (h2 : 2 <= n) (h12 : n <= 12) (hw : okW n w) (l1 : 1 <= w.length) (l24 : w.length <= 24) : ∃ h, Ord n w h ∧ ∀ m, h ∣ m ↔ ∀ c ∈ lens (xK n w) n, c ∣ m := by
 obtain ⟨h, o⟩ := zBT h2 h12 hw l1 l24;refine ⟨h, o, fun m => ?_⟩;have hp := fZ (show 0 < n by omega) hw;have hL := qO9 hp (show n <= 1000 by omega);have hlen : (wY (xK n w) n n).map List.length = lens (xK n w) n := qCL n;have hsum : ((wY (xK n w) n n).map List.length).sum <= 12 := by rw [hlen, qQP hp]; exact h12
 have hpos : ∀ c ∈ wY (xK n w) n n, 1 <= c.length := fun c hc => by
  have : c.length ∈ lens (xK n w) n := by rw [<- hlen]; exact zUN.2 ⟨c, hc, rfl⟩
  exact (qIN hp this).1
 have hpl : 1 <= qDQ (wY (xK n w) n n) := qJP _ hpos 1 (zT0 _)
 have hle : qDQ (wY (xK n w) n n) <= 4096 := by
  have h1 := qOR (wY (xK n w) n n);have h3 := zXK (n := 2) (by omega) hsum;have h4 : (2 : Nat) ^ 12 = 4096 := rfl;omega
 have he : zK3 ((n : Int), w) = some ((qDQ (wY (xK n w) n n) : Nat) : Int) := by
  show (zLU n w).run = _;unfold zLU;rw [qXI (by omega) hw (by omega), qA, q95 hL hsum hpos, qA, q9F hpl (by omega), qA, qZ]
 have hh : h = qDQ (wY (xK n w) n n) := by
  have := o.ord;rw [he] at this;injection this with this;omega
 rw [hh, q8U, <- hlen];constructor
 ·intro q c hc;obtain ⟨d, hd, rfl⟩ := zUN.1 hc;exact q d hd
 ·intro q c hc;exact q _ (zUN.2 ⟨c, hc, rfl⟩)
def q0B (f : List Int) (n : Nat) : Nat -> Nat
 | 0 => 1
 | k + 1 => Nat.lcm (q0B f n k) (cyc f n k)
theorem qGM {f : List Int} {n m : Nat} : ∀ k, q0B f n k ∣ m ↔ ∀ i, i < k -> cyc f n i ∣ m
 | 0 => by simp [q0B]
 | k + 1 => by
   constructor
   ·intro h i hi;rcases zV5 i k with h1 | h1
    ·exact (qGM k).1 (zXL (Nat.dvd_lcm_left _ _) h) i h1
    ·rw [show i = k by omega];exact zXL (zYU _ _) h
   ·intro h;exact Nat.lcm_dvd ((qGM k).2 fun i hi => h i (by omega)) (h k (by omega))
theorem qXG {n : Nat} {w : List Int} (o : Ord n w h) (hx : ∀ m, h ∣ m ↔ ∀ c ∈ lens (xK n w) n, c ∣ m) : q0B (zK n w) n n = h :=
 q3W (yM o.ok) (fZ (show 0 < n by have := o.n2; omega) o.ok) (fun i hi => qFX o.ok hi) (fun m => qGM n) hx
theorem q8M {n : Nat} (o : Ord n w h) {k : Nat} (hk : k <= n) : 1 <= q0B (zK n w) n k ∧ q0B (zK n w) n k <= 10000 := by
 have hd : q0B (zK n w) n k ∣ h := (qGM k).2 fun i hi => (qCH (yM o.ok) (show i < n by omega) h).1 (o.fix i (by omega))
 have h1 := o.h1;have h2 := o.h2;have := Nat.le_of_dvd (by omega) hd;exact ⟨Nat.pos_of_dvd_of_pos hd (by omega), by omega⟩
end Go.Proofs.YtpegkendiefkaaaGreatDoor
set_option maxRecDepth 10000
namespace Go.Proofs.YtpegkendiefkaaaGreatDoor
open Go Go.Idl Go.Sv Go.Proofs
theorem qY5 {f c : List Int} {n k : Nat} {v : Int} (hf : f.length = n) (hk : k < n) (hv : f[k]? = some v) :
 (aM (f.take k) c ++ List.replicate (n - k) 0).set k (c.getD v.toNat 0) = aM (f.take (k + 1)) c ++ List.replicate (n - (k + 1)) 0 := by
 rw [qX3 hv, qGV (by rw [aV, zU1]; omega) hk]
theorem zBB {ss fs c : List Int} (hf : inR c.length fs) (hl : fs.length = c.length) (h1000 : c.length <= 1000) : zKB ((ss, fs), c) = some (aM fs c) := by
 show (zN8 (ss, fs) c).run = _;unfold zN8;rw [q2U (by omega), qA];refine kG c.length (fun (k : Nat) (s : List Int) => ((k : Int), s)) (fun k s => s = aM (fs.take k) c ++ List.replicate (c.length - k) 0) (fun k s => aM (fs.take (k + 1)) c ++ List.replicate (c.length - (k + 1)) 0) (fun s => Sum.inl ((c.length : Int), s)) (List.replicate c.length 0) rfl (by simp [aM]) (fun k s hk hs => ?_) (fun s hs => ?_) (fun hI => ?_)
 ·refine ⟨?_, rfl⟩;have hk2 : k < fs.length := by omega
  obtain ⟨z, hz, mz⟩ := kR hk2;have hg := qY5 (c := c) hl hk hz;obtain ⟨y, rfl, hy⟩ := qWN hf hz;have hk3 : (k : Int) < (fs.length : Int) := by omega
  have hsl : s.length = c.length := by
   rw [hs, zUK, aV, zU1, zV1]; omega
  have q1 : k < s.length := by omega
  rw [zV9, <- hs] at hg;simp only [gP hk3, qG, qR hk2, qA, hz, qR hy, rd hy, qR q1, rd q1, yK (show k < 2 ^ 62 by omega), hg];rfl
 ·have : ¬ (c.length : Int) < (fs.length : Int) := by omega
  simp only [fU this, qC];rfl
 ·rw [hI];have : fs.take c.length = fs := by rw [<- hl, zU8]
  rw [this];simp only [zW, qZ, zXD, List.replicate_zero, zVL]
def qTZ (g : Nat -> Int) : Nat -> Int
 | 0 => 0
 | k + 1 => IntKind.i64.wrap (qTZ g k + g k)
noncomputable def zCM (a : Int) (h : Nat) : Int := (qAE .i64 a (h : Int)).getD 0
theorem q9Z {a b : Int} (h : b ≠ 0) : qAE .i64 a b ≠ none := by
 unfold qAE;rw [if_neg h];exact fun q => by cases q
theorem qAP {a : Int} {h : Nat} (hh : 1 <= h) : qAE .i64 a (h : Int) = some (zCM a h) := by
 unfold zCM
 cases e : qAE .i64 a (h : Int) with
 | some v => rfl
 | none => exact absurd e (q9Z (by omega))
section
variable {n h : Nat} {w : List Int}
theorem zKM (o : Ord n w h) (ss : List Int) : qJ (FMa (ss, zK n w)) (1, 0) = some (.inl (((q0B (zK n w) n n : Nat) : Int), (n : Int))) := by
 have hf := yM o.ok;have hn2 := o.n2;have zKG := o.n12;refine Exists.elim (kK (F := FMa (ss, zK n w)) (fun (k : Nat) (s : Int) => (s, (k : Int))) (fun k s => s = ((q0B (zK n w) n k : Nat) : Int)) (fun s => .inl (s, (n : Int))) (n := n) (fun k s hk hs => ?step) (fun s hs => ?fin) n 0 1 (by omega) rfl) (fun s' hh => ?main)
 case main =>
  obtain ⟨h1, h2⟩ := hh;rw [h2] at h1;exact h1
 case fin =>
  unfold FMa;have : ¬ (n : Int) < (((zK n w).length : Nat) : Int) := by rw [jD]; omega
  simp only [fU this, qC];rfl
 case step =>
  subst hs;obtain ⟨c1, c2, c3, c4⟩ := zC hf hk;obtain ⟨a1, a2⟩ := q8M o (show k <= n by omega);have hk3 : (k : Int) < (((zK n w).length : Nat) : Int) := by rw [jD]; omega
  refine ⟨((q0B (zK n w) n (k + 1) : Nat) : Int), ?_, rfl⟩;unfold FMa;simp only [gP hk3, qG, zAF (ss := ss) hf hk (show n <= 1000 by omega), qA, zDH a1 c2 (by omega) (by omega), yK (show k < 2 ^ 62 by omega)];rfl
theorem q9X (hn : n <= 1000) : qJ (FMb n) (0, List.replicate n 0, []) = some (.inl ((n : Int), qW n, [])) := by
 refine Exists.elim (kK (F := FMb n) (fun (k : Nat) (s : List Int) => ((k : Int), s, ([] : List Int))) (fun k s => s = qW k ++ List.replicate (n - k) 0) (fun s => .inl ((n : Int), s, [])) (n := n) (fun k s hk hs => ?step) (fun s hs => ?fin) n 0 (List.replicate n 0) (by omega) rfl) (fun s' hh => ?main)
 case main =>
  obtain ⟨h1, h2⟩ := hh;rw [h2, zXD, List.replicate_zero, zVL] at h1;exact h1
 case fin =>
  unfold FMb;simp only [fU (zUV _), qC];rfl
 case step =>
  subst hs;have hl : (qW k ++ List.replicate (n - k) (0 : Int)).length = n := q0R (y9 k) (by omega);have q1 : k < (qW k ++ List.replicate (n - k) (0 : Int)).length := by omega
  refine ⟨(qW k ++ List.replicate (n - k) (0 : Int)).set k (k : Int), ?_, ?_⟩
  ·unfold FMb;simp only [gP (show (k : Int) < (n : Int) by omega), qG, qR q1, rd q1, qA, yK (show k < 2 ^ 62 by omega)];rfl
  ·rw [qGV (y9 k) hk, <- qBQ]
theorem q3U {f : List Int} (hf : zH0 n f) (j : Nat) : aM f (pw f n j) = pw f n (j + 1) := by
 apply zUX;intro i;by_cases hi : i < n
 ·obtain ⟨g1, g2⟩ := jU hf hi;rw [qCN hi];unfold aM;rw [zT9, g1, zT7, zV9, getD_at (qCN g2)];rfl
 ·rw [zUF (by rw [aV, hf.len]; omega), zUF (by rw [qE2]; omega)]
theorem q40 (o : Ord n w h) {G : List Int -> Option Int} {g : Nat -> Int} (ss : List Int) (hG : ∀ j, G (asI (lens (pw (zK n w) n j) n)) = some (g j)) : qJ (FMc G (ss, zK n w) (h : Int)) (0, 0, [], qW n) = some (.inl (qTZ g h, (h : Int), [], pw (zK n w) n h)) := by
 have hf := yM o.ok;have hn2 := o.n2;have zKG := o.n12;have hh2 := o.h2;refine Exists.elim (kK (F := FMc G (ss, zK n w) (h : Int)) (fun (k : Nat) (s : Int × List Int) => (s.1, (k : Int), ([] : List Int), s.2)) (fun k s => s = (qTZ g k, pw (zK n w) n k)) (fun s => .inl (s.1, (h : Int), [], s.2)) (n := h) (fun k s hk hs => ?step) (fun s hs => ?fin) h 0 (0, qW n) (by omega) rfl) (fun s' hh => ?main)
 case main =>
  obtain ⟨h1, h2⟩ := hh;rw [h2] at h1;exact h1
 case fin =>
  unfold FMc;simp only [fU (zUV _), qC];rfl
 case step =>
  subst hs;have hpl : (pw (zK n w) n k).length = n := qE2 _ _ _;refine ⟨(qTZ g (k + 1), pw (zK n w) n (k + 1)), ?_, rfl⟩
  have hmv : zKB ((ss, zK n w), pw (zK n w) n k) = some (pw (zK n w) n (k + 1)) := by
   rw [zBB (by rw [hpl]; exact hf.ran) (by rw [hpl, hf.len]) (by omega), q3U hf]
  unfold FMc;simp only [gP (show (k : Int) < (h : Int) by omega), qG, zE6 (ss := []) (qN4 hf k) (show n <= 1000 by omega), qA, hG, hmv, yK (show k < 2 ^ 62 by omega)];rfl
def q98 (n : Nat) (w : List Int) (c : Int) (j : Nat) : Int := zBZ c (lens (pw (zK n w) n j) n).length
noncomputable def zFG (n : Nat) (w : List Int) (c : Int) (h : Nat) : Int := zCM (qTZ (q98 n w c) h) h
theorem zGQ (o : Ord n w h) (c : Int) : H41 ((n : Int), w, c) = some (zFG n w c h) := by
 have hn2 := o.n2;have zKG := o.n12;have hh2 := o.h2;have hw := o.ok;have hp := fZ (show 0 < n by omega) hw;show (G41 n w c).run = _;unfold G41;simp only [o.ord, qA]
 have hloop : qJ (F41 (n : Int) w c (h : Int)) (0, 0) = some (.inl (qTZ (q98 n w c) h, (h : Int))) := by
  refine Exists.elim (kK (F := F41 (n : Int) w c (h : Int)) (fun (k : Nat) (s : Int) => (s, (k : Int))) (fun k s => s = qTZ (q98 n w c) k) (fun s => .inl (s, (h : Int))) (n := h) (fun k s hk hs => ?step) (fun s hs => ?fin) h 0 0 (by omega) rfl) (fun s' hh => ?main)
  case main =>
   obtain ⟨h1, h2⟩ := hh;rw [h2] at h1;exact h1
  case fin =>
   unfold F41;simp only [fU (zUV _), qC];rfl
  case step =>
   subst hs;refine ⟨qTZ (q98 n w c) (k + 1), ?_, rfl⟩
   have hlen : (wY (pw (xK n w) n k) n n).length = (lens (pw (zK n w) n k) n).length := by
    have := congrArg List.length (qCL (n := n) (p := pw (xK n w) n k) n);rw [zUO] at this;rw [this, qCG (yM hw) hp (fun i hi => qFX hw hi)];rfl
   have hlb := qAO (pw (zK n w) n k) n n;have hlb : (lens (pw (zK n w) n k) n).length <= n := hlb;unfold F41;simp only [gP (show (k : Int) < (h : Int) by omega), qG, qXI (show n <= 1000 by omega) hw (by have := o.l24; omega), qA, q9O hp (show n <= 1000 by omega) (show k < 2 ^ 30 by omega), qO9 (qN4 hp k) (show n <= 1000 by omega), hlen, zD0 (show (lens (pw (zK n w) n k) n).length < 2 ^ 62 by omega), yK (show k < 2 ^ 62 by omega)];rfl
 refine (congrArg (fun x => (zHP.bind x _ : Option _)) hloop).trans ?_;simp only [qA, zW, qAP o.h1, qZ];rfl
def tZ (c : Int) : Int := cond (qAV c 1 8) 3 0
theorem zAQ {c : Int} : zME c = some (tZ c) := by
 show (zN2 c).run = _;unfold zN2;rw [q03, qA, qZ];rfl
theorem q08 {m : Int} {c : Int} {w : List Int} (hw : w.length < 2 ^ 62) (he : wQ [bY m w, tZ c] ≠ 0) : H35 (m, w, c) = some (0, wQ [bY m w, tZ c]) := by
 show (G35 m w c).run = _;unfold G35;simp only [zA0 hw, zAQ, qA, q3L (l := [bY m w, tZ c]) (by simp), (ne0 he).2, qG, qZ]
theorem zGX (o : Ord n w h) (hx : ∀ m, h ∣ m ↔ ∀ c ∈ lens (xK n w) n, c ∣ m) {c : Int} (he : wQ [bY n w, tZ c] = 0) : H35 ((n : Int), w, c) = some (zFG n w c h, 0) := by
 have hn2 := o.n2;have zKG := o.n12;have zTW := o.l24;have hmk : mkN (((zK n w).length : Nat) : Int) = some n := by rw [jD]; exact q2U (by omega)
 show (G35 n w c).run = _;unfold G35;have hz : ((0 : Int) != 0) = false := rfl;simp only [zA0 (show w.length < 2 ^ 62 by omega), zAQ, qA, q3L (l := [bY n w, tZ c]) (by simp), he, hz, qC, zC2 (show n <= 1000 by omega) o.ok (show w.length <= 1000 by omega)];have hA := zKM o (rA w (qW n)).1;rw [qXG o hx] at hA;have hB := q9X (n := n) (by omega)
 have hC := q40 o (G := fun x13 => zKC (c, (x13.length : Int))) (g := q98 n w c) (rA w (qW n)).1 (fun j => by
  have hlb : (lens (pw (zK n w) n j) n).length <= n := qAO _ n n;show zKC (c, ((asI (lens (pw (zK n w) n j) n)).length : Int)) = _;rw [qNU, zA7 (by omega)]
  rfl)
 refine (congrArg (fun x => (zHP.bind x _ : Option _)) hA).trans ?_;simp only [qA, zW];refine (congrArg (fun x => (zHP.bind x _ : Option _)) hmk).trans ?_;simp only [qA];refine (congrArg (fun x => (zHP.bind x _ : Option _)) hB).trans ?_;simp only [qA, zW];refine (congrArg (fun x => (zHP.bind x _ : Option _)) hC).trans ?_;simp only [qA, zW, qAP o.h1];rfl
end
end Go.Proofs.YtpegkendiefkaaaGreatDoor
set_option maxRecDepth 10000
namespace Go.Proofs.YtpegkendiefkaaaGreatDoor
open Go Go.Idl Go.Sv Go.Proofs
variable {k : Nat} {l : List Int}
noncomputable def J36 (x2 : List Int) (p q : Int) (A : List Int) : Option ((Int × Int × Int × Int × Int × Int × Int × Int × Int × Int) ⊕ Int × Int × Int × Int × Int × Int × Int × Int × Int × Int ⊕ Int × Int ⊕ Nat × Int × Int × Int × Int × Int × Int × Int × Int × Int × Int) := zHP.ite (decide (q < (↑x2.length : Int))) (zHP.bind (idx x2.length q) fun (x7 : Nat) => zHP.bind x2[x7]? fun (x8 : Int) => zHP.bind (zKA (x8, 0, 12)) fun (x9 : Int) => zHP.ite (x9 != 0) (zHP.ret (Sum.inr (Sum.inr (Sum.inl (0, x9))))) (zHP.bind (idx 8 q) fun (x10 : Nat) => zHP.bind (qT0 (0 + x10 * 1) x8 A) fun (x11 : List Int) => zHP.ret (Sum.inl (IntKind.i64.wrap (p + x8), IntKind.i64.wrap (q + 1), qCO x11)))) (zHP.ret (Sum.inr (Sum.inl (p, q, qCO A))))
theorem zO6 {x2 A : List Int} {p q : Int} (hA : A.length = 8) : F36 x2 (p, q, qCO A) = J36 x2 p q A := by
 match A, hA with
 | [a0, a1, a2, a3, a4, a5, a6, a7], _ => rfl
theorem q6X (l : List Nat) : (asI l).sum = ((l.sum : Nat) : Int) := by
 induction l with
 | nil => rfl
 | cons c l ih =>
   show (c : Int) + (asI l).sum = _;rw [ih, zVQ];omega
theorem zBV : ∀ (k : Nat) (L : List (List Int)) (a : Nat) (l : List Int), a <= L.length -> L.length < a + k -> L.length <= 1000 -> (∀ c ∈ L, c.length <= 1000) -> l.length <= 1000 -> (∀ x ∈ l, 0 <= x ∧ x <= 1000) -> zJ1 k (L, (a : Int), l) = some (IntKind.i64.wrap (wW true (asI ((L.drop a).map List.length)) l))
 | 0, L, a, l, h1, h2, _, _, _, _ => by omega
 | k + 1, L, a, l, h1, h2, hL, hc, hl, hr => by
   show (zMY (zJ1 k) L a l).run = _;unfold zMY;by_cases e : a = L.length
   ·have hb : ((a : Int) == ((L.length : Nat) : Int)) = true := by rw [e]; simp
    rw [hb, qG, qZ, e, List.drop_length];rfl
   ·have hb : ((a : Int) == ((L.length : Nat) : Int)) = false := by
     simp only [beq_eq_false_iff_ne, ne_eq];omega
    have ha : a < L.length := by omega
    obtain ⟨c, hca, mc⟩ := kR ha;have hcl := hc c mc
    have hdrop : (L.drop a).map List.length = c.length :: (L.drop (a + 1)).map List.length := by
     rw [zVG ha, zUB];rw [zT1 ha] at hca;injection hca with hca;rw [hca]
    rw [hb, qC, hdrop];have hW : wW true (asI (c.length :: (L.drop (a + 1)).map List.length)) l = ((List.range l.length).map fun i => if (c.length : Int) <= l.getD i 0 then wW true (asI ((L.drop (a + 1)).map List.length)) (l.set i (l.getD i 0 - c.length)) else 0).sum := rfl;generalize hT : (fun i => if (c.length : Int) <= l.getD i 0 then wW true (asI ((L.drop (a + 1)).map List.length)) (l.set i (l.getD i 0 - c.length)) else 0) = T at hW;rw [hW]
    have hloop : qJ (zK4 (zJ1 k) L (a : Int) l) (0, 0) = some (.inl (IntKind.i64.wrap ((List.range l.length).map T).sum, (l.length : Int))) := by
     refine Exists.elim (kK (F := zK4 (zJ1 k) L (a : Int) l) (fun (i : Nat) (s : Int) => (s, (i : Int))) (fun i s => s = IntKind.i64.wrap ((List.range i).map T).sum) (fun s => .inl (s, (l.length : Int))) (n := l.length) (fun i s hi hs => ?step) (fun s hs => ?fin) l.length 0 0 (by omega) rfl) (fun s' hh => ?main)
     case main =>
      obtain ⟨h1, h2⟩ := hh;rw [h2] at h1;exact h1
     case fin =>
      unfold zK4;simp only [fU (zUV _), qC];rfl
     case step =>
      have hx : l[i]? = some (l.getD i 0) := rd hi;have hxr := hr _ (qGD hi)
      have hlb : l.length.beq 0 = false := by
       cases hq : l.length.beq 0 with
       | false => rfl
       | true => have := zTZ hq; omega
      have hblt : (0 + l.length).ble 1048576 = true := zUG (by omega);have hi0 : i < 0 + l.length := by omega
      have hxa : ([] ++ l)[i]? = some (l.getD i 0) := hx
      have hsum : ((List.range (i + 1)).map T).sum = ((List.range i).map T).sum + T i := by
       rw [zWB, zUR, zWL];simp
      have hT0 : T i = if (c.length : Int) <= l.getD i 0 then wW true (asI ((L.drop (a + 1)).map List.length)) (l.set i (l.getD i 0 - c.length)) else 0 := by rw [<- hT]
      by_cases hle : (c.length : Int) <= l.getD i 0
      ·rw [if_pos hle] at hT0;have hw : IntKind.i64.wrap (l.getD i 0 - (c.length : Int)) = l.getD i 0 - (c.length : Int) := wrap_i64 (by omega) (by omega)
       have ih := zBV k L (a + 1) (l.set i (l.getD i 0 - c.length)) (by omega) (by omega) hL hc (by rw [zUY]; exact hl) (fun x hx => by
        rcases zVH hx with q | rfl
        ·exact hr x q
        ·omega)
       refine ⟨IntKind.i64.wrap (s + IntKind.i64.wrap (T i)), ?_, ?_⟩
       ·unfold zK4;simp only [gP (show (i : Int) < ((l.length : Nat) : Int) by omega), qG, qR hi, hx, qA, qR ha, hca, decide_eq_true hle, hlb, qC, hblt, qR hi0, hxa, hw, yK (show a < 2 ^ 62 by omega), zXS, ih, hT0, yK (show i < 2 ^ 62 by omega)];rfl
       ·rw [hs, qUC, wrap_add, hsum]
      ·rw [if_neg hle] at hT0;refine ⟨s, ?_, ?_⟩
       ·unfold zK4;simp only [gP (show (i : Int) < ((l.length : Nat) : Int) by omega), qG, qR hi, hx, qA, qR ha, hca, decide_eq_false hle, qC, yK (show i < 2 ^ 62 by omega)];rfl
       ·rw [hs, hsum, hT0, zXW]
    refine (congrArg (fun x => (zHP.bind x _ : Option _)) hloop).trans ?_;rfl
def sQ (x : Int) : Bool := !qAV x 0 12
def qLY (n : Int) (l : List Int) : Int := if 8 < l.length then 5 else cond (l.all sQ) (if l.sum = n then 0 else 2) 3
theorem qW3 {x : Int} (h : sQ x = true) : 0 <= x ∧ x <= 12 := by
 unfold sQ qAV at h;simp at h;omega
theorem qPL (h : k < l.length) : (l.take (k + 1)).sum = (l.take k).sum + l.getD k 0 := by
 rw [gI (rd h), zWL];simp
theorem qL6 : ∀ {l : List Int}, l.all sQ = true -> 0 <= l.sum ∧ l.sum <= 12 * l.length
 | [], _ => ⟨by simp, by simp⟩
 | x :: l, h => by
   rw [zV6, zTY] at h;have h1 := qW3 h.1;have h2 := qL6 h.2;simp only [zVQ, zUI];omega
theorem qRG (hk : k < l.length) (h : (l.take k).all sQ = true) (hb : sQ (l.getD k 0) = true) : (l.take (k + 1)).all sQ = true := by
 rw [gI (rd hk), zXQ, h, zV6, hb];rfl
theorem qO1 (hk : k < l.length) : (l.drop k).all sQ = (sQ (l.getD k 0) && (l.drop (k + 1)).all sQ) := by
 have hx := rd hk;rw [zT1 hk] at hx;injection hx with hx;rw [zVG hk, zV6, hx]
theorem q5J {l : List Int} (hl : l.length <= 8) : ∀ (m k : Nat), k + m = l.length -> (l.take k).all sQ = true -> qJ (F39 l) ((l.take k).sum, (k : Int)) = some (cond ((l.drop k).all sQ) (.inl (l.sum, (l.length : Int))) (.inr (.inl 3)))
 | 0, k, h, _ => by
   have hk : k = l.length := by omega
   have e : F39 l ((l.take k).sum, (k : Int)) = some (.inr (.inl ((l.take k).sum, (k : Int)))) := by
    unfold F39;simp only [hk, fU (zUV _), qC];rfl
   rw [qO, e, hk, List.drop_length, zU8];rfl
 | m + 1, k, h, ht => by
   have hk : k < l.length := by omega
   have hx := rd hk;have hk3 : (k : Int) < ((l.length : Nat) : Int) := by omega
   have h38 : H38 (l.getD k 0, 0, 12) = some (!sQ (l.getD k 0)) := by
    rw [q82];unfold sQ qAV;simp
   rw [qO1 hk]
   cases hb : sQ (l.getD k 0) with
   | false =>
     have e : F39 l ((l.take k).sum, (k : Int)) = some (.inr (.inr (.inl 3))) := by
      unfold F39;simp only [gP hk3, qG, qR hk, hx, qA, h38, hb, zVV];rfl
     rw [qO, e];rfl
   | true =>
     have h1 := qW3 hb;have h2 := qL6 ht;have hlen : (l.take k).length <= 8 := by rw [zU1]; omega
     have hw : IntKind.i64.wrap ((l.take k).sum + l.getD k 0) = (l.take (k + 1)).sum := by
      rw [qPL hk];exact wrap_i64 (by omega) (by omega)
     have e : F39 l ((l.take k).sum, (k : Int)) = some (.inl ((l.take (k + 1)).sum, ((k + 1 : Nat) : Int))) := by
      unfold F39;simp only [gP hk3, qG, qR hk, hx, qA, h38, hb, zVK, qC, hw, yK (show k < 2 ^ 62 by omega)];rfl
     rw [qO, e];exact q5J hl m (k + 1) (by omega) (qRG hk ht hb)
theorem len8 (l : List Int) : decide ((8 : Int) < ((l.length : Nat) : Int)) = decide (8 < l.length) := by
 by_cases h : 8 < l.length
 ·rw [decide_eq_true h, decide_eq_true (by omega)]
 ·rw [decide_eq_false h, decide_eq_false (by omega)]
theorem zHO {n : Int} : H39 (n, l) = some (qLY n l) := by
 show (G39 n l).run = _;unfold G39 qLY;rw [len8];by_cases h8 : 8 < l.length
 ·rw [decide_eq_true h8, if_pos h8]; rfl
 ·rw [decide_eq_false h8, if_neg h8, qC];have hloop := q5J (l := l) (by omega) l.length 0 (by omega) rfl;have hloop : qJ (F39 l) (0, 0) = some (cond (l.all sQ) (.inl (l.sum, (l.length : Int))) (.inr (.inl 3))) := hloop;refine (congrArg (fun x => (zHP.bind x _ : Option _)) hloop).trans ?_
  cases l.all sQ with
  | false => rfl
  | true =>
    simp only [cond_true, qA, zW];by_cases hs : l.sum = n
    ·have : (l.sum != n) = false := by simp [hs]
     rw [this, if_pos hs]; rfl
    ·have : (l.sum != n) = true := by simp [hs]
     rw [this, if_neg hs]; rfl
def qDR (l : List Int) (k : Nat) : List Int := l.take k ++ List.replicate (8 - k) 0
theorem pI (hl : l.length <= 8) (hk : k <= l.length) : (qDR l k).length = 8 := by
 unfold qDR;rw [zUK, zU1, zV1];omega
theorem q1R (hl : l.length <= 8) (hk : k < l.length) : (qDR l k).set k (l.getD k 0) = qDR l (k + 1) := by
 unfold qDR;rw [qGV (by rw [zU1]; omega) (by omega), gI (rd hk)]
theorem qYO {l : List Int} (hl : l.length <= 8) : ∀ (m k : Nat), k + m = l.length -> (l.take k).all sQ = true -> qJ (F36 l) ((l.take k).sum, (k : Int), qCO (qDR l k)) = some (cond ((l.drop k).all sQ) (.inl (l.sum, (l.length : Int), qCO (qDR l l.length))) (.inr (.inl (0, 3))))
 | 0, k, h, _ => by
   have hk : k = l.length := by omega
   have e : F36 l ((l.take k).sum, (k : Int), qCO (qDR l k)) = some (.inr (.inl ((l.take k).sum, (k : Int), qCO (qDR l k)))) := by
    rw [zO6 (pI hl (by omega))];unfold J36;simp only [hk, fU (zUV _), qC];rfl
   rw [qO, e, hk, List.drop_length, zU8];rfl
 | m + 1, k, h, ht => by
   have hk : k < l.length := by omega
   have hx := rd hk;have hk3 : (k : Int) < ((l.length : Nat) : Int) := by omega
   rw [qO1 hk]
   cases hb : sQ (l.getD k 0) with
   | false =>
     have ho : qAV (l.getD k 0) 0 12 = true := by
      unfold sQ at hb;simpa using hb
     have e : F36 l ((l.take k).sum, (k : Int), qCO (qDR l k)) = some (.inr (.inr (.inl (0, 3)))) := by
      rw [zO6 (pI hl (by omega))];unfold J36;simp only [gP hk3, qG, qR hk, hx, qA];rw [q03, ho];rfl
     rw [qO, e];rfl
   | true =>
     have h1 := qW3 hb;have h2 := qL6 ht
     have ho : qAV (l.getD k 0) 0 12 = false := by
      unfold sQ at hb;simpa using hb
     have hlen : (l.take k).length <= 8 := by rw [zU1]; omega
     have hw : IntKind.i64.wrap ((l.take k).sum + l.getD k 0) = (l.take (k + 1)).sum := by
      rw [qPL hk];exact wrap_i64 (by omega) (by omega)
     have hset : qT0 (0 + k * 1) (l.getD k 0) (qDR l k) = some (qDR l (k + 1)) := by
      unfold qT0;rw [show 0 + k * 1 = k by omega, if_pos (by rw [pI hl (by omega)]; omega), q1R hl hk]
     have e : F36 l ((l.take k).sum, (k : Int), qCO (qDR l k)) = some (.inl ((l.take (k + 1)).sum, ((k + 1 : Nat) : Int), qCO (qDR l (k + 1)))) := by
      rw [zO6 (pI hl (by omega))];unfold J36;simp only [gP hk3, qG, qR hk, hx, qA, zCS (show k < 8 by omega), hset, hw, yK (show k < 2 ^ 62 by omega)];rw [q03, ho];rfl
     rw [qO, e];exact qYO hl m (k + 1) (by omega) (qRG hk ht hb)
def q8A (n : Nat) (w l : List Int) (j : Nat) : Int := IntKind.i64.wrap (wW true (asI (lens (pw (zK n w) n j) n)) l)
noncomputable def zD3 (n : Nat) (w l : List Int) (h : Nat) : Int := zCM (qTZ (q8A n w l) h) h
theorem qWQ {n : Nat} (h : qLY n l = 0) : l.length <= 8 ∧ l.all sQ = true ∧ l.sum = (n : Int) := by
 unfold qLY at h;split at h
 ·cases h
 ·cases hb : l.all sQ with
  | false => rw [hb] at h; cases h
  | true =>
    rw [hb] at h;simp only [cond_true] at h;split at h
    ·exact ⟨by omega, rfl, by assumption⟩
    ·cases h
section
variable {n h : Nat} {w : List Int}
theorem zGI (o : Ord n w h) (hb : qLY n l = 0) : H42 ((n : Int), w, l) = some (zD3 n w l h) := by
 have hn2 := o.n2;have zKG := o.n12;have hh2 := o.h2;have hw := o.ok;obtain ⟨b1, b2, b3⟩ := qWQ hb
 have hlr : ∀ x ∈ l, 0 <= x ∧ x <= 1000 := fun x hx => by
  have := qW3 (zT3.1 b2 x hx);omega
 have hp := fZ (show 0 < n by omega) hw;show (G42 n w l).run = _;unfold G42;simp only [o.ord, qA]
 have hloop : qJ (F42 (n : Int) w l (h : Int)) (0, 0) = some (.inl (qTZ (q8A n w l) h, (h : Int))) := by
  refine Exists.elim (kK (F := F42 (n : Int) w l (h : Int)) (fun (k : Nat) (s : Int) => (s, (k : Int))) (fun k s => s = qTZ (q8A n w l) k) (fun s => .inl (s, (h : Int))) (n := h) (fun k s hk hs => ?step) (fun s hs => ?fin) h 0 0 (by omega) rfl) (fun s' hh => ?main)
  case main =>
   obtain ⟨h1, h2⟩ := hh;rw [h2] at h1;exact h1
  case fin =>
   unfold F42;simp only [fU (zUV _), qC];rfl
  case step =>
   subst hs;refine ⟨qTZ (q8A n w l) (k + 1), ?_, rfl⟩
   have zNF : (wY (pw (xK n w) n k) n n).map List.length = lens (pw (zK n w) n k) n := by
    rw [qCL, qCG (yM hw) hp (fun i hi => qFX hw hi)];rfl
   have hcl := qG7 (n := n) (p := pw (xK n w) n k) n
   have hcc : ∀ c ∈ wY (pw (xK n w) n k) n n, c.length <= 1000 := fun c hc => by
    have : c.length ∈ lens (pw (zK n w) n k) n := by rw [<- zNF]; exact zUN.2 ⟨c, hc, rfl⟩
    have := (qIN (qN4 (yM hw) k) this).2;omega
   have zTX : zO5 (wY (pw (xK n w) n k) n n, 0, l) = some (q8A n w l k) := by
    have := zBV 14 (wY (pw (xK n w) n k) n n) 0 l (by omega) (by omega) (by omega) hcc (by omega) hlr;rw [zVU, zNF] at this;exact this
   unfold F42;simp only [gP (show (k : Int) < (h : Int) by omega), qG, qXI (show n <= 1000 by omega) hw (by have := o.l24; omega), qA, q9O hp (show n <= 1000 by omega) (show k < 2 ^ 30 by omega), qO9 (qN4 hp k) (show n <= 1000 by omega), zTX, yK (show k < 2 ^ 62 by omega)];rfl
 refine (congrArg (fun x => (zHP.bind x _ : Option _)) hloop).trans ?_;simp only [qA, zW, qAP o.h1, qZ];rfl
theorem qVO (o : Ord n w h) (hb : qLY n l = 0) : zKX (asI (lens (pw (zK n w) n k) n), qCO (qDR l l.length)) = some (q8A n w l k) := by
 have hw := o.ok;have zKG := o.n12;obtain ⟨b1, b2, b3⟩ := qWQ hb;have hpk := qN4 (yM hw) k
 have hlr : ∀ x ∈ l, 0 <= x ∧ x <= 1000 := fun x hx => by
  have := qW3 (zT3.1 b2 x hx);omega
 have hpos : ∀ c ∈ asI (lens (pw (zK n w) n k) n), 1 <= c := fun c hc => by
  obtain ⟨d, hd, rfl⟩ := zUN.1 hc;have := (qIN hpk hd).1;omega
 have hll : (asI (lens (pw (zK n w) n k) n)).length <= n := by rw [qNU]; exact qAO _ n n
 have harr : qDR l l.length = l ++ List.replicate (8 - l.length) 0 := by unfold qDR; rw [zU8]
 rw [zEN hpos (by omega) (pI b1 (zT0 _)) (fun x hx => by
  rw [harr] at hx;rcases zUQ.1 hx with q | q
  ·exact hlr x q
  ·have := List.eq_of_mem_replicate q
   omega), harr, q4O _ _ hpos, qUH (fun x hx => (hlr x hx).1) (by rw [b3, q6X, qQP hpk])]
 rfl
theorem zAY (b : Bool) : H89 (b, 5) = some (cond b 5 0) := zCA _
theorem q0U {m : Int} {w : List Int} (hw : w.length < 2 ^ 62) (he : wQ [bY m w, qLY m l] ≠ 0) : H36 (m, w, l) = some (0, wQ [bY m w, qLY m l]) := by
 show (G36 m w l).run = _;unfold G36;rw [len8];rw [zA0 hw, qA, zAY, qA, q3L (l := [bY m w, cond (decide (8 < l.length)) 5 0]) (by simp), qA];by_cases h1 : bY m w = 0
 ·rw [h1, q02, q25] at he ⊢;rw [q02, q25];unfold qLY at he ⊢;by_cases h8 : 8 < l.length
  ·rw [decide_eq_true h8, if_pos h8]; rfl
  ·rw [if_neg h8] at he ⊢;have hz : ((0 : Int) != 0) = false := rfl;rw [decide_eq_false h8, cond_false, hz, qC];have hloop : qJ (F36 l) (0, 0, qCO (qDR l 0)) = some (cond (l.all sQ) (.inl (l.sum, (l.length : Int), qCO (qDR l l.length))) (.inr (.inl (0, 3)))) := qYO (l := l) (by omega) l.length 0 (by omega) rfl;refine (congrArg (fun x => (zHP.bind x _ : Option _)) hloop).trans ?_
   cases hb : l.all sQ with
   | false => rfl
   | true =>
     rw [hb] at he;simp only [cond_true] at he ⊢;have hs : ¬ l.sum = m := fun q => he (by rw [if_pos q])
     have hs2 : (l.sum != m) = true := by simp [hs]
     simp only [qA, zW, hs2, qG, if_neg hs];rfl
 ·rw [qT6 h1, qT6 h1, (ne0 h1).2, qG];rfl
theorem zG9 (o : Ord n w h) (hx : ∀ m, h ∣ m ↔ ∀ c ∈ lens (xK n w) n, c ∣ m) (h0 : bY n w = 0) (hb : qLY n l = 0) : H36 ((n : Int), w, l) = some (zD3 n w l h, 0) := by
 have hn2 := o.n2;have zKG := o.n12;have zTW := o.l24;obtain ⟨b1, b2, b3⟩ := qWQ hb;have hmk : mkN (((zK n w).length : Nat) : Int) = some n := by rw [jD]; exact q2U (by omega)
 show (G36 n w l).run = _;unfold G36;have hz : ((0 : Int) != 0) = false := rfl;rw [len8, decide_eq_false (show ¬ 8 < l.length by omega)];rw [zA0 (show w.length < 2 ^ 62 by omega), h0, qA, zAY, cond_false, qA, q3L (l := [0, 0]) (by simp), qA, q02, q25, hz, qC];have hloop : qJ (F36 l) (0, 0, qCO (qDR l 0)) = some (cond (l.all sQ) (.inl (l.sum, (l.length : Int), qCO (qDR l l.length))) (.inr (.inl (0, 3)))) := qYO b1 l.length 0 (by omega) rfl;rw [b2] at hloop;refine (congrArg (fun x => (zHP.bind x _ : Option _)) hloop).trans ?_;have hs2 : (l.sum != (n : Int)) = false := by simp [b3]
 simp only [cond_true, qA, zW, hs2, qC, zC2 (show n <= 1000 by omega) o.ok (show w.length <= 1000 by omega)];have hA := zKM o (rA w (qW n)).1;rw [qXG o hx] at hA;have hB := q9X (n := n) (by omega);have hC := q40 o (G := fun x13 => zKX (x13, qCO (qDR l l.length))) (g := q8A n w l) (rA w (qW n)).1 (fun j => qVO o hb);refine (congrArg (fun x => (zHP.bind x _ : Option _)) hA).trans ?_;simp only [qA, zW];refine (congrArg (fun x => (zHP.bind x _ : Option _)) hmk).trans ?_;simp only [qA];refine (congrArg (fun x => (zHP.bind x _ : Option _)) hB).trans ?_;simp only [qA, zW];refine (congrArg (fun x => (zHP.bind x _ : Option _)) hC).trans ?_;simp only [qA, zW, qAP o.h1];rfl
end
end Go.Proofs.YtpegkendiefkaaaGreatDoor
set_option maxRecDepth 10000
namespace Go.Proofs.YtpegkendiefkaaaGreatDoor
open Go Go.Idl Go.Sv Go.Proofs
theorem zHL {b : Bool} {e : Int} : H30 (b, e) = some (cond b e 0) := by
 show (G30 b e).run = _;unfold G30;cases b <;> rfl
theorem qUA {a : List Int} {e : Int} (ha : a.length < 2 ^ 62) : H33 (a, e, a, e) = some true := by
 show (G33 a e a e).run = _;unfold G33;have : (e == e) = true := by simp
 rw [vK, this, qG, zGO ha, qA, qZ];simp
theorem qEA {a e : Int} : H43 (a, e, a, e) = some true := by
 rw [zGE];simp
theorem zHI {n : Nat} {w c : List Int} (h2 : 1 <= n) (hn : n <= 1000) (hw : okW n w) (hl : w.length <= 1000) (hc : c.length = n) : H40 ((n : Int), w, c) = some (aM (zK n w) c) := by
 show (G40 n w c).run = _;unfold G40;have hp := fZ (show 0 < n by omega) hw;have hpl := hp.len;rw [qXI hn hw hl, qA, q2U (by omega), qA, <- q0L (by omega) hw hc];generalize xK n w = p at hp hpl;refine kG n (fun (k : Nat) (s : List Int) => ((k : Int), s)) (fun k s => s = fI p c n k) (fun k s => fI p c n (k + 1)) (fun s => Sum.inl ((n : Int), s)) (List.replicate n 0) rfl rfl (fun k s hk hs => ?_) (fun s hs => ?_) (fun hI => ?_)
 ·refine ⟨?_, rfl⟩;have hk2 : k < p.length := by omega
  have hk4 : k < c.length := by omega
  obtain ⟨z, hz, mz⟩ := kR hk2;obtain ⟨y, rfl, hy⟩ := qWN hp.ran hz;have hk3 : (k : Int) < (n : Int) := by omega
  have hsl : s.length = n := by rw [hs, gM]
  have q1 : y < s.length := by omega
  have e : fI p c n (k + 1) = s.set y (c.getD k 0) := by
   rw [fI, <- hs, getD_at hz, zV9]
  rw [e];simp only [gP hk3, qG, qR hk2, qA, hz, qR hk4, rd hk4, qR q1, rd q1, yK (show k < 2 ^ 62 by omega)];rfl
 ·simp only [fU (zUV _), qC];rfl
 ·rw [hI];simp only [zW, qZ]
theorem zEA {l : List Int} (hl : l.length <= 30) : ∃ v, qJ (F5 l) (0, 0) = some (.inl (v, (l.length : Int))) := by
 refine Exists.elim (kK (F := F5 l) (fun (k : Nat) (s : Int) => (s, (k : Int))) (fun k s => True) (fun s => .inl (s, (l.length : Int))) (n := l.length) (fun k s hk hs => ?step) (fun s hs => ?fin) l.length 0 0 (by omega) trivial) (fun s' hh => ⟨s', hh.1⟩)
 case fin =>
  unfold F5;simp only [fU (zUV _), qC];rfl
 case step =>
  have : ∃ s', F5 l (s, (k : Int)) = some (.inl (s', ((k + 1 : Nat) : Int))) := by
   unfold F5;simp only [gP (show (k : Int) < ((l.length : Nat) : Int) by omega), qG, qR hk, rd hk, qA, yK (show k < 2 ^ 62 by omega)];exact ⟨_, rfl⟩
  obtain ⟨s', h⟩ := this;exact ⟨s', h, trivial⟩
theorem zHN (n : Int) (w l : List Int) (c : Int) : H5 ((n, w), l, c) = some true := by
 show (G5 (n, w) l c).run = _;unfold G5;by_cases hlw : w.length <= 27
 case neg =>
  have : decide ((w.length : Int) <= 27) = false := decide_eq_false (by omega);simp only [this, zVV, bP, zVK, qC, qZ]
 have d1 : decide ((w.length : Int) <= 27) = true := decide_eq_true (by omega);by_cases hlc : l.length <= 30
 case neg =>
  have : decide ((30 : Int) < (l.length : Int)) = true := decide_eq_true (by omega);simp only [d1, zVK, bP, zVV, qG, this, qZ]
 have d2 : decide ((30 : Int) < (l.length : Int)) = false := decide_eq_false (by omega);have zM0 : w.length < 2 ^ 62 := by omega
 have zRL : l.length < 2 ^ 62 := by omega
 have f2 : ∀ a b : Int, H37 [a, b] = some (wQ [a, b]) := fun a b => zFJ (by simp)
 have p2 : ∀ a b : Int, H87 [a, b] = some (wQ [a, b]) := fun a b => q3L (by simp)
 have hz : ((0 : Int) != 0) = false := rfl
 -- what is known of a valid scheme
 have hO : bY n w = 0 -> ∃ (m : Nat) (h : Nat), n = (m : Int) ∧ Ord m w h ∧ ∀ d, h ∣ d ↔ ∀ c ∈ lens (xK m w) m, c ∣ d := fun he => by
  obtain ⟨m, rfl, m2, m12, hok, l1, l24⟩ := q7M he;obtain ⟨h, o, hx⟩ := zBA m2 m12 hok l1 l24;exact ⟨m, h, rfl, o, hx⟩
 have zz : ∀ {a b : Int}, wQ [a, b] = 0 -> a = 0 ∧ b = 0 := fun {a b} q => by
  by_cases ha : a = 0
  ·rw [ha, q02, q25] at q; exact ⟨ha, q⟩
  ·rw [qT6 ha] at q; exact absurd q ha
 have A1 : ∃ mv, H34 (n, w, l) = some (mv, wQ [bY n w, qTF n l]) ∧ mv.length < 2 ^ 62 ∧ (wQ [bY n w, qTF n l] = 0 -> H40 (n, w, l) = some mv) ∧ (wQ [bY n w, qTF n l] ≠ 0 -> mv = []) := by
  by_cases h1 : wQ [bY n w, qTF n l] = 0
  ·obtain ⟨he, hq⟩ := zz h1;obtain ⟨m, h, rfl, o, hx⟩ := hO he;have hcl : l.length = m := by have := q8G hq; omega
   have hf := yM o.ok;have zKG := o.n12;refine ⟨aM (zK m w) l, ?_, by rw [aV, jD]; omega, fun _ => zHI (by have := o.n2; omega) (by omega) o.ok (by omega) hcl, fun q => absurd h1 q⟩;show (G34 m w l).run = _;unfold G34;rw [zBD zM0 zRL, qA, h1, hz, qC, zC2 (by omega) o.ok (by omega), qA];rw [show zKB (((rA w (qW m)).1, (rA w (qW m)).2), l) = some (aM (zK m w) l) from zBB (by rw [hcl]; exact hf.ran) (by rw [hcl]; exact jD m w) (by omega), qA, qZ]
  ·refine ⟨[], ?_, by simp, fun q => absurd q h1, fun _ => rfl⟩;show (G34 n w l).run = _;unfold G34;rw [zBD zM0 zRL, qA, (ne0 h1).2, qG, qZ]
 have A2 : ∃ cv, H35 (n, w, c) = some (cv, wQ [bY n w, tZ c]) ∧ (wQ [bY n w, tZ c] = 0 -> H41 (n, w, c) = some cv) ∧ (wQ [bY n w, tZ c] ≠ 0 -> cv = 0) := by
  by_cases h1 : wQ [bY n w, tZ c] = 0
  ·obtain ⟨he, hq⟩ := zz h1;obtain ⟨m, h, rfl, o, hx⟩ := hO he;exact ⟨zFG m w c h, by rw [zGX o hx h1, h1], fun _ => zGQ o c, fun q => absurd h1 q⟩
  ·exact ⟨0, q08 zM0 h1, fun q => absurd q h1, fun _ => rfl⟩
 have A3 : ∃ kv, H36 (n, w, l) = some (kv, wQ [bY n w, qLY n l]) ∧ (wQ [bY n w, qLY n l] = 0 -> H42 (n, w, l) = some kv) ∧ (wQ [bY n w, qLY n l] ≠ 0 -> kv = 0) := by
  by_cases h1 : wQ [bY n w, qLY n l] = 0
  ·obtain ⟨he, hq⟩ := zz h1;obtain ⟨m, h, rfl, o, hx⟩ := hO he;exact ⟨zD3 m w l h, by rw [zG9 o hx he hq, h1], fun _ => zGI o hq, fun q => absurd h1 q⟩
  ·exact ⟨0, q0U zM0 h1, fun q => absurd q h1, fun _ => rfl⟩
 obtain ⟨mv, a34, amv, a40, a0⟩ := A1;obtain ⟨cv, b35, b41, b0⟩ := A2;obtain ⟨kv, c36, c42, c0⟩ := A3;obtain ⟨v, hv⟩ := zEA hlc;have e38 : H38 (c, 1, 8) = some (qAV c 1 8) := q82 _;have e30 : H30 (qAV c 1 8, 3) = some (tZ c) := zHL;simp only [d1, d2, zVK, bP, zVV, qG, qC];rw [a34, qA, b35, qA, c36, qA, show H20 (n, w) = some (bY n w) from zF9, qA, show H22 (n, l) = some (qTF n l) from zHJ, qA, f2, qA, e38, qA, e30, qA, f2, qA, show H39 (n, l) = some (qLY n l) from zHO, qA, f2, qA];refine (congrArg (fun x => (zHP.bind x _ : Option _)) (show qJ (F5 l) (0, 0) = _ from hv)).trans ?_;simp only [qA, zW];generalize wQ [bY n w, qTF n l] = e1 at *;generalize wQ [bY n w, tZ c] = e2 at *;generalize wQ [bY n w, qLY n l] = e3 at *;generalize decide ((8 : Int) < n) = b8;generalize decide ((3 : Int) < v) = b3;have k33 : H33 (mv, e1, mv, e1) = some true := qUA amv;have k43 : H43 (cv, e2, cv, e2) = some true := qEA;have l43 : H43 (kv, e3, kv, e3) = some true := qEA;have z1 : e1 = 0 -> (e1 == 0) = true := fun q => by rw [q]; rfl
 have z2 : e2 = 0 -> (e2 == 0) = true := fun q => by rw [q]; rfl
 have z3 : e3 = 0 -> (e3 == 0) = true := fun q => by rw [q]; rfl
 by_cases h1 : e1 = 0 <;> by_cases h2 : e2 = 0 <;> by_cases h3 : e3 = 0
 ·simp only [B5, T5, z1 h1, z2 h2, z3 h3, vK, a40 h1, b41 h2, c42 h3, k33, k43, l43, qA, qG, qC, qZ];cases b8 <;> cases b3 <;> rfl
 ·have m43 : H43 (kv, e3, 0, e3) = some true := by rw [c0 h3]; exact qEA
  simp only [B5, T5, z1 h1, z2 h2, (ne0 h3).1, vK, a40 h1, b41 h2, k33, k43, m43, qA, qG, qC, qZ];rfl
 ·have n43 : H43 (cv, e2, 0, e2) = some true := by rw [b0 h2]; exact qEA
  simp only [B5, T5, z1 h1, (ne0 h2).1, z3 h3, vK, a40 h1, c42 h3, k33, n43, l43, qA, qG, qC, qZ];cases b8 <;> cases b3 <;> rfl
 ·have n43 : H43 (cv, e2, 0, e2) = some true := by rw [b0 h2]; exact qEA
  have m43 : H43 (kv, e3, 0, e3) = some true := by rw [c0 h3]; exact qEA
  simp only [B5, T5, z1 h1, (ne0 h2).1, (ne0 h3).1, vK, a40 h1, k33, n43, m43, qA, qG, qC, qZ];rfl
 ·have n33 : H33 (mv, e1, [], e1) = some true := by rw [a0 h1]; exact qUA (by simp)
  simp only [B5, T5, (ne0 h1).1, z2 h2, z3 h3, vK, b41 h2, c42 h3, n33, k43, l43, qA, qG, qC, qZ];cases b8 <;> cases b3 <;> rfl
 ·have n33 : H33 (mv, e1, [], e1) = some true := by rw [a0 h1]; exact qUA (by simp)
  have m43 : H43 (kv, e3, 0, e3) = some true := by rw [c0 h3]; exact qEA
  simp only [B5, T5, (ne0 h1).1, z2 h2, (ne0 h3).1, vK, b41 h2, n33, k43, m43, qA, qG, qC, qZ];rfl
 ·have n33 : H33 (mv, e1, [], e1) = some true := by rw [a0 h1]; exact qUA (by simp)
  have n43 : H43 (cv, e2, 0, e2) = some true := by rw [b0 h2]; exact qEA
  simp only [B5, T5, (ne0 h1).1, (ne0 h2).1, z3 h3, vK, c42 h3, n33, n43, l43, qA, qG, qC, qZ];cases b8 <;> cases b3 <;> rfl
 ·have n33 : H33 (mv, e1, [], e1) = some true := by rw [a0 h1]; exact qUA (by simp)
  have n43 : H43 (cv, e2, 0, e2) = some true := by rw [b0 h2]; exact qEA
  have m43 : H43 (kv, e3, 0, e3) = some true := by rw [c0 h3]; exact qEA
  simp only [B5, T5, (ne0 h1).1, (ne0 h2).1, (ne0 h3).1, vK, n33, n43, m43, qA, qG, qC, qZ];rfl
end Go.Proofs.YtpegkendiefkaaaGreatDoor
