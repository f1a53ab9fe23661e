/- What the functions compute, plainly, and the law. Conditions: none. -/
import Derived.Test.YtjgfemghlhmlbaaGreatDoorSvB
import Derived.Test.YtjgfemghlhmlbaaGreatDoorLB0
import Derived.Test.YtjgfemghlhmlbaaGreatDoorVA
set_option linter.all false
namespace Go.Sv
open Go.Idl
noncomputable section
variable [Gc]
variable {P : Program} {good : FuncId -> Bool} {G : Nat -> Bool} {T : xW} {IT : List (FuncId × zJE)}
end
end Go.Sv
namespace Go.Proofs.YtjgfemghlhmlbaaGreatDoor
open Go Go.Idl Go.Sv Go.Proofs
def aD (l : List Int) : Value := .agg #[.int .i64 (l.getD 0 0), .int .i64 (l.getD 1 0), .int .i64 (l.getD 2 0), .int .i64 (l.getD 3 0), .int .i64 (l.getD 4 0), .int .i64 (l.getD 5 0), .int .i64 (l.getD 6 0), .int .i64 (l.getD 7 0)]
def yF (L : List (List Int × Int)) : List (Value × Value) := L.map fun p => (aD p.1, .int .i64 p.2)
structure zIP (L : List (List Int × Int)) : Prop where
 len : ∀ p ∈ L, p.1.length = 8
 ran : ∀ p ∈ L, ∀ x ∈ p.1, 0 <= x ∧ x <= 1000
 val : ∀ p ∈ L, IntKind.i64.wrap p.2 = p.2
 nod : (L.map (·.1)).Nodup
def vF (L : List (List Int × Int)) (r : List Int) : Int := (L.map fun p => p.2 * wW false r p.1).sum
abbrev AW := Option (List Int -> Int)
open Classical in
noncomputable def alW (es : List (Value × Value)) : AW := if h : ∃ L, zIP L ∧ es = yF L then some fun r => vF (Classical.choose h) r % 18446744073709551616 else none
noncomputable def zHW : Ab := ⟨fun _ => AW, fun ts => match ts with
 | [.raw] => fun s => alW s
 | _ => fun _ => none⟩
noncomputable def zHU : Ab := ⟨fun _ => Int × AW, fun ts => match ts with
 | [.int _, .raw] => fun s => (s.1, alW s.2)
 | _ => fun _ => (0, none)⟩
theorem q20 {a b : List Int} (ha : a.length = 8) (hb : b.length = 8) (h : aD a = aD b) : a = b := by
 match a, ha, b, hb with
 | [a0, a1, a2, a3, a4, a5, a6, a7], _, [b0, b1, b2, b3, b4, b5, b6, b7], _ =>
   simp only [aD, List.getD_cons_zero, zVD] at h;injection h with h;injection h with h;injection h with h0 h;injection h with h1 h;injection h with h2 h;injection h with h3 h;injection h with h4 h;injection h with h5 h;injection h with h6 h;injection h with h7 h;injection h0 with _ h0;injection h1 with _ h1;injection h2 with _ h2;injection h3 with _ h3;injection h4 with _ h4;injection h5 with _ h5;injection h6 with _ h6;injection h7 with _ h7;subst h0 h1 h2 h3 h4 h5 h6 h7;rfl
theorem qRM : ∀ {L M : List (List Int × Int)}, (∀ p ∈ L, p.1.length = 8) -> (∀ p ∈ M, p.1.length = 8) -> yF L = yF M -> L = M
 | [], [], _, _, _ => rfl
 | [], _ :: _, _, _, h => by cases h
 | _ :: _, [], _, _, h => by cases h
 | (a, x) :: L, (b, y) :: M, h1, h2, h => by
   have h : (aD a, Value.int .i64 x) :: yF L = (aD b, Value.int .i64 y) :: yF M := h;injection h with e1 e2;injection e1 with e3 e4;injection e4 with _ e4;have := q20 (h1 _ zQT) (h2 _ zQT) e3;have q := qRM (fun p hp => h1 p (zQS _ hp)) (fun p hp => h2 p (zQS _ hp)) e2;subst this e4 q;rfl
theorem fP {L : List (List Int × Int)} (h : zIP L) : alW (yF L) = some fun r => vF L r % 18446744073709551616 := by
 have hx : ∃ M, zIP M ∧ yF L = yF M := ⟨L, h, rfl⟩
 unfold alW;rw [dif_pos hx];obtain ⟨h1, h2⟩ := Classical.choose_spec hx;rw [<- qRM h.len h1.len h2]
theorem qN6 {es : List (Value × Value)} {f : List Int -> Int} (h : alW es = some f) : ∃ L, zIP L ∧ es = yF L ∧ f = fun r => vF L r % 18446744073709551616 := by
 unfold alW at h;split at h
 ·rename_i hx;obtain ⟨h1, h2⟩ := Classical.choose_spec hx;cases h;exact ⟨_, h1, h2, rfl⟩
 ·cases h
theorem u3 : yV Tryz.prog (underlying 3) = some (.int .i64) := by kernel_rfl
theorem zGI : yV Tryz.prog (underlying 75) = some (.array 8 3) := by kernel_rfl
theorem s3 : yV Tryz.prog (sizeOf 3) = some 1 := by kernel_rfl
section
variable (v0 v1 v2 v3 v4 v5 v6 v7 : Value)
theorem p80 : yV Tryz.prog (part 3 #[v0, v1, v2, v3, v4, v5, v6, v7] 0) = some v0 := by kernel_rfl
theorem p81 : yV Tryz.prog (part 3 #[v0, v1, v2, v3, v4, v5, v6, v7] 1) = some v1 := by kernel_rfl
theorem p82 : yV Tryz.prog (part 3 #[v0, v1, v2, v3, v4, v5, v6, v7] 2) = some v2 := by kernel_rfl
theorem p83 : yV Tryz.prog (part 3 #[v0, v1, v2, v3, v4, v5, v6, v7] 3) = some v3 := by kernel_rfl
theorem p84 : yV Tryz.prog (part 3 #[v0, v1, v2, v3, v4, v5, v6, v7] 4) = some v4 := by kernel_rfl
theorem p85 : yV Tryz.prog (part 3 #[v0, v1, v2, v3, v4, v5, v6, v7] 5) = some v5 := by kernel_rfl
theorem p86 : yV Tryz.prog (part 3 #[v0, v1, v2, v3, v4, v5, v6, v7] 6) = some v6 := by kernel_rfl
theorem p87 : yV Tryz.prog (part 3 #[v0, v1, v2, v3, v4, v5, v6, v7] 7) = some v7 := by kernel_rfl
end
theorem sP {α : Type} (a : α) : yV Tryz.prog (pure a : Sem α) = some a := rfl
theorem sB {α β : Type} (s : Sem α) (g : α -> Sem β) : yV Tryz.prog (s >>= g) = (yV Tryz.prog s).bind fun a => yV Tryz.prog (g a) := j6 g s
theorem eI (e : Nat) (a c : Int) : yV Tryz.prog (Op.equalIn (e + 1) 3 (.int .i64 a) (.int .i64 c)) = some (a == c) := by
 simp [Op.equalIn, sB, u3, sP]
theorem r8 : List.range' 0 8 = [0, 1, 2, 3, 4, 5, 6, 7] := rfl
theorem eA8 (e : Nat) (a0 a1 a2 a3 a4 a5 a6 a7 b0 b1 b2 b3 b4 b5 b6 b7 : Int) :
 yV Tryz.prog (Op.equalIn (e + 2) 75 (.agg #[.int .i64 a0, .int .i64 a1, .int .i64 a2, .int .i64 a3, .int .i64 a4, .int .i64 a5, .int .i64 a6, .int .i64 a7]) (.agg #[.int .i64 b0, .int .i64 b1, .int .i64 b2, .int .i64 b3, .int .i64 b4, .int .i64 b5, .int .i64 b6, .int .i64 b7])) =
  some (a0 == b0 && (a1 == b1 && (a2 == b2 && (a3 == b3 && (a4 == b4 && (a5 == b5 && (a6 == b6 && a7 == b7))))))) := by
 rw [Op.equalIn];simp only [sB, zGI, zRE, s3];simp only [r8, List.forIn_cons, List.forIn_nil, sB, p80, p81, p82, p83, p84, p85, p86, p87, eI, sP, Std.Legacy.Range.forIn_eq_forIn_range', Std.Legacy.Range.size, zRE, zT6, Nat.mul_one, zUW, Nat.sub_zero, zUM, Nat.div_one];cases h0 : (a0 == b0)
 ·simp [sB, sP]
 cases h1 : (a1 == b1)
 ·simp [sB, sP, p80, p81, p82, p83, p84, p85, p86, p87, eI, h1]
 cases h2 : (a2 == b2)
 ·simp [sB, sP, p80, p81, p82, p83, p84, p85, p86, p87, eI, h1, h2]
 cases h3 : (a3 == b3)
 ·simp [sB, sP, p80, p81, p82, p83, p84, p85, p86, p87, eI, h1, h2, h3]
 cases h4 : (a4 == b4)
 ·simp [sB, sP, p80, p81, p82, p83, p84, p85, p86, p87, eI, h1, h2, h3, h4]
 cases h5 : (a5 == b5)
 ·simp [sB, sP, p80, p81, p82, p83, p84, p85, p86, p87, eI, h1, h2, h3, h4, h5]
 cases h6 : (a6 == b6)
 ·simp [sB, sP, p80, p81, p82, p83, p84, p85, p86, p87, eI, h1, h2, h3, h4, h5, h6]
 cases h7 : (a7 == b7)
 ·simp [sB, sP, p80, p81, p82, p83, p84, p85, p86, p87, eI, h1, h2, h3, h4, h5, h6, h7]
 ·simp [sB, sP, p80, p81, p82, p83, p84, p85, p86, p87, eI, h1, h2, h3, h4, h5, h6, h7]
theorem zB9 {l m : List Int} (hl : l.length = 8) (hm : m.length = 8) : yV Tryz.prog (Op.equal 75 (aD l) (aD m)) = some (decide (m = l)) := by
 match l, hl, m, hm with
 | [a0, a1, a2, a3, a4, a5, a6, a7], _, [b0, b1, b2, b3, b4, b5, b6, b7], _ =>
   unfold Op.equal;rw [show Op.maxDepth = 9998 + 2 from rfl];simp only [aD, List.getD_cons_zero, zVD];rw [eA8]
   congr 1
   rw [zSP];simp only [zQM, beq_iff_eq, decide_eq_true_eq, zRP, and_true];constructor
   ·rintro ⟨h0, h1, h2, h3, h4, h5, h6, h7⟩; exact ⟨h0.symm, h1.symm, h2.symm, h3.symm, h4.symm, h5.symm, h6.symm, h7.symm⟩
   ·rintro ⟨h0, h1, h2, h3, h4, h5, h6, h7⟩; exact ⟨h0.symm, h1.symm, h2.symm, h3.symm, h4.symm, h5.symm, h6.symm, h7.symm⟩
theorem zH3 (b : Bool) (a0 a1 a2 a3 a4 a5 a6 a7 : Int) : yV Tryz.prog (Instr.checkKey b 10000 75 (.agg #[.int .i64 a0, .int .i64 a1, .int .i64 a2, .int .i64 a3, .int .i64 a4, .int .i64 a5, .int .i64 a6, .int .i64 a7])) = some () := by kernel_rfl
theorem qV5 (b : Bool) (l : List Int) : yV Tryz.prog (Instr.checkKey b 10000 75 (aD l)) = some () := zH3 ..
theorem qCA (l : List Int) : zG (aD l) = true := rfl
def pW (l : List Int) : List (List Int × Int) -> Option Nat
 | [] => none
 | p :: L => cond (decide (p.1 = l)) (some 0) ((pW l L).map (· + 1))
theorem qVY {l : List Int} (hl : l.length = 8) : ∀ {L : List (List Int × Int)} (n i : Nat), (∀ p ∈ L, p.1.length = 8) -> ∃ f : Nat -> Value, yV Tryz.prog (Instr.findAsking 75 (aD l) (zP n (yF L)) i) = some ((pW l L).map fun j => (i + j, f j))
 | [], n, i, _ => ⟨fun _ => .bool true, rfl⟩
 | p :: L, n, i, h => by
   obtain ⟨f, hf⟩ := qVY hl (L := L) (n + 1) (i + 1) fun q hq => h q (zQS _ hq)
   have e : zP n (yF (p :: L)) = ⟨aD p.1, .int .i64 p.2, n⟩ :: zP (n + 1) (yF L) := rfl;rw [e];unfold Instr.findAsking;rw [sB, zB9 hl (h p zQT), zRE];unfold pW;by_cases hp : p.1 = l
   ·refine ⟨fun _ => .int .i64 p.2, ?_⟩;simp only [hp, decide_true, if_true, cond_true, zQW, zR7];rfl
   ·refine ⟨fun j => f (j - 1), ?_⟩;simp only [hp, decide_false, zSV, if_false, cond_false];rw [hf]
    cases pW l L with
    | none => rfl
    | some j =>
      simp only [zQW, zUM];rw [show i + 1 + j = i + (j + 1) by omega]
theorem q3U (k : Value) (es : List MapEntry) : yV Tryz.prog (Instr.findKey 75 k es) = yV Tryz.prog (Instr.findAsking 75 k es 0) := by
 unfold Instr.findKey;rw [sB, zGI, zRE]
 cases es with
 | nil => rfl
 | cons e es => rfl
theorem gL {l : List Int} (hl : l.length = 8) {L : List (List Int × Int)} (h : ∀ p ∈ L, p.1.length = 8) : vP Tryz.prog 75 (aD l) (zP 0 (yF L)) = some (pW l L) := by
 obtain ⟨f, hf⟩ := qVY hl 0 0 h
 have hall : ∀ (n : Nat) (L : List (List Int × Int)), (zP n (yF L)).all (fun e => zG e.key) = true := fun n L => by
  induction L generalizing n with
  | nil => rfl
  | cons p L ih =>
    show (zG (aD p.1) && (zP (n + 1) (yF L)).all _) = true;rw [qCA, ih]; rfl
 unfold vP;rw [qCA, hall, zRO, if_pos rfl, qV5, qV5, q3U, hf];simp only;cases pW l L <;> simp
end Go.Proofs.YtjgfemghlhmlbaaGreatDoor
namespace Go.Proofs.YtjgfemghlhmlbaaGreatDoor
open Go Go.Idl Go.Sv Go.Proofs
variable {L : List (List Int × Int)} {i : Nat} {l : List Int} {n : Int}
theorem qJ3 {l : List Int} : ∀ {L : List (List Int × Int)} {i : Nat}, pW l L = some i -> ∃ n, L[i]? = some (l, n)
 | [], i, h => by cases h
 | p :: L, i, h => by
   unfold pW at h;by_cases hp : p.1 = l
   ·rw [decide_eq_true hp] at h;cases h;exact ⟨p.2, by rw [<- hp]; rfl⟩
   ·rw [decide_eq_false hp] at h;obtain ⟨j, h1, rfl⟩ := zQY.1 h;obtain ⟨n, hn⟩ := qJ3 h1;exact ⟨n, hn⟩
theorem qJW {l : List Int} : ∀ {L : List (List Int × Int)}, pW l L = none -> ∀ p ∈ L, p.1 ≠ l
 | [], _, p, hp => by cases hp
 | q :: L, h, p, hp => by
   unfold pW at h;by_cases hq : q.1 = l
   ·rw [decide_eq_true hq] at h; cases h
   ·rw [decide_eq_false hq] at h;rcases zQ2.1 hp with rfl | h1
    ·exact hq
    ·exact qJW (zUU.1 h) p h1
theorem qSF {l : List Int} {v : Int} : ∀ {L : List (List Int × Int)}, pW l L = none -> pW l (L ++ [(l, v)]) = some L.length
 | [], _ => by
   show pW l [(l, v)] = some 0;unfold pW;simp
 | p :: L, h => by
   unfold pW at h;by_cases hp : p.1 = l
   ·rw [decide_eq_true hp] at h; cases h
   ·rw [decide_eq_false hp] at h;show pW l (p :: (L ++ [(l, v)])) = _;unfold pW;rw [decide_eq_false hp, qSF (zUU.1 h)]; rfl
theorem qAZ : (yF L)[i]? = (L[i]?).map fun p => (aD p.1, Value.int .i64 p.2) := by
 unfold yF; rw [zQU]
theorem qHC (L : List (List Int × Int)) : (yF L).length = L.length := by simp [yF]
theorem q29 (L M : List (List Int × Int)) : yF (L ++ M) = yF L ++ yF M := by simp [yF]
theorem qQH (L : List (List Int × Int)) (i : Nat) (l : List Int) (v : Int) : (yF L).set i (aD l, .int .i64 v) = yF (L.set i (l, v)) := by
 unfold yF; rw [List.map_set]
theorem qA8 (hl : l.length = 8) {L : List (List Int × Int)} (h : ∀ p ∈ L, p.1.length = 8) : q7V Tryz.prog 75 (aD l) (yF L) = some (pW l L).isSome := by
 unfold q7V; rw [gL hl h]; rfl
theorem qQB (hl : l.length = 8) {L : List (List Int × Int)} (h : ∀ p ∈ L, p.1.length = 8) (hi : pW l L = some i) (hn : L[i]? = some (l, n)) : q51 Tryz.prog 75 (.int .i64) (aD l) (yF L) = some n := by
 unfold q51; rw [gL hl h, hi];simp only;rw [qAZ, hn]; rfl
theorem zAT (l : List Int) : Instr.sameBits 10000 (aD l) (aD l) = true := by
 have key : ∀ a0 a1 a2 a3 a4 a5 a6 a7 : Int, Instr.sameBits 10000 (Value.agg #[.int .i64 a0, .int .i64 a1, .int .i64 a2, .int .i64 a3, .int .i64 a4, .int .i64 a5, .int .i64 a6, .int .i64 a7]) (Value.agg #[.int .i64 a0, .int .i64 a1, .int .i64 a2, .int .i64 a3, .int .i64 a4, .int .i64 a5, .int .i64 a6, .int .i64 a7]) = true := fun a0 a1 a2 a3 a4 a5 a6 a7 => by
  rw [show (10000 : Nat) = 9999 + 1 from rfl, Instr.sameBits];simp [Instr.sameBits]
 exact key _ _ _ _ _ _ _ _
theorem set_self {p : List Int × Int} (h : L[i]? = some p) : L.set i p = L := by
 apply zRC;intro j;rw [zRD];by_cases hij : i = j
 ·subst hij;rw [if_pos rfl, h];simp [(zQQ.1 h).1]
 ·rw [if_neg hij]
theorem zAS (hl : l.length = 8) {L : List (List Int × Int)} (h : ∀ p ∈ L, p.1.length = 8) (hi : pW l L = some i) (hn : L[i]? = some (l, n)) : q0Y Tryz.prog 75 (.int .i64) (aD l) (.int .i64 0) (yF L) = some (yF L, i, n) := by
 unfold q0Y;rw [gL hl h, hi];simp only;rw [qAZ, hn, zQW];simp only;rw [zAT, qQH, set_self hn, gL hl h, hi];simp only [q46, nG, zRO, cond_true];rfl
theorem zAC (hl : l.length = 8) {L : List (List Int × Int)} (h : ∀ p ∈ L, p.1.length = 8) (hi : pW l L = none) : q0Y Tryz.prog 75 (.int .i64) (aD l) (.int .i64 0) (yF L) = some (yF (L ++ [(l, 0)]), L.length, 0) := by
 have h2 : ∀ p ∈ L ++ [(l, (0 : Int))], p.1.length = 8 := fun p hp => by
  rcases zRA.1 hp with q | q
  ·exact h p q
  ·rw [zRX.1 q]; exact hl
 have e : yF L ++ [(aD l, Value.int .i64 0)] = yF (L ++ [(l, 0)]) := by rw [q29]; rfl
 unfold q0Y;rw [gL hl h, hi];simp only;rw [e, gL hl h2, qSF hi, qHC];simp only [q46, nG, cond_true];rfl
theorem qRK (v : Int) (hn : L[i]? = some (l, n)) : q5X (i : Int) (.int .i64 v) (yF L) = some (yF (L.set i (l, v))) := by
 have hb : (zP 0 (yF L)).findIdx? (fun e => (e.born : Int) == (i : Int)) = some i := by
  rw [List.findIdx?_eq_some_iff_getElem]
  have hlt : i < (zP 0 (yF L)).length := by
   rw [nS, qHC]; exact (zQQ.1 hn).1
  have hget : ∀ j (hj : j < (zP 0 (yF L)).length), ((zP 0 (yF L))[j]).born = j := fun j hj => by
   have h1 := vB 0 (yF L) j;rw [zQP hj] at h1
   cases h2 : (yF L)[j]? with
   | none => rw [h2] at h1; cases h1
   | some p =>
     rw [h2] at h1;simp only [zQW, zQV] at h1;rw [h1]; simp
  refine ⟨hlt, ?_, fun j hj => ?_⟩
  ·rw [hget]; simp
  ·rw [hget];simp;omega
 unfold q5X;rw [hb];simp only;rw [qAZ, hn, zQW];simp only;rw [qQH]
end Go.Proofs.YtjgfemghlhmlbaaGreatDoor
set_option maxRecDepth 10000
namespace Go.Proofs.YtjgfemghlhmlbaaGreatDoor
open Go Go.Idl Go.Sv Go.Proofs
noncomputable section
abbrev aN : An := ⟨[], [], [], []⟩
abbrev Lb (U : xW) (V : List (FuncId × zJE)) : Prop := Lib Tryz.prog good (wP 3) U V
abbrev ent (g : FuncId) {az rs : List Ty} (F : TyL az -> Option (TyL rs)) : FuncId × Ent := (g, ⟨az, rs, F⟩)
theorem _root_.Go.Sv.Lib.aE {T : xW} {IT : List (FuncId × zJE)} (L : Lib Tryz.prog good (wP 3) T IT) (g : FuncId) (ans : Ans) (an : An) {az rs : List Ty} (fn : Func) (F : TyL az -> Option (TyL rs)) (hfn : Tryz.prog.funcs[g]? = some fn) (hent : enters Tryz.prog g = true := by kernel_rfl) (hc : qWZ az rs fn = true := by kernel_rfl)
 (hF : (fun (y : Yl) (x : TyL az) => @fnS y Tryz.prog (wP 3) T IT (ciN Tryz.prog (wP 3) T IT ans 3) an az rs fn x) = fun (_ : Yl) x => F x := by kernel_rfl) : Lib Tryz.prog good (wP 3) ((g, ⟨az, rs, F⟩) :: T) IT := L.zP2 g ans an az rs fn F hent hfn hc hF
abbrev tI : Ty := .int .i64
abbrev tL3 : Ty := .list 3 tI
abbrev zHK : Ty := .list 30 tI
abbrev tP3 : Ty := .pair tL3 tL3
abbrev tP4 : Ty := .pair tI tI
abbrev tP5 : Ty := .pair tI tP4
abbrev tP6 : Ty := .pair tI tP5
abbrev tP7 : Ty := .pair tI tP6
abbrev tP8 : Ty := .pair tI tP7
abbrev tP9 : Ty := .pair tI tP8
abbrev zGG : Ty := .pair tI tP9
abbrev zHA : Ty := .list 22 tL3
abbrev zGU : Ty := .pair tI tL3
def G16 (x0 : List Int) : zIA (TyL [.bool]) := zIA.ret (decide ((x0.length : Int) <= 27))
def H16 (x : TyL [tL3]) := (G16 x).run
def U16 : xW := ent 4 H16 :: TB0
theorem L16 : Lb U16 [] := LB0.aE 4 [] aN Tryz.f4 H16 Tryz.func4
def G38 (x0 : Int) (x1 : Int) (x2 : Int) : zIA (TyL [.bool]) := zIA.ite (jF (decide (x0 < x1)) false) (zIA.ret (decide (x2 < x0))) (zIA.ret true)
def H38 (x : TyL [tI, tI, tI]) := (G38 x.1 x.2.1 x.2.2).run
def U38 : xW := ent 6 H38 :: U16
theorem L38 : Lb U38 [] := L16.aE 6 [] aN Tryz.f6 H38 Tryz.func6
def G20 (x0 : Int) (x1 : List Int) : zIA (TyL [tI]) := zIA.bind (H38 (x0, 2, 12)) fun x2 => zIA.ite x2 (zIA.ret 3) (zIA.ite ((x1.length : Int) == 0) (zIA.ret 12) (zIA.ite (decide (24 < (x1.length : Int))) (zIA.ret 5) (zIA.bind (qQ (fun (s3 : Int) => zIA.ite (decide (s3 < (x1.length : Int))) (zIA.bind (idx x1.length s3) fun x4 => zIA.bind x1[x4]? fun x5 => zIA.ite (jF (x5 == 0) false) (zIA.bind (idx x1.length s3) fun x6 => zIA.bind x1[x6]? fun x7 => zIA.bind (H38 (x7, IntKind.i64.wrap (1 - x0), IntKind.i64.wrap (x0 - 1))) fun x8 => zIA.ite x8 (zIA.ret (Sum.inr (Sum.inr (Sum.inl 3)))) (zIA.ret (Sum.inl (IntKind.i64.wrap (s3 + 1))))) (zIA.ret (Sum.inr (Sum.inr (Sum.inl 3))))) (zIA.ret (Sum.inr (Sum.inl s3)))) 0) fun (x3 : Int ⊕ Int ⊕ Nat × Int) => zIA.sum x3 (fun s4 => zIA.ret 0) fun (s4 : Int ⊕ Nat × Int) => zIA.sum s4 (fun s5 => zIA.ret s5) fun (s5 : Nat × Int) => zIA.fail)))
def H20 (x : TyL [tI, tL3]) := (G20 x.1 x.2).run
def U20 : xW := ent 5 H20 :: U38
theorem L20 : Lb U20 [] := L38.aE 5 [] ⟨[], [(0, ⟨[5], [], [], [], [], [], []⟩)], [], []⟩ Tryz.f5 H20 Tryz.func5
def G22 (x0 : Int) (x1 : List Int) : zIA (TyL [tI]) := zIA.bind (H38 (x0, 2, 12)) fun x2 => zIA.ite x2 (zIA.ret 3) (zIA.ite ((x1.length : Int) != x0) (zIA.ret 2) (zIA.bind (qQ (fun (s3 : Int) => zIA.ite (decide (s3 < x0)) (zIA.bind (idx x1.length s3) fun x4 => zIA.bind x1[x4]? fun x5 => zIA.bind (H38 (x5, 0, 7)) fun x6 => zIA.ite x6 (zIA.ret (Sum.inr (Sum.inr (Sum.inl 3)))) (zIA.ret (Sum.inl (IntKind.i64.wrap (s3 + 1))))) (zIA.ret (Sum.inr (Sum.inl s3)))) 0) fun (x3 : Int ⊕ Int ⊕ Nat × Int) => zIA.sum x3 (fun s4 => zIA.ret 0) fun (s4 : Int ⊕ Nat × Int) => zIA.sum s4 (fun s5 => zIA.ret s5) fun (s5 : Nat × Int) => zIA.fail))
def H22 (x : TyL [tI, tL3]) := (G22 x.1 x.2).run
def U22 : xW := ent 11 H22 :: U20
theorem L22 : Lb U22 [] := L20.aE 11 [] ⟨[], [(0, ⟨[5], [], [], [], [], [], []⟩)], [], []⟩ Tryz.f11 H22 Tryz.func11
def G51 (x0 : List Int) (x1 : List Int) : zIA (TyL [.bool]) := zIA.bind (qQ (fun (s2 : Int) => zIA.ite (decide (s2 < (x0.length : Int))) (zIA.bind (idx x0.length s2) fun x3 => zIA.bind x0[x3]? fun x4 => zIA.bind (idx x1.length s2) fun x5 => zIA.bind x1[x5]? fun x6 => zIA.ite (x4 != x6) (zIA.bind (idx x0.length s2) fun x7 => zIA.bind x0[x7]? fun x8 => zIA.bind (idx x1.length s2) fun x9 => zIA.bind x1[x9]? fun x10 => zIA.ret (Sum.inr (Sum.inr (Sum.inl (decide (x8 < x10)))))) (zIA.ret (Sum.inl (IntKind.i64.wrap (s2 + 1))))) (zIA.ret (Sum.inr (Sum.inl s2)))) 0) fun (x2 : Int ⊕ Bool ⊕ Nat × Int) => zIA.sum x2 (fun s3 => zIA.ret false) fun (s3 : Bool ⊕ Nat × Int) => zIA.sum s3 (fun s4 => zIA.ret s4) fun (s4 : Nat × Int) => zIA.fail
def H51 (x : TyL [tL3, tL3]) := (G51 x.1 x.2).run
def U51 : xW := ent 12 H51 :: U22
theorem L51 : Lb U51 [] := L22.aE 12 [] ⟨[], [(0, ⟨[5], [], [], [], [], [], []⟩)], [], []⟩ Tryz.f12 H51 Tryz.func12
def G52 (x0 : List Int) (x1 : List Int) : zIA (TyL [.bool]) := zIA.ite ((x0.length : Int) != (x1.length : Int)) (zIA.ret false) (zIA.bind (qQ (fun (s2 : Int) => zIA.ite (decide (s2 < (x0.length : Int))) (zIA.bind (idx x0.length s2) fun x3 => zIA.bind x0[x3]? fun x4 => zIA.bind (idx x1.length s2) fun x5 => zIA.bind x1[x5]? fun x6 => zIA.ite (x4 != x6) (zIA.ret (Sum.inr (Sum.inr (Sum.inl false)))) (zIA.ret (Sum.inl (IntKind.i64.wrap (s2 + 1))))) (zIA.ret (Sum.inr (Sum.inl s2)))) 0) fun (x2 : Int ⊕ Bool ⊕ Nat × Int) => zIA.sum x2 (fun s3 => zIA.ret true) fun (s3 : Bool ⊕ Nat × Int) => zIA.sum s3 (fun s4 => zIA.ret s4) fun (s4 : Nat × Int) => zIA.fail)
def H52 (x : TyL [tL3, tL3]) := (G52 x.1 x.2).run
def U52 : xW := ent 14 H52 :: U51
theorem L52 : Lb U52 [] := L51.aE 14 [] ⟨[], [(0, ⟨[5], [], [], [], [], [], []⟩)], [], []⟩ Tryz.f14 H52 Tryz.func14
def q3D (x0 : Int) (x1 : Int) (x2 : Int) : Int × Int -> Option (Int × Int ⊕ Int × Int ⊕ Bool ⊕ Nat × Int × Int) := (fun (s3 : Int × Int) => zIA.ite (decide (s3.snd < x1)) (zIA.ite (decide (x2 < IntKind.i64.wrap (s3.fst * x0))) (zIA.ret (Sum.inr (Sum.inr (Sum.inl true)))) (zIA.ret (Sum.inl (IntKind.i64.wrap (s3.fst * x0), IntKind.i64.wrap (s3.snd + 1))))) (zIA.ret (Sum.inr (Sum.inl (s3.fst, s3.snd)))))
def G44 (x0 : Int) (x1 : Int) (x2 : Int) : zIA (TyL [.bool]) := zIA.bind (qQ (q3D x0 x1 x2) (1, 0)) fun x3 => zIA.sum x3 (fun s4 => zIA.ret false) fun (s4 : Bool ⊕ Nat × Int × Int) => zIA.sum s4 (fun s5 => zIA.ret s5) fun (s5 : Nat × Int × Int) => zIA.fail
def H44 (x : TyL [tI, tI, tI]) := (G44 x.1 x.2.1 x.2.2).run
def U44 : xW := ent 7 H44 :: U52
theorem L44 : Lb U44 [] := L52.aE 7 [] ⟨[], [(0, ⟨[7, 9], [], [], [], [], [], []⟩)], [], []⟩ Tryz.f7 H44 Tryz.func7
def zOP : Ans := (94, (⟨[], [(0, ⟨[8], [], [], [], [], [], []⟩)], [], []⟩, [tI])) :: []
def zP4 : Ans := (70, (⟨[], [], [], []⟩, [.bool])) :: zOP
def zJF : Ans := (71, (⟨[], [], [], []⟩, [.bool])) :: zP4
def G87 (x0 : List Int) : zIA (TyL [tI]) := zIA.bind (qQ (fun (s1 : Int) => zIA.ite (decide (s1 < (x0.length : Int))) (zIA.bind (idx x0.length s1) fun x2 => zIA.bind x0[x2]? fun x3 => zIA.ite (x3 != 0) (zIA.ret (Sum.inr (Sum.inr (Sum.inl x3)))) (zIA.ret (Sum.inl (IntKind.i64.wrap (s1 + 1))))) (zIA.ret (Sum.inr (Sum.inl s1)))) 0) fun (x1 : Int ⊕ Int ⊕ Nat × Int) => zIA.sum x1 (fun s2 => zIA.ret 0) fun (s2 : Int ⊕ Nat × Int) => zIA.sum s2 (fun s3 => zIA.ret s3) fun (s3 : Nat × Int) => zIA.fail
def H87 (x : TyL [zHK]) := (G87 x).run
def U87 : xW := ent 31 H87 :: U44
theorem L87 : Lb U87 [] := L44.aE 31 zJF ⟨[], [(0, ⟨[7], [], [], [], [], [], []⟩)], [], []⟩ Tryz.f31 H87 Tryz.func31
def G89 (x0 : Bool) (x1 : Int) : zIA (TyL [tI]) := zIA.ite x0 (zIA.ret x1) (zIA.ret 0)
def H89 (x : TyL [.bool, tI]) := (G89 x.1 x.2).run
def U89 : xW := ent 42 H89 :: U87
theorem L89 : Lb U89 [] := L87.aE 42 zJF aN Tryz.f42 H89 Tryz.func42
def zNB (x0 : Int) (x1 : Int) (x2 : Int) : zIA (TyL [tI]) := zIA.ite (jF (decide (x0 < x1)) false) (zIA.bind (H89 (decide (x2 < x0), 3)) fun x3 => zIA.ret x3) (zIA.ret 3)
def zKM (x : TyL [tI, tI, tI]) := (zNB x.1 x.2.1 x.2.2).run
def zOQ : xW := ent 43 zKM :: U89
theorem zP5 : Lb zOQ [] := L89.aE 43 zJF aN Tryz.f43 zKM Tryz.func43
def G88 (x0 : Int) : zIA (TyL [tI]) := zIA.bind (zKM (x0, 2, 12)) fun x1 => zIA.ret x1
def H88 (x : TyL [tI]) := (G88 x).run
def U88 : xW := ent 72 H88 :: zOQ
theorem L88 : Lb U88 [] := zP5.aE 72 zJF aN Tryz.f72 H88 Tryz.func72
def G19 (x0 : Int) (x1 : List Int) : zIA (TyL [tI]) := zIA.bind (qQ (fun (s2 : Int) => zIA.ite (decide (s2 < (x1.length : Int))) (zIA.bind (idx x1.length s2) fun x3 => zIA.bind x1[x3]? fun x4 => zIA.ite (jF (x4 == 0) false) (zIA.ite (jF (decide (x4 <= IntKind.i64.wrap (0 - x0))) false) (zIA.ite (decide (x0 <= x4)) (zIA.ret (Sum.inr (Sum.inr (Sum.inl s2)))) (zIA.ret (Sum.inl (IntKind.i64.wrap (s2 + 1))))) (zIA.ret (Sum.inr (Sum.inr (Sum.inl s2))))) (zIA.ret (Sum.inr (Sum.inr (Sum.inl s2))))) (zIA.ret (Sum.inr (Sum.inl s2)))) 0) fun (x2 : Int ⊕ Int ⊕ Nat × Int) => zIA.sum x2 (fun s3 => zIA.bind (H88 x0) fun x4 => zIA.bind (H89 ((x1.length : Int) == 0, 12)) fun x5 => zIA.bind (H89 (decide (24 < (x1.length : Int)), 5)) fun x6 => zIA.bind (H87 [x4, x5, x6, 0]) fun x7 => zIA.ret x7) fun (s3 : Int ⊕ Nat × Int) => zIA.sum s3 (fun s4 => zIA.bind (H88 x0) fun x5 => zIA.bind (H89 ((x1.length : Int) == 0, 12)) fun x6 => zIA.bind (H89 (decide (24 < (x1.length : Int)), 5)) fun x7 => zIA.bind (H89 (decide (0 <= s4), 3)) fun x8 => zIA.bind (H87 [x5, x6, x7, x8]) fun x9 => zIA.ret x9) fun (s4 : Nat × Int) => zIA.fail
def H19 (x : TyL [tI, tL3]) := (G19 x.1 x.2).run
def U19 : xW := ent 32 H19 :: U88
theorem L19 : Lb U19 [] := L88.aE 32 zJF aN Tryz.f32 H19 Tryz.func32
def zNC (x0 : Int) : zIA (TyL [tI]) := zIA.bind (zKM (x0, 1, 8)) fun x1 => zIA.ret x1
def zLL (x : TyL [tI]) := (zNC x).run
def zOR : xW := ent 33 zLL :: U19
theorem zP6 : Lb zOR [] := L19.aE 33 zJF aN Tryz.f33 zLL Tryz.func33
def G92 (x0 : Int) (x1 : List Int) : zIA (TyL [tP3]) := zIA.bind (qQ (fun (s2 : Int × List Int × List Int) => zIA.ite (decide (s2.fst < x0)) (zIA.ite ((s2.snd.snd.length + [s2.fst].length).ble 1048576) (zIA.ret (Sum.inl (IntKind.i64.wrap (s2.fst + 1), s2.snd.fst, s2.snd.snd ++ [s2.fst]))) zIA.fail) (zIA.ret (Sum.inr (Sum.inl (s2.fst, s2.snd.fst, s2.snd.snd))))) (0, [], [])) fun (x2 : Int × List Int × List Int ⊕ List Int × List Int ⊕ Nat × Int × List Int × List Int) => zIA.sum x2 (fun s3 => zIA.bind (qQ (fun (s4 : Int × List Int × List Int) => zIA.ite (decide (s4.fst < (x1.length : Int))) (zIA.bind (idx x1.length s4.fst) fun x5 => zIA.bind x1[x5]? fun x6 => zIA.ite (decide (x6 < 0)) (zIA.bind (idx s4.snd.snd.length (IntKind.i64.wrap (IntKind.i64.wrap (IntKind.i64.wrap (0 - x6) - 1) + 1))) fun x7 => zIA.bind s4.snd.snd[x7]? fun x8 => zIA.ite ((s4.snd.fst.length + [x8].length).ble 1048576) (zIA.bind (idx s4.snd.snd.length (IntKind.i64.wrap (0 - x6))) fun x9 => zIA.bind s4.snd.snd[x9]? fun x10 => zIA.bind (idx s4.snd.snd.length (IntKind.i64.wrap (IntKind.i64.wrap (0 - x6) - 1))) fun x11 => zIA.bind s4.snd.snd[x11]? fun x12 => zIA.bind (idx s4.snd.snd.length (IntKind.i64.wrap (IntKind.i64.wrap (0 - x6) - 1))) fun x13 => zIA.bind s4.snd.snd[x13]? fun x14 => zIA.bind (idx s4.snd.snd.length (IntKind.i64.wrap (0 - x6))) fun x15 => zIA.bind (s4.snd.snd.set x13 x10)[x15]? fun x16 => zIA.ret (Sum.inl (IntKind.i64.wrap (s4.fst + 1), s4.snd.fst ++ [x8], (s4.snd.snd.set x13 x10).set x15 x12))) zIA.fail) (zIA.bind (idx s4.snd.snd.length (IntKind.i64.wrap (IntKind.i64.wrap (x6 - 1) + 0))) fun x7 => zIA.bind s4.snd.snd[x7]? fun x8 => zIA.ite ((s4.snd.fst.length + [x8].length).ble 1048576) (zIA.bind (idx s4.snd.snd.length x6) fun x9 => zIA.bind s4.snd.snd[x9]? fun x10 => zIA.bind (idx s4.snd.snd.length (IntKind.i64.wrap (x6 - 1))) fun x11 => zIA.bind s4.snd.snd[x11]? fun x12 => zIA.bind (idx s4.snd.snd.length (IntKind.i64.wrap (x6 - 1))) fun x13 => zIA.bind s4.snd.snd[x13]? fun x14 => zIA.bind (idx s4.snd.snd.length x6) fun x15 => zIA.bind (s4.snd.snd.set x13 x10)[x15]? fun x16 => zIA.ret (Sum.inl (IntKind.i64.wrap (s4.fst + 1), s4.snd.fst ++ [x8], (s4.snd.snd.set x13 x10).set x15 x12))) zIA.fail)) (zIA.ret (Sum.inr (Sum.inl (s4.fst, s4.snd.fst, s4.snd.snd))))) (0, s3.snd.fst, s3.snd.snd)) fun (x4 : Int × List Int × List Int ⊕ List Int × List Int ⊕ Nat × Int × List Int × List Int) => zIA.sum x4 (fun s5 => zIA.ret (s5.snd.fst, s5.snd.snd)) fun (s5 : List Int × List Int ⊕ Nat × Int × List Int × List Int) => zIA.sum s5 (fun s6 => zIA.fail) fun (s6 : Nat × Int × List Int × List Int) => zIA.fail) fun (s3 : List Int × List Int ⊕ Nat × Int × List Int × List Int) => zIA.sum s3 (fun s4 => zIA.fail) fun (s4 : Nat × Int × List Int × List Int) => zIA.fail
def H92 (x : TyL [tI, tL3]) := (G92 x.1 x.2).run
def U92 : xW := ent 35 H92 :: zOR
theorem L92 : Lb U92 [] := zP6.aE 35 zJF ⟨[], [(0, ⟨[13], [520, 521], [], [], [], [(5, [some 520, some 521])], [(5, 0, 3, 520), (5, 1, 3, 521)]⟩), (2, ⟨[25], [520, 521], [], [], [], [(5, [some 520, some 521])], [(5, 0, 3, 520), (5, 1, 3, 521)]⟩)], [], []⟩ Tryz.f35 H92 Tryz.func35
def zND (x0 : Int) (x1 : Int) : zIA (TyL [tI]) := zIA.bind (qQ (fun (s2 : Int × Int) => zIA.ite (s2.snd != 0) (zIA.bind (q07 s2.fst s2.snd) fun x3 => zIA.ret (Sum.inl (s2.snd, x3))) (zIA.ret (Sum.inr (Sum.inl (s2.fst, s2.snd))))) (x0, x1)) fun (x2 : Int × Int ⊕ Int ⊕ Nat × Int × Int) => zIA.sum x2 (fun s3 => zIA.bind (qL5 IntKind.i64 x0 s3.fst) fun x4 => zIA.ret (IntKind.i64.wrap (x4 * x1))) fun (s3 : Int ⊕ Nat × Int × Int) => zIA.sum s3 (fun s4 => zIA.ret s4) fun (s4 : Nat × Int × Int) => zIA.fail
def zL6 (x : TyL [tI, tI]) := (zND x.1 x.2).run
def zOS : xW := ent 74 zL6 :: U92
theorem zP7 : Lb zOS [] := L92.aE 74 zJF ⟨[], [(0, ⟨[5, 6], [], [], [], [], [], []⟩)], [], []⟩ Tryz.f74 zL6 Tryz.func74
def zNE (x0 : List Int × List Int) (x1 : Int) : zIA (TyL [tI]) := zIA.bind (idx x0.snd.length x1) fun x2 => zIA.bind x0.snd[x2]? fun x3 => zIA.bind (qQ (fun (s4 : Int × Int) => zIA.ite (s4.snd != x1) (zIA.bind (idx x0.snd.length s4.snd) fun x5 => zIA.bind x0.snd[x5]? fun x6 => zIA.ret (Sum.inl (IntKind.i64.wrap (s4.fst + 1), x6))) (zIA.ret (Sum.inr (Sum.inl (s4.fst, s4.snd))))) (1, x3)) fun (x4 : Int × Int ⊕ Int ⊕ Nat × Int × Int) => zIA.sum x4 (fun s5 => zIA.ret s5.fst) fun (s5 : Int ⊕ Nat × Int × Int) => zIA.sum s5 (fun s6 => zIA.ret s6) fun (s6 : Nat × Int × Int) => zIA.fail
def zLM (x : TyL [tP3, tI]) := (zNE x.1 x.2).run
def zOT : xW := ent 75 zLM :: zOS
theorem zP8 : Lb zOT [] := zP7.aE 75 zJF ⟨[], [(0, ⟨[5, 6], [], [], [], [], [], []⟩)], [], []⟩ Tryz.f75 zLM Tryz.func75
def zNF (x0 : Int) : zIA (TyL [.bool]) := zIA.ite (jF (decide (0 <= x0)) true) (zIA.ret (decide (x0 < 8))) (zIA.ret false)
def zL7 (x : TyL [tI]) := (zNF x).run
def zOU : xW := ent 69 zL7 :: zOT
theorem zP9 : Lb zOU [] := zP8.aE 69 zJF aN Tryz.f69 zL7 Tryz.func69
def zNG (x0 : Int) : zIA (TyL [.bool]) := zIA.bind (zL7 x0) fun x1 => zIA.ret !x1
def zL8 (x : TyL [tI]) := (zNG x).run
def zOV : xW := ent 97 zL8 :: zOU
theorem zQA : Lb zOV [] := zP9.aE 97 zJF aN Tryz.f97 zL8 Tryz.func97
def G90 (x0 : List Int) : zIA (TyL [.bool]) := zIA.bind (qQ (fun (s1 : Int) => zIA.ite (decide (s1 < (x0.length : Int))) (zIA.bind (idx x0.length s1) fun x2 => zIA.bind x0[x2]? fun x3 => zIA.bind (zL8 x3) fun x4 => zIA.ite x4 (zIA.ret (Sum.inr (Sum.inr (Sum.inl s1)))) (zIA.ret (Sum.inl (IntKind.i64.wrap (s1 + 1))))) (zIA.ret (Sum.inr (Sum.inl s1)))) 0) fun (x1 : Int ⊕ Int ⊕ Nat × Int) => zIA.sum x1 (fun s2 => zIA.ret (decide (0 <= -1))) fun (s2 : Int ⊕ Nat × Int) => zIA.sum s2 (fun s3 => zIA.ret (decide (0 <= s3))) fun (s3 : Nat × Int) => zIA.fail
def H90 (x : TyL [tL3]) := (G90 x).run
def U90 : xW := ent 79 H90 :: zOV
theorem L90 : Lb U90 [] := zQA.aE 79 zJF aN Tryz.f79 H90 Tryz.func79
def G21 (x0 : Int) (x1 : List Int) : zIA (TyL [tI]) := zIA.bind (H88 x0) fun x2 => zIA.bind (H89 ((x1.length : Int) != x0, 2)) fun x3 => zIA.bind (H90 x1) fun x4 => zIA.bind (H89 (x4, 3)) fun x5 => zIA.bind (H87 [x2, x3, x5]) fun x6 => zIA.ret x6
def H21 (x : TyL [tI, tL3]) := (G21 x.1 x.2).run
def U21 : xW := ent 77 H21 :: U90
theorem L21 : Lb U21 [] := L90.aE 77 zJF aN Tryz.f77 H21 Tryz.func77
def zNH (x0 : Int) (x1 : List Int) (x2 : List Int) : zIA (TyL [tI]) := zIA.bind (H19 (x0, x1)) fun x3 => zIA.bind (H21 (x0, x2)) fun x4 => zIA.bind (H87 [x3, x4]) fun x5 => zIA.ret x5
def zL9 (x : TyL [tI, tL3, tL3]) := (zNH x.1 x.2.1 x.2.2).run
def zOW : xW := ent 41 zL9 :: U21
theorem zQB : Lb zOW [] := L21.aE 41 zJF aN Tryz.f41 zL9 Tryz.func41
def zNI (x0 : List Int × List Int) (x1 : List Int) : zIA (TyL [tL3]) := zIA.bind (mkN (x1.length : Int)) fun x2 => zIA.bind (qQ (fun (s3 : Int × List Int) => zIA.ite (decide (s3.fst < (x0.snd.length : Int))) (zIA.bind (idx x0.snd.length s3.fst) fun x4 => zIA.bind x0.snd[x4]? fun x5 => zIA.bind (idx x1.length x5) fun x6 => zIA.bind x1[x6]? fun x7 => zIA.bind (idx s3.snd.length s3.fst) fun x8 => zIA.bind s3.snd[x8]? fun x9 => zIA.ret (Sum.inl (IntKind.i64.wrap (s3.fst + 1), s3.snd.set x8 x7))) (zIA.ret (Sum.inr (Sum.inl (s3.fst, s3.snd))))) (0, List.replicate x2 0)) fun (x3 : Int × List Int ⊕ List Int ⊕ Nat × Int × List Int) => zIA.sum x3 (fun s4 => zIA.ret s4.snd) fun (s4 : List Int ⊕ Nat × Int × List Int) => zIA.sum s4 (fun s5 => zIA.ret s5) fun (s5 : Nat × Int × List Int) => zIA.fail
def zJ3 (x : TyL [tP3, tL3]) := (zNI x.1 x.2).run
def zOX : xW := ent 36 zJ3 :: zOW
theorem zQC : Lb zOX [] := zQB.aE 36 zJF ⟨[], [(0, ⟨[14], [10], [(5, 10)], [], [], [], []⟩)], [], []⟩ Tryz.f36 zJ3 Tryz.func36
def G34 (x0 : Int) (x1 : List Int) (x2 : List Int) : zIA (TyL [tL3, tI]) := zIA.bind (zL9 (x0, x1, x2)) fun x3 => zIA.ite (x3 != 0) (zIA.ret ([], x3)) (zIA.bind (H92 (x0, x1)) fun x4 => zIA.bind (zJ3 ((x4.fst, x4.snd), x2)) fun x5 => zIA.ret (x5, 0))
def H34 (x : TyL [tI, tL3, tL3]) := (G34 x.1 x.2.1 x.2.2).run
def U34 : xW := ent 13 H34 :: zOX
theorem L34 : Lb U34 [] := zQC.aE 13 zJF aN Tryz.f13 H34 Tryz.func13
def qOO (x0 : List Int × List Int) : Int × List Bool -> Option (Int × List Bool ⊕ Int × List Bool ⊕ List Int ⊕ Nat × Int × List Bool) := (fun (s6 : Int × List Bool) => zIA.bind (idx s6.snd.length s6.fst) fun x7 => zIA.bind s6.snd[x7]? fun x8 => zIA.ite (!x8) (zIA.bind (idx s6.snd.length s6.fst) fun x9 => zIA.bind s6.snd[x9]? fun x10 => zIA.bind (idx x0.snd.length s6.fst) fun x11 => zIA.bind x0.snd[x11]? fun x12 => zIA.ret (Sum.inl (x12, s6.snd.set x9 true))) (zIA.ret (Sum.inr (Sum.inl (s6.fst, s6.snd)))))
def qXK (x0 : List Int × List Int) : Int × List Int × List Bool -> Option (Int × List Int × List Bool ⊕ Int × List Int × List Bool ⊕ List Int ⊕ Nat × Int × List Int × List Bool) := (fun (s2 : Int × List Int × List Bool) => zIA.ite (decide (s2.fst < (x0.snd.length : Int))) (zIA.bind (idx s2.snd.snd.length s2.fst) fun x3 => zIA.bind s2.snd.snd[x3]? fun x4 => zIA.ite x4 (zIA.ret (Sum.inl (IntKind.i64.wrap (s2.fst + 1), s2.snd.fst, s2.snd.snd))) (zIA.bind (zLM ((x0.fst, x0.snd), s2.fst)) fun x5 => zIA.ite ((s2.snd.fst.length + [x5].length).ble 1048576) (zIA.bind (qQ (qOO x0) (s2.fst, s2.snd.snd)) fun x6 => zIA.sum x6 (fun s7 => zIA.ret (Sum.inl (IntKind.i64.wrap (s2.fst + 1), s2.snd.fst ++ [x5], s7.snd))) fun (s7 : List Int ⊕ Nat × Int × List Bool) => zIA.sum s7 (fun s8 => zIA.ret (Sum.inr (Sum.inr (Sum.inl s8)))) fun (s8 : Nat × Int × List Bool) => zIA.fail) zIA.fail)) (zIA.ret (Sum.inr (Sum.inl (s2.fst, s2.snd.fst, s2.snd.snd)))))
def zNJ (x0 : List Int × List Int) : zIA (TyL [tL3]) := zIA.bind (mkN (x0.snd.length : Int)) fun x1 => zIA.bind (qQ (qXK x0) (0, [], List.replicate x1 false)) fun x2 => zIA.sum x2 (fun s3 => zIA.ret s3.snd.fst) fun (s3 : List Int ⊕ Nat × Int × List Int × List Bool) => zIA.sum s3 (fun s4 => zIA.ret s4) fun (s4 : Nat × Int × List Int × List Bool) => zIA.fail
def zMA (x : TyL [tP3]) := (zNJ x).run
def zOY : xW := ent 76 zMA :: U34
theorem zQD : Lb zOY [] := L34.aE 76 zJF ⟨[], [(0, ⟨[14], [3, 10], [(3, 3), (4, 10)], [(3, 3)], [], [], []⟩), (2, ⟨[6], [10], [(4, 10)], [], [], [], []⟩)], [], []⟩ Tryz.f76 zMA Tryz.func76
def zNK (x0 : Int) (x1 : Int) : zIA (TyL [tI]) := zIA.bind (qQ (fun (s2 : Int × Int) => zIA.ite (decide (s2.snd < x1)) (zIA.ret (Sum.inl (IntKind.i64.wrap (s2.fst * x0), IntKind.i64.wrap (s2.snd + 1)))) (zIA.ret (Sum.inr (Sum.inl (s2.fst, s2.snd))))) (1, 0)) fun (x2 : Int × Int ⊕ Int ⊕ Nat × Int × Int) => zIA.sum x2 (fun s3 => zIA.ret s3.fst) fun (s3 : Int ⊕ Nat × Int × Int) => zIA.sum s3 (fun s4 => zIA.ret s4) fun (s4 : Nat × Int × Int) => zIA.fail
def zKH (x : TyL [tI, tI]) := (zNK x.1 x.2).run
def zOZ : xW := ent 34 zKH :: zOY
theorem zQE : Lb zOZ [] := zQD.aE 34 zJF ⟨[], [(0, ⟨[5, 7], [], [], [], [], [], []⟩)], [], []⟩ Tryz.f34 zKH Tryz.func34
def zO0 : Ans := (40, (⟨[], [], [], []⟩, [tI])) :: zJF
def zLN : Ans := (39, (⟨[(9, [(8, 4000000022)]), (14, [(8, 4000100022)])], [(0, ⟨[5, 13], [], [], [], [], [], []⟩), (2, ⟨[30], [40025], [], [], [], [(40008, [none, some 40025])], []⟩), (4, ⟨[7, 40], [], [], [], [], [(40008, [none, none])], []⟩)], [], []⟩, [tI])) :: zO0
def FMa (x6 : List Int × List Int) : Int × Int -> Option (Int × Int ⊕ Int × Int ⊕ Int ⊕ Nat × Int × Int) := (fun (s7 : Int × Int) => zIA.ite (decide (s7.snd < (x6.snd.length : Int))) (zIA.bind (zLM ((x6.fst, x6.snd), s7.snd)) fun x8 => zIA.bind (zL6 (s7.fst, x8)) fun x9 => zIA.ret (Sum.inl (x9, IntKind.i64.wrap (s7.snd + 1)))) (zIA.ret (Sum.inr (Sum.inl (s7.fst, s7.snd)))))
def FMb (x9 : Nat) : Int × List Int × List Int -> Option (Int × List Int × List Int ⊕ Int × List Int × List Int ⊕ Int ⊕ Nat × Int × List Int × List Int) := (fun (s10 : Int × List Int × List Int) => zIA.ite (decide (s10.fst < (x9 : Int))) (zIA.bind (idx s10.snd.fst.length s10.fst) fun x11 => zIA.bind s10.snd.fst[x11]? fun x12 => zIA.ret (Sum.inl (IntKind.i64.wrap (s10.fst + 1), s10.snd.fst.set x11 s10.fst, s10.snd.snd))) (zIA.ret (Sum.inr (Sum.inl (s10.fst, s10.snd.fst, s10.snd.snd)))))
def FMc (G : List Int -> Option Int) (x6 : List Int × List Int) (all : Int) : Int × Int × List Int × List Int -> Option (Int × Int × List Int × List Int ⊕ Int × Int × List Int × List Int ⊕ Int ⊕ Nat × Int × Int × List Int × List Int) := (fun (s12 : Int × Int × List Int × List Int) => zIA.ite (decide (s12.snd.fst < all)) (zIA.bind (zMA (s12.snd.snd.fst, s12.snd.snd.snd)) fun x13 => zIA.bind (G x13) fun x14 => zIA.bind (zJ3 ((x6.fst, x6.snd), s12.snd.snd.snd)) fun x15 => zIA.ret (Sum.inl (IntKind.i64.wrap (s12.fst + x14), IntKind.i64.wrap (s12.snd.fst + 1), s12.snd.snd.fst, x15))) (zIA.ret (Sum.inr (Sum.inl (s12.fst, s12.snd.fst, s12.snd.snd.fst, s12.snd.snd.snd)))))
def G35 (x0 : Int) (x1 : List Int) (x2 : Int) : zIA (TyL [tI, tI]) := zIA.bind (H19 (x0, x1)) fun x3 => zIA.bind (zLL x2) fun x4 => zIA.bind (H87 [x3, x4]) fun x5 => zIA.ite (x5 != 0) (zIA.ret (0, x5)) (zIA.bind (H92 (x0, x1)) fun x6 => zIA.bind (qQ (FMa x6) (1, 0)) fun x7 => zIA.sum x7 (fun s8 => zIA.bind (mkN (x6.snd.length : Int)) fun x9 => zIA.bind (qQ (FMb x9) (0, List.replicate x9 0, [])) fun x10 => zIA.sum x10 (fun s11 => zIA.bind (qQ (FMc (fun x13 => zKH (x2, (x13.length : Int))) x6 s8.fst) (0, 0, s11.snd.snd, s11.snd.fst)) fun x12 => zIA.sum x12 (fun s13 => zIA.bind (qL5 IntKind.i64 s13.fst s8.fst) fun x14 => zIA.ret (x14, 0)) fun (s13 : Int ⊕ Nat × Int × Int × List Int × List Int) => zIA.sum s13 (fun s14 => zIA.ret (s14, 0)) fun (s14 : Nat × Int × Int × List Int × List Int) => zIA.fail) fun (s11 : Int ⊕ Nat × Int × List Int × List Int) => zIA.sum s11 (fun s12 => zIA.ret (s12, 0)) fun (s12 : Nat × Int × List Int × List Int) => zIA.fail) fun (s8 : Int ⊕ Nat × Int × Int) => zIA.sum s8 (fun s9 => zIA.ret (s9, 0)) fun (s9 : Nat × Int × Int) => zIA.fail)
def H35 (x : TyL [tI, tL3, tI]) := (G35 x.1 x.2.1 x.2.2).run
def U35 : xW := ent 10 H35 :: zOZ
theorem L35 : Lb U35 [] := zQE.aE 10 zLN aN Tryz.f10 H35 Tryz.func10
def zMB (x5 : Int) (x9 : (Int × Int × Int × Int × Int × Int × Int × Int) × Int) : Int × List (Value × Value) -> Option (Int × List (Value × Value) ⊕ (Int × List (Value × Value) ⊕ Int ⊕ Nat × Int × List (Value × Value))) := (fun (s10 : Int × List (Value × Value)) => zIA.ite (decide (s10.fst < 8)) (zIA.bind (idx 8 s10.fst) fun x11 => zIA.bind [x9.fst.fst, x9.fst.snd.fst, x9.fst.snd.snd.fst, x9.fst.snd.snd.snd.fst, x9.fst.snd.snd.snd.snd.fst, x9.fst.snd.snd.snd.snd.snd.fst, x9.fst.snd.snd.snd.snd.snd.snd.fst, x9.fst.snd.snd.snd.snd.snd.snd.snd][0 + x11 * 1]? fun x12 => zIA.ite (decide (x5 <= x12)) (zIA.bind (idx 8 s10.fst) fun x13 => zIA.bind [x9.fst.fst, x9.fst.snd.fst, x9.fst.snd.snd.fst, x9.fst.snd.snd.snd.fst, x9.fst.snd.snd.snd.snd.fst, x9.fst.snd.snd.snd.snd.snd.fst, x9.fst.snd.snd.snd.snd.snd.snd.fst, x9.fst.snd.snd.snd.snd.snd.snd.snd][0 + x13 * 1]? fun x14 => zIA.bind (idx 8 s10.fst) fun x15 => zIA.bind (qUC (0 + x15 * 1) (IntKind.i64.wrap (x14 - x5)) [x9.fst.fst, x9.fst.snd.fst, x9.fst.snd.snd.fst, x9.fst.snd.snd.snd.fst, x9.fst.snd.snd.snd.snd.fst, x9.fst.snd.snd.snd.snd.snd.fst, x9.fst.snd.snd.snd.snd.snd.snd.fst, x9.fst.snd.snd.snd.snd.snd.snd.snd]) fun x16 => zIA.bind (q7V Tryz.prog 75 (aD x16) s10.snd) fun x17 => zIA.ite x17 (zIA.bind (q51 Tryz.prog 75 (Ty.int IntKind.i64) (aD x16) s10.snd) fun x18 => zIA.bind (q0Y Tryz.prog 75 (Ty.int IntKind.i64) (aD x16) (Value.int IntKind.i64 0) s10.snd) fun x19 => zIA.bind (q5X (x19.snd.fst : Int) (Value.int IntKind.i64 (IntKind.i64.wrap (x18 + x9.snd))) x19.fst) fun x20 => zIA.ret (Sum.inl (IntKind.i64.wrap (s10.fst + 1), x20))) (zIA.bind (q0Y Tryz.prog 75 (Ty.int IntKind.i64) (aD x16) (Value.int IntKind.i64 0) s10.snd) fun x18 => zIA.bind (q5X (x18.snd.fst : Int) (Value.int IntKind.i64 (IntKind.i64.wrap (0 + x9.snd))) x18.fst) fun x19 => zIA.ret (Sum.inl (IntKind.i64.wrap (s10.fst + 1), x19)))) (zIA.ret (Sum.inl (IntKind.i64.wrap (s10.fst + 1), s10.snd)))) (zIA.ret (Sum.inr (Sum.inl (s10.fst, s10.snd)))))
def zLO (x5 : Int) (es : List (Value × Value)) : Nat -> AW -> Option AW := (fun (i6 : Nat) (s7 : AW) => aT (fun (s8 : List Nat × List (Value × Value)) => alW s8.snd = s7) fun (s8 : List Nat × List (Value × Value)) => zIA.ite (spec Tryz.prog 1000000001 && (spec Tryz.prog 1000000002 && (Nat.beq 4 4 && (Nat.beq 0 0 && es.length.beq es.length)))) (zIA.bind (qJL zGG (Ty.int IntKind.i64) (Nat.add._f Nat.zero PUnit.unit i6) es) fun x9 => zIA.bind (qQ (zMB x5 x9) (0, s8.snd)) fun x10 => zIA.sum x10 (fun (s11 : Int × List (Value × Value)) => zIA.ret (alW s11.snd)) fun (s11 : Int ⊕ Nat × Int × List (Value × Value)) => zIA.sum s11 (fun s12 => zIA.fail) fun (s12 : Nat × Int × List (Value × Value)) => zIA.fail) zIA.fail)
def zKN (x0 : List Int) : Int × AW -> Option (Int × AW ⊕ Int × AW ⊕ Int) := (fun (s2 : Int × AW) => aT (fun (s3 : Int × List (Value × Value)) => (s3.fst, alW s3.snd) = s2) fun (s3 : Int × List (Value × Value)) => zIA.ite (decide (s3.fst < (x0.length : Int))) (zIA.bind (idx x0.length s3.fst) fun x4 => zIA.bind x0[x4]? fun x5 => zIA.ite (s3.snd.length.beq s3.snd.length) (zIA.ite (s3.snd.all fun (p : Value × Value) => zG p.fst) (zIA.bind (w9 s3.snd.length (zLO x5 s3.snd) (alW [])) fun x6 => zIA.bind (aT (fun (s7 : List Nat × List (Value × Value)) => alW s7.snd = x6) fun (s7 : List Nat × List (Value × Value)) => zIA.ret (Sum.inl (IntKind.i64.wrap (s3.fst + 1), alW s7.snd))) fun (x7 : Int × AW ⊕ Int × AW ⊕ Int) => zIA.ret x7) zIA.fail) zIA.fail) (zIA.ret (Sum.inr (Sum.inl (s3.fst, alW s3.snd)))))
def zMC (es : List (Value × Value)) : zIA (TyL [tI]) := zIA.bind (q7V Tryz.prog 75 (aD []) es) fun x5 => zIA.ite x5 (zIA.bind (q51 Tryz.prog 75 (Ty.int IntKind.i64) (aD []) es) fun x6 => zIA.ret x6) (zIA.ret 0)
def zNL (x0 : List Int) (x1 : Int × Int × Int × Int × Int × Int × Int × Int) : zIA (TyL [tI]) := zIA.bind (qQ (zKN x0) (0, alW ([] ++ [(Value.agg #[Value.int IntKind.i64 x1.fst, Value.int IntKind.i64 x1.snd.fst, Value.int IntKind.i64 x1.snd.snd.fst, Value.int IntKind.i64 x1.snd.snd.snd.fst, Value.int IntKind.i64 x1.snd.snd.snd.snd.fst, Value.int IntKind.i64 x1.snd.snd.snd.snd.snd.fst, Value.int IntKind.i64 x1.snd.snd.snd.snd.snd.snd.fst, Value.int IntKind.i64 x1.snd.snd.snd.snd.snd.snd.snd], Value.int IntKind.i64 1)]))) fun x2 => zIA.sum x2 (fun s3 => zIA.bind (aT (fun (s4 : Int × List (Value × Value)) => (s4.fst, alW s4.snd) = s3) fun (s4 : Int × List (Value × Value)) => zMC s4.snd) fun x4 => zIA.ret x4) fun (s3 : Int) => zIA.ret s3
def zK4 (x : TyL [tL3, zGG]) := (zNL x.1 x.2).run
def zO1 : xW := ent 45 zK4 :: U35
theorem zQF : Lb zO1 [] := L35.aE 45 zLN ⟨[(2, [(5, 2000000000)]), (18, [(23, 3000000000), (5, 2000000000)])], [(0, ⟨[18], [5], [(5, 1000000000000005)], [], [], [], []⟩), (2, ⟨[], [22], [], [], [], [], []⟩), (4, ⟨[30], [22], [], [], [], [], []⟩)], [], [(0, zHU), (2, zHW)]⟩ Tryz.f45 zK4 Tryz.func45
def zJ0 : Ans := (44, (⟨[], [], [], []⟩, [tI])) :: zLN
def F36 (x2 : List Int) : Int × Int × Int × Int × Int × Int × Int × Int × Int × Int -> Option (Int × Int × Int × Int × Int × Int × Int × Int × Int × Int ⊕ Int × Int × Int × Int × Int × Int × Int × Int × Int × Int ⊕ Int × Int ⊕ Nat × Int × Int × Int × Int × Int × Int × Int × Int × Int × Int) := (fun (s6 : Int × Int × Int × Int × Int × Int × Int × Int × Int × Int) => zIA.ite (decide (s6.snd.fst < (x2.length : Int))) (zIA.bind (idx x2.length s6.snd.fst) fun x7 => zIA.bind x2[x7]? fun x8 => zIA.bind (zKM (x8, 0, 12)) fun x9 => zIA.ite (x9 != 0) (zIA.ret (Sum.inr (Sum.inr (Sum.inl (0, x9))))) (zIA.bind (idx 8 s6.snd.fst) fun x10 => zIA.bind (qUC (0 + x10 * 1) x8 [s6.snd.snd.fst, s6.snd.snd.snd.fst, s6.snd.snd.snd.snd.fst, s6.snd.snd.snd.snd.snd.fst, s6.snd.snd.snd.snd.snd.snd.fst, s6.snd.snd.snd.snd.snd.snd.snd.fst, s6.snd.snd.snd.snd.snd.snd.snd.snd.fst, s6.snd.snd.snd.snd.snd.snd.snd.snd.snd]) fun x11 => zIA.ret (Sum.inl (IntKind.i64.wrap (s6.fst + x8), IntKind.i64.wrap (s6.snd.fst + 1), x11.getD 0 0, x11.getD 1 0, x11.getD 2 0, x11.getD 3 0, x11.getD 4 0, x11.getD 5 0, x11.getD 6 0, x11.getD 7 0)))) (zIA.ret (Sum.inr (Sum.inl (s6.fst, s6.snd.fst, s6.snd.snd.fst, s6.snd.snd.snd.fst, s6.snd.snd.snd.snd.fst, s6.snd.snd.snd.snd.snd.fst, s6.snd.snd.snd.snd.snd.snd.fst, s6.snd.snd.snd.snd.snd.snd.snd.fst, s6.snd.snd.snd.snd.snd.snd.snd.snd.fst, s6.snd.snd.snd.snd.snd.snd.snd.snd.snd)))))
def G36 (x0 : Int) (x1 : List Int) (x2 : List Int) : zIA (TyL [tI, tI]) := zIA.bind (H19 (x0, x1)) fun x3 => zIA.bind (H89 (decide (8 < (x2.length : Int)), 5)) fun x4 => zIA.bind (H87 [x3, x4]) fun x5 => zIA.ite (x5 != 0) (zIA.ret (0, x5)) (zIA.bind (qQ (F36 x2) (0, 0, 0, 0, 0, 0, 0, 0, 0, 0)) fun x6 => zIA.sum x6 (fun s7 => zIA.ite (s7.fst != x0) (zIA.ret (0, 2)) (zIA.bind (H92 (x0, x1)) fun x8 => zIA.bind (qQ (FMa x8) (1, 0)) fun x9 => zIA.sum x9 (fun s10 => zIA.bind (mkN (x8.snd.length : Int)) fun x11 => zIA.bind (qQ (FMb x11) (0, List.replicate x11 0, [])) fun x12 => zIA.sum x12 (fun s13 => zIA.bind (qQ (FMc (fun x15 => zK4 (x15, s7.snd.snd.fst, s7.snd.snd.snd.fst, s7.snd.snd.snd.snd.fst, s7.snd.snd.snd.snd.snd.fst, s7.snd.snd.snd.snd.snd.snd.fst, s7.snd.snd.snd.snd.snd.snd.snd.fst, s7.snd.snd.snd.snd.snd.snd.snd.snd.fst, s7.snd.snd.snd.snd.snd.snd.snd.snd.snd)) x8 s10.fst) (0, 0, s13.snd.snd, s13.snd.fst)) fun x14 => zIA.sum x14 (fun s15 => zIA.bind (qL5 IntKind.i64 s15.fst s10.fst) fun x16 => zIA.ret (x16, 0)) fun (s15 : Int ⊕ Nat × Int × Int × List Int × List Int) => zIA.sum s15 (fun s16 => zIA.ret (s16, 0)) fun (s16 : Nat × Int × Int × List Int × List Int) => zIA.fail) fun (s13 : Int ⊕ Nat × Int × List Int × List Int) => zIA.sum s13 (fun s14 => zIA.ret (s14, 0)) fun (s14 : Nat × Int × List Int × List Int) => zIA.fail) fun (s10 : Int ⊕ Nat × Int × Int) => zIA.sum s10 (fun s11 => zIA.ret (s11, 0)) fun (s11 : Nat × Int × Int) => zIA.fail)) fun (s7 : Int × Int ⊕ Nat × Int × Int × Int × Int × Int × Int × Int × Int × Int × Int) => zIA.sum s7 (fun s8 => zIA.ret (s8.fst, s8.snd)) fun (s8 : Nat × Int × Int × Int × Int × Int × Int × Int × Int × Int × Int) => zIA.fail)
def H36 (x : TyL [tI, tL3, tL3]) := (G36 x.1 x.2.1 x.2.2).run
def U36 : xW := ent 15 H36 :: zO1
theorem L36 : Lb U36 [] := zQF.aE 15 zJ0 ⟨[], [(0, ⟨[10, 28], [], [], [], [], [(9, [none, none, none, none, none, none, none, none])], []⟩)], [], []⟩ Tryz.f15 H36 Tryz.func15
def G98 (x0 : List Int) (x1 : List Int) : zIA (TyL [.bool]) := zIA.ite ((x0.length : Int) != (x1.length : Int)) (zIA.ret false) (zIA.bind (qQ (fun (s2 : Int) => zIA.ite (decide (s2 < (x0.length : Int))) (zIA.bind (idx x0.length s2) fun x3 => zIA.bind x0[x3]? fun x4 => zIA.bind (idx x1.length s2) fun x5 => zIA.bind x1[x5]? fun x6 => zIA.ite (x4 != x6) (zIA.ret (Sum.inr (Sum.inr (Sum.inl false)))) (zIA.ret (Sum.inl (IntKind.i64.wrap (s2 + 1))))) (zIA.ret (Sum.inr (Sum.inl s2)))) 0) fun (x2 : Int ⊕ Bool ⊕ Nat × Int) => zIA.sum x2 (fun s3 => zIA.ret true) fun (s3 : Bool ⊕ Nat × Int) => zIA.sum s3 (fun s4 => zIA.ret s4) fun (s4 : Nat × Int) => zIA.fail)
def H98 (x : TyL [tL3, tL3]) := (G98 x.1 x.2).run
def U98 : xW := ent 37 H98 :: U36
theorem L98 : Lb U98 [] := L36.aE 37 zJ0 ⟨[], [(0, ⟨[13], [], [], [], [], [], []⟩)], [], []⟩ Tryz.f37 H98 Tryz.func37
def zQG (x0 : Int) : zIA (TyL [.bool]) := zIA.ret (x0 != x0)
def zO2 (x : TyL [tI]) := (zQG x).run
def zO3 : xW := ent 95 zO2 :: U98
theorem zQH : Lb zO3 [] := L98.aE 95 zJ0 aN Tryz.f95 zO2 Tryz.func95
def zNM (x0 : Int) (x1 : Int) : zIA (TyL [tI]) := zIA.ite (x0 != x0) (zIA.ite (x1 != x1) (zIA.ret 0) (zIA.ret (-1))) (zIA.ite (x1 != x1) (zIA.ret 1) (zIA.ite (decide (x0 < x1)) (zIA.ret (-1)) (zIA.ite (decide (x1 < x0)) (zIA.ret 1) (zIA.ret 0))))
def zMD (x : TyL [tI, tI]) := (zNM x.1 x.2).run
def zO4 : xW := ent 73 zMD :: zO3
theorem zQI : Lb zO4 [] := zQH.aE 73 zJ0 aN Tryz.f73 zMD Tryz.func73
def G96 (x0 : List Int) (x1 : List Int) : zIA (TyL [tI]) := zIA.bind (qQ (fun (s2 : Int) => zIA.ite (decide (s2 < (x0.length : Int))) (zIA.bind (idx x0.length s2) fun x3 => zIA.bind x0[x3]? fun x4 => zIA.ite (decide ((x1.length : Int) <= s2)) (zIA.ret (Sum.inr (Sum.inr (Sum.inl 1)))) (zIA.bind (idx x1.length s2) fun x5 => zIA.bind x1[x5]? fun x6 => zIA.bind (zMD (x4, x6)) fun x7 => zIA.ite (x7 != 0) (zIA.ret (Sum.inr (Sum.inr (Sum.inl x7)))) (zIA.ret (Sum.inl (IntKind.i64.wrap (s2 + 1)))))) (zIA.ret (Sum.inr (Sum.inl s2)))) 0) fun (x2 : Int ⊕ Int ⊕ Nat × Int) => zIA.sum x2 (fun s3 => zIA.ite (decide ((x0.length : Int) < (x1.length : Int))) (zIA.ret (-1)) (zIA.ret 0)) fun (s3 : Int ⊕ Nat × Int) => zIA.sum s3 (fun s4 => zIA.ret s4) fun (s4 : Nat × Int) => zIA.fail
def H96 (x : TyL [tL3, tL3]) := (G96 x.1 x.2).run
def U96 : xW := ent 38 H96 :: zO4
theorem L96 : Lb U96 [] := zQI.aE 38 zJ0 ⟨[], [(0, ⟨[11], [], [], [], [], [], []⟩)], [], []⟩ Tryz.f38 H96 Tryz.func38
def zC1 (x0 : Int) (x2 : Int) (s8 : Int × List (List Int)) : Int × List Int -> Option (Int × List Int ⊕ Int × List Int ⊕ List (List Int) × Int ⊕ Nat × Int × List Int) := (fun (s10 : Int × List Int) => zIA.ite (decide (s10.fst < x0)) (zIA.bind (zKH (x2, s10.fst)) fun x11 => zIA.bind (qL5 IntKind.i64 s8.fst x11) fun x12 => zIA.bind (q07 x12 x2) fun x13 => zIA.bind (idx s10.snd.length (IntKind.i64.wrap (IntKind.i64.wrap (x0 - 1) - s10.fst))) fun x14 => zIA.bind s10.snd[x14]? fun x15 => zIA.ret (Sum.inl (IntKind.i64.wrap (s10.fst + 1), s10.snd.set x14 x13))) (zIA.ret (Sum.inr (Sum.inl (s10.fst, s10.snd)))))
def q0Q (x7 : List Int × List Int) (s11 : Int × List Int) : Bool × List Int -> Option (Bool × List Int ⊕ Bool × List Int ⊕ List (List Int) × Int ⊕ Nat × Bool × List Int) := (fun (s13 : Bool × List Int) => zIA.ite (jF s13.fst true) (zIA.bind (H98 (s13.snd, s11.snd)) fun x14 => zIA.ite (!x14) (zIA.bind (H96 (s13.snd, s11.snd)) fun x15 => zIA.bind (zJ3 ((x7.fst, x7.snd), s13.snd)) fun x16 => zIA.ret (Sum.inl (decide (0 < x15), x16))) (zIA.ret (Sum.inr (Sum.inl (s13.fst, s13.snd))))) (zIA.ret (Sum.inr (Sum.inl (s13.fst, s13.snd)))))
def zAG (x0 : Int) (x2 : Int) (x6 : Int) (x7 : List Int × List Int) : Int × List (List Int) -> Option (Int × List (List Int) ⊕ Int × List (List Int) ⊕ List (List Int) × Int ⊕ Nat × Int × List (List Int)) := (fun (s8 : Int × List (List Int)) => zIA.ite (decide (s8.fst < x6)) (zIA.bind (mkN x0) fun x9 => zIA.bind (qQ (zC1 x0 x2 s8) (0, List.replicate x9 0)) fun x10 => zIA.sum x10 (fun s11 => zIA.bind (zJ3 ((x7.fst, x7.snd), s11.snd)) fun x12 => zIA.bind (qQ (q0Q x7 s11) (true, x12)) fun x13 => zIA.sum x13 (fun s14 => zIA.ite s14.fst (zIA.ite ((s8.snd.length + [s11.snd].length).ble 1048576) (zIA.ret (Sum.inl (IntKind.i64.wrap (s8.fst + 1), s8.snd ++ [s11.snd]))) zIA.fail) (zIA.ret (Sum.inl (IntKind.i64.wrap (s8.fst + 1), s8.snd)))) fun (s14 : List (List Int) × Int ⊕ Nat × Bool × List Int) => zIA.sum s14 (fun (s15 : List (List Int) × Int) => zIA.ret (Sum.inr (Sum.inr (Sum.inl (s15.fst, s15.snd))))) fun (s15 : Nat × Bool × List Int) => zIA.fail) fun (s11 : List (List Int) × Int ⊕ Nat × Int × List Int) => zIA.sum s11 (fun (s12 : List (List Int) × Int) => zIA.ret (Sum.inr (Sum.inr (Sum.inl (s12.fst, s12.snd))))) fun (s12 : Nat × Int × List Int) => zIA.fail) (zIA.ret (Sum.inr (Sum.inl (s8.fst, s8.snd)))))
def G45 (x0 : Int) (x1 : List Int) (x2 : Int) : zIA (TyL [zHA, tI]) := zIA.bind (H19 (x0, x1)) fun x3 => zIA.bind (zLL x2) fun x4 => zIA.bind (H87 [x3, x4]) fun x5 => zIA.ite (x5 != 0) (zIA.ret ([], x5)) (zIA.bind (zKH (x2, x0)) fun x6 => zIA.ite (decide (4096 < x6)) (zIA.ret ([], 22)) (zIA.bind (H92 (x0, x1)) fun x7 => zIA.bind (qQ (zAG x0 x2 x6 x7) (0, [])) fun x8 => zIA.sum x8 (fun (s9 : Int × List (List Int)) => zIA.ret (s9.snd, 0)) fun (s9 : List (List Int) × Int ⊕ Nat × Int × List (List Int)) => zIA.sum s9 (fun (s10 : List (List Int) × Int) => zIA.ret (s10.fst, s10.snd)) fun (s10 : Nat × Int × List (List Int)) => zIA.fail))
def H45 (x : TyL [tI, tL3, tI]) := (G45 x.1 x.2.1 x.2.2).run
def U45 : xW := ent 9 H45 :: U96
theorem L45 : Lb U45 [] := L96.aE 9 zJ0 ⟨[(18, [(13, 22)])], [(0, ⟨[36], [11], [(11, 11)], [(11, 22)], [], [], []⟩), (2, ⟨[42], [40], [(13, 40)], [], [], [], []⟩), (4, ⟨[15, 16], [], [], [], [], [], []⟩)], [], []⟩ Tryz.f9 H45 Tryz.func9
def F8a (x0 : Int × List Int) (x9 : List Int) : Int × List Int × Int -> Option (Int × List Int × Int ⊕ Int × List Int × Int ⊕ Bool ⊕ Nat × Int × List Int × Int) := (fun (s14 : Int × List Int × Int) => zIA.bind (H34 (x0.fst, x0.snd, s14.snd.fst)) fun x15 => zIA.ite (jF (x15.snd != 0) false) (zIA.ite (jF ((x15.fst.length : Int) != x0.fst) false) (zIA.ite (jF (decide (60 < s14.snd.snd)) false) (zIA.bind (H51 (x15.fst, x9)) fun x16 => zIA.ite x16 (zIA.ret (Sum.inr (Sum.inr (Sum.inl false)))) (zIA.bind (H52 (x15.fst, x9)) fun x17 => zIA.ite x17 (zIA.ret (Sum.inr (Sum.inl (IntKind.i64.wrap (s14.fst + 1), s14.snd.fst, s14.snd.snd)))) (zIA.ret (Sum.inl (IntKind.i64.wrap (s14.fst + 1), x15.fst, IntKind.i64.wrap (s14.snd.snd + 1)))))) (zIA.ret (Sum.inr (Sum.inr (Sum.inl false))))) (zIA.ret (Sum.inr (Sum.inr (Sum.inl false))))) (zIA.ret (Sum.inr (Sum.inr (Sum.inl false)))))
def F8b (x0 : Int × List Int) (x5 : List (List Int) × Int) : Int × Int -> Option (Int × Int ⊕ Int × Int ⊕ Bool ⊕ Nat × Int × Int) := (fun (s7 : Int × Int) => zIA.ite (decide (s7.snd < (x5.fst.length : Int))) (zIA.bind (idx x5.fst.length s7.snd) fun x8 => zIA.bind x5.fst[x8]? fun x9 => zIA.bind (H22 (x0.fst, x9)) fun x10 => zIA.ite (jF (x10 != 0) false) (zIA.ite (jF (decide (0 < s7.snd)) true) (zIA.bind (idx x5.fst.length (IntKind.i64.wrap (s7.snd - 1))) fun x11 => zIA.bind x5.fst[x11]? fun x12 => zIA.bind (H51 (x12, x9)) fun x13 => zIA.ite (!x13) (zIA.ret (Sum.inr (Sum.inr (Sum.inl false)))) (zIA.bind (qQ (F8a x0 x9) (s7.fst, x9, 0)) fun x14 => zIA.sum x14 (fun s15 => zIA.ret (Sum.inl (s15.fst, IntKind.i64.wrap (s7.snd + 1)))) fun (s15 : Bool ⊕ Nat × Int × List Int × Int) => zIA.sum s15 (fun s16 => zIA.ret (Sum.inr (Sum.inr (Sum.inl s16)))) fun (s16 : Nat × Int × List Int × Int) => zIA.fail)) (zIA.bind (qQ (F8a x0 x9) (s7.fst, x9, 0)) fun x11 => zIA.sum x11 (fun s12 => zIA.ret (Sum.inl (s12.fst, IntKind.i64.wrap (s7.snd + 1)))) fun (s12 : Bool ⊕ Nat × Int × List Int × Int) => zIA.sum s12 (fun s13 => zIA.ret (Sum.inr (Sum.inr (Sum.inl s13)))) fun (s13 : Nat × Int × List Int × Int) => zIA.fail)) (zIA.ret (Sum.inr (Sum.inr (Sum.inl false))))) (zIA.ret (Sum.inr (Sum.inl (s7.fst, s7.snd)))))
def F8c (x0 : Int × List Int) (x1 : Int) : Int × Int -> Option (Int × Int ⊕ Int × Int ⊕ Bool ⊕ Nat × Int × Int) := (fun (s9 : Int × Int) => zIA.ite (decide (s9.snd < x0.fst)) (zIA.ret (Sum.inl (IntKind.i64.wrap (s9.fst * x1), IntKind.i64.wrap (s9.snd + 1)))) (zIA.ret (Sum.inr (Sum.inl (s9.fst, s9.snd)))))
def F8d (x0 : Int × List Int) (x1 : Int) : Int × Bool × Int × Int × List Int -> Option (Int × Bool × Int × Int × List Int ⊕ Int × Bool × Int × Int × List Int ⊕ Bool ⊕ Nat × Int × Bool × Int × Int × List Int) := (fun (s13 : Int × Bool × Int × Int × List Int) => zIA.ite (decide (s13.snd.snd.snd.fst < x0.fst)) (zIA.bind (q07 s13.snd.snd.fst x1) fun x14 => zIA.ite (jF s13.snd.fst true) (zIA.bind (idx s13.snd.snd.snd.snd.length x14) fun x15 => zIA.bind s13.snd.snd.snd.snd[x15]? fun x16 => zIA.bind (idx s13.snd.snd.snd.snd.length x14) fun x17 => zIA.bind s13.snd.snd.snd.snd[x17]? fun x18 => zIA.bind (qL5 IntKind.i64 s13.snd.snd.fst x1) fun x19 => zIA.ret (Sum.inl (x14, decide (s13.fst <= x14), x19, IntKind.i64.wrap (s13.snd.snd.snd.fst + 1), s13.snd.snd.snd.snd.set x17 (IntKind.i64.wrap (x16 + 1))))) (zIA.bind (idx s13.snd.snd.snd.snd.length x14) fun x15 => zIA.bind s13.snd.snd.snd.snd[x15]? fun x16 => zIA.bind (idx s13.snd.snd.snd.snd.length x14) fun x17 => zIA.bind s13.snd.snd.snd.snd[x17]? fun x18 => zIA.bind (qL5 IntKind.i64 s13.snd.snd.fst x1) fun x19 => zIA.ret (Sum.inl (x14, false, x19, IntKind.i64.wrap (s13.snd.snd.snd.fst + 1), s13.snd.snd.snd.snd.set x17 (IntKind.i64.wrap (x16 + 1)))))) (zIA.ret (Sum.inr (Sum.inl (s13.fst, s13.snd.fst, s13.snd.snd.fst, s13.snd.snd.snd.fst, s13.snd.snd.snd.snd)))))
def F8e (x0 : Int × List Int) (x1 : Int) (s10 : Int × Int) : Int × Int -> Option (Int × Int ⊕ Int × Int ⊕ Bool ⊕ Nat × Int × Int) := (fun (s11 : Int × Int) => zIA.ite (decide (s11.snd < s10.fst)) (zIA.bind (mkN x1) fun x12 => zIA.bind (qQ (F8d x0 x1) (0, true, s11.snd, 0, List.replicate x12 0)) fun x13 => zIA.sum x13 (fun s14 => zIA.ite (!s14.snd.fst) (zIA.ret (Sum.inl (s11.fst, IntKind.i64.wrap (s11.snd + 1)))) (zIA.bind (H36 (x0.fst, x0.snd, s14.snd.snd.snd.snd)) fun x15 => zIA.ite (jF (x15.snd != 0) false) (zIA.ite (decide (x15.fst < 1)) (zIA.ret (Sum.inr (Sum.inr (Sum.inl false)))) (zIA.ret (Sum.inl (IntKind.i64.wrap (s11.fst + x15.fst), IntKind.i64.wrap (s11.snd + 1))))) (zIA.ret (Sum.inr (Sum.inr (Sum.inl false)))))) fun (s14 : Bool ⊕ Nat × Int × Bool × Int × Int × List Int) => zIA.sum s14 (fun s15 => zIA.ret (Sum.inr (Sum.inr (Sum.inl s15)))) fun (s15 : Nat × Int × Bool × Int × Int × List Int) => zIA.fail) (zIA.ret (Sum.inr (Sum.inl (s11.fst, s11.snd)))))
def G8 (x0 : Int × List Int) (x1 : Int) : zIA (TyL [.bool]) := zIA.ite (jF (!decide ((x0.snd.length : Int) <= 27)) false) (zIA.bind (H20 (x0.fst, x0.snd)) fun x2 => zIA.ite (jF (x2 != 0) false) (zIA.bind (H38 (x1, 1, 4)) fun x3 => zIA.ite (jF x3 false) (zIA.bind (H44 (x1, x0.fst, 256)) fun x4 => zIA.ite x4 (zIA.ret true) (zIA.bind (H45 (x0.fst, x0.snd, x1)) fun x5 => zIA.bind (H35 (x0.fst, x0.snd, x1)) fun x6 => zIA.ite (jF (x5.snd != 0) false) (zIA.ite (jF (x6.snd != 0) false) (zIA.ite (jF ((x5.fst.length : Int) != x6.fst) false) (zIA.ite (jF (decide (x6.fst < 1)) false) (zIA.ite (decide (256 < x6.fst)) (zIA.ret false) (zIA.bind (qQ (F8b x0 x5) (0, 0)) fun x7 => zIA.sum x7 (fun s8 => zIA.bind (qQ (F8c x0 x1) (1, 0)) fun x9 => zIA.sum x9 (fun s10 => zIA.bind (qQ (F8e x0 x1 s10) (0, 0)) fun x11 => zIA.sum x11 (fun s12 => zIA.ite (jF (s8.fst == s10.fst) true) (zIA.ite (jF (s12.fst == x6.fst) true) (zIA.ret true) (zIA.ret false)) (zIA.ret false)) fun (s12 : Bool ⊕ Nat × Int × Int) => zIA.sum s12 (fun s13 => zIA.ret s13) fun (s13 : Nat × Int × Int) => zIA.fail) fun (s10 : Bool ⊕ Nat × Int × Int) => zIA.sum s10 (fun s11 => zIA.ret s11) fun (s11 : Nat × Int × Int) => zIA.fail) fun (s8 : Bool ⊕ Nat × Int × Int) => zIA.sum s8 (fun s9 => zIA.ret s9) fun (s9 : Nat × Int × Int) => zIA.fail)) (zIA.ret false)) (zIA.ret false)) (zIA.ret false)) (zIA.ret false))) (zIA.ret true)) (zIA.ret true)) (zIA.ret true)
def H8 (x : TyL [zGU, tI]) := (G8 x.1 x.2).run
def U8 : xW := ent 3 H8 :: U45
theorem L8 : Lb U8 [] := L45.aE 3 zJ0 ⟨[], [(0, ⟨[11, 87], [], [], [], [], [], []⟩), (2, ⟨[11, 14, 15], [], [], [], [], [], []⟩), (4, ⟨[18, 145], [], [], [], [], [], []⟩), (6, ⟨[19, 152], [], [], [], [], [], []⟩), (8, ⟨[22, 23, 24, 159], [156], [(21, 156)], [], [], [], []⟩)], [], []⟩ Tryz.f3 H8 Tryz.func3
end
end Go.Proofs.YtjgfemghlhmlbaaGreatDoor
namespace Go.Proofs.YtjgfemghlhmlbaaGreatDoor
open Go Go.Idl Go.Sv Go.Proofs
variable {L : List (List Int × Int)} {a b k n v : Int} {l : List Int}
theorem vI {S σ τ : Type} {F : S -> Option (S ⊕ τ)} (E : Nat -> σ -> S) (I : Nat -> σ -> Prop) (dn : σ -> τ) {n : Nat}
 (hs : ∀ k s, k < n -> I k s -> ∃ s', F (E k s) = some (.inl (E (k + 1) s')) ∧ I (k + 1) s') (he : ∀ s, I n s -> F (E n s) = some (.inr (dn s))) : ∀ (m k : Nat) (s : σ), k + m = n -> I k s -> ∃ s', qQ F (E k s) = some (dn s') ∧ I n s'
 | 0, k, s, h, hI => by
   have : k = n := by omega
   subst this;exact ⟨s, by rw [zB, he s hI], hI⟩
 | m + 1, k, s, h, hI => by
   obtain ⟨s', h1, h2⟩ := hs k s (by omega) hI;obtain ⟨s2, h3, h4⟩ := vI E I dn hs he m (k + 1) s' (by omega) h2;exact ⟨s2, by rw [zB, h1]; exact h3, h4⟩
def eqM (a b : Int) : Prop := a % 18446744073709551616 = b % 18446744073709551616
theorem eqM.refl (a : Int) : eqM a a := rfl
theorem eqM.trans {a b c : Int} (h : eqM a b) (g : eqM b c) : eqM a c := Eq.trans h g
theorem eqM.symm {a b : Int} (h : eqM a b) : eqM b a := Eq.symm h
theorem eqM.add {c d : Int} (h : eqM a b) (g : eqM c d) : eqM (a + c) (b + d) := by
 unfold eqM at *;rw [Int.add_emod, h, g, <- Int.add_emod]
theorem eqM.mul (h : eqM a b) (c : Int) : eqM (a * c) (b * c) := by
 unfold eqM at *;rw [Int.mul_emod, h, <- Int.mul_emod]
theorem qHS (a : Int) : eqM (IntKind.i64.wrap a) a := q4I a
theorem qZY (h : eqM a b) : IntKind.i64.wrap a = IntKind.i64.wrap b := q68 h
theorem zAE (a : Int) : IntKind.i64.wrap (IntKind.i64.wrap a) = IntKind.i64.wrap a := qZY (qHS a)
theorem q1J (L : List (List Int × Int)) (l : List Int) (v : Int) (r : List Int) : vF (L ++ [(l, v)]) r = vF L r + v * wW false r l := by
 unfold vF;rw [zRI, zTP];simp
theorem qPY {r l : List Int} {n v : Int} : ∀ {L : List (List Int × Int)} {i : Nat}, L[i]? = some (l, n) -> vF (L.set i (l, v)) r = vF L r - n * wW false r l + v * wW false r l
 | [], i, h => by simp at h
 | p :: L, 0, h => by
   simp only [zRJ, zQV] at h;subst h;show v * wW false r l + vF L r = (n * wW false r l + vF L r) - n * wW false r l + v * wW false r l;omega
 | p :: L, i + 1, h => by
   have ih := qPY (r := r) (v := v) (L := L) (i := i) (by simpa using h);show p.2 * wW false r p.1 + vF (L.set i (l, v)) r = (p.2 * wW false r p.1 + vF L r) - n * wW false r l + v * wW false r l;rw [ih];omega
theorem q2Q {i : Nat} (h : zIP L) (hn : L[i]? = some (l, n)) (hv : IntKind.i64.wrap v = v) : zIP (L.set i (l, v)) := by
 have hm : (l, n) ∈ L := zRL hn;refine ⟨fun p hp => ?_, fun p hp => ?_, fun p hp => ?_, ?_⟩
 ·rcases zSB hp with q | rfl
  ·exact h.len p q
  ·exact h.len (l, n) hm
 ·rcases zSB hp with q | rfl
  ·exact h.ran p q
  ·exact h.ran (l, n) hm
 ·rcases zSB hp with q | rfl
  ·exact h.val p q
  ·exact hv
 ·have : (L.set i (l, v)).map (·.1) = L.map (·.1) := by
   apply zRC;intro j;rw [zQU, zQU, zRD];by_cases hij : i = j
   ·subst hij;rw [if_pos rfl, hn];simp [(zQQ.1 hn).1]
   ·rw [if_neg hij]
  rw [this]; exact h.nod
theorem q19 {L : List (List Int × Int)} {l : List Int} (h : zIP L) (hl : l.length = 8) (hr : ∀ x ∈ l, 0 <= x ∧ x <= 1000) (hv : IntKind.i64.wrap v = v) (hno : ∀ p ∈ L, p.1 ≠ l) : zIP (L ++ [(l, v)]) := by
 have two : ∀ {p : List Int × Int}, p ∈ L ++ [(l, v)] -> p ∈ L ∨ p = (l, v) := fun {p} hp => by
  rcases zRA.1 hp with q | q
  ·exact .inl q
  ·exact .inr (zRX.1 q)
 refine ⟨fun p hp => ?_, fun p hp => ?_, fun p hp => ?_, ?_⟩
 ·rcases two hp with q | rfl
  ·exact h.len p q
  ·exact hl
 ·rcases two hp with q | rfl
  ·exact h.ran p q
  ·exact hr
 ·rcases two hp with q | rfl
  ·exact h.val p q
  ·exact hv
 ·rw [zRI, zVL];refine ⟨h.nod, by simp, fun x hx y hy e => ?_⟩;obtain ⟨p, hp, rfl⟩ := zQ9.1 hx;have : y = l := by simpa using hy
  exact hno p hp (e.trans this)
def qD3 (l : List Int) : Int × Int × Int × Int × Int × Int × Int × Int := (l.getD 0 0, l.getD 1 0, l.getD 2 0, l.getD 3 0, l.getD 4 0, l.getD 5 0, l.getD 6 0, l.getD 7 0)
noncomputable def zKI (x5 : Int) (l : List Int) (n : Int) : Int × List (Value × Value) -> Option (Int × List (Value × Value) ⊕ (Int × List (Value × Value) ⊕ Int ⊕ Nat × Int × List (Value × Value))) := (fun (s10 : Int × List (Value × Value)) => zIA.ite (decide (s10.fst < 8)) (zIA.bind (idx 8 s10.fst) fun (x11 : Nat) => zIA.bind l[0 + x11 * 1]? fun (x12 : Int) => zIA.ite (decide (x5 <= x12)) (zIA.bind (idx 8 s10.fst) fun (x13 : Nat) => zIA.bind l[0 + x13 * 1]? fun (x14 : Int) => zIA.bind (idx 8 s10.fst) fun (x15 : Nat) => zIA.bind (qUC (0 + x15 * 1) (IntKind.i64.wrap (x14 - x5)) l) fun (x16 : List Int) => zIA.bind (q7V Tryz.prog 75 (aD x16) s10.snd) fun (x17 : Bool) => zIA.ite x17 (zIA.bind (q51 Tryz.prog 75 (Ty.int IntKind.i64) (aD x16) s10.snd) fun (x18 : Int) => zIA.bind (q0Y Tryz.prog 75 (Ty.int IntKind.i64) (aD x16) (Value.int IntKind.i64 0) s10.snd) fun (x19 : List (Value × Value) × Nat × Int) => zIA.bind (q5X (↑x19.snd.fst : Int) (Value.int IntKind.i64 (IntKind.i64.wrap (x18 + n))) x19.fst) fun (x20 : List (Value × Value)) => zIA.ret (Sum.inl (IntKind.i64.wrap (s10.fst + 1), x20))) (zIA.bind (q0Y Tryz.prog 75 (Ty.int IntKind.i64) (aD x16) (Value.int IntKind.i64 0) s10.snd) fun (x18 : List (Value × Value) × Nat × Int) => zIA.bind (q5X (↑x18.snd.fst : Int) (Value.int IntKind.i64 (IntKind.i64.wrap (0 + n))) x18.fst) fun (x19 : List (Value × Value)) => zIA.ret (Sum.inl (IntKind.i64.wrap (s10.fst + 1), x19)))) (zIA.ret (Sum.inl (IntKind.i64.wrap (s10.fst + 1), s10.snd)))) (zIA.ret (Sum.inr (Sum.inl (s10.fst, s10.snd)))))
theorem IJ (hl : l.length = 8) : zMB k (qD3 l, n) = zKI k l n := by
 match l, hl with
 | [a0, a1, a2, a3, a4, a5, a6, a7], _ => rfl
def wK (k : Int) (r l : List Int) (c : Nat) : Int := ((List.range c).map fun i => if k <= l.getD i 0 then wW false r (l.set i (l.getD i 0 - k)) else 0).sum
theorem qWY (k : Int) (r l : List Int) (c : Nat) : wK k r l (c + 1) = wK k r l c + (if k <= l.getD c 0 then wW false r (l.set c (l.getD c 0 - k)) else 0) := by
 unfold wK;rw [zTD, zRI, zTP];simp
theorem zDQ {c : Nat} (h : c < 8) : idx 8 (c : Int) = some c := zQ h
theorem q2Z {l : List Int} (hk : 1 <= k) (hl : l.length = 8) (hr : ∀ x ∈ l, 0 <= x ∧ x <= 1000) {L0 : List (List Int × Int)} (hG : zIP L0) :
 ∃ L1, qQ (zMB k (qD3 l, n)) (0, yF L0) = some (.inl (8, yF L1)) ∧ zIP L1 ∧ ∀ r, eqM (vF L1 r) (vF L0 r + n * wW false (k :: r) l) := by
 rw [IJ hl];have hl2 : l.length = 8 := hl
 refine Exists.elim (vI (τ := Int × List (Value × Value) ⊕ Int ⊕ Nat × Int × List (Value × Value)) (F := zKI k l n) (fun (c : Nat) (es : List (Value × Value)) => ((c : Int), es)) (fun c es => ∃ L, es = yF L ∧ zIP L ∧ ∀ r, eqM (vF L r) (vF L0 r + n * wK k r l c)) (fun es => Sum.inl (8, es)) (n := 8) (fun c es hc hI => ?step) (fun es hI => ?fin) 8 0 (yF L0) (by omega) ⟨L0, rfl, hG, fun r => by
  have : wK k r l 0 = 0 := rfl
  rw [this, Int.mul_zero, zVA]; exact .refl _⟩) (fun es' hh => ?main)
 case main =>
  obtain ⟨h1, L1, rfl, h3, h4⟩ := hh;refine ⟨L1, h1, h3, fun r => ?_⟩
  have : wW false (k :: r) l = wK k r l 8 := by
   show ((List.range l.length).map _).sum = _;rw [hl2]; rfl
  rw [this]; exact h4 r
 case fin =>
  have h8 : decide (((8 : Nat) : Int) < 8) = false := rfl;unfold zKI;simp only [h8, qI];rfl
 case step =>
  obtain ⟨L, rfl, hGL, hS⟩ := hI;have hc8 : decide ((c : Int) < 8) = true := decide_eq_true (by omega);have hcl : c < l.length := by omega
  have hx : l[0 + c * 1]? = some (l.getD c 0) := by
   rw [show 0 + c * 1 = c by omega, zQP hcl];simp [List.getD, hcl]
  have hw1 : IntKind.i64.wrap ((c : Int) + 1) = ((c + 1 : Nat) : Int) := kF (by omega);have hm := hr _ (gY hcl);by_cases hkl : k <= l.getD c 0
  ·have hwk : IntKind.i64.wrap (l.getD c 0 - k) = l.getD c 0 - k := wrap_i64 (by omega) (by omega)
   have hset : qUC (0 + c * 1) (l.getD c 0 - k) l = some (l.set c (l.getD c 0 - k)) := by
    unfold qUC;rw [show 0 + c * 1 = c by omega, if_pos hcl]
   generalize hl' : l.set c (l.getD c 0 - k) = l' at hset;have zK5 : l'.length = 8 := by rw [<- hl', zRH, hl2]
   have hr' : ∀ x ∈ l', 0 <= x ∧ x <= 1000 := fun x hx => by
    rw [<- hl'] at hx;rcases zSB hx with q | rfl
    ·exact hr x q
    ·omega
   have zQJ : ∀ r, wK k r l (c + 1) = wK k r l c + wW false r l' := fun r => by rw [qWY, if_pos hkl, hl']
   have hlen := hGL.len
   have fin : ∀ {L1 : List (List Int × Int)}, zIP L1 -> (∀ r, eqM (vF L1 r) (vF L r + n * wW false r l')) -> zKI k l n ((c : Int), yF L) = some (.inl (((c + 1 : Nat) : Int), yF L1)) -> ∃ s', zKI k l n ((c : Int), yF L) = some (.inl (((c + 1 : Nat) : Int), s')) ∧ ∃ L1, s' = yF L1 ∧ zIP L1 ∧ ∀ r, eqM (vF L1 r) (vF L0 r + n * wK k r l (c + 1)) := fun {L1} g1 g2 g3 => ⟨_, g3, L1, rfl, g1, fun r => by
    refine (g2 r).trans ?_;rw [zQJ, Int.mul_add, <- Int.add_assoc]
    exact (hS r).add (.refl _)⟩
   cases hp : pW l' L with
   | some i =>
     obtain ⟨m, hm2⟩ := qJ3 hp;refine fin (L1 := L.set i (l', IntKind.i64.wrap (m + n))) (q2Q hGL hm2 (zAE _)) (fun r => ?_) ?_
     ·rw [qPY hm2];have h1 := (qHS (m + n)).mul (wW false r l');rw [Int.add_mul] at h1;have h2 := (eqM.refl (vF L r - m * wW false r l')).add h1;refine h2.trans ?_;rw [show vF L r - m * wW false r l' + (m * wW false r l' + n * wW false r l') = vF L r + n * wW false r l' by omega];exact .refl _
     ·unfold zKI;simp only [hc8, qV, zDQ hc, qE, hx, decide_eq_true hkl, hwk, hset, qA8 zK5 hlen, hp, zT0, qQB zK5 hlen hp hm2, zAS zK5 hlen hp hm2, qRK _ hm2, hw1];rfl
   | none =>
     have hno := qJW hp;have hget : (L ++ [(l', (0 : Int))])[L.length]? = some (l', 0) := by simp
     have zO5 : ∀ v, (L ++ [(l', (0 : Int))]).set L.length (l', v) = L ++ [(l', v)] := fun v => by simp
     refine fin (L1 := L ++ [(l', IntKind.i64.wrap (0 + n))]) (q19 hGL zK5 hr' (zAE _) hno) (fun r => ?_) ?_
     ·rw [q1J, Int.zero_add];exact (eqM.refl _).add ((qHS n).mul _)
     ·unfold zKI;simp only [hc8, qV, zDQ hc, qE, hx, decide_eq_true hkl, hwk, hset, qA8 zK5 hlen, hp, zUL, qI, zAC zK5 hlen hp, qRK _ hget, zO5, hw1];rfl
  ·refine ⟨yF L, ?_, L, rfl, hGL, fun r => ?_⟩
   ·unfold zKI;simp only [hc8, qV, zDQ hc, qE, hx, decide_eq_false hkl, qI, hw1];rfl
   ·rw [qWY, if_neg hkl, zVA]; exact hS r
end Go.Proofs.YtjgfemghlhmlbaaGreatDoor
set_option maxRecDepth 10000
namespace Go.Proofs.YtjgfemghlhmlbaaGreatDoor
open Go Go.Idl Go.Sv Go.Proofs
variable {L : List (List Int × Int)} {i : Nat} {k : Int} {l x0 : List Int} {p : List Int × Int}
theorem zE7 (l : List Int) (n : Int) : (Ty.ofV ((Ty.int IntKind.i64).pair ((Ty.int IntKind.i64).pair ((Ty.int IntKind.i64).pair ((Ty.int IntKind.i64).pair ((Ty.int IntKind.i64).pair ((Ty.int IntKind.i64).pair ((Ty.int IntKind.i64).pair (Ty.int IntKind.i64)))))))) (aD l)) = some (qD3 l) := by
 have key : ∀ a0 a1 a2 a3 a4 a5 a6 a7 : Int, Ty.ofV ((Ty.int IntKind.i64).pair ((Ty.int IntKind.i64).pair ((Ty.int IntKind.i64).pair ((Ty.int IntKind.i64).pair ((Ty.int IntKind.i64).pair ((Ty.int IntKind.i64).pair ((Ty.int IntKind.i64).pair (Ty.int IntKind.i64)))))))) (Value.agg #[.int .i64 a0, .int .i64 a1, .int .i64 a2, .int .i64 a3, .int .i64 a4, .int .i64 a5, .int .i64 a6, .int .i64 a7]) = some (a0, a1, a2, a3, a4, a5, a6, a7) := fun _ _ _ _ _ _ _ _ => rfl
 exact key _ _ _ _ _ _ _ _
theorem qTZ (h : L[i]? = some p) : qJL ((Ty.int IntKind.i64).pair ((Ty.int IntKind.i64).pair ((Ty.int IntKind.i64).pair ((Ty.int IntKind.i64).pair ((Ty.int IntKind.i64).pair ((Ty.int IntKind.i64).pair ((Ty.int IntKind.i64).pair (Ty.int IntKind.i64)))))))) (.int .i64) i (yF L) = some (qD3 p.1, p.2) := by
 unfold qJL;rw [qAZ, h, zQW];simp only;rw [zE7 p.1 p.2];rfl
theorem zAO : (spec Tryz.prog 1000000001 && (spec Tryz.prog 1000000002 && (Nat.beq 4 4 && (Nat.beq 0 0 && true)))) = true := by kernel_rfl
theorem zFG (i : Nat) : (Nat.add._f Nat.zero PUnit.unit i) = i := rfl
def q5I (k : Int) (L : List (List Int × Int)) (is : List Nat) (r : List Int) : Int := (is.map fun i => match L[i]? with
 | some p => p.2 * wW false (k :: r) p.1
 | none => 0).sum
theorem zDB (hk : 1 <= k) (hL : zIP L) (hp : L[i]? = some p) {L0 : List (List Int × Int)} (h0 : zIP L0) :
 ∃ L1, zLO k (yF L) i (alW (yF L0)) = some (alW (yF L1)) ∧ zIP L1 ∧ ∀ r, eqM (vF L1 r) (vF L0 r + p.2 * wW false (k :: r) p.1) := by
 have hm := zRL hp;have one : ∀ {M : List (List Int × Int)}, zIP M -> ∃ M1, qQ (zMB k (qD3 p.1, p.2)) (0, yF M) = some (.inl (8, yF M1)) ∧ zIP M1 ∧ ∀ r, eqM (vF M1 r) (vF M r + p.2 * wW false (k :: r) p.1) := fun g => q2Z hk (hL.len p hm) (hL.ran p hm) g
 obtain ⟨L1, h1, h2, h3⟩ := one h0;refine ⟨L1, ?_, h2, h3⟩;unfold zLO;refine bY ⟨([], yF L0), rfl⟩ fun s8 hs => ?_
 obtain ⟨ns, es⟩ := s8;have hs : alW es = alW (yF L0) := hs;rw [fP h0] at hs;obtain ⟨M, g1, rfl, g3⟩ := qN6 hs;obtain ⟨M1, q1, q2, q3⟩ := one g1
 have heq : alW (yF M1) = alW (yF L1) := by
  rw [fP q2, fP h2]
  congr 1
  funext r
  have e0 : vF L0 r % 18446744073709551616 = vF M r % 18446744073709551616 := congrFun g3 r;exact (q3 r).trans ((eqM.add (eqM.symm e0) (.refl _)).trans (h3 r).symm)
 simp only [Nat.beq_refl, nG, zAO, qV, zFG, qTZ hp, qE, q1, xE, heq];rfl
theorem qYR {k : Int} (hk : 1 <= k) {L : List (List Int × Int)} (hL : zIP L) : ∀ (is : List Nat), (∀ i ∈ is, i < L.length) -> ∀ {L0 : List (List Int × Int)}, zIP L0 ->
 ∃ L1, is.foldlM (fun s i => zLO k (yF L) i s) (alW (yF L0)) = some (alW (yF L1)) ∧ zIP L1 ∧ ∀ r, eqM (vF L1 r) (vF L0 r + q5I k L is r)
 | [], _, L0, h0 => ⟨L0, rfl, h0, fun r => by
   have : q5I k L [] r = 0 := rfl
   rw [this, zVA]; exact .refl _⟩
 | i :: is, hi, L0, h0 => by
   have hlt := hi i zQT;obtain ⟨M, a1, a2, a3⟩ := zDB hk hL (zQP hlt) h0;obtain ⟨L1, b1, b2, b3⟩ := qYR hk hL is (fun j hj => hi j (zQS _ hj)) a2;refine ⟨L1, ?_, b2, fun r => ?_⟩
   ·rw [List.foldlM_cons, a1];exact b1
   ·refine (b3 r).trans ?_;refine ((a3 r).add (.refl _)).trans ?_
    have : q5I k L (i :: is) r = (L[i]).2 * wW false (k :: r) (L[i]).1 + q5I k L is r := by
     unfold q5I;rw [zQ0, zSO, zQP hlt]
    rw [this, <- Int.add_assoc];exact .refl _
theorem q2A {m : List Int} (h : l.Perm m) : l.sum = m.sum := by
 induction h with
 | nil => rfl
 | cons x _ ih => simp only [zSO, ih]
 | swap x y l => simp only [zSO]; omega
 | trans _ _ i1 i2 => exact i1.trans i2
theorem q9M {r : List Int} : ∀ (L : List (List Int × Int)), q5I k L (List.range L.length) r = vF L (k :: r) := fun L => by
 unfold q5I vF
 congr 1
 apply zRC;intro i;rw [zQU, zQU];by_cases h : i < L.length
 ·rw [zS1 h, zQP h];simp [zQP h]
 ·rw [zQX (by simpa using h), zQX (by simpa using h)]; rfl
theorem qRL : zIP [] := ⟨fun p h => by (cases h), fun p h => by (cases h), fun p h => by (cases h), List.nodup_nil⟩
theorem zB0 (hk : 1 <= k) (hL : zIP L) : ∃ L1, w9 (yF L).length (zLO k (yF L)) (alW []) = some (alW (yF L1)) ∧ zIP L1 ∧ ∀ r, eqM (vF L1 r) (vF L (k :: r)) := by
 have zQK : ∀ r, vF [] r = 0 := fun r => rfl
 have pv : ∀ {l : List Nat}, l.Perm (List.range L.length) -> ∀ r, q5I k L l r = vF L (k :: r) := fun h r => by
  rw [<- q9M];exact q2A (h.map _)
 obtain ⟨L1, a1, a2, a3⟩ := qYR hk hL (List.range L.length) (fun i h => zRF.1 h) qRL;refine ⟨L1, qOT fun l hl => ?_, a2, fun r => ?_⟩
 ·rw [qHC] at hl;obtain ⟨M, b1, b2, b3⟩ := qYR hk hL l (fun i h => zRF.1 (hl.mem_iff.1 h)) qRL;refine (show _ = some (alW (yF M)) from b1).trans ?_;rw [fP b2, fP a2]
  congr 2
  funext r
  refine (b3 r).trans (Eq.trans ?_ (a3 r).symm);rw [pv hl, pv (.refl _)]
 ·refine (a3 r).trans ?_;rw [pv (.refl _), zQK, Int.zero_add];exact .refl _
theorem qXX (L : List (List Int × Int)) : ((yF L).all fun (p : Value × Value) => zG p.fst) = true := by
 induction L with
 | nil => rfl
 | cons p L ih =>
   show (zG (aD p.1) && (yF L).all _) = true;rw [qCA, ih]; rfl
theorem zCD {x0 : List Int} (hi : i < x0.length) (hb : x0.length < 2 ^ 62) (hk : ∀ k ∈ x0, 1 <= k) (hL : zIP L) :
 ∃ L1, zKN x0 ((i : Int), alW (yF L)) = some (.inl (((i + 1 : Nat) : Int), alW (yF L1))) ∧ zIP L1 ∧ ∀ r, eqM (vF L1 r) (vF L (x0.getD i 0 :: r)) := by
 have hx : x0[i]? = some (x0.getD i 0) := by simp [List.getD, zQP hi]
 have hk1 := hk _ (gY hi);obtain ⟨L1, a1, a2, a3⟩ := zB0 hk1 hL;refine ⟨L1, ?_, a2, a3⟩;unfold zKN;refine bY ⟨((i : Int), yF L), rfl⟩ fun s3 hs => ?_
 obtain ⟨j, es⟩ := s3;obtain ⟨hj, hs1⟩ := Prod.mk.inj (show (j, alW es) = ((i : Int), alW (yF L)) from hs);clear hs;have hs := hs1;subst hj;rw [fP hL] at hs;obtain ⟨M, g1, rfl, g3⟩ := qN6 hs;obtain ⟨M1, q1, q2, q3⟩ := zB0 hk1 g1
 have heq : alW (yF M1) = alW (yF L1) := by
  rw [fP q2, fP a2]
  congr 1
  funext r
  have e0 : vF L (x0.getD i 0 :: r) % 18446744073709551616 = vF M (x0.getD i 0 :: r) % 18446744073709551616 := congrFun g3 _;exact (q3 r).trans (Eq.trans e0.symm (a3 r).symm)
 have hlt : (i : Int) < ((x0.length : Nat) : Int) := by omega
 have hal : ∀ {R : Type} (K : AW -> R), aT (fun (s7 : List Nat × List (Value × Value)) => alW s7.snd = alW (yF L1)) (fun s7 => some (K (alW s7.snd))) = some (K (alW (yF L1))) := fun K => bY ⟨([], yF L1), rfl⟩ fun s h => by rw [h]
 simp only [mI hlt, qV, zQ hi, qE, hx, Nat.beq_refl, nG, qXX, q1, heq, kF (show i < 2 ^ 62 by omega)];exact congrArg (fun x => (zIA.bind x _ : Option _)) (hal fun a => (Sum.inl (((i + 1 : Nat) : Int), a) : Int × AW ⊕ Int × AW ⊕ Int))
theorem zD0 (hL : zIP L) : zKN x0 ((x0.length : Int), alW (yF L)) = some (.inr (.inl ((x0.length : Int), alW (yF L)))) := by
 unfold zKN;refine bY ⟨((x0.length : Int), yF L), rfl⟩ fun s3 hs => ?_
 obtain ⟨j, es⟩ := s3;obtain ⟨hj, hs1⟩ := Prod.mk.inj (show (j, alW es) = ((x0.length : Int), alW (yF L)) from hs);clear hs;have hs := hs1;subst hj;simp only [mJ (zRR _), qI, hs];rfl
theorem zBO (hL : zIP L) : (pW (List.replicate 8 0) L = none ∧ vF L [] = 0) ∨ ∃ i n, pW (List.replicate 8 0) L = some i ∧ L[i]? = some (List.replicate 8 0, n) ∧ vF L [] = n := by
 have z8 : ∀ {l : List Int}, l.length = 8 -> (leaf false l = 1 ∧ l = List.replicate 8 0) ∨ (leaf false l = 0 ∧ l ≠ List.replicate 8 0) := fun {l} h => by
  by_cases e : l = List.replicate 8 0
  ·subst e; exact .inl ⟨rfl, rfl⟩
  ·refine .inr ⟨?_, e⟩;unfold leaf;rw [if_neg];intro q;simp only [zUC, zQR, decide_eq_true_eq] at q;exact e (List.eq_replicate_iff.2 ⟨h, q⟩)
 have nz : ∀ {M : List (List Int × Int)}, (∀ p ∈ M, p.1.length = 8) -> (∀ p ∈ M, p.1 ≠ List.replicate 8 0) -> vF M [] = 0 := fun {M} h1 h2 => by
  induction M with
  | nil => rfl
  | cons p M ih =>
    show p.2 * leaf false p.1 + vF M [] = 0;rw [ih (fun q hq => h1 q (zQS _ hq)) fun q hq => h2 q (zQS _ hq)]
    rcases z8 (h1 p zQT) with ⟨a, b⟩ | ⟨a, b⟩
    ·exact absurd b (h2 p zQT)
    ·rw [a]; omega
 have h1 := hL.len;have h2 := hL.nod;clear hL
 induction L with
 | nil => exact .inl ⟨rfl, rfl⟩
 | cons p L ih =>
   have hp := h1 p zQT;rw [zQ0, List.nodup_cons] at h2
   rcases z8 hp with ⟨a, b⟩ | ⟨a, b⟩
   ·refine .inr ⟨0, p.2, ?_, by rw [<- b]; rfl, ?_⟩
    ·unfold pW; rw [decide_eq_true b]; rfl
    ·show p.2 * leaf false p.1 + vF L [] = p.2;rw [a, nz (fun q hq => h1 q (zQS _ hq)) fun q hq e => h2.1 (zQ9.2 ⟨q, hq, e.trans b.symm⟩)];omega
   ·have hs : vF (p :: L) [] = vF L [] := by
     show p.2 * leaf false p.1 + vF L [] = _;rw [a]; omega
    have hpos : pW (List.replicate 8 0) (p :: L) = (pW (List.replicate 8 0) L).map (· + 1) := by
     show cond (decide (p.1 = List.replicate 8 0)) (some 0) ((pW (List.replicate 8 0) L).map (· + 1)) = _;rw [decide_eq_false b]; rfl
    rw [hs, hpos]
    rcases ih (fun q hq => h1 q (zQS _ hq)) h2.2 with ⟨c, d⟩ | ⟨i, n, c, d, e⟩
    ·exact .inl ⟨by rw [c]; rfl, d⟩
    ·exact .inr ⟨i + 1, n, by rw [c]; rfl, by simpa using d, e⟩
theorem zEL {x0 l : List Int} (hk : ∀ k ∈ x0, 1 <= k) (hb : x0.length < 2 ^ 62) (hl : l.length = 8) (hr : ∀ x ∈ l, 0 <= x ∧ x <= 1000) : zK4 (x0, qD3 l) = some (IntKind.i64.wrap (wW false x0 l)) := by
 show (zNL x0 (qD3 l)).run = _;unfold zNL
 have hG0 : zIP [(l, 1)] := ⟨fun p h => by rw [zRX.1 h]; exact hl, fun p h => by rw [zRX.1 h]; exact hr, fun p h => by rw [zRX.1 h]; rfl, by simp⟩
 obtain ⟨a', h1, L, rfl, h3, h4⟩ := vI (τ := Int × AW ⊕ Int) (F := zKN x0) (fun (i : Nat) (a : AW) => ((i : Int), a)) (fun i a => ∃ L, a = alW (yF L) ∧ zIP L ∧ ∀ r, eqM (vF L r) (wW false (x0.take i ++ r) l)) (fun a => Sum.inl ((x0.length : Int), a)) (n := x0.length) (fun i a hi hI => by
  obtain ⟨L, rfl, g1, g2⟩ := hI;obtain ⟨L1, a1, a2, a3⟩ := zCD hi hb hk g1;refine ⟨_, a1, L1, rfl, a2, fun r => (a3 r).trans ((g2 _).trans ?_)⟩
  have : x0.take i ++ x0.getD i 0 :: r = x0.take (i + 1) ++ r := by
   have hx : x0.getD i 0 = x0[i] := by simp [List.getD, zQP hi]
   rw [zTT, zQP hi, hx, zRW];rfl
  rw [this]; exact .refl _) (fun a hI => by
  obtain ⟨L, rfl, g1, g2⟩ := hI
  exact zD0 g1) x0.length 0 (alW (yF [(l, 1)])) (by omega) ⟨[(l, 1)], rfl, hG0, fun r => by
   show (1 * wW false r l + 0) % _ = wW false r l % _
   rw [Int.one_mul, zVA]⟩
 refine (congrArg (fun x => (zIA.bind x _ : Option _)) (show qQ (zKN x0) (0, alW (yF [(l, 1)])) = _ from h1)).trans ?_;simp only [qE, xE];have h4 := h4 [];rw [zS7, zSK] at h4
 have hfin : aT (fun (s4 : Int × List (Value × Value)) => (s4.fst, alW s4.snd) = ((x0.length : Int), alW (yF L))) (fun s4 => zMC s4.snd) = some (IntKind.i64.wrap (wW false x0 l)) := by
  refine bY ⟨((x0.length : Int), yF L), rfl⟩ fun s4 hs => ?_
  obtain ⟨j, es⟩ := s4;obtain ⟨hj, hs1⟩ := Prod.mk.inj (show (j, alW es) = ((x0.length : Int), alW (yF L)) from hs);clear hs;rw [fP h3] at hs1;obtain ⟨M, g1, rfl, g3⟩ := qN6 hs1;have g4 : vF L [] % 18446744073709551616 = vF M [] % 18446744073709551616 := congrFun g3 []
  have hz : ∀ {n : Int}, vF M [] = n -> IntKind.i64.wrap (wW false x0 l) = IntKind.i64.wrap n := fun e => by
   subst e;exact qZY (h4.symm.trans g4)
  have k0 : aD [] = aD (List.replicate 8 0) := rfl;have hl8 : (List.replicate 8 (0 : Int)).length = 8 := rfl
  rcases zBO g1 with ⟨c1, c2⟩ | ⟨i, n, c1, c2, c3⟩
  ·simp only [zMC, k0, qA8 hl8 g1.len, c1, zUL, qE, qI];rw [hz c2]; rfl
  ·have hn := g1.val _ (zRL c2);simp only [zMC, k0, qA8 hl8 g1.len, c1, zT0, qE, qV, qQB hl8 g1.len c1 c2];rw [hz c3];exact congrArg some hn.symm
 exact (congrArg (fun x => (zIA.bind x _ : Option _)) hfin).trans rfl
end Go.Proofs.YtjgfemghlhmlbaaGreatDoor
namespace Go.Proofs.YtjgfemghlhmlbaaGreatDoor
open Go.Idl Go.Sv
variable {c w : List Int} {n : Int}
noncomputable def GE {α : Type} (H : α × α -> Option Bool) (x0 x1 : List α) : zIA Bool :=
 zIA.ite ((x0.length : Int) != (x1.length : Int)) (zIA.ret false)
  (zIA.bind
    (qQ
      (fun (s2 : Int) =>
        zIA.ite (decide (s2 < (x0.length : Int)))
         (zIA.bind (idx x0.length s2) fun (x3 : Nat) =>
           zIA.bind x0[x3]? fun (x4 : α) =>
            zIA.bind (idx x1.length s2) fun (x5 : Nat) =>
             zIA.bind x1[x5]? fun (x6 : α) =>
              zIA.bind (H (x4, x6)) fun (x7 : Bool) =>
               zIA.ite (!x7) (zIA.ret (Sum.inr (Sum.inr (Sum.inl false))))
                (zIA.ret (Sum.inl (IntKind.i64.wrap (s2 + 1)))))
         (zIA.ret (Sum.inr (Sum.inl s2))))
      0)
    fun (x2 : Int ⊕ Bool ⊕ Nat × Int) =>
    zIA.sum x2 (fun (s3 : Int) => zIA.ret true) fun (s3 : Bool ⊕ Nat × Int) =>
     zIA.sum s3 (fun (s4 : Bool) => zIA.ret s4) fun (s4 : Nat × Int) => zIA.fail)
theorem zDY {α : Type} [DecidableEq α] {H : α × α -> Option Bool} {a b : List α} (ha : a.length < 2 ^ 62) (hH : ∀ x ∈ a, ∀ y ∈ b, H (x, y) = some (decide (x = y))) : (GE H a b).run = some (decide (a = b)) := by
 unfold GE;by_cases hl : a.length = b.length
 ·have h0 : ((a.length : Int) != (b.length : Int)) = false := by simp [hl]
  rw [h0, qI];refine vC a.length (fun i => if a[i]? = b[i]? then none else some false) (fun x => Sum.inr (Sum.inl x)) (Sum.inl (a.length : Int)) (fun k hk => ?_) ?_ ?_
  ·obtain ⟨x, hx, mx⟩ := o5 hk;obtain ⟨y, hy, my⟩ := o5 (show k < b.length by omega);have hk2 : k < b.length := by omega
   have hk3 : (k : Int) < (a.length : Int) := by omega
   simp only [mI hk3, qV, zQ hk, qE, hx, zQ hk2, hy, hH x mx y my, kF (show k < 2 ^ 62 by omega)];by_cases hxy : x = y
   ·simp [hxy, qI]; rfl
   ·simp [hxy, qV]; rfl
  ·simp only [mJ (zRR _), qI];rfl
  ·cases hs : scan (fun i => if a[i]? = b[i]? then none else some false) a.length 0 with
   | none =>
     have hab : a = b := zRC fun i => by
      by_cases hi : i < a.length
      ·have := pE.1 hs i (zR4 _) (by omega);by_cases h : a[i]? = b[i]?
       ·exact h
       ·rw [if_neg h] at this; cases this
      ·rw [zQX (by omega), zQX (by omega)]
     simp only [xE, xK, hab, decide_true]
   | some r =>
     obtain ⟨i, _, _, hi, _⟩ := bG hs
     have hne : a ≠ b := fun e => by
      rw [e] at hi;simp at hi
     have hr : r = false := by
      by_cases h : a[i]? = b[i]?
      ·rw [if_pos h] at hi; cases hi
      ·rw [if_neg h] at hi; cases hi; rfl
     subst hr;simp only [qII, xE, xK, hne, decide_false]
 ·have h0 : ((a.length : Int) != (b.length : Int)) = true := by simp; omega
  rw [h0, qV, xK];have : a ≠ b := fun e => hl (by rw [e])
  simp [this]
theorem zGS {a b : List Int} (ha : a.length < 2 ^ 62) : H52 (a, b) = some (decide (a = b)) := by
 have : H52 (a, b) = (GE (fun p : Int × Int => some (p.1 == p.2)) a b).run := rfl;rw [this]
 exact zDY ha fun x _ y _ => by
  by_cases h : x = y <;> simp [h]
theorem zCR (x : Int × Int × Int) : H38 x = some (decide (x.1 < x.2.1) || decide (x.2.2 < x.1)) := by
 obtain ⟨n, a, b⟩ := x;show (G38 n a b).run = some (decide (n < a) || decide (b < n));unfold G38;by_cases h : n < a
 ·simp only [h, decide_true]; rfl
 ·simp only [h, decide_false]; rfl
theorem zAM (x : Bool × Int) : H89 x = some (cond x.1 x.2 0) := by
 obtain ⟨b, e⟩ := x;show (G89 b e).run = some (cond b e 0);unfold G89;cases b <;> rfl
theorem zFF {c : Int} : zL7 c = some (decide (0 <= c) && decide (c < 8)) := by
 show (zNF c).run = _;unfold zNF;by_cases h : 0 <= c
 ·simp only [h, decide_true]; rfl
 ·simp only [h, decide_false]; rfl
theorem zF1 {c : Int} : zL8 c = some (!(decide (0 <= c) && decide (c < 8))) := by
 show (zNG c).run = _;unfold zNG;rw [zFF, qE, xK]
def qEF : List Int -> Int
 | [] => 0
 | x :: l => if x ≠ 0 then x else qEF l
theorem qI2 (l : List Int) : ∀ (m k : Nat), k + m = l.length -> scan (fun i => if l.getD i 0 ≠ 0 then some (l.getD i 0) else none) m k = if qEF (l.drop k) = 0 then none else some (qEF (l.drop k))
 | 0, k, h => by
   rw [List.drop_eq_nil_of_le (by omega)];rfl
 | m + 1, k, h => by
   have hk : k < l.length := by omega
   rw [zRQ hk];unfold scan;have e : l.getD k 0 = l[k] := by simp [List.getD, hk]
   rw [e];by_cases hx : l[k] = 0
   ·simp only [hx, ne_eq, not_true, if_false];rw [qI2 l m (k + 1) (by omega)];simp [qEF, hx]
   ·simp only [ne_eq, hx, not_false_iff, if_true];simp [qEF, hx]
theorem q6U {l : List Int} (hl : l.length < 2 ^ 62) : H87 l = some (qEF l) := by
 show (G87 l).run = _;unfold G87;refine vC l.length (fun i => if l.getD i 0 ≠ 0 then some (l.getD i 0) else none) (fun x => Sum.inr (Sum.inl x)) (Sum.inl (l.length : Int)) (fun k hk => ?_) ?_ ?_
 ·obtain ⟨x, hx, mx⟩ := o5 hk;have hk3 : (k : Int) < (l.length : Int) := by omega
  have hd : l.getD k 0 = x := by simp [List.getD, hx]
  simp only [mI hk3, qV, zQ hk, qE, hx, hd, kF (show k < 2 ^ 62 by omega)];by_cases h0 : x = 0
  ·simp [h0, qI]; rfl
  ·have : (x != 0) = true := by simpa using h0
   rw [this, qV];simp [h0]; rfl
 ·simp only [mJ (zRR _), qI];rfl
 ·rw [qI2 l l.length 0 (by omega), zR3];by_cases h : qEF l = 0
  ·simp only [h, if_true, xE, xK]
  ·simp only [h, if_false, qII, xE, xK]
def qAF (r : List Int) : Bool := r.all fun c => decide (0 <= c) && decide (c < 8)
theorem q34 (r : List Int) {ρ : Type} (v : Nat -> ρ) : (scan (fun i => if (decide (0 <= r.getD i 0) && decide (r.getD i 0 < 8)) = true then none else some (v i)) r.length 0).isSome = !qAF r := by
 cases hs : scan (fun i => if (decide (0 <= r.getD i 0) && decide (r.getD i 0 < 8)) = true then none else some (v i)) r.length 0 with
 | none =>
   have : qAF r = true := by
    unfold qAF;rw [zQR];intro c hc;obtain ⟨i, hi, rfl⟩ := List.getElem_of_mem hc;have := pE.1 hs i (zR4 _) (by omega);have e : r.getD i 0 = r[i] := by simp [List.getD, hi]
    rw [e] at this;by_cases h : (decide (0 <= r[i]) && decide (r[i] < 8)) = true
    ·exact h
    ·rw [if_neg h] at this; cases this
   rw [this]; rfl
 | some x =>
   obtain ⟨i, _, hi, hf, _⟩ := bG hs;have hi : i < r.length := by omega
   have e : r.getD i 0 = r[i] := by simp [List.getD, hi]
   have : qAF r = false := by
    cases hc : qAF r with
    | false => rfl
    | true =>
      unfold qAF at hc;have := zQR.1 hc r[i] (zSU hi);rw [e, if_pos this] at hf;cases hf
   rw [this]; rfl
theorem zHC {r : List Int} (hr : r.length < 2 ^ 62) : H90 r = some (!qAF r) := by
 show (G90 r).run = _;unfold G90;refine vC r.length (fun i => if (decide (0 <= r.getD i 0) && decide (r.getD i 0 < 8)) = true then none else some (i : Int)) (fun x => Sum.inr (Sum.inl x)) (Sum.inl (r.length : Int)) (fun k hk => ?_) ?_ ?_
 ·obtain ⟨x, hx, mx⟩ := o5 hk;have hk3 : (k : Int) < (r.length : Int) := by omega
  have hd : r.getD k 0 = x := by simp [List.getD, hx]
  simp only [mI hk3, qV, zQ hk, qE, hx, hd, zF1, kF (show k < 2 ^ 62 by omega)];cases (decide (0 <= x) && decide (x < 8)) <;> rfl
 ·simp only [mJ (zRR _), qI];rfl
 ·have := q34 r (fun i => (i : Int))
  cases hs : scan (fun i => if (decide (0 <= r.getD i 0) && decide (r.getD i 0 < 8)) = true then none else some (i : Int)) r.length 0 with
  | none =>
    rw [hs] at this;have hc : qAF r = true := by simpa using this.symm
    simp only [xE, xK, hc];rfl
  | some v =>
    rw [hs] at this;have hc : qAF r = false := by simpa using this.symm
    obtain ⟨i, _, hi, hf, _⟩ := bG hs
    have hv : 0 <= v := by
     by_cases h : (decide (0 <= r.getD i 0) && decide (r.getD i 0 < 8)) = true
     ·rw [if_pos h] at hf; cases hf
     ·rw [if_neg h] at hf; cases hf; omega
    simp only [qII, xE, xK, hc, hv, decide_true];rfl
theorem getD_at {α : Type} {l : List α} {k : Nat} {x d : α} (h : l[k]? = some x) : l.getD k d = x := by simp [List.getD, h]
theorem tZ (b : Bool) : jF b false = !b := by cases b <;> rfl
theorem qQS (b : Bool) : jF b true = b := by cases b <;> rfl
theorem qGH {α ρ : Type} (q : α -> Bool) (d : α) (l : List α) (v : Nat -> ρ) : (∃ i, scan (fun i => if q (l.getD i d) = true then none else some (v i)) l.length 0 = some (v i) ∧ l.all q = false) ∨ (scan (fun i => if q (l.getD i d) = true then none else some (v i)) l.length 0 = none ∧ l.all q = true) := by
 cases hs : scan (fun i => if q (l.getD i d) = true then none else some (v i)) l.length 0 with
 | none =>
   refine .inr ⟨rfl, zQR.2 fun c hc => ?_⟩;obtain ⟨i, hi, rfl⟩ := List.getElem_of_mem hc;have := pE.1 hs i (zR4 _) (by omega);have e : l.getD i d = l[i] := by simp [List.getD, hi]
   rw [e] at this
   cases h : q l[i] with
   | true => rfl
   | false => rw [h] at this; simp at this
 | some x =>
   obtain ⟨i, _, hi, hf, _⟩ := bG hs;have hi : i < l.length := by omega
   have e : l.getD i d = l[i] := by simp [List.getD, hi]
   rw [e] at hf
   cases h : q l[i] with
   | true => rw [h] at hf; simp at hf
   | false =>
     rw [h] at hf;simp at hf;refine .inl ⟨i, by rw [hf], ?_⟩
     cases ha : l.all q with
     | false => rfl
     | true => rw [zQR.1 ha _ (zSU hi)] at h; cases h
def qAE (n a b : Int) : Bool := decide (n < a) || decide (b < n)
theorem q4G {a b : Int} : zKM (n, a, b) = some (cond (qAE n a b) 3 0) := by
 show (zNB n a b).run = _;unfold zNB qAE;rw [tZ]
 cases decide (n < a) with
 | true => rfl
 | false =>
   show (zIA.bind (H89 (decide (b < n), 3)) _).run = _;rw [zAM, qE, xK];rfl
theorem zEK : H88 n = some (cond (qAE n 2 12) 3 0) := by
 show (G88 n).run = _;unfold G88;rw [q4G, qE, xK]
def q2L (n c : Int) : Bool := !(c == 0) && (!decide (c <= IntKind.i64.wrap (0 - n)) && !decide (n <= c))
def qIS (n : Int) (w : List Int) : Int := cond (qAE n 2 12) 3 (if w.length = 0 then 12 else if 24 < w.length then 5 else cond (w.all (q2L n)) 0 3)
theorem zEA {α : Type} (w : List α) : ((w.length : Int) == 0) = decide (w.length = 0) := by
 by_cases h : w.length = 0
 ·simp [h]
 ·have : ((w.length : Int) == 0) = false := by simpa using h
  rw [this, decide_eq_false h]
theorem q8F {α : Type} (w : List α) : decide ((24 : Int) < (w.length : Int)) = decide (24 < w.length) := by
 by_cases h : 24 < w.length
 ·rw [decide_eq_true h, decide_eq_true (by omega)]
 ·rw [decide_eq_false h, decide_eq_false (by omega)]
theorem zDW (hw : w.length < 2 ^ 62) : H19 (n, w) = some (qIS n w) := by
 show (G19 n w).run = _;unfold G19 qIS;refine vC w.length (fun i => if q2L n (w.getD i 0) = true then none else some (i : Int)) (fun x => Sum.inr (Sum.inl x)) (Sum.inl (w.length : Int)) (fun k hk => ?_) ?_ ?_
 ·obtain ⟨x, hx, mx⟩ := o5 hk;have hk3 : (k : Int) < (w.length : Int) := by omega
  simp only [mI hk3, qV, zQ hk, qE, hx, getD_at hx, tZ, kF (show k < 2 ^ 62 by omega), q2L];cases (x == 0) <;> cases decide (x <= IntKind.i64.wrap (0 - n)) <;> cases decide (n <= x) <;> rfl
 ·simp only [mJ (zRR _), qI];rfl
 ·rcases qGH (q2L n) 0 w (fun i => (i : Int)) with ⟨i, h1, h2⟩ | ⟨h1, h2⟩
  ·have hi : decide ((0 : Int) <= (i : Int)) = true := decide_eq_true (by omega);simp only [h1, h2, qII, xE, zEK, zAM, qE, hi, zEA, q8F, q6U (show [_, _, _, _].length < 2 ^ 62 by simp), xK, cond_true, cond_false];cases qAE n 2 12
   ·by_cases a : w.length = 0
    ·simp [a, qEF]
    ·by_cases b : 24 < w.length <;> simp [a, b, qEF]
   ·simp [qEF]
  ·simp only [h1, h2, qII, xE, zEK, zAM, qE, zEA, q8F, q6U (show [_, _, _, _].length < 2 ^ 62 by simp), xK, cond_true, cond_false];cases qAE n 2 12
   ·by_cases a : w.length = 0
    ·simp [a, qEF]
    ·by_cases b : 24 < w.length <;> simp [a, b, qEF]
   ·simp [qEF]
theorem qRQ (h1 : 2 <= n) (h2 : n <= 12) : IntKind.i64.wrap (0 - n) = 0 - n := qIF (by omega) (by omega)
theorem qZ8 (h : qAE n 2 12 = false) : 2 <= n ∧ n <= 12 := by
 unfold qAE at h;rw [Bool.or_eq_false_iff, decide_eq_false_iff_not, decide_eq_false_iff_not] at h;omega
theorem zHN : H20 (n, w) = some (qIS n w) := by
 show (G20 n w).run = _;unfold G20 qIS;rw [zCR, qE];show (zIA.ite (qAE n 2 12) _ _).run = _
 cases ho : qAE n 2 12 with
 | true => rfl
 | false =>
   obtain ⟨hn1, hn2⟩ := qZ8 ho;rw [qI, zEA, q8F];by_cases a : w.length = 0
   ·simp only [a, decide_true, qV, xK, if_true, cond_false]
   ·by_cases b : 24 < w.length
    ·simp only [a, b, decide_true, decide_false, qV, qI, xK, if_true, if_false, cond_false]
    ·simp only [a, b, decide_false, qI, if_false, cond_false];refine vC w.length (fun i => if q2L n (w.getD i 0) = true then none else some (3 : Int)) (fun x => Sum.inr (Sum.inl x)) (Sum.inl (w.length : Int)) (fun k hk => ?_) ?_ ?_
     ·obtain ⟨x, hx, mx⟩ := o5 hk;have hk3 : (k : Int) < (w.length : Int) := by omega
      have e1 : IntKind.i64.wrap (1 - n) = 1 - n := qIF (by omega) (by omega);have e2 : IntKind.i64.wrap (n - 1) = n - 1 := qIF (by omega) (by omega)
      have e3 : (decide (x < 1 - n) || decide (n - 1 < x)) = !(!decide (x <= IntKind.i64.wrap (0 - n)) && !decide (n <= x)) := by
       rw [qRQ hn1 hn2];have q1 : decide (x < 1 - n) = decide (x <= 0 - n) := by by_cases h : x < 1 - n <;> simp [h] <;> omega
       have q2 : decide (n - 1 < x) = decide (n <= x) := by by_cases h : n - 1 < x <;> simp [h] <;> omega
       rw [q1, q2];cases decide (x <= 0 - n) <;> cases decide (n <= x) <;> rfl
      simp only [mI hk3, qV, zQ hk, qE, hx, getD_at hx, tZ, zCR, e1, e2, e3, kF (show k < 2 ^ 62 by omega), q2L];cases (x == 0) <;> cases (!decide (x <= IntKind.i64.wrap (0 - n)) && !decide (n <= x)) <;> rfl
     ·simp only [mJ (zRR _), qI];rfl
     ·rcases qGH (q2L n) 0 w (fun _ => (3 : Int)) with ⟨i, h1, h2⟩ | ⟨h1, h2⟩
      ·simp only [h1, h2, qII, xE, xK, cond_false]
      ·simp only [h1, h2, qII, xE, xK, cond_true]
def q6I (n : Int) (c : List Int) : Int := cond (qAE n 2 12) 3 (cond ((c.length : Int) != n) 2 (cond (qAF c) 0 3))
theorem zG9 (hc : c.length < 2 ^ 62) : H21 (n, c) = some (q6I n c) := by
 show (G21 n c).run = _;unfold G21 q6I;simp only [zEK, zAM, zHC hc, qE, q6U (show [_, _, _].length < 2 ^ 62 by simp), xK];cases qAE n 2 12 <;> cases ((c.length : Int) != n) <;> cases qAF c <;> rfl
theorem zGX : H22 (n, c) = some (q6I n c) := by
 show (G22 n c).run = _;unfold G22 q6I;rw [zCR, qE];show (zIA.ite (qAE n 2 12) _ _).run = _
 cases ho : qAE n 2 12 with
 | true => rfl
 | false =>
   obtain ⟨hn1, hn2⟩ := qZ8 ho;rw [qI]
   cases hl : ((c.length : Int) != n) with
   | true => rfl
   | false =>
     rw [qI];have hl : (c.length : Int) = n := by simpa using hl
     refine vC c.length (fun i => if (decide (0 <= c.getD i 0) && decide (c.getD i 0 < 8)) = true then none else some (3 : Int)) (fun x => Sum.inr (Sum.inl x)) (Sum.inl (c.length : Int)) (fun k hk => ?_) ?_ ?_
     ·obtain ⟨x, hx, mx⟩ := o5 hk;have hk3 : (k : Int) < n := by omega
      have e3 : (decide (x < 0) || decide (7 < x)) = !(decide (0 <= x) && decide (x < 8)) := by
       by_cases h : 0 <= x
       ·have : ¬ x < 0 := by omega
        by_cases h2 : x < 8
        ·have : ¬ 7 < x := by omega
         simp [*]
        ·have : 7 < x := by omega
         simp [*]
       ·have : x < 0 := by omega
        simp [*]
      simp only [mI hk3, qV, zQ hk, qE, hx, getD_at hx, zCR, e3, kF (show k < 2 ^ 62 by omega)];cases (decide (0 <= x) && decide (x < 8)) <;> rfl
     ·simp only [mJ (show ¬ (c.length : Int) < n by omega), qI];rfl
     ·rcases qGH (fun z => decide (0 <= z) && decide (z < 8)) 0 c (fun _ => (3 : Int)) with ⟨i, h1, h2⟩ | ⟨h1, h2⟩
      ·have h2 : qAF c = false := h2;simp only [h1, h2, qII, xE, xK, cond_false]
      ·have h2 : qAF c = true := h2;simp only [h1, h2, qII, xE, xK, cond_true, cond_false]
theorem zE9 (hw : w.length < 2 ^ 62) (hc : c.length < 2 ^ 62) : zL9 (n, w, c) = some (qEF [qIS n w, q6I n c]) := by
 show (zNH n w c).run = _;unfold zNH;rw [zDW hw, qE, zG9 hc, qE, q6U (by simp), qE, xK]
end Go.Proofs.YtjgfemghlhmlbaaGreatDoor
namespace Go.Proofs.YtjgfemghlhmlbaaGreatDoor
open Go.Idl Go.Sv
variable {k m n : Nat} {l w : List Int}
theorem rd (h : k < l.length) : l[k]? = some (l.getD k 0) := by
 rw [zQP h];simp [List.getD, h]
theorem zCG {α : Type} {a : List α} {x : α} (h : a.length < 1048576) : (a.length + [x].length).ble 1048576 = true := zRM (by simp; omega)
structure Let (c : Int) (m : Nat) : Prop where
 one : 1 <= m
 abs : c.natAbs = m
 pos : 0 < c -> c = (m : Int) ∧ q8C c = m - 1
 neg : c < 0 -> IntKind.i64.wrap (0 - c) = (m : Int) ∧ q8C c = m
theorem zA1 {c : Int} (hn : n <= 1000) (h : c ≠ 0 ∧ c.natAbs < n) : Let c c.natAbs := by
 refine ⟨by omega, rfl, fun hc => ⟨by omega, ?_⟩, fun hc => ⟨?_, ?_⟩⟩
 ·unfold q8C; rw [if_pos hc]; omega
 ·rw [qIF (by omega) (by omega)]; omega
 ·unfold q8C; rw [if_neg (by omega)]; omega
theorem q6L (h1 : 1 <= m) (h : m <= 1000) : IntKind.i64.wrap ((m : Int) - 1) = ((m - 1 : Nat) : Int) := by
 rw [qIF (by omega) (by omega)]; omega
theorem zA8 (h : m <= 1000) : IntKind.i64.wrap ((m : Int) + 0) = (m : Int) := by
 rw [qIF (by omega) (by omega)]; omega
theorem zFS (h1 : 1 <= m) (h : m <= 1000) : IntKind.i64.wrap (((m - 1 : Nat) : Int) + 1) = (m : Int) := by
 rw [qIF (by omega) (by omega)]; omega
theorem aM {x : Int} (h : w[k]? = some x) : w.take (k + 1) = w.take k ++ [x] := by
 rw [zTT, h];rfl
theorem qUM (h1 : 1 <= m) (h : m < l.length) : (l.set (m - 1) (l.getD m 0))[m]? = some (l.getD m 0) := by
 rw [zTU (by omega), rd h]
theorem qTL (k : Nat) : qR k ++ [(k : Int)] = qR (k + 1) := (qBP k).symm
theorem zDP (hn : n <= 1000) (hw : okW n w) (hl : w.length <= 1000) : H92 ((n : Int), w) = some (dR w (qR n)) := by
 show (G92 n w).run = _;unfold G92;refine oG n (fun (k : Nat) (s : List Int) => ((k : Int), ([] : List Int), s)) (fun k s => s = qR k) (fun k s => s ++ [(k : Int)]) (fun s => Sum.inl ((n : Int), [], s)) [] rfl rfl (fun k s hk hs => ?_) (fun s hs => ?_) (fun hI => ?_)
 ·subst hs;have hk3 : (k : Int) < (n : Int) := by omega
  simp only [mI hk3, qV, zCG (show (qR k).length < 1048576 by rw [yC]; omega), kF (show k < 2 ^ 62 by omega), qTL];exact ⟨rfl, trivial⟩
 ·simp only [mJ (zRR _), qI];rfl
 ·rw [hI];simp only [xE];refine oG w.length (fun (k : Nat) (s : List Int × List Int) => ((k : Int), s.1, s.2)) (fun k s => s = dR (w.take k) (qR n)) (fun k s => dR (w.take (k + 1)) (qR n)) (fun s => Sum.inl ((w.length : Int), s.1, s.2)) ([], qR n) rfl rfl (fun k s hk hs => ?_) (fun s hs => ?_) (fun hI => ?_)
  ·obtain ⟨c, hc, mc⟩ := o5 hk;have hk3 : (k : Int) < (w.length : Int) := by omega
   have hlc := zA1 hn (hw c mc);have hm := (hw c mc).2;generalize c.natAbs = m at hlc hm;have hsl := qHD (w.take k) (qR n);rw [yC, zRS] at hsl
   have hx : dR (w.take (k + 1)) (qR n) = (s.1 ++ [s.2.getD (q8C c) 0], rR s.2 m) := by
    rw [aM hc, qL3, hlc.abs, hs]
   rw [<- hs] at hsl;have h1 := hlc.one;have hb : s.1.length < 1048576 := by omega
   have q1 : m < s.2.length := by omega
   have q2 : m - 1 < s.2.length := by omega
   have q3 : m < (s.2.set (m - 1) (s.2.getD m 0)).length := by simp; omega
   refine ⟨?_, rfl⟩;rw [hx];by_cases h0 : c < 0
   ·obtain ⟨e1, e2⟩ := hlc.neg h0;simp only [mI hk3, qV, zQ hk, qE, hc, mI h0, e1, q6L h1 (show m <= 1000 by omega), zFS h1 (show m <= 1000 by omega), zQ q1, rd q1, zCG hb, zQ q2, rd q2, qUM h1 q1, kF (show k < 2 ^ 62 by omega), e2];rfl
   ·obtain ⟨e1, e2⟩ := hlc.pos (by have := (hw c mc).1; omega);subst e1;simp only [mI hk3, qV, zQ hk, qE, hc, mJ h0, qI, q6L h1 (show m <= 1000 by omega), zA8 (show m - 1 <= 1000 by omega), zQ q1, rd q1, zCG hb, zQ q2, rd q2, qUM h1 q1, kF (show k < 2 ^ 62 by omega), e2];rfl
  ·simp only [mJ (zRR _), qI];rfl
  ·rw [hI, zS7];simp only [xE, xK]
end Go.Proofs.YtjgfemghlhmlbaaGreatDoor
namespace Go.Proofs.YtjgfemghlhmlbaaGreatDoor
open Go.Idl Go.Sv
variable {a : List Int} {k n : Nat} {z : Int}
theorem q96 (h : n <= 65536) : mkN (n : Int) = some n := by
 unfold mkN;rw [if_pos ⟨by omega, by omega⟩, zR8]
theorem qF2 {v : Int} (ha : a.length = k) (hk : k < n) : (a ++ List.replicate (n - k) 0).set k v = (a ++ [v]) ++ List.replicate (n - (k + 1)) 0 := by
 have e : n - k = (n - (k + 1)) + 1 := by omega
 rw [zU3 _ _ (by omega), e, zSC, ha, zTY, List.set_cons_zero];simp
theorem q1Q (ha : a.length = k) (hk : k <= n) : (a ++ List.replicate (n - k) 0).length = n := by simp; omega
theorem qXT {f c : List Int} (h : f[k]? = some z) : zS (f.take (k + 1)) c = zS (f.take k) c ++ [c.getD z.toNat 0] := by
 rw [aM h]; simp [zS]
theorem zBY {l : List Int} (h : inR n l) (hz : l[k]? = some z) : ∃ y : Nat, z = (y : Int) ∧ y < n := by
 obtain ⟨h1, h2⟩ := h z (zRL hz);exact ⟨z.toNat, by omega, by omega⟩
end Go.Proofs.YtjgfemghlhmlbaaGreatDoor
namespace Go.Proofs.YtjgfemghlhmlbaaGreatDoor
open Go.Idl Go.Sv
variable {a b : Nat}
theorem q62 (hb : b ≠ 0) : q07 (a : Int) (b : Int) = some ((a % b : Nat) : Int) := by
 unfold q07;rw [if_neg (by omega), <- Int.ofNat_tmod]
theorem q3P (hb : b ≠ 0) (ha : a < 2 ^ 62) : qL5 .i64 (a : Int) (b : Int) = some ((a / b : Nat) : Int) := by
 unfold qL5;rw [if_neg (by omega), <- Int.ofNat_tdiv];have := Nat.div_le_self a b;generalize a / b = q at this ⊢;rw [qIF (by omega) (by omega)]
noncomputable def zLP (s2 : Int × Int) : Option (Int × Int ⊕ (Int × Int ⊕ Int ⊕ Nat × Int × Int)) := zIA.ite (s2.snd != 0) (zIA.bind (q07 s2.fst s2.snd) fun (x3 : Int) => zIA.ret (Sum.inl (s2.snd, x3))) (zIA.ret (Sum.inr (Sum.inl (s2.fst, s2.snd))))
theorem q9D : ∀ (y x : Nat), qQ zLP ((x : Int), (y : Int)) = some (Sum.inl (((Nat.gcd x y : Nat) : Int), 0)) := by
 intro y
 induction y using Nat.strongRecOn with
 | _ y ih =>
   intro x;rw [zB];by_cases hy : y = 0
   ·subst hy;have e : zLP ((x : Int), ((0 : Nat) : Int)) = some (Sum.inr (Sum.inl ((x : Int), 0))) := rfl;rw [e, Nat.gcd_zero_right]
   ·have hb : ((y : Int) != 0) = true := by simp; omega
    have e : zLP ((x : Int), (y : Int)) = some (Sum.inl ((y : Int), ((x % y : Nat) : Int))) := by
     unfold zLP;simp only [hb, qV, q62 hy, qE];rfl
    rw [e];simp only;rw [ih (x % y) (zSZ _ (by omega)) y]
    congr 3
    rw [Nat.gcd_comm x y, Nat.gcd_rec y x, Nat.gcd_comm]
theorem zEO (ha : 1 <= a) (hb : 1 <= b) (h1 : a < 2 ^ 30) (h2 : b < 2 ^ 30) : zL6 ((a : Int), (b : Int)) = some ((Nat.lcm a b : Nat) : Int) := by
 show (zND a b).run = _;unfold zND;have hl := q9D b a;have hg : 0 < Nat.gcd a b := Nat.gcd_pos_of_pos_left b (by omega);have h3 : a / Nat.gcd a b <= a := Nat.div_le_self _ _;have h4 : a / Nat.gcd a b * b <= a * b := zRV _ h3
 have h5 : a * b < 2 ^ 60 := by
  have := Nat.mul_lt_mul'' h1 h2;have e : (2 : Nat) ^ 30 * 2 ^ 30 = 2 ^ 60 := by decide
  omega
 have hw : IntKind.i64.wrap (((a / Nat.gcd a b : Nat) : Int) * (b : Int)) = ((Nat.lcm a b : Nat) : Int) := by
  have e : Nat.lcm a b = a / Nat.gcd a b * b := by
   unfold Nat.lcm;rw [zR1 a b, Nat.mul_div_assoc _ (Nat.gcd_dvd_left a b), zR1]
  rw [e, <- Int.natCast_mul, qIF (by omega) (by omega)]
 show (zIA.bind (qQ zLP ((a : Int), (b : Int))) _ : zIA Int).run = _;rw [hl, qE];simp only [xE, q3P (show Nat.gcd a b ≠ 0 by omega) (show a < 2 ^ 62 by omega), qE, hw, xK]
noncomputable def zLQ (fs : List Int) (p : Nat) (s4 : Int × Int) : Option (Int × Int ⊕ (Int × Int ⊕ Int ⊕ Nat × Int × Int)) := zIA.ite (s4.snd != (p : Int)) (zIA.bind (idx fs.length s4.snd) fun (x5 : Nat) => zIA.bind fs[x5]? fun (x6 : Int) => zIA.ret (Sum.inl (IntKind.i64.wrap (s4.fst + 1), x6))) (zIA.ret (Sum.inr (Sum.inl (s4.fst, s4.snd))))
theorem zAY {n : Nat} {ss fs : List Int} {p : Nat} (hf : zIJ n fs) (hp : p < n) (hn : n <= 1000) : zLM ((ss, fs), (p : Int)) = some ((cyc fs n p : Nat) : Int) := by
 show (zNE (ss, fs) p).run = _;unfold zNE;obtain ⟨c1, c2, c3, c4⟩ := zD hf hp;obtain ⟨g1, g2⟩ := kP hf hp;have hl : p < fs.length := by rw [hf.len]; exact hp
 simp only [zQ hl, qE, g1]
 have key : ∀ (m t : Nat), 1 <= t -> t + m = cyc fs n p -> qQ (zLQ fs p) ((t : Int), ((itp fs t p : Nat) : Int)) = some (Sum.inl (((cyc fs n p : Nat) : Int), (p : Int))) := by
  intro m
  induction m with
  | zero =>
    intro t ht h;have : t = cyc fs n p := by omega
    subst this;rw [zB, c1];have e : ((p : Int) != (p : Int)) = false := by simp
    unfold zLQ;simp only [e, qI];rfl
  | succ m ih =>
    intro t ht h;have hne := c4 t ht (by omega);have hlt := yU hf t hp;have e : (((itp fs t p : Nat) : Int) != (p : Int)) = true := by simp; omega
    have q1 : itp fs t p < fs.length := by rw [hf.len]; exact hlt
    have := ih (t + 1) (by omega) (by omega);rw [xD] at this;rw [zB]
    have e2 : zLQ fs p ((t : Int), ((itp fs t p : Nat) : Int)) = some (Sum.inl (((t + 1 : Nat) : Int), ((phi fs (itp fs t p) : Nat) : Int))) := by
     unfold zLQ;simp only [e, qV, zQ q1, qE, (kP hf hlt).1, kF (show t < 2 ^ 62 by omega)];rfl
    rw [e2];exact this
 have hk := key (cyc fs n p - 1) 1 (zQO _) (by omega);have e0 : ((1 : Nat) : Int) = 1 := rfl;rw [e0] at hk;have e1 : itp fs 1 p = phi fs p := rfl;rw [e1] at hk;show (zIA.bind (qQ (zLQ fs p) (1, ((phi fs p : Nat) : Int))) _ : zIA Int).run = _;rw [hk, qE];simp only [xE, xK]
end Go.Proofs.YtjgfemghlhmlbaaGreatDoor
set_option maxRecDepth 10000
namespace Go.Proofs.YtjgfemghlhmlbaaGreatDoor
open Go Go.Idl Go.Sv Go.Proofs
section
variable {n : Nat} {p : List Int}
def asI (l : List Nat) : List Int := l.map fun (c : Nat) => (c : Int)
theorem qRU {ss : List Int} (hp : zIJ n p) {i : Nat} (hi : i < n) {s0 : List Bool} (hl : s0.length = n) (hc : q56 n p s0) (h0 : s0.getD i false = false) : ∀ (m t : Nat), t + m = cyc p n i -> qQ (qOO (ss, p)) (((itp p t i : Nat) : Int), kJ p i s0 t) = some (Sum.inl ((i : Int), kJ p i s0 (cyc p n i)))
 | 0, t, h => by
   have ht : t = cyc p n i := by omega
   subst ht;obtain ⟨c1, c2, c3, c4⟩ := zD hp hi;rw [c1, zB];have q1 : i < (kJ p i s0 (cyc p n i)).length := by rw [vV, hl]; exact hi
   have g1 : (kJ p i s0 (cyc p n i))[i]? = some true := by
    rw [rdB q1, (bV hp hi hl i _).2 (.inr ⟨0, by omega, rfl⟩)]
   have e : qOO (ss, p) ((i : Int), kJ p i s0 (cyc p n i)) = some (Sum.inr (Sum.inl ((i : Int), kJ p i s0 (cyc p n i)))) := by
    unfold qOO;simp only [zQ q1, qE, g1, zSF, qI];rfl
   rw [e]
 | m + 1, t, h => by
   obtain ⟨c1, c2, c3, c4⟩ := zD hp hi;have hit := yU hp t hi;have q1 : itp p t i < (kJ p i s0 t).length := by rw [vV, hl]; exact hit
   have g1 := free_at hp hi hl hc h0 (t := t) (by omega);obtain ⟨g2, g3⟩ := kP hp hit;have q2 : itp p t i < p.length := by rw [hp.len]; exact hit
   have e : qOO (ss, p) (((itp p t i : Nat) : Int), kJ p i s0 t) = some (Sum.inl (((itp p (t + 1) i : Nat) : Int), kJ p i s0 (t + 1))) := by
    unfold qOO;simp only [zQ q1, qE, g1, zSG, qV, zQ q2, g2];rw [xD];rfl
   rw [zB, e];exact qRU hp hi hl hc h0 m (t + 1) (by omega)
theorem q1F (l : List Nat) (c : Nat) : asI (l ++ [c]) = asI l ++ [(c : Int)] := by simp [asI]
theorem qO5 (l : List Nat) : (asI l).length = l.length := by simp [asI]
theorem zEF {ss : List Int} (hp : zIJ n p) (hn : n <= 1000) : zMA (ss, p) = some (asI (lens p n)) := by
 show (zNJ (ss, p)).run = _;have hmk : mkN ((p.length : Nat) : Int) = some n := by rw [hp.len]; exact q96 (by omega)
 have hpl := hp.len;unfold zNJ;simp only [hmk, qE]
 have hloop : qQ (qXK (ss, p)) (0, [], List.replicate n false) = some (.inl ((n : Int), asI (fO p n n), sK p n n)) := by
  refine Exists.elim (vI (F := qXK (ss, p)) (fun (k : Nat) (s : List Int × List Bool) => ((k : Int), s.1, s.2)) (fun k s => s = (asI (fO p n k), sK p n k)) (fun s => .inl ((n : Int), s.1, s.2)) (n := n) (fun k s hk hs => ?step) (fun s hs => ?fin) n 0 ([], List.replicate n false) (by omega) rfl) (fun s' hh => ?main)
  case main =>
   obtain ⟨h1, h2⟩ := hh;rw [h2] at h1;exact h1
  case fin =>
   subst hs;unfold qXK;have : ¬ (n : Int) < ((p.length : Nat) : Int) := by omega
   simp only [mJ this, qI];rfl
  case step =>
   subst hs;have hk3 : (k : Int) < ((p.length : Nat) : Int) := by omega
   have hLl := qA0 p n k;have hbL : (asI (fO p n k)).length < 1048576 := by rw [qO5]; omega
   have h0 := qVT hp hk;have q1 : k < (sK p n k).length := by rw [dX]; exact hk
   unfold qXK;simp only [mI hk3, qV, zQ q1, qE]
   cases hr : rep p n k with
   | false =>
     rw [hr] at h0;refine ⟨(asI (fO p n (k + 1)), sK p n (k + 1)), ?_, rfl⟩;rw [qNN hr, q9Y hr];have g1 : (sK p n k)[k]? = some true := by rw [rdB q1, h0]; rfl
     simp only [g1, qE, qV, kF (show k < 2 ^ 62 by omega)];rfl
   | true =>
     rw [hr] at h0;obtain ⟨c1, c2, c3, c4⟩ := zD hp hk;have g1 : (sK p n k)[k]? = some false := by rw [rdB q1, h0]; rfl
     have hin := qRU (ss := ss) hp hk (dX k) (qDF hp k (by omega)) h0 (cyc p n k) 0 (by omega);have hin : qQ (qOO (ss, p)) ((k : Int), sK p n k) = some (Sum.inl ((k : Int), kJ p k (sK p n k) (cyc p n k))) := hin;refine ⟨(asI (fO p n (k + 1)), sK p n (k + 1)), ?_, rfl⟩;rw [qL9 hr, q9W hr, q1F];simp only [g1, qE, qI, zAY (ss := ss) hp hk hn, zCG hbL, qV, hin, xE, kF (show k < 2 ^ 62 by omega)];rfl
 exact (congrArg (fun x => (zIA.bind x _ : Option _)) hloop).trans rfl
end
def q9O (a : Int) : Nat -> Int
 | 0 => 1
 | k + 1 => IntKind.i64.wrap (q9O a k * a)
theorem q8R {a : Int} {k : Nat} (hk : k < 2 ^ 62) : zKH (a, (k : Int)) = some (q9O a k) := by
 show (zNK a k).run = _;unfold zNK;refine oG k (fun (i : Nat) (s : Int) => (s, (i : Int))) (fun i s => s = q9O a i) (fun i s => IntKind.i64.wrap (s * a)) (fun s => Sum.inl (s, (k : Int))) 1 rfl rfl (fun i s hi hs => ?_) (fun s hs => ?_) (fun hI => ?_)
 ·refine ⟨?_, by rw [hs]; rfl⟩;simp only [mI (show (i : Int) < (k : Int) by omega), qV, kF (show i < 2 ^ 62 by omega)];rfl
 ·simp only [mJ (zRR _), qI];rfl
 ·rw [hI];simp only [xE, xK]
end Go.Proofs.YtjgfemghlhmlbaaGreatDoor
namespace Go.Proofs.YtjgfemghlhmlbaaGreatDoor
open Go.Idl Go.Sv
theorem q60 {n : Int} {w : List Int} (h : qIS n w = 0) : ∃ m : Nat, n = (m : Int) ∧ 2 <= m ∧ m <= 12 ∧ okW m w ∧ 1 <= w.length ∧ w.length <= 24 := by
 unfold qIS at h
 cases ho : qAE n 2 12 with
 | true => rw [ho] at h; cases h
 | false =>
   obtain ⟨h1, h2⟩ := qZ8 ho;rw [ho] at h;simp only [cond_false] at h;by_cases h3 : w.length = 0
   ·rw [if_pos h3] at h; cases h
   ·rw [if_neg h3] at h;by_cases h4 : 24 < w.length
    ·rw [if_pos h4] at h; cases h
    ·rw [if_neg h4] at h
     cases hl : w.all (q2L n) with
     | false => rw [hl] at h; cases h
     | true =>
       refine ⟨n.toNat, by omega, by omega, by omega, fun c hc => ?_, by omega, by omega⟩;have := zQR.1 hl c hc;unfold q2L at this;rw [qRQ h1 h2] at this;simp only [zQM, zRN, beq_eq_false_iff_ne, decide_eq_false_iff_not] at this;exact ⟨this.1, by omega⟩
theorem ne0 {e : Int} (h : e ≠ 0) : (e == 0) = false ∧ (e != 0) = true := by simp [h]
theorem q4R (l : List Int) : qEF (0 :: l) = qEF l := by
 show (if (0 : Int) ≠ 0 then (0 : Int) else qEF l) = _;rw [if_neg (by simp)]
theorem q2V (e : Int) : qEF [e] = e := by
 unfold qEF;split
 ·rfl
 ·rename_i h;have h : e = 0 := by simpa using h
  rw [h]; rfl
end Go.Proofs.YtjgfemghlhmlbaaGreatDoor
set_option maxRecDepth 10000
namespace Go.Proofs.YtjgfemghlhmlbaaGreatDoor
open Go Go.Idl Go.Sv Go.Proofs
variable {n : Nat} {w : List Int}
def qE3 (f : List Int) (n : Nat) : Nat -> Nat
 | 0 => 1
 | k + 1 => Nat.lcm (qE3 f n k) (cyc f n k)
theorem qCJ {f : List Int} {n m : Nat} : ∀ k, qE3 f n k ∣ m ↔ ∀ i, i < k -> cyc f n i ∣ m
 | 0 => by simp [qE3]
 | k + 1 => by
   constructor
   ·intro h i hi;rcases zR9 i k with h1 | h1
    ·exact (qCJ k).1 (Nat.dvd_trans (Nat.dvd_lcm_left _ _) h) i h1
    ·rw [show i = k by omega];exact Nat.dvd_trans (Nat.dvd_lcm_right _ _) h
   ·intro h;exact Nat.lcm_dvd ((qCJ k).2 fun i hi => h i (by omega)) (h k (by omega))
theorem q72 {f : List Int} (hf : zIJ n f) {i : Nat} (hi : i < n) : ∃ r, r <= i ∧ r < n ∧ rep f n r = true ∧ cyc f n r = cyc f n i := by
 obtain ⟨r, t, h1, h2, h3⟩ := qP1 hf (i + 1) i (by omega) hi
 have hr : r <= i := by
  have := (uO hf h1).1 h2 t;omega
 refine ⟨r, hr, h1, h2, ?_⟩;rw [<- h3, qVI hf h1]
theorem qQU {f : List Int} {n : Nat} (hf : zIJ n f) (n8 : n <= 12) : ∀ k, k <= n -> 1 <= qE3 f n k ∧ qE3 f n k ^ 3 <= 3 ^ (fO f n k).sum
 | 0, _ => ⟨zQO 1, zQO 1⟩
 | k + 1, h => by
   obtain ⟨h1, h2⟩ := qQU hf n8 k (by omega);have hk : k < n := by omega
   obtain ⟨c1, c2, c3, c4⟩ := zD hf hk
   cases hr : rep f n k with
   | true =>
     rw [qL9 hr, zTP, Nat.pow_add];have hpos : 1 <= qE3 f n (k + 1) := Nat.lcm_pos (by omega) (by omega);refine ⟨hpos, ?_⟩;have hle : qE3 f n (k + 1) <= qE3 f n k * cyc f n k := zVJ (Nat.mul_pos (by omega) (by omega)) (Nat.lcm_dvd ⟨_, rfl⟩ ⟨_, zR1 _ _⟩);have hc3 : ∀ a, a <= 12 -> a ^ 3 <= 3 ^ a := by decide
     have q1 := zUF hle 3;rw [Nat.mul_pow] at q1;refine zQ6 q1 (zUP h2 ?_);have := hc3 (cyc f n k) (by omega);simpa using this
   | false =>
     obtain ⟨r, r1, r2, r3, r4⟩ := q72 hf hk
     have hrk : r < k := by
      rcases zR9 r k with q | q
      ·exact q
      ·rw [show r = k by omega, hr] at r3;cases r3
     have hd : cyc f n k ∣ qE3 f n k := by rw [<- r4]; exact (qCJ k).1 ⟨1, by omega⟩ r hrk
     have : qE3 f n (k + 1) = qE3 f n k := Nat.dvd_antisymm (Nat.lcm_dvd ⟨1, by omega⟩ hd) (Nat.dvd_lcm_left _ _);rw [qNN hr, this];exact ⟨h1, h2⟩
structure Ord (n : Nat) (w : List Int) (h : Nat) : Prop where
 n2 : 2 <= n
 n12 : n <= 12
 ok : okW n w
 l1 : 1 <= w.length
 l24 : w.length <= 24
 h1 : 1 <= h
 h3 : h ^ 3 <= 3 ^ n
 h2 : h <= 10000
 fix : ∀ i, i < n -> itp (qJ n w) h i = i
 all : qE3 (qJ n w) n n = h
theorem zAX (h2 : 2 <= n) (h12 : n <= 12) (hw : okW n w) (l1 : 1 <= w.length) (l24 : w.length <= 24) : ∃ h, Ord n w h := by
 have hf := yJ hw;obtain ⟨a1, a2⟩ := qQU hf h12 n (zQO n);have hs : (fO (qJ n w) n n).sum = n := qAR hf;rw [hs] at a2;refine ⟨qE3 (qJ n w) n n, h2, h12, hw, l1, l24, a1, a2, ?_, fun i hi => ?_, rfl⟩
 ·refine Classical.byContradiction fun hn => ?_
  have h3 := zUF (show 10000 <= qE3 (qJ n w) n n by omega) 3;have h4 := zS0 (n := 3) (by omega) h12;have h5 : (3 : Nat) ^ 12 = 531441 := rfl;have h6 : (10000 : Nat) ^ 3 = 1000000000000 := rfl;omega
 ·exact (rY hf hi _).2 ((qCJ n).1 ⟨1, by omega⟩ i hi)
theorem q7P {h : Nat} (o : Ord n w h) {k : Nat} (hk : k <= n) : 1 <= qE3 (qJ n w) n k ∧ qE3 (qJ n w) n k <= 10000 := by
 have hd : qE3 (qJ n w) n k ∣ h := (qCJ k).2 fun i hi => (rY (yJ o.ok) (show i < n by omega) h).1 (o.fix i (by omega))
 have h1 := o.h1;have h2 := o.h2;have := zVJ (by omega) hd;exact ⟨Nat.pos_of_dvd_of_pos hd (by omega), by omega⟩
end Go.Proofs.YtjgfemghlhmlbaaGreatDoor
set_option maxRecDepth 10000
namespace Go.Proofs.YtjgfemghlhmlbaaGreatDoor
open Go Go.Idl Go.Sv Go.Proofs
theorem qXW {f c : List Int} {n k : Nat} {v : Int} (hf : f.length = n) (hk : k < n) (hv : f[k]? = some v) :
 (zS (f.take k) c ++ List.replicate (n - k) 0).set k (c.getD v.toNat 0) = zS (f.take (k + 1)) c ++ List.replicate (n - (k + 1)) 0 := by
 rw [qXT hv, qF2 (by rw [u7, zRS]; omega) hk]
theorem q9F {ss fs c : List Int} (hf : inR c.length fs) (hl : fs.length = c.length) (h1000 : c.length <= 1000) : zJ3 ((ss, fs), c) = some (zS fs c) := by
 show (zNI (ss, fs) c).run = _;unfold zNI;rw [q96 (by omega), qE];refine oG c.length (fun (k : Nat) (s : List Int) => ((k : Int), s)) (fun k s => s = zS (fs.take k) c ++ List.replicate (c.length - k) 0) (fun k s => zS (fs.take (k + 1)) c ++ List.replicate (c.length - (k + 1)) 0) (fun s => Sum.inl ((c.length : Int), s)) (List.replicate c.length 0) rfl (by simp [zS]) (fun k s hk hs => ?_) (fun s hs => ?_) (fun hI => ?_)
 ·refine ⟨?_, rfl⟩;have hk2 : k < fs.length := by omega
  obtain ⟨z, hz, mz⟩ := o5 hk2;have hg := qXW (c := c) hl hk hz;obtain ⟨y, rfl, hy⟩ := zBY hf hz;have hk3 : (k : Int) < (fs.length : Int) := by omega
  have hsl : s.length = c.length := by
   rw [hs, zQ8, u7, zRS, zST]; omega
  have q1 : k < s.length := by omega
  rw [zR8, <- hs] at hg;simp only [mI hk3, qV, zQ hk2, qE, hz, zQ hy, rd hy, zQ q1, rd q1, kF (show k < 2 ^ 62 by omega), hg];rfl
 ·have : ¬ (c.length : Int) < (fs.length : Int) := by omega
  simp only [mJ this, qI];rfl
 ·rw [hI];have : fs.take c.length = fs := by rw [<- hl, zS7]
  rw [this];simp only [xE, xK, zTY, List.replicate_zero, zSK]
def q5Y (g : Nat -> Int) : Nat -> Int
 | 0 => 0
 | k + 1 => IntKind.i64.wrap (q5Y g k + g k)
noncomputable def q98 (a : Int) (h : Nat) : Int := (qL5 .i64 a (h : Int)).getD 0
theorem zBU {a b : Int} (h : b ≠ 0) : qL5 .i64 a b ≠ none := by
 unfold qL5;rw [if_neg h];exact fun q => by cases q
theorem qRF {a : Int} {h : Nat} (hh : 1 <= h) : qL5 .i64 a (h : Int) = some (q98 a h) := by
 unfold q98
 cases e : qL5 .i64 a (h : Int) with
 | some v => rfl
 | none => exact absurd e (zBU (by omega))
section
variable {n h : Nat} {w : List Int}
theorem zKT (o : Ord n w h) (ss : List Int) : qQ (FMa (ss, qJ n w)) (1, 0) = some (.inl (((qE3 (qJ n w) n n : Nat) : Int), (n : Int))) := by
 have hf := yJ o.ok;have hn2 := o.n2;have zJP := o.n12;refine Exists.elim (vI (F := FMa (ss, qJ n w)) (fun (k : Nat) (s : Int) => (s, (k : Int))) (fun k s => s = ((qE3 (qJ n w) n k : Nat) : Int)) (fun s => .inl (s, (n : Int))) (n := n) (fun k s hk hs => ?step) (fun s hs => ?fin) n 0 1 (by omega) rfl) (fun s' hh => ?main)
 case main =>
  obtain ⟨h1, h2⟩ := hh;rw [h2] at h1;exact h1
 case fin =>
  unfold FMa;have : ¬ (n : Int) < (((qJ n w).length : Nat) : Int) := by rw [vD]; omega
  simp only [mJ this, qI];rfl
 case step =>
  subst hs;obtain ⟨c1, c2, c3, c4⟩ := zD hf hk;obtain ⟨a1, a2⟩ := q7P o (show k <= n by omega);have hk3 : (k : Int) < (((qJ n w).length : Nat) : Int) := by rw [vD]; omega
  refine ⟨((qE3 (qJ n w) n (k + 1) : Nat) : Int), ?_, rfl⟩;unfold FMa;simp only [mI hk3, qV, zAY (ss := ss) hf hk (show n <= 1000 by omega), qE, zEO a1 c2 (by omega) (by omega), kF (show k < 2 ^ 62 by omega)];rfl
theorem zB5 (hn : n <= 1000) : qQ (FMb n) (0, List.replicate n 0, []) = some (.inl ((n : Int), qR n, [])) := by
 refine Exists.elim (vI (F := FMb n) (fun (k : Nat) (s : List Int) => ((k : Int), s, ([] : List Int))) (fun k s => s = qR k ++ List.replicate (n - k) 0) (fun s => .inl ((n : Int), s, [])) (n := n) (fun k s hk hs => ?step) (fun s hs => ?fin) n 0 (List.replicate n 0) (by omega) rfl) (fun s' hh => ?main)
 case main =>
  obtain ⟨h1, h2⟩ := hh;rw [h2, zTY, List.replicate_zero, zSK] at h1;exact h1
 case fin =>
  unfold FMb;simp only [mJ (zRR _), qI];rfl
 case step =>
  subst hs;have hl : (qR k ++ List.replicate (n - k) (0 : Int)).length = n := q1Q (yC k) (by omega);have q1 : k < (qR k ++ List.replicate (n - k) (0 : Int)).length := by omega
  refine ⟨(qR k ++ List.replicate (n - k) (0 : Int)).set k (k : Int), ?_, ?_⟩
  ·unfold FMb;simp only [mI (show (k : Int) < (n : Int) by omega), qV, zQ q1, rd q1, qE, kF (show k < 2 ^ 62 by omega)];rfl
  ·rw [qF2 (yC k) hk, <- qBP]
theorem q3W {f : List Int} (hf : zIJ n f) (j : Nat) : zS f (pw f n j) = pw f n (j + 1) := by
 apply zRC;intro i;by_cases hi : i < n
 ·obtain ⟨g1, g2⟩ := kP hf hi;rw [qCT hi];unfold zS;rw [zQU, g1, zQW, zR8, getD_at (qCT g2)];rfl
 ·rw [zQX (by rw [u7, hf.len]; omega), zQX (by rw [qFB]; omega)]
theorem q5V (o : Ord n w h) {G : List Int -> Option Int} {g : Nat -> Int} (ss : List Int) (hG : ∀ j, G (asI (lens (pw (qJ n w) n j) n)) = some (g j)) : qQ (FMc G (ss, qJ n w) (h : Int)) (0, 0, [], qR n) = some (.inl (q5Y g h, (h : Int), [], pw (qJ n w) n h)) := by
 have hf := yJ o.ok;have hn2 := o.n2;have zJP := o.n12;have hh2 := o.h2;refine Exists.elim (vI (F := FMc G (ss, qJ n w) (h : Int)) (fun (k : Nat) (s : Int × List Int) => (s.1, (k : Int), ([] : List Int), s.2)) (fun k s => s = (q5Y g k, pw (qJ n w) n k)) (fun s => .inl (s.1, (h : Int), [], s.2)) (n := h) (fun k s hk hs => ?step) (fun s hs => ?fin) h 0 (0, qR n) (by omega) rfl) (fun s' hh => ?main)
 case main =>
  obtain ⟨h1, h2⟩ := hh;rw [h2] at h1;exact h1
 case fin =>
  unfold FMc;simp only [mJ (zRR _), qI];rfl
 case step =>
  subst hs;have hpl : (pw (qJ n w) n k).length = n := qFB _ _ _;refine ⟨(q5Y g (k + 1), pw (qJ n w) n (k + 1)), ?_, rfl⟩
  have hmv : zJ3 ((ss, qJ n w), pw (qJ n w) n k) = some (pw (qJ n w) n (k + 1)) := by
   rw [q9F (by rw [hpl]; exact hf.ran) (by rw [hpl, hf.len]) (by omega), q3W hf]
  unfold FMc;simp only [mI (show (k : Int) < (h : Int) by omega), qV, zEF (ss := []) (qSN hf k) (show n <= 1000 by omega), qE, hG, hmv, kF (show k < 2 ^ 62 by omega)];rfl
def zEP (n : Nat) (w : List Int) (c : Int) (j : Nat) : Int := q9O c (lens (pw (qJ n w) n j) n).length
noncomputable def zFK (n : Nat) (w : List Int) (c : Int) (h : Nat) : Int := q98 (q5Y (zEP n w c) h) h
def qJ9 (c : Int) : Int := cond (qAE c 1 8) 3 0
theorem zBX {c : Int} : zLL c = some (qJ9 c) := by
 show (zNC c).run = _;unfold zNC;rw [q4G, qE, xK];rfl
theorem zHO (o : Ord n w h) {c : Int} (he : qEF [qIS n w, qJ9 c] = 0) : H35 ((n : Int), w, c) = some (zFK n w c h, 0) := by
 have hn2 := o.n2;have zJP := o.n12;have zO6 := o.l24;have hmk : mkN (((qJ n w).length : Nat) : Int) = some n := by rw [vD]; exact q96 (by omega)
 show (G35 n w c).run = _;unfold G35;have hz : ((0 : Int) != 0) = false := rfl;simp only [zDW (show w.length < 2 ^ 62 by omega), zBX, qE, q6U (l := [qIS n w, qJ9 c]) (by simp), he, hz, qI, zDP (show n <= 1000 by omega) o.ok (show w.length <= 1000 by omega)];have hA := zKT o (dR w (qR n)).1;rw [o.all] at hA;have hB := zB5 (n := n) (by omega)
 have hC := q5V o (G := fun x13 => zKH (c, (x13.length : Int))) (g := zEP n w c) (dR w (qR n)).1 (fun j => by
  have hlb : (lens (pw (qJ n w) n j) n).length <= n := qA0 _ n n;show zKH (c, ((asI (lens (pw (qJ n w) n j) n)).length : Int)) = _;rw [qO5, q8R (by omega)]
  rfl)
 refine (congrArg (fun x => (zIA.bind x _ : Option _)) hA).trans ?_;simp only [qE, xE];refine (congrArg (fun x => (zIA.bind x _ : Option _)) hmk).trans ?_;simp only [qE];refine (congrArg (fun x => (zIA.bind x _ : Option _)) hB).trans ?_;simp only [qE, xE];refine (congrArg (fun x => (zIA.bind x _ : Option _)) hC).trans ?_;simp only [qE, xE, qRF o.h1];rfl
end
end Go.Proofs.YtjgfemghlhmlbaaGreatDoor
set_option maxRecDepth 10000
namespace Go.Proofs.YtjgfemghlhmlbaaGreatDoor
open Go Go.Idl Go.Sv Go.Proofs
variable {k : Nat} {l : List Int}
noncomputable def J36 (x2 : List Int) (p q : Int) (A : List Int) : Option ((Int × Int × Int × Int × Int × Int × Int × Int × Int × Int) ⊕ Int × Int × Int × Int × Int × Int × Int × Int × Int × Int ⊕ Int × Int ⊕ Nat × Int × Int × Int × Int × Int × Int × Int × Int × Int × Int) := zIA.ite (decide (q < (↑x2.length : Int))) (zIA.bind (idx x2.length q) fun (x7 : Nat) => zIA.bind x2[x7]? fun (x8 : Int) => zIA.bind (zKM (x8, 0, 12)) fun (x9 : Int) => zIA.ite (x9 != 0) (zIA.ret (Sum.inr (Sum.inr (Sum.inl (0, x9))))) (zIA.bind (idx 8 q) fun (x10 : Nat) => zIA.bind (qUC (0 + x10 * 1) x8 A) fun (x11 : List Int) => zIA.ret (Sum.inl (IntKind.i64.wrap (p + x8), IntKind.i64.wrap (q + 1), qD3 x11)))) (zIA.ret (Sum.inr (Sum.inl (p, q, qD3 A))))
theorem zNN {x2 A : List Int} {p q : Int} (hA : A.length = 8) : F36 x2 (p, q, qD3 A) = J36 x2 p q A := by
 match A, hA with
 | [a0, a1, a2, a3, a4, a5, a6, a7], _ => rfl
theorem qY5 (l : List Nat) : (asI l).sum = ((l.sum : Nat) : Int) := by
 induction l with
 | nil => rfl
 | cons c l ih =>
   show (c : Int) + (asI l).sum = _;rw [ih, zSO];omega
def qEO (x : Int) : Bool := !qAE x 0 12
def q97 (n : Int) (l : List Int) : Int := if 8 < l.length then 5 else cond (l.all qEO) (if l.sum = n then 0 else 2) 3
theorem q77 {x : Int} (h : qEO x = true) : 0 <= x ∧ x <= 12 := by
 unfold qEO qAE at h;simp at h;omega
theorem q4S (h : k < l.length) : (l.take (k + 1)).sum = (l.take k).sum + l.getD k 0 := by
 rw [aM (rd h), zTP];simp
theorem qYC : ∀ {l : List Int}, l.all qEO = true -> 0 <= l.sum ∧ l.sum <= 12 * l.length
 | [], _ => ⟨by simp, by simp⟩
 | x :: l, h => by
   rw [zSY, zQM] at h;have h1 := q77 h.1;have h2 := qYC h.2;simp only [zSO, zRB];omega
theorem q2P (hk : k < l.length) (h : (l.take k).all qEO = true) (hb : qEO (l.getD k 0) = true) : (l.take (k + 1)).all qEO = true := by
 rw [aM (rd hk), zUJ, h, zSY, hb];rfl
theorem q4A (hk : k < l.length) : (l.drop k).all qEO = (qEO (l.getD k 0) && (l.drop (k + 1)).all qEO) := by
 have hx := rd hk;rw [zQP hk] at hx;injection hx with hx;rw [zRQ hk, zSY, hx]
theorem len8 (l : List Int) : decide ((8 : Int) < ((l.length : Nat) : Int)) = decide (8 < l.length) := by
 by_cases h : 8 < l.length
 ·rw [decide_eq_true h, decide_eq_true (by omega)]
 ·rw [decide_eq_false h, decide_eq_false (by omega)]
def qEA (l : List Int) (k : Nat) : List Int := l.take k ++ List.replicate (8 - k) 0
theorem nY (hl : l.length <= 8) (hk : k <= l.length) : (qEA l k).length = 8 := by
 unfold qEA;rw [zQ8, zRS, zST];omega
theorem q4P (hl : l.length <= 8) (hk : k < l.length) : (qEA l k).set k (l.getD k 0) = qEA l (k + 1) := by
 unfold qEA;rw [qF2 (by rw [zRS]; omega) (by omega), aM (rd hk)]
theorem q42 {l : List Int} (hl : l.length <= 8) : ∀ (m k : Nat), k + m = l.length -> (l.take k).all qEO = true -> qQ (F36 l) ((l.take k).sum, (k : Int), qD3 (qEA l k)) = some (cond ((l.drop k).all qEO) (.inl (l.sum, (l.length : Int), qD3 (qEA l l.length))) (.inr (.inl (0, 3))))
 | 0, k, h, _ => by
   have hk : k = l.length := by omega
   have e : F36 l ((l.take k).sum, (k : Int), qD3 (qEA l k)) = some (.inr (.inl ((l.take k).sum, (k : Int), qD3 (qEA l k)))) := by
    rw [zNN (nY hl (by omega))];unfold J36;simp only [hk, mJ (zRR _), qI];rfl
   rw [zB, e, hk, List.drop_length, zS7];rfl
 | m + 1, k, h, ht => by
   have hk : k < l.length := by omega
   have hx := rd hk;have hk3 : (k : Int) < ((l.length : Nat) : Int) := by omega
   rw [q4A hk]
   cases hb : qEO (l.getD k 0) with
   | false =>
     have ho : qAE (l.getD k 0) 0 12 = true := by
      unfold qEO at hb;simpa using hb
     have e : F36 l ((l.take k).sum, (k : Int), qD3 (qEA l k)) = some (.inr (.inr (.inl (0, 3)))) := by
      rw [zNN (nY hl (by omega))];unfold J36;simp only [mI hk3, qV, zQ hk, hx, qE];rw [q4G, ho];rfl
     rw [zB, e];rfl
   | true =>
     have h1 := q77 hb;have h2 := qYC ht
     have ho : qAE (l.getD k 0) 0 12 = false := by
      unfold qEO at hb;simpa using hb
     have hlen : (l.take k).length <= 8 := by rw [zRS]; omega
     have hw : IntKind.i64.wrap ((l.take k).sum + l.getD k 0) = (l.take (k + 1)).sum := by
      rw [q4S hk];exact wrap_i64 (by omega) (by omega)
     have hset : qUC (0 + k * 1) (l.getD k 0) (qEA l k) = some (qEA l (k + 1)) := by
      unfold qUC;rw [show 0 + k * 1 = k by omega, if_pos (by rw [nY hl (by omega)]; omega), q4P hl hk]
     have e : F36 l ((l.take k).sum, (k : Int), qD3 (qEA l k)) = some (.inl ((l.take (k + 1)).sum, ((k + 1 : Nat) : Int), qD3 (qEA l (k + 1)))) := by
      rw [zNN (nY hl (by omega))];unfold J36;simp only [mI hk3, qV, zQ hk, hx, qE, zDQ (show k < 8 by omega), hset, hw, kF (show k < 2 ^ 62 by omega)];rw [q4G, ho];rfl
     rw [zB, e];exact q42 hl m (k + 1) (by omega) (q2P hk ht hb)
def zDH (n : Nat) (w l : List Int) (j : Nat) : Int := IntKind.i64.wrap (wW true (asI (lens (pw (qJ n w) n j) n)) l)
noncomputable def zFL (n : Nat) (w l : List Int) (h : Nat) : Int := q98 (q5Y (zDH n w l) h) h
theorem q5F {n : Nat} (h : q97 n l = 0) : l.length <= 8 ∧ l.all qEO = true ∧ l.sum = (n : Int) := by
 unfold q97 at h;split at h
 ·cases h
 ·cases hb : l.all qEO with
  | false => rw [hb] at h; cases h
  | true =>
    rw [hb] at h;simp only [cond_true] at h;split at h
    ·exact ⟨by omega, rfl, by assumption⟩
    ·cases h
section
variable {n h : Nat} {w : List Int}
theorem qXF (o : Ord n w h) (hb : q97 n l = 0) : zK4 (asI (lens (pw (qJ n w) n k) n), qD3 (qEA l l.length)) = some (zDH n w l k) := by
 have hw := o.ok;have zJP := o.n12;obtain ⟨b1, b2, b3⟩ := q5F hb;have hpk := qSN (yJ hw) k
 have hlr : ∀ x ∈ l, 0 <= x ∧ x <= 1000 := fun x hx => by
  have := q77 (zQR.1 b2 x hx);omega
 have hpos : ∀ c ∈ asI (lens (pw (qJ n w) n k) n), 1 <= c := fun c hc => by
  obtain ⟨d, hd, rfl⟩ := zQ9.1 hc;have := (q3E hpk hd).1;omega
 have hll : (asI (lens (pw (qJ n w) n k) n)).length <= n := by rw [qO5]; exact qA0 _ n n
 have harr : qEA l l.length = l ++ List.replicate (8 - l.length) 0 := by unfold qEA; rw [zS7]
 rw [zEL hpos (by omega) (nY b1 (zQO _)) (fun x hx => by
  rw [harr] at hx;rcases zRA.1 hx with q | q
  ·exact hlr x q
  ·have := List.eq_of_mem_replicate q
   omega), harr, q59 _ _ hpos, qNC (fun x hx => (hlr x hx).1) (by rw [b3, qY5, qAR hpk])]
 rfl
theorem zD2 (b : Bool) : H89 (b, 5) = some (cond b 5 0) := zAM _
theorem zHX (o : Ord n w h) (h0 : qIS n w = 0) (hb : q97 n l = 0) : H36 ((n : Int), w, l) = some (zFL n w l h, 0) := by
 have hn2 := o.n2;have zJP := o.n12;have zO6 := o.l24;obtain ⟨b1, b2, b3⟩ := q5F hb;have hmk : mkN (((qJ n w).length : Nat) : Int) = some n := by rw [vD]; exact q96 (by omega)
 show (G36 n w l).run = _;unfold G36;have hz : ((0 : Int) != 0) = false := rfl;rw [len8, decide_eq_false (show ¬ 8 < l.length by omega)];rw [zDW (show w.length < 2 ^ 62 by omega), h0, qE, zD2, cond_false, qE, q6U (l := [0, 0]) (by simp), qE, q4R, q2V, hz, qI];have hloop : qQ (F36 l) (0, 0, qD3 (qEA l 0)) = some (cond (l.all qEO) (.inl (l.sum, (l.length : Int), qD3 (qEA l l.length))) (.inr (.inl (0, 3)))) := q42 b1 l.length 0 (by omega) rfl;rw [b2] at hloop;refine (congrArg (fun x => (zIA.bind x _ : Option _)) hloop).trans ?_;have hs2 : (l.sum != (n : Int)) = false := by simp [b3]
 simp only [cond_true, qE, xE, hs2, qI, zDP (show n <= 1000 by omega) o.ok (show w.length <= 1000 by omega)];have hA := zKT o (dR w (qR n)).1;rw [o.all] at hA;have hB := zB5 (n := n) (by omega);have hC := q5V o (G := fun x13 => zK4 (x13, qD3 (qEA l l.length))) (g := zDH n w l) (dR w (qR n)).1 (fun j => qXF o hb);refine (congrArg (fun x => (zIA.bind x _ : Option _)) hA).trans ?_;simp only [qE, xE];refine (congrArg (fun x => (zIA.bind x _ : Option _)) hmk).trans ?_;simp only [qE];refine (congrArg (fun x => (zIA.bind x _ : Option _)) hB).trans ?_;simp only [qE, xE];refine (congrArg (fun x => (zIA.bind x _ : Option _)) hC).trans ?_;simp only [qE, xE, qRF o.h1];rfl
end
end Go.Proofs.YtjgfemghlhmlbaaGreatDoor
set_option maxRecDepth 10000
namespace Go.Proofs.YtjgfemghlhmlbaaGreatDoor
open Go Go.Idl Go.Sv Go.Proofs
variable {a b : List Int} {i j k : Nat}
def q5A : List Int -> List Int -> Option Bool
 | x :: a, y :: b => if x = y then q5A a b else some (decide (x < y))
 | _, _ => none
theorem qBZ {a b : List Int} (hl : a.length = b.length) : ∀ (m k : Nat), k + m = a.length -> scan (fun i => if a.getD i 0 = b.getD i 0 then none else some (decide (a.getD i 0 < b.getD i 0))) m k = q5A (a.drop k) (b.drop k)
 | 0, k, h => by
   rw [zUV (show a.length <= k by omega)];rfl
 | m + 1, k, h => by
   have h1 : k < a.length := by omega
   have h2 : k < b.length := by omega
   have e1 : a[k] = a.getD k 0 := by simp [List.getD, h1]
   have e2 : b[k] = b.getD k 0 := by simp [List.getD, h2]
   rw [zRQ h1, zRQ h2, e1, e2];unfold scan q5A;by_cases q : a.getD k 0 = b.getD k 0
   ·rw [if_pos q, if_pos q];exact qBZ hl m (k + 1) (by omega)
   ·rw [if_neg q, if_neg q]
theorem qNZ {c : Nat} (hc : 0 < c) : ∀ {a b : List Int}, a.length = b.length -> inR c a -> inR c b -> q5A a b = if eD c a = eD c b then none else some (decide (eD c a < eD c b))
 | [], [], _, _, _ => by simp [q5A, eD]
 | [], _ :: _, h, _, _ => by cases h
 | _ :: _, [], h, _, _ => by cases h
 | x :: a, y :: b, h, ha, hb => by
   have h : a.length = b.length := by simpa using h
   have ha' : inR c a := fun z hz => ha z (zQS _ hz)
   have hb' : inR c b := fun z hz => hb z (zQS _ hz)
   have l1 := qM1 hc a ha';have l2 := qM1 hc b hb';obtain ⟨x1, x2⟩ := ha x zQT;obtain ⟨y1, y2⟩ := hb y zQT;have ih := qNZ hc h ha' hb';unfold q5A eD;rw [h] at l1 ⊢
   have key : ∀ u v : Nat, u < v -> u * c ^ b.length + c ^ b.length <= v * c ^ b.length := fun u v huv => by
    have := zRV (c ^ b.length) (show u + 1 <= v from huv);rw [zSX, zUW] at this;exact this
   by_cases q : x = y
   ·subst q;rw [if_pos rfl, ih];by_cases e : eD c a = eD c b
    ·rw [if_pos e, if_pos (by rw [e])]
    ·rw [if_neg e, if_neg (by omega)]
     congr 1
     rw [zSP, decide_eq_true_eq, decide_eq_true_eq];omega
   ·rw [if_neg q];rcases Int.lt_or_gt_of_ne q with q1 | q1
    ·have := key x.toNat y.toNat (by omega);rw [if_neg (by omega), decide_eq_true q1, decide_eq_true (by omega)]
    ·have := key y.toNat x.toNat (by omega);rw [if_neg (by omega), decide_eq_false (by omega), decide_eq_false (by omega)]
theorem zHL (hl : a.length = b.length) (h62 : a.length < 2 ^ 62) : H51 (a, b) = some ((q5A a b).getD false) := by
 show (G51 a b).run = _;unfold G51;have hs := qBZ hl a.length 0 (by omega);rw [zR3, zR3] at hs;rw [<- hs];refine vC a.length (fun i => if a.getD i 0 = b.getD i 0 then none else some (decide (a.getD i 0 < b.getD i 0))) (fun t => Sum.inr (Sum.inl t)) (Sum.inl (a.length : Int)) (fun k hk => ?_) ?_ ?_
 ·have hk2 : k < b.length := by omega
  have hk3 : (k : Int) < (a.length : Int) := by omega
  simp only [mI hk3, qV, zQ hk, qE, rd hk, zQ hk2, rd hk2, kF (show k < 2 ^ 62 by omega)];by_cases q : a.getD k 0 = b.getD k 0
  ·rw [if_pos q, q];have : (b.getD k 0 != b.getD k 0) = false := by simp
   rw [this];rfl
  ·rw [if_neg q];have : (a.getD k 0 != b.getD k 0) = true := by simp only [bne_iff_ne]; exact q
   rw [this];rfl
 ·simp only [mJ (zRR _), qI];rfl
 ·cases scan (fun i => if a.getD i 0 = b.getD i 0 then none else some (decide (a.getD i 0 < b.getD i 0))) a.length 0 with
  | none => rfl
  | some t => cases t <;> rfl
theorem zEY (x : Int × Int) : zMD x = some (if x.1 < x.2 then -1 else if x.2 < x.1 then 1 else 0) := by
 obtain ⟨a, b⟩ := x;show (zNM a b).run = some (if a < b then -1 else if b < a then 1 else 0);unfold zNM;have h1 : (a != a) = false := by simp
 have h2 : (b != b) = false := by simp
 rw [h1, h2, qI, qI];by_cases q1 : a < b
 ·rw [decide_eq_true q1, qV, if_pos q1, xK]
 ·rw [decide_eq_false q1, qI, if_neg q1];by_cases q2 : b < a
  ·rw [decide_eq_true q2, qV, if_pos q2, xK]
  ·rw [decide_eq_false q2, qI, if_neg q2, xK]
def sgn (t : Option Bool) : Int := match t with
 | some true => -1
 | some false => 1
 | none => 0
theorem zH6 (hl : a.length = b.length) (h62 : a.length < 2 ^ 62) : H96 (a, b) = some (sgn (q5A a b)) := by
 show (G96 a b).run = _;unfold G96;have hs := qBZ hl a.length 0 (by omega);rw [zR3, zR3] at hs;rw [<- hs];refine vC a.length (fun i => if a.getD i 0 = b.getD i 0 then none else some (decide (a.getD i 0 < b.getD i 0))) (fun t => Sum.inr (Sum.inl (cond t (-1) 1))) (Sum.inl (a.length : Int)) (fun k hk => ?_) ?_ ?_
 ·have hk2 : k < b.length := by omega
  have hk3 : (k : Int) < (a.length : Int) := by omega
  have hk4 : decide ((b.length : Int) <= (k : Int)) = false := decide_eq_false (by omega);simp only [mI hk3, qV, zQ hk, qE, rd hk, hk4, qI, zQ hk2, rd hk2, zEY, kF (show k < 2 ^ 62 by omega)];by_cases q : a.getD k 0 = b.getD k 0
  ·rw [if_neg (by omega), if_neg (by omega), if_pos q];rfl
  ·rw [if_neg q];by_cases q1 : a.getD k 0 < b.getD k 0
   ·rw [if_pos q1, decide_eq_true q1];rfl
   ·rw [if_neg q1, if_pos (by omega), decide_eq_false q1];rfl
 ·simp only [mJ (zRR _), qI];rfl
 ·cases scan (fun i => if a.getD i 0 = b.getD i 0 then none else some (decide (a.getD i 0 < b.getD i 0))) a.length 0 with
  | none =>
    have : decide ((a.length : Int) < (b.length : Int)) = false := decide_eq_false (by omega);simp only [xE, this, qI, xK];rfl
  | some t => cases t <;> rfl
theorem zGB (ha : a.length < 2 ^ 62) : H98 (a, b) = some (decide (a = b)) := (show H98 (a, b) = H52 (a, b) from rfl).trans (zGS ha)
section
variable {c n : Nat}
theorem qRS (hc : 0 < c) (hi : i < c ^ n) (hj : j < c ^ n) (hn : n <= 1000) : H51 (dg c n i, dg c n j) = some (decide (i < j)) := by
 have li := xI c n i;have lj := xI c n j;rw [zHL (by omega) (by omega), qNZ hc (by omega) (qAG hc n i hi) (qAG hc n j hj), qDQ hc n i hi, qDQ hc n j hj];by_cases e : i = j
 ·subst e; simp
 ·rw [if_neg e]; rfl
theorem q1Z (hc : 0 < c) (hi : i < c ^ n) (hj : j < c ^ n) (hn : n <= 1000) : H96 (dg c n i, dg c n j) = some (if i = j then 0 else if i < j then -1 else 1) := by
 have li := xI c n i;have lj := xI c n j;rw [zH6 (by omega) (by omega), qNZ hc (by omega) (qAG hc n i hi) (qAG hc n j hj), qDQ hc n i hi, qDQ hc n j hj];by_cases e : i = j
 ·subst e; simp [sgn]
 ·rw [if_neg e, if_neg e];by_cases q : i < j
  ·rw [decide_eq_true q, if_pos q]; rfl
  ·rw [decide_eq_false q, if_neg q]; rfl
theorem zBM (hc : 0 < c) (c8 : c <= 8) (hk : k < c ^ n) : qAF (dg c n k) = true := by
 unfold qAF;rw [zQR];intro z hz;obtain ⟨h1, h2⟩ := qAG hc n k hk z hz;have : z < 8 := by omega
 simp [h1, this]
theorem q48 (hc : 0 < c) (c8 : c <= 8) (h2 : 2 <= n) (h12 : n <= 12) (hk : k < c ^ n) : q6I n (dg c n k) = 0 := by
 unfold q6I;have h : qAE (n : Int) 2 12 = false := by unfold qAE; simp; omega
 have hl : (((dg c n k).length : Int) != n) = false := by rw [xI]; simp
 rw [h, hl, zBM hc c8 hk];rfl
theorem zFX {w : List Int} {h : Nat} (o : Ord n w h) (hc : 0 < c) (c8 : c <= 8) (hs : qIS n w = 0) (hk : k < c ^ n) : H34 ((n : Int), w, dg c n k) = some (dg c n (phi (nF c n (qJ n w)) k), 0) := by
 have hf := yJ o.ok;have zJP := o.n12;have hn2 := o.n2;have hl := xI c n k;have l24 := o.l24;have hz : ((0 : Int) != 0) = false := rfl;rw [qYB hc hf hk];show (G34 n w (dg c n k)).run = _;unfold G34;rw [zE9 (by omega) (by omega), qE, hs, q4R, q2V, q48 hc c8 hn2 zJP hk, hz, qI, zDP (by omega) o.ok (by omega), qE];rw [show zJ3 (((dR w (qR n)).1, (dR w (qR n)).2), dg c n k) = some (zS (qJ n w) (dg c n k)) from q9F (by rw [hl]; exact hf.ran) (by rw [hl]; exact vD n w) (by omega), qE, xK]
end
end Go.Proofs.YtjgfemghlhmlbaaGreatDoor
set_option maxRecDepth 10000
namespace Go.Proofs.YtjgfemghlhmlbaaGreatDoor
open Go Go.Idl Go.Sv Go.Proofs
theorem qA6 {c : Nat} (hc : 0 < c) : ∀ {k : Nat}, c ^ k < 2 ^ 62 -> q9O (c : Int) k = ((c ^ k : Nat) : Int)
 | 0, _ => by simp [q9O]
 | k + 1, h => by
   have h1 : c ^ k <= c ^ (k + 1) := zS0 hc (by omega);have e : ((c ^ k : Nat) : Int) * (c : Int) = ((c ^ (k + 1) : Nat) : Int) := by rw [zSW]; simp
   unfold q9O;rw [qA6 hc (by omega), e];exact wrap_i64 (by omega) (by omega)
theorem q9Q {c m i k : Nat} (h : i < m) : (k % c ^ m) / c ^ i % c = k / c ^ i % c := by
 have e : c ^ m = c ^ i * c ^ (m - i) := by rw [<- Nat.pow_add]; congr 1; omega
 rw [e, Nat.mod_mul_right_div_self, Nat.mod_mod_of_dvd];exact ⟨c ^ (m - i - 1), by rw [zR1, <- zSW]; congr 1; omega⟩
theorem zC9 {c : Nat} (hc : 0 < c) : ∀ {m k i : Nat}, i < m -> k < c ^ m -> (dg c m k).getD (m - 1 - i) 0 = ((k / c ^ i % c : Nat) : Int)
 | 0, _, _, h, _ => by omega
 | m + 1, k, i, h, hk => by
   by_cases e : i = m
   ·subst e;have h1 : k / c ^ i < c := zU7 (by rw [zSW] at hk; exact hk);rw [zTM h1, show i + 1 - 1 - i = 0 by omega];rfl
   ·rw [show m + 1 - 1 - i = (m - 1 - i) + 1 by omega];show (dg c m (k % c ^ m)).getD (m - 1 - i) 0 = _;rw [zC9 hc (by omega) (zSZ _ (zUD hc)), q9Q (by omega)]
section
variable {c n h : Nat} {w : List Int}
theorem q7X (hc : 0 < c) (hN : c ^ n < 2 ^ 60) (h2 : 1 <= n) (hn : n <= 1000) {k : Nat} (hk : k < c ^ n) (L : List (List Int)) : qQ (zC1 (n : Int) (c : Int) ((k : Int), L)) (0, List.replicate n 0) = some (.inl ((n : Int), dg c n k)) := by
 refine Exists.elim (vI (F := zC1 (n : Int) (c : Int) ((k : Int), L)) (fun (i : Nat) (s : List Int) => ((i : Int), s)) (fun i s => s.length = n ∧ ∀ j, j < i -> s.getD (n - 1 - j) 0 = ((k / c ^ j % c : Nat) : Int)) (fun s => .inl ((n : Int), s)) (n := n) (fun i s hi hs => ?step) (fun s hs => ?fin) n 0 (List.replicate n 0) (by omega) ⟨by simp, fun j hj => by omega⟩) (fun s' hh => ?main)
 case main =>
  obtain ⟨h1, h3, h4⟩ := hh
  have : s' = dg c n k := by
   apply zRC;intro x;by_cases hx : x < n
   ·have e1 := h4 (n - 1 - x) (by omega);have e2 := zC9 hc (m := n) (k := k) (i := n - 1 - x) (by omega) hk;rw [show n - 1 - (n - 1 - x) = x by omega] at e1 e2;rw [rd (show x < s'.length by omega), rd (show x < (dg c n k).length by rw [xI]; exact hx), e1, e2]
   ·rw [zQX (by omega), zQX (by rw [xI]; omega)]
  rw [<- this];exact h1
 case fin =>
  unfold zC1;simp only [mJ (zRR _), qI];rfl
 case step =>
  obtain ⟨h3, h4⟩ := hs;have hp : c ^ i <= c ^ n := zS0 hc (by omega);have hp0 : c ^ i ≠ 0 := by have := zUD (n := i) hc; omega
  have q1 : n - 1 - i < s.length := by omega
  have w1 : IntKind.i64.wrap ((n : Int) - 1) = ((n - 1 : Nat) : Int) := q6L h2 hn
  have w2 : IntKind.i64.wrap (((n - 1 : Nat) : Int) - (i : Int)) = ((n - 1 - i : Nat) : Int) := by
   rw [wrap_i64 (by omega) (by omega)]; omega
  refine ⟨s.set (n - 1 - i) ((k / c ^ i % c : Nat) : Int), ?_, by rw [zRH]; exact h3, fun j hj => ?_⟩
  ·unfold zC1;simp only [mI (show (i : Int) < (n : Int) by omega), qV, q8R (show i < 2 ^ 62 by omega), qA6 hc (show c ^ i < 2 ^ 62 by omega), qE, q3P hp0 (show k < 2 ^ 62 by omega), q62 (show c ≠ 0 by omega), w1, w2, zQ q1, rd q1, kF (show i < 2 ^ 62 by omega)];rfl
  ·rw [vW q1];by_cases e : j = i
   ·rw [e, if_pos rfl]
   ·rw [if_neg (by omega), h4 j (by omega)]
theorem qT6 {F : List Int} {N k : Nat} (hF : zIJ N F) (hk : k < N) (h : ∀ u, u < cyc F N k -> k <= itp F u k) : rep F N k = true := by
 rw [uO hF hk];intro t;rw [qH4 hF hk];exact h _ (zSZ _ (by have := (zD hF hk).2.1; omega))
theorem q5N (o : Ord n w h) (hc : 0 < c) {k : Nat} (hk : k < c ^ n) : zJ3 (((dR w (qR n)).1, (dR w (qR n)).2), dg c n k) = some (dg c n (phi (nF c n (qJ n w)) k)) := by
 have hf := yJ o.ok;have hl := xI c n k;have zJP := o.n12;rw [qYB hc hf hk];exact q9F (by rw [hl]; exact hf.ran) (by rw [hl]; exact vD n w) (by omega)
theorem qVH (o : Ord n w h) (hc : 0 < c) {k : Nat} (hk : k < c ^ n) (z : Int) : ∀ (m t : Nat), t + m = cyc (nF c n (qJ n w)) (c ^ n) k -> 1 <= t -> (∀ u, u < t -> k <= itp (nF c n (qJ n w)) u k) -> ∃ s', qQ (q0Q (dR w (qR n)) (z, dg c n k)) (true, dg c n (itp (nF c n (qJ n w)) t k)) = some (.inl (rep (nF c n (qJ n w)) (c ^ n) k, s'))
 | m, t, ht, h1, hu => by
   have hF := sD hc (show 0 < n by have := o.n2; omega) (yJ o.ok);have zJP := o.n12;obtain ⟨c1, c2, c3, c4⟩ := zD hF hk;have hit := yU hF t hk;have l1 := xI c n (itp (nF c n (qJ n w)) t k);have w1 : ∀ b, jF b true = b := qQS
   match m, ht with
   | 0, ht =>
     have e : itp (nF c n (qJ n w)) t k = k := by rw [show t = cyc (nF c n (qJ n w)) (c ^ n) k by omega]; exact c1
     rw [qT6 hF hk (fun u hu' => hu u (by omega)), zB]
     have e2 : q0Q (dR w (qR n)) (z, dg c n k) (true, dg c n (itp (nF c n (qJ n w)) t k)) = some (.inr (.inl (true, dg c n (itp (nF c n (qJ n w)) t k)))) := by
      unfold q0Q;have : decide (dg c n (itp (nF c n (qJ n w)) t k) = dg c n k) = true := by rw [e]; simp
      simp only [w1, qV, zGB (show (dg c n (itp (nF c n (qJ n w)) t k)).length < 2 ^ 62 by omega), qE, this, zSF, qI];rfl
     rw [e2];exact ⟨_, rfl⟩
   | m + 1, ht =>
     have e : itp (nF c n (qJ n w)) t k ≠ k := c4 t h1 (by omega);have hd : decide (dg c n (itp (nF c n (qJ n w)) t k) = dg c n k) = false := decide_eq_false fun q => e (qWB hc hit hk q)
     have e2 : q0Q (dR w (qR n)) (z, dg c n k) (true, dg c n (itp (nF c n (qJ n w)) t k)) = some (.inl (decide (k < itp (nF c n (qJ n w)) t k), dg c n (itp (nF c n (qJ n w)) (t + 1) k))) := by
      unfold q0Q
      have hcmp : decide ((0 : Int) < if itp (nF c n (qJ n w)) t k = k then 0 else if itp (nF c n (qJ n w)) t k < k then -1 else 1) = decide (k < itp (nF c n (qJ n w)) t k) := by
       rw [if_neg e];by_cases q : itp (nF c n (qJ n w)) t k < k
       ·rw [if_pos q, decide_eq_false (by omega), decide_eq_false (by omega)]
       ·rw [if_neg q, decide_eq_true (by omega), decide_eq_true (by omega)]
      simp only [w1, qV, zGB (show (dg c n (itp (nF c n (qJ n w)) t k)).length < 2 ^ 62 by omega), qE, hd, zSG, q1Z hc hit hk (show n <= 1000 by omega), hcmp, q5N o hc hit, <- xD];rfl
     by_cases q : k < itp (nF c n (qJ n w)) t k
     ·rw [zB, e2, decide_eq_true q]
      exact qVH o hc hk z m (t + 1) (by omega) (by omega) fun u hu' => by
       by_cases eu : u = t
       ·rw [eu]; omega
       ·exact hu u (by omega)
     ·rw [zB, e2, decide_eq_false q]
      have hr : rep (nF c n (qJ n w)) (c ^ n) k = false := by
       cases hr : rep (nF c n (qJ n w)) (c ^ n) k with
       | false => rfl
       | true =>
         have := (uO hF hk).1 hr t;omega
      have e3 : q0Q (dR w (qR n)) (z, dg c n k) (false, dg c n (itp (nF c n (qJ n w)) (t + 1) k)) = some (.inr (.inl (false, dg c n (itp (nF c n (qJ n w)) (t + 1) k)))) := by
       unfold q0Q;simp only [w1, qI];rfl
      rw [hr];refine ⟨dg c n (itp (nF c n (qJ n w)) (t + 1) k), ?_⟩;show qQ (q0Q (dR w (qR n)) (z, dg c n k)) (false, dg c n (itp (nF c n (qJ n w)) (t + 1) k)) = _;rw [zB, e3]
termination_by m => m
def qA2 (c n : Nat) (w : List Int) (k : Nat) : List (List Int) := ((List.range k).filter (rep (nF c n (qJ n w)) (c ^ n))).map (dg c n)
theorem q0D (c n : Nat) (w : List Int) (k : Nat) : (qA2 c n w k).length <= k := by
 unfold qA2;rw [zQ7];exact zQ6 (List.length_filter_le _ _) (by simp)
theorem zHR (o : Ord n w h) (hc : 0 < c) (c8 : c <= 8) (hN : c ^ n <= 256) (hs : qIS n w = 0) : H45 ((n : Int), w, (c : Int)) = some (qA2 c n w (c ^ n), 0) := by
 have hn2 := o.n2;have zJP := o.n12;have zO6 := o.l24;have hf := yJ o.ok;have hF := sD hc (show 0 < n by omega) hf;have hz : ((0 : Int) != 0) = false := rfl
 have zNO : qJ9 (c : Int) = 0 := by
  unfold qJ9 qAE;rw [decide_eq_false (by omega), decide_eq_false (by omega)];rfl
 show (G45 n w c).run = _;unfold G45;have h4 : decide ((4096 : Int) < ((c ^ n : Nat) : Int)) = false := decide_eq_false (by omega);rw [zDW (show w.length < 2 ^ 62 by omega), qE, zBX, qE, q6U (l := [qIS n w, qJ9 c]) (by simp), qE, hs, zNO, q4R, q2V, hz, qI, q8R (by omega), qA6 hc (by omega), qE, h4, qI, zDP (show n <= 1000 by omega) o.ok (show w.length <= 1000 by omega), qE]
 have hloop : qQ (zAG (n : Int) (c : Int) ((c ^ n : Nat) : Int) (dR w (qR n))) (0, []) = some (.inl (((c ^ n : Nat) : Int), qA2 c n w (c ^ n))) := by
  refine Exists.elim (vI (F := zAG (n : Int) (c : Int) ((c ^ n : Nat) : Int) (dR w (qR n))) (fun (k : Nat) (s : List (List Int)) => ((k : Int), s)) (fun k s => s = qA2 c n w k) (fun s => .inl (((c ^ n : Nat) : Int), s)) (n := c ^ n) (fun k s hk hs => ?step) (fun s hs => ?fin) (c ^ n) 0 [] (by omega) rfl) (fun s' hh => ?main)
  case main =>
   obtain ⟨h1, h2⟩ := hh;rw [h2] at h1;exact h1
  case fin =>
   unfold zAG;simp only [mJ (zRR _), qI];rfl
  case step =>
   subst hs;have ha := q7X hc (show c ^ n < 2 ^ 60 by omega) (by omega) (by omega) hk (qA2 c n w k);obtain ⟨c1, c2, c3, c4⟩ := zD hF hk
   obtain ⟨s', hb⟩ := qVH o hc hk (n : Int) (cyc (nF c n (qJ n w)) (c ^ n) k - 1) 1 (by omega) (zQO 1) fun u hu => by
    rw [show u = 0 by omega]; exact zQO k
   have hle := q0D c n w k;refine ⟨qA2 c n w (k + 1), ?_, rfl⟩
   have hnew : qA2 c n w (k + 1) = cond (rep (nF c n (qJ n w)) (c ^ n) k) (qA2 c n w k ++ [dg c n k]) (qA2 c n w k) := by
    unfold qA2;rw [zTD, zUN, zRI];cases hr : rep (nF c n (qJ n w)) (c ^ n) k <;> simp [hr]
   unfold zAG;rw [hnew];have hb : qQ (q0Q (dR w (qR n)) ((n : Int), dg c n k)) (true, dg c n (phi (nF c n (qJ n w)) k)) = _ := hb;simp only [mI (show (k : Int) < ((c ^ n : Nat) : Int) by omega), qV, q96 (show n <= 65536 by omega), qE, ha, xE, q5N o hc hk, hb, zCG (show (qA2 c n w k).length < 1048576 by omega), kF (show k < 2 ^ 62 by omega)];cases rep (nF c n (qJ n w)) (c ^ n) k <;> rfl
 refine (congrArg (fun x => (zIA.bind x _ : Option _)) hloop).trans ?_;rfl
end
end Go.Proofs.YtjgfemghlhmlbaaGreatDoor
set_option maxRecDepth 10000
namespace Go.Proofs.YtjgfemghlhmlbaaGreatDoor
open Go Go.Idl Go.Sv Go.Proofs
theorem zCX (f : Nat -> Nat) {j : Nat} : ∀ k, j <= k -> sg f j <= sg f k
 | 0, h => by rw [show j = 0 by omega]; exact zQO _
 | k + 1, h => by
   by_cases e : j = k + 1
   ·rw [e]; exact zQO _
   ·have := zCX f k (show j <= k by omega);show sg f j <= sg f k + f k;omega
theorem qGR {g : Nat -> Int} {f : Nat -> Nat} {h : Nat} (e : ∀ j, j < h -> g j = (f j : Int)) (hb : sg f h < 2 ^ 62) : ∀ k, k <= h -> q5Y g k = ((sg f k : Nat) : Int)
 | 0, _ => rfl
 | k + 1, hk => by
   have h1 := zCX f h hk;have h2 : sg f (k + 1) = sg f k + f k := rfl;unfold q5Y;rw [qGR e hb k (by omega), e k (by omega), wrap_i64 (by omega) (by omega), h2];omega
theorem qPL {h R : Nat} (hh : 1 <= h) (hb : h * R < 2 ^ 62) : q98 ((h * R : Nat) : Int) h = (R : Int) := by
 unfold q98;rw [q3P (by omega) hb, zUS _ (by omega)];rfl
theorem rV {p : List Int} {N : Nat} (B : Nat -> Bool) : ∀ k, sg (fun r => b2 (rep p N r && B r)) k <= k
 | 0 => zQO 0
 | k + 1 => by
   have := rV (p := p) (N := N) B k;unfold sg;have : b2 (rep p N k && B k) <= 1 := by cases rep p N k && B k <;> decide
   omega
theorem qYL {h R : Nat} (h1 : h <= 10000) (h2 : R <= 256) : h * R < 2 ^ 62 := by
 have := zUP h1 h2;omega
section
variable {c n h : Nat} {w : List Int}
abbrev yY (c n : Nat) (w : List Int) : Nat := qWH (nF c n (qJ n w)) (c ^ n) fun _ => true
abbrev qU7 (c n : Nat) (w b : List Int) : Nat := qWH (nF c n (qJ n w)) (c ^ n) fun k => kL c n (dg c n k) b
theorem zCA (o : Ord n w h) (hc : 0 < c) (hN : c ^ n <= 256) : zFK n w (c : Int) h = (yY c n w : Int) := by
 have hn2 := o.n2;have hs := qNU hc (show 0 < n by omega) (yJ o.ok) o.fix;have hR : yY c n w <= 256 := zQ6 (rV _ _) hN;have hb := qYL o.h2 hR;unfold zFK;rw [qGR (f := fun j => c ^ (lens (pw (qJ n w) n j) n).length) (fun j hj => ?_) (by rw [hs]; exact hb) h (zQO h), hs]
 ·exact qPL o.h1 hb
 ·unfold zEP;have hl : (lens (pw (qJ n w) n j) n).length <= n := qA0 _ n n;have := zS0 hc hl;exact qA6 hc (by omega)
theorem qW1 {p : List Int} {N : Nat} (B : Nat -> Bool) (j : Nat) : ∀ k, sg (fun x => b2 (B x && decide (itp p j x = x))) k <= k
 | 0 => zQO 0
 | k + 1 => by
   have := qW1 (p := p) (N := N) B j k;unfold sg;have : b2 (B k && decide (itp p j k = k)) <= 1 := by cases B k && decide (itp p j k = k) <;> decide
   omega
theorem qE5 (o : Ord n w h) (hc : 0 < c) (hN : c ^ n <= 256) {b : List Int} (hb : b.length = c) (hp : ∀ x ∈ b, 0 <= x) (hsum : b.sum = (n : Int)) : zFL n w b h = (qU7 c n w b : Int) := by
 have hn2 := o.n2;have hf := yJ o.ok;have hs := qNE hc (show 0 < n by omega) hf o.fix b;have hR : qU7 c n w b <= 256 := zQ6 (rV _ _) hN;have hbd := qYL o.h2 hR;unfold zFL;rw [qGR (f := q0V (nF c n (qJ n w)) (c ^ n) fun k => kL c n (dg c n k) b) (fun j hj => ?_) (by rw [hs]; exact hbd) h (zQO h), hs]
 ·exact qPL o.h1 hbd
 ·unfold zDH
  have e : wW true (asI (lens (pw (qJ n w) n j) n)) b = ((q0V (nF c n (qJ n w)) (c ^ n) (fun k => kL c n (dg c n k) b) j : Nat) : Int) := by
   rw [q7A hc (by omega) hf hb j];exact (qNC hp (by rw [hsum, qY5, qAR (qSN hf j)])).symm
  have hle : q0V (nF c n (qJ n w)) (c ^ n) (fun k => kL c n (dg c n k) b) j <= c ^ n := qW1 (N := c ^ n) _ j (c ^ n);rw [e];exact wrap_i64 (by omega) (by omega)
theorem qI5 (p : Nat -> Bool) : ∀ k, sg (fun r => b2 (p r && true)) k = ((List.range k).filter p).length
 | 0 => rfl
 | k + 1 => by
   unfold sg;rw [qI5 p k, zTD, zUN, zQ8];cases hp : p k <;> simp [hp, b2]
theorem q8J : yY c n w = (qA2 c n w (c ^ n)).length := by
 unfold yY qWH qA2;rw [zQ7];exact qI5 _ _
theorem q7O (hc : 0 < c) (hn : 0 < n) (hw : okW n w) : 1 <= yY c n w := by
 have hF := sD hc hn (yJ hw);have hp : 0 < c ^ n := zUD hc;have h0 : rep (nF c n (qJ n w)) (c ^ n) 0 = true := (uO hF hp).2 fun t => zR4 _
 have := q9J (f := fun r => b2 (rep (nF c n (qJ n w)) (c ^ n) r && true)) (c ^ n) hp;simp only [h0] at this;exact this
theorem zHT {c n : Nat} (hc : 0 < c) (c4 : c <= 4) (hn : n <= 1000) : ∃ b, H44 ((c : Int), (n : Int), 256) = some b ∧ (b = false -> c ^ n <= 256) := by
 have key : ∀ (m k : Nat), k + m = n -> c ^ k <= 256 -> ∃ t, qQ (q3D (c : Int) (n : Int) 256) (((c ^ k : Nat) : Int), (k : Int)) = some t ∧ (t = .inr (.inl true) ∨ (∃ s, t = .inl s ∧ c ^ n <= 256)) := fun m => by
  induction m with
  | zero =>
    intro k h hk;have e : k = n := by omega
    subst e;refine ⟨.inl (((c ^ k : Nat) : Int), (k : Int)), ?_, .inr ⟨_, rfl, hk⟩⟩;rw [zB]
    have : q3D (c : Int) (k : Int) 256 (((c ^ k : Nat) : Int), (k : Int)) = some (.inr (.inl (((c ^ k : Nat) : Int), (k : Int)))) := by
     unfold q3D;simp only [mJ (zRR _), qI];rfl
    rw [this]
  | succ m ih =>
    intro k h hk;have e : ((c ^ k : Nat) : Int) * (c : Int) = ((c ^ (k + 1) : Nat) : Int) := by rw [zSW]; simp
    have hb : c ^ (k + 1) <= 1024 := by
     rw [zSW];have := zUP hk c4;omega
    have hw : IntKind.i64.wrap (((c ^ k : Nat) : Int) * (c : Int)) = ((c ^ (k + 1) : Nat) : Int) := by
     rw [e]; exact wrap_i64 (by omega) (by omega)
    rw [zB];by_cases q : 256 < c ^ (k + 1)
    ·refine ⟨.inr (.inl true), ?_, .inl rfl⟩
     have : q3D (c : Int) (n : Int) 256 (((c ^ k : Nat) : Int), (k : Int)) = some (.inr (.inr (.inl true))) := by
      unfold q3D;simp only [mI (show (k : Int) < (n : Int) by omega), qV, hw, mI (show (256 : Int) < ((c ^ (k + 1) : Nat) : Int) by omega)];rfl
     rw [this]
    ·have : q3D (c : Int) (n : Int) 256 (((c ^ k : Nat) : Int), (k : Int)) = some (.inl (((c ^ (k + 1) : Nat) : Int), ((k + 1 : Nat) : Int))) := by
      unfold q3D;simp only [mI (show (k : Int) < (n : Int) by omega), qV, hw, mJ (show ¬ (256 : Int) < ((c ^ (k + 1) : Nat) : Int) by omega), qI, kF (show k < 2 ^ 62 by omega)];rfl
     rw [this];exact ih (k + 1) (by omega) (by omega)
 obtain ⟨t, h1, h2⟩ := key n 0 (by omega) (by simp);have h1 : qQ (q3D (c : Int) (n : Int) 256) (1, 0) = some t := h1
 rcases h2 with rfl | ⟨s, rfl, h3⟩
 ·refine ⟨true, ?_, fun q => by cases q⟩;show (G44 c n 256).run = _;unfold G44;refine (congrArg (fun x => (zIA.bind x _ : Option _)) h1).trans ?_;rfl
 ·refine ⟨false, ?_, fun _ => h3⟩;show (G44 c n 256).run = _;unfold G44;refine (congrArg (fun x => (zIA.bind x _ : Option _)) h1).trans ?_;rfl
end
end Go.Proofs.YtjgfemghlhmlbaaGreatDoor
set_option maxRecDepth 10000
namespace Go.Proofs.YtjgfemghlhmlbaaGreatDoor
open Go Go.Idl Go.Sv Go.Proofs
variable {i k : Nat} {l : List Int}
theorem zAP : ((0 : Int) != 0) = false := rfl
section
variable {c n h : Nat} {w : List Int}
theorem zF2 (o : Ord n w h) (hc : 0 < c) (hN : c ^ n <= 256) (hk : k < c ^ n) : cyc (nF c n (qJ n w)) (c ^ n) k <= 61 := by
 have hn2 := o.n2;have hf := yJ o.ok;have hF := sD hc (show 0 < n by omega) hf;obtain ⟨c1, c2, c3, c4⟩ := zD hF hk;have hd := qX8 hc (show 0 < n by omega) hf o.fix hk;have h1 := o.h1;have hle := zVJ (by omega) hd;by_cases e : c = 1
 ·subst e;rw [Nat.one_pow] at c3;rw [Nat.one_pow];omega
 ·have n8 : n <= 8 := by
   refine Classical.byContradiction fun hn => ?_
   have q1 := zUF (show 2 <= c by omega) n;have q2 := zS0 (n := 2) (by omega) (show 9 <= n by omega);have q3 : (2 : Nat) ^ 9 = 512 := rfl;omega
  have h3 := o.h3;have q2 := zS0 (n := 3) (by omega) n8;have q3 : (3 : Nat) ^ 8 = 6561 := rfl
  have : h <= 18 := by
   refine Classical.byContradiction fun hn => ?_
   have q4 := zUF (show 19 <= h by omega) 3;have q5 : (19 : Nat) ^ 3 = 6859 := rfl;omega
  omega
theorem q5C (o : Ord n w h) (hc : 0 < c) (c8 : c <= 8) (hN : c ^ n <= 256) (hs : qIS n w = 0) {k : Nat} (hk : k < c ^ n) (hr : rep (nF c n (qJ n w)) (c ^ n) k = true) {a : Nat} (ha : a <= 256) : ∀ (m t : Nat), t + m + 1 = cyc (nF c n (qJ n w)) (c ^ n) k -> ∃ s, qQ (F8a ((n : Int), w) (dg c n k)) (((a + t : Nat) : Int), dg c n (itp (nF c n (qJ n w)) t k), (t : Int)) = some (.inl (((a + cyc (nF c n (qJ n w)) (c ^ n) k : Nat) : Int), s))
 | m, t, ht => by
   have hF := sD hc (show 0 < n by have := o.n2; omega) (yJ o.ok);have zJP := o.n12;have hn2 := o.n2;have h61 := zF2 o hc hN hk;obtain ⟨c1, c2, c3, c4⟩ := zD hF hk;have hit := yU hF t hk;have zO7 := yU hF (t + 1) hk;have l1 := xI c n (itp (nF c n (qJ n w)) (t + 1) k);have hge := (uO hF hk).1 hr (t + 1);have hl0 : (((dg c n (itp (nF c n (qJ n w)) (t + 1) k)).length : Int) != (n : Int)) = false := by rw [l1]; simp
   have e : F8a ((n : Int), w) (dg c n k) (((a + t : Nat) : Int), dg c n (itp (nF c n (qJ n w)) t k), (t : Int)) = cond (decide (itp (nF c n (qJ n w)) (t + 1) k = k)) (some (.inr (.inl (((a + t + 1 : Nat) : Int), dg c n (itp (nF c n (qJ n w)) t k), (t : Int))))) (some (.inl (((a + t + 1 : Nat) : Int), dg c n (itp (nF c n (qJ n w)) (t + 1) k), ((t + 1 : Nat) : Int)))) := by
    unfold F8a;simp only [zFX o hc c8 hs hit, <- xD, qE, zAP, tZ, zSG, qV, hl0, mJ (show ¬ (60 : Int) < (t : Int) by omega), qRS hc zO7 hk (show n <= 1000 by omega), decide_eq_false (show ¬ itp (nF c n (qJ n w)) (t + 1) k < k by omega), qI, zGS (show (dg c n (itp (nF c n (qJ n w)) (t + 1) k)).length < 2 ^ 62 by omega), kF (show a + t < 2 ^ 62 by omega), kF (show t < 2 ^ 62 by omega)];by_cases q : itp (nF c n (qJ n w)) (t + 1) k = k
    ·rw [decide_eq_true q, decide_eq_true (by rw [q])]; rfl
    ·rw [decide_eq_false q, decide_eq_false fun q2 => q (qWB hc zO7 hk q2)]; rfl
   match m, ht with
   | 0, ht =>
     have q : itp (nF c n (qJ n w)) (t + 1) k = k := by rw [show t + 1 = cyc (nF c n (qJ n w)) (c ^ n) k by omega]; exact c1
     rw [decide_eq_true q] at e;rw [zB, e, show a + t + 1 = a + cyc (nF c n (qJ n w)) (c ^ n) k by omega];exact ⟨_, rfl⟩
   | m + 1, ht =>
     have q : itp (nF c n (qJ n w)) (t + 1) k ≠ k := c4 (t + 1) (by omega) (by omega);rw [decide_eq_false q] at e;rw [zB, e];exact q5C o hc c8 hN hs hk hr ha m (t + 1) (by omega)
termination_by m => m
abbrev qKN (c n : Nat) (w : List Int) : List Nat := (List.range (c ^ n)).filter (rep (nF c n (qJ n w)) (c ^ n))
theorem qXN (h : (qKN c n w)[i]? = some k) : k < c ^ n ∧ rep (nF c n (qJ n w)) (c ^ n) k = true := by
 have := zRL h;rw [zSS, zRF] at this;exact this
theorem q6E {j : Nat} (h1 : (qKN c n w)[i]? = some j) (h2 : (qKN c n w)[i + 1]? = some k) : j < k := by
 have hp : (qKN c n w).Pairwise (· < ·) := List.Pairwise.filter _ zUX;obtain ⟨a1, rfl⟩ := zQQ.1 h1;obtain ⟨a2, rfl⟩ := zQQ.1 h2;exact List.pairwise_iff_getElem.1 hp i (i + 1) a1 a2 (by omega)
theorem q5P (h : (qKN c n w)[i]? = some k) : (qA2 c n w (c ^ n))[i]? = some (dg c n k) := by
 unfold qA2;rw [zQU, h];rfl
theorem qQT {f : Nat -> Nat} : ∀ (l : List Nat) (i : Nat), ((l.take i).map f).sum <= (l.map f).sum
 | [], i => by simp
 | x :: l, 0 => by simp
 | x :: l, i + 1 => by
   have := qQT (f := f) l i;simp only [zSL, zQ0, zSO];omega
theorem zDD (o : Ord n w h) (hc : 0 < c) (c8 : c <= 8) (hN : c ^ n <= 256) (hs : qIS n w = 0) : qQ (F8b ((n : Int), w) (qA2 c n w (c ^ n), 0)) (0, 0) = some (.inl (((c ^ n : Nat) : Int), ((qKN c n w).length : Int))) := by
 have hn2 := o.n2;have zJP := o.n12;have hF := sD hc (show 0 < n by omega) (yJ o.ok);have hsum : ((qKN c n w).map (cyc (nF c n (qJ n w)) (c ^ n))).sum = c ^ n := qAR hF;have hll : (qA2 c n w (c ^ n)).length = (qKN c n w).length := by unfold qA2; rw [zQ7]
 have hlen := q0D c n w (c ^ n);refine Exists.elim (vI (F := F8b ((n : Int), w) (qA2 c n w (c ^ n), 0)) (fun (i : Nat) (s : Nat) => ((s : Int), (i : Int))) (fun i s => s = (((qKN c n w).take i).map (cyc (nF c n (qJ n w)) (c ^ n))).sum) (fun s => .inl ((s : Int), ((qKN c n w).length : Int))) (n := (qKN c n w).length) (fun i s hi hs' => ?step) (fun s hs' => ?fin) (qKN c n w).length 0 0 (by omega) (by simp)) (fun s' hh => ?main)
 case main =>
  obtain ⟨h1, h2⟩ := hh;rw [zS7, hsum] at h2;rw [h2] at h1;exact h1
 case fin =>
  unfold F8b;simp only [hll, mJ (zRR _), qI];rfl
 case step =>
  obtain ⟨k, hk⟩ : ∃ k, (qKN c n w)[i]? = some k := ⟨_, zQP hi⟩
  obtain ⟨k1, k2⟩ := qXN hk;obtain ⟨c1, c2, c3, c4⟩ := zD hF k1;have hx := q5P hk
  have hle : s <= c ^ n := by
   have := qQT (f := cyc (nF c n (qJ n w)) (c ^ n)) (qKN c n w) i;omega
  have hi2 : i < (qA2 c n w (c ^ n)).length := by omega
  obtain ⟨s2, ha⟩ := q5C o hc c8 hN hs k1 k2 (show s <= 256 by omega) (cyc (nF c n (qJ n w)) (c ^ n) k - 1) 0 (by omega);have ha : qQ (F8a ((n : Int), w) (dg c n k)) ((s : Int), dg c n k, 0) = _ := ha;refine ⟨s + cyc (nF c n (qJ n w)) (c ^ n) k, ?_, ?_⟩
  ·have zQL : H22 ((n : Int), dg c n k) = some 0 := by rw [zGX, q48 hc c8 hn2 zJP k1]
   unfold F8b;simp only [mI (show (i : Int) < ((qA2 c n w (c ^ n)).length : Int) by omega), qV, zQ hi2, hx, qE, zQL, zAP, tZ, zSG, qQS]
   cases i with
   | zero =>
     simp only [show decide ((0 : Int) < ((0 : Nat) : Int)) = false from rfl, qI, ha, qE, xE];rfl
   | succ i =>
     obtain ⟨j, hj⟩ : ∃ j, (qKN c n w)[i]? = some j := ⟨_, zQP (by omega)⟩
     obtain ⟨j1, j2⟩ := qXN hj;have hy := q5P hj;have w1 : IntKind.i64.wrap (((i + 1 : Nat) : Int) - 1) = (i : Int) := by rw [wrap_i64 (by omega) (by omega)]; omega
     simp only [mI (show (0 : Int) < ((i + 1 : Nat) : Int) by omega), qV, w1, zQ (show i < (qA2 c n w (c ^ n)).length by omega), hy, qE, qRS hc j1 k1 (show n <= 1000 by omega), decide_eq_true (q6E hj hk), zSF, qI, ha, xE, kF (show i + 1 < 2 ^ 62 by omega)];rfl
  ·have e : (qKN c n w).take (i + 1) = (qKN c n w).take i ++ [k] := by
    rw [zTT, hk]; rfl
   rw [e, zRI, zTP, hs'];simp
theorem zCH (hc : 0 < c) (hN : c ^ n <= 256) (hn : n <= 1000) : qQ (F8c ((n : Int), w) (c : Int)) (1, 0) = some (.inl (((c ^ n : Nat) : Int), (n : Int))) := by
 refine Exists.elim (vI (F := F8c ((n : Int), w) (c : Int)) (fun (k : Nat) (s : Nat) => ((s : Int), (k : Int))) (fun k s => s = c ^ k) (fun s => .inl ((s : Int), (n : Int))) (n := n) (fun k s hk hs => ?step) (fun s hs => ?fin) n 0 1 (by omega) (by simp)) (fun s' hh => ?main)
 case main =>
  obtain ⟨h1, h2⟩ := hh;rw [h2] at h1;exact h1
 case fin =>
  unfold F8c;simp only [mJ (zRR _), qI];rfl
 case step =>
  subst hs;have hp : c ^ (k + 1) <= c ^ n := zS0 hc (by omega);have e : ((c ^ k : Nat) : Int) * (c : Int) = ((c ^ (k + 1) : Nat) : Int) := by rw [zSW]; simp
  have hw : IntKind.i64.wrap (((c ^ k : Nat) : Int) * (c : Int)) = ((c ^ (k + 1) : Nat) : Int) := by
   rw [e]; exact wrap_i64 (by omega) (by omega)
  refine ⟨c ^ (k + 1), ?_, rfl⟩;unfold F8c;simp only [mI (show (k : Int) < (n : Int) by omega), qV, hw, kF (show k < 2 ^ 62 by omega)];rfl
theorem q5W (hc : 0 < c) (hn : n <= 1000) : ∀ (m i : Nat), i + m = n -> ∀ (last : Int) (asc : Bool) (r : Nat) (b : List Int), r < 2 ^ 60 -> b.length = c -> (∀ a, a < c -> 0 <= b.getD a 0 ∧ b.getD a 0 <= (i : Int)) -> ∃ l' r' b', qQ (F8d ((n : Int), w) (c : Int)) (last, asc, (r : Int), (i : Int), b) = some (.inl (l', (asc && qIT last (ld c m r)), r', (n : Int), b')) ∧ b'.length = c ∧ ∀ a, a < c -> b'.getD a 0 = b.getD a 0 + ((qFY m (ld c m r) a : Nat) : Int)
 | 0, i, hi, last, asc, r, b, h1, h2, h3 => by
   have hi : i = n := by omega
   subst hi;refine ⟨last, r, b, ?_, h2, fun a ha => by show _ = b.getD a 0 + ((0 : Nat) : Int); omega⟩;rw [zB]
   have : F8d ((i : Int), w) (c : Int) (last, asc, (r : Int), (i : Int), b) = some (.inr (.inl (last, asc, (r : Int), (i : Int), b))) := by
    unfold F8d;simp only [mJ (zRR _), qI];rfl
   rw [this];show _ = some (Sum.inl (last, (asc && true), (r : Int), (i : Int), b));rw [zS2]
 | m + 1, i, hi, last, asc, r, b, h1, h2, h3 => by
   have hd : r % c < c := zSZ _ hc;have hdb : r % c < b.length := by omega
   obtain ⟨b1, b2'⟩ := h3 _ hd;have hw : IntKind.i64.wrap (b.getD (r % c) 0 + 1) = b.getD (r % c) 0 + 1 := wrap_i64 (by omega) (by omega)
   have e : F8d ((n : Int), w) (c : Int) (last, asc, (r : Int), (i : Int), b) = some (.inl (((r % c : Nat) : Int), (asc && decide (last <= ((r % c : Nat) : Int))), ((r / c : Nat) : Int), ((i + 1 : Nat) : Int), b.set (r % c) (b.getD (r % c) 0 + 1))) := by
    unfold F8d;simp only [mI (show (i : Int) < (n : Int) by omega), qV, q62 (show c ≠ 0 by omega), q3P (show c ≠ 0 by omega) (show r < 2 ^ 62 by omega), qE, qQS, zQ hdb, rd hdb, hw, kF (show i < 2 ^ 62 by omega)];cases asc <;> rfl
   have hr : r / c <= r := Nat.div_le_self r c
   obtain ⟨l', r', b', g1, g2, g3⟩ := q5W hc hn m (i + 1) (by omega) ((r % c : Nat) : Int) (asc && decide (last <= ((r % c : Nat) : Int))) (r / c) (b.set (r % c) (b.getD (r % c) 0 + 1)) (by omega) (by rw [zRH]; exact h2) (fun a ha => by
    have := h3 a ha;rw [vW hdb];by_cases q : a = r % c
    ·rw [if_pos q]; omega
    ·rw [if_neg q]; omega)
   refine ⟨l', r', b', ?_, g2, fun a ha => ?_⟩
   ·rw [zB, e];show qQ _ _ = some (Sum.inl (l', (asc && (decide (last <= ((r % c : Nat) : Int)) && qIT ((r % c : Nat) : Int) (ld c m (r / c)))), r', (n : Int), b'));rw [<- Bool.and_assoc];exact g1
   ·rw [g3 a ha, vW hdb];show _ = b.getD a 0 + ((qFY (m + 1) (((r % c : Nat) : Int) :: ld c m (r / c)) a : Nat) : Int);rw [dI];by_cases q : a = r % c
    ·subst q;rw [if_pos rfl, zAA rfl];omega
    ·rw [if_neg q, q9Z (show ¬ (((r % c : Nat) : Int) = (a : Int)) by omega)];omega
def bo (c n : Nat) (l : List Int) : List Int := (List.range c).map fun a => ((qFY n l a : Nat) : Int)
theorem qTH {a : Nat} (ha : a < c) : (bo c n l).getD a 0 = ((qFY n l a : Nat) : Int) := by
 unfold bo;rw [List.getD, zQU, zS1 ha];rfl
theorem qLO (l : List Int) : (bo c n l).length = c := by simp [bo]
theorem qW7 (hl : l.length = n) (hr : inR c l) : (bo c n l).sum = (n : Int) := by
 unfold bo;rw [qIH];unfold qFY;rw [rJ]
 congr 1
 rw [zH (g := fun _ => 1) n fun i hi => ?_, qF4, Nat.mul_one];have hm := sW hr (show i < l.length by omega);have hz : l.getD i 0 = (((l.getD i 0).toNat : Nat) : Int) := by omega
 show sg (fun a => b2 (decide (l.getD i 0 = (a : Int)))) c = 1;rw [sH (z := (l.getD i 0).toNat) (by omega) fun a ha hne => q9Z (by omega)];exact zAA hz
theorem qUW (l : List Int) (a : Nat) : ∀ m, qFY m l a <= m
 | 0 => zQO 0
 | m + 1 => by
   have h1 := qUW l a m;have h2 : qFY (m + 1) l a = qFY m l a + b2 (decide (l.getD m 0 = (a : Int))) := rfl;have h3 : b2 (decide (l.getD m 0 = (a : Int))) <= 1 := by cases decide (l.getD m 0 = (a : Int)) <;> decide
   omega
theorem qVR {l : List Int} : ∀ x ∈ bo c n l, 0 <= x ∧ x <= (n : Int) := fun x hx => by
 obtain ⟨a, ha, rfl⟩ := zQ9.1 hx;have := qUW l a n;omega
theorem zHD (c8 : c <= 8) (h12 : n <= 12) (hl : l.length = n) (hr : inR c l) : q97 (n : Int) (bo c n l) = 0 := by
 unfold q97;rw [if_neg (by rw [qLO]; omega)]
 have : (bo c n l).all qEO = true := zQR.2 fun x hx => by
  have := qVR x hx;unfold qEO qAE;rw [decide_eq_false (by omega), decide_eq_false (by omega)];rfl
 rw [this, qW7 hl hr, cond_true, if_pos rfl]
theorem zAF {x : List Int} : kL c n x (bo c n l) = kL c n l (bo c n x) := by
 rw [zSP, vE, vE];constructor
 ·intro h a ha;have := h a ha;rw [qTH ha] at this;rw [qTH ha, this]
 ·intro h a ha;have := h a ha;rw [qTH ha] at this;rw [qTH ha, this]
theorem q9I : kL c n l (bo c n l) = true := vE.2 fun a ha => qTH ha
def qL7 (c n : Nat) (w : List Int) (k : Nat) : Nat := b2 (qIT 0 (ld c n k)) * qU7 c n w (bo c n (ld c n k))
theorem q9P (hc : 0 < c) : sg (qL7 c n w) (c ^ n) = yY c n w := by
 have e1 : ∀ k, k < c ^ n -> qL7 c n w k = sg (fun r => b2 (rep (nF c n (qJ n w)) (c ^ n) r) * b2 (qIT ((0 : Nat) : Int) (ld c n k) && kL c n (ld c n k) (bo c n (dg c n r)))) (c ^ n) := fun k hk => by
  unfold qL7 qU7 qWH;rw [<- qK5];refine zH _ fun r hr => ?_
  rw [qQ0, qQ0, zAF];exact Nat.mul_left_comm _ _ _
 rw [zH _ e1, rJ];unfold yY qWH;refine zH _ fun r hr => ?_
 have hd := qAG hc n r hr;have hone := asc_one (c := c) n 0 (bo c n (dg c n r)) (qLO _) (fun i hi => by omega) (fun x hx => (qVR x hx).1) (qW7 (xI c n r) hd);rw [<- zCU hc] at hone;rw [qK5, hone, Nat.mul_one, zS2]
theorem qZN (hN : c ^ n <= 256) : ∀ k, sg (qL7 c n w) k <= k * 256
 | 0 => zQO 0
 | k + 1 => by
   have h1 := qZN hN k
   have h2 : qL7 c n w k <= 256 := by
    have hR : qU7 c n w (bo c n (ld c n k)) <= 256 := zQ6 (rV _ _) hN;unfold qL7
    cases qIT 0 (ld c n k) with
    | false => show 0 * _ <= 256; omega
    | true => show 1 * _ <= 256; omega
   show sg (qL7 c n w) k + qL7 c n w k <= _;omega
theorem zBQ (o : Ord n w h) (hc : 0 < c) (c8 : c <= 8) (hN : c ^ n <= 256) (hs : qIS n w = 0) (z : Int) : qQ (F8e ((n : Int), w) (c : Int) (((c ^ n : Nat) : Int), z)) (0, 0) = some (.inl ((yY c n w : Int), ((c ^ n : Nat) : Int))) := by
 have hn2 := o.n2;have zJP := o.n12;have hf := yJ o.ok;refine Exists.elim (vI (F := F8e ((n : Int), w) (c : Int) (((c ^ n : Nat) : Int), z)) (fun (k : Nat) (s : Nat) => ((s : Int), (k : Int))) (fun k s => s = sg (qL7 c n w) k) (fun s => .inl ((s : Int), ((c ^ n : Nat) : Int))) (n := c ^ n) (fun k s hk hs' => ?step) (fun s hs' => ?fin) (c ^ n) 0 0 (by omega) rfl) (fun s' hh => ?main)
 case main =>
  obtain ⟨h1, h2⟩ := hh;rw [h2, q9P hc] at h1;exact h1
 case fin =>
  unfold F8e;simp only [mJ (zRR _), qI];rfl
 case step =>
  have hb := qZN (w := w) hN k
  obtain ⟨l', r', b', g1, g2, g3⟩ := q5W (w := w) hc (show n <= 1000 by omega) n 0 (by omega) 0 true k (List.replicate c 0) (by omega) (by simp) (fun a ha => by
   have : (List.replicate c (0 : Int)).getD a 0 = 0 := by simp [List.getD, ha]
   rw [this]; omega)
  have hbo : b' = bo c n (ld c n k) := by
   apply zRC;intro a;by_cases ha : a < c
   ·have e1 := g3 a ha;have : (List.replicate c (0 : Int)).getD a 0 = 0 := by simp [List.getD, ha]
    rw [this, Int.zero_add] at e1;rw [rd (show a < b'.length by omega), rd (show a < (bo c n (ld c n k)).length by rw [qLO]; exact ha), e1, qTH ha]
   ·rw [zQX (by omega), zQX (by rw [qLO]; omega)]
  subst hbo;have hc4 : c <= 65536 := by omega
  refine ⟨sg (qL7 c n w) (k + 1), ?_, rfl⟩;have hsum : sg (qL7 c n w) (k + 1) = s + qL7 c n w k := by rw [hs']; rfl
  rw [hsum];unfold F8e
  have g1 : qQ (F8d ((n : Int), w) (c : Int)) (0, true, (k : Int), 0, List.replicate c 0) = some (.inl (l', qIT 0 (ld c n k), r', (n : Int), bo c n (ld c n k))) := by
   rw [zTR] at g1; exact g1
  simp only [mI (show (k : Int) < ((c ^ n : Nat) : Int) by omega), qV, q96 hc4, qE, g1, xE]
  cases ha : qIT 0 (ld c n k) with
  | false =>
    have : qL7 c n w k = 0 := by unfold qL7; rw [ha]; exact zT6 _
    rw [this];simp only [zSG, qV, kF (show k < 2 ^ 62 by omega), zR7];rfl
  | true =>
    have hlen := q5Z c n k;have hin := zA3 hc n k;have hR : qU7 c n w (bo c n (ld c n k)) <= 256 := zQ6 (rV _ _) hN;have hR1 : 1 <= qU7 c n w (bo c n (ld c n k)) := q6G hc (by omega) hf hlen hin q9I;have h36 := zHX o hs (zHD c8 zJP hlen hin);rw [qE5 o hc hN (qLO _) (fun x hx => (qVR x hx).1) (qW7 hlen hin)] at h36;have : qL7 c n w k = qU7 c n w (bo c n (ld c n k)) := by unfold qL7; rw [ha]; exact zUW _
    rw [this]
    have hw : IntKind.i64.wrap ((s : Int) + ((qU7 c n w (bo c n (ld c n k)) : Nat) : Int)) = ((s + qU7 c n w (bo c n (ld c n k)) : Nat) : Int) := by
     rw [wrap_i64 (by omega) (by omega)]; omega
    simp only [zSF, qI, h36, qE, zAP, tZ, zSG, qV, mJ (show ¬ ((qU7 c n w (bo c n (ld c n k)) : Nat) : Int) < 1 by omega), hw, kF (show k < 2 ^ 62 by omega)];rfl
end
theorem zG0 (n : Int) (w : List Int) (c : Int) : H8 ((n, w), c) = some true := by
 show (G8 (n, w) c).run = _;unfold G8;by_cases hlw : w.length <= 27
 case neg =>
  have : decide ((w.length : Int) <= 27) = false := decide_eq_false (by omega);simp only [this, zSG, tZ, zSF, qI, xK]
 have d1 : decide ((w.length : Int) <= 27) = true := decide_eq_true (by omega);have e20 : H20 (n, w) = some (qIS n w) := zHN;have e38 : H38 (c, 1, 4) = some (decide (c < 1) || decide (4 < c)) := zCR _;simp only [d1, zSF, tZ, zSG, qV, e20, qE];by_cases hs : qIS n w = 0
 case neg => simp only [(ne0 hs).2, zSF, qI, xK]
 rw [hs];simp only [zAP, zSG, qV, e38, qE];by_cases hcr : c < 1 ∨ 4 < c
 ·have : (decide (c < 1) || decide (4 < c)) = true := by simp only [zSQ, decide_eq_true_eq]; exact hcr
  simp only [this, zSF, qI, xK]
 obtain ⟨d, rfl⟩ : ∃ d : Nat, c = (d : Int) := ⟨c.toNat, by omega⟩
 have d2 : (decide ((d : Int) < 1) || decide (4 < (d : Int))) = false := by rw [decide_eq_false (by omega), decide_eq_false (by omega)]; rfl
 simp only [d2, zSG, qV];obtain ⟨m, rfl, m2, m12, hok, l1, l24⟩ := q60 hs;obtain ⟨h, o⟩ := zAX m2 m12 hok l1 l24;have hd : 0 < d := by omega
 have d8 : d <= 8 := by omega
 obtain ⟨b, hb, hN⟩ := zHT (c := d) (n := m) hd (by omega) (by omega);rw [hb, qE]
 cases b with
 | true => rfl
 | false =>
   have hN := hN rfl
   have zNO : qJ9 (d : Int) = 0 := by
    unfold qJ9 qAE;rw [decide_eq_false (by omega), decide_eq_false (by omega)];rfl
   have h35 := zHO o (c := (d : Int)) (by rw [hs, zNO, q4R, q2V]);rw [zCA o hd hN] at h35;have hR : yY d m w <= 256 := zQ6 (rV _ _) hN;have hR1 : 1 <= yY d m w := q7O hd (by omega) hok;have hlen : (((qA2 d m w (d ^ m)).length : Int) != (yY d m w : Int)) = false := by rw [<- q8J]; simp
   have g1 := zDD o hd d8 hN hs;have g2 := zCH (w := w) hd hN (show m <= 1000 by omega);have g3 := zBQ o hd d8 hN hs (m : Int);have e1 : (((d ^ m : Nat) : Int) == ((d ^ m : Nat) : Int)) = true := by simp
   have e2 : ((yY d m w : Int) == (yY d m w : Int)) = true := by simp
   simp only [qI, zHR o hd d8 hN hs, h35, qE, zAP, zSG, qV, hlen, mJ (show ¬ (yY d m w : Int) < 1 by omega), mJ (show ¬ (256 : Int) < (yY d m w : Int) by omega)];refine (congrArg (fun x => (zIA.bind x _ : Option _)) g1).trans ?_;simp only [qE, xE];refine (congrArg (fun x => (zIA.bind x _ : Option _)) g2).trans ?_;simp only [qE, xE];refine (congrArg (fun x => (zIA.bind x _ : Option _)) g3).trans ?_;simp only [qE, xE, e1, e2, qQS, qV, xK];rfl
end Go.Proofs.YtjgfemghlhmlbaaGreatDoor
