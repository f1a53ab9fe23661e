/- Functions told in lists: by their own code as it stands, or in other words. Conditions: none. -/
import Derived.Test.YtjboddididohgaaGreatDoorLW
set_option linter.all false
namespace Go.Sv
open Go.Idl
noncomputable section
variable [Gc] [Hnd] [Frs]
variable {P : Program} {good : FuncId -> Bool} {G : Nat -> Bool} {T : jF} {IT : List (FuncId × zBB)}
def qWZ (P : Program) (g : FuncId) : Func := (P.funcs[g]?).getD { name := "", origin := "", params := #[], resultTypes := #[], nfree := 0, ntmps := 0, results := #[], body := none, norace := false, tmpNames := #[] }
def tyO (P : Program) (l : List TypeId) : List Ty := l.map fun t => (qDY P 8 t).getD .unit
def fnY (P : Program) (G : Nat -> Bool) (T : jF) (IT : List (FuncId × zBB)) (ans : Ans) (an : An) (az rs : List Ty) (fn : Func) (x : TyL az) : Option (TyL rs) := letI : Yl := ⟨0⟩; fnS P G T IT (ciN P G T IT ans 3) an az rs fn x
def zAG (P : Program) (G : Nat -> Bool) (T : jF) (IT : List (FuncId × zBB)) (ans : Ans) (an : An) (g : FuncId) : Ent :=
 ⟨tyO P (qWZ P g).params.toList, tyO P (qWZ P g).resultTypes.toList, fnY P G T IT ans an _ _ (qWZ P g)⟩
theorem q48 {g : FuncId} (h : (P.funcs[g]?).isSome = true) : P.funcs[g]? = some (qWZ P g) := by
 obtain ⟨fn, hfn⟩ := zLJ.1 h;unfold qWZ;rw [hfn]; rfl
theorem Lib.add0 [zBZ P G] [zBD P G] (L : Lib P good G T IT) (ans : Ans) (an : An) (g : FuncId) (e : Ent) (hc : (enters P g && ((P.funcs[g]?).isSome && qQ9 e.as e.rs (qWZ P g))) = true)
 (hF : ∀ x, fnY P G T IT ans an e.as e.rs (qWZ P g) x = e.F x) : Lib P good G ((g, e) :: T) IT := by
 obtain ⟨nat, tab, s, ht, hit⟩ := L;rw [zKI, zKI] at hc
 letI : Yl := ⟨0⟩
 have zED := q5X (an := an) (as := e.as) (rs := e.rs) s ht hit (qIB s ht hit ans 3) (q48 hc.2.1) hc.2.2;rw [show fnS P G T IT (ciN P G T IT ans 3) an e.as e.rs (qWZ P g) = e.F from funext hF] at zED;refine ⟨_, _, s.add (enL e.as) e.F (vC e.rs) hc.1 (qLF e.rs) zED, ?_, hit⟩;intro _ g' ent hg x;have hg : cond (Nat.beq g' g) (some e) (slT g' T) = some ent := hg;unfold q5G
 cases hb : Nat.beq g' g with
 | true =>
   rw [hb] at hg;cases hg;exact qVD (a := enL e.as) x
 | false =>
   rw [hb] at hg;exact ht g' ent hg x
structure FE where
 g : FuncId
 ans : Ans
 an : An
 e : Option Ent
def FE.ent (P : Program) (G : Nat -> Bool) (T : jF) (IT : List (FuncId × zBB)) (f : FE) : Ent := match f.e with
 | some e => e
 | none => zAG P G T IT f.ans f.an f.g
def qXC (P : Program) (G : Nat -> Bool) (IT : List (FuncId × zBB)) : List FE -> jF -> jF
 | [], T => T
 | f :: l, T => qXC P G IT l ((f.g, f.ent P G T IT) :: T)
def okE (P : Program) (G : Nat -> Bool) (IT : List (FuncId × zBB)) : List FE -> jF -> Prop
 | [], _ => True
 | f :: l, T => (enters P f.g && ((P.funcs[f.g]?).isSome && qQ9 (f.ent P G T IT).as (f.ent P G T IT).rs (qWZ P f.g))) = true ∧ fnY P G T IT f.ans f.an (f.ent P G T IT).as (f.ent P G T IT).rs (qWZ P f.g) = (f.ent P G T IT).F ∧ okE P G IT l ((f.g, f.ent P G T IT) :: T)
theorem Lib.zC1 [zBZ P G] [zBD P G] : ∀ (l : List FE) {T : jF}, Lib P good G T IT -> okE P G IT l T -> Lib P good G (qXC P G IT l T) IT
 | [], _, L, _ => L
 | f :: l, T, L, h => Lib.zC1 l (L.add0 f.ans f.an f.g (f.ent P G T IT) h.1 fun x => congrFun h.2.1 x) h.2.2
end
end Go.Sv
