/- Functions told in lists: by their own code as it stands, or in other words. Conditions: none. -/
import Derived.Test.YtjboddididohgaaGreatDoorLW
set_option linter.all false
namespace Go.Sv
open Go.Idl
noncomputable section
variable [Gc] [Hnd] [Frs]
variable {P : Program} {good : FuncId -> Bool} {G : Nat -> Bool} {T : kS} {IT : List (FuncId × zAV)}
def qWE (P : Program) (g : FuncId) : Func := (P.funcs[g]?).getD { name := "", origin := "", params := #[], resultTypes := #[], nfree := 0, ntmps := 0, results := #[], body := none, norace := false, tmpNames := #[] }
def tyO (P : Program) (l : List TypeId) : List Ty := l.map fun t => (qD4 P 8 t).getD .unit
def fnY (P : Program) (G : Nat -> Bool) (T : kS) (IT : List (FuncId × zAV)) (ans : Ans) (an : An) (az rs : List Ty) (fn : Func) (x : TyL az) : Option (TyL rs) := letI : Yl := ⟨0⟩; fnS P G T IT (ciN P G T IT ans 3) an az rs fn x
def q9V (P : Program) (G : Nat -> Bool) (T : kS) (IT : List (FuncId × zAV)) (ans : Ans) (an : An) (g : FuncId) : Ent :=
 ⟨tyO P (qWE P g).params.toList, tyO P (qWE P g).resultTypes.toList, fnY P G T IT ans an _ _ (qWE P g)⟩
theorem q4I {g : FuncId} (h : (P.funcs[g]?).isSome = true) : P.funcs[g]? = some (qWE P g) := by
 obtain ⟨fn, hfn⟩ := zK3.1 h;unfold qWE;rw [hfn]; rfl
theorem Lib.add0 [zBJ P G] [zAZ P G] (L : Lib P good G T IT) (ans : Ans) (an : An) (g : FuncId) (e : Ent) (hc : (enters P g && ((P.funcs[g]?).isSome && qQ5 e.as e.rs (qWE P g))) = true)
 (hF : ∀ x, fnY P G T IT ans an e.as e.rs (qWE P g) x = e.F x) : Lib P good G ((g, e) :: T) IT := by
 obtain ⟨nat, tab, s, ht, hit⟩ := L;rw [zJ5, zJ5] at hc
 letI : Yl := ⟨0⟩
 have zDY := q6C (an := an) (as := e.as) (rs := e.rs) s ht hit (qJN s ht hit ans 3) (q4I hc.2.1) hc.2.2;rw [show fnS P G T IT (ciN P G T IT ans 3) an e.as e.rs (qWE P g) = e.F from funext hF] at zDY;refine ⟨_, _, s.add (enL e.as) e.F (j3 e.rs) hc.1 (qLZ e.rs) zDY, ?_, hit⟩;intro _ g' ent hg x;have hg : cond (Nat.beq g' g) (some e) (slT g' T) = some ent := hg;unfold q4N
 cases hb : Nat.beq g' g with
 | true =>
   rw [hb] at hg;cases hg;exact qVV (a := enL e.as) x
 | false =>
   rw [hb] at hg;exact ht g' ent hg x
structure FE where
 g : FuncId
 ans : Ans
 an : An
 e : Option Ent
def FE.ent (P : Program) (G : Nat -> Bool) (T : kS) (IT : List (FuncId × zAV)) (f : FE) : Ent := match f.e with
 | some e => e
 | none => q9V P G T IT f.ans f.an f.g
def qY9 (P : Program) (G : Nat -> Bool) (IT : List (FuncId × zAV)) : List FE -> kS -> kS
 | [], T => T
 | f :: l, T => qY9 P G IT l ((f.g, f.ent P G T IT) :: T)
def okE (P : Program) (G : Nat -> Bool) (IT : List (FuncId × zAV)) : List FE -> kS -> Prop
 | [], _ => True
 | f :: l, T => (enters P f.g && ((P.funcs[f.g]?).isSome && qQ5 (f.ent P G T IT).as (f.ent P G T IT).rs (qWE P f.g))) = true ∧ fnY P G T IT f.ans f.an (f.ent P G T IT).as (f.ent P G T IT).rs (qWE P f.g) = (f.ent P G T IT).F ∧ okE P G IT l ((f.g, f.ent P G T IT) :: T)
theorem Lib.zCO [zBJ P G] [zAZ P G] : ∀ (l : List FE) {T : kS}, Lib P good G T IT -> okE P G IT l T -> Lib P good G (qY9 P G IT l T) IT
 | [], _, L, _ => L
 | f :: l, T, L, h => Lib.zCO l (L.add0 f.ans f.an f.g (f.ent P G T IT) h.1 fun x => congrFun h.2.1 x) h.2.2
end
end Go.Sv
