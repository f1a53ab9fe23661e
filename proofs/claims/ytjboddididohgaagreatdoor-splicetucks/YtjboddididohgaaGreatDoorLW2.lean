/- Functions told in lists: by their own code as it stands, or in other words. Conditions: none. -/
import Derived.Test.YtjboddididohgaaGreatDoorLW
set_option linter.all false
namespace Go.Sv
open Go.Idl
noncomputable section
variable [Gc] [Hnd] [Frs]
variable {P : Program} {good : FuncId -> Bool} {G : Nat -> Bool} {T : jE} {IT : List (FuncId × zAV)}
def qWB (P : Program) (g : FuncId) : Func := (P.funcs[g]?).getD { name := "", origin := "", params := #[], resultTypes := #[], nfree := 0, ntmps := 0, results := #[], body := none, norace := false, tmpNames := #[] }
def tyO (P : Program) (l : List TypeId) : List Ty := l.map fun t => (qCU P 8 t).getD .unit
def fnY (P : Program) (G : Nat -> Bool) (T : jE) (IT : List (FuncId × zAV)) (ans : Ans) (an : An) (az rs : List Ty) (fn : Func) (x : TyL az) : Option (TyL rs) := letI : Yl := ⟨0⟩; fnS P G T IT (ciN P G T IT ans 3) an az rs fn x
def q94 (P : Program) (G : Nat -> Bool) (T : jE) (IT : List (FuncId × zAV)) (ans : Ans) (an : An) (g : FuncId) : Ent :=
 ⟨tyO P (qWB P g).params.toList, tyO P (qWB P g).resultTypes.toList, fnY P G T IT ans an _ _ (qWB P g)⟩
theorem q18 {g : FuncId} (h : (P.funcs[g]?).isSome = true) : P.funcs[g]? = some (qWB P g) := by
 obtain ⟨fn, hfn⟩ := zK1.1 h;unfold qWB;rw [hfn]; rfl
theorem Lib.add0 [zBJ P G] [zAX P G] (L : Lib P good G T IT) (ans : Ans) (an : An) (g : FuncId) (e : Ent) (hc : (enters P g && ((P.funcs[g]?).isSome && qP4 e.as e.rs (qWB P g))) = true)
 (hF : ∀ x, fnY P G T IT ans an e.as e.rs (qWB P g) x = e.F x) : Lib P good G ((g, e) :: T) IT := by
 obtain ⟨nat, tab, s, ht, hit⟩ := L;rw [zJ1, zJ1] at hc
 letI : Yl := ⟨0⟩
 have zDY := q59 (an := an) (as := e.as) (rs := e.rs) s ht hit (qJJ s ht hit ans 3) (q18 hc.2.1) hc.2.2;rw [show fnS P G T IT (ciN P G T IT ans 3) an e.as e.rs (qWB P g) = e.F from funext hF] at zDY;refine ⟨_, _, s.add (enL e.as) e.F (j5 e.rs) hc.1 (qKT e.rs) zDY, ?_, hit⟩;intro _ g' ent hg x;have hg : cond (Nat.beq g' g) (some e) (slT g' T) = some ent := hg;unfold q48
 cases hb : Nat.beq g' g with
 | true =>
   rw [hb] at hg;cases hg;exact qS1 (a := enL e.as) x
 | false =>
   rw [hb] at hg;exact ht g' ent hg x
structure FE where
 g : FuncId
 ans : Ans
 an : An
 e : Option Ent
def FE.ent (P : Program) (G : Nat -> Bool) (T : jE) (IT : List (FuncId × zAV)) (f : FE) : Ent := match f.e with
 | some e => e
 | none => q94 P G T IT f.ans f.an f.g
def qZJ (P : Program) (G : Nat -> Bool) (IT : List (FuncId × zAV)) : List FE -> jE -> jE
 | [], T => T
 | f :: l, T => qZJ P G IT l ((f.g, f.ent P G T IT) :: T)
def okE (P : Program) (G : Nat -> Bool) (IT : List (FuncId × zAV)) : List FE -> jE -> Prop
 | [], _ => True
 | f :: l, T => (enters P f.g && ((P.funcs[f.g]?).isSome && qP4 (f.ent P G T IT).as (f.ent P G T IT).rs (qWB P f.g))) = true ∧ fnY P G T IT f.ans f.an (f.ent P G T IT).as (f.ent P G T IT).rs (qWB P f.g) = (f.ent P G T IT).F ∧ okE P G IT l ((f.g, f.ent P G T IT) :: T)
theorem Lib.zCM [zBJ P G] [zAX P G] : ∀ (l : List FE) {T : jE}, Lib P good G T IT -> okE P G IT l T -> Lib P good G (qZJ P G IT l T) IT
 | [], _, L, _ => L
 | f :: l, T, L, h => Lib.zCM l (L.add0 f.ans f.an f.g (f.ent P G T IT) h.1 fun x => congrFun h.2.1 x) h.2.2
end
end Go.Sv
