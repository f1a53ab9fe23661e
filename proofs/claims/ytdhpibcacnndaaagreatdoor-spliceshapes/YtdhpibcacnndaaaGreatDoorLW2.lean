/- Functions told in lists: by their own code as it stands, or in other words. Conditions: none. -/
import Derived.Test.YtdhpibcacnndaaaGreatDoorLW
set_option linter.all false
namespace Go.Sv
open Go.Idl
noncomputable section
variable [Gc] [Hnd] [Frs]
variable {P : Program} {good : FuncId -> Bool} {G : Nat -> Bool} {T : jE} {IT : List (FuncId × q91)}
def qVQ (P : Program) (g : FuncId) : Func := (P.funcs[g]?).getD { name := "", origin := "", params := #[], resultTypes := #[], nfree := 0, ntmps := 0, results := #[], body := none, norace := false, tmpNames := #[] }
def tyO (P : Program) (l : List TypeId) : List Ty := l.map fun t => (qDL P 8 t).getD .unit
def fnY (P : Program) (G : Nat -> Bool) (T : jE) (IT : List (FuncId × q91)) (ans : Ans) (an : An) (az rs : List Ty) (fn : Func) (x : TyL az) : Option (TyL rs) := letI : Yl := ⟨0⟩; fnS P G T IT (ciN P G T IT ans 3) an az rs fn x
def q86 (P : Program) (G : Nat -> Bool) (T : jE) (IT : List (FuncId × q91)) (ans : Ans) (an : An) (g : FuncId) : Ent :=
 ⟨tyO P (qVQ P g).params.toList, tyO P (qVQ P g).resultTypes.toList, fnY P G T IT ans an _ _ (qVQ P g)⟩
theorem q1G {g : FuncId} (h : (P.funcs[g]?).isSome = true) : P.funcs[g]? = some (qVQ P g) := by
 obtain ⟨fn, hfn⟩ := zJ3.1 h;unfold qVQ;rw [hfn]; rfl
theorem Lib.add0 [zAP P G] [q93 P G] (L : Lib P good G T IT) (ans : Ans) (an : An) (g : FuncId) (e : Ent) (hc : (enters P g && ((P.funcs[g]?).isSome && qPT e.as e.rs (qVQ P g))) = true)
 (hF : ∀ x, fnY P G T IT ans an e.as e.rs (qVQ P g) x = e.F x) : Lib P good G ((g, e) :: T) IT := by
 obtain ⟨nat, tab, s, ht, hit⟩ := L;rw [zI5, zI5] at hc
 letI : Yl := ⟨0⟩
 have zC2 := q6I (an := an) (as := e.as) (rs := e.rs) s ht hit (qH1 s ht hit ans 3) (q1G hc.2.1) hc.2.2;rw [show fnS P G T IT (ciN P G T IT ans 3) an e.as e.rs (qVQ P g) = e.F from funext hF] at zC2;refine ⟨_, _, s.add (enL e.as) e.F (jZ e.rs) hc.1 (qK1 e.rs) zC2, ?_, hit⟩;intro _ g' ent hg x;have hg : cond (Nat.beq g' g) (some e) (slT g' T) = some ent := hg;unfold q3Z
 cases hb : Nat.beq g' g with
 | true =>
   rw [hb] at hg;cases hg;exact qQ0 (a := enL e.as) x
 | false =>
   rw [hb] at hg;exact ht g' ent hg x
structure FE where
 g : FuncId
 ans : Ans
 an : An
 e : Option Ent
def FE.ent (P : Program) (G : Nat -> Bool) (T : jE) (IT : List (FuncId × q91)) (f : FE) : Ent := match f.e with
 | some e => e
 | none => q86 P G T IT f.ans f.an f.g
def qXH (P : Program) (G : Nat -> Bool) (IT : List (FuncId × q91)) : List FE -> jE -> jE
 | [], T => T
 | f :: l, T => qXH P G IT l ((f.g, f.ent P G T IT) :: T)
def okE (P : Program) (G : Nat -> Bool) (IT : List (FuncId × q91)) : List FE -> jE -> Prop
 | [], _ => True
 | f :: l, T => (enters P f.g && ((P.funcs[f.g]?).isSome && qPT (f.ent P G T IT).as (f.ent P G T IT).rs (qVQ P f.g))) = true ∧ fnY P G T IT f.ans f.an (f.ent P G T IT).as (f.ent P G T IT).rs (qVQ P f.g) = (f.ent P G T IT).F ∧ okE P G IT l ((f.g, f.ent P G T IT) :: T)
theorem Lib.zBS [zAP P G] [q93 P G] : ∀ (l : List FE) {T : jE}, Lib P good G T IT -> okE P G IT l T -> Lib P good G (qXH P G IT l T) IT
 | [], _, L, _ => L
 | f :: l, T, L, h => Lib.zBS l (L.add0 f.ans f.an f.g (f.ent P G T IT) h.1 fun x => congrFun h.2.1 x) h.2.2
end
end Go.Sv
