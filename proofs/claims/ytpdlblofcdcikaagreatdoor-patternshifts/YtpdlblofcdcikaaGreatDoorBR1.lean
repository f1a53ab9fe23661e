/- From functions with contracts to the model's calls; arguments that lie in the world. Conditions: none. -/
import Derived.Test.YtpdlblofcdcikaaGreatDoorBG1
set_option linter.unusedSimpArgs false
set_option linter.unusedVariables false
set_option linter.unusedVariables false
set_option linter.unusedSimpArgs false
namespace Go.Sv
open Go.Idl
variable {P : Program} {good : FuncId -> Bool} {G : Nat -> Bool} {T : xZ} {IT : List (FuncId × IEnt)}
theorem Lib.calls (L : Lib P good G T IT) {g : FuncId} {ent : Ent} (hs : slT g T = some ent) {x : TyL ent.as} {y : TyL ent.rs} (hF : ent.F x = some y) {Z : Nat -> Prop} {H : IH} {args args' : List Value} {f : Inj} {w : World} (hR : Rel P f H w) (hG : aB G f) (ha : qA P f args args')
 (hz : ∀ b, Z b -> b < H.size) (hb : H.base <= H.size) (hv : VRL P Z H (fun _ => none) (pvL ent.as x) args) :
 CallsIn Fence.wide 0 P g args'.toArray w (Go.Idl.Comes P f H w fun r => Old H r.2 ∧ ∃ Z' : Nat -> Prop, VR P Z' r.2 (fun _ => none) (wE ent.rs y) r.1) := by
 obtain ⟨nat, tab, s, ht, _⟩ := L
 letI : Yl := ⟨0⟩
 have h := ht g ent hs x
 rw [hF] at h
 obtain ⟨_, _, k, hk, hctr⟩ := s.t g _ _ h
 exact s.s.spec g k hk args args' H f w _ hR hG ha (hctr Z H args hv hz hb _ fun v H' Z' a1 a2 a3 a4 a5 => ⟨a1, Z', a5⟩)
abbrev q4J : Ty := .int .i64
def eH (zs : List Int) : FV := (Ty.list 3 q4J).fv zs
theorem qGH (zs : List Int) : eH zs = .l 3 zs.length (zs.map fun z => .v (.int .i64 z)) := by
 unfold eH
 show FV.l 3 zs.length (zs.flatMap fun z => [FV.v (.int .i64 z)]) = _
 congr 1
 induction zs with
 | nil => rfl
 | cons z zs ih => rw [List.flatMap_cons, ih]; rfl
abbrev q07 (el : TypeId) : Ty := .list el (.list 3 q4J)
theorem qMC (el : TypeId) (p : List (List Int)) : (q07 el).fv p = .l el p.length (p.map eH) := by
 show FV.l el p.length (p.flatMap fun r => [eH r]) = _
 congr 1
 induction p with
 | nil => rfl
 | cons z zs ih => rw [List.flatMap_cons, ih]; rfl
end Go.Sv
