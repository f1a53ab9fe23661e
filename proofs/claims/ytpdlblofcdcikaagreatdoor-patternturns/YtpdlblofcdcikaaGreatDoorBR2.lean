/- Lists of integers and of rows, as they lie. Conditions: none. -/
import Derived.Test.YtpdlblofcdcikaaGreatDoorBG1
set_option linter.all false
namespace Go.Sv
open Go.Idl
variable {P : Program}
abbrev zAV : Ty := .int .i64
def nI (zs : List Int) : FV := (Ty.list 3 zAV).fv zs
theorem qJE (zs : List Int) : nI zs = .l 3 zs.length (zs.map fun z => .v (.int .i64 z)) := by
 unfold nI;show FV.l 3 zs.length (zs.flatMap fun z => [FV.v (.int .i64 z)]) = _
 congr 1
 induction zs with
 | nil => rfl
 | cons z zs ih => rw [List.flatMap_cons, ih]; rfl
abbrev q56 (el : TypeId) : Ty := .list el (.list 3 zAV)
theorem qNN (el : TypeId) (p : List (List Int)) : (q56 el).fv p = .l el p.length (p.map nI) := by
 show FV.l el p.length (p.flatMap fun r => [nI r]) = _
 congr 1
 induction p with
 | nil => rfl
 | cons z zs ih => rw [List.flatMap_cons, ih]; rfl
end Go.Sv
