/- The library of contracts to begin with: none. Conditions: none. -/
import Derived.Test.YtihofndbgpmloaaGreatDoorBase
import Derived.Lib.ItoaNum
set_option linter.all false
namespace Go.Proofs.YtihofndbgpmloaaGreatDoor
open Go.Idl Go.Sv
noncomputable section
def vQ:Obj:=.cells (Lib.pow10Tab.map λz=>Value.int .u64 z).toArray 0 (0,1)
instance:Gc:={gc:=λb=>cond (Nat.beq b 3) (some vQ) none,ol:=λt=>Nat.beq t 127}
instance:Frs:=⟨λg=>cond (Nat.beq g 207) (some 3) none,.i64⟩
def TB0:zM:=[]
theorem LB0:Lib Tryz.prog good (qn 10) TB0 []:=by refine⟨eH,λ_ _=>none,⟨ri,λg b r h=>by cases h⟩,?_,λf a h=>by cases h⟩;intro _ g a h;cases h
end
end Go.Proofs.YtihofndbgpmloaaGreatDoor
