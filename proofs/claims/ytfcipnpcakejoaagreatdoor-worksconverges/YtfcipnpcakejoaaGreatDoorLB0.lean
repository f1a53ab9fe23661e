/- The library of contracts to begin with: none. Conditions: none. -/
import Derived.Test.YtfcipnpcakejoaaGreatDoorBase
import Derived.Lib.ItoaNum
set_option linter.all false
namespace Go.Proofs.YtfcipnpcakejoaaGreatDoor
open Go.Idl Go.Sv
noncomputable section
def vQ:Obj:=.cells (Lib.pow10Tab.map λz=>Value.int .u64 z).toArray 0 (0,1)
instance:Gc:={gc:=λb=>cond (Nat.beq b 7) (some vQ) none,ol:=λt=>Nat.beq t 69}
instance:Frs:=⟨λg=>cond (Nat.beq g 76) (some 3) none,.i64⟩
def TB0:qs:=[]
theorem LB0:Lib Tryz.prog good (qV 10) TB0 []:=by refine⟨di,λ_ _=>none,⟨pf,λg b r h=>by cases h⟩,?_,λf a h=>by cases h⟩;intro _ g a h;cases h
end
end Go.Proofs.YtfcipnpcakejoaaGreatDoor
