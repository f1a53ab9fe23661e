/- The library of contracts to begin with: none. Conditions: none. -/
import Derived.Test.YtbegpnhghineiaaGreatDoorBase
import Derived.Lib.ItoaNum
set_option linter.all false
namespace Go.Proofs.YtbegpnhghineiaaGreatDoor
open Go.Idl Go.Sv
noncomputable section
def vH:Obj:=.cells (Lib.pow10Tab.map λz=>Value.int .u64 z).toArray 0 (0,1)
instance:Gc:={gc:=λb=>cond (Nat.beq b 7) (some vH) none,ol:=λt=>Nat.beq t 62}
instance:Frs:=⟨λg=>cond (Nat.beq g 58) (some 3) none,.i64⟩
def TB0:qo:=[]
theorem LB0:Lib Tryz.prog good (qT 10) TB0 []:=by refine⟨cw,λ_ _=>none,⟨pB,λg b r h=>by cases h⟩,?_,λf a h=>by cases h⟩;intro _ g a h;cases h
end
end Go.Proofs.YtbegpnhghineiaaGreatDoor
