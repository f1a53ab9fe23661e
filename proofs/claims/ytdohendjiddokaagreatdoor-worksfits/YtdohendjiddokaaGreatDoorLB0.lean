/- The library of contracts to begin with: none. Conditions: none. -/
import Derived.Test.YtdohendjiddokaaGreatDoorBase
import Derived.Lib.ItoaNum
set_option linter.all false
namespace Go.Proofs.YtdohendjiddokaaGreatDoor
open Go.Idl Go.Sv
noncomputable section
def gJ:Obj:=.cells (Lib.pow10Tab.map fun z=>Value.int .u64 z).toArray 0 (0,1)
instance:Gc:={ gc:=fun b=>cond (Nat.beq b 5) (some gJ) none,ol:=fun t=>Nat.beq t 76 }
instance:Frs:=⟨fun g=>cond (Nat.beq g 33) (some 3) none,.i64⟩
def TB0:zX:=[]
theorem LB0:Lib Tryz.prog good (qG 10) TB0 []:=by
 refine⟨q2S,fun _ _=>none,⟨zB9,fun g args r h=>by cases h⟩,?_,fun f ent h=>by cases h⟩;intro _ g ent h;cases h
end
end Go.Proofs.YtdohendjiddokaaGreatDoor
