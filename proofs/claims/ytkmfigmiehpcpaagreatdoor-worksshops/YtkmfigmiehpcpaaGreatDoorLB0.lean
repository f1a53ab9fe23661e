/- The library of contracts to begin with: none. Conditions: none. -/
import Derived.Test.YtkmfigmiehpcpaaGreatDoorBase
import Derived.Lib.ItoaNum
set_option linter.all false
namespace Go.Proofs.YtkmfigmiehpcpaaGreatDoor
open Go.Idl Go.Sv
noncomputable section
def uZ:Obj:=.cells (Lib.pow10Tab.map fun z=>Value.int .u64 z).toArray 0 (0,1)
instance:Gc:={ gc:=fun b=>cond (Nat.beq b 5) (some uZ) none,ol:=fun t=>Nat.beq t 86 }
instance:Frs:=⟨fun g=>cond (Nat.beq g 48) (some 3) none,.i64⟩
def TB0:z8:=[]
theorem LB0:Lib Tryz.prog good (qJ 10) TB0 []:=by
 refine⟨q1U,fun _ _=>none,⟨q84,fun g args r h=>by cases h⟩,?_,fun f ent h=>by cases h⟩;intro _ g ent h;cases h
end
end Go.Proofs.YtkmfigmiehpcpaaGreatDoor
