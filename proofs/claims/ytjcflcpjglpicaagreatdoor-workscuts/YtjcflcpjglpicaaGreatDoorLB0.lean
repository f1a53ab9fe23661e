/- The library of contracts to begin with: none. Conditions: none. -/
import Derived.Test.YtjcflcpjglpicaaGreatDoorBase
import Derived.Lib.ItoaNum
set_option linter.all false
namespace Go.Proofs.YtjcflcpjglpicaaGreatDoor
open Go.Idl Go.Sv
noncomputable section
def gU:Obj:=.cells (Lib.pow10Tab.map fun z=>Value.int .u64 z).toArray 0 (0,1)
instance:Gc:={ gc:=fun b=>cond (Nat.beq b 5) (some gU) none,ol:=fun t=>Nat.beq t 85 }
instance:Frs:=⟨fun g=>cond (Nat.beq g 49) (some 3) none,.i64⟩
def TB0:zT:=[]
theorem LB0:Lib Tryz.prog good (qH 10) TB0 []:=by
 refine⟨q3O,fun _ _=>none,⟨zCK,fun g args r h=>by cases h⟩,?_,fun f ent h=>by cases h⟩;intro _ g ent h;cases h
end
end Go.Proofs.YtjcflcpjglpicaaGreatDoor
