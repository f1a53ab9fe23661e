/- The library of contracts to begin with: none. Conditions: none. -/
import Derived.Test.YtmkiipeghngchaaGreatDoorBase
import Derived.Lib.ItoaNum
set_option linter.all false
namespace Go.Proofs.YtmkiipeghngchaaGreatDoor
open Go.Idl Go.Sv
noncomputable section
def gL:Obj:=.cells (Lib.pow10Tab.map fun z=>Value.int .u64 z).toArray 0 (0,1)
instance:Gc:={ gc:=fun b=>cond (Nat.beq b 5) (some gL) none,ol:=fun t=>Nat.beq t 112 }
instance:Frs:=⟨fun g=>cond (Nat.beq g 71) (some 3) none,.i64⟩
def TB0:zV:=[]
theorem LB0:Lib Tryz.prog good (qG 10) TB0 []:=by
 refine⟨q2M,fun _ _=>none,⟨q9T,fun g args r h=>by cases h⟩,?_,fun f ent h=>by cases h⟩;intro _ g ent h;cases h
end
end Go.Proofs.YtmkiipeghngchaaGreatDoor
