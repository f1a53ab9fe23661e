/- The library of contracts to begin with: none. Conditions: none. -/
import Derived.Test.YtmojbdabaigobaaGreatDoorBase
import Derived.Lib.ItoaNum
set_option linter.all false
namespace Go.Proofs.YtmojbdabaigobaaGreatDoor
open Go.Idl Go.Sv
noncomputable section
def gK:Obj:=.cells (Lib.pow10Tab.map fun z=>Value.int .u64 z).toArray 0 (0,1)
instance:Gc:={ gc:=fun b=>cond (Nat.beq b 5) (some gK) none,ol:=fun t=>Nat.beq t 79 }
instance:Frs:=⟨fun g=>cond (Nat.beq g 39) (some 3) none,.i64⟩
def TB0:yE:=[]
theorem LB0:Lib Tryz.prog good (qJ 10) TB0 []:=by
 refine⟨qZ7,fun _ _=>none,⟨zBO,fun g args r h=>by cases h⟩,?_,fun f ent h=>by cases h⟩;intro _ g ent h;cases h
end
end Go.Proofs.YtmojbdabaigobaaGreatDoor
