/- The library of contracts to begin with: none. Conditions: none. -/
import Derived.Test.YtpnecffgnjijjaaGreatDoorBase
import Derived.Lib.ItoaNum
set_option linter.all false
namespace Go.Proofs.YtpnecffgnjijjaaGreatDoor
open Go.Idl Go.Sv
noncomputable section
def gD:Obj:=.cells (Lib.pow10Tab.map fun z=>Value.int .u64 z).toArray 0 (0,1)
instance:Gc:={ gc:=fun b=>cond (Nat.beq b 7) (some gD) none,ol:=fun t=>Nat.beq t 68 }
instance:Frs:=⟨fun g=>cond (Nat.beq g 25) (some 3) none,.i64⟩
def TB0:yY:=[]
theorem LB0:Lib Tryz.prog good (qW 10) TB0 []:=by
 refine⟨q0H,fun _ _=>none,⟨zAY,fun g args r h=>by cases h⟩,?_,fun f ent h=>by cases h⟩;intro _ g ent h;cases h
end
end Go.Proofs.YtpnecffgnjijjaaGreatDoor
