/- Ways of cutting: what is left of the coils, the best way. Conditions: none. -/
import Derived.Test.YtpnecffgnjijjaaGreatDoorPLQ
set_option linter.all false
set_option maxRecDepth 10000
namespace Go.Proofs.YtpnecffgnjijjaaGreatDoor
open Go Go.Idl Go.Sv Go.Proofs
theorem qD0 {b:List Int}{k:Int}{j:Nat}(h:j < b.length):(b++[k]).getD j 0=b.getD j 0:=by
 rw[zOE,zON h,<-zOE]
theorem qBT {b:List Int}{k:Int}:(b++[k]).getD b.length 0=k:=by
 rw[zOE,zOL (zM0 _),Nat.sub_self];rfl
def Bw (l:List Int)(lo hi:Int):Prop:=∀ x∈l,lo<=x∧x<=hi
theorem Bw.get {l:List Int}{lo hi:Int}(h:Bw l lo hi){i:Nat}(h1:i < l.length):lo<=l[i]∧l[i]<=hi:=h _ (zOG h1)
theorem gDE {l:List Int}{i:Nat}(h:i < l.length):l.getD i 0=l[i]:=by
 rw[zOE,zM2 h];rfl
theorem Bw.getD {l:List Int}{lo hi:Int}(h:Bw l lo hi){i:Nat}(h1:i < l.length):lo<=l.getD i 0∧l.getD i 0<=hi:=by
 rw[gDE h1];exact h.get h1
section
variable (c:Int)(ps:List Int)
end
end Go.Proofs.YtpnecffgnjijjaaGreatDoor
