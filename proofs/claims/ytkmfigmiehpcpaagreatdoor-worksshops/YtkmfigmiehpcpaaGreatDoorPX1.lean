/- Ways of cutting: what is left of the coils, the best way. Conditions: none. -/
import Derived.Test.YtkmfigmiehpcpaaGreatDoorPLQ
set_option linter.all false
set_option maxRecDepth 10000
namespace Go.Proofs.YtkmfigmiehpcpaaGreatDoor
open Go Go.Idl Go.Sv Go.Proofs
theorem q21 {b:List Int}{k:Int}{j:Nat}(h:j < b.length):(b++[k]).getD j 0=b.getD j 0:=by
 rw[zO8,zPI h,<-zO8]
theorem qWK {b:List Int}{k:Int}:(b++[k]).getD b.length 0=k:=by
 rw[zO8,zPF (zNV _),Nat.sub_self];rfl
def Bw (l:List Int)(lo hi:Int):Prop:=∀ x∈l,lo<=x∧x<=hi
theorem Bw.get {l:List Int}{lo hi:Int}(h:Bw l lo hi){i:Nat}(h1:i < l.length):lo<=l[i]∧l[i]<=hi:=h _ (zPE h1)
theorem gDE {l:List Int}{i:Nat}(h:i < l.length):l.getD i 0=l[i]:=by
 rw[zO8,zNX h];rfl
theorem Bw.getD {l:List Int}{lo hi:Int}(h:Bw l lo hi){i:Nat}(h1:i < l.length):lo<=l.getD i 0∧l.getD i 0<=hi:=by
 rw[gDE h1];exact h.get h1
section
variable (c:Int)(ps:List Int)
end
end Go.Proofs.YtkmfigmiehpcpaaGreatDoor
