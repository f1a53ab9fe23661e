/- Ways of cutting: the best way is one, and none has fewer coils; the bound; the first fit. Conditions: none. -/
import Derived.Test.YtpnecffgnjijjaaGreatDoorPX1
set_option linter.all false
set_option maxRecDepth 10000
namespace Go.Proofs.YtpnecffgnjijjaaGreatDoor
open Go Go.Idl Go.Sv Go.Proofs
def sK (l:List Int):Nat->Int
 | 0=>0
 | k+1=>sK l k+l.getD k 0
theorem q9F {l:List Int}{lo hi:Int}(h:Bw l lo hi):∀ k,k<=l.length->lo*k<=sK l k∧sK l k<=hi*k
 | 0,_=>by
   show lo*((0:Nat):Int)<=0∧0<=hi*((0:Nat):Int);simp
 | k+1,hk=>by
   have h1:=q9F h k (by omega);have h2:=h.getD (show k < l.length by omega);have e:∀ x:Int,x*((k+1:Nat):Int)=x*(k:Int)+x:=fun x=>by rw[show ((k+1:Nat):Int)=(k:Int)+1 by omega,Int.mul_add,Int.mul_one]
   show lo*((k+1:Nat):Int)<=sK l k+l.getD k 0∧sK l k+l.getD k 0<=hi*((k+1:Nat):Int);rw[e,e];omega
def hf (c:Int)(l:List Int):Int:=(l.countP fun x=>decide (2*x < c):Nat)
end Go.Proofs.YtpnecffgnjijjaaGreatDoor
