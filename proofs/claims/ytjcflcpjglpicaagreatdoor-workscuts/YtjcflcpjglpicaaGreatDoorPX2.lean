/- Ways of cutting: the best way is one, and none has fewer coils; the bound; the first fit. Conditions: none. -/
import Derived.Test.YtjcflcpjglpicaaGreatDoorPX1
set_option linter.all false
set_option maxRecDepth 10000
namespace Go.Proofs.YtjcflcpjglpicaaGreatDoor
open Go Go.Idl Go.Sv Go.Proofs
theorem zAR {c:Int}{ps:List Int}:∀ (d:Nat) (b:List Int),b.length+d=ps.length->erK c ps b b.length=0->(cu c ps d b).1 < ps.length+1->(cu c ps d b).2.length=ps.length∧erK c ps (cu c ps d b).2 ps.length=0∧((lfK c ps (cu c ps d b).2 ps.length).length:Int)=(cu c ps d b).1
 | 0,b,hb,he,hlt=>by
   have hb:b.length=ps.length:=hb;refine⟨hb,?_,?_⟩
   ·show erK c ps b ps.length=0;rw[<-hb];exact he
   ·show ((lfK c ps b ps.length).length:Int)=((lfK c ps b b.length).length:Int);rw[hb]
 | d+1,b,hb,he,hlt=>by
   rcases q5T (N:=(ps.length:Int)+1) (f:=fun k=>if erK c ps (b++[(k:Int)]) (b.length+1)=0 then cu c ps d (b++[(k:Int)]) else ((ps.length:Int)+1,[])) ((lfK c ps b b.length).length+1) with h | ⟨k,_,h⟩
   ·have h:cu c ps (d+1) b=_:=h;rw[h] at hlt;exact absurd hlt (Int.lt_irrefl _)
   ·have h:cu c ps (d+1) b=if erK c ps (b++[(k:Int)]) (b.length+1)=0 then cu c ps d (b++[(k:Int)]) else ((ps.length:Int)+1,[]):=h;by_cases q:erK c ps (b++[(k:Int)]) (b.length+1)=0
    ·rw[if_pos q] at h;rw[h] at hlt ⊢;exact zAR d _ (by simp;omega) (by rw[show (b++[(k:Int)]).length=b.length+1 by simp];exact q) hlt
    ·rw[if_neg q] at h;rw[h] at hlt;exact absurd hlt (Int.lt_irrefl _)
theorem zCL {c:Int}{ps b:List Int}(hp:Bw ps 1 c)(hb:b.length < ps.length)(he:erK c ps b b.length=0):erK c ps (b++[((lfK c ps b b.length).length:Int)]) (b.length+1)=0:=by
 refine qA6.2 ⟨?_,?_,?_,?_⟩
 ·rw[qW5];exact he
 ·rw[uV];omega
 ·rw[uV,qLP];exact zS4 _
 ·rw[uV,qHY,qEF (by simp),zQ2,uV];have:=hp.getD hb;omega
theorem zAN {c:Int}{ps:List Int}(hp:Bw ps 1 c):∀ (d:Nat) (b:List Int),b.length+d=ps.length->erK c ps b b.length=0->(cu c ps d b).1<=((lfK c ps b b.length).length:Int)+d
 | 0,b,_,_=>by
   show ((lfK c ps b b.length).length:Int)<=((lfK c ps b b.length).length:Int)+(0:Nat);omega
 | d+1,b,hb,he=>by
   have h1:=zCL hp (show b.length < ps.length by omega) he;refine Int.le_trans (qZJ (k:=(lfK c ps b b.length).length) (by omega)) ?_;show (if erK c ps (b++[((lfK c ps b b.length).length:Int)]) (b.length+1)=0 then cu c ps d (b++[((lfK c ps b b.length).length:Int)]) else ((ps.length:Int)+1,[])).1<=_;rw[if_pos h1];have hl:(b++[((lfK c ps b b.length).length:Int)]).length=b.length+1:=by simp
   have:=zAN hp d (b++[((lfK c ps b b.length).length:Int)]) (by omega) (by rw[hl];exact h1);rw[hl,qHY,qN2,if_neg (by simp)] at this;omega
theorem qWR {c:Int}{ps:List Int}(hp:Bw ps 1 c):(cu c ps ps.length []).1<=ps.length∧(cu c ps ps.length []).2.length=ps.length∧erK c ps (cu c ps ps.length []).2 ps.length=0∧((lfK c ps (cu c ps ps.length []).2 ps.length).length:Int)=(cu c ps ps.length []).1:=by
 have h:=zAN hp ps.length [] (by simp) rfl;have h:(cu c ps ps.length []).1<=((0:Nat):Int)+ps.length:=h;exact⟨by omega,zAR _ [] (by simp) rfl (by omega)⟩
def sK (l:List Int):Nat->Int
 | 0=>0
 | k+1=>sK l k+l.getD k 0
theorem q2R {l:List Int}{lo hi:Int}(h:Bw l lo hi):∀ k,k<=l.length->lo*k<=sK l k∧sK l k<=hi*k
 | 0,_=>by
   show lo*((0:Nat):Int)<=0∧0<=hi*((0:Nat):Int);simp
 | k+1,hk=>by
   have h1:=q2R h k (by omega);have h2:=h.getD (show k < l.length by omega);have e:∀ x:Int,x*((k+1:Nat):Int)=x*(k:Int)+x:=fun x=>by rw[show ((k+1:Nat):Int)=(k:Int)+1 by omega,Int.mul_add,Int.mul_one]
   show lo*((k+1:Nat):Int)<=sK l k+l.getD k 0∧sK l k+l.getD k 0<=hi*((k+1:Nat):Int);rw[e,e];omega
def lgK (c:Int)(ps:List Int):Nat->Int
 | 0=>0
 | k+1=>lgK c ps k+if c < 2*ps.getD k 0 then 1 else 0
def hf (c:Int)(l:List Int):Int:=(l.countP fun x=>decide (2*x < c):Nat)
theorem qQ6 {c:Int}{ps:List Int}:∀ k,0<=lgK c ps k∧lgK c ps k<=k
 | 0=>⟨zS4 _,zS4 _⟩
 | k+1=>by
   have:=qQ6 (c:=c) (ps:=ps) k;show 0<=lgK c ps k+_∧lgK c ps k+(if c < 2*ps.getD k 0 then 1 else 0)<=((k+1:Nat):Int);split <;> omega
def bdC (c:Int)(ps:List Int):Int:=if lgK c ps ps.length < (sK ps ps.length+c - 1) / c then (sK ps ps.length+c - 1) / c else lgK c ps ps.length
end Go.Proofs.YtjcflcpjglpicaaGreatDoor
