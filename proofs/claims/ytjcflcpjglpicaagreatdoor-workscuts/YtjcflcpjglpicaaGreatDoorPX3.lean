/- Ways of cutting: one piece less; the way of the first fit. Conditions: none. -/
import Derived.Test.YtjcflcpjglpicaaGreatDoorPX2
set_option linter.all false
set_option maxRecDepth 10000
namespace Go.Proofs.YtjcflcpjglpicaaGreatDoor
open Go Go.Idl Go.Sv Go.Proofs
theorem Bw.take {l:List Int}{lo hi:Int}(h:Bw l lo hi)(n:Nat):Bw (l.take n) lo hi:=fun x hx=>h x (zR4 hx)
theorem q73 {l:List Int}{n j:Nat}(h:j < n):(l.take n).getD j 0=l.getD j 0:=by
 rw[zQZ,zTC h,<-zQZ]
def fiI (l:List Int)(p:Int):Nat:=l.findIdx fun x=>decide (p<=x)
theorem qT6 (l:List Int)(p:Int):fiI l p<=l.length:=List.findIdx_le_length
theorem q9Y {l:List Int}{p:Int}{j:Nat}(h:j < fiI l p):l.getD j 0 < p:=by
 have h1:=List.not_of_lt_findIdx h;have h2:j < l.length:=zPP h (qT6 l p);rw[gDE h2];simp at h1;exact h1
theorem qN6 {l:List Int}{p:Int}(h:fiI l p < l.length):p<=l.getD (fiI l p) 0:=by
 have h1:=List.findIdx_getElem (w:=h);rw[gDE h];exact of_decide_eq_true h1
theorem zB3 {l:List Int}{p:Int}{k:Nat}(hk:k < l.length)(h1:p<=l.getD k 0)(h2:∀ j,j < k->¬ p<=l.getD j 0):fiI l p=k:=by
 refine Nat.le_antisymm (zSA fun q=>?_) (zSA fun q=>?_)
 ·have:=q9Y q;omega
 ·have:=qN6 (p:=p) (l:=l) (by omega);exact h2 _ q this
theorem zCT {l:List Int}{p:Int}(h:∀ j,j < l.length->¬ p<=l.getD j 0):fiI l p=l.length:=by
 refine Nat.le_antisymm (qT6 _ _) (zSA fun q=>?_);exact h _ q (qN6 q)
def ffK (c:Int)(ps:List Int):Nat->List Int
 | 0=>[]
 | k+1=>ffK c ps k++[((fiI (lfK c ps (ffK c ps k) k) (ps.getD k 0):Nat):Int)]
theorem sJ {c:Int}{ps:List Int}:∀ k,(ffK c ps k).length=k
 | 0=>rfl
 | k+1=>by
   show (ffK c ps k++[_]).length=_;rw[zP9,sJ k];rfl
def fl (c:Int)(ps:List Int)(k:Nat):List Int:=lfK c ps (ffK c ps k) k
theorem qOF {c:Int}{ps:List Int}{k:Nat}:fl c ps (k+1)=put c (fl c ps k) (fiI (fl c ps k) (ps.getD k 0)) (ps.getD k 0):=by
 have:=qHY (c:=c) (ps:=ps) (b:=ffK c ps k) (k:=((fiI (lfK c ps (ffK c ps k) k) (ps.getD k 0):Nat):Int));rw[sJ,zQ2] at this;exact this
theorem zAD {c:Int}{ps:List Int}(hp:Bw ps 1 c):∀ k,k<=ps.length->erK c ps (ffK c ps k) k=0
 | 0,_=>rfl
 | k+1,hk=>by
   have h1:=zAD hp k (by omega);have hl:=sJ (c:=c) (ps:=ps) k;have hpk:=hp.getD (show k < ps.length by omega);have hle:=qT6 (fl c ps k) (ps.getD k 0)
   have e1:(ffK c ps (k+1)).getD k 0=((fiI (fl c ps k) (ps.getD k 0):Nat):Int):=by
    have:=uV (b:=ffK c ps k) (k:=((fiI (fl c ps k) (ps.getD k 0):Nat):Int));rw[hl] at this;exact this
   refine qA6.2 ⟨?_,?_,?_,?_⟩
   ·have:=qW5 (c:=c) (ps:=ps) (b:=ffK c ps k) (k:=((fiI (fl c ps k) (ps.getD k 0):Nat):Int));rw[hl] at this;exact this.trans h1
   ·rw[e1];omega
   ·have:=qLP (c:=c) (ps:=ps) (b:=ffK c ps k) (k:=((fiI (fl c ps k) (ps.getD k 0):Nat):Int));rw[hl] at this;rw[e1,show lfK c ps (ffK c ps (k+1)) k=fl c ps k from this];omega
   ·rw[e1,zQ2,show lfK c ps (ffK c ps (k+1)) (k+1)=fl c ps (k+1) from rfl,qOF];by_cases q:fiI (fl c ps k) (ps.getD k 0) < (fl c ps k).length
    ·rw[qEC q,gDE (by rw[zQM];exact q),zSZ];have:=qN6 q;omega
    ·rw[qEF (by omega),show fiI (fl c ps k) (ps.getD k 0)=(fl c ps k).length by omega,uV];omega
end Go.Proofs.YtjcflcpjglpicaaGreatDoor
