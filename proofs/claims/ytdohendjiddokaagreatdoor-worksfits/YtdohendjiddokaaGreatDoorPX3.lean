/- Ways of cutting: one piece less; the way of the first fit. Conditions: none. -/
import Derived.Test.YtdohendjiddokaaGreatDoorPX2
set_option linter.all false
set_option maxRecDepth 10000
namespace Go.Proofs.YtdohendjiddokaaGreatDoor
open Go Go.Idl Go.Sv Go.Proofs
theorem Bw.take {l:List Int}{lo hi:Int}(h:Bw l lo hi)(n:Nat):Bw (l.take n) lo hi:=fun x hx=>h x (zSL hx)
theorem qU4 {l:List Int}{n j:Nat}(h:j < n):(l.take n).getD j 0=l.getD j 0:=by
 rw[zQN,zTS h,<-zQN]
theorem q60 {c:Int}{ps:List Int}{M:Nat}(hp:Bw ps 1 c)(hM:ps.length=M+1):(cu c (ps.take M) M []).1<=(cu c ps (M+1) []).1∧(cu c ps (M+1) []).1<=(cu c (ps.take M) M []).1+1:=by
 have hq:=hp.take M;have lq:(ps.take M).length=M:=by rw[zQ3];omega
 obtain⟨a1,a2,a3,a4⟩:=qCK hp;obtain⟨b1,b2,b3,b4⟩:=qCK hq;rw[lq] at b1 b2 b3 b4;rw[hM] at a1 a2 a3 a4;generalize hA:cu c ps (M+1) []=A at *;generalize hB:cu c (ps.take M) M []=B at *;have hps:∀ j,j < M->(ps.take M).getD j 0=ps.getD j 0:=fun j hj=>qU4 hj
 constructor
 ·have e1:∀ j,j < M->(A.2.take M).getD j 0=A.2.getD j 0:=fun j hj=>qU4 hj
  have h1:erK c (ps.take M) (A.2.take M) M=0:=by
   rw[bA e1 hps];exact (wG.1 a3).1
  have:=qRH (c:=c) (ps:=ps.take M) (a:=A.2.take M) (by rw[zQ3,lq];omega) (by rw[lq];exact h1) M [] (by rw[lq];exact zQI _) (fun j hj=>absurd hj (zR8 _));rw[hB,lq,vP e1 hps] at this;have h2:=qG7 (c:=c) (ps:=ps) (b:=A.2) M;omega
 ·have e1:erK c ps B.2 M=0:=by
   rw[<-bA (fun _ _=>rfl) hps];exact b3
  have e2:lfK c ps B.2 M=lfK c (ps.take M) B.2 M:=(vP (fun _ _=>rfl) hps).symm;have h1:=q44 (b:=B.2) hp (by omega) (by rw[b2];exact e1);have:=qRH (c:=c) (ps:=ps) (a:=B.2++[((lfK c ps B.2 B.2.length).length:Int)]) (by simp;omega) (by rw[hM,<-b2];exact h1) (M+1) [] (by rw[hM];exact zQI _) (fun j hj=>absurd hj (zR8 _));rw[hA,hM,show lfK c ps (B.2++[((lfK c ps B.2 B.2.length).length:Int)]) (M+1)=lfK c ps (B.2++[((lfK c ps B.2 B.2.length).length:Int)]) (B.2.length+1) by rw[b2],qBD,qB6,if_neg (by simp),b2,e2] at this;omega
def fiI (l:List Int)(p:Int):Nat:=l.findIdx fun x=>decide (p<=x)
theorem qUY (l:List Int)(p:Int):fiI l p<=l.length:=List.findIdx_le_length
theorem q5C {l:List Int}{p:Int}{j:Nat}(h:j < fiI l p):l.getD j 0 < p:=by
 have h1:=List.not_of_lt_findIdx h;have h2:j < l.length:=zP3 h (qUY l p);rw[gDE h2];simp at h1;exact h1
theorem qND {l:List Int}{p:Int}(h:fiI l p < l.length):p<=l.getD (fiI l p) 0:=by
 have h1:=List.findIdx_getElem (w:=h);rw[gDE h];exact of_decide_eq_true h1
theorem zC0 {l:List Int}{p:Int}{k:Nat}(hk:k < l.length)(h1:p<=l.getD k 0)(h2:∀ j,j < k->¬ p<=l.getD j 0):fiI l p=k:=by
 refine Nat.le_antisymm (zSQ fun q=>?_) (zSQ fun q=>?_)
 ·have:=q5C q;omega
 ·have:=qND (p:=p) (l:=l) (by omega);exact h2 _ q this
theorem zBK {l:List Int}{p:Int}(h:∀ j,j < l.length->¬ p<=l.getD j 0):fiI l p=l.length:=by
 refine Nat.le_antisymm (qUY _ _) (zSQ fun q=>?_);exact h _ q (qND q)
def ffK (c:Int)(ps:List Int):Nat->List Int
 | 0=>[]
 | k+1=>ffK c ps k++[((fiI (lfK c ps (ffK c ps k) k) (ps.getD k 0):Nat):Int)]
theorem mQ {c:Int}{ps:List Int}:∀ k,(ffK c ps k).length=k
 | 0=>rfl
 | k+1=>by
   show (ffK c ps k++[_]).length=_;rw[zQL,mQ k];rfl
def fl (c:Int)(ps:List Int)(k:Nat):List Int:=lfK c ps (ffK c ps k) k
theorem qHQ {c:Int}{ps:List Int}{k:Nat}:fl c ps (k+1)=put c (fl c ps k) (fiI (fl c ps k) (ps.getD k 0)) (ps.getD k 0):=by
 have:=qBD (c:=c) (ps:=ps) (b:=ffK c ps k) (k:=((fiI (lfK c ps (ffK c ps k) k) (ps.getD k 0):Nat):Int));rw[mQ,zQ4] at this;exact this
theorem q2Q {c:Int}{ps:List Int}(hp:Bw ps 1 c):∀ k,k<=ps.length->erK c ps (ffK c ps k) k=0
 | 0,_=>rfl
 | k+1,hk=>by
   have h1:=q2Q hp k (by omega);have hl:=mQ (c:=c) (ps:=ps) k;have hpk:=hp.getD (show k < ps.length by omega);have hle:=qUY (fl c ps k) (ps.getD k 0)
   have e1:(ffK c ps (k+1)).getD k 0=((fiI (fl c ps k) (ps.getD k 0):Nat):Int):=by
    have:=jN (b:=ffK c ps k) (k:=((fiI (fl c ps k) (ps.getD k 0):Nat):Int));rw[hl] at this;exact this
   refine wG.2 ⟨?_,?_,?_,?_⟩
   ·have:=qVM (c:=c) (ps:=ps) (b:=ffK c ps k) (k:=((fiI (fl c ps k) (ps.getD k 0):Nat):Int));rw[hl] at this;exact this.trans h1
   ·rw[e1];omega
   ·have:=qLD (c:=c) (ps:=ps) (b:=ffK c ps k) (k:=((fiI (fl c ps k) (ps.getD k 0):Nat):Int));rw[hl] at this;rw[e1,show lfK c ps (ffK c ps (k+1)) k=fl c ps k from this];omega
   ·rw[e1,zQ4,show lfK c ps (ffK c ps (k+1)) (k+1)=fl c ps (k+1) from rfl,qHQ];by_cases q:fiI (fl c ps k) (ps.getD k 0) < (fl c ps k).length
    ·rw[oD q,gDE (by rw[zQP];exact q),zRX];have:=qND q;omega
    ·rw[nW (by omega),show fiI (fl c ps k) (ps.getD k 0)=(fl c ps k).length by omega,jN];omega
theorem qQH {l:List Int}{i j:Nat}{v:Int}(hi:i < l.length):(l.set i v).getD j 0=if i=j then v else l.getD j 0:=by
 by_cases h:i=j
 ·subst h;rw[if_pos rfl,gDE (by rw[zQP];exact hi),zRX]
 ·rw[if_neg h,zQN,zTJ h,<-zQN]
theorem zAJ {c:Int}{ps:List Int}(hp:Bw ps 1 c):∀ k,k<=ps.length->Ff c (fl c ps k)
 | 0,_=>fun i j h1 h2=>absurd h2 (zR8 _)
 | k+1,hk=>by
   have ih:=zAJ hp k (by omega);have hpk:=hp.getD (show k < ps.length by omega);intro i j h1 h2;rw[qHQ] at h2 ⊢;by_cases q:fiI (fl c ps k) (ps.getD k 0) < (fl c ps k).length
   ·rw[oD q] at h2 ⊢;rw[zQP] at h2;have:=ih i j h1 h2;rw[qQH q,qQH q];split <;> split
    ·omega
    ·rename_i h3 h4;rw[<-h3] at this;omega
    ·rename_i h3 h4;rw[<-h4] at this;omega
    ·exact this
   ·rw[nW (by omega)] at h2 ⊢;rw[zQL] at h2;have h2:j < (fl c ps k).length+1:=h2;by_cases hj:j=(fl c ps k).length
    ·subst hj;rw[jN,tY h1];have:=q5C (show i < fiI (fl c ps k) (ps.getD k 0) by omega);omega
    ·rw[tY (by omega),tY (by omega)];exact ih i j h1 (by omega)
end Go.Proofs.YtdohendjiddokaaGreatDoor
