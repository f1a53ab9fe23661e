/- Ways of cutting: the best way is one, and none has fewer coils; the bound; the first fit. Conditions: none. -/
import Derived.Test.YtdohendjiddokaaGreatDoorPX1
set_option linter.all false
set_option maxRecDepth 10000
namespace Go.Proofs.YtdohendjiddokaaGreatDoor
open Go Go.Idl Go.Sv Go.Proofs
theorem qRH {c:Int}{ps a:List Int}(ha:a.length=ps.length)(he:erK c ps a ps.length=0):∀ (d:Nat) (b:List Int),b.length+d=ps.length->(∀ j,j < b.length->a.getD j 0=b.getD j 0)->(cu c ps d b).1<=(lfK c ps a ps.length).length
 | 0,b,hb,h=>by
   have hb:b.length=ps.length:=hb;show ((lfK c ps b b.length).length:Int)<=_;rw[hb,<-vP (a:=a) (k:=ps.length) (fun j hj=>h j (by omega)) fun _ _=>rfl];exact zTC _
 | d+1,b,hb,h=>by
   have h1:=wG.1 (qU7 (show b.length+1<=ps.length by omega) he);have e1:lfK c ps a b.length=lfK c ps b b.length:=vP h fun _ _=>rfl
   obtain⟨K,hK⟩:∃ K:Nat,a.getD b.length 0=(K:Int):=⟨(a.getD b.length 0).toNat,by omega⟩
   have h2:=h1.2.2.1;rw[e1,hK] at h2
   have hc:∀ j,j < (b++[(K:Int)]).length->a.getD j 0=(b++[(K:Int)]).getD j 0:=by
    intro j hj;rw[zQL] at hj;have hj:j < b.length+1:=hj;by_cases q:j=b.length
    ·subst q;rw[jN,hK]
    ·rw[tY (by omega)];exact h j (by omega)
   have h3:erK c ps (b++[(K:Int)]) (b.length+1)=0:=by
    rw[<-bA (a:=a) (fun j hj=>hc j (by simp;omega)) fun _ _=>rfl];exact qU7 (by omega) he
   refine zUI (qN3 (k:=K) (by omega)) ?_;show (if erK c ps (b++[(K:Int)]) (b.length+1)=0 then cu c ps d (b++[(K:Int)]) else ((ps.length:Int)+1,[])).1<=_;rw[if_pos h3];exact qRH ha he d _ (by simp;omega) hc
theorem zCH {c:Int}{ps:List Int}:∀ (d:Nat) (b:List Int),b.length+d=ps.length->erK c ps b b.length=0->(cu c ps d b).1 < ps.length+1->(cu c ps d b).2.length=ps.length∧erK c ps (cu c ps d b).2 ps.length=0∧((lfK c ps (cu c ps d b).2 ps.length).length:Int)=(cu c ps d b).1
 | 0,b,hb,he,hlt=>by
   have hb:b.length=ps.length:=hb;refine⟨hb,?_,?_⟩
   ·show erK c ps b ps.length=0;rw[<-hb];exact he
   ·show ((lfK c ps b ps.length).length:Int)=((lfK c ps b b.length).length:Int);rw[hb]
 | d+1,b,hb,he,hlt=>by
   rcases q45 (N:=(ps.length:Int)+1) (f:=fun k=>if erK c ps (b++[(k:Int)]) (b.length+1)=0 then cu c ps d (b++[(k:Int)]) else ((ps.length:Int)+1,[])) ((lfK c ps b b.length).length+1) with h | ⟨k,_,h⟩
   ·have h:cu c ps (d+1) b=_:=h;rw[h] at hlt;exact absurd hlt (Int.lt_irrefl _)
   ·have h:cu c ps (d+1) b=if erK c ps (b++[(k:Int)]) (b.length+1)=0 then cu c ps d (b++[(k:Int)]) else ((ps.length:Int)+1,[]):=h;by_cases q:erK c ps (b++[(k:Int)]) (b.length+1)=0
    ·rw[if_pos q] at h;rw[h] at hlt ⊢;exact zCH d _ (by simp;omega) (by rw[show (b++[(k:Int)]).length=b.length+1 by simp];exact q) hlt
    ·rw[if_neg q] at h;rw[h] at hlt;exact absurd hlt (Int.lt_irrefl _)
theorem q44 {c:Int}{ps b:List Int}(hp:Bw ps 1 c)(hb:b.length < ps.length)(he:erK c ps b b.length=0):erK c ps (b++[((lfK c ps b b.length).length:Int)]) (b.length+1)=0:=by
 refine wG.2 ⟨?_,?_,?_,?_⟩
 ·rw[qVM];exact he
 ·rw[jN];omega
 ·rw[jN,qLD];exact zTC _
 ·rw[jN,qBD,nW (by simp),zQ4,jN];have:=hp.getD hb;omega
theorem zCL {c:Int}{ps:List Int}(hp:Bw ps 1 c):∀ (d:Nat) (b:List Int),b.length+d=ps.length->erK c ps b b.length=0->(cu c ps d b).1<=((lfK c ps b b.length).length:Int)+d
 | 0,b,_,_=>by
   show ((lfK c ps b b.length).length:Int)<=((lfK c ps b b.length).length:Int)+(0:Nat);omega
 | d+1,b,hb,he=>by
   have h1:=q44 hp (show b.length < ps.length by omega) he;refine zUI (qN3 (k:=(lfK c ps b b.length).length) (by omega)) ?_;show (if erK c ps (b++[((lfK c ps b b.length).length:Int)]) (b.length+1)=0 then cu c ps d (b++[((lfK c ps b b.length).length:Int)]) else ((ps.length:Int)+1,[])).1<=_;rw[if_pos h1];have hl:(b++[((lfK c ps b b.length).length:Int)]).length=b.length+1:=by simp
   have:=zCL hp d (b++[((lfK c ps b b.length).length:Int)]) (by omega) (by rw[hl];exact h1);rw[hl,qBD,qB6,if_neg (by simp)] at this;omega
theorem qCK {c:Int}{ps:List Int}(hp:Bw ps 1 c):(cu c ps ps.length []).1<=ps.length∧(cu c ps ps.length []).2.length=ps.length∧erK c ps (cu c ps ps.length []).2 ps.length=0∧((lfK c ps (cu c ps ps.length []).2 ps.length).length:Int)=(cu c ps ps.length []).1:=by
 have h:=zCL hp ps.length [] (by simp) rfl;have h:(cu c ps ps.length []).1<=((0:Nat):Int)+ps.length:=h;exact⟨by omega,zCH _ [] (by simp) rfl (by omega)⟩
def sK (l:List Int):Nat->Int
 | 0=>0
 | k+1=>sK l k+l.getD k 0
theorem qR0 {a b:List Int}:∀ {k:Nat},(∀ j,j < k->a.getD j 0=b.getD j 0)->sK a k=sK b k
 | 0,_=>rfl
 | k+1,h=>by
   show sK a k+_=sK b k+_;rw[qR0 fun j hj=>h j (by omega),h k (by omega)]
theorem q42 {l:List Int}{i:Nat}{v:Int}(hi:i < l.length):∀ k,sK (l.set i v) k=sK l k+if i < k then v - l.getD i 0 else 0
 | 0=>by rw[if_neg (by omega)];rfl
 | k+1=>by
   show sK (l.set i v) k+(l.set i v).getD k 0=sK l k+l.getD k 0+_;rw[q42 hi k];by_cases h1:i=k
   ·subst h1;rw[if_neg (by omega),if_pos (by omega),gDE (show i < (l.set i v).length by rw[zQP];exact hi),zRX];omega
   ·have e:(l.set i v).getD k 0=l.getD k 0:=by
     rw[zQN,zTJ h1,<-zQN]
    rw[e];by_cases h2:i < k
    ·rw[if_pos h2,if_pos (by omega)];omega
    ·rw[if_neg h2,if_neg (by omega)];omega
theorem zB4 {l:List Int}{v:Int}:sK (l++[v]) (l.length+1)=sK l l.length+v:=by
 show sK (l++[v]) l.length+(l++[v]).getD l.length 0=_;rw[jN,qR0 (b:=l) fun j hj=>tY hj]
theorem q7G (c:Int)(l:List Int)(i:Nat)(p:Int):c*(put c l i p).length - sK (put c l i p) (put c l i p).length=c*l.length - sK l l.length+p:=by
 by_cases h:i < l.length
 ·rw[oD h,zQP,q42 h,if_pos h];omega
 ·rw[nW (by omega),zQL];show c*((l.length+1:Nat):Int) - sK (l++[c - p]) (l.length+1)=_;rw[zB4,show c*((l.length+1:Nat):Int)=c*(l.length:Int)+c by rw[show ((l.length+1:Nat):Int)=(l.length:Int)+1 by omega,Int.mul_add,Int.mul_one]];omega
theorem qXT {c:Int}{ps b:List Int}:∀ k,c*(lfK c ps b k).length - sK (lfK c ps b k) (lfK c ps b k).length=sK ps k
 | 0=>by
   show c*((0:Nat):Int) - 0=0;simp
 | k+1=>by
   show c*(put _ _ _ _).length - sK (put _ _ _ _) (put _ _ _ _).length=sK ps k+_;rw[q7G,qXT k]
theorem qTW {l:List Int}{lo hi:Int}(h:Bw l lo hi):∀ k,k<=l.length->lo*k<=sK l k∧sK l k<=hi*k
 | 0,_=>by
   show lo*((0:Nat):Int)<=0∧0<=hi*((0:Nat):Int);simp
 | k+1,hk=>by
   have h1:=qTW h k (by omega);have h2:=h.getD (show k < l.length by omega);have e:∀ x:Int,x*((k+1:Nat):Int)=x*(k:Int)+x:=fun x=>by rw[show ((k+1:Nat):Int)=(k:Int)+1 by omega,Int.mul_add,Int.mul_one]
   show lo*((k+1:Nat):Int)<=sK l k+l.getD k 0∧sK l k+l.getD k 0<=hi*((k+1:Nat):Int);rw[e,e];omega
theorem q61 {c:Int}{ps b:List Int}(hp:Bw ps 1 c)(he:erK c ps b ps.length=0):sK ps ps.length<=c*(lfK c ps b ps.length).length:=by
 have h1:=qXT (c:=c) (ps:=ps) (b:=b) ps.length;have h2:=(qTW (qC8 hp ps.length (zP0 _) he) _ (zP0 _)).1;rw[Int.zero_mul] at h2;omega
def lgK (c:Int)(ps:List Int):Nat->Int
 | 0=>0
 | k+1=>lgK c ps k+if c < 2*ps.getD k 0 then 1 else 0
def hf (c:Int)(l:List Int):Int:=(l.countP fun x=>decide (2*x < c):Nat)
theorem zAO {c:Int}{ps b:List Int}(hp:Bw ps 1 c):∀ k,k<=ps.length->erK c ps b k=0->lgK c ps k<=hf c (lfK c ps b k)
 | 0,_,_=>by
   show (0:Int)<=((0:Nat):Int);omega
 | k+1,hk,he=>by
   have h1:=wG.1 he;have ih:=zAO hp k (by omega) h1.1;have hb:=qC8 hp k (by omega) h1.1;have hpk:=hp.getD (show k < ps.length by omega);have h4:=h1.2.2.2;show lgK c ps k+(if c < 2*ps.getD k 0 then 1 else 0)<=hf c (put c (lfK c ps b k) (b.getD k 0).toNat (ps.getD k 0));have h4:0<=(put c (lfK c ps b k) (b.getD k 0).toNat (ps.getD k 0)).getD (b.getD k 0).toNat 0:=h4;generalize hp':ps.getD k 0=p at *;by_cases q:(b.getD k 0).toNat < (lfK c ps b k).length
   ·rw[oD q] at h4 ⊢;have hx:=hb.getD q;rw[gDE (by rw[zQP];exact q),zRX] at h4;rw[gDE q] at hx h4 ⊢;have hc:=@List.boole_getElem_le_countP _ (fun x=>decide (2*x < c)) (lfK c ps b k) _ q;unfold hf at ih ⊢;rw[List.countP_set q];simp only[decide_eq_true_eq] at hc ⊢;generalize (lfK c ps b k)[(b.getD k 0).toNat]=x at *;split <;> split <;> split <;> omega
   ·rw[nW (by omega)];unfold hf at ih ⊢;rw[zUN,List.countP_singleton];simp only[decide_eq_true_eq];split <;> split <;> omega
theorem zD2 {c:Int}{ps b:List Int}(hp:Bw ps 1 c)(he:erK c ps b ps.length=0):lgK c ps ps.length<=(lfK c ps b ps.length).length:=by
 have h1:=zAO hp ps.length (zP0 _) he;have h2:=@List.countP_le_length _ (fun x=>decide (2*x < c)) (lfK c ps b ps.length);unfold hf at h1;omega
theorem qPS {c:Int}{ps:List Int}:∀ k,0<=lgK c ps k∧lgK c ps k<=k
 | 0=>⟨zTC _,zTC _⟩
 | k+1=>by
   have:=qPS (c:=c) (ps:=ps) k;show 0<=lgK c ps k+_∧lgK c ps k+(if c < 2*ps.getD k 0 then 1 else 0)<=((k+1:Nat):Int);split <;> omega
def bdC (c:Int)(ps:List Int):Int:=if lgK c ps ps.length < (sK ps ps.length+c - 1) / c then (sK ps ps.length+c - 1) / c else lgK c ps ps.length
theorem zEJ {s c n:Int}(hc:1<=c)(h:s<=c*n):(s+c - 1) / c<=n:=by
 have h1:(s+c - 1) / c < n+1:=zT8 (by omega) (by rw[Int.add_mul,zTD,Int.mul_comm n c];omega);omega
theorem zEP {s c:Int}(hc:1<=c):s<=c*((s+c - 1) / c):=by
 have h1:=Int.mul_ediv_add_emod (s+c - 1) c;have h2:=Int.emod_lt_of_pos (s+c - 1) (show 0 < c by omega);omega
theorem zCV {c:Int}{ps b:List Int}(hc:1<=c)(hp:Bw ps 1 c)(he:erK c ps b ps.length=0):bdC c ps<=(lfK c ps b ps.length).length:=by
 have h1:=zEJ hc (q61 hp he);have h2:=zD2 hp he;unfold bdC;split
 ·exact h1
 ·exact h2
def Ff (c:Int)(l:List Int):Prop:=∀ i j,i < j->j < l.length->l.getD i 0+l.getD j 0 < c
theorem q57 {c:Int}{l:List Int}(h:Ff c l):∀ k,k < l.length->2*sK l (k+1) - l.getD 0 0 - l.getD k 0<=(c - 1)*k
 | 0,_=>by
   show 2*(0+l.getD 0 0) - l.getD 0 0 - l.getD 0 0<=(c - 1)*((0:Nat):Int);simp;omega
 | k+1,hk=>by
   have h1:=q57 h k (by omega);have h2:=h k (k+1) (by omega) hk;show 2*(sK l (k+1)+l.getD (k+1) 0) - l.getD 0 0 - l.getD (k+1) 0<=(c - 1)*((k+1:Nat):Int);rw[show ((k+1:Nat):Int)=(k:Int)+1 by omega,Int.mul_add (c - 1),Int.mul_one];omega
theorem q06 {c:Int}{ps b:List Int}(hc:1<=c)(hp:Bw ps 1 c)(h0:0 < ps.length)(h:Ff c (lfK c ps b ps.length)):((lfK c ps b ps.length).length:Int) < 2*bdC c ps:=by
 have hs:=qXT (c:=c) (ps:=ps) (b:=b) ps.length;have hu:=zEP (s:=sK ps ps.length) hc;have hb:(sK ps ps.length+c - 1) / c<=bdC c ps:=by unfold bdC;split <;> omega
 generalize (sK ps ps.length+c - 1) / c=u at *;have hps:=(qTW hp _ (zP0 _)).1;rw[zTD] at hps
 have hu0:0 < u:=by
  refine Int.not_le.1 fun q=>?_
  have:=Int.mul_le_mul_of_nonneg_left q (show 0<=c by omega);rw[Int.mul_zero] at this;omega
 generalize lfK c ps b ps.length=l at *;by_cases h1:l.length<=1
 ·omega
 ·have h2:=q57 h (l.length - 1) (by omega);rw[show l.length - 1+1=l.length by omega] at h2;have h3:=h 0 (l.length - 1) (by omega) (by omega);rw[show ((l.length - 1:Nat):Int)=(l.length:Int) - 1 by omega] at h2;refine Int.not_le.1 fun q=>?_
  have q2:=Int.mul_le_mul_of_nonneg_left (show 2*u<=l.length by omega) (show 0<=c by omega);rw[show c*(2*u)=2*(c*u) by rw[<-Int.mul_assoc,Int.mul_comm c 2,Int.mul_assoc]] at q2
  have e1:(c - 1)*((l.length:Int) - 1)=c*(l.length:Int) - l.length - (c - 1):=by
   rw[Int.mul_sub,Int.mul_one,Int.sub_mul,zTD]
  omega
end Go.Proofs.YtdohendjiddokaaGreatDoor
