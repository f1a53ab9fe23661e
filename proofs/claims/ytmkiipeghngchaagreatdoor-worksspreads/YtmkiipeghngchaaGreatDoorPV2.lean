/- Plain laws of chapter 9: the bound, more machines, one machine, the other order. Conditions: none. -/
import Derived.Test.YtmkiipeghngchaaGreatDoorPV1
set_option linter.all false
set_option maxRecDepth 10000
set_option maxHeartbeats 100000000
namespace Go.Proofs.YtmkiipeghngchaaGreatDoor
open Go Go.Idl Go.Sv Go.Proofs
theorem qF6 (M:Nat)(ts a:List Int)(k:Nat):(lds M ts a k).length=M:=(gX _ _ _ _).trans zPY
theorem qYG {M:Nat}{ts a:List Int}(ht:Rg ts 1000000):∀ k,(∀ j,j < k->(a.getD j 0).toNat < M)->mxK ts k<=mx (lds M ts a k)
 | 0,_=>pI _
 | k+1,h=>by
   have ih:=qYG (M:=M) (a:=a) ht k fun j hj=>h j (by omega)
   have hr:=qA4 (a:=a) (rg0 M) (zP2 _) ht k;have h1:=qYC (l:=lds M ts a k) (i:=(a.getD k 0).toNat) (ht.get (by omega) k).1 fun x hx=>(hr x hx).1
   have hi:(a.getD k 0).toNat < (lds M ts a k).length:=by rw[qF6];exact h k (by omega)
   have h2:(lds M ts a k).getD (a.getD k 0).toNat 0+ts.getD k 0<=mx (ad (lds M ts a k) (a.getD k 0).toNat (ts.getD k 0)):=qJA (List.mem_set hi _);have h3:=(hr _ (zPW hi)).1;rw[<-jJ hi] at h3;show (if mxK ts k < ts.getD k 0 then ts.getD k 0 else mxK ts k)<=mx (ad (lds M ts a k) _ _);have h3:0<=(lds M ts a k).getD (a.getD k 0).toNat 0:=h3;split <;> omega
def sm:List Int->Int
 | []=>0
 | x::l=>x+sm l
theorem q4X:∀ {l:List Int} {i:Nat} {v:Int},i < l.length->sm (l.set i v)=sm l - l.getD i 0+v
 | x::l,0,v,_=>by show v+sm l=x+sm l - x+v;omega
 | x::l,i+1,v,h=>by
   have:=q4X (l:=l) (i:=i) (v:=v) (by simpa using h);show x+sm (l.set i v)=x+sm l - l.getD i 0+v;omega
theorem q4S:∀ n,sm (List.replicate n 0)=0
 | 0=>rfl
 | n+1=>by rw[zQO];show 0+sm _=0;rw[q4S n];rfl
theorem q4J {M:Nat}{ts a:List Int}:∀ k,(∀ j,j < k->(a.getD j 0).toNat < M)->sm (lds M ts a k)=ttK ts k
 | 0,_=>q4S M
 | k+1,h=>by
   show sm (List.set _ _ _)=ttK ts k+_;have hi:(a.getD k 0).toNat < (lds M ts a k).length:=by rw[qF6];exact h k (by omega)
   have ih:=q4J (ts:=ts) (a:=a) k fun j hj=>h j (by omega)
   have:=q4X (v:=(lds M ts a k).getD (a.getD k 0).toNat 0+ts.getD k 0) hi;unfold lds at this ih hi;rw[this,ih];omega
theorem zA4 {v:Int}:∀ {l:List Int},(∀ x∈l,x<=v)->sm l<=(l.length:Int)*v
 | [],_=>by show (0:Int)<=((0:Nat):Int)*v;omega
 | x::l,h=>by
   have h1:=h x zO3;have h2:=zA4 (v:=v) (l:=l) fun y hy=>h y (zO0 _ hy)
   show x+sm l<=((l.length+1:Nat):Int)*v;rw[show ((l.length+1:Nat):Int)*v=(l.length:Int)*v+v by rw[Int.natCast_add];simp[Int.add_mul]];omega
theorem zAP {ts:List Int}{M:Nat}{v:Int}(hM:1<=M)(hM2:M<=16)(ht:Rg ts 1000000)(hl:ts.length<=35)(hv0:0<=v)(h:ttK ts ts.length<=(M:Int)*v):upv ts M<=v:=by
 have h1:=qKI ht ts.length;unfold upv;have w1:IntKind.i64.wrap (ttK ts ts.length+M)=ttK ts ts.length+M:=qBI (by omega) (by omega);have w2:IntKind.i64.wrap (ttK ts ts.length+M - 1)=ttK ts ts.length+M - 1:=qBI (by omega) (by omega);rw[w1,w2,Int.tdiv_eq_ediv_of_nonneg (by omega)];have h2:(ttK ts ts.length+M - 1) / (M:Int) < v+1:=Int.ediv_lt_of_lt_mul (by omega) (by rw[Int.add_mul,Int.mul_comm v];omega);have h3:0<=(ttK ts ts.length+M - 1) / (M:Int):=Int.ediv_nonneg (by omega) (by omega);have h4:(ttK ts ts.length+M - 1) / (M:Int)<=ttK ts ts.length+M - 1:=Int.ediv_le_self _ (by omega);rw[qBI (by omega) (by omega)];omega
theorem q52 {ts:List Int}{M:Nat}(h:Vd ts (M:Int) M):bnd ts M<=opt M ts:=by
 have hlen:=h.len;obtain⟨h1,h2,h3⟩:=qDM h.lo ts.length [] (by simp) rfl (ts:=ts);have hv:∀ j,j < ts.length->((sp M ts ts.length []).2.getD j 0).toNat < M:=fun j hj=>(gD h1 j (by omega)).1
 have h4:opt M ts=mx (lds M ts (sp M ts ts.length []).2 ts.length):=by
  have h3:=h3;rw[h2] at h3;exact h3
 have h5:=qYG h.ts ts.length hv;rw[q9S] at h5
 have h6:upv ts M<=opt M ts:=by
  refine zAP h.lo h.hi h.ts (by omega) (by rw[h4];exact pI _) ?_;have:=zA4 (l:=lds M ts (sp M ts ts.length []).2 ts.length) fun x hx=>qJA hx
  rw[q4J _ hv,qF6,<-h4] at this;exact this
 unfold bnd;split <;> omega
theorem qUF {M:Nat}{a:List Int}(h:rJ M a=false):rJ (M+1) a=false:=q3Z fun j hj=>by
 obtain⟨K,q1,q2⟩:=oQ h j hj;exact⟨K,q1,by omega⟩
theorem q06 {ts:List Int}{M:Nat}(hM:1<=M)(ht:Rg ts 1000000):opt (M+1) ts<=opt M ts:=by
 obtain⟨h1,h2,h3⟩:=qDM hM ts.length [] (by simp) rfl (ts:=ts);have h4:=qVT (M:=M+1) (by omega) ht (qUF h1) h2
 have h5:lds (M+1) ts (sp M ts ts.length []).2 (sp M ts ts.length []).2.length=lds M ts (sp M ts ts.length []).2 (sp M ts ts.length []).2.length++List.replicate 1 0:=by
  unfold lds;rw[show List.replicate (M+1) (0:Int)=List.replicate M 0++List.replicate 1 0 from (zS2).symm];exact qOS fun j hj=>by rw[zPY];exact (gD h1 j hj).1
 rw[h5,qH9,<-h3] at h4;exact h4
theorem q80 {ts:List Int}(ht:Rg ts 1000000):opt 1 ts=ttK ts ts.length:=by
 obtain⟨h1,h2,h3⟩:=qDM (zOV 1) ts.length [] (by simp) rfl (ts:=ts)
 have key:∀ k,k<=ts.length->lds 1 ts (sp 1 ts ts.length []).2 k=[ttK ts k]:=by
  intro k
  induction k with
  | zero=>intro _;rfl
  | succ k ih =>
    intro hk;have h4:=(gD h1 k (by omega)).1;show ad (lds 1 ts _ k) _ _=_;rw[ih (by omega),show ((sp 1 ts ts.length []).2.getD k 0).toNat=0 by omega];rfl
 show (sp 1 ts ts.length []).1=_;rw[h3,h2,key _ (zOV _)];have:=qKI ht ts.length;show (if (0:Int) < ttK ts ts.length then ttK ts ts.length else 0)=_;split <;> omega
theorem qP0 {l:List Int}{j:Nat}(h:j < l.length):l.reverse.getD j 0=l.getD (l.length - 1 - j) 0:=by
 rw[jJ (by simpa using h),jJ (by omega),List.getElem_reverse]
theorem qWD {ts a:List Int}{i:Nat}(hl:a.length=ts.length):∀ k,k<=ts.length->ldi ts.reverse a.reverse i k=ldi ts a i ts.length - ldi ts a i (ts.length - k)
 | 0,_=>by show (0:Int)=_ - ldi ts a i (ts.length - 0);rw[Nat.sub_zero];omega
 | k+1,hk=>by
   have ih:=qWD (i:=i) hl k (by omega);show ldi ts.reverse a.reverse i k+_=_;rw[ih,qP0 (by omega),qP0 (by omega),hl];have:ts.length - k=(ts.length - (k+1))+1:=by omega
   rw[this];show _=_ - ldi ts a i (ts.length - (k+1));have e:ldi ts a i (ts.length - (k+1)+1)=ldi ts a i (ts.length - (k+1))+if (a.getD (ts.length - (k+1)) 0).toNat=i then ts.getD (ts.length - (k+1)) 0 else 0:=rfl;rw[e,show ts.length - 1 - k=ts.length - (k+1) by omega];omega
theorem qWF {ts:List Int}{B:Int}(h:Rg ts B):Rg ts.reverse B:=fun x hx=>h x (List.mem_reverse.1 hx)
theorem qPM {M:Nat}{a:List Int}(h:rJ M a=false):rJ M a.reverse=false:=by
 unfold rJ at h ⊢;rw[List.any_reverse];exact h
theorem qRI {ts:List Int}{M:Nat}(hM:1<=M)(ht:Rg ts 1000000):opt M ts.reverse<=opt M ts:=by
 obtain⟨h1,h2,h3⟩:=qDM hM ts.length [] (by simp) rfl (ts:=ts);have h4:=qVT hM (qWF ht) (qPM h1) (by simp[h2]);refine zSM h4 ?_;show _<=(sp M ts ts.length []).1;have hr:(sp M ts ts.length []).2.reverse.length=ts.length:=by simp[h2]
 rw[h3];refine qKN (pI _) (fun j hj=>(gD (qPM h1) j hj).1) fun i hi=>?_
 rw[hr,qWD h2 _ (zOV _),zS8];have:=q39 (ts:=ts) (k:=(sp M ts ts.length []).2.length) (fun j hj=>(gD h1 j hj).1) hi;rw[h2] at this ⊢;show _ - (0:Int)<=_;omega
theorem q55 {ts:List Int}{M:Nat}(hM:1<=M)(ht:Rg ts 1000000):opt M ts.reverse=opt M ts:=by
 have h1:=qRI hM ht;have h2:=qRI hM (qWF ht);rw[List.reverse_reverse] at h2;omega
end Go.Proofs.YtmkiipeghngchaaGreatDoor
