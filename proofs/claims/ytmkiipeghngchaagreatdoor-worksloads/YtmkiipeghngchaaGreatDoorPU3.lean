/- Plain laws of chapter 9: the loads of a list, by the program and by the reference. Conditions: none. -/
import Derived.Test.YtmkiipeghngchaaGreatDoorPU2
set_option linter.all false
set_option maxRecDepth 10000
set_option maxHeartbeats 100000000
namespace Go.Proofs.YtmkiipeghngchaaGreatDoor
open Go Go.Idl Go.Sv Go.Proofs
theorem qMS {k:Nat}{v:Int}{l:List Int}(h:k < l.length):qZC k v l=some (l.set k v):=if_pos h
theorem zD9 {ts a:List Int}{m:Int}(hl:ts.length<=35)(ha:a.length<=35)(hb:nK ts m≠0):H36 (ts,m,a)=some (0,nK ts m):=by
 refine OkT.eq ?_;show OkT (G36 ts m a) _;unfold G36;refine qZ (h82 (by omega)) (qZ (h59 _ _) (qZ (h58 _ (by simp)) ?_))
 have e:fnz [nK ts m,cond ((a.length:Int) != (ts.length:Int)) 2 0]=nK ts m:=by
  show cond (nK ts m != 0) (nK ts m) _=_;rw[bne_iff_ne.2 hb];rfl
 rw[e];exact vY (bne_iff_ne.2 hb) (qI rfl)
theorem qO9 {M K k:Nat}{l ts:List Int}(hl:Rg l (1000000*k))(hk:k<=35)(hK:K < l.length)(ht:Rg ts 1000000)(hkt:k < ts.length):IntKind.i64.wrap (l[K]+ts[k])=l.getD K 0+ts.getD k 0:=by
 have h1:=hl _ (zPA hK);have h2:=ht _ (zPA hkt);rw[vZ hK,vZ hkt,qI4 (by omega) (by omega)]
theorem qX8 {M:Nat}{a:List Int}{k:Nat}(hk:k < a.length)(h:a[k] < 0∨(M:Int)<=a[k]):qLZ M a=true:=by
 refine List.any_eq_true.2 ⟨_,zPA hk,?_⟩;unfold outs;simp;omega
theorem q4U {M:Nat}{a:List Int}(h:∀ j (hj:j < a.length),∃ K:Nat,a[j]=(K:Int)∧K < M):qLZ M a=false:=by
 refine zQ5.2 fun x hx=>?_
 obtain⟨i,hi,rfl⟩:=zPS.1 hx;obtain⟨K,h1,h2⟩:=h i hi;unfold outs;simp;omega
theorem h36 {ts a:List Int}{m:Int}{M:Nat}(h:Vd ts m M)(ha:a.length<=35):H36 (ts,m,a)=some (cs M ts a):=by
 have hb:=h.bad;have hlen:=h.len;have hM:=h.hi;have hm:=h.m;refine OkT.eq ?_;show OkT (G36 ts m a) _;unfold G36;refine qZ (h82 (by omega)) (qZ (h59 _ _) (qZ (h58 _ (by simp)) ?_))
 have e:fnz [nK ts m,cond ((a.length:Int) != (ts.length:Int)) 2 0]=cond ((a.length:Int) != (ts.length:Int)) 2 0:=by
  rw[hb];cases ((a.length:Int) != (ts.length:Int)) <;> rfl
 rw[e];unfold cs;by_cases hn:a.length=ts.length
 ·rw[show ((a.length:Int) != (ts.length:Int))=false by simp[hn],if_neg (fun q=>q hn)];refine rE rfl ?_;refine qW8 (fun s=>∃ k:Nat,s.1=(k:Int)∧k<=a.length∧s.2=ldK (List.replicate 16 0) ts a k∧∀ j (hj:j < a.length),j < k->∃ K:Nat,a[j]=(K:Int)∧K < M) (fun s=>a.length - s.1.toNat) ⟨0,rfl,zP8 _,rfl,fun j hj h=>by omega⟩ ?_;rintro⟨i,l⟩ ⟨k,h1,h2,h3,h4⟩;obtain rfl:i=(k:Int):=h1;have h3:l=ldK (List.replicate 16 0) ts a k:=h3;have zN7:l.length=16:=by rw[h3,sN,zPV]
  have hrg:Rg l (1000000*k):=by
   rw[h3];have:=qED (a:=a) (rg0 16) (zPO _) h.ts k
   rwa [Int.zero_add] at this
  have b16:Nat.beq 16 l.length=true:=by rw[zN7];rfl
  by_cases hk:k < a.length
  ·refine vY (qN3 (by omega)) (yL k rfl hk (xJ hk ?_));refine jO (fun c1=>jO (fun c2=>qI ?_) fun c2=>?_) fun c1=>qI ?_
   ·show OkT (zEP.ret ((0:Int),(10:Int))) _;exact qI (by rw[if_pos (qX8 hk (.inr (by have:=of_decide_eq_true c2;omega)))])
   ·rw[q8A,zO0] at c1;have c1:=of_decide_eq_false c1;have c2:=of_decide_eq_false c2
    obtain⟨K,hK⟩:∃ K:Nat,a[k]=(K:Int):=⟨a[k].toNat,by omega⟩
    have hKM:K < M:=by omega
    have zLW:K < 16:=by omega
    have hKl:K < l.length:=by omega
    have hkt:k < ts.length:=by omega
    refine vY b16 (yL K hK zLW (vY b16 ?_));simp only[zOV,Nat.mul_one];refine xJ hKl (yL k rfl hkt (xJ hkt (vY b16 (yL K hK zLW (vY b16 ?_)))));refine qZ (qMS hKl) (qI ⟨⟨k+1,eB (by omega),hk,?_,?_⟩,?_⟩)
    ·show l.set K _=ad (ldK _ ts a k) (a.getD k 0).toNat (ts.getD k 0);rw[qO9 (M:=M) hrg (by omega) hKl h.ts hkt,<-h3,vZ hk,hK,zPC];rfl
    ·intro j hj hjk;by_cases q:j=k
     ·subst q;exact⟨K,hK,hKM⟩
     ·exact h4 j hj (by omega)
    ·simp only[eB (show k < 2 ^ 62 by omega)];omega
   ·rw[q8A,zSU] at c1;show OkT (zEP.ret ((0:Int),(10:Int))) _;exact qI (by rw[if_pos (qX8 hk (.inl (of_decide_eq_true c1)))])
  ·have hka:k=a.length:=by omega
   refine rE (qRG (by omega)) (qI ?_);show OkT (zEP.ite (Nat.beq 16 l.length) (zEP.bind (H83 l) fun (x8:Int)=>(zEP.ret (x8,(0:Int)):zEP (Int×Int))) zEP.fail) _;have hall:∀ j (hj:j < a.length),∃ K:Nat,a[j]=(K:Int)∧K < M:=fun j hj=>h4 j hj (by omega)
   refine vY b16 (qZ (h83 (by omega) (by omega) fun x hx=>(hrg x hx).1) (qI ?_));rw[if_neg (by rw[q4U hall];simp),h3,hka,zDI hM fun j hj=>?_];obtain⟨K,q1,q2⟩:=hall j hj;rw[vZ hj,q1,zPC];exact q2
 ·rw[show ((a.length:Int) != (ts.length:Int))=true by simp;omega,if_pos hn];exact vY rfl (qI rfl)
theorem qT0 {M:Nat}(h:M<=65536):mkN (M:Int)=some M:=by
 unfold mkN;rw[if_pos (by omega),zPC]
theorem h39 {ts a:List Int}{m:Int}{M:Nat}(h:Vd ts m M)(ha:a.length<=35):H39 (ts,m,a)=some (cs M ts a):=by
 have hlen:=h.len;have hM:=h.hi;have hM1:=h.lo;have hm:=h.m;subst hm;refine OkT.eq ?_;show OkT (G39 ts (M:Int) a) _;unfold G39 cs;by_cases hn:a.length=ts.length
 ·rw[if_neg (fun q=>q hn)];refine rE (by simp[hn]) (qZ (qT0 (by omega)) ?_);refine qW8 (fun s=>∃ k:Nat,s.2.1=(k:Int)∧k<=a.length∧s.2.2=lds M ts a k∧s.1=mx (lds M ts a k)∧∀ j (hj:j < a.length),j < k->∃ K:Nat,a[j]=(K:Int)∧K < M) (fun s=>a.length - s.2.1.toNat) ⟨0,rfl,zP8 _,rfl,?_,fun j hj h=>by omega⟩ ?_
  ·have:=qNU [] M;exact this.symm
  rintro⟨mo,i,l⟩ ⟨k,h1,h2,h3,h5,h4⟩;obtain rfl:i=(k:Int):=h1;have h3:l=lds M ts a k:=h3;have h5:mo=mx (lds M ts a k):=h5;have hlM:l.length=M:=by rw[h3];exact (sN _ _ _ _).trans zPV
  have hrg:Rg l (1000000*k):=by
   rw[h3];have:=qED (a:=a) (rg0 M) (zPO _) h.ts k
   rwa [Int.zero_add] at this
  have w1:IntKind.i64.wrap ((M:Int) - 1)=(M:Int) - 1:=qI4 (by omega) (by omega);by_cases hk:k < a.length
  ·refine vY (qN3 (show (k:Int) < (a.length:Int) by omega)) (yL k rfl hk (xJ hk (qZ (h57 _ _ _) ?_)));rw[w1];refine jO (fun c=>qI ?_) fun c=>?_
   ·show OkT (zEP.ret ((0:Int),(10:Int))) _;refine qI ?_;rw[if_pos (qX8 hk ?_)];unfold outs at c;simp at c;omega
   ·unfold outs at c;simp at c
    obtain⟨K,hK⟩:∃ K:Nat,a[k]=(K:Int):=⟨a[k].toNat,by omega⟩
    have hKM:K < M:=by omega
    have hKl:K < l.length:=by omega
    have hkt:k < ts.length:=by omega
    have hKs:∀ v:Int,K < (l.set K v).length:=fun v=>by rw[zP1];exact hKl
    refine yL k rfl hk (xJ hk (yL K hK hKl (xJ hKl (yL k rfl hkt (xJ hkt (yL K hK hKl (xJ hKl (yL k rfl hk (xJ hk (yL K hK hKl (xJ (hKs _) (qI ⟨⟨k+1,eB (by omega),hk,?_,?_,?_⟩,?_⟩))))))))))))
    ·show l.set K _=ad (lds M ts a k) (a.getD k 0).toNat (ts.getD k 0);rw[qO9 (M:=M) hrg (by omega) hKl h.ts hkt,<-h3,vZ hk,hK,zPC];rfl
    ·show (bif decide (mo < (l.set K _)[K]'_) then (l.set K _)[K]'_ else mo)=mx (ad (lds M ts a k) (a.getD k 0).toNat (ts.getD k 0));rw[List.getElem_set_self,qO9 (M:=M) hrg (by omega) hKl h.ts hkt,vZ hk,hK,zPC,<-h3,q7K hKl (h.ts.get (by omega) k).1 fun x hx=>(hrg x hx).1,h5,<-h3]
     cases hd:decide (mx l < l.getD K 0+ts.getD k 0) with
     | true=>rw[if_pos (of_decide_eq_true hd)];rfl
     | false=>rw[if_neg (of_decide_eq_false hd)];rfl
    ·intro j hj hjk;by_cases q:j=k
     ·subst q;exact⟨K,hK,hKM⟩
     ·exact h4 j hj (by omega)
    ·simp only[eB (show k < 2 ^ 62 by omega)];omega
  ·have hka:k=a.length:=by omega
   refine rE (qRG (show ¬ (k:Int) < (a.length:Int) by omega)) (qI ?_);show OkT (zEP.ret (mo,(0:Int))) _;refine qI ?_;rw[if_neg (by rw[q4U fun j hj=>h4 j hj (by omega)];simp),h5,hka]
 ·rw[if_pos hn];exact vY (by simp;omega) (qI rfl)
end Go.Proofs.YtmkiipeghngchaaGreatDoor
