/- Plain laws of chapter 9: the loads of a list, by the program and by the reference. Conditions: none. -/
import Derived.Test.YtmkiipeghngchaaGreatDoorPU2
set_option linter.all false
set_option maxRecDepth 10000
set_option maxHeartbeats 100000000
namespace Go.Proofs.YtmkiipeghngchaaGreatDoor
open Go Go.Idl Go.Sv Go.Proofs
theorem qM8 {k:Nat}{v:Int}{l:List Int}(h:k < l.length):qZX k v l=some (l.set k v):=if_pos h
theorem qQ3 {M K k:Nat}{l ts:List Int}(hl:Rg l (1000000*k))(hk:k<=35)(hK:K < l.length)(ht:Rg ts 1000000)(hkt:k < ts.length):IntKind.i64.wrap (l[K]+ts[k])=l.getD K 0+ts.getD k 0:=by
 have h1:=hl _ (zPW hK);have h2:=ht _ (zPW hkt);rw[jJ hK,jJ hkt,qBI (by omega) (by omega)]
theorem q44 {M:Nat}{a:List Int}{k:Nat}(hk:k < a.length)(h:a[k] < 0∨(M:Int)<=a[k]):rJ M a=true:=by
 refine List.any_eq_true.2 ⟨_,zPW hk,?_⟩;unfold outs;simp;omega
theorem q3Z {M:Nat}{a:List Int}(h:∀ j (hj:j < a.length),∃ K:Nat,a[j]=(K:Int)∧K < M):rJ M a=false:=by
 refine zRP.2 fun x hx=>?_
 obtain⟨i,hi,rfl⟩:=zQA.1 hx;obtain⟨K,h1,h2⟩:=h i hi;unfold outs;simp;omega
theorem h36 {ts a:List Int}{m:Int}{M:Nat}(h:Vd ts m M)(ha:a.length<=35):H36 (ts,m,a)=some (cs M ts a):=by
 have hb:=h.bad;have hlen:=h.len;have hM:=h.hi;have hm:=h.m;refine OkT.eq ?_;show OkT (G36 ts m a) _;unfold G36;refine zS (h82 (by omega)) (zS (h59 _ _) (zS (h58 _ (by simp)) ?_))
 have e:fnz [qH0 ts m,cond ((a.length:Int) != (ts.length:Int)) 2 0]=cond ((a.length:Int) != (ts.length:Int)) 2 0:=by
  rw[hb];cases ((a.length:Int) != (ts.length:Int)) <;> rfl
 rw[e];unfold cs;by_cases hn:a.length=ts.length
 ·rw[show ((a.length:Int) != (ts.length:Int))=false by simp[hn],if_neg (fun q=>q hn)];refine qJZ rfl ?_;refine q5Z (fun s=>∃ k:Nat,s.1=(k:Int)∧k<=a.length∧s.2=ldK (List.replicate 16 0) ts a k∧∀ j (hj:j < a.length),j < k->∃ K:Nat,a[j]=(K:Int)∧K < M) (fun s=>a.length - s.1.toNat) ⟨0,rfl,zQZ _,rfl,fun j hj h=>by omega⟩ ?_;rintro⟨i,l⟩ ⟨k,h1,h2,h3,h4⟩;obtain rfl:i=(k:Int):=h1;have h3:l=ldK (List.replicate 16 0) ts a k:=h3;have zOS:l.length=16:=by rw[h3,gX,zPY]
  have hrg:Rg l (1000000*k):=by
   rw[h3];have:=qA4 (a:=a) (rg0 16) (zP2 _) h.ts k
   rwa [Int.zero_add] at this
  have b16:Nat.beq 16 l.length=true:=by rw[zOS];rfl
  by_cases hk:k < a.length
  ·refine aR (qTR (by omega)) (yY k rfl hk (kD hk ?_));refine wT (fun c1=>wT (fun c2=>qR ?_) fun c2=>?_) fun c1=>qR ?_
   ·show OkT (zFC.ret ((0:Int),(10:Int))) _;exact qR (by rw[if_pos (q44 hk (.inr (by have:=of_decide_eq_true c2;omega)))])
   ·rw[qZP,zPN] at c1;have c1:=of_decide_eq_false c1;have c2:=of_decide_eq_false c2
    obtain⟨K,hK⟩:∃ K:Nat,a[k]=(K:Int):=⟨a[k].toNat,by omega⟩
    have hKM:K < M:=by omega
    have zMH:K < 16:=by omega
    have hKl:K < l.length:=by omega
    have hkt:k < ts.length:=by omega
    refine aR b16 (yY K hK zMH (aR b16 ?_));simp only[zPH,Nat.mul_one];refine kD hKl (yY k rfl hkt (kD hkt (aR b16 (yY K hK zMH (aR b16 ?_)))));refine zS (qM8 hKl) (qR ⟨⟨k+1,sV (by omega),hk,?_,?_⟩,?_⟩)
    ·show l.set K _=ad (ldK _ ts a k) (a.getD k 0).toNat (ts.getD k 0);rw[qQ3 (M:=M) hrg (by omega) hKl h.ts hkt,<-h3,jJ hk,hK,zPV];rfl
    ·intro j hj hjk;by_cases q:j=k
     ·subst q;exact⟨K,hK,hKM⟩
     ·exact h4 j hj (by omega)
    ·simp only[sV (show k < 2 ^ 62 by omega)];omega
   ·rw[qZP,Bool.not_eq_false'] at c1;show OkT (zFC.ret ((0:Int),(10:Int))) _;exact qR (by rw[if_pos (q44 hk (.inl (of_decide_eq_true c1)))])
  ·have hka:k=a.length:=by omega
   refine qJZ (qYM (by omega)) (qR ?_);show OkT (zFC.ite (Nat.beq 16 l.length) (zFC.bind (H83 l) fun (x8:Int)=>(zFC.ret (x8,(0:Int)):zFC (Int×Int))) zFC.fail) _;have hall:∀ j (hj:j < a.length),∃ K:Nat,a[j]=(K:Int)∧K < M:=fun j hj=>h4 j hj (by omega)
   refine aR b16 (zS (h83 (by omega) (by omega) fun x hx=>(hrg x hx).1) (qR ?_));rw[if_neg (by rw[q3Z hall];simp),h3,hka,zD8 hM fun j hj=>?_];obtain⟨K,q1,q2⟩:=hall j hj;rw[jJ hj,q1,zPV];exact q2
 ·rw[show ((a.length:Int) != (ts.length:Int))=true by simp;omega,if_pos hn];exact aR rfl (qR rfl)
theorem qXS {M:Nat}(h:M<=65536):mkN (M:Int)=some M:=by
 unfold mkN;rw[if_pos (by omega),zPV]
end Go.Proofs.YtmkiipeghngchaaGreatDoor
