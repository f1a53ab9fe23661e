/- Plain laws of chapter 9: the program's search for the best way of cutting. Conditions: none. -/
import Derived.Test.YtdohendjiddokaaGreatDoorCU3
set_option linter.all false
set_option maxRecDepth 10000
set_option maxHeartbeats 100000000
namespace Go.Proofs.YtdohendjiddokaaGreatDoor
open Go Go.Idl Go.Sv Go.Proofs
theorem q8R {a b:Nat}(h:a<=b):Nat.min a b=a:=zRO h
theorem mtn {a b:Nat}(h:a<=b):Nat.min (Int.toNat (a:Int)) b=a:=by rw[zQ4];exact q8R h
theorem qWU {R S τ:Type}{F:S->Option (S⊕τ)}{K:τ->zGM R}{s:S}{t:τ}{Q:R->Prop}(h:F s=some (.inr t))(hk:OkT (K t) Q):OkT (zGM.bind (zH F s) K) Q:=by
 rw[qCW h];exact hk
theorem rU {R S τ:Type}{F:S->Option (S⊕τ)}{K:τ->zGM R}{s:S}{Q:R->Prop}(P:τ->Prop)(h:OkT (F s) fun o=>∃ t,o=.inr t∧P t)(hk:∀ t,P t->OkT (K t) Q):OkT (zGM.bind (zH F s) K) Q:=by
 obtain⟨o,h1,t,rfl,h2⟩:=h;exact qWU h1 (hk t h2)
theorem qQ5 {σ:Type}{n:Nat}{l A:List Int}{N:Nat}(x:Int)(hn:A.length=n)(h1:l.take n=A)(h2:n<=l.length)(h3:n < N)(h4:l.length<=N)(hN:N<=1000):∃ l1:List Int,(zGM.ite ((n+[x].length).ble l.length) (zGM.ret (Sum.inr (tQ l [x] n [x].length,((n+[x].length:Nat):Int)))) (zGM.ite (n.beq l.length) (zGM.ite ((l.length+[x].length).ble 1048576) (zGM.ret (Sum.inr (l++[x],((l.length+[x].length:Nat):Int)))) zGM.fail) zGM.fail):zGM (σ⊕List Int×Int))=some (Sum.inr (l1,((n+1:Nat):Int)))∧l1.take (n+1)=A++[x]∧n+1<=l1.length∧l1.length<=N:=by
 by_cases q:n+1<=l.length
 ·refine⟨tQ l [x] n 1,?_,?_,?_,?_⟩
  ·rw[show (n+[x].length).ble l.length=true from zQH q];rfl
  ·unfold tQ;rw[h1];show (A++([x]++_)).take _=_;rw[<-zQ0,List.take_left' (by simp;omega)]
  ·unfold tQ;simp;omega
  ·unfold tQ;simp;omega
 ·have q2:n=l.length:=by omega
  have q3:l=A:=by rw[<-h1,q2,zSR]
  refine⟨l++[x],?_,?_,?_,?_⟩
  ·rw[show (n+[x].length).ble l.length=false from by
    cases hh:(n+[x].length).ble l.length with
    | false=>rfl
    | true=>exact absurd (zP8 hh) q,show n.beq l.length=true by rw[q2];exact zT9 _,show (l.length+[x].length).ble 1048576=true from zQH (by simp;omega),q2];rfl
  ·rw[q3,zQT (by simp;omega)]
  ·simp;omega
  ·simp;omega
theorem qP6 {l A:List Int}{n k:Nat}(h:l.take n=A)(hk:k < n)(hl:k < l.length):l[k]=A.getD k 0:=by
 rw[<-h,zQN,zTS hk,zP2 hl];rfl
theorem qQF {l A:List Int}{n k:Nat}(h:l.take n=A)(x:Int):(l.set k x).take n=A.set k x:=by
 rw[<-h,List.take_set]
theorem qCT {l A:List Int}{m n:Nat}(h:l.take n=A)(hm:m<=n):l.take m=A.take m:=by
 rw[<-h,zTE,zRO hm]
theorem zD3 {c:Int}{l:List Int}{k:Nat}{p:Int}(hk:k<=l.length):put c l k p=(if k=l.length then l++[c] else l).set k ((if k=l.length then l++[c] else l).getD k 0 - p):=by
 by_cases h:k=l.length
 ·rw[if_pos h,nW (by omega),h,jN,qR6]
 ·rw[if_neg h,oD (by omega)]
theorem s70 {c:Int}{ps:List Int}(v:Vc c ps):∀ (d fuel:Nat) (p cl ll be:List Int) (fw:Int),d < fuel->p.length+d=ps.length->erK c ps p p.length=0->fw<=ps.length+1 ->
 cl.take p.length=p->p.length<=cl.length->cl.length<=ps.length ->
 ll.take (lfK c ps p p.length).length=lfK c ps p p.length->(lfK c ps p p.length).length<=ll.length->ll.length<=ps.length ->
 ∃ cl' ll':List Int,qFF S70 fuel (cl,ll,((lfK c ps p p.length).length:Int),fw,(p.length:Int),ps,be,c)=some (cl',ll',((lfK c ps p p.length).length:Int),(qIW (be,fw) (cu c ps d p)).2,(p.length:Int),ps,(qIW (be,fw) (cu c ps d p)).1,c)∧cl'.take p.length=p∧p.length<=cl'.length∧cl'.length<=ps.length∧ll'.take (lfK c ps p p.length).length=lfK c ps p p.length∧(lfK c ps p p.length).length<=ll'.length∧ll'.length<=ps.length
 | d,0,p,cl,ll,be,fw,hf,_,_,_,_,_,_,_,_,_=>by omega
 | d,fuel+1,p,cl,ll,be,fw,hf,hl,hp,hfw,a1,a2,a3,b1,b2,b3=>by
   have hpl:=v.len;have hc1:=v.lo;have hc2:=v.hi;have hlp:=qDL (c:=c) (ps:=ps) (b:=p) p.length;have hge:=q7B (c:=c) (ps:=ps) d p hl;have hbw:=qC8 (b:=p) v.ps p.length (by omega) hp;generalize hL:lfK c ps p p.length=L at *
   suffices hs:OkT (G70 (qFF S70 fuel) cl ll (L.length:Int) fw (p.length:Int) ps be c) fun r=>∃ cl' ll':List Int,r=(cl',ll',(L.length:Int),(qIW (be,fw) (cu c ps d p)).2,(p.length:Int),ps,(qIW (be,fw) (cu c ps d p)).1,c)∧cl'.take p.length=p∧p.length<=cl'.length∧cl'.length<=ps.length∧ll'.take L.length=L∧L.length<=ll'.length∧ll'.length<=ps.length by
    obtain⟨r,q1,cl',ll',rfl,q2⟩:=hs;exact⟨cl',ll',q1,q2⟩
   unfold G70;rw[mtn a2,mtn b2];refine kI (fun q=>qM ⟨cl,ll,?_,a1,a2,a3,b1,b2,b3⟩) fun q=>?_
   ·have q:=of_decide_eq_true q;rw[qOG (st:=(be,fw)) (show fw<=(cu c ps d p).1 by omega)]
   have q:=of_decide_eq_false q
   cases d with
   | zero =>
     refine eY (by simp;omega) (eY (zQH (by simp;omega)) (qM ⟨cl,ll,?_,a1,a2,a3,b1,b2,b3⟩))
     have hu:qIW (be,fw) (cu c ps 0 p)=(p,(L.length:Int)):=by
      have:cu c ps 0 p=((L.length:Int),p):=by rw[<-hL];rfl
      rw[this];exact if_pos (show (L.length:Int) < fw by omega)
     rw[hu,zRI,a1]
   | succ d =>
   have hpt:p.length < ps.length:=by omega
   have hpx:=v.ps.getD hpt;have hx:ps[p.length]=ps.getD p.length 0:=(gDE hpt).symm;have w1:∀ k:Nat,k < 100->IntKind.i64.wrap ((k:Int)+1)=((k+1:Nat):Int):=fun k hk=>qAH (by omega)
   refine qD1 (by simp;omega) (yF p.length rfl hpt (yH hpt ?_));rw[hx,w1 L.length (by omega)];refine qI1 (L.length+1) (fun k (s:List Int×List Int×(List Int×Int))=>((k:Int),s.1,s.2.1,(L.length:Int),s.2.2.2,(p.length:Int),ps,s.2.2.1,c)) (fun k s=>s.1.take p.length=p∧p.length<=s.1.length∧s.1.length<=ps.length∧s.2.1.take L.length=L∧L.length<=s.2.1.length∧s.2.1.length<=ps.length∧s.2.2=qAD (fun k=>if erK c ps (p++[(k:Int)]) (p.length+1)=0 then cu c ps d (p++[(k:Int)]) else ((ps.length:Int)+1,[])) (be,fw) k) (cl,ll,(be,fw)) rfl ⟨a1,a2,a3,b1,b2,b3,rfl⟩ ?_ ?_
   ·rintro k ⟨c0,l0,be0,f0⟩ hk ⟨e1,e2,e3,e4,e5,e6,e7⟩;have e1:c0.take p.length=p:=e1;have e2:p.length<=c0.length:=e2;have e3:c0.length<=ps.length:=e3;have e4:l0.take L.length=L:=e4;have e5:L.length<=l0.length:=e5;have e6:l0.length<=ps.length:=e6
    have hf0:f0<=ps.length+1:=by
     have:=qQ8 (f:=fun k=>if erK c ps (p++[(k:Int)]) (p.length+1)=0 then cu c ps d (p++[(k:Int)]) else ((ps.length:Int)+1,[])) (st:=(be,fw)) k;rw[<-e7] at this;exact zUI this hfw
    refine eY (qT5 (show (k:Int) < ((L.length+1:Nat):Int) by omega)) ?_;simp only[mtn e2,mtn e5]
    have hkk:((k:Int)==(L.length:Int))=decide (k=L.length):=by
     by_cases h:k=L.length
     ·rw[decide_eq_true h,h];simp
     ·rw[decide_eq_false h];simp;omega
    rw[hkk]
    -- the state behind the round
    refine rU (fun t:List Int×List Int×Int×Int×Int×List Int×List Int×Int=>∃ c1 l1,t=(c1,l1,(L.length:Int),(qAD (fun k=>if erK c ps (p++[(k:Int)]) (p.length+1)=0 then cu c ps d (p++[(k:Int)]) else ((ps.length:Int)+1,[])) (be,fw) (k+1)).2,(p.length:Int),ps,(qAD (fun k=>if erK c ps (p++[(k:Int)]) (p.length+1)=0 then cu c ps d (p++[(k:Int)]) else ((ps.length:Int)+1,[])) (be,fw) (k+1)).1,c)∧c1.take p.length=p∧p.length<=c1.length∧c1.length<=ps.length∧l1.take L.length=L∧L.length<=l1.length∧l1.length<=ps.length) ?_ ?_
    ·-- a new coil
     generalize hA:(if k=L.length then L++[c] else L)=A;have hAl:A.length=if k=L.length then L.length+1 else L.length:=by rw[<-hA];split <;> simp
     have hkA:k < A.length:=by rw[hAl];split <;> omega
     have hLA:L.length<=A.length:=by rw[hAl];split <;> omega
     have hAt:A.take L.length=L:=by
      rw[<-hA];split
      ·exact List.take_left' rfl
      ·exact zSR
     have hAx:0<=A.getD k 0∧A.getD k 0<=c:=by
      rw[<-hA];by_cases h:k=L.length
      ·rw[if_pos h,h,jN];omega
      ·rw[if_neg h];have:=hbw.getD (show k < L.length by omega);omega
     refine rU (fun t:List Int×Int=>t.2=(A.length:Int)∧t.1.take A.length=A∧A.length<=t.1.length∧t.1.length<=ps.length) ?_ ?_
     ·refine kI (fun g=>?_) fun g=>qM ⟨_,rfl,?_⟩
      ·have g:=of_decide_eq_true g;obtain⟨l1,g1,g2,g3,g4⟩:=qQ5 (σ:=Unit) c rfl e4 e5 (show L.length < ps.length by omega) e6 (by omega);rw[if_pos g] at hA hAl;refine⟨_,g1,_,rfl,?_⟩;rw[hAl];exact⟨rfl,by rw[<-hA];exact g2,g3,g4⟩
      ·have g:=of_decide_eq_false g;rw[if_neg g] at hA hAl;subst hA;exact⟨rfl,e4,e5,e6⟩
     ·rintro⟨l1,m1⟩ ⟨g1,g2,g3,g4⟩;obtain rfl:m1=(A.length:Int):=g1;have g2:l1.take A.length=A:=g2;have g3:A.length<=l1.length:=g3;have g4:l1.length<=ps.length:=g4;have hkl:k < l1.length:=by omega
      have hx1:l1[k]=A.getD k 0:=qP6 g2 hkA hkl;simp only[mtn g3,zQI]
      -- with the piece
      refine rU (fun t:List Int×List Int×Int×Int×Int×List Int×List Int×Int=>∃ c2 l2,t=(c2,l2,(A.length:Int),(qAD (fun k=>if erK c ps (p++[(k:Int)]) (p.length+1)=0 then cu c ps d (p++[(k:Int)]) else ((ps.length:Int)+1,[])) (be,fw) (k+1)).2,(p.length:Int),ps,(qAD (fun k=>if erK c ps (p++[(k:Int)]) (p.length+1)=0 then cu c ps d (p++[(k:Int)]) else ((ps.length:Int)+1,[])) (be,fw) (k+1)).1,c)∧c2.take p.length=p∧p.length<=c2.length∧c2.length<=ps.length∧l2.take A.length=A∧A.length<=l2.length∧l2.length<=ps.length) ?_ ?_
      ·have zI0:(p++[(k:Int)]).length=p.length+1:=by simp
       have hlq:lfK c ps (p++[(k:Int)]) (p.length+1)=A.set k (A.getD k 0 - ps.getD p.length 0):=by
        rw[qBD,hL,zQ4,zD3 (by omega),hA]
       have heq:erK c ps (p++[(k:Int)]) (p.length+1)=0 ↔ ps.getD p.length 0<=A.getD k 0:=by
        rw[wG,qVM,qLD,jN,hlq,zQ4,hL,gDE (by rw[zQP];exact hkA),zRX];constructor
        ·rintro⟨_,_,_,h⟩;omega
        ·intro h;exact⟨hp,by omega,by omega,by omega⟩
       refine yF k rfl hkA (yH hkl ?_);rw[hx1]
       have hup:qAD (fun k=>if erK c ps (p++[(k:Int)]) (p.length+1)=0 then cu c ps d (p++[(k:Int)]) else ((ps.length:Int)+1,[])) (be,fw) (k+1)=qIW (be0,f0) (if erK c ps (p++[(k:Int)]) (p.length+1)=0 then cu c ps d (p++[(k:Int)]) else ((ps.length:Int)+1,[])):=by
        show qIW (qAD _ _ k) _=_;rw[<-e7]
       refine kI (fun g=>?_) fun g=>qM ⟨_,rfl,c0,l1,?_,e1,e2,e3,g2,g3,g4⟩
       ·have g:=heq.2 (of_decide_eq_true g);have gx:=heq.1 g;rw[if_pos g] at hup;refine yF k rfl hkA (yH hkl (yF k rfl hkA (yH hkl ?_)));obtain⟨c1,f1,f2,f3,f4⟩:=qQ5 (σ:=Unit) (k:Int) rfl e1 e2 hpt e3 (by omega);refine qWU f1 ?_;rw[hx1,aP (n:=A.getD k 0 - ps.getD p.length 0) (by omega) (by omega)];have hls:(l1.set k (A.getD k 0 - ps.getD p.length 0)).length=l1.length:=zQP ..;have hlA:(A.set k (A.getD k 0 - ps.getD p.length 0)).length=A.length:=zQP ..;obtain⟨c2,l2,r1,r2,r3,r4,r5,r6,r7⟩:=s70 v d fuel (p++[(k:Int)]) c1 (l1.set k (A.getD k 0 - ps.getD p.length 0)) be0 f0 (by omega) (by rw[zI0];omega) (by rw[zI0];exact g) hf0 (by rw[zI0];exact f2) (by rw[zI0];exact f3) f4 (by rw[zI0,hlq,hlA];exact qQF g2 _) (by rw[zI0,hlq,hlA,hls];exact g3) (by rw[hls];exact g4);rw[zI0,hlq,hlA] at r1 r5;rw[zI0] at r2 r3;rw[zI0,hlq,hlA] at r6;have mt1:=mtn g3;simp only[hls,mt1,mtn f3];refine zR r1 ?_;simp only[mtn r3,mtn r6];have hw:IntKind.i64.wrap (((p.length+1:Nat):Int) - 1)=(p.length:Int):=by rw[aP (by omega) (by omega)];omega
        rw[hw];have zME:k < l2.length:=by omega
        have hx2:l2[k]=A.getD k 0 - ps.getD p.length 0:=by
         rw[qP6 r5 hkA zME,gDE (by rw[hlA];exact hkA),zRX]
        refine zR (qIC (show p.length<=p.length+1 by omega)) (yF k rfl hkA ?_);refine yH zME (yF k rfl hkA ?_);refine yH zME (qM ⟨_,rfl,c2,l2.set k (A.getD k 0),?_,?_,?_,r4,?_,?_,?_⟩)
        ·rw[hup,hx2,aP (n:=A.getD k 0 - ps.getD p.length 0+ps.getD p.length 0) (by omega) (by omega),show A.getD k 0 - ps.getD p.length 0+ps.getD p.length 0=A.getD k 0 by omega]
        ·rw[qCT r2 (by omega),List.take_left' rfl]
        ·omega
        ·rw[qQF r5,List.set_set,gDE hkA,zT7]
        ·rw[zQP];exact r6
        ·rw[zQP];exact r7
       ·have g:¬ erK c ps (p++[(k:Int)]) (p.length+1)=0:=fun h=>absurd (heq.1 h) (of_decide_eq_false g)
        rw[hup,if_neg g,qOG (st:=(be0,f0)) hf0]
      ·rintro t ⟨c2,l2,rfl,s1,s2,s3,s4,s5,s6⟩;simp only[mtn s2,mtn s5];refine kI (fun g=>?_) fun g=>qM ⟨_,rfl,c2,l2,?_,s1,s2,s3,?_,by omega,s6⟩
       ·have g:=of_decide_eq_true g;subst g;refine zR (qIC (by omega)) (qM ⟨_,rfl,c2,l2,rfl,s1,s2,s3,?_,by omega,s6⟩);rw[qCT s4 hLA,hAt]
       ·have g:=of_decide_eq_false g;rw[if_neg g] at hAl;rw[hAl]
       ·rw[qCT s4 hLA,hAt]
    ·rintro t ⟨c1,l1,rfl,s1,s2,s3,s4,s5,s6⟩;simp only[mtn s2,mtn s5,w1 k (by omega)];exact qM ⟨(c1,l1,_),rfl,s1,s2,s3,s4,s5,s6,rfl⟩
   ·rintro⟨c0,l0,be0,f0⟩ ⟨e1,e2,e3,e4,e5,e6,e7⟩;have e2:p.length<=c0.length:=e2;have e5:L.length<=l0.length:=e5;refine qD1 (qWQ (show ¬ ((L.length+1:Nat):Int) < ((L.length+1:Nat):Int) by omega)) ?_;simp only[mtn e2,mtn e5];refine qM ⟨_,rfl,?_⟩;show OkT (zGM.ret (c0,l0,((Nat.min (Int.toNat (L.length:Int)) l0.length:Nat):Int),f0,((Nat.min (Int.toNat (p.length:Int)) c0.length:Nat):Int),ps,be0,c)) _;rw[mtn e2,mtn e5]
    have hu:(be0,f0)=qIW (be,fw) (cu c ps (d+1) p):=by
     have e7:(be0,f0)=qAD (fun k=>if erK c ps (p++[(k:Int)]) (p.length+1)=0 then cu c ps d (p++[(k:Int)]) else ((ps.length:Int)+1,[])) (be,fw) (L.length+1):=e7;rw[e7,qPU (N:=(ps.length:Int)+1) hfw,<-hL];rfl
    refine qM ⟨c0,l0,?_,e1,e2,e3,e4,e5,e6⟩;rw[<-hu]
end Go.Proofs.YtdohendjiddokaaGreatDoor
