/- Plain laws of chapter 9: the program's search for the best sequence; the law of shops. Conditions: none. -/
import Derived.Test.YtpnecffgnjijjaaGreatDoorSU6
import Derived.Test.YtpnecffgnjijjaaGreatDoorAW9
set_option linter.all false
set_option maxRecDepth 10000
set_option maxHeartbeats 100000000
namespace Go.Proofs.YtpnecffgnjijjaaGreatDoor
open Go Go.Idl Go.Sv Go.Proofs
theorem q56 {a b:Nat}(h:a<=b):Nat.min a b=a:=zOP h
theorem mtn {a b:Nat}(h:a<=b):Nat.min (Int.toNat (a:Int)) b=a:=by rw[zPO];exact q56 h
theorem q0G {σ:Type}{n:Nat}{l A:List Int}{N:Nat}(x:Int)(hn:A.length=n)(h1:l.take n=A)(h2:n<=l.length)(h3:n < N)(h4:l.length<=N)(hN:N<=1000):∃ l1:List Int,(zE9.ite ((n+[x].length).ble l.length) (zE9.ret (Sum.inr (qCX l [x] n [x].length,((n+[x].length:Nat):Int)))) (zE9.ite (n.beq l.length) (zE9.ite ((l.length+[x].length).ble 1048576) (zE9.ret (Sum.inr (l++[x],((l.length+[x].length:Nat):Int)))) zE9.fail) zE9.fail):zE9 (σ⊕List Int×Int))=some (Sum.inr (l1,((n+1:Nat):Int)))∧l1.take (n+1)=A++[x]∧n+1<=l1.length∧l1.length<=N:=by
 by_cases q:n+1<=l.length
 ·refine⟨qCX l [x] n 1,?_,?_,?_,?_⟩
  ·rw[show (n+[x].length).ble l.length=true from zNL q];rfl
  ·unfold qCX;rw[h1];show (A++([x]++_)).take _=_;rw[<-zNN,List.take_left' (by simp;omega)]
  ·unfold qCX;simp;omega
  ·unfold qCX;simp;omega
 ·have q2:n=l.length:=by omega
  have q3:l=A:=by rw[<-h1,q2,zPE]
  refine⟨l++[x],?_,?_,?_,?_⟩
  ·rw[show (n+[x].length).ble l.length=false from by
    cases hh:(n+[x].length).ble l.length with
    | false=>rfl
    | true=>exact absurd (zM9 hh) q,show n.beq l.length=true by rw[q2];exact zQ5 _,show (l.length+[x].length).ble 1048576=true from zNL (by simp;omega),q2];rfl
  ·rw[q3,zNR (by simp;omega)]
  ·simp;omega
  ·simp;omega
theorem qS8 {l A:List Int}{m n:Nat}(h:l.take n=A)(hm:m<=n):l.take m=A.take m:=by
 rw[<-h,zQD,zOP hm]
section
variable {ti fi:List Int}{se:List (List Int)}
theorem q8C {b:List Int}{n i:Nat}(hb:InR b n)(hi:i < n):InR (b++[(i:Int)]) n:=fun j hj=>by
 rw[zNK] at hj;have hj:j < b.length+1:=hj;by_cases q:j=b.length
 ·subst q;rw[qBT];omega
 ·rw[qD0 (by omega)];exact hb j (by omega)
theorem zEC (v:Vs ti fi se)(hn:ti.length<=8):∀ (d fuel:Nat) (p l:List Int) (st:List Int×Int),d < fuel->p.length+d=ti.length->InR p ti.length->l.take p.length=p->p.length<=l.length->l.length<=ti.length ->
 ∃ l':List Int,qP4 S61 fuel (l,(p.length:Int),(ti.length:Int),ti,fi,se,st.1,st.2)=some (l',(p.length:Int),(ti.length:Int),ti,fi,se,((od ti.length d p).foldl (uP ti fi se) st).1,((od ti.length d p).foldl (uP ti fi se) st).2)∧l'.take p.length=p∧p.length<=l'.length∧l'.length<=ti.length
 | d,0,p,l,st,hf,_,_,_,_,_=>by omega
 | d,fuel+1,p,l,st,hf,hl,hr,h1,h2,h3=>by
   have hn1:=v.n1
   suffices hs:OkT (G61 (qP4 S61 fuel) l (p.length:Int) (ti.length:Int) ti fi se st.1 st.2) fun r=>∃ l':List Int,r=(l',(p.length:Int),(ti.length:Int),ti,fi,se,((od ti.length d p).foldl (uP ti fi se) st).1,((od ti.length d p).foldl (uP ti fi se) st).2)∧l'.take p.length=p∧p.length<=l'.length∧l'.length<=ti.length by
    obtain⟨r,q1,l',rfl,q2⟩:=hs;exact⟨l',q1,q2⟩
   unfold G61;rw[mtn h2]
   cases d with
   | zero =>
     have hpn:p.length=ti.length:=hl
     have hbq:l.length.beq 0=false:=by
      cases l with
      | nil=>have h2:p.length<=0:=h2;omega
      | cons x l=>rfl
     have hpq:p.length.beq 0=false:=by
      cases p with
      | nil=>simp at hpn;omega
      | cons x p=>rfl
     have hpe:p.isEmpty=false:=by
      cases p with
      | nil=>simp at hpn;omega
      | cons x p=>rfl
     refine xV (by simp[hpn]) ?_;simp only[zOH,h1,hbq,hpq,zQC,zNY,hpe];refine zO (h77 v hr (by omega)) ?_;have hb:Nat.ble p.length 1048576=true:=zNL (by omega)
     have hfin:∀ w,w=uP ti fi se st p->∃ l':List Int,(l,(p.length:Int),(ti.length:Int),ti,fi,se,w.1,w.2)=(l',(p.length:Int),(ti.length:Int),ti,fi,se,((od ti.length 0 p).foldl (uP ti fi se) st).1,((od ti.length 0 p).foldl (uP ti fi se) st).2)∧l'.take p.length=p∧p.length<=l'.length∧l'.length<=ti.length:=fun w hw=>⟨l,by rw[hw];rfl,h1,h2,h3⟩
     refine yV (fun c=>yV (fun c2=>?_) fun c2=>qC ?_) fun c=>?_
     ·refine kD rfl (kD rfl (xV hb (kD rfl (qC (hfin (p,tm ti fi se p) ?_)))));exact (if_pos (.inr (of_decide_eq_true c2))).symm
     ·refine hfin st (if_neg ?_).symm;rw[qCZ,zNJ] at c;rintro (q | q)
      ·rw[q] at c;cases c
      ·exact of_decide_eq_false c2 q
     ·refine kD rfl (kD rfl (xV hb (kD rfl (qC (hfin (p,tm ti fi se p) ?_)))));rw[qCZ,zPI] at c;exact (if_pos (.inl (zP5.1 c))).symm
   | succ d =>
   have hpt:p.length < ti.length:=by omega
   refine kD (by simp;omega) ?_;refine aM ti.length (fun k (s:List Int×(List Int×Int))=>((k:Int),s.1,(p.length:Int),(ti.length:Int),ti,fi,se,s.2.1,s.2.2)) (fun k s=>s.1.take p.length=p∧p.length<=s.1.length∧s.1.length<=ti.length∧s.2=(odF (fun i=>od ti.length d (p++[(i:Int)])) p k).foldl (uP ti fi se) st) (l,st) rfl ⟨h1,h2,h3,rfl⟩ ?_ ?_
   ·rintro k ⟨l0,s0⟩ hk ⟨g1,g2,g3,g4⟩;have g1:l0.take p.length=p:=g1;have g2:p.length<=l0.length:=g2;have g3:l0.length<=ti.length:=g3;have g4:s0=_:=g4;refine xV (qAG (show (k:Int) < (ti.length:Int) by omega)) ?_;simp only[mtn g2,zOH,g1];refine jU (fun t:List Int×Int×Int×List Int×List Int×List (List Int)×List Int×Int=>∃ l1 s1,t=(l1,(p.length:Int),(ti.length:Int),ti,fi,se,s1)∧l1.take p.length=p∧p.length<=l1.length∧l1.length<=ti.length∧s1=(odF (fun i=>od ti.length d (p++[(i:Int)])) p (k+1)).foldl (uP ti fi se) st) ?_ ?_
    ·refine zO (h116 (by omega)) ?_
     have e:(odF (fun i=>od ti.length d (p++[(i:Int)])) p (k+1)).foldl (uP ti fi se) st=(if (k:Int)∈p then [] else od ti.length d (p++[(k:Int)])).foldl (uP ti fi se) s0:=by
      show (odF _ p k++_).foldl _ _=_;rw[List.foldl_append,<-g4]
     by_cases hm:(k:Int)∈p
     ·rw[if_pos hm] at e;exact kD (by simp[hm]) (qC ⟨_,rfl,l0,s0,rfl,g1,g2,g3,e.symm⟩)
     ·rw[if_neg hm] at e;refine xV (by simp[hm]) ?_;obtain⟨l1,f1,f2,f3,f4⟩:=q0G (σ:=Unit) (k:Int) rfl g1 g2 hpt g3 (by omega);refine qW7 f1 ?_;have hpl:(p++[(k:Int)]).length=p.length+1:=by simp
      obtain⟨l2,r1,r2,r3,r4⟩:=zEC v hn d fuel (p++[(k:Int)]) l1 s0 (by omega) (by rw[hpl];omega) (q8C hr hk) (by rw[hpl];exact f2) (by rw[hpl];exact f3) f4;rw[hpl] at r1 r2 r3;simp only[mtn f3];refine zO r1 ?_;simp only[mtn r3];have hw:IntKind.i64.wrap (((p.length+1:Nat):Int) - 1)=(p.length:Int):=by rw[qR6 (by omega) (by omega)];omega
      rw[hw];refine zO (q45 (show p.length<=p.length+1 by omega)) (qC ⟨_,rfl,l2,(od ti.length d (p++[(k:Int)])).foldl (uP ti fi se) s0,rfl,?_,by omega,r4,e.symm⟩);rw[qS8 r2 (by omega),List.take_left' rfl]
    ·rintro t ⟨l1,s1,rfl,q1,q2,q3,q4⟩;simp only[mtn q2,jC (show k < 2 ^ 62 by omega)];exact qC ⟨(l1,s1),rfl,q1,q2,q3,q4⟩
   ·rintro⟨l0,s0⟩ ⟨g1,g2,g3,g4⟩;have g2:p.length<=l0.length:=g2;have g4:s0=(od ti.length (d+1) p).foldl (uP ti fi se) st:=g4;refine kD (qCY (show ¬ (ti.length:Int) < (ti.length:Int) by omega)) ?_;simp only[mtn g2];refine qC ⟨_,rfl,?_⟩;show OkT (zE9.ret (l0,((Nat.min (Int.toNat (p.length:Int)) l0.length:Nat):Int),(ti.length:Int),ti,fi,se,s0.1,s0.2)) _;rw[mtn g2,g4];exact qC ⟨l0,rfl,g1,g2,g3⟩
theorem h32 (hs:Sb ti fi se)(hb:qDD ti fi se=0)(hn:ti.length<=8):H7 (ti,fi,se)=some ((bq ti fi se ti.length).1,0):=by
 have v:=qSJ hb;refine OkT.eq ?_;show OkT (G7 (qP4 S61 20) (ti,fi,se)) _;unfold G7;dsimp only;refine zO (h24 hs) (zO (h59 _ _) (zO (h58 _ (by simp)) ?_));rw[hb,qYB,show decide (8 < (ti.length:Int))=false from decide_eq_false (by omega)];refine kD rfl ?_;obtain⟨l',q1,_⟩:=zEC v hn ti.length 20 [] [] ([],0) (by omega) (by simp) (qG0 _) rfl (zM0 _) (by simp);generalize qP4 S61 20=R at q1 ⊢;exact zO q1 (qC rfl)
end
end Go.Proofs.YtpnecffgnjijjaaGreatDoor
