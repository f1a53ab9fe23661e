/- Plain laws of chapter 9: the program's search for the best sequence; the law of shops. Conditions: none. -/
import Derived.Test.YtkmfigmiehpcpaaGreatDoorSU6
import Derived.Test.YtkmfigmiehpcpaaGreatDoorAW9
set_option linter.all false
set_option maxRecDepth 10000
set_option maxHeartbeats 100000000
namespace Go.Proofs.YtkmfigmiehpcpaaGreatDoor
open Go Go.Idl Go.Sv Go.Proofs
theorem q4P {a b:Nat}(h:a<=b):Nat.min a b=a:=zPK h
theorem mtn {a b:Nat}(h:a<=b):Nat.min (Int.toNat (a:Int)) b=a:=by rw[zPU];exact q4P h
theorem qYZ {σ:Type}{n:Nat}{l A:List Int}{N:Nat}(x:Int)(hn:A.length=n)(h1:l.take n=A)(h2:n<=l.length)(h3:n < N)(h4:l.length<=N)(hN:N<=1000):∃ l1:List Int,(zED.ite ((n+[x].length).ble l.length) (zED.ret (Sum.inr (sJ l [x] n [x].length,((n+[x].length:Nat):Int)))) (zED.ite (n.beq l.length) (zED.ite ((l.length+[x].length).ble 1048576) (zED.ret (Sum.inr (l++[x],((l.length+[x].length:Nat):Int)))) zED.fail) zED.fail):zED (σ⊕List Int×Int))=some (Sum.inr (l1,((n+1:Nat):Int)))∧l1.take (n+1)=A++[x]∧n+1<=l1.length∧l1.length<=N:=by
 by_cases q:n+1<=l.length
 ·refine⟨sJ l [x] n 1,?_,?_,?_,?_⟩
  ·rw[show (n+[x].length).ble l.length=true from zOA q];rfl
  ·unfold sJ;rw[h1];show (A++([x]++_)).take _=_;rw[<-zOT,List.take_left' (by simp;omega)]
  ·unfold sJ;simp;omega
  ·unfold sJ;simp;omega
 ·have q2:n=l.length:=by omega
  have q3:l=A:=by rw[<-h1,q2,zQL]
  refine⟨l++[x],?_,?_,?_,?_⟩
  ·rw[show (n+[x].length).ble l.length=false from by
    cases hh:(n+[x].length).ble l.length with
    | false=>rfl
    | true=>exact absurd (zN3 hh) q,show n.beq l.length=true by rw[q2];exact zRY _,show (l.length+[x].length).ble 1048576=true from zOA (by simp;omega),q2];rfl
  ·rw[q3,zOL (by simp;omega)]
  ·simp;omega
  ·simp;omega
theorem qXY {l A:List Int}{m n:Nat}(h:l.take n=A)(hm:m<=n):l.take m=A.take m:=by
 rw[<-h,zQ4,zPK hm]
section
variable {ti fi:List Int}{se:List (List Int)}
theorem q66 {b:List Int}{n i:Nat}(hb:InR b n)(hi:i < n):InR (b++[(i:Int)]) n:=fun j hj=>by
 rw[zOG] at hj;have hj:j < b.length+1:=hj;by_cases q:j=b.length
 ·subst q;rw[qWK];omega
 ·rw[q21 (by omega)];exact hb j (by omega)
theorem zDE (v:Vs ti fi se)(hn:ti.length<=8):∀ (d fuel:Nat) (p l:List Int) (st:List Int×Int),d < fuel->p.length+d=ti.length->InR p ti.length->l.take p.length=p->p.length<=l.length->l.length<=ti.length ->
 ∃ l':List Int,qCV zGD fuel (l,(p.length:Int),(ti.length:Int),ti,fi,se,st.1,st.2)=some (l',(p.length:Int),(ti.length:Int),ti,fi,se,((od ti.length d p).foldl (uP ti fi se) st).1,((od ti.length d p).foldl (uP ti fi se) st).2)∧l'.take p.length=p∧p.length<=l'.length∧l'.length<=ti.length
 | d,0,p,l,st,hf,_,_,_,_,_=>by omega
 | d,fuel+1,p,l,st,hf,hl,hr,h1,h2,h3=>by
   have hn1:=v.n1
   suffices hs:OkT (zJ0 (qCV zGD fuel) l (p.length:Int) (ti.length:Int) ti fi se st.1 st.2) fun r=>∃ l':List Int,r=(l',(p.length:Int),(ti.length:Int),ti,fi,se,((od ti.length d p).foldl (uP ti fi se) st).1,((od ti.length d p).foldl (uP ti fi se) st).2)∧l'.take p.length=p∧p.length<=l'.length∧l'.length<=ti.length by
    obtain⟨r,q1,l',rfl,q2⟩:=hs;exact⟨l',q1,q2⟩
   unfold zJ0;rw[mtn h2]
   cases d with
   | zero =>
     have hpn:p.length=ti.length:=hl
     have hbq:l.length.beq 0=false:=by
      cases l with
      | nil=>have h2:p.length<=0:=h2;omega
      | cons x l=>rfl
     have hpq:p.length.beq 0=false:=by
      cases p with
      | nil=>simp at hpn;omega
      | cons x p=>rfl
     have hpe:p.isEmpty=false:=by
      cases p with
      | nil=>simp at hpn;omega
      | cons x p=>rfl
     refine zS (by simp[hpn]) ?_;simp only[zPA,h1,hbq,hpq,zR3,zOR,hpe];refine qN (h77 v hr (by omega)) ?_;have hb:Nat.ble p.length 1048576=true:=zOA (by omega)
     have hfin:∀ w,w=uP ti fi se st p->∃ l':List Int,(l,(p.length:Int),(ti.length:Int),ti,fi,se,w.1,w.2)=(l',(p.length:Int),(ti.length:Int),ti,fi,se,((od ti.length 0 p).foldl (uP ti fi se) st).1,((od ti.length 0 p).foldl (uP ti fi se) st).2)∧l'.take p.length=p∧p.length<=l'.length∧l'.length<=ti.length:=fun w hw=>⟨l,by rw[hw];rfl,h1,h2,h3⟩
     refine zU (fun c=>zU (fun c2=>?_) fun c2=>qA ?_) fun c=>?_
     ·refine yH rfl (yH rfl (zS hb (yH rfl (qA (hfin (p,tm ti fi se p) ?_)))));exact (if_pos (.inr (of_decide_eq_true c2))).symm
     ·refine hfin st (if_neg ?_).symm;rw[qF4,zOE] at c;rintro (q | q)
      ·rw[q] at c;cases c
      ·exact of_decide_eq_false c2 q
     ·refine yH rfl (yH rfl (zS hb (yH rfl (qA (hfin (p,tm ti fi se p) ?_)))));rw[qF4,zPY] at c;exact (if_pos (.inl (zRU.1 c))).symm
   | succ d =>
   have hpt:p.length < ti.length:=by omega
   refine yH (by simp;omega) ?_;refine vC ti.length (fun k (s:List Int×(List Int×Int))=>((k:Int),s.1,(p.length:Int),(ti.length:Int),ti,fi,se,s.2.1,s.2.2)) (fun k s=>s.1.take p.length=p∧p.length<=s.1.length∧s.1.length<=ti.length∧s.2=(odF (fun i=>od ti.length d (p++[(i:Int)])) p k).foldl (uP ti fi se) st) (l,st) rfl ⟨h1,h2,h3,rfl⟩ ?_ ?_
   ·rintro k ⟨l0,s0⟩ hk ⟨g1,g2,g3,g4⟩;have g1:l0.take p.length=p:=g1;have g2:p.length<=l0.length:=g2;have g3:l0.length<=ti.length:=g3;have g4:s0=_:=g4;refine zS (dW (show (k:Int) < (ti.length:Int) by omega)) ?_;simp only[mtn g2,zPA,g1];refine yG (fun t:List Int×Int×Int×List Int×List Int×List (List Int)×List Int×Int=>∃ l1 s1,t=(l1,(p.length:Int),(ti.length:Int),ti,fi,se,s1)∧l1.take p.length=p∧p.length<=l1.length∧l1.length<=ti.length∧s1=(odF (fun i=>od ti.length d (p++[(i:Int)])) p (k+1)).foldl (uP ti fi se) st) ?_ ?_
    ·refine qN (h116 (by omega)) ?_
     have e:(odF (fun i=>od ti.length d (p++[(i:Int)])) p (k+1)).foldl (uP ti fi se) st=(if (k:Int)∈p then [] else od ti.length d (p++[(k:Int)])).foldl (uP ti fi se) s0:=by
      show (odF _ p k++_).foldl _ _=_;rw[zSA,<-g4]
     by_cases hm:(k:Int)∈p
     ·rw[if_pos hm] at e;exact yH (by simp[hm]) (qA ⟨_,rfl,l0,s0,rfl,g1,g2,g3,e.symm⟩)
     ·rw[if_neg hm] at e;refine zS (by simp[hm]) ?_;obtain⟨l1,f1,f2,f3,f4⟩:=qYZ (σ:=Unit) (k:Int) rfl g1 g2 hpt g3 (by omega);refine qUV f1 ?_;have hpl:(p++[(k:Int)]).length=p.length+1:=by simp
      obtain⟨l2,r1,r2,r3,r4⟩:=zDE v hn d fuel (p++[(k:Int)]) l1 s0 (by omega) (by rw[hpl];omega) (q66 hr hk) (by rw[hpl];exact f2) (by rw[hpl];exact f3) f4;rw[hpl] at r1 r2 r3;simp only[mtn f3];refine qN r1 ?_;simp only[mtn r3];have hw:IntKind.i64.wrap (((p.length+1:Nat):Int) - 1)=(p.length:Int):=by rw[qNG (by omega) (by omega)];omega
      rw[hw];refine qN (q5W (show p.length<=p.length+1 by omega)) (qA ⟨_,rfl,l2,(od ti.length d (p++[(k:Int)])).foldl (uP ti fi se) s0,rfl,?_,by omega,r4,e.symm⟩);rw[qXY r2 (by omega),List.take_left' rfl]
    ·rintro t ⟨l1,s1,rfl,q1,q2,q3,q4⟩;simp only[mtn q2,xO (show k < 2 ^ 62 by omega)];exact qA ⟨(l1,s1),rfl,q1,q2,q3,q4⟩
   ·rintro⟨l0,s0⟩ ⟨g1,g2,g3,g4⟩;have g2:p.length<=l0.length:=g2;have g4:s0=(od ti.length (d+1) p).foldl (uP ti fi se) st:=g4;refine yH (mX (show ¬ (ti.length:Int) < (ti.length:Int) by omega)) ?_;simp only[mtn g2];refine qA ⟨_,rfl,?_⟩;show OkT (zED.ret (l0,((Nat.min (Int.toNat (p.length:Int)) l0.length:Nat):Int),(ti.length:Int),ti,fi,se,s0.1,s0.2)) _;rw[mtn g2,g4];exact qA ⟨l0,rfl,g1,g2,g3⟩
theorem zDU (hs:Sb ti fi se)(hb:aG ti fi se≠0):H32 (ti,fi,se)=some ([],aG ti fi se):=by
 refine OkT.eq ?_;show OkT (G32 (qCV zGD 20) (ti,fi,se)) _;unfold G32;dsimp only;refine qN (h24 hs) (qN (h59 _ _) (qN (h58 _ (by simp)) ?_));rw[qUZ hb];exact zS (bne_iff_ne.2 hb) (qA rfl)
theorem zEB (hs:Sb ti fi se)(hb:aG ti fi se=0)(hn:8 < ti.length):H32 (ti,fi,se)=some ([],22):=by
 refine OkT.eq ?_;show OkT (G32 (qCV zGD 20) (ti,fi,se)) _;unfold G32;dsimp only;refine qN (h24 hs) (qN (h59 _ _) (qN (h58 _ (by simp)) ?_));rw[hb,qSC,show decide (8 < (ti.length:Int))=true from decide_eq_true (by omega)];exact zS rfl (qA rfl)
theorem h32 (hs:Sb ti fi se)(hb:aG ti fi se=0)(hn:ti.length<=8):H32 (ti,fi,se)=some ((bq ti fi se ti.length).1,0):=by
 have v:=qVU hb;refine OkT.eq ?_;show OkT (G32 (qCV zGD 20) (ti,fi,se)) _;unfold G32;dsimp only;refine qN (h24 hs) (qN (h59 _ _) (qN (h58 _ (by simp)) ?_));rw[hb,qSC,show decide (8 < (ti.length:Int))=false from decide_eq_false (by omega)];refine yH rfl ?_;obtain⟨l',q1,_⟩:=zDE v hn ti.length 20 [] [] ([],0) (by omega) (by simp) (qM4 _) rfl (zNV _) (by simp);generalize qCV zGD 20=R at q1 ⊢;exact qN q1 (qA rfl)
theorem h33 (c:Bool)(k:Int):H33 (c,k)=some (cond c k 0):=by cases c <;> rfl
end
theorem zD2 (ti fi:List Int)(se:List (List Int))(o:List Int):H4 ((ti,fi,se),o)=some true:=by
 refine OkT.eq ?_;have aw:=awake;unfold H4 G4
 revert aw
 generalize H9 ()=o9;intro aw;unfold zED.run;dsimp only;have hh:=h22 (m:=12) (ti:=ti) (fi:=fi) (se:=se) (by omega);refine yG (fun t=>t=!(shB 12 ti fi se&&decide (o.length<=15))) ?_ ?_
 ·refine qN aw (zS rfl (qN hh ?_))
  cases shB 12 ti fi se with
  | false=>exact yH rfl (qA ⟨_,rfl,rfl⟩)
  | true =>
    refine zS rfl (qA ⟨_,rfl,?_⟩);show decide (15 < (o.length:Int))=!(true&&decide (o.length<=15));by_cases h:o.length<=15
    ·rw[decide_eq_true h,decide_eq_false (by omega)];rfl
    ·rw[decide_eq_false h,decide_eq_true (by omega)];rfl
 rintro t rfl
 cases hsh:shB 12 ti fi se&&decide (o.length<=15) with
 | false=>exact zS rfl (qN aw (qA rfl))
 | true =>
 rw[zNT] at hsh;obtain⟨hs,hn⟩:=zCK (by omega) hsh.1;have hol:=of_decide_eq_true hsh.2;refine yH rfl (qN (h23 hs) (qN (h24 hs) (yH (by simp) ?_)));by_cases hb:aG ti fi se=0
 ·have v:=qVU hb;have hn1:=v.n1
  -- what follows for the sequence
  have hseq:OkT (zED.bind (qW (fun (s11:Unit)=>zED.ite (aG ti fi se==0) (zED.ite (zJ (decide (5 < (↑ti.length:Int))) true) (zED.ret (Sum.inr (decide ((↑ti.length:Int)<=8)))) (zED.ret (Sum.inr false))) (zED.ret (Sum.inr false))) ()) fun (x11:Bool)=>zED.ite x11 (zED.ret true) (zED.bind (H32 (ti,fi,se)) fun (x12:List Int×Int)=>zED.bind (qW (fun (s13:Unit)=>zED.ite (aG ti fi se==0) (zED.bind (H33 (decide (8 < (↑ti.length:Int)),22)) fun (x14:Int)=>zED.ret (Sum.inr x14)) (zED.ret (Sum.inr (aG ti fi se)))) ()) fun (x13:Int)=>zED.ite (x13 != 0) (zED.bind (H17 (x12.fst,x12.snd,x13,[])) fun (x14:Bool)=>zED.ret x14) (zED.bind (H34 (ti,fi,se)) fun (x14:List Int)=>zED.bind (H17 (x12.fst,x12.snd,0,x14)) fun (x15:Bool)=>zED.ret x15)):zED Bool) fun x=>x=true:=by
   rw[hb];refine yG (fun t=>t=(decide (5 < ti.length)&&decide (ti.length<=8))) (zS rfl (zU (fun q=>qA ⟨_,rfl,?_⟩) fun q=>qA ⟨_,rfl,?_⟩)) ?_
   ·rw[qM0] at q;have q:=of_decide_eq_true q;rw[decide_eq_true (show 5 < ti.length by omega),zQR];by_cases h:ti.length<=8
    ·rw[decide_eq_true h];exact decide_eq_true (by omega)
    ·rw[decide_eq_false h];exact decide_eq_false (by omega)
   ·rw[qM0] at q;have q:=of_decide_eq_false q;rw[decide_eq_false (show ¬ 5 < ti.length by omega)];rfl
   ·rintro t rfl
    cases hc:decide (5 < ti.length)&&decide (ti.length<=8) with
    | true=>exact zS rfl (qA rfl)
    | false =>
    refine yH rfl ?_;by_cases h8:ti.length<=8
    ·have h5:ti.length<=5:=by
      simp at hc;omega
     have hlen:(bq ti fi se ti.length).1.length < 2 ^ 62:=by
      have hmem:=qV0 (n:=ti.length) ti.length [] (qM4 _)
      have key:∀ (L:List (List Int)) (st:List Int×Int),(∀ l∈L,l.length<=100)->st.1.length<=100->(L.foldl (uP ti fi se) st).1.length<=100:=by
       intro L
       induction L with
       | nil=>intro st _ h;exact h
       | cons l L ih =>
         intro st hl h;refine ih _ (fun x hx=>hl x (zNZ _ hx)) ?_;unfold uP;split
         ·exact hl l zN1
         ·exact h
      have:=key (od ti.length ti.length []) ([],0) (fun l hl=>by have:=(hmem l hl).1;rw[this];simp;omega) (by simp);unfold bq;omega
     refine qN (h32 hs hb h8) (yG (fun t=>t=0) (zS rfl (qN (h33 _ _) (qA ⟨_,rfl,?_⟩))) ?_)
     ·rw[decide_eq_false (show ¬ 8 < (ti.length:Int) by omega)];rfl
     ·rintro t rfl;exact yH rfl (qN (h34 v h5) (qN (zDR hlen) (qA rfl)))
    ·refine qN (zEB hs hb (by omega)) (yG (fun t=>t=22) (zS rfl (qN (h33 _ _) (qA ⟨_,rfl,?_⟩))) ?_)
     ·rw[decide_eq_true (show 8 < (ti.length:Int) by omega)];rfl
     ·rintro t rfl;exact zS rfl (qN (zBB _ (by decide)) (qA rfl))
  by_cases ho:qIR ti o=0
  ·have hlo:o.length=ti.length:=Decidable.not_not.1 fun h=>by
    unfold qIR at ho;rw[if_pos h] at ho;cases ho
   have hpm:Pm o:=zBY (by unfold qIR at ho;rwa [if_neg (by omega)] at ho);have hin:InR o ti.length:=by rw[<-hlo];exact hpm.inR
   obtain⟨r,hr⟩:=q23 v ((tm ti fi se o).toNat+1) o hpm hlo (zOO _)
   have hrl:r.length < 2 ^ 62:=by
    have key:∀ {a b:List Int},Imp ti fi se a b->b.length=a.length:=by
     intro a b h
     induction h with
     | done _=>rfl
     | step _ _ _ ih=>rw[ih,vG]
    rw[key hr];omega
   refine qN (h25 hs hb hlo hpm) (qN (h26 hs hb) (qN (h27 hs hb hlo hpm hr) ?_));refine yG (fun t=>t=0) (zS (by rw[hb];rfl) (qN (h28 (by omega)) (qA ⟨_,rfl,ho⟩))) ?_;rintro t rfl;refine yG (fun t=>t=false) (yH (by rw[qM0,hb];rfl) (zS (by rw[qM0,hb];rfl) (qN (h29 v) (qN (zCC _) (qA ⟨_,rfl,rfl⟩))))) ?_;rintro t rfl;refine yH rfl (yG (fun t=>t=false) (yH rfl (zS rfl (qN (h30 v hin (by omega)) (qN (zCC _) (zS rfl (qN (zD8 v hr hpm hlo) (qN (zDR hrl) (qA ⟨_,rfl,rfl⟩)))))))) ?_);rintro t rfl;exact yH rfl hseq
  ·have he:(if aG ti fi se≠0 then aG ti fi se else qIR ti o)=qIR ti o:=if_neg (fun q=>q hb);refine qN (zDN hs (by omega) he ho) (qN (h26 hs hb) (qN (zC7 hs (by omega) he ho) ?_));refine yG (fun t=>t=qIR ti o) (zS (by rw[hb];rfl) (qN (h28 (by omega)) (qA ⟨_,rfl,rfl⟩))) ?_;rintro t rfl;refine yG (fun t=>t=false) (yH (by rw[qM0,hb];rfl) (zS (by rw[qM0,hb];rfl) (qN (h29 v) (qN (zCC _) (qA ⟨_,rfl,rfl⟩))))) ?_;rintro t rfl;refine yH rfl (yG (fun t=>t=false) (zS (by rw[qM0];exact bne_iff_ne.2 ho) (qN (zCQ _ ho) (zS rfl (qN (zBB _ ho) (zS rfl (yH (by rw[qM0];exact beq_eq_false_iff_ne.2 ho) (qA ⟨_,rfl,rfl⟩))))))) ?_);rintro t rfl;exact yH rfl hseq
 ·have he:(if aG ti fi se≠0 then aG ti fi se else qIR ti o)=aG ti fi se:=if_pos hb;have hz:(aG ti fi se==0)=false:=beq_eq_false_iff_ne.2 hb;refine qN (zDN hs (by omega) he hb) (qN (zD3 hs hb) (qN (zC7 hs (by omega) he hb) ?_));refine yG (fun t=>t=aG ti fi se) (yH hz (qA ⟨_,rfl,rfl⟩)) ?_;rintro t rfl;refine yG (fun t=>t=false) (zS (by rw[qM0];exact bne_iff_ne.2 hb) (qN (zCQ _ hb) (zS rfl (yH (by rw[qM0];exact hz) (qA ⟨_,rfl,rfl⟩))))) ?_;rintro t rfl;refine yH rfl (yG (fun t=>t=false) (zS (by rw[qM0];exact bne_iff_ne.2 hb) (qN (zCQ _ hb) (zS rfl (qN (zBB _ hb) (zS rfl (yH (by rw[qM0];exact hz) (qA ⟨_,rfl,rfl⟩))))))) ?_);rintro t rfl;refine yH rfl (yG (fun t=>t=false) (yH hz (qA ⟨_,rfl,rfl⟩)) ?_);rintro t rfl;refine yH rfl (qN (zDU hs hb) (yG (fun t=>t=aG ti fi se) (yH hz (qA ⟨_,rfl,rfl⟩)) ?_));rintro t rfl;exact zS (bne_iff_ne.2 hb) (qN (zBB _ hb) (qA rfl))
end Go.Proofs.YtkmfigmiehpcpaaGreatDoor
