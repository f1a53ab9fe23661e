/- Plain laws of chapter 9: the program's search for the best list. Conditions: none. -/
import Derived.Test.YtmkiipeghngchaaGreatDoorPU5
set_option linter.all false
set_option maxRecDepth 10000
set_option maxHeartbeats 100000000
namespace Go.Proofs.YtmkiipeghngchaaGreatDoor
open Go Go.Idl Go.Sv Go.Proofs
theorem min_le {a b:Nat}(h:a<=b):Nat.min a b=a:=zP2 h
theorem q5W {R S τ:Type}{F:S->Option (S⊕τ)}{K:τ->zEP R}{s:S}{t:τ}{Q:R->Prop}(h:F s=some (.inr t))(hk:OkT (K t) Q):OkT (zEP.bind (zO F s) K) Q:=by
 rw[qBY h];exact hk
theorem q81 {st:List Int×Int}{r:Int×List Int}(h:st.2<=r.1):upd st r=st:=if_neg (by omega)
theorem s86 {ts:List Int}{M:Nat}(h:Vd ts (M:Int) M)(hn:ts.length<=8):∀ (d fuel:Nat) (p l be:List Int) (le:Int),d < fuel->p.length+d=ts.length->qLZ M p=false->l.take p.length=p->p.length<=l.length->l.length<=ts.length ->
 ∃ l':List Int,qDF S86 fuel (nx p,l,ldK (List.replicate 16 0) ts p p.length,le,(p.length:Int),ts,be,(M:Int))=some (nx p,l',ldK (List.replicate 16 0) ts p p.length,(upd (be,le) (sp M ts d p)).2,(p.length:Int),ts,(upd (be,le) (sp M ts d p)).1,(M:Int))∧l'.take p.length=p∧p.length<=l'.length∧l'.length<=ts.length
 | d,0,p,l,be,le,hf,_,_,_,_,_=>by omega
 | d,fuel+1,p,l,be,le,hf,hl,hp,h1,h2,h3=>by
   have hM:=h.hi;have hM1:=h.lo;have hlo:(ldK (List.replicate 16 0) ts p p.length).length=16:=(sN _ _ _ _).trans zPV;have zIX:Nat.beq 16 (ldK (List.replicate 16 0) ts p p.length).length=true:=by rw[hlo];rfl
   have hrg:Rg (ldK (List.replicate 16 0) ts p p.length) (1000000*p.length):=by
    have:=qED (a:=p) (rg0 16) (zPO _) h.ts p.length
    rwa [Int.zero_add] at this
   have hidx:∀ j,j < p.length->(p.getD j 0).toNat < M:=fun j hj=>by
    obtain⟨K,q1,q2⟩:=qAB hp j hj;rw[vZ hj,q1,zPC];exact q2
   have hmx:mx (ldK (List.replicate 16 0) ts p p.length)=mx (lds M ts p p.length):=zDI hM hidx;have hge:=q6D hM1 h.ts d p hp;have hmin:Nat.min (Int.toNat (p.length:Int)) l.length=p.length:=by rw[zPC];exact min_le h2
   have hnx:=q0G hp
   suffices hs:OkT (G86 (qDF S86 fuel) (nx p) l (ldK (List.replicate 16 0) ts p p.length) le (p.length:Int) ts be (M:Int)) fun r=>∃ l':List Int,r=(nx p,l',ldK (List.replicate 16 0) ts p p.length,(upd (be,le) (sp M ts d p)).2,(p.length:Int),ts,(upd (be,le) (sp M ts d p)).1,(M:Int))∧l'.take p.length=p∧p.length<=l'.length∧l'.length<=ts.length by
    obtain⟨r,q1,l',rfl,q2⟩:=hs;exact⟨l',q1,q2⟩
   unfold G86;rw[hmin];refine vY zIX (qZ (h83 (by omega) (by omega) fun x hx=>(hrg x hx).1) ?_);rw[hmx];refine jO (fun c=>qI ⟨l,?_,h1,h2,h3⟩) fun c=>?_
   ·have c:=of_decide_eq_true c;rw[q81 (Int.le_trans c hge)]
   have c:=of_decide_eq_false c
   cases d with
   | zero =>
     refine vY (by simp;omega) (qZ (qT0 (by omega)) (qI ⟨l,?_,h1,h2,h3⟩));have hu:upd (be,le) (sp M ts 0 p)=(p,mx (lds M ts p p.length)):=if_pos (show mx (lds M ts p p.length) < le by omega);rw[hu,zPU,h1]
     have:pX (List.replicate p.length (0:Int)) p 0 (Nat.min p.length p.length)=p:=by
      unfold pX;rw[show Nat.min p.length p.length=p.length from Nat.min_self _];simp
     rw[this]
   | succ d =>
   have hpt:p.length < ts.length:=by omega
   refine rE (by simp;omega) (yL p.length rfl hpt (xJ hpt ?_));have w1:∀ k:Nat,k < 100->IntKind.i64.wrap ((k:Int)+1)=((k+1:Nat):Int):=fun k hk=>eB (by omega)
   have wn:IntKind.i64.wrap (nx p+1)=nx p+1:=qI4 (by omega) (by omega)
   have hcnt:(bif decide ((M:Int) < nx p+1) then (M:Int) else nx p+1)=((cnt M p:Nat):Int):=by
    unfold cnt
    cases q:decide ((M:Int) < nx p+1) with
    | true =>
      have q:=of_decide_eq_true q;rw[if_neg (by omega)];rfl
    | false =>
      have q:=of_decide_eq_false q;split
      ·show nx p+1=_;omega
      ·show nx p+1=_;omega
   rw[wn,hcnt];refine tK (cnt M p) (fun k (s:List Int×(List Int×Int))=>((k:Int),s.1,ldK (List.replicate 16 0) ts p p.length,s.2.2,(p.length:Int),ts,s.2.1,(M:Int))) (fun k s=>s.1.take p.length=p∧p.length<=s.1.length∧s.1.length<=ts.length∧s.2=q8L (fun k=>sp M ts d (p++[(k:Int)])) (be,le) k) (l,(be,le)) rfl ⟨h1,h2,h3,rfl⟩ ?_ ?_
   ·rintro k ⟨l0,be0,le0⟩ hk ⟨g1,g2,g3,g4⟩;have hk2:=(cnt_lt hp).1 hk;have hkM:k < M:=hk2.2;have zJJ:k < 16:=by omega
    have hkl:k < (ldK (List.replicate 16 0) ts p p.length).length:=by omega
    have g1:l0.take p.length=p:=g1;have g2:p.length<=l0.length:=g2;have g3:l0.length<=ts.length:=g3;have zHN:Nat.min (Int.toNat (p.length:Int)) l0.length=p.length:=by rw[zPC];exact min_le g2
    refine vY (qN3 (show (k:Int) < ((cnt M p:Nat):Int) by omega)) (vY zIX (yL k rfl zJJ (vY zIX ?_)));simp only[zOV,Nat.mul_one];rw[zHN];refine xJ hkl (vY zIX (yL k rfl zJJ (vY zIX (qZ (qMS hkl) ?_))));rw[qO9 (M:=M) hrg (by omega) hkl h.ts hpt];have hset:(ldK (List.replicate 16 0) ts p p.length).set k ((ldK (List.replicate 16 0) ts p p.length).getD k 0+ts.getD p.length 0)=ldK (List.replicate 16 0) ts (p++[(k:Int)]) (p++[(k:Int)]).length:=qQ0.symm;rw[hset]
    -- the list with one number more
    obtain⟨l1,e1,e2,e3,e4⟩:∃ l1:List Int,(zEP.ite ((p.length+[(k:Int)].length).ble l0.length) (zEP.ret (Sum.inr (pX l0 [(k:Int)] p.length [(k:Int)].length,((p.length+[(k:Int)].length:Nat):Int)))) (zEP.ite (p.length.beq l0.length) (zEP.ite ((l0.length+[(k:Int)].length).ble 1048576) (zEP.ret (Sum.inr (l0++[(k:Int)],((l0.length+[(k:Int)].length:Nat):Int)))) zEP.fail) zEP.fail):zEP (Unit⊕List Int×Int))=some (Sum.inr (l1,((p.length+1:Nat):Int)))∧l1.take (p.length+1)=p++[(k:Int)]∧p.length+1<=l1.length∧l1.length<=ts.length:=by
     by_cases q:p.length+1<=l0.length
     ·refine⟨pX l0 [(k:Int)] p.length 1,?_,?_,?_,?_⟩
      ·rw[show (p.length+[(k:Int)].length).ble l0.length=true from zOR q];rfl
      ·unfold pX;rw[g1];show (p++([(k:Int)]++_)).take _=_;rw[<-zO8,List.take_left' (by simp)]
      ·unfold pX;simp;omega
      ·unfold pX;simp;omega
     ·have q2:p.length=l0.length:=by omega
      have q3:l0=p:=by rw[<-g1,q2,zRD]
      refine⟨l0++[(k:Int)],?_,?_,?_,?_⟩
      ·rw[show (p.length+[(k:Int)].length).ble l0.length=false from by
        cases hh:(p.length+[(k:Int)].length).ble l0.length with
        | false=>rfl
        | true=>exact absurd (zOH hh) q,show p.length.beq l0.length=true by rw[q2];exact zSG _,show (l0.length+[(k:Int)].length).ble 1048576=true from zOR (by simp;omega),q3];rfl
      ·rw[q3,zO2 (by simp)]
      ·simp;omega
      ·simp;omega
    refine q5W e1 ?_
    have hnx1:(bif decide (nx p < IntKind.i64.wrap ((k:Int)+1)) then IntKind.i64.wrap ((k:Int)+1) else nx p)=nx (p++[(k:Int)]):=by
     rw[q9H,w1 k (by omega)]
     cases q:decide (nx p < ((k+1:Nat):Int)) with
     | true=>rw[if_pos (by have:=of_decide_eq_true q;omega)];show ((k+1:Nat):Int)=_;omega
     | false=>rw[if_neg (by have:=of_decide_eq_false q;omega)];rfl
    have zLX:Nat.min (Int.toNat ((p.length+1:Nat):Int)) l1.length=p.length+1:=by rw[zPC];exact min_le e3
    have hpl:(p++[(k:Int)]).length=p.length+1:=by simp
    obtain⟨l2,f1,f2,f3,f4⟩:=s86 h hn d fuel (p++[(k:Int)]) l1 be0 le0 (by omega) (by rw[hpl];omega) (dS hp hkM) (by rw[hpl];exact e2) (by rw[hpl];exact e3) e4;simp only[hpl] at f1 f2 f3;simp only[hpl];refine qZ (a:=(nx (p++[(k:Int)]),l2,ldK (List.replicate 16 0) ts (p++[(k:Int)]) (p.length+1),(upd (be0,le0) (sp M ts d (p++[(k:Int)]))).2,((p.length+1:Nat):Int),ts,(upd (be0,le0) (sp M ts d (p++[(k:Int)]))).1,(M:Int))) ?_ ?_
    ·simp only[hnx1,zLX];exact f1
    have zLY:Nat.min (Int.toNat ((p.length+1:Nat):Int)) l2.length=p.length+1:=by rw[zPC];exact min_le f3
    simp only[zLY];have hw:IntKind.i64.wrap (((p.length+1:Nat):Int) - 1)=(p.length:Int):=by rw[qI4 (by omega) (by omega)];omega
    rw[hw];refine qZ (q7O (show p.length<=p.length+1 by omega)) ?_;have hlo1:(ldK (List.replicate 16 0) ts (p++[(k:Int)]) (p.length+1)).length=16:=(sN _ _ _ _).trans zPV;have hb1:Nat.beq 16 (ldK (List.replicate 16 0) ts (p++[(k:Int)]) (p.length+1)).length=true:=by rw[hlo1];rfl
    have zKJ:k < (ldK (List.replicate 16 0) ts (p++[(k:Int)]) (p.length+1)).length:=by omega
    refine vY hb1 (yL k rfl zJJ (vY hb1 (xJ zKJ (vY hb1 (yL k rfl zJJ (vY hb1 (qZ (qMS zKJ) (qI ⟨(l2,upd (be0,le0) (sp M ts d (p++[(k:Int)]))),?_,?_,?_,f4,?_⟩))))))))
    ·rw[w1 k (by omega)]
     have hget:(ldK (List.replicate 16 0) ts (p++[(k:Int)]) (p.length+1))[k]=(ldK (List.replicate 16 0) ts p p.length)[k]+ts[p.length]:=by
      rw[<-vZ zKJ,show ldK (List.replicate 16 0) ts (p++[(k:Int)]) (p.length+1)=(ldK (List.replicate 16 0) ts p p.length).set k ((ldK (List.replicate 16 0) ts p p.length).getD k 0+ts.getD p.length 0) by rw[hset,hpl],zPN,zR8 hkl,vZ hkl,vZ hpt];rfl
     have hback:(ldK (List.replicate 16 0) ts (p++[(k:Int)]) (p.length+1)).set k (IntKind.i64.wrap ((ldK (List.replicate 16 0) ts (p++[(k:Int)]) (p.length+1))[k] - ts[p.length]))=ldK (List.replicate 16 0) ts p p.length:=by
      rw[hget,show (ldK (List.replicate 16 0) ts p p.length)[k]+ts[p.length] - ts[p.length]=(ldK (List.replicate 16 0) ts p p.length)[k] by omega];have r1:=hrg _ (zPA hkl);rw[qI4 (by omega) (by omega),show ldK (List.replicate 16 0) ts (p++[(k:Int)]) (p.length+1)=(ldK (List.replicate 16 0) ts p p.length).set k ((ldK (List.replicate 16 0) ts p p.length).getD k 0+ts.getD p.length 0) by rw[hset,hpl],List.set_set,zSF]
     rw[hback]
    ·show l2.take p.length=p;have:(l2.take (p.length+1)).take p.length=p:=by rw[f2,List.take_left' rfl]
     rwa [zRM,zP2 (by omega)] at this
    ·show p.length<=l2.length;omega
    ·show upd (be0,le0) _=upd (q8L _ _ k) _;rw[<-g4]
   ·rintro⟨l0,be0,le0⟩ ⟨g1,g2,g3,g4⟩;have g1:l0.take p.length=p:=g1;have g2:p.length<=l0.length:=g2;have zHN:Nat.min (Int.toNat (p.length:Int)) l0.length=p.length:=by rw[zPC];exact min_le g2
    refine rE (qRG (show ¬ ((cnt M p:Nat):Int) < ((cnt M p:Nat):Int) by omega)) ?_;simp only[zHN];refine qI ⟨_,rfl,?_⟩;show OkT (zEP.ret (nx p,l0,ldK (List.replicate 16 0) ts p p.length,le0,((Nat.min (Int.toNat (p.length:Int)) l0.length:Nat):Int),ts,be0,(M:Int))) _;rw[zHN]
    have hu:(be0,le0)=upd (be,le) (sp M ts (d+1) p):=by
     have g4:(be0,le0)=q8L (fun k=>sp M ts d (p++[(k:Int)])) (be,le) (cnt M p):=g4;rw[g4,qQG (fun k hk=>zB1 hM1 h.ts d _ (dS hp ((cnt_lt hp).1 hk).2)) (qM7 hM1 hp)];rfl
    refine qI ⟨l0,?_,g1,g2,g3⟩;rw[<-hu]
end Go.Proofs.YtmkiipeghngchaaGreatDoor
