/- Plain laws of chapter 9: the program's search for the best list. Conditions: none. -/
import Derived.Test.YtmkiipeghngchaaGreatDoorPU5
set_option linter.all false
set_option maxRecDepth 10000
set_option maxHeartbeats 100000000
namespace Go.Proofs.YtmkiipeghngchaaGreatDoor
open Go Go.Idl Go.Sv Go.Proofs
theorem min_le {a b:Nat}(h:a<=b):Nat.min a b=a:=zQN h
theorem q8T {R S τ:Type}{F:S->Option (S⊕τ)}{K:τ->zFC R}{s:S}{t:τ}{Q:R->Prop}(h:F s=some (.inr t))(hk:OkT (K t) Q):OkT (zFC.bind (zO F s) K) Q:=by
 rw[qDF h];exact hk
theorem q99 {st:List Int×Int}{r:Int×List Int}(h:st.2<=r.1):upd st r=st:=if_neg (by omega)
theorem s86 {ts:List Int}{M:Nat}(h:Vd ts (M:Int) M)(hn:ts.length<=8):∀ (d fuel:Nat) (p l be:List Int) (le:Int),d < fuel->p.length+d=ts.length->rJ M p=false->l.take p.length=p->p.length<=l.length->l.length<=ts.length ->
 ∃ l':List Int,qE7 S86 fuel (nx p,l,ldK (List.replicate 16 0) ts p p.length,le,(p.length:Int),ts,be,(M:Int))=some (nx p,l',ldK (List.replicate 16 0) ts p p.length,(upd (be,le) (sp M ts d p)).2,(p.length:Int),ts,(upd (be,le) (sp M ts d p)).1,(M:Int))∧l'.take p.length=p∧p.length<=l'.length∧l'.length<=ts.length
 | d,0,p,l,be,le,hf,_,_,_,_,_=>by omega
 | d,fuel+1,p,l,be,le,hf,hl,hp,h1,h2,h3=>by
   have hM:=h.hi;have hM1:=h.lo;have hlo:(ldK (List.replicate 16 0) ts p p.length).length=16:=(gX _ _ _ _).trans zPY;have zJK:Nat.beq 16 (ldK (List.replicate 16 0) ts p p.length).length=true:=by rw[hlo];rfl
   have hrg:Rg (ldK (List.replicate 16 0) ts p p.length) (1000000*p.length):=by
    have:=qA4 (a:=p) (rg0 16) (zP2 _) h.ts p.length
    rwa [Int.zero_add] at this
   have hidx:∀ j,j < p.length->(p.getD j 0).toNat < M:=fun j hj=>by
    obtain⟨K,q1,q2⟩:=oQ hp j hj;rw[jJ hj,q1,zPV];exact q2
   have hmx:mx (ldK (List.replicate 16 0) ts p p.length)=mx (lds M ts p p.length):=zD8 hM hidx;have hge:=q6U hM1 h.ts d p hp;have hmin:Nat.min (Int.toNat (p.length:Int)) l.length=p.length:=by rw[zPV];exact min_le h2
   have hnx:=q1Y hp
   suffices hs:OkT (G86 (qE7 S86 fuel) (nx p) l (ldK (List.replicate 16 0) ts p p.length) le (p.length:Int) ts be (M:Int)) fun r=>∃ l':List Int,r=(nx p,l',ldK (List.replicate 16 0) ts p p.length,(upd (be,le) (sp M ts d p)).2,(p.length:Int),ts,(upd (be,le) (sp M ts d p)).1,(M:Int))∧l'.take p.length=p∧p.length<=l'.length∧l'.length<=ts.length by
    obtain⟨r,q1,l',rfl,q2⟩:=hs;exact⟨l',q1,q2⟩
   unfold G86;rw[hmin];refine aR zJK (zS (h83 (by omega) (by omega) fun x hx=>(hrg x hx).1) ?_);rw[hmx];refine wT (fun c=>qR ⟨l,?_,h1,h2,h3⟩) fun c=>?_
   ·have c:=of_decide_eq_true c;rw[q99 (zSM c hge)]
   have c:=of_decide_eq_false c
   cases d with
   | zero =>
     refine aR (by simp;omega) (zS (qXS (by omega)) (qR ⟨l,?_,h1,h2,h3⟩));have hu:upd (be,le) (sp M ts 0 p)=(p,mx (lds M ts p p.length)):=if_pos (show mx (lds M ts p p.length) < le by omega);rw[hu,zQH,h1]
     have:p8 (List.replicate p.length (0:Int)) p 0 (Nat.min p.length p.length)=p:=by
      unfold p8;rw[show Nat.min p.length p.length=p.length from Nat.min_self _];simp
     rw[this]
   | succ d =>
   have hpt:p.length < ts.length:=by omega
   refine qJZ (by simp;omega) (yY p.length rfl hpt (kD hpt ?_));have w1:∀ k:Nat,k < 100->IntKind.i64.wrap ((k:Int)+1)=((k+1:Nat):Int):=fun k hk=>sV (by omega)
   have wn:IntKind.i64.wrap (nx p+1)=nx p+1:=qBI (by omega) (by omega)
   have hcnt:(bif decide ((M:Int) < nx p+1) then (M:Int) else nx p+1)=((cnt M p:Nat):Int):=by
    unfold cnt
    cases q:decide ((M:Int) < nx p+1) with
    | true =>
      have q:=of_decide_eq_true q;rw[if_neg (by omega)];rfl
    | false =>
      have q:=of_decide_eq_false q;split
      ·show nx p+1=_;omega
      ·show nx p+1=_;omega
   rw[wn,hcnt];refine qBZ (cnt M p) (fun k (s:List Int×(List Int×Int))=>((k:Int),s.1,ldK (List.replicate 16 0) ts p p.length,s.2.2,(p.length:Int),ts,s.2.1,(M:Int))) (fun k s=>s.1.take p.length=p∧p.length<=s.1.length∧s.1.length<=ts.length∧s.2=q87 (fun k=>sp M ts d (p++[(k:Int)])) (be,le) k) (l,(be,le)) rfl ⟨h1,h2,h3,rfl⟩ ?_ ?_
   ·rintro k ⟨l0,be0,le0⟩ hk ⟨g1,g2,g3,g4⟩;have hk2:=(cnt_lt hp).1 hk;have hkM:k < M:=hk2.2;have zJ5:k < 16:=by omega
    have hkl:k < (ldK (List.replicate 16 0) ts p p.length).length:=by omega
    have g1:l0.take p.length=p:=g1;have g2:p.length<=l0.length:=g2;have g3:l0.length<=ts.length:=g3;have zIA:Nat.min (Int.toNat (p.length:Int)) l0.length=p.length:=by rw[zPV];exact min_le g2
    refine aR (qTR (show (k:Int) < ((cnt M p:Nat):Int) by omega)) (aR zJK (yY k rfl zJ5 (aR zJK ?_)));simp only[zPH,Nat.mul_one];rw[zIA];refine kD hkl (aR zJK (yY k rfl zJ5 (aR zJK (zS (qM8 hkl) ?_))));rw[qQ3 (M:=M) hrg (by omega) hkl h.ts hpt];have hset:(ldK (List.replicate 16 0) ts p p.length).set k ((ldK (List.replicate 16 0) ts p p.length).getD k 0+ts.getD p.length 0)=ldK (List.replicate 16 0) ts (p++[(k:Int)]) (p++[(k:Int)]).length:=qRM.symm;rw[hset]
    -- the list with one number more
    obtain⟨l1,e1,e2,e3,e4⟩:∃ l1:List Int,(zFC.ite ((p.length+[(k:Int)].length).ble l0.length) (zFC.ret (Sum.inr (p8 l0 [(k:Int)] p.length [(k:Int)].length,((p.length+[(k:Int)].length:Nat):Int)))) (zFC.ite (p.length.beq l0.length) (zFC.ite ((l0.length+[(k:Int)].length).ble 1048576) (zFC.ret (Sum.inr (l0++[(k:Int)],((l0.length+[(k:Int)].length:Nat):Int)))) zFC.fail) zFC.fail):zFC (Unit⊕List Int×Int))=some (Sum.inr (l1,((p.length+1:Nat):Int)))∧l1.take (p.length+1)=p++[(k:Int)]∧p.length+1<=l1.length∧l1.length<=ts.length:=by
     by_cases q:p.length+1<=l0.length
     ·refine⟨p8 l0 [(k:Int)] p.length 1,?_,?_,?_,?_⟩
      ·rw[show (p.length+[(k:Int)].length).ble l0.length=true from zPD q];rfl
      ·unfold p8;rw[g1];show (p++([(k:Int)]++_)).take _=_;rw[<-zPT,List.take_left' (by simp)]
      ·unfold p8;simp;omega
      ·unfold p8;simp;omega
     ·have q2:p.length=l0.length:=by omega
      have q3:l0=p:=by rw[<-g1,q2,zRX]
      refine⟨l0++[(k:Int)],?_,?_,?_,?_⟩
      ·rw[show (p.length+[(k:Int)].length).ble l0.length=false from by
        cases hh:(p.length+[(k:Int)].length).ble l0.length with
        | false=>rfl
        | true=>exact absurd (zO2 hh) q,show p.length.beq l0.length=true by rw[q2];exact zS3 _,show (l0.length+[(k:Int)].length).ble 1048576=true from zPD (by simp;omega),q3];rfl
      ·rw[q3,zPI (by simp)]
      ·simp;omega
      ·simp;omega
    refine q8T e1 ?_
    have hnx1:(bif decide (nx p < IntKind.i64.wrap ((k:Int)+1)) then IntKind.i64.wrap ((k:Int)+1) else nx p)=nx (p++[(k:Int)]):=by
     rw[zA5,w1 k (by omega)]
     cases q:decide (nx p < ((k+1:Nat):Int)) with
     | true=>rw[if_pos (by have:=of_decide_eq_true q;omega)];show ((k+1:Nat):Int)=_;omega
     | false=>rw[if_neg (by have:=of_decide_eq_false q;omega)];rfl
    have zMI:Nat.min (Int.toNat ((p.length+1:Nat):Int)) l1.length=p.length+1:=by rw[zPV];exact min_le e3
    have hpl:(p++[(k:Int)]).length=p.length+1:=by simp
    obtain⟨l2,f1,f2,f3,f4⟩:=s86 h hn d fuel (p++[(k:Int)]) l1 be0 le0 (by omega) (by rw[hpl];omega) (uR hp hkM) (by rw[hpl];exact e2) (by rw[hpl];exact e3) e4;simp only[hpl] at f1 f2 f3;simp only[hpl];refine zS (a:=(nx (p++[(k:Int)]),l2,ldK (List.replicate 16 0) ts (p++[(k:Int)]) (p.length+1),(upd (be0,le0) (sp M ts d (p++[(k:Int)]))).2,((p.length+1:Nat):Int),ts,(upd (be0,le0) (sp M ts d (p++[(k:Int)]))).1,(M:Int))) ?_ ?_
    ·simp only[hnx1,zMI];exact f1
    have zMJ:Nat.min (Int.toNat ((p.length+1:Nat):Int)) l2.length=p.length+1:=by rw[zPV];exact min_le f3
    simp only[zMJ];have hw:IntKind.i64.wrap (((p.length+1:Nat):Int) - 1)=(p.length:Int):=by rw[qBI (by omega) (by omega)];omega
    rw[hw];refine zS (q5N (show p.length<=p.length+1 by omega)) ?_;have hlo1:(ldK (List.replicate 16 0) ts (p++[(k:Int)]) (p.length+1)).length=16:=(gX _ _ _ _).trans zPY;have hb1:Nat.beq 16 (ldK (List.replicate 16 0) ts (p++[(k:Int)]) (p.length+1)).length=true:=by rw[hlo1];rfl
    have zK5:k < (ldK (List.replicate 16 0) ts (p++[(k:Int)]) (p.length+1)).length:=by omega
    refine aR hb1 (yY k rfl zJ5 (aR hb1 (kD zK5 (aR hb1 (yY k rfl zJ5 (aR hb1 (zS (qM8 zK5) (qR ⟨(l2,upd (be0,le0) (sp M ts d (p++[(k:Int)]))),?_,?_,?_,f4,?_⟩))))))))
    ·rw[w1 k (by omega)]
     have hget:(ldK (List.replicate 16 0) ts (p++[(k:Int)]) (p.length+1))[k]=(ldK (List.replicate 16 0) ts p p.length)[k]+ts[p.length]:=by
      rw[<-jJ zK5,show ldK (List.replicate 16 0) ts (p++[(k:Int)]) (p.length+1)=(ldK (List.replicate 16 0) ts p p.length).set k ((ldK (List.replicate 16 0) ts p p.length).getD k 0+ts.getD p.length 0) by rw[hset,hpl],zPX,zSU hkl,jJ hkl,jJ hpt];rfl
     have hback:(ldK (List.replicate 16 0) ts (p++[(k:Int)]) (p.length+1)).set k (IntKind.i64.wrap ((ldK (List.replicate 16 0) ts (p++[(k:Int)]) (p.length+1))[k] - ts[p.length]))=ldK (List.replicate 16 0) ts p p.length:=by
      rw[hget,show (ldK (List.replicate 16 0) ts p p.length)[k]+ts[p.length] - ts[p.length]=(ldK (List.replicate 16 0) ts p p.length)[k] by omega];have r1:=hrg _ (zPW hkl);rw[qBI (by omega) (by omega),show ldK (List.replicate 16 0) ts (p++[(k:Int)]) (p.length+1)=(ldK (List.replicate 16 0) ts p p.length).set k ((ldK (List.replicate 16 0) ts p p.length).getD k 0+ts.getD p.length 0) by rw[hset,hpl],List.set_set,zS1]
     rw[hback]
    ·show l2.take p.length=p;have:(l2.take (p.length+1)).take p.length=p:=by rw[f2,List.take_left' rfl]
     rwa [zR7,zQN (by omega)] at this
    ·show p.length<=l2.length;omega
    ·show upd (be0,le0) _=upd (q87 _ _ k) _;rw[<-g4]
   ·rintro⟨l0,be0,le0⟩ ⟨g1,g2,g3,g4⟩;have g1:l0.take p.length=p:=g1;have g2:p.length<=l0.length:=g2;have zIA:Nat.min (Int.toNat (p.length:Int)) l0.length=p.length:=by rw[zPV];exact min_le g2
    refine qJZ (qYM (show ¬ ((cnt M p:Nat):Int) < ((cnt M p:Nat):Int) by omega)) ?_;simp only[zIA];refine qR ⟨_,rfl,?_⟩;show OkT (zFC.ret (nx p,l0,ldK (List.replicate 16 0) ts p p.length,le0,((Nat.min (Int.toNat (p.length:Int)) l0.length:Nat):Int),ts,be0,(M:Int))) _;rw[zIA]
    have hu:(be0,le0)=upd (be,le) (sp M ts (d+1) p):=by
     have g4:(be0,le0)=q87 (fun k=>sp M ts d (p++[(k:Int)])) (be,le) (cnt M p):=g4;rw[g4,qRF (fun k hk=>zA6 hM1 h.ts d _ (uR hp ((cnt_lt hp).1 hk).2)) (qHJ hM1 hp)];rfl
    refine qR ⟨l0,?_,g1,g2,g3⟩;rw[<-hu]
end Go.Proofs.YtmkiipeghngchaaGreatDoor
