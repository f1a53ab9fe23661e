/- Plain laws of chapter 9: the first fit; the reference's search for the best way of cutting. Conditions: none. -/
import Derived.Test.YtjcflcpjglpicaaGreatDoorCU2
set_option linter.all false
set_option maxRecDepth 10000
set_option maxHeartbeats 100000000
namespace Go.Proofs.YtjcflcpjglpicaaGreatDoor
open Go Go.Idl Go.Sv Go.Proofs
theorem zCQ {c:Int}{ps:List Int}(v:Vc c ps){k:Nat}(hk:k<=ps.length):Bw (fl c ps k) 0 (c - 1):=qLZ v.ps k hk (zAD v.ps k hk)
theorem q4C {c:Int}{ps:List Int}(k:Nat):(fl c ps k).length<=k:=nM k
theorem q5V {c:Int}{ps:List Int}{k:Nat}(hk:k < ps.length)(h:∀ j,j < (fl c ps k).length->¬ ps.getD k 0<=(fl c ps k).getD j 0):fl c ps (k+1)=fl c ps k++[c - ps.getD k 0]∧ffK c ps (k+1)=ffK c ps k++[((fl c ps k).length:Int)]:=by
 have e:=zCT h;constructor
 ·rw[qOF,e,qEF (zPM _)]
 ·show ffK c ps k++[((fiI (fl c ps k) (ps.getD k 0):Nat):Int)]=_;rw[e]
theorem q5Q {c:Int}{ps:List Int}{k K:Nat}(hk:k < ps.length)(hK:K < (fl c ps k).length)(h1:ps.getD k 0<=(fl c ps k).getD K 0)(h2:∀ j,j < K->¬ ps.getD k 0<=(fl c ps k).getD j 0):fl c ps (k+1)=(fl c ps k).set K ((fl c ps k).getD K 0 - ps.getD k 0)∧ffK c ps (k+1)=ffK c ps k++[(K:Int)]:=by
 have e:=zB3 hK h1 h2;constructor
 ·rw[qOF,e,qEC hK]
 ·show ffK c ps k++[((fiI (fl c ps k) (ps.getD k 0):Nat):Int)]=_;rw[e]
theorem zF1 {c:Int}{ps:List Int}(hl:ps.length<=67)(hb:qL5 c ps≠0):H12 (c,ps)=some ([],qL5 c ps):=by
 refine OkT.eq ?_;show OkT (G12 c ps) _;unfold G12;exact qU (h14 (by omega)) (jR (bne_iff_ne.2 hb) (qG rfl))
theorem h12 {c:Int}{ps:List Int}(v:Vc c ps):H12 (c,ps)=some (ffK c ps ps.length,0):=by
 have hpl:=v.len;have hc1:=v.lo;have hc2:=v.hi;refine OkT.eq ?_;show OkT (G12 c ps) _;unfold G12;refine qU (h14 (by omega)) ?_;rw[v.bad];refine aR rfl ?_;refine tL ps.length (fun k (s:List Int×List Int)=>((k:Int),s.1,s.2)) (fun k s=>s=(fl c ps k,ffK c ps k)) ([],[]) rfl rfl ?_ ?_
 ·rintro k ⟨l,o⟩ hk hs;obtain⟨rfl,rfl⟩:=Prod.mk.inj hs;have hb:=zCQ v (show k<=ps.length by omega);have hll:=q4C (c:=c) (ps:=ps) k;have hol:=sJ (c:=c) (ps:=ps) k;have hp:=v.ps.getD hk;have w1:IntKind.i64.wrap ((k:Int)+1)=((k+1:Nat):Int):=aB (by omega);refine jR (qK9 (show (k:Int) < (ps.length:Int) by omega)) (zA k rfl hk (zB hk ?_));have hx:ps[k]=ps.getD k 0:=(gDE hk).symm;simp only[hx,w1]
  have hnew:(∀ j,j < (fl c ps k).length->¬ ps.getD k 0<=(fl c ps k).getD j 0)->OkT (zF6.ite (((fl c ps k).length+[c].length).ble 1048576) (zF6.bind (idx ((fl c ps k).length+[c].length) ((fl c ps k).length:Int)) fun (x8:Nat)=>zF6.bind ((fl c ps k)++[c])[x8]? fun (x9:Int)=>zF6.bind (idx ((fl c ps k).length+[c].length) ((fl c ps k).length:Int)) fun (x10:Nat)=>zF6.bind ((fl c ps k)++[c])[x10]? fun (x11:Int)=>zF6.ite (((ffK c ps k).length+[((fl c ps k).length:Int)].length).ble 1048576) (zF6.ret (Sum.inl (((k+1:Nat):Int),((fl c ps k)++[c]).set x10 (IntKind.i64.wrap (x9 - ps.getD k 0)),(ffK c ps k)++[((fl c ps k).length:Int)]))) zF6.fail) zF6.fail:zF6 (Int×List Int×List Int⊕Int×List Int×List Int⊕List Int×Int⊕Nat×Int×List Int×List Int)) fun o=>∃ s':List Int×List Int,o=.inl (((k+1:Nat):Int),s'.1,s'.2)∧s'=(fl c ps (k+1),ffK c ps (k+1)):=by
   intro hn;obtain⟨e1,e2⟩:=q5V hk hn;have hlast:(fl c ps k).length < ((fl c ps k)++[c]).length:=by simp
   have hg:((fl c ps k)++[c])[(fl c ps k).length]=c:=by simp
   refine jR (zPY (by simp;omega)) (zA _ rfl (by simp) (zB hlast (zA _ rfl (by simp) (zB hlast (jR (zPY (by simp;omega)) (qG ⟨(fl c ps (k+1),ffK c ps (k+1)),?_,rfl⟩))))));simp only[hg,qAV];rw[e1,e2,uI (by omega) (by omega)]
  refine sU (fl c ps k).length (fun j=>ps.getD k 0<=(fl c ps k).getD j 0) (fun j=>.inr (.inl (j:Int))) (.inl ((fl c ps k).length:Int)) ?_ ?_ ?_ ?_
  ·intro j hj;refine jR (qK9 (show (j:Int) < ((fl c ps k).length:Int) by omega)) (zA j rfl hj (zB hj ?_));rw[gDE hj];refine yV (fun q=>qG (.inl ⟨of_decide_eq_true q,rfl⟩)) fun q=>qG (.inr ⟨of_decide_eq_false q,?_⟩)
   rw[aB (show j < 2 ^ 62 by omega)]
  ·exact aR (qMG (show ¬ ((fl c ps k).length:Int) < ((fl c ps k).length:Int) by omega)) (qG rfl)
  ·intro K hK h1 h2;obtain⟨e1,e2⟩:=q5Q hk hK h1 h2;refine zA K rfl hK (zB hK (zA K rfl hK (zB hK (jR (zPY (by simp;omega)) (qG ⟨(fl c ps (k+1),ffK c ps (k+1)),?_,rfl⟩)))));have:=hb.getD hK;rw[gDE hK] at this;simp only[e1,e2,gDE hK];rw[uI (by omega) (by omega)]
  ·exact hnew
 ·rintro⟨l,o⟩ hs;obtain⟨rfl,rfl⟩:=Prod.mk.inj hs;exact aR (qMG (show ¬ (ps.length:Int) < (ps.length:Int) by omega)) (qG ⟨_,rfl,qG rfl⟩)
theorem h19 {c:Int}{ps:List Int}(v:Vc c ps):H19 (c,ps)=some (ffK c ps ps.length):=by
 have hpl:=v.len;have hc1:=v.lo;have hc2:=v.hi;refine OkT.eq ?_;show OkT (G19 c ps) _;unfold G19;refine tL ps.length (fun k (s:List Int×List Int)=>((k:Int),s.1,s.2)) (fun k s=>s=(fl c ps k,ffK c ps k)) ([],[]) rfl rfl ?_ ?_
 ·rintro k ⟨l,o⟩ hk hs;obtain⟨rfl,rfl⟩:=Prod.mk.inj hs;have hb:=zCQ v (show k<=ps.length by omega);have hll:=q4C (c:=c) (ps:=ps) k;have hol:=sJ (c:=c) (ps:=ps) k;have hp:=v.ps.getD hk;have w1:IntKind.i64.wrap ((k:Int)+1)=((k+1:Nat):Int):=aB (by omega);have hx:ps[k]=ps.getD k 0:=(gDE hk).symm;refine jR (qK9 (show (k:Int) < (ps.length:Int) by omega)) ?_;simp only[w1];refine sU (fl c ps k).length (fun j=>ps.getD k 0<=(fl c ps k).getD j 0) (fun j=>.inl (j:Int)) (.inl ((fl c ps k).length:Int)) ?_ ?_ ?_ ?_
  ·intro j hj;refine jR (by rw[zEB];exact qK9 (show (j:Int) < ((fl c ps k).length:Int) by omega)) (zA j rfl hj (zB hj (zA k rfl hk (zB hk ?_))));rw[gDE hj,hx];refine yV (fun q=>qG (.inr ⟨by have:=of_decide_eq_true q;omega,?_⟩)) fun q=>qG (.inl ⟨by have:=of_decide_eq_false q;omega,rfl⟩)
   rw[aB (show j < 2 ^ 62 by omega)]
  ·exact aR (by rw[zEB];exact qMG (show ¬ ((fl c ps k).length:Int) < ((fl c ps k).length:Int) by omega)) (qG rfl)
  ·intro K hK h1 h2;obtain⟨e1,e2⟩:=q5Q hk hK h1 h2;have hne:((K:Int)==((fl c ps k).length:Int))=false:=by simp;omega
   refine aR hne (zA K rfl hK (zB hK (zA k rfl hk (zB hk (zA K rfl hK (zB hK (jR (zPY (by simp;omega)) (qG ⟨(fl c ps (k+1),ffK c ps (k+1)),?_,rfl⟩))))))));have:=hb.getD hK;rw[gDE hK] at this;simp only[e1,e2,gDE hK,hx];rw[uI (by omega) (by omega)]
  ·intro hn;obtain⟨e1,e2⟩:=q5V hk hn;have hlast:(fl c ps k).length < ((fl c ps k)++[c]).length:=by simp
   have hg:((fl c ps k)++[c])[(fl c ps k).length]=c:=by simp
   refine jR (by simp) (jR (zPY (by simp;omega)) (zA _ rfl (by simp) (zB hlast (zA k rfl hk (zB hk (zA _ rfl (by simp) (zB hlast (jR (zPY (by simp;omega)) (qG ⟨(fl c ps (k+1),ffK c ps (k+1)),?_,rfl⟩)))))))));simp only[hg,qAV,hx];rw[e1,e2,uI (by omega) (by omega)]
 ·rintro⟨l,o⟩ hs;obtain⟨rfl,rfl⟩:=Prod.mk.inj hs;exact aR (qMG (show ¬ (ps.length:Int) < (ps.length:Int) by omega)) (qG ⟨_,rfl,qG rfl⟩)
theorem r21 {c:Int}{ps:List Int}(v:Vc c ps):∀ (d fuel:Nat) (b:List Int),d < fuel->b.length+d=ps.length->R21 fuel (c,ps,b)=some (if erK c ps b b.length=0 then cu c ps d b else ((ps.length:Int)+1,[]))
 | d,0,b,hf,_=>by omega
 | d,fuel+1,b,hf,hl=>by
   have hpl:=v.len;have hll:=nM (c:=c) (ps:=ps) (b:=b) b.length;have hps:∀ j,j < b.length->(ps.take b.length).getD j 0=ps.getD j 0:=fun j hj=>q73 hj
   have h1:H18 (c,List.take (b.length - 0) (List.drop 0 ps),b)=some (if erK c ps b b.length≠0 then ((0:Int),erK c ps b b.length) else (((lfK c ps b b.length).length:Int),(0:Int))):=by
    refine (h18 (v.take b.length) (by omega)).trans ?_;unfold csC;rw[if_neg (by rw[zQV];omega),qCS (fun _ _=>rfl) hps,bH (fun _ _=>rfl) hps]
   have w0:IntKind.i64.wrap ((ps.length:Int)+1)=(ps.length:Int)+1:=uI (by omega) (by omega);refine OkT.eq ?_;show OkT (G21 (R21 fuel) c ps b) _;unfold G21;refine qU (qNT (show b.length<=ps.length by omega)) (qU h1 ?_);by_cases he:erK c ps b b.length=0
   ·rw[if_neg (fun q=>q he),if_pos he,w0];refine aR rfl ?_
    cases d with
    | zero=>exact jR (by simp;omega) (qG rfl)
    | succ d =>
    refine aR (by simp;omega) ?_;refine tL ((lfK c ps b b.length).length+1) (fun k (s:Int×List Int)=>(s.1,s.2,(k:Int))) (fun k s=>s=bsN ((ps.length:Int)+1) (fun k=>if erK c ps (b++[(k:Int)]) (b.length+1)=0 then cu c ps d (b++[(k:Int)]) else ((ps.length:Int)+1,[])) k) (_,[]) rfl rfl ?_ ?_
    ·rintro k ⟨n,w⟩ hk hs;have hrec:=r21 v d fuel (b++[(k:Int)]) (by omega) (by simp;omega);rw[show (b++[(k:Int)]).length=b.length+1 by simp] at hrec
     have hst:∀ x6:Int×List Int,x6=(if erK c ps (b++[(k:Int)]) (b.length+1)=0 then cu c ps d (b++[(k:Int)]) else ((ps.length:Int)+1,[]))->OkT (zF6.ite (decide (x6.fst < n)) (zF6.ret (Sum.inl (x6.fst,x6.snd,IntKind.i64.wrap ((k:Int)+1)))) (zF6.ret (Sum.inl (n,w,IntKind.i64.wrap ((k:Int)+1)))):zF6 (Int×List Int×Int⊕Int×List Int×Int⊕Int×List Int⊕Nat×Int×List Int×Int)) fun o=>∃ s':Int×List Int,o=.inl (s'.1,s'.2,((k+1:Nat):Int))∧s'=bsN ((ps.length:Int)+1) (fun k=>if erK c ps (b++[(k:Int)]) (b.length+1)=0 then cu c ps d (b++[(k:Int)]) else ((ps.length:Int)+1,[])) (k+1):=by
      intro x6 hx
      have hb1:bsN ((ps.length:Int)+1) (fun k=>if erK c ps (b++[(k:Int)]) (b.length+1)=0 then cu c ps d (b++[(k:Int)]) else ((ps.length:Int)+1,[])) (k+1)=if x6.1 < n then x6 else (n,w):=by
       rw[hx,show n=(n,w).1 from rfl,hs];rfl
      rw[hb1,aB (show k < 2 ^ 62 by omega)];refine yV (fun q=>qG ⟨x6,rfl,?_⟩) fun q=>qG ⟨(n,w),rfl,?_⟩
      ·rw[if_pos (of_decide_eq_true q)]
      ·rw[if_neg (of_decide_eq_false q)]
     refine jR (decide_eq_true (show (k:Int)<=((lfK c ps b b.length).length:Int) by omega)) (yV (fun q=>?_) fun q=>jR (zPY (by omega)) (jR (zPY (by simp;omega)) ?_))
     ·have hb0:b=[]:=zSW (zPL q);subst hb0;exact qU hrec (hst _ rfl)
     ·exact qU hrec (hst _ rfl)
    ·rintro⟨n,w⟩ hs;refine aR (decide_eq_false (show ¬ (((lfK c ps b b.length).length+1:Nat):Int)<=((lfK c ps b b.length).length:Int) by omega)) (qG ⟨_,rfl,qG hs⟩)
   ·rw[if_pos he,if_neg he,w0];exact jR (bne_iff_ne.2 he) (qG rfl)
end Go.Proofs.YtjcflcpjglpicaaGreatDoor
