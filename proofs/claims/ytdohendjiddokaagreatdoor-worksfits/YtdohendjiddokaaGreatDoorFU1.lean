/- Plain laws of chapter 9: the best way of cutting, the bound and the first fit. Conditions: none. -/
import Derived.Test.YtdohendjiddokaaGreatDoorCU5
set_option linter.all false
set_option maxRecDepth 10000
set_option maxHeartbeats 100000000
namespace Go.Proofs.YtdohendjiddokaaGreatDoor
open Go Go.Idl Go.Sv Go.Proofs
theorem q6M {c:Int}{ps a:List Int}(hl:a.length=ps.length)(h:erK c ps a ps.length=0):csC c ps a=(((lfK c ps a ps.length).length:Int),(0:Int)):=by
 unfold csC;rw[if_neg (by omega),hl,if_neg (fun q=>q h)]
theorem zB1 {c:Int}{ps:List Int}(v:Vc c ps):0<=bdC c ps:=by
 have h1:=q4P v;have h2:=(qPS (c:=c) (ps:=ps) ps.length).1;unfold bdC;split <;> omega
theorem zAT {c:Int}{ps:List Int}:0<=(cu c ps ps.length []).1:=by
 have:=q7B (c:=c) (ps:=ps) ps.length [] (by simp);exact zUI (zUO _) this
theorem q6Q {M:Nat}(h:M<=65536):mkN (M:Int)=some M:=by
 unfold mkN;rw[if_pos (by omega),zQ4]
theorem zAN {l:List Int}{j:Nat}(h:l.length<=j):l.getD j 0=0:=by
 rw[zQN,zRB h];rfl
theorem q62 {n j:Nat}:(List.replicate n (0:Int)).getD j 0=0:=by
 rw[zQN,zR7];split <;> rfl
theorem zEZ {c:Int}{ps a:List Int}(v:Vc c ps)(hl:ps.length<=7)(ha:a.length<=7):OkT (zGM.bind (H15 (c,ps)) fun (x5:List Int×Int)=>zGM.bind (H12 (c,ps)) fun (x6:List Int×Int)=>zGM.bind (H13 (c,ps)) fun (x7:Int×Int)=>zGM.bind (H11 (c,ps,x5.fst)) fun (x8:Int×Int)=>zGM.bind (H11 (c,ps,x6.fst)) fun (x9:Int×Int)=>zGM.bind (zH (fun (s10:Unit)=>zGM.ite (zM (IntKind.i64.wrap (IntKind.i64.wrap (IntKind.i64.wrap (IntKind.i64.wrap (x5.snd+x6.snd)+x7.snd)+x8.snd)+x9.snd) != 0) false) (zGM.ite (zM (decide (x8.fst < x7.fst)) false) (zGM.ite (zM (decide (x9.fst < x8.fst)) false) (zGM.ite (zM (decide (0 < (↑ps.length:Int))) true) (zGM.ret (Sum.inr (decide (IntKind.i64.wrap (2*x7.fst)<=x9.fst)))) (zGM.ret (Sum.inr false))) (zGM.ret (Sum.inr true))) (zGM.ret (Sum.inr true))) (zGM.ret (Sum.inr true))) ()) fun (x10:Bool)=>zGM.ite x10 (zGM.ret false) (zGM.bind (mkN (↑ps.length:Int)) fun (x11:Nat)=>zGM.bind (zH (fun (s12:Int×List Int)=>zGM.ite (decide (s12.fst < (↑x5.fst.length:Int))) (zGM.bind (zH (fun (s13:Unit)=>zGM.ite (zM (decide ((↑ps.length:Int)<=s12.fst)) false) (zGM.bind (idx x5.fst.length s12.fst) fun (x14:Nat)=>zGM.bind x5.fst[x14]? fun (x15:Int)=>zGM.ite (zM (decide (x15 < 0)) false) (zGM.bind (idx x5.fst.length s12.fst) fun (x16:Nat)=>zGM.bind x5.fst[x16]? fun (x17:Int)=>zGM.ite (zM (decide (x8.fst<=x17)) false) (zGM.ret (Sum.inr (decide ((↑ps.length:Int) < x8.fst)))) (zGM.ret (Sum.inr true))) (zGM.ret (Sum.inr true))) (zGM.ret (Sum.inr true))) ()) fun (x13:Bool)=>zGM.ite x13 (zGM.ret (Sum.inr (Sum.inr (Sum.inl false)))) (zGM.bind (idx x5.fst.length s12.fst) fun (x14:Nat)=>zGM.bind x5.fst[x14]? fun (x15:Int)=>zGM.bind (idx s12.snd.length x15) fun (x16:Nat)=>zGM.bind s12.snd[x16]? fun (x17:Int)=>zGM.bind (idx ps.length s12.fst) fun (x18:Nat)=>zGM.bind ps[x18]? fun (x19:Int)=>zGM.bind (idx s12.snd.length x15) fun (x20:Nat)=>zGM.bind s12.snd[x20]? fun (x21:Int)=>zGM.bind (idx x5.fst.length s12.fst) fun (x22:Nat)=>zGM.bind x5.fst[x22]? fun (x23:Int)=>zGM.bind (idx s12.snd.length x23) fun (x24:Nat)=>zGM.bind (s12.snd.set x20 (IntKind.i64.wrap (x17+x19)))[x24]? fun (x25:Int)=>zGM.ite (decide (c < x25)) (zGM.ret (Sum.inr (Sum.inr (Sum.inl false)))) (zGM.ret (Sum.inl (IntKind.i64.wrap (s12.fst+1),s12.snd.set x20 (IntKind.i64.wrap (x17+x19))))))) (zGM.ret (Sum.inr (Sum.inl (s12.fst,s12.snd))))) (0,List.replicate x11 0)) fun (x12:Int×List Int⊕Bool⊕Nat×Int×List Int)=>zGM.sum x12 (fun (s13:Int×List Int)=>zGM.bind (H11 (c,ps,a)) fun (x14:Int×Int)=>zGM.bind (zH (fun (s15:Unit)=>zGM.ite (zM (x14.snd==0) true) (zGM.ret (Sum.inr (decide (x14.fst < x8.fst)))) (zGM.ret (Sum.inr false))) ()) fun (x15:Bool)=>zGM.ite x15 (zGM.ret false) (zGM.ite ((↑ps.length:Int)==0) (zGM.ite (zM (x8.fst==0) true) (zGM.ite (zM (x9.fst==0) true) (zGM.ret (x7.fst==0)) (zGM.ret false)) (zGM.ret false)) (zGM.bind (qT7 ps.length (IntKind.i64.wrap ((↑ps.length:Int) - 1))) fun (x16:Nat)=>zGM.bind (H15 (c,List.take (x16 - 0) (List.drop 0 ps))) fun (x17:List Int×Int)=>zGM.bind (qT7 ps.length (IntKind.i64.wrap ((↑ps.length:Int) - 1))) fun (x18:Nat)=>zGM.bind (H11 (c,List.take (x18 - 0) (List.drop 0 ps),x17.fst)) fun (x19:Int×Int)=>zGM.ite (zM (IntKind.i64.wrap (x17.snd+x19.snd)==0) true) (zGM.ite (zM (decide (x19.fst<=x8.fst)) true) (zGM.ret (decide (IntKind.i64.wrap (x8.fst - 1)<=x19.fst))) (zGM.ret false)) (zGM.ret false)))) fun (s13:Bool⊕Nat×Int×List Int)=>zGM.sum s13 (fun (s14:Bool)=>zGM.ret s14) fun (s14:Nat×Int×List Int)=>zGM.fail)) fun x=>x=true:=by
 have hp:=v.ps;have hc1:=v.lo;have hc2:=v.hi;obtain⟨b1,b2,b3,b4⟩:=qCK hp;have hB:=h15 v (by omega);have hless:=fun M (hM:ps.length=M+1)=>q60 hp hM
 have zKB:=fun (w:List Int) (h1:w.length=ps.length) (h2:erK c ps w ps.length=0)=>qRH (c:=c) (ps:=ps) h1 h2 ps.length [] (by simp) (fun j hj=>absurd hj (zR8 _))
 have hbn:=zAT (c:=c) (ps:=ps);have hff:csC c ps (ffK c ps ps.length)=(((fl c ps ps.length).length:Int),(0:Int)):=q6M (mQ _) (q2Q hp _ (zP0 _));have hfo:=zKB _ (mQ _) (q2Q hp _ (zP0 _));have hbd:=zCV hc1 hp b3;have hb0:=zB1 v;have hfb:0 < ps.length->((fl c ps ps.length).length:Int) < 2*bdC c ps:=fun h=>q06 hc1 hp h (zAJ hp _ (zP0 _))
 have hcs:=q6M b2 b3;have hfl:=q49 (c:=c) (ps:=ps) ps.length;have hBr:=qC8 (b:=(cu c ps ps.length []).2) hp;generalize hA:(cu c ps ps.length []).1=A at *;generalize (cu c ps ps.length []).2=B at *;rw[b4] at hcs hbd;have hfo:A<=((fl c ps ps.length).length:Int):=hfo;generalize hF:fl c ps ps.length=F at *;refine zR hB (zR (h12 v) (zR (h13 v) (zR ((h11 (a:=B) v (by omega)).trans (congrArg some hcs)) (zR ((h11 (a:=ffK c ps ps.length) v (by rw[mQ];omega)).trans (congrArg some hff)) ?_))));generalize hD:bdC c ps=D at *;have wz:∀ x:Int,-100<=x->x<=100->IntKind.i64.wrap x=x:=fun x h1 h2=>aP (by omega) (by omega)
 refine rU (fun t=>t=false) (eY rfl (eY (by rw[qZ4,decide_eq_false (show ¬ A < D by omega)];rfl) (eY (by rw[qZ4,decide_eq_false (show ¬ (F.length:Int) < A by omega)];rfl) (kI (fun q=>qM ⟨_,rfl,decide_eq_false ?_⟩) fun q=>qM ⟨_,rfl,rfl⟩)))) ?_
 ·have q:=of_decide_eq_true q;have:=hfb (by omega);show ¬ IntKind.i64.wrap (2*D)<=(F.length:Int);rw[wz _ (by omega) (by omega)];omega
 rintro t rfl;refine qD1 rfl (zR (q6Q (by omega)) ?_);refine qI1 B.length (fun k (s:List Int)=>((k:Int),s)) (fun k s=>s.length=ps.length∧∀ j,s.getD j 0=if j < (lfK c ps B k).length then c - (lfK c ps B k).getD j 0 else 0) (List.replicate ps.length 0) rfl ⟨zR4,fun j=>?_⟩ ?_ ?_
 ·rw[if_neg (show ¬ j < (lfK c ps B 0).length from zR8 _)];exact q62
 ·rintro k u hk ⟨u1,u2⟩;have hkp:k < ps.length:=by omega
  have he:=wG.1 (qU7 (show k+1<=ps.length by omega) b3);have hmono:=qUF (c:=c) (ps:=ps) (b:=B) (show k+1<=ps.length by omega)
  obtain⟨K,hK⟩:∃ K:Nat,B.getD k 0=(K:Int):=⟨(B.getD k 0).toNat,by omega⟩
  have hK':B[k]=(K:Int):=by rw[<-gDE hk];exact hK
  have hKle:K<=(lfK c ps B k).length:=by have:=he.2.2.1;omega
  have hlen1:(lfK c ps B (k+1)).length=if K < (lfK c ps B k).length then (lfK c ps B k).length else (lfK c ps B k).length+1:=by
   show (put _ _ _ _).length=_;rw[qB6,hK,zQ4]
  have zPX:K < (lfK c ps B (k+1)).length:=by rw[hlen1];split <;> omega
  have hKA:(K:Int) < A:=by omega
  have hKu:K < u.length:=by omega
  have hx:=hp.getD hkp;have hbw:=hBr k (by omega) he.1
  have hnew:∀ j,(lfK c ps B (k+1)).getD j 0=if K=j then (if K < (lfK c ps B k).length then (lfK c ps B k).getD K 0 else c) - ps.getD k 0 else (lfK c ps B k).getD j 0:=by
   intro j;by_cases h:K < (lfK c ps B k).length
   ·rw[q4L hK h,qQH h,if_pos h]
   ·have h:K=(lfK c ps B k).length:=by omega
    rw[q4K hK h,if_neg (show ¬ K < (lfK c ps B k).length by omega),h];by_cases hj:(lfK c ps B k).length=j
    ·rw[if_pos hj,<-hj,jN]
    ·rw[if_neg hj];by_cases hj2:j < (lfK c ps B k).length
     ·rw[tY hj2]
     ·rw[zAN (by simp;omega),zAN (by omega)]
  have huK:=u2 K
  have hval:IntKind.i64.wrap (u[K]+ps[k])=c - (lfK c ps B (k+1)).getD K 0:=by
   rw[hnew,if_pos rfl,<-gDE hKu,<-gDE hkp,huK];by_cases h:K < (lfK c ps B k).length
   ·rw[if_pos h,if_pos h];have:=hbw.getD h;rw[aP (by omega) (by omega)];omega
   ·rw[if_neg h,if_neg h,aP (by omega) (by omega)];omega
  have hpos:0<=(lfK c ps B (k+1)).getD K 0:=by have:=he.2.2.2;rw[hK,zQ4] at this;exact this
  have hkB:=hk;refine eY (qT5 (show (k:Int) < (B.length:Int) by omega)) ?_;refine rU (fun t=>t=false) (eY (by rw[qZ4,decide_eq_false (show ¬ (ps.length:Int)<=(k:Int) by omega)];rfl) (yF k rfl hk (yH hk ?_))) ?_
  ·rw[hK'];refine eY (by rw[qZ4,decide_eq_false (show ¬ (K:Int) < 0 by omega)];rfl) (yF k rfl hk (yH hk ?_));rw[hK'];exact eY (by rw[qZ4,decide_eq_false (show ¬ A<=(K:Int) by omega)];rfl) (qM ⟨_,rfl,decide_eq_false (by omega)⟩)
  ·rintro t rfl;refine qD1 rfl (yF k rfl hk (yH hk (yF K hK' hKu (yH hKu (yF k rfl hkp (yH hkp (yF K hK' hKu (yH hKu (yF k rfl hk (yH hk (yF K hK' hKu ?_)))))))))));rw[hval];refine yH (by rw[zQP];exact hKu) (qD1 ?_ (qM ⟨u.set K (c - (lfK c ps B (k+1)).getD K 0),by simp only[qAH (show k < 2 ^ 62 by omega)],?_,?_⟩))
   ·rw[zRX];exact decide_eq_false (by omega)
   ·rw[zQP];exact u1
   ·intro j;rw[qQH hKu];by_cases hj:K=j
    ·subst hj;rw[if_pos rfl,if_pos zPX]
    ·rw[if_neg hj,u2 j,hnew,if_neg hj,hlen1];by_cases h1:j < (lfK c ps B k).length
     ·rw[if_pos h1,if_pos (by split <;> omega)]
     ·rw[if_neg h1,if_neg (by split <;> omega)]
 ·rintro u hu;refine qD1 (qWQ (show ¬ (B.length:Int) < (B.length:Int) by omega)) (qM ⟨_,rfl,?_⟩);refine zR (h11 v (by omega)) ?_;refine rU (fun t=>t=false) (kI (fun q=>qM ⟨_,rfl,decide_eq_false ?_⟩) fun q=>qM ⟨_,rfl,rfl⟩) ?_
  ·have q:((csC c ps a).2==0)=true:=q;show ¬ (csC c ps a).1 < A;unfold csC at q ⊢;split at q
   ·cases q
   ·rename_i h1;split at q
    ·rename_i h2;exact absurd (beq_iff_eq.1 q) h2
    ·rename_i h2;rw[if_neg h1,if_neg h2];have h1:a.length=ps.length:=Decidable.not_not.1 h1;have:=zKB a h1 (by rw[<-h1];exact Decidable.not_not.1 h2);rw[h1];show ¬ ((lfK c ps a ps.length).length:Int) < A;omega
  ·rintro t rfl;refine qD1 rfl (kI (fun q=>?_) fun q=>?_)
   ·have q:ps.length=0:=by simpa using q
    refine eY (by rw[zEU];exact beq_iff_eq.2 (show A=0 by omega)) (eY (by rw[zEU];exact beq_iff_eq.2 (show (F.length:Int)=0 by omega)) (qM (beq_iff_eq.2 (show D=0 by omega))))
   ·have q:ps.length≠0:=by simpa using q
    obtain⟨M,hM⟩:∃ M,ps.length=M+1:=⟨ps.length - 1,by omega⟩
    have hw:IntKind.i64.wrap ((ps.length:Int) - 1)=(M:Int):=by rw[wz _ (by omega) (by omega)];omega
    have vq:=v.take M;have lq:(ps.take M).length=M:=by rw[zQ3];omega
    obtain⟨q1,q2,q3,q4⟩:=qCK vq.ps;have hq0:=zAT (c:=c) (ps:=ps.take M);have hlq:=hless M hM;rw[hM] at hA;rw[lq] at q1 q2 q3 q4 hq0;have hB2:=h15 vq (by omega);have hc2:=q6M (c:=c) (ps:=ps.take M) (by rw[q2,lq]) (by rw[lq];exact q3);rw[lq] at hB2 hc2;rw[q4] at hc2;rw[hA] at hlq;rw[hw];refine zR (qIC (show M<=ps.length by omega)) (zR hB2 (zR (qIC (show M<=ps.length by omega)) (zR ((h11 vq (by rw[q2];omega)).trans (congrArg some hc2)) ?_)));refine eY rfl (eY (by rw[zEU];exact decide_eq_true hlq.1) (qM (decide_eq_true ?_)));show IntKind.i64.wrap (A - 1)<=(cu c (ps.take M) M []).1;rw[wz _ (by omega) (by omega)];omega
theorem zGL (c:Int)(ps a:List Int):H6 (c,ps,a)=some true:=by
 refine OkT.eq ?_;have aw:=awake;unfold H6 G6
 revert aw
 generalize H9 ()=o9;intro aw;unfold zGM.run;dsimp only;refine zR aw (eY rfl (kI (fun c1=>kI (fun c2=>?_) fun c2=>zR aw (qM rfl)) fun c1=>zR aw (qM rfl)));rw[qZ4,zQX] at c1 c2;have c1:=of_decide_eq_false c1;have c2:=of_decide_eq_false c2;refine zR (h10 (by omega)) (kI (fun c3=>zR aw (qM rfl)) fun c3=>?_);have v:=zD4 (Decidable.not_not.1 fun h=>by rw[bne_iff_ne.2 h] at c3;cases c3);exact zEZ v (by omega) (by omega)
end Go.Proofs.YtdohendjiddokaaGreatDoor
