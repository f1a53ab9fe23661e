/- Plain laws of chapter 9: coils and pieces, ways of cutting, by the program and by the reference. Conditions: none. -/
import Derived.Test.YtjcflcpjglpicaaGreatDoorPU1
import Derived.Test.YtjcflcpjglpicaaGreatDoorPX3
import Derived.Test.YtjcflcpjglpicaaGreatDoorMI1
set_option linter.all false
set_option maxRecDepth 10000
set_option maxHeartbeats 100000000
namespace Go.Proofs.YtjcflcpjglpicaaGreatDoor
open Go Go.Idl Go.Sv Go.Proofs
def pE (c x:Int):Int:=cond (outs x 1 999999999) 3 (cond (decide (c < x)) 4 0)
def qL5 (c:Int)(ps:List Int):Int:=cond (outs c 1 999999999) 3 (cond (decide (64 < (ps.length:Int))) 5 (fnz (ps.map (pE c))))
theorem qAM:∀ {l:List Int},(∀ k,k < l.length->l.getD k 0=0)->fnz l=0
 | [],_=>rfl
 | x::l,h=>by
   have h0:x=0:=h 0 (Nat.zero_lt_succ _);have:=qAM (l:=l) fun k hk=>h (k+1) (zSN hk)
   unfold fnz;rw[h0,this];rfl
theorem qUO:∀ {l:List Int} {k:Nat},k < l.length->l.getD k 0≠0->(∀ j,j < k->l.getD j 0=0)->fnz l=l.getD k 0
 | [],k,h,_,_=>absurd h (zT1 _)
 | x::l,0,_,h0,_=>by
   have h0:x≠0:=h0;unfold fnz;rw[bne_iff_ne.2 h0];rfl
 | x::l,k+1,h,h0,hz=>by
   have hx:x=0:=hz 0 (Nat.zero_lt_succ _);have:=qUO (l:=l) (Nat.lt_of_succ_lt_succ h) h0 fun j hj=>hz (j+1) (zSN hj)
   unfold fnz;rw[hx,this];rfl
theorem oM {c:Int}{ps:List Int}{k:Nat}(hk:k < ps.length):(ps.map (pE c)).getD k 0=pE c (ps.getD k 0):=by
 rw[gDE (by rw[zPR];exact hk),List.getElem_map,gDE hk]
theorem h10 {c:Int}{ps:List Int}(hl:ps.length < 2 ^ 62):H10 (c,ps)=some (qL5 c ps):=by
 refine OkT.eq ?_;show OkT (G10 c ps) _;unfold G10 qL5;refine qU (h57 _ _ _) (yV (fun h=>qG (by rw[h];rfl)) fun h=>?_);rw[h];refine yV (fun h=>qG (by rw[h];rfl)) fun h=>?_
 rw[h];show OkT _ fun x=>x=fnz (ps.map (pE c))
 refine sU ps.length (fun k=>pE c (ps.getD k 0)≠0) (fun k=>.inr (.inl (pE c (ps.getD k 0)))) (.inl (ps.length:Int)) ?_ ?_ ?_ ?_
 ·intro k hk;refine jR (qK9 (by omega)) (zA k rfl hk (zB hk ?_));rw[gDE hk];refine qU (h57 _ _ _) (yV (fun h=>qG (.inl ?_)) fun h=>zA k rfl hk (zB hk (yV (fun h2=>qG (.inl ?_)) fun h2=>qG (.inr ?_))))
  ·unfold pE;rw[h];exact⟨show (3:Int)≠0 by decide,rfl⟩
  ·unfold pE;rw[h,h2];exact⟨show (4:Int)≠0 by decide,rfl⟩
  ·unfold pE;rw[h,h2,aB (show k < 2 ^ 62 by omega)];exact⟨fun q=>q rfl,rfl⟩
 ·exact aR (qMG (by omega)) (qG rfl)
 ·intro k hk hp hj;refine qG ?_;rw[qUO (k:=k) (by rw[zPR];exact hk) (by rw[oM hk];exact hp) fun j hjk=>by rw[oM (by omega)];exact Decidable.not_not.1 (hj j hjk),oM hk]
 ·intro hn;exact qG (qAM fun k hk=>by rw[zPR] at hk;rw[oM hk];exact Decidable.not_not.1 (hn k hk)).symm
theorem qOC (a b:Int):fnz [a,b]=cond (a != 0) a b:=by
 show cond (a != 0) a (cond (b != 0) b 0)=_;by_cases h:b=0
 ·subst h;rfl
 ·rw[bne_iff_ne.2 h];rfl
theorem h14 {c:Int}{ps:List Int}(hl:ps.length < 2 ^ 62):H14 (c,ps)=some (qL5 c ps):=by
 refine OkT.eq ?_;show OkT (G14 c ps) _;unfold G14 qL5;refine qU (h69 (by simp)) (qU (h59 _ _) (qU (h58 _ (by simp)) ?_));have e1:∀ x:Int,([x].any fun y=>outs y 1 999999999)=outs x 1 999999999:=fun x=>by simp
 rw[qOC,e1]
 cases h:outs c 1 999999999 with
 | true=>exact jR rfl (qG rfl)
 | false =>
 cases h2:decide (64 < (ps.length:Int)) with
 | true=>exact jR rfl (qG rfl)
 | false =>
 refine aR rfl ?_;show OkT _ fun x=>x=fnz (ps.map (pE c))
 refine sU ps.length (fun k=>pE c (ps.getD k 0)≠0) (fun k=>.inr (.inl (pE c (ps.getD k 0)))) (.inl (ps.length:Int)) ?_ ?_ ?_ ?_
 ·intro k hk;refine jR (qK9 (by omega)) (zA k rfl hk (zB hk ?_));rw[gDE hk];refine qU (h69 (by simp)) (qU (h59 _ _) (qU (h58 _ (by simp)) ?_));rw[qOC,e1]
  have e2:cond (cond (outs ps[k] 1 999999999) (3:Int) 0 != 0) (cond (outs ps[k] 1 999999999) 3 0) (cond (decide (c < ps[k])) 4 0)=pE c ps[k]:=by
   unfold pE;cases outs ps[k] 1 999999999 <;> rfl
  rw[e2];refine yV (fun h=>qG (.inl ⟨bne_iff_ne.1 h,rfl⟩)) fun h=>qG (.inr ⟨?_,?_⟩)
  ·intro q;rw[bne_iff_ne.2 q] at h;cases h
  ·rw[aB (show k < 2 ^ 62 by omega)]
 ·exact aR (qMG (by omega)) (qG rfl)
 ·intro k hk hp hj;refine qG ?_;rw[qUO (k:=k) (by rw[zPR];exact hk) (by rw[oM hk];exact hp) fun j hjk=>by rw[oM (by omega)];exact Decidable.not_not.1 (hj j hjk),oM hk]
 ·intro hn;exact qG (qAM fun k hk=>by rw[zPR] at hk;rw[oM hk];exact Decidable.not_not.1 (hn k hk)).symm
structure Vc (c:Int) (ps:List Int):Prop where
 lo:1<=c
 hi:c<=999999999
 len:ps.length<=64
 ps:Bw ps 1 c
theorem zET {c:Int}{ps:List Int}(h:qL5 c ps=0):Vc c ps:=by
 unfold qL5 at h
 cases h1:outs c 1 999999999 with
 | true=>rw[h1] at h;cases h
 | false =>
 rw[h1] at h
 cases h2:decide (64 < (ps.length:Int)) with
 | true=>rw[h2] at h;cases h
 | false =>
 rw[h2] at h;have h:fnz (ps.map (pE c))=0:=h;have h2:=of_decide_eq_false h2;have h1:(decide (c < 1)||decide (999999999 < c))=false:=h1;simp at h1;refine⟨h1.1,h1.2,by omega,fun x hx=>?_⟩
 have hx0:pE c x=0:=Decidable.byContradiction fun hne=>by
  have key:∀ l:List Int,x∈l->fnz (l.map (pE c))≠0:=by
   intro l
   induction l with
   | nil=>intro h;cases h
   | cons y l ih =>
     intro hm;show cond (pE c y != 0) (pE c y) (fnz (l.map (pE c)))≠0;by_cases hy:pE c y=0
     ·rw[hy];rcases zP6.1 hm with rfl | hm
      ·exact absurd hy hne
      ·exact ih hm
     ·rw[bne_iff_ne.2 hy];exact hy
  exact key ps hx h
 unfold pE at hx0
 cases h3:outs x 1 999999999 with
 | true=>rw[h3] at hx0;cases hx0
 | false =>
 rw[h3] at hx0
 cases h4:decide (c < x) with
 | true=>rw[h4] at hx0;cases hx0
 | false =>
 have h4:=of_decide_eq_false h4;have h3:(decide (x < 1)||decide (999999999 < x))=false:=h3;simp at h3;omega
theorem Vc.bad {c:Int}{ps:List Int}(h:Vc c ps):qL5 c ps=0:=by
 have h1:=h.lo;have h2:=h.hi;have h3:=h.len;unfold qL5;rw[show outs c 1 999999999=false by unfold outs;simp;omega,decide_eq_false (show ¬ 64 < (ps.length:Int) by omega)];refine qAM fun k hk=>?_
 rw[zPR] at hk;rw[oM hk];have:=h.ps.getD hk;generalize ps.getD k 0=x at this ⊢;unfold pE;rw[show outs x 1 999999999=false by unfold outs;simp;omega,decide_eq_false (show ¬ c < x by omega)];rfl
theorem Vc.take {c:Int}{ps:List Int}(h:Vc c ps)(n:Nat):Vc c (ps.take n):=⟨h.lo,h.hi,by have:=h.len;rw[zQV];omega,h.ps.take n⟩
def csC (c:Int)(ps a:List Int):Int×Int:=if a.length≠ps.length then (0,2) else if erK c ps a a.length≠0 then (0,erK c ps a a.length) else ((lfK c ps a a.length).length,0)
theorem qYT {c:Int}{ps a:List Int}{k:Nat}(he:erK c ps a k=0):erK c ps a (k+1)=if a.getD k 0 < 0∨((lfK c ps a k).length:Int) < a.getD k 0 then 11 else if (lfK c ps a (k+1)).getD (a.getD k 0).toNat 0 < 0 then 31 else 0:=by
 show (if erK c ps a k≠0 then erK c ps a k else _)=_;rw[if_neg (fun q=>q he)]
theorem qJN {c:Int}{ps a:List Int}{k:Nat}{e:Int}(hl:a.length=ps.length)(hk:k < a.length)(h:erK c ps a (k+1)=e)(he:e≠0):csC c ps a=(0,e):=by
 have h1:=zAB (show k+1<=a.length by omega) (by rw[h];exact he);unfold csC;rw[if_neg (by omega),h1,h,if_pos he]
theorem q4V {c:Int}{ps a:List Int}{k K:Nat}(hK:a.getD k 0=(K:Int))(h:K < (lfK c ps a k).length):lfK c ps a (k+1)=(lfK c ps a k).set K ((lfK c ps a k).getD K 0 - ps.getD k 0):=by
 show put _ _ _ _=_;rw[hK,zQ2,qEC h]
theorem q4E {c:Int}{ps a:List Int}{k K:Nat}(hK:a.getD k 0=(K:Int))(h:K=(lfK c ps a k).length):lfK c ps a (k+1)=lfK c ps a k++[c - ps.getD k 0]:=by
 show put _ _ _ _=_;rw[hK,zQ2,qEF (by omega)]
theorem qAV {l:List Int}{x y:Int}:(l++[x]).set l.length y=l++[y]:=by
 rw[List.set_append_right _ _ (zPM _),zTX];rfl
theorem q7C {c:Int}{ps a:List Int}{k:Nat}(he:erK c ps a k=0)(h:a.getD k 0 < 0∨((lfK c ps a k).length:Int) < a.getD k 0):erK c ps a (k+1)=11:=by
 rw[qYT he,if_pos h]
theorem zA1 {c:Int}{ps a:List Int}{k K:Nat}(he:erK c ps a k=0)(hK:a.getD k 0=(K:Int))(h:K<=(lfK c ps a k).length):erK c ps a (k+1)=if (lfK c ps a (k+1)).getD K 0 < 0 then 31 else 0:=by
 rw[qYT he,if_neg (by omega),hK,zQ2]
theorem h18 {c:Int}{ps a:List Int}(v:Vc c ps)(ha:a.length<=67):H18 (c,ps,a)=some (csC c ps a):=by
 have hc1:=v.lo;have hc2:=v.hi;have hpl:=v.len;refine OkT.eq ?_;show OkT (G18 c ps a) _;unfold G18;by_cases hn:a.length=ps.length
 ·refine aR (by simp[hn]) ?_;refine qUJ (fun s=>∃ k:Nat,s.1=(k:Int)∧k<=a.length∧s.2=lfK c ps a k∧erK c ps a k=0) (fun s=>a.length - s.1.toNat) ⟨0,rfl,zRJ _,rfl,rfl⟩ ?_;rintro⟨i,l⟩ ⟨k,h1,h2,h3,he⟩;obtain rfl:i=(k:Int):=h1;have h3:l=lfK c ps a k:=h3;by_cases hk:k < a.length
  ·have hkp:k < ps.length:=by omega
   have hp:=v.ps.getD hkp;have hb:=qLZ (b:=a) v.ps k (by omega) he;have hll:=nM (c:=c) (ps:=ps) (b:=a) k;rw[<-h3] at hb hll;refine jR (qK9 (show (k:Int) < (a.length:Int) by omega)) (zA k rfl hk (zB hk (qU (h57 _ _ _) (yV (fun q=>qG ?_) fun q=>zA k rfl hk (zB hk ?_)))))
   ·show OkT (zF6.ret ((0:Int),(11:Int))) _;refine qG (qJN hn hk (q7C he ?_) (by decide)).symm;unfold outs at q;rw[gDE hk,<-h3];simp at q;exact q
   ·unfold outs at q;simp at q
    obtain⟨K,hK⟩:∃ K:Nat,a[k]=(K:Int):=⟨a[k].toNat,by omega⟩
    have hK':a.getD k 0=(K:Int):=by rw[gDE hk];exact hK
    have het:=zA1 (c:=c) (ps:=ps) he hK' (by rw[<-h3];omega)
    have hstep:∀ L:List Int,L=lfK c ps a (k+1)->∀ (x20:Int),x20=L.getD K 0->OkT (zF6.ite (decide (x20 < 0)) (zF6.ret (Sum.inr (Sum.inr (Sum.inl (0,31))))) (zF6.ret (Sum.inl (IntKind.i64.wrap ((k:Int)+1),L))):zF6 (Int×List Int⊕Int×List Int⊕Int×Int⊕Nat×Int×List Int)) fun o=>(o=.inl (((k+1:Nat):Int),lfK c ps a (k+1))∧erK c ps a (k+1)=0)∨(o=.inr (.inr (.inl (0,31)))∧erK c ps a (k+1)=31):=by
     intro L hL x20 hx;subst hL;refine yV (fun q2=>qG (.inr ⟨rfl,?_⟩)) fun q2=>qG (.inl ⟨?_,?_⟩)
     ·have q2:=of_decide_eq_true q2;exact het.trans (if_pos (by omega))
     ·rw[aB (by omega)]
     ·have q2:=of_decide_eq_false q2;exact het.trans (if_neg (by omega))
    have hfin:∀ o:Int×List Int⊕Int×List Int⊕Int×Int⊕Nat×Int×List Int,(o=.inl (((k+1:Nat):Int),lfK c ps a (k+1))∧erK c ps a (k+1)=0)∨(o=.inr (.inr (.inl (0,31)))∧erK c ps a (k+1)=31)->(∃ s',o=.inl s'∧(∃ k':Nat,s'.1=(k':Int)∧k'<=a.length∧s'.2=lfK c ps a k'∧erK c ps a k'=0)∧a.length - s'.1.toNat < a.length - (k:Int).toNat)∨(o=.inr (.inr (.inl (csC c ps a)))):=by
     rintro o (⟨rfl,h⟩ | ⟨rfl,h⟩)
     ·exact .inl ⟨_,rfl,⟨k+1,rfl,hk,rfl,h⟩,by show a.length - ((k+1:Nat):Int).toNat < _;omega⟩
     ·exact .inr (by rw[qJN hn hk h (by decide)])
    refine yV (fun q2=>?_) fun q2=>?_
    ·have q2:a[k]=(l.length:Int):=by simpa using q2
     have hKl:K=l.length:=by omega
     subst hKl;have hlast:l.length < (l++[c]).length:=by simp
     have hg:(l++[c])[l.length]=c:=by simp
     have hw:IntKind.i64.wrap (c - ps[k])=c - ps.getD k 0:=by rw[<-gDE hkp,uI (by omega) (by omega)]
     refine jR (zPY (by simp;omega)) (zA k rfl hk (zB hk (zA l.length hK (by simp) (zB hlast (zA k rfl hkp (zB hkp (zA l.length hK (by simp) (zB hlast (zA k rfl hk (zB hk (zA l.length hK (by simp) ?_)))))))))));simp only[hg,hw,qAV];refine zB (by simp) ?_;refine (hstep (l++[c - ps.getD k 0]) (by rw[q4E hK' (by rw[<-h3]),<-h3]) _ (gDE (by simp)).symm).mono fun o ho=>?_
     rcases hfin o ho with ⟨s',rfl,q3,q4⟩ | rfl
     ·exact⟨q3,q4⟩
     ·exact qG rfl
    ·have q2:¬ a[k]=(l.length:Int):=by simpa using q2
     have hKl:K < l.length:=by omega
     have hx:=hb.get hKl;have hw:IntKind.i64.wrap (l[K] - ps[k])=l.getD K 0 - ps.getD k 0:=by rw[gDE hKl,<-gDE hkp,uI (by omega) (by omega)]
     refine zA k rfl hk (zB hk (zA K hK hKl (zB hKl (zA k rfl hkp (zB hkp (zA K hK hKl (zB hKl (zA k rfl hk (zB hk (zA K hK hKl ?_))))))))));rw[hw];refine zB (by rw[zQM];exact hKl) ?_;refine (hstep (l.set K (l.getD K 0 - ps.getD k 0)) (by rw[q4V hK' (by rw[<-h3];exact hKl),<-h3]) _ (gDE (by rw[zQM];exact hKl)).symm).mono fun o ho=>?_
     rcases hfin o ho with ⟨s',rfl,q3,q4⟩ | rfl
     ·exact⟨q3,q4⟩
     ·exact qG rfl
  ·have hka:k=a.length:=by omega
   refine aR (qMG (by omega)) (qG ?_);show OkT (zF6.ret ((l.length:Int),(0:Int))) _;refine qG ?_;unfold csC;rw[if_neg (by omega),<-hka,if_neg (fun q=>q he),h3]
 ·refine jR (by simp;omega) (qG ?_);unfold csC;rw[if_pos hn]
end Go.Proofs.YtjcflcpjglpicaaGreatDoor
