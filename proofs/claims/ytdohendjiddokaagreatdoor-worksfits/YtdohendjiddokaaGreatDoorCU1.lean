/- Plain laws of chapter 9: coils and pieces, ways of cutting, by the program and by the reference. Conditions: none. -/
import Derived.Test.YtdohendjiddokaaGreatDoorPU1
import Derived.Test.YtdohendjiddokaaGreatDoorPX3
import Derived.Test.YtdohendjiddokaaGreatDoorMI1
set_option linter.all false
set_option maxRecDepth 10000
set_option maxHeartbeats 100000000
namespace Go.Proofs.YtdohendjiddokaaGreatDoor
open Go Go.Idl Go.Sv Go.Proofs
def pE (c x:Int):Int:=cond (outs x 1 999999999) 3 (cond (decide (c < x)) 4 0)
def q53 (c:Int)(ps:List Int):Int:=cond (outs c 1 999999999) 3 (cond (decide (64 < (ps.length:Int))) 5 (fnz (ps.map (pE c))))
theorem qAZ:∀ {l:List Int},(∀ k,k < l.length->l.getD k 0=0)->fnz l=0
 | [],_=>rfl
 | x::l,h=>by
   have h0:x=0:=h 0 (Nat.zero_lt_succ _);have:=qAZ (l:=l) fun k hk=>h (k+1) (zS3 hk)
   unfold fnz;rw[h0,this];rfl
theorem qW3:∀ {l:List Int} {k:Nat},k < l.length->l.getD k 0≠0->(∀ j,j < k->l.getD j 0=0)->fnz l=l.getD k 0
 | [],k,h,_,_=>absurd h (zR8 _)
 | x::l,0,_,h0,_=>by
   have h0:x≠0:=h0;unfold fnz;rw[bne_iff_ne.2 h0];rfl
 | x::l,k+1,h,h0,hz=>by
   have hx:x=0:=hz 0 (Nat.zero_lt_succ _);have:=qW3 (l:=l) (Nat.lt_of_succ_lt_succ h) h0 fun j hj=>hz (j+1) (zS3 hj)
   unfold fnz;rw[hx,this];rfl
theorem oM {c:Int}{ps:List Int}{k:Nat}(hk:k < ps.length):(ps.map (pE c)).getD k 0=pE c (ps.getD k 0):=by
 rw[gDE (by rw[zP5];exact hk),List.getElem_map,gDE hk]
theorem h10 {c:Int}{ps:List Int}(hl:ps.length < 2 ^ 62):H10 (c,ps)=some (q53 c ps):=by
 refine OkT.eq ?_;show OkT (G10 c ps) _;unfold G10 q53;refine zR (h57 _ _ _) (kI (fun h=>qM (by rw[h];rfl)) fun h=>?_);rw[h];refine kI (fun h=>qM (by rw[h];rfl)) fun h=>?_
 rw[h];show OkT _ fun x=>x=fnz (ps.map (pE c))
 refine qGL ps.length (fun k=>pE c (ps.getD k 0)≠0) (fun k=>.inr (.inl (pE c (ps.getD k 0)))) (.inl (ps.length:Int)) ?_ ?_ ?_ ?_
 ·intro k hk;refine eY (qT5 (by omega)) (yF k rfl hk (yH hk ?_));rw[gDE hk];refine zR (h57 _ _ _) (kI (fun h=>qM (.inl ?_)) fun h=>yF k rfl hk (yH hk (kI (fun h2=>qM (.inl ?_)) fun h2=>qM (.inr ?_))))
  ·unfold pE;rw[h];exact⟨show (3:Int)≠0 by decide,rfl⟩
  ·unfold pE;rw[h,h2];exact⟨show (4:Int)≠0 by decide,rfl⟩
  ·unfold pE;rw[h,h2,qAH (show k < 2 ^ 62 by omega)];exact⟨fun q=>q rfl,rfl⟩
 ·exact qD1 (qWQ (by omega)) (qM rfl)
 ·intro k hk hp hj;refine qM ?_;rw[qW3 (k:=k) (by rw[zP5];exact hk) (by rw[oM hk];exact hp) fun j hjk=>by rw[oM (by omega)];exact Decidable.not_not.1 (hj j hjk),oM hk]
 ·intro hn;exact qM (qAZ fun k hk=>by rw[zP5] at hk;rw[oM hk];exact Decidable.not_not.1 (hn k hk)).symm
theorem q3S (a b:Int):fnz [a,b]=cond (a != 0) a b:=by
 show cond (a != 0) a (cond (b != 0) b 0)=_;by_cases h:b=0
 ·subst h;rfl
 ·rw[bne_iff_ne.2 h];rfl
theorem h14 {c:Int}{ps:List Int}(hl:ps.length < 2 ^ 62):H14 (c,ps)=some (q53 c ps):=by
 refine OkT.eq ?_;show OkT (G14 c ps) _;unfold G14 q53;refine zR (h69 (by simp)) (zR (h59 _ _) (zR (h58 _ (by simp)) ?_));have e1:∀ x:Int,([x].any fun y=>outs y 1 999999999)=outs x 1 999999999:=fun x=>by simp
 rw[q3S,e1]
 cases h:outs c 1 999999999 with
 | true=>exact eY rfl (qM rfl)
 | false =>
 cases h2:decide (64 < (ps.length:Int)) with
 | true=>exact eY rfl (qM rfl)
 | false =>
 refine qD1 rfl ?_;show OkT _ fun x=>x=fnz (ps.map (pE c))
 refine qGL ps.length (fun k=>pE c (ps.getD k 0)≠0) (fun k=>.inr (.inl (pE c (ps.getD k 0)))) (.inl (ps.length:Int)) ?_ ?_ ?_ ?_
 ·intro k hk;refine eY (qT5 (by omega)) (yF k rfl hk (yH hk ?_));rw[gDE hk];refine zR (h69 (by simp)) (zR (h59 _ _) (zR (h58 _ (by simp)) ?_));rw[q3S,e1]
  have e2:cond (cond (outs ps[k] 1 999999999) (3:Int) 0 != 0) (cond (outs ps[k] 1 999999999) 3 0) (cond (decide (c < ps[k])) 4 0)=pE c ps[k]:=by
   unfold pE;cases outs ps[k] 1 999999999 <;> rfl
  rw[e2];refine kI (fun h=>qM (.inl ⟨bne_iff_ne.1 h,rfl⟩)) fun h=>qM (.inr ⟨?_,?_⟩)
  ·intro q;rw[bne_iff_ne.2 q] at h;cases h
  ·rw[qAH (show k < 2 ^ 62 by omega)]
 ·exact qD1 (qWQ (by omega)) (qM rfl)
 ·intro k hk hp hj;refine qM ?_;rw[qW3 (k:=k) (by rw[zP5];exact hk) (by rw[oM hk];exact hp) fun j hjk=>by rw[oM (by omega)];exact Decidable.not_not.1 (hj j hjk),oM hk]
 ·intro hn;exact qM (qAZ fun k hk=>by rw[zP5] at hk;rw[oM hk];exact Decidable.not_not.1 (hn k hk)).symm
structure Vc (c:Int) (ps:List Int):Prop where
 lo:1<=c
 hi:c<=999999999
 len:ps.length<=64
 ps:Bw ps 1 c
theorem zD4 {c:Int}{ps:List Int}(h:q53 c ps=0):Vc c ps:=by
 unfold q53 at h
 cases h1:outs c 1 999999999 with
 | true=>rw[h1] at h;cases h
 | false =>
 rw[h1] at h
 cases h2:decide (64 < (ps.length:Int)) with
 | true=>rw[h2] at h;cases h
 | false =>
 rw[h2] at h;have h:fnz (ps.map (pE c))=0:=h;have h2:=of_decide_eq_false h2;have h1:(decide (c < 1)||decide (999999999 < c))=false:=h1;simp at h1;refine⟨h1.1,h1.2,by omega,fun x hx=>?_⟩
 have hx0:pE c x=0:=Decidable.byContradiction fun hne=>by
  have key:∀ l:List Int,x∈l->fnz (l.map (pE c))≠0:=by
   intro l
   induction l with
   | nil=>intro h;cases h
   | cons y l ih =>
     intro hm;show cond (pE c y != 0) (pE c y) (fnz (l.map (pE c)))≠0;by_cases hy:pE c y=0
     ·rw[hy];rcases zQK.1 hm with rfl | hm
      ·exact absurd hy hne
      ·exact ih hm
     ·rw[bne_iff_ne.2 hy];exact hy
  exact key ps hx h
 unfold pE at hx0
 cases h3:outs x 1 999999999 with
 | true=>rw[h3] at hx0;cases hx0
 | false =>
 rw[h3] at hx0
 cases h4:decide (c < x) with
 | true=>rw[h4] at hx0;cases hx0
 | false =>
 have h4:=of_decide_eq_false h4;have h3:(decide (x < 1)||decide (999999999 < x))=false:=h3;simp at h3;omega
theorem Vc.bad {c:Int}{ps:List Int}(h:Vc c ps):q53 c ps=0:=by
 have h1:=h.lo;have h2:=h.hi;have h3:=h.len;unfold q53;rw[show outs c 1 999999999=false by unfold outs;simp;omega,decide_eq_false (show ¬ 64 < (ps.length:Int) by omega)];refine qAZ fun k hk=>?_
 rw[zP5] at hk;rw[oM hk];have:=h.ps.getD hk;generalize ps.getD k 0=x at this ⊢;unfold pE;rw[show outs x 1 999999999=false by unfold outs;simp;omega,decide_eq_false (show ¬ c < x by omega)];rfl
theorem Vc.take {c:Int}{ps:List Int}(h:Vc c ps)(n:Nat):Vc c (ps.take n):=⟨h.lo,h.hi,by have:=h.len;rw[zQ3];omega,h.ps.take n⟩
def csC (c:Int)(ps a:List Int):Int×Int:=if a.length≠ps.length then (0,2) else if erK c ps a a.length≠0 then (0,erK c ps a a.length) else ((lfK c ps a a.length).length,0)
theorem qU9 {c:Int}{ps a:List Int}{k:Nat}(he:erK c ps a k=0):erK c ps a (k+1)=if a.getD k 0 < 0∨((lfK c ps a k).length:Int) < a.getD k 0 then 11 else if (lfK c ps a (k+1)).getD (a.getD k 0).toNat 0 < 0 then 31 else 0:=by
 show (if erK c ps a k≠0 then erK c ps a k else _)=_;rw[if_neg (fun q=>q he)]
theorem qYL {c:Int}{ps a:List Int}{k:Nat}{e:Int}(hl:a.length=ps.length)(hk:k < a.length)(h:erK c ps a (k+1)=e)(he:e≠0):csC c ps a=(0,e):=by
 have h1:=zDB (show k+1<=a.length by omega) (by rw[h];exact he);unfold csC;rw[if_neg (by omega),h1,h,if_pos he]
theorem q4L {c:Int}{ps a:List Int}{k K:Nat}(hK:a.getD k 0=(K:Int))(h:K < (lfK c ps a k).length):lfK c ps a (k+1)=(lfK c ps a k).set K ((lfK c ps a k).getD K 0 - ps.getD k 0):=by
 show put _ _ _ _=_;rw[hK,zQ4,oD h]
theorem q4K {c:Int}{ps a:List Int}{k K:Nat}(hK:a.getD k 0=(K:Int))(h:K=(lfK c ps a k).length):lfK c ps a (k+1)=lfK c ps a k++[c - ps.getD k 0]:=by
 show put _ _ _ _=_;rw[hK,zQ4,nW (by omega)]
theorem qR6 {l:List Int}{x y:Int}:(l++[x]).set l.length y=l++[y]:=by
 rw[List.set_append_right _ _ (zP0 _),zUE];rfl
theorem zBJ {c:Int}{ps a:List Int}{k:Nat}(he:erK c ps a k=0)(h:a.getD k 0 < 0∨((lfK c ps a k).length:Int) < a.getD k 0):erK c ps a (k+1)=11:=by
 rw[qU9 he,if_pos h]
theorem zE4 {c:Int}{ps a:List Int}{k K:Nat}(he:erK c ps a k=0)(hK:a.getD k 0=(K:Int))(h:K<=(lfK c ps a k).length):erK c ps a (k+1)=if (lfK c ps a (k+1)).getD K 0 < 0 then 31 else 0:=by
 rw[qU9 he,if_neg (by omega),hK,zQ4]
end Go.Proofs.YtdohendjiddokaaGreatDoor
