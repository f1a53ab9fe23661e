/- TopHawserOrders. Conditions: none. -/
import Derived.Test.YtpnecffgnjijjaaGreatDoorTU1
import Derived.Test.YtpnecffgnjijjaaGreatDoorAW9
set_option linter.all false
set_option maxRecDepth 10000
set_option maxHeartbeats 100000000
namespace Go.Proofs.YtpnecffgnjijjaaGreatDoor
open Go Go.Idl Go.Sv Go.Proofs
section
variable {ti fi:List Int}{se:List (List Int)}
def ni (l:List Int)(L:List (List Int)):Bool:=decide (l ∉ L)
theorem zDJ {l:List Int}{L:List (List Int)}:ni l L=true ↔ l ∉ L:=decide_eq_true_iff
theorem zDD {l:List Int}{L:List (List Int)}(h:l∈L):ni l L=false:=decide_eq_false (not_not_intro h)
theorem zAP {l o:List Int}{L:List (List Int)}:ni l (L++[o])=(ni l L&&!decide (o=l)):=by
 by_cases q1:l∈L
 ·rw[zDD q1,zDD (zNM.2 (.inl q1))];rfl
 ·by_cases q2:o=l
  ·rw[zDD (zNM.2 (.inr (zNT.2 q2.symm))),decide_eq_true q2];simp
  ·rw[zDJ.2 q1,decide_eq_false q2];refine zDJ.2 fun hm=>?_
   rcases zNM.1 hm with hm | hm
   ·exact q1 hm
   ·exact q2 (zNT.1 hm).symm
theorem zDS {R:Type}{o:List Int}{i:Nat}{K:Bool×Int⊕Bool⊕Nat×Bool×Int->zE9 R}{Q:R->Prop}(ho:o.length < 2 ^ 62)(hk:OkT (K (.inl (decide ((i:Int)∈o),(o.length:Int)))) Q) :
 OkT (zE9.bind (zG (fun (t:Bool×Int)=>zE9.ite (decide (t.2 < (o.length:Int))) (zE9.bind (idx o.length t.2) fun (j:Nat)=>zE9.bind o[j]? fun (x:Int)=>zE9.ite (zT t.1 false) (zE9.ret (Sum.inl (x==(i:Int),IntKind.i64.wrap (t.2+1)))) (zE9.ret (Sum.inl (true,IntKind.i64.wrap (t.2+1))))) (zE9.ret (Sum.inr (Sum.inl (t.1,t.2))))) (false,0)) K) Q:=by
 refine aM o.length (fun k (b:Bool)=>(b,(k:Int))) (fun k b=>b=decide ((i:Int)∈o.take k)) false rfl (by simp) ?_ ?_
 ·intro k b hk hb
  have e:o.take (k+1)=o.take k++[o[k]]:=by
   rw[zRJ,zM2 hk];rfl
  refine xV (qAG (by show (k:Int) < _;omega)) (zH k rfl hk (zB hk (yV (fun q=>qC ⟨o[k]==(i:Int),by rw[jC (show k < 2 ^ 62 by omega)],?_⟩) fun q=>qC ⟨true,by rw[jC (show k < 2 ^ 62 by omega)],?_⟩)))
  ·rw[qCZ] at q;have q:b=false:=by simpa using q
   rw[q] at hb;have hb:=of_decide_eq_false hb.symm;rw[e];by_cases h:o[k]=(i:Int)
   ·rw[show (o[k]==(i:Int))=true from beq_iff_eq.2 h];exact (decide_eq_true (zNM.2 (.inr (zNT.2 h.symm)))).symm
   ·rw[show (o[k]==(i:Int))=false from beq_eq_false_iff_ne.2 h];refine (decide_eq_false fun hm=>?_).symm;rcases zNM.1 hm with hm | hm
    ·exact hb hm
    ·exact h (zNT.1 hm).symm
  ·rw[qCZ] at q;have q:b=true:=by simpa using q
   rw[q] at hb;have hb:=of_decide_eq_true hb.symm;rw[e];exact (decide_eq_true (zNM.2 (.inl hb))).symm
 ·intro b hb;refine kD (qCY (by show ¬ ((o.length:Nat):Int) < _;omega)) (qC ⟨_,rfl,?_⟩);rw[hb,zPE];exact hk
theorem q9W {A B:List (List Int)}{l:List Int}(hs:Sb ti fi se)(hb:qDD ti fi se=0)(hll:l.length=ti.length)(hod:od ti.length ti.length []=A++l::B)(hA:∀ p∈A,tm ti fi se l < tm ti fi se p)
 (zI6:∀ p,Pm p->p.length=ti.length->tm ti fi se l<=tm ti fi se p) :
 ∀ (d k:Nat) {R:Type} {K:Bool->Bool->zE9 R} {Q:R->Prop} {o:List Int} {pre post:List (List Int)},d+2<=k->o.length+d=ti.length->InR o ti.length->Ds o->od ti.length ti.length []=pre++od ti.length d o++post ->
  OkT (K true (ni l (pre++od ti.length d o))) Q->OkT (HA (ti,fi,se) l (tm ti fi se l) (lst ti fi se) k o (ni l pre) K) Q
 | 0,k,R,K,Q,o,pre,post,hk,hl,hi,hd,e,h=>by
   obtain⟨k,rfl⟩:∃ k',k=k'+2:=⟨k - 2,by omega⟩
   have hl:o.length=ti.length:=hl;unfold HA;dsimp only;refine xV (by rw[hl];simp) ?_;have hp:Pm o:=(q5E hl).2 ⟨hi,hd⟩;refine zC5 hs hb hl hp hll (zI6 o hp hl) (qX7 hp hl) zI6 (fun q q2=>?_) ?_
   ·have e2:A++l::B=pre++o::post:=by
     rw[<-hod,e];show pre++[o]++post=_;rw[zNN];rfl
    exact hA o (qWH e2 (zDJ.1 q) q2)
   ·rw[<-zAP];exact h
 | d+1,k,R,K,Q,o,pre,post,hk,hl,hi,hd,e,h=>by
   obtain⟨k,rfl⟩:∃ k',k=k'+1:=⟨k - 1,by omega⟩
   have hn:=hs.t;unfold HA;dsimp only;refine kD (beq_eq_false_iff_ne.2 (by omega)) ?_;have hg:od ti.length (d+1) o=odF (fun i=>od ti.length d (o++[(i:Int)])) o ti.length:=rfl;rw[hg] at e h;generalize hgg:(fun i:Nat=>od ti.length d (o++[(i:Int)]))=g at e h;refine aM ti.length (fun k (b:Bool)=>((k:Int),b)) (fun i b=>b=ni l (pre++odF g o i)) (ni l pre) rfl (by show _=ni l (pre++[]);rw[zOT]) ?_ ?_
   ·intro i b hin hbi;refine xV (qAG (by show (i:Int) < _;omega)) ?_;refine zDS (by omega) ?_;show OkT (zE9.bind (zG _ ()) _) _;refine jU (fun x=>x=(false,ni l (pre++odF g o (i+1)))) ?_ ?_
    ·have hstep:odF g o (i+1)=odF g o i++if (i:Int)∈o then [] else g i:=rfl;by_cases hm:(i:Int)∈o
     ·rw[if_pos hm,zOT] at hstep;refine kD (by rw[decide_eq_true hm];rfl) (qC ⟨_,rfl,?_⟩);rw[hstep];exact Prod.ext rfl hbi
     ·rw[if_neg hm] at hstep;refine xV (by rw[decide_eq_false hm];rfl) ?_;obtain⟨r,hr⟩:=qUA (g:=g) (b:=o) (i:=i) (m:=ti.length) (by omega);have hgi:g i=od ti.length d ([]++o++[(i:Int)]):=by rw[<-hgg];rfl
      have hb2:InR ([]++o++[(i:Int)]) ti.length:=fun j hj=>by
       have hj:j < o.length+1:=by rw[zQC,zNK] at hj;exact hj
       rw[zQC];by_cases q:j=o.length
       ·subst q;rw[qBT];omega
       ·rw[qD0 (by omega)];exact hi j (by omega)
      show OkT (HA (ti,fi,se) l (tm ti fi se l) (lst ti fi se) k ([]++o++[(i:Int)]) b _) _;rw[show b=_ from hbi];refine q9W hs hb hll hod hA zI6 d k (post:=r++post) (by omega) (by simp;omega) hb2 (by rw[zQC];exact q4B hd hm) ?_ (qC ⟨_,rfl,?_⟩)
      ·rw[e,hr,hstep,hgi];simp[zNN]
      ·rw[hstep,hgi,zNN];rfl
    ·rintro x rfl;refine kD rfl (qC ⟨_,?_,rfl⟩);show Sum.inl (IntKind.i64.wrap ((i:Int)+1),_)=_;rw[jC (show i < 2 ^ 62 by omega)]
   ·intro b hbn;refine kD (qCY (by show ¬ ((ti.length:Nat):Int) < _;omega)) (qC ⟨_,rfl,?_⟩);show OkT (K true b) Q;rw[hbn];exact h
end
theorem zE3 (ti fi:List Int)(se:List (List Int)):H3 (ti,fi,se)=some true:=by
 refine OkT.eq ?_;have aw:=awake;unfold H3 G3
 revert aw
 generalize H6 ()=o6;intro aw;unfold zE9.run;dsimp only;have hh:=h22 (m:=4) (ti:=ti) (fi:=fi) (se:=se) (by omega);refine jU (fun t=>t=true∨(t=false∧shB 4 ti fi se=true∧qDD ti fi se=0)) ?_ ?_
 ·refine zO hh ?_
  cases hsh:shB 4 ti fi se with
  | false=>exact kD rfl (qC ⟨_,rfl,.inl rfl⟩)
  | true =>
    obtain⟨hs,hn⟩:=q9A (by omega) hsh;refine xV rfl (zO (h23 hs) (qC ⟨_,rfl,?_⟩));by_cases hb:qDD ti fi se=0
    ·exact .inr ⟨by rw[hb];rfl,rfl,hb⟩
    ·exact .inl (bne_iff_ne.2 hb)
 rintro t (rfl | ⟨rfl,hsh,hb⟩)
 ·exact xV rfl (zO aw (qC rfl))
 ·obtain⟨hs,hn⟩:=q9A (by omega) hsh;have v:=qSJ hb;have hn1:=v.n1;obtain⟨b1,b2,b3⟩:=zD0 (ti:=ti) (fi:=fi) (se:=se) (n:=ti.length) hn1;obtain⟨A,B,hod,hA⟩:=q1O (ti:=ti) (fi:=fi) (se:=se) (n:=ti.length) hn1;refine kD rfl (zO (h32 hs hb (by omega)) ?_);generalize (bq ti fi se ti.length).1=l at *;refine zO (h25 hs hb b2 b1) (zO (h26 hs hb) ?_);dsimp only;refine jU (fun t=>t=false) (xV rfl (qC ⟨_,rfl,?_⟩)) ?_
  ·rw[b2];simp
  rintro t rfl;refine kD rfl ?_;refine q9W (pre:=[]) (post:=[]) hs hb b2 hod hA b3 ti.length 6 (by omega) (by simp) (qG0 _) q3I (by simp) ?_;exact xV rfl (zO aw (qC rfl))
end Go.Proofs.YtpnecffgnjijjaaGreatDoor
