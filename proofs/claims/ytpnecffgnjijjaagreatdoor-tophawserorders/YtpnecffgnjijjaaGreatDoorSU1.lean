/- Plain laws of chapter 9: shops and their errors. Conditions: none. -/
import Derived.Test.YtpnecffgnjijjaaGreatDoorPU1
import Derived.Test.YtpnecffgnjijjaaGreatDoorPX2
import Derived.Test.YtpnecffgnjijjaaGreatDoorMI1
set_option linter.all false
set_option maxRecDepth 10000
set_option maxHeartbeats 100000000
namespace Go.Proofs.YtpnecffgnjijjaaGreatDoor
open Go Go.Idl Go.Sv Go.Proofs
theorem qW7 {R S τ:Type}{F:S->Option (S⊕τ)}{K:τ->zE9 R}{s:S}{t:τ}{Q:R->Prop}(h:F s=some (.inr t))(hk:OkT (K t) Q):OkT (zE9.bind (zG F s) K) Q:=by
 rw[qAY h];exact hk
theorem jU {R S τ:Type}{F:S->Option (S⊕τ)}{K:τ->zE9 R}{s:S}{Q:R->Prop}(P:τ->Prop)(h:OkT (F s) fun o=>∃ t,o=.inr t∧P t)(hk:∀ t,P t->OkT (K t) Q):OkT (zE9.bind (zG F s) K) Q:=by
 obtain⟨o,h1,t,rfl,h2⟩:=h;exact qW7 h1 (hk t h2)
theorem gDL {l:List (List Int)}{i:Nat}(h:i < l.length):l.getD i []=l[i]:=by
 rw[zOE,zM2 h];rfl
def shB (m:Nat)(ti fi:List Int)(se:List (List Int)):Bool:=decide (ti.length<=m)&&(decide (fi.length<=m+2)&&(decide (se.length<=m+2)&&se.all fun r=>decide (r.length<=m+2)))
theorem h22 {m:Nat}{ti fi:List Int}{se:List (List Int)}(hm:m<=100):H4 ((ti,fi,se),(m:Int))=some (shB m ti fi se):=by
 refine OkT.eq ?_;show OkT (G4 (ti,fi,se) (m:Int)) _;unfold G4 shB;have w:IntKind.i64.wrap ((m:Int)+2)=((m+2:Nat):Int):=by rw[qR6 (by omega) (by omega)];omega
 simp only[w];refine yV (fun c1=>?_) fun c1=>?_
 ·rw[qCZ,zNJ] at c1;have c1:=of_decide_eq_false c1;rw[decide_eq_true (show ti.length<=m by omega),zPX];refine yV (fun c2=>?_) fun c2=>?_
  ·rw[qCZ,zNJ] at c2;have c2:=of_decide_eq_false c2;rw[decide_eq_true (show fi.length<=m+2 by omega),zPX];refine yV (fun c3=>qC ?_) fun c3=>?_
   ·have c3:=of_decide_eq_true c3;rw[decide_eq_false (show ¬ se.length<=m+2 by omega)];rfl
   ·have c3:=of_decide_eq_false c3;rw[decide_eq_true (show se.length<=m+2 by omega),zPX];refine uO se.length (fun k=>m+2 < (se.getD k []).length) (fun k=>.inr (.inl false)) (.inl (se.length:Int)) ?_ ?_ ?_ ?_
    ·intro k hk;refine xV (qAG (by omega)) (zH k rfl hk (zB hk ?_));rw[gDL hk];refine yV (fun q=>qC (.inl ⟨by have:=of_decide_eq_true q;omega,rfl⟩)) fun q=>qC (.inr ⟨by have:=of_decide_eq_false q;omega,?_⟩)
     rw[jC (show k < 2 ^ 62 by omega)]
    ·exact kD (qCY (by omega)) (qC rfl)
    ·intro k hk hp _;refine qC ?_;rw[gDL hk] at hp;exact (List.all_eq_false.2 ⟨_,zOG hk,by simp;omega⟩).symm
    ·intro hn;refine qC ?_;refine (zM1.2 fun r hr=>?_).symm;obtain⟨i,hi,rfl⟩:=zN3.1 hr;have:=hn i hi;rw[gDL hi] at this;exact decide_eq_true (by omega)
  ·rw[qCZ,zPI] at c2;have c2:=of_decide_eq_true c2;refine qC ?_;rw[decide_eq_false (show ¬ fi.length<=m+2 by omega)];rfl
 ·rw[qCZ,zPI] at c1;have c1:=of_decide_eq_true c1;refine qC ?_;rw[decide_eq_false (show ¬ ti.length<=m by omega)];rfl
structure Sb (ti fi:List Int) (se:List (List Int)):Prop where
 t:ti.length<=102
 f:fi.length<=102
 s:se.length<=102
 r:∀ r∈se,r.length<=102
theorem q9A {m:Nat}{ti fi:List Int}{se:List (List Int)}(hm:m<=100)(h:shB m ti fi se=true):Sb ti fi se∧ti.length<=m:=by
 unfold shB at h;simp only[zMY,decide_eq_true_eq,zM1] at h;obtain⟨h1,h2,h3,h4⟩:=h;exact⟨⟨by omega,by omega,by omega,fun r hr=>by have:=h4 r hr;omega⟩,h1⟩
def tB (l:List Int):Bool:=l.any fun x=>outs x 0 1000000
def qHO (r:List Int)(k:Nat):Bool:=tB r||(r.getD k 0 != 0)
def qLV (se:List (List Int)):Nat->Bool
 | 0=>false
 | k+1=>qLV se k||qHO (se.getD k []) k
def qDD (ti fi:List Int)(se:List (List Int)):Int :=
 if ti.length=0 then 12 else if 32 < ti.length then 5 else if fi.length≠ti.length∨se.length≠ti.length then 2 else
 if (se.any fun r=>r.length != ti.length)=true then 2 else if (tB ti||tB fi)=true then 3 else if qLV se se.length=true then 3 else 0
theorem zA1 {se:List (List Int)}{k n:Nat}(h:k < n)(hk:qHO (se.getD k []) k=true):qLV se n=true:=by
 induction h with
 | refl=>unfold qLV;rw[hk,zQR]
 | step _ ih=>unfold qLV;rw[ih,Bool.true_or]
theorem q29 {se:List (List Int)}:∀ {n:Nat},(∀ k,k < n->qHO (se.getD k []) k=false)->qLV se n=false
 | 0,_=>rfl
 | n+1,h=>by
   unfold qLV;rw[q29 fun k hk=>h k (by omega),h n (by omega)];rfl
theorem qWN {se:List (List Int)}{n k:Nat}(hk:k < se.length)(h:(se.getD k []).length≠n):(se.any fun r=>r.length != n)=true:=by
 rw[gDL hk] at h;exact List.any_eq_true.2 ⟨_,zOG hk,bne_iff_ne.2 h⟩
theorem q20 {se:List (List Int)}{n:Nat}(h:∀ k,k < se.length->¬ (se.getD k []).length≠n):(se.any fun r=>r.length != n)=false:=by
 refine zPY.2 fun r hr=>?_
 obtain⟨i,hi,rfl⟩:=zN3.1 hr;have:=h i hi;rw[gDL hi] at this;rw[zQI,bne_eq_false_iff_eq];omega
theorem h23 {ti fi:List Int}{se:List (List Int)}(hs:Sb ti fi se):H5 (ti,fi,se)=some (qDD ti fi se):=by
 have hst:=hs.t;have hsf:=hs.f;have hss:=hs.s;refine OkT.eq ?_;show OkT (G5 (ti,fi,se)) _;unfold G5 qDD;dsimp only;by_cases h0:ti.length=0
 ·rw[if_pos h0];exact xV (by simp[h0]) (qC rfl)
 rw[if_neg h0];refine kD (by simp[h0]) ?_;by_cases h1:32 < ti.length
 ·rw[if_pos h1];exact xV (decide_eq_true (show (32:Int) < (ti.length:Int) by omega)) (qC rfl)
 rw[if_neg h1];refine kD (decide_eq_false (show ¬ (32:Int) < (ti.length:Int) by omega)) ?_;by_cases h2:fi.length=ti.length
 ·refine xV (by rw[qCZ];simp[h2]) ?_;by_cases h3:se.length=ti.length
  ·rw[if_neg (by omega)];refine kD (by simp[h3]) ?_;refine uO ti.length (fun k=>(se.getD k []).length≠ti.length) (fun k=>.inr (.inl 2)) (.inl (ti.length:Int)) ?_ ?_ ?_ ?_
   ·intro k hk;have hks:k < se.length:=by omega
    refine xV (qAG (show (k:Int) < (ti.length:Int) by omega)) (zH k rfl hks (zB hks ?_));rw[gDL hks];refine yV (fun q=>qC (.inl ⟨by have:=bne_iff_ne.1 q;omega,rfl⟩)) fun q=>qC (.inr ⟨by rw[bne_eq_false_iff_eq] at q;omega,?_⟩)
    rw[jC (show k < 2 ^ 62 by omega)]
   ·exact kD (qCY (show ¬ (ti.length:Int) < (ti.length:Int) by omega)) (qC rfl)
   ·intro k hk hp _;refine qC ?_;rw[if_pos (qWN (by omega) hp)]
   ·intro hn;rw[if_neg (by rw[q20 fun k hk=>hn k (by omega)];decide)];refine zO (h72 (l:=ti) (by omega)) ?_;show OkT (zE9.ite (zT (!!(tB ti)) false) _ _) _
    cases htB:tB ti with
    | true=>exact kD rfl (qC rfl)
    | false =>
    refine xV rfl (zO (h72 (l:=fi) (by omega)) ?_);show OkT (zE9.ite (!!(tB fi)) _ _) _
    cases hfB:tB fi with
    | true=>exact xV rfl (qC rfl)
    | false =>
    rw[if_neg (show ¬ (false||false)=true by decide)];refine kD rfl ?_;refine uO ti.length (fun k=>qHO (se.getD k []) k=true) (fun k=>.inr (.inl 3)) (.inl (ti.length:Int)) ?_ ?_ ?_ ?_
    ·intro k hk;have hks:k < se.length:=by omega
     have hrl:se[k].length=ti.length:=by have:=hn k hk;rw[gDL hks] at this;omega
     have hkr:k < se[k].length:=by omega
     refine xV (qAG (show (k:Int) < (ti.length:Int) by omega)) (zH k rfl hks (zB hks (zO (h72 (by omega)) ?_)));rw[gDL hks];show OkT (zE9.ite (zT (!!(tB se[k])) false) _ _) _;unfold qHO
     cases tB se[k] with
     | true=>exact kD rfl (qC (.inl ⟨rfl,rfl⟩))
     | false =>
     refine xV rfl (zH k rfl hks (zB hks (zH k rfl hkr (zB hkr ?_))));rw[gDE hkr,zPW];refine yV (fun q=>qC (.inl ⟨q,rfl⟩)) fun q=>qC (.inr ⟨by rw[q];decide,?_⟩)
     rw[jC (show k < 2 ^ 62 by omega)]
    ·exact kD (qCY (show ¬ (ti.length:Int) < (ti.length:Int) by omega)) (qC rfl)
    ·intro k hk hp _;exact qC (by rw[if_pos (zA1 (by omega) hp)])
    ·intro hm;refine qC ?_;rw[if_neg (by rw[q29 fun k hk=>by have:=hm k (by omega);rwa [zQI] at this];decide)]
  ·rw[if_pos (.inr h3)];exact xV (by simp;omega) (qC rfl)
 ·rw[if_pos (.inl h2)];exact kD (by rw[qCZ];simp;omega) (qC rfl)
theorem q03 {a:Int}{l:List Int}(h:a≠0):fnz (a::l)=a:=by
 show cond (a != 0) a _=a;rw[bne_iff_ne.2 h];rfl
theorem qYB {l:List Int}:fnz (0::l)=fnz l:=rfl
theorem h24 {ti fi:List Int}{se:List (List Int)}(hs:Sb ti fi se):H20 (ti,fi,se)=some (qDD ti fi se):=by
 have hst:=hs.t;have hsf:=hs.f;have hss:=hs.s;refine OkT.eq ?_;show OkT (G20 (ti,fi,se)) _;unfold G20 qDD;dsimp only;refine jU (fun t=>t=if ti.length=0 then 12 else if 32 < ti.length then 5 else if fi.length≠ti.length∨se.length≠ti.length then 2 else 0) ?_ ?_
 ·refine zO (h59 _ _) (zO (h59 _ _) ?_)
  have e0:(cond ((ti.length:Int)==0) (12:Int) 0)=if ti.length=0 then 12 else 0:=by
   by_cases h:ti.length=0
   ·rw[if_pos h,h];rfl
   ·rw[if_neg h,show ((ti.length:Int)==0)=false by simp;exact fun q=>h (by rw[q];rfl)];rfl
  have e1:(cond (decide (32 < (ti.length:Int))) (5:Int) 0)=if 32 < ti.length then 5 else 0:=by
   by_cases h:32 < ti.length
   ·rw[if_pos h,decide_eq_true (by omega)];rfl
   ·rw[if_neg h,decide_eq_false (by omega)];rfl
  simp only[e0,e1]
  have hfin:∀ (x:Int),(x=if fi.length≠ti.length∨se.length≠ti.length then 2 else 0)->fnz [if ti.length=0 then 12 else 0,if 32 < ti.length then 5 else 0,x]=if ti.length=0 then 12 else if 32 < ti.length then 5 else if fi.length≠ti.length∨se.length≠ti.length then 2 else 0:=by
   intro x hx;subst hx;split
   ·exact q03 (by decide)
   ·rw[qYB];split
    ·exact q03 (by decide)
    ·rw[qYB];split <;> rfl
  by_cases h2:fi.length=ti.length
  ·refine xV (by rw[qCZ];simp[h2]) (zO (h59 _ _) (zO (h58 _ (by simp)) (qC ⟨_,rfl,hfin _ ?_⟩)));by_cases h3:se.length=ti.length
   ·rw[if_neg (by omega),show ((se.length:Int) != (ti.length:Int))=false by simp[h3]];rfl
   ·rw[if_pos (.inr h3),show ((se.length:Int) != (ti.length:Int))=true by simp;omega];rfl
  ·exact kD (by rw[qCZ];simp;omega) (zO (h58 _ (by simp)) (qC ⟨_,rfl,hfin _ (by rw[if_pos (.inl h2)])⟩))
 ·intro t ht;subst ht;by_cases h0:ti.length=0
  ·simp only[h0,if_true];exact xV rfl (qC rfl)
  simp only[if_neg h0];by_cases h1:32 < ti.length
  ·simp only[if_pos h1];exact xV rfl (qC rfl)
  simp only[if_neg h1];by_cases h2:fi.length≠ti.length∨se.length≠ti.length
  ·simp only[if_pos h2];exact xV rfl (qC rfl)
  simp only[if_neg h2];refine kD rfl ?_;have hse:se.length=ti.length:=by omega
  refine jU (fun t=>t=se.any fun r=>r.length != ti.length) ?_ ?_
  ·refine uO se.length (fun k=>(se.getD k []).length≠ti.length) (fun k=>.inr (.inl (k:Int))) (.inl (se.length:Int)) ?_ ?_ ?_ ?_
   ·intro k hk;refine xV (qAG (show (k:Int) < (se.length:Int) by omega)) (zH k rfl hk (zB hk ?_));rw[gDL hk];refine yV (fun q=>qC (.inl ⟨by have:=bne_iff_ne.1 q;omega,rfl⟩)) fun q=>qC (.inr ⟨by rw[bne_eq_false_iff_eq] at q;omega,?_⟩)
    rw[jC (show k < 2 ^ 62 by omega)]
   ·exact kD (qCY (show ¬ (se.length:Int) < (se.length:Int) by omega)) (qC rfl)
   ·intro k hk hp _;exact qC ⟨_,rfl,by rw[qWN hk hp];exact decide_eq_true (by omega)⟩
   ·intro hn;exact qC ⟨_,rfl,by rw[q20 hn];rfl⟩
  ·intro t ht;subst ht
   cases hr:se.any fun r=>r.length != ti.length with
   | true=>exact xV rfl (qC rfl)
   | false =>
   refine kD rfl (zO (h75 (by omega)) (zO (h75 (by omega)) (zO (h58 _ (by simp)) ?_)))
   have hrl:∀ k (hk:k < se.length),se[k].length=ti.length:=fun k hk=>by
    have:=zPY.1 hr _ (zOG hk);rw[zQI,bne_eq_false_iff_eq] at this;exact this
   have e3:fnz [cond (ti.any fun x=>outs x 0 1000000) 3 0,cond (fi.any fun x=>outs x 0 1000000) 3 0]=if (tB ti||tB fi)=true then 3 else 0:=by
    show fnz [cond (tB ti) 3 0,cond (tB fi) 3 0]=_;cases tB ti <;> cases tB fi <;> rfl
   rw[e3];refine aM se.length (fun k (s:Int)=>(s,(k:Int))) (fun k s=>s=if (tB ti||tB fi)=true then 3 else if qLV se k=true then 3 else 0) (if (tB ti||tB fi)=true then 3 else 0) rfl ?_ ?_ ?_
   ·rw[if_neg (show ¬ qLV se 0=true from fun h=>by cases h)]
   ·intro k s hk hs;have hkr:k < se[k].length:=by rw[hrl k hk];omega
    refine xV (qAG (show (k:Int) < (se.length:Int) by omega)) (zH k rfl hk (zB hk (zO (h75 (by rw[hrl k hk];omega)) (zH k rfl hkr (zB hkr (zO (h59 _ _) (zO (h58 _ (by simp)) (qC ⟨fnz [s,cond (tB se[k]) 3 0,cond (se[k][k] != 0) 3 0],by simp only[jC (show k < 2 ^ 62 by omega)];rfl,?_⟩))))))))
    have e4:qLV se (k+1)=(qLV se k||(tB se[k]||(se[k][k] != 0))):=by
     show (qLV se k||qHO (se.getD k []) k)=_;unfold qHO;rw[gDL hk,gDE hkr]
    rw[hs,e4];cases (tB ti||tB fi) <;> cases qLV se k <;> cases tB se[k] <;> cases (se[k][k] != 0) <;> rfl
   ·intro s hs;refine kD (qCY (show ¬ (se.length:Int) < (se.length:Int) by omega)) (qC ⟨_,rfl,qC ?_⟩);rw[hs];rfl
end Go.Proofs.YtpnecffgnjijjaaGreatDoor
