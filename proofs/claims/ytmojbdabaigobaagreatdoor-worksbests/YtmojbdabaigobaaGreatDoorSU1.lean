/- Plain laws of chapter 9: shops and their errors. Conditions: none. -/
import Derived.Test.YtmojbdabaigobaaGreatDoorPU1
import Derived.Test.YtmojbdabaigobaaGreatDoorPX2
import Derived.Test.YtmojbdabaigobaaGreatDoorMI1
set_option linter.all false
set_option maxRecDepth 10000
set_option maxHeartbeats 100000000
namespace Go.Proofs.YtmojbdabaigobaaGreatDoor
open Go Go.Idl Go.Sv Go.Proofs
theorem qT6 {R S τ:Type}{F:S->Option (S⊕τ)}{K:τ->zEY R}{s:S}{t:τ}{Q:R->Prop}(h:F s=some (.inr t))(hk:OkT (K t) Q):OkT (zEY.bind (qZ F s) K) Q:=by
 rw[qB8 h];exact hk
theorem uQ {R S τ:Type}{F:S->Option (S⊕τ)}{K:τ->zEY R}{s:S}{Q:R->Prop}(P:τ->Prop)(h:OkT (F s) fun o=>∃ t,o=.inr t∧P t)(hk:∀ t,P t->OkT (K t) Q):OkT (zEY.bind (qZ F s) K) Q:=by
 obtain⟨o,h1,t,rfl,h2⟩:=h;exact qT6 h1 (hk t h2)
theorem gDL {l:List (List Int)}{i:Nat}(h:i < l.length):l.getD i []=l[i]:=by
 rw[zPH,zOL h];rfl
def shB (m:Nat)(ti fi:List Int)(se:List (List Int)):Bool:=decide (ti.length<=m)&&(decide (fi.length<=m+2)&&(decide (se.length<=m+2)&&se.all fun r=>decide (r.length<=m+2)))
theorem h22 {m:Nat}{ti fi:List Int}{se:List (List Int)}(hm:m<=100):H22 ((ti,fi,se),(m:Int))=some (shB m ti fi se):=by
 refine OkT.eq ?_;show OkT (G22 (ti,fi,se) (m:Int)) _;unfold G22 shB;have w:IntKind.i64.wrap ((m:Int)+2)=((m+2:Nat):Int):=by rw[qDK (by omega) (by omega)];omega
 simp only[w];refine zT (fun c1=>?_) fun c1=>?_
 ·rw[mZ,zO3] at c1;have c1:=of_decide_eq_false c1;rw[decide_eq_true (show ti.length<=m by omega),zRQ];refine zT (fun c2=>?_) fun c2=>?_
  ·rw[mZ,zO3] at c2;have c2:=of_decide_eq_false c2;rw[decide_eq_true (show fi.length<=m+2 by omega),zRQ];refine zT (fun c3=>qC ?_) fun c3=>?_
   ·have c3:=of_decide_eq_true c3;rw[decide_eq_false (show ¬ se.length<=m+2 by omega)];rfl
   ·have c3:=of_decide_eq_false c3;rw[decide_eq_true (show se.length<=m+2 by omega),zRQ];refine wH se.length (fun k=>m+2 < (se.getD k []).length) (fun k=>.inr (.inl false)) (.inl (se.length:Int)) ?_ ?_ ?_ ?_
    ·intro k hk;refine yL (pG (by omega)) (qY k rfl hk (qR hk ?_));rw[gDL hk];refine zT (fun q=>qC (.inl ⟨by have:=of_decide_eq_true q;omega,rfl⟩)) fun q=>qC (.inr ⟨by have:=of_decide_eq_false q;omega,?_⟩)
     rw[kU (show k < 2 ^ 62 by omega)]
    ·exact xV (sM (by omega)) (qC rfl)
    ·intro k hk hp _;refine qC ?_;rw[gDL hk] at hp;exact (List.all_eq_false.2 ⟨_,zP8 hk,by simp;omega⟩).symm
    ·intro hn;refine qC ?_;refine (zOJ.2 fun r hr=>?_).symm;obtain⟨i,hi,rfl⟩:=zPI.1 hr;have:=hn i hi;rw[gDL hi] at this;exact decide_eq_true (by omega)
  ·rw[mZ,zQC] at c2;have c2:=of_decide_eq_true c2;refine qC ?_;rw[decide_eq_false (show ¬ fi.length<=m+2 by omega)];rfl
 ·rw[mZ,zQC] at c1;have c1:=of_decide_eq_true c1;refine qC ?_;rw[decide_eq_false (show ¬ ti.length<=m by omega)];rfl
structure Sb (ti fi:List Int) (se:List (List Int)):Prop where
 t:ti.length<=102
 f:fi.length<=102
 s:se.length<=102
 r:∀ r∈se,r.length<=102
theorem q9A {m:Nat}{ti fi:List Int}{se:List (List Int)}(hm:m<=100)(h:shB m ti fi se=true):Sb ti fi se∧ti.length<=m:=by
 unfold shB at h;simp only[zOG,decide_eq_true_eq,zOJ] at h;obtain⟨h1,h2,h3,h4⟩:=h;exact⟨⟨by omega,by omega,by omega,fun r hr=>by have:=h4 r hr;omega⟩,h1⟩
def tB (l:List Int):Bool:=l.any fun x=>outs x 0 1000000
def qHA (r:List Int)(k:Nat):Bool:=tB r||(r.getD k 0 != 0)
def qLY (se:List (List Int)):Nat->Bool
 | 0=>false
 | k+1=>qLY se k||qHA (se.getD k []) k
def qC8 (ti fi:List Int)(se:List (List Int)):Int :=
 if ti.length=0 then 12 else if 32 < ti.length then 5 else if fi.length≠ti.length∨se.length≠ti.length then 2 else
 if (se.any fun r=>r.length != ti.length)=true then 2 else if (tB ti||tB fi)=true then 3 else if qLY se se.length=true then 3 else 0
theorem q90 {se:List (List Int)}{k n:Nat}(h:k < n)(hk:qHA (se.getD k []) k=true):qLY se n=true:=by
 induction h with
 | refl=>unfold qLY;rw[hk,zR8]
 | step _ ih=>unfold qLY;rw[ih,Bool.true_or]
theorem qVH {se:List (List Int)}:∀ {n:Nat},(∀ k,k < n->qHA (se.getD k []) k=false)->qLY se n=false
 | 0,_=>rfl
 | n+1,h=>by
   unfold qLY;rw[qVH fun k hk=>h k (by omega),h n (by omega)];rfl
theorem qT7 {se:List (List Int)}{n k:Nat}(hk:k < se.length)(h:(se.getD k []).length≠n):(se.any fun r=>r.length != n)=true:=by
 rw[gDL hk] at h;exact List.any_eq_true.2 ⟨_,zP8 hk,bne_iff_ne.2 h⟩
theorem qVZ {se:List (List Int)}{n:Nat}(h:∀ k,k < se.length->¬ (se.getD k []).length≠n):(se.any fun r=>r.length != n)=false:=by
 refine zQ7.2 fun r hr=>?_
 obtain⟨i,hi,rfl⟩:=zPI.1 hr;have:=h i hi;rw[gDL hi] at this;rw[zR0,bne_eq_false_iff_eq];omega
theorem h23 {ti fi:List Int}{se:List (List Int)}(hs:Sb ti fi se):H23 (ti,fi,se)=some (qC8 ti fi se):=by
 have hst:=hs.t;have hsf:=hs.f;have hss:=hs.s;refine OkT.eq ?_;show OkT (G23 (ti,fi,se)) _;unfold G23 qC8;dsimp only;by_cases h0:ti.length=0
 ·rw[if_pos h0];exact yL (by simp[h0]) (qC rfl)
 rw[if_neg h0];refine xV (by simp[h0]) ?_;by_cases h1:32 < ti.length
 ·rw[if_pos h1];exact yL (decide_eq_true (show (32:Int) < (ti.length:Int) by omega)) (qC rfl)
 rw[if_neg h1];refine xV (decide_eq_false (show ¬ (32:Int) < (ti.length:Int) by omega)) ?_;by_cases h2:fi.length=ti.length
 ·refine yL (by rw[mZ];simp[h2]) ?_;by_cases h3:se.length=ti.length
  ·rw[if_neg (by omega)];refine xV (by simp[h3]) ?_;refine wH ti.length (fun k=>(se.getD k []).length≠ti.length) (fun k=>.inr (.inl 2)) (.inl (ti.length:Int)) ?_ ?_ ?_ ?_
   ·intro k hk;have hks:k < se.length:=by omega
    refine yL (pG (show (k:Int) < (ti.length:Int) by omega)) (qY k rfl hks (qR hks ?_));rw[gDL hks];refine zT (fun q=>qC (.inl ⟨by have:=bne_iff_ne.1 q;omega,rfl⟩)) fun q=>qC (.inr ⟨by rw[bne_eq_false_iff_eq] at q;omega,?_⟩)
    rw[kU (show k < 2 ^ 62 by omega)]
   ·exact xV (sM (show ¬ (ti.length:Int) < (ti.length:Int) by omega)) (qC rfl)
   ·intro k hk hp _;refine qC ?_;rw[if_pos (qT7 (by omega) hp)]
   ·intro hn;rw[if_neg (by rw[qVZ fun k hk=>hn k (by omega)];decide)];refine zF (h72 (l:=ti) (by omega)) ?_;show OkT (zEY.ite (zJ (!!(tB ti)) false) _ _) _
    cases htB:tB ti with
    | true=>exact xV rfl (qC rfl)
    | false =>
    refine yL rfl (zF (h72 (l:=fi) (by omega)) ?_);show OkT (zEY.ite (!!(tB fi)) _ _) _
    cases hfB:tB fi with
    | true=>exact yL rfl (qC rfl)
    | false =>
    rw[if_neg (show ¬ (false||false)=true by decide)];refine xV rfl ?_;refine wH ti.length (fun k=>qHA (se.getD k []) k=true) (fun k=>.inr (.inl 3)) (.inl (ti.length:Int)) ?_ ?_ ?_ ?_
    ·intro k hk;have hks:k < se.length:=by omega
     have hrl:se[k].length=ti.length:=by have:=hn k hk;rw[gDL hks] at this;omega
     have hkr:k < se[k].length:=by omega
     refine yL (pG (show (k:Int) < (ti.length:Int) by omega)) (qY k rfl hks (qR hks (zF (h72 (by omega)) ?_)));rw[gDL hks];show OkT (zEY.ite (zJ (!!(tB se[k])) false) _ _) _;unfold qHA
     cases tB se[k] with
     | true=>exact xV rfl (qC (.inl ⟨rfl,rfl⟩))
     | false =>
     refine yL rfl (qY k rfl hks (qR hks (qY k rfl hkr (qR hkr ?_))));rw[gDE hkr,zRF];refine zT (fun q=>qC (.inl ⟨q,rfl⟩)) fun q=>qC (.inr ⟨by rw[q];decide,?_⟩)
     rw[kU (show k < 2 ^ 62 by omega)]
    ·exact xV (sM (show ¬ (ti.length:Int) < (ti.length:Int) by omega)) (qC rfl)
    ·intro k hk hp _;exact qC (by rw[if_pos (q90 (by omega) hp)])
    ·intro hm;refine qC ?_;rw[if_neg (by rw[qVH fun k hk=>by have:=hm k (by omega);rwa [zR0] at this];decide)]
  ·rw[if_pos (.inr h3)];exact yL (by simp;omega) (qC rfl)
 ·rw[if_pos (.inl h2)];exact xV (by rw[mZ];simp;omega) (qC rfl)
theorem q03 {a:Int}{l:List Int}(h:a≠0):fnz (a::l)=a:=by
 show cond (a != 0) a _=a;rw[bne_iff_ne.2 h];rfl
theorem qT4 {l:List Int}:fnz (0::l)=fnz l:=rfl
theorem h24 {ti fi:List Int}{se:List (List Int)}(hs:Sb ti fi se):H24 (ti,fi,se)=some (qC8 ti fi se):=by
 have hst:=hs.t;have hsf:=hs.f;have hss:=hs.s;refine OkT.eq ?_;show OkT (G24 (ti,fi,se)) _;unfold G24 qC8;dsimp only;refine uQ (fun t=>t=if ti.length=0 then 12 else if 32 < ti.length then 5 else if fi.length≠ti.length∨se.length≠ti.length then 2 else 0) ?_ ?_
 ·refine zF (h59 _ _) (zF (h59 _ _) ?_)
  have e0:(cond ((ti.length:Int)==0) (12:Int) 0)=if ti.length=0 then 12 else 0:=by
   by_cases h:ti.length=0
   ·rw[if_pos h,h];rfl
   ·rw[if_neg h,show ((ti.length:Int)==0)=false by simp;exact fun q=>h (by rw[q];rfl)];rfl
  have e1:(cond (decide (32 < (ti.length:Int))) (5:Int) 0)=if 32 < ti.length then 5 else 0:=by
   by_cases h:32 < ti.length
   ·rw[if_pos h,decide_eq_true (by omega)];rfl
   ·rw[if_neg h,decide_eq_false (by omega)];rfl
  simp only[e0,e1]
  have hfin:∀ (x:Int),(x=if fi.length≠ti.length∨se.length≠ti.length then 2 else 0)->fnz [if ti.length=0 then 12 else 0,if 32 < ti.length then 5 else 0,x]=if ti.length=0 then 12 else if 32 < ti.length then 5 else if fi.length≠ti.length∨se.length≠ti.length then 2 else 0:=by
   intro x hx;subst hx;split
   ·exact q03 (by decide)
   ·rw[qT4];split
    ·exact q03 (by decide)
    ·rw[qT4];split <;> rfl
  by_cases h2:fi.length=ti.length
  ·refine yL (by rw[mZ];simp[h2]) (zF (h59 _ _) (zF (h58 _ (by simp)) (qC ⟨_,rfl,hfin _ ?_⟩)));by_cases h3:se.length=ti.length
   ·rw[if_neg (by omega),show ((se.length:Int) != (ti.length:Int))=false by simp[h3]];rfl
   ·rw[if_pos (.inr h3),show ((se.length:Int) != (ti.length:Int))=true by simp;omega];rfl
  ·exact xV (by rw[mZ];simp;omega) (zF (h58 _ (by simp)) (qC ⟨_,rfl,hfin _ (by rw[if_pos (.inl h2)])⟩))
 ·intro t ht;subst ht;by_cases h0:ti.length=0
  ·simp only[h0,if_true];exact yL rfl (qC rfl)
  simp only[if_neg h0];by_cases h1:32 < ti.length
  ·simp only[if_pos h1];exact yL rfl (qC rfl)
  simp only[if_neg h1];by_cases h2:fi.length≠ti.length∨se.length≠ti.length
  ·simp only[if_pos h2];exact yL rfl (qC rfl)
  simp only[if_neg h2];refine xV rfl ?_;have hse:se.length=ti.length:=by omega
  refine uQ (fun t=>t=se.any fun r=>r.length != ti.length) ?_ ?_
  ·refine wH se.length (fun k=>(se.getD k []).length≠ti.length) (fun k=>.inr (.inl (k:Int))) (.inl (se.length:Int)) ?_ ?_ ?_ ?_
   ·intro k hk;refine yL (pG (show (k:Int) < (se.length:Int) by omega)) (qY k rfl hk (qR hk ?_));rw[gDL hk];refine zT (fun q=>qC (.inl ⟨by have:=bne_iff_ne.1 q;omega,rfl⟩)) fun q=>qC (.inr ⟨by rw[bne_eq_false_iff_eq] at q;omega,?_⟩)
    rw[kU (show k < 2 ^ 62 by omega)]
   ·exact xV (sM (show ¬ (se.length:Int) < (se.length:Int) by omega)) (qC rfl)
   ·intro k hk hp _;exact qC ⟨_,rfl,by rw[qT7 hk hp];exact decide_eq_true (by omega)⟩
   ·intro hn;exact qC ⟨_,rfl,by rw[qVZ hn];rfl⟩
  ·intro t ht;subst ht
   cases hr:se.any fun r=>r.length != ti.length with
   | true=>exact yL rfl (qC rfl)
   | false =>
   refine xV rfl (zF (h75 (by omega)) (zF (h75 (by omega)) (zF (h58 _ (by simp)) ?_)))
   have hrl:∀ k (hk:k < se.length),se[k].length=ti.length:=fun k hk=>by
    have:=zQ7.1 hr _ (zP8 hk);rw[zR0,bne_eq_false_iff_eq] at this;exact this
   have e3:fnz [cond (ti.any fun x=>outs x 0 1000000) 3 0,cond (fi.any fun x=>outs x 0 1000000) 3 0]=if (tB ti||tB fi)=true then 3 else 0:=by
    show fnz [cond (tB ti) 3 0,cond (tB fi) 3 0]=_;cases tB ti <;> cases tB fi <;> rfl
   rw[e3];refine aA se.length (fun k (s:Int)=>(s,(k:Int))) (fun k s=>s=if (tB ti||tB fi)=true then 3 else if qLY se k=true then 3 else 0) (if (tB ti||tB fi)=true then 3 else 0) rfl ?_ ?_ ?_
   ·rw[if_neg (show ¬ qLY se 0=true from fun h=>by cases h)]
   ·intro k s hk hs;have hkr:k < se[k].length:=by rw[hrl k hk];omega
    refine yL (pG (show (k:Int) < (se.length:Int) by omega)) (qY k rfl hk (qR hk (zF (h75 (by rw[hrl k hk];omega)) (qY k rfl hkr (qR hkr (zF (h59 _ _) (zF (h58 _ (by simp)) (qC ⟨fnz [s,cond (tB se[k]) 3 0,cond (se[k][k] != 0) 3 0],by simp only[kU (show k < 2 ^ 62 by omega)];rfl,?_⟩))))))))
    have e4:qLY se (k+1)=(qLY se k||(tB se[k]||(se[k][k] != 0))):=by
     show (qLY se k||qHA (se.getD k []) k)=_;unfold qHA;rw[gDL hk,gDE hkr]
    rw[hs,e4];cases (tB ti||tB fi) <;> cases qLY se k <;> cases tB se[k] <;> cases (se[k][k] != 0) <;> rfl
   ·intro s hs;refine xV (sM (show ¬ (se.length:Int) < (se.length:Int) by omega)) (qC ⟨_,rfl,qC ?_⟩);rw[hs];rfl
end Go.Proofs.YtmojbdabaigobaaGreatDoor
