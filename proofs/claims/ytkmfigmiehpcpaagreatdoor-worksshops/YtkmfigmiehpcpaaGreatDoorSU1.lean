/- Plain laws of chapter 9: shops and their errors. Conditions: none. -/
import Derived.Test.YtkmfigmiehpcpaaGreatDoorPU1
import Derived.Test.YtkmfigmiehpcpaaGreatDoorPX2
import Derived.Test.YtkmfigmiehpcpaaGreatDoorMI1
set_option linter.all false
set_option maxRecDepth 10000
set_option maxHeartbeats 100000000
namespace Go.Proofs.YtkmfigmiehpcpaaGreatDoor
open Go Go.Idl Go.Sv Go.Proofs
theorem qUV {R S τ:Type}{F:S->Option (S⊕τ)}{K:τ->zED R}{s:S}{t:τ}{Q:R->Prop}(h:F s=some (.inr t))(hk:OkT (K t) Q):OkT (zED.bind (qW F s) K) Q:=by
 rw[qBQ h];exact hk
theorem yG {R S τ:Type}{F:S->Option (S⊕τ)}{K:τ->zED R}{s:S}{Q:R->Prop}(P:τ->Prop)(h:OkT (F s) fun o=>∃ t,o=.inr t∧P t)(hk:∀ t,P t->OkT (K t) Q):OkT (zED.bind (qW F s) K) Q:=by
 obtain⟨o,h1,t,rfl,h2⟩:=h;exact qUV h1 (hk t h2)
theorem gDL {l:List (List Int)}{i:Nat}(h:i < l.length):l.getD i []=l[i]:=by
 rw[zO8,zNX h];rfl
def shB (m:Nat)(ti fi:List Int)(se:List (List Int)):Bool:=decide (ti.length<=m)&&(decide (fi.length<=m+2)&&(decide (se.length<=m+2)&&se.all fun r=>decide (r.length<=m+2)))
theorem h22 {m:Nat}{ti fi:List Int}{se:List (List Int)}(hm:m<=100):H22 ((ti,fi,se),(m:Int))=some (shB m ti fi se):=by
 refine OkT.eq ?_;show OkT (G22 (ti,fi,se) (m:Int)) _;unfold G22 shB;have w:IntKind.i64.wrap ((m:Int)+2)=((m+2:Nat):Int):=by rw[qNG (by omega) (by omega)];omega
 simp only[w];refine zU (fun c1=>?_) fun c1=>?_
 ·rw[qF4,zOE] at c1;have c1:=of_decide_eq_false c1;rw[decide_eq_true (show ti.length<=m by omega),zQR];refine zU (fun c2=>?_) fun c2=>?_
  ·rw[qF4,zOE] at c2;have c2:=of_decide_eq_false c2;rw[decide_eq_true (show fi.length<=m+2 by omega),zQR];refine zU (fun c3=>qA ?_) fun c3=>?_
   ·have c3:=of_decide_eq_true c3;rw[decide_eq_false (show ¬ se.length<=m+2 by omega)];rfl
   ·have c3:=of_decide_eq_false c3;rw[decide_eq_true (show se.length<=m+2 by omega),zQR];refine vM se.length (fun k=>m+2 < (se.getD k []).length) (fun k=>.inr (.inl false)) (.inl (se.length:Int)) ?_ ?_ ?_ ?_
    ·intro k hk;refine zS (dW (by omega)) (qQ k rfl hk (qP hk ?_));rw[gDL hk];refine zU (fun q=>qA (.inl ⟨by have:=of_decide_eq_true q;omega,rfl⟩)) fun q=>qA (.inr ⟨by have:=of_decide_eq_false q;omega,?_⟩)
     rw[xO (show k < 2 ^ 62 by omega)]
    ·exact yH (mX (by omega)) (qA rfl)
    ·intro k hk hp _;refine qA ?_;rw[gDL hk] at hp;exact (List.all_eq_false.2 ⟨_,zPE hk,by simp;omega⟩).symm
    ·intro hn;refine qA ?_;refine (zNW.2 fun r hr=>?_).symm;obtain⟨i,hi,rfl⟩:=zPC.1 hr;have:=hn i hi;rw[gDL hi] at this;exact decide_eq_true (by omega)
  ·rw[qF4,zPY] at c2;have c2:=of_decide_eq_true c2;refine qA ?_;rw[decide_eq_false (show ¬ fi.length<=m+2 by omega)];rfl
 ·rw[qF4,zPY] at c1;have c1:=of_decide_eq_true c1;refine qA ?_;rw[decide_eq_false (show ¬ ti.length<=m by omega)];rfl
structure Sb (ti fi:List Int) (se:List (List Int)):Prop where
 t:ti.length<=102
 f:fi.length<=102
 s:se.length<=102
 r:∀ r∈se,r.length<=102
theorem zCK {m:Nat}{ti fi:List Int}{se:List (List Int)}(hm:m<=100)(h:shB m ti fi se=true):Sb ti fi se∧ti.length<=m:=by
 unfold shB at h;simp only[zNT,decide_eq_true_eq,zNW] at h;obtain⟨h1,h2,h3,h4⟩:=h;exact⟨⟨by omega,by omega,by omega,fun r hr=>by have:=h4 r hr;omega⟩,h1⟩
def tB (l:List Int):Bool:=l.any fun x=>outs x 0 1000000
def qHO (r:List Int)(k:Nat):Bool:=tB r||(r.getD k 0 != 0)
def qMX (se:List (List Int)):Nat->Bool
 | 0=>false
 | k+1=>qMX se k||qHO (se.getD k []) k
def aG (ti fi:List Int)(se:List (List Int)):Int :=
 if ti.length=0 then 12 else if 32 < ti.length then 5 else if fi.length≠ti.length∨se.length≠ti.length then 2 else
 if (se.any fun r=>r.length != ti.length)=true then 2 else if (tB ti||tB fi)=true then 3 else if qMX se se.length=true then 3 else 0
theorem q87 {se:List (List Int)}{k n:Nat}(h:k < n)(hk:qHO (se.getD k []) k=true):qMX se n=true:=by
 induction h with
 | refl=>unfold qMX;rw[hk,zRI]
 | step _ ih=>unfold qMX;rw[ih,Bool.true_or]
theorem q3Q {se:List (List Int)}:∀ {n:Nat},(∀ k,k < n->qHO (se.getD k []) k=false)->qMX se n=false
 | 0,_=>rfl
 | n+1,h=>by
   unfold qMX;rw[q3Q fun k hk=>h k (by omega),h n (by omega)];rfl
theorem qS4 {se:List (List Int)}{n k:Nat}(hk:k < se.length)(h:(se.getD k []).length≠n):(se.any fun r=>r.length != n)=true:=by
 rw[gDL hk] at h;exact List.any_eq_true.2 ⟨_,zPE hk,bne_iff_ne.2 h⟩
theorem q3S {se:List (List Int)}{n:Nat}(h:∀ k,k < se.length->¬ (se.getD k []).length≠n):(se.any fun r=>r.length != n)=false:=by
 refine zQS.2 fun r hr=>?_
 obtain⟨i,hi,rfl⟩:=zPC.1 hr;have:=h i hi;rw[gDL hi] at this;rw[zRA,bne_eq_false_iff_eq];omega
theorem h23 {ti fi:List Int}{se:List (List Int)}(hs:Sb ti fi se):H23 (ti,fi,se)=some (aG ti fi se):=by
 have hst:=hs.t;have hsf:=hs.f;have hss:=hs.s;refine OkT.eq ?_;show OkT (G23 (ti,fi,se)) _;unfold G23 aG;dsimp only;by_cases h0:ti.length=0
 ·rw[if_pos h0];exact zS (by simp[h0]) (qA rfl)
 rw[if_neg h0];refine yH (by simp[h0]) ?_;by_cases h1:32 < ti.length
 ·rw[if_pos h1];exact zS (decide_eq_true (show (32:Int) < (ti.length:Int) by omega)) (qA rfl)
 rw[if_neg h1];refine yH (decide_eq_false (show ¬ (32:Int) < (ti.length:Int) by omega)) ?_;by_cases h2:fi.length=ti.length
 ·refine zS (by rw[qF4];simp[h2]) ?_;by_cases h3:se.length=ti.length
  ·rw[if_neg (by omega)];refine yH (by simp[h3]) ?_;refine vM ti.length (fun k=>(se.getD k []).length≠ti.length) (fun k=>.inr (.inl 2)) (.inl (ti.length:Int)) ?_ ?_ ?_ ?_
   ·intro k hk;have hks:k < se.length:=by omega
    refine zS (dW (show (k:Int) < (ti.length:Int) by omega)) (qQ k rfl hks (qP hks ?_));rw[gDL hks];refine zU (fun q=>qA (.inl ⟨by have:=bne_iff_ne.1 q;omega,rfl⟩)) fun q=>qA (.inr ⟨by rw[bne_eq_false_iff_eq] at q;omega,?_⟩)
    rw[xO (show k < 2 ^ 62 by omega)]
   ·exact yH (mX (show ¬ (ti.length:Int) < (ti.length:Int) by omega)) (qA rfl)
   ·intro k hk hp _;refine qA ?_;rw[if_pos (qS4 (by omega) hp)]
   ·intro hn;rw[if_neg (by rw[q3S fun k hk=>hn k (by omega)];decide)];refine qN (h72 (l:=ti) (by omega)) ?_;show OkT (zED.ite (zJ (!!(tB ti)) false) _ _) _
    cases htB:tB ti with
    | true=>exact yH rfl (qA rfl)
    | false =>
    refine zS rfl (qN (h72 (l:=fi) (by omega)) ?_);show OkT (zED.ite (!!(tB fi)) _ _) _
    cases hfB:tB fi with
    | true=>exact zS rfl (qA rfl)
    | false =>
    rw[if_neg (show ¬ (false||false)=true by decide)];refine yH rfl ?_;refine vM ti.length (fun k=>qHO (se.getD k []) k=true) (fun k=>.inr (.inl 3)) (.inl (ti.length:Int)) ?_ ?_ ?_ ?_
    ·intro k hk;have hks:k < se.length:=by omega
     have hrl:se[k].length=ti.length:=by have:=hn k hk;rw[gDL hks] at this;omega
     have hkr:k < se[k].length:=by omega
     refine zS (dW (show (k:Int) < (ti.length:Int) by omega)) (qQ k rfl hks (qP hks (qN (h72 (by omega)) ?_)));rw[gDL hks];show OkT (zED.ite (zJ (!!(tB se[k])) false) _ _) _;unfold qHO
     cases tB se[k] with
     | true=>exact yH rfl (qA (.inl ⟨rfl,rfl⟩))
     | false =>
     refine zS rfl (qQ k rfl hks (qP hks (qQ k rfl hkr (qP hkr ?_))));rw[gDE hkr,zQQ];refine zU (fun q=>qA (.inl ⟨q,rfl⟩)) fun q=>qA (.inr ⟨by rw[q];decide,?_⟩)
     rw[xO (show k < 2 ^ 62 by omega)]
    ·exact yH (mX (show ¬ (ti.length:Int) < (ti.length:Int) by omega)) (qA rfl)
    ·intro k hk hp _;exact qA (by rw[if_pos (q87 (by omega) hp)])
    ·intro hm;refine qA ?_;rw[if_neg (by rw[q3Q fun k hk=>by have:=hm k (by omega);rwa [zRA] at this];decide)]
  ·rw[if_pos (.inr h3)];exact zS (by simp;omega) (qA rfl)
 ·rw[if_pos (.inl h2)];exact yH (by rw[qF4];simp;omega) (qA rfl)
theorem qUZ {a:Int}{l:List Int}(h:a≠0):fnz (a::l)=a:=by
 show cond (a != 0) a _=a;rw[bne_iff_ne.2 h];rfl
theorem qSC {l:List Int}:fnz (0::l)=fnz l:=rfl
theorem h24 {ti fi:List Int}{se:List (List Int)}(hs:Sb ti fi se):H24 (ti,fi,se)=some (aG ti fi se):=by
 have hst:=hs.t;have hsf:=hs.f;have hss:=hs.s;refine OkT.eq ?_;show OkT (G24 (ti,fi,se)) _;unfold G24 aG;dsimp only;refine yG (fun t=>t=if ti.length=0 then 12 else if 32 < ti.length then 5 else if fi.length≠ti.length∨se.length≠ti.length then 2 else 0) ?_ ?_
 ·refine qN (h59 _ _) (qN (h59 _ _) ?_)
  have e0:(cond ((ti.length:Int)==0) (12:Int) 0)=if ti.length=0 then 12 else 0:=by
   by_cases h:ti.length=0
   ·rw[if_pos h,h];rfl
   ·rw[if_neg h,show ((ti.length:Int)==0)=false by simp;exact fun q=>h (by rw[q];rfl)];rfl
  have e1:(cond (decide (32 < (ti.length:Int))) (5:Int) 0)=if 32 < ti.length then 5 else 0:=by
   by_cases h:32 < ti.length
   ·rw[if_pos h,decide_eq_true (by omega)];rfl
   ·rw[if_neg h,decide_eq_false (by omega)];rfl
  simp only[e0,e1]
  have hfin:∀ (x:Int),(x=if fi.length≠ti.length∨se.length≠ti.length then 2 else 0)->fnz [if ti.length=0 then 12 else 0,if 32 < ti.length then 5 else 0,x]=if ti.length=0 then 12 else if 32 < ti.length then 5 else if fi.length≠ti.length∨se.length≠ti.length then 2 else 0:=by
   intro x hx;subst hx;split
   ·exact qUZ (by decide)
   ·rw[qSC];split
    ·exact qUZ (by decide)
    ·rw[qSC];split <;> rfl
  by_cases h2:fi.length=ti.length
  ·refine zS (by rw[qF4];simp[h2]) (qN (h59 _ _) (qN (h58 _ (by simp)) (qA ⟨_,rfl,hfin _ ?_⟩)));by_cases h3:se.length=ti.length
   ·rw[if_neg (by omega),show ((se.length:Int) != (ti.length:Int))=false by simp[h3]];rfl
   ·rw[if_pos (.inr h3),show ((se.length:Int) != (ti.length:Int))=true by simp;omega];rfl
  ·exact yH (by rw[qF4];simp;omega) (qN (h58 _ (by simp)) (qA ⟨_,rfl,hfin _ (by rw[if_pos (.inl h2)])⟩))
 ·intro t ht;subst ht;by_cases h0:ti.length=0
  ·simp only[h0,if_true];exact zS rfl (qA rfl)
  simp only[if_neg h0];by_cases h1:32 < ti.length
  ·simp only[if_pos h1];exact zS rfl (qA rfl)
  simp only[if_neg h1];by_cases h2:fi.length≠ti.length∨se.length≠ti.length
  ·simp only[if_pos h2];exact zS rfl (qA rfl)
  simp only[if_neg h2];refine yH rfl ?_;have hse:se.length=ti.length:=by omega
  refine yG (fun t=>t=se.any fun r=>r.length != ti.length) ?_ ?_
  ·refine vM se.length (fun k=>(se.getD k []).length≠ti.length) (fun k=>.inr (.inl (k:Int))) (.inl (se.length:Int)) ?_ ?_ ?_ ?_
   ·intro k hk;refine zS (dW (show (k:Int) < (se.length:Int) by omega)) (qQ k rfl hk (qP hk ?_));rw[gDL hk];refine zU (fun q=>qA (.inl ⟨by have:=bne_iff_ne.1 q;omega,rfl⟩)) fun q=>qA (.inr ⟨by rw[bne_eq_false_iff_eq] at q;omega,?_⟩)
    rw[xO (show k < 2 ^ 62 by omega)]
   ·exact yH (mX (show ¬ (se.length:Int) < (se.length:Int) by omega)) (qA rfl)
   ·intro k hk hp _;exact qA ⟨_,rfl,by rw[qS4 hk hp];exact decide_eq_true (by omega)⟩
   ·intro hn;exact qA ⟨_,rfl,by rw[q3S hn];rfl⟩
  ·intro t ht;subst ht
   cases hr:se.any fun r=>r.length != ti.length with
   | true=>exact zS rfl (qA rfl)
   | false =>
   refine yH rfl (qN (h75 (by omega)) (qN (h75 (by omega)) (qN (h58 _ (by simp)) ?_)))
   have hrl:∀ k (hk:k < se.length),se[k].length=ti.length:=fun k hk=>by
    have:=zQS.1 hr _ (zPE hk);rw[zRA,bne_eq_false_iff_eq] at this;exact this
   have e3:fnz [cond (ti.any fun x=>outs x 0 1000000) 3 0,cond (fi.any fun x=>outs x 0 1000000) 3 0]=if (tB ti||tB fi)=true then 3 else 0:=by
    show fnz [cond (tB ti) 3 0,cond (tB fi) 3 0]=_;cases tB ti <;> cases tB fi <;> rfl
   rw[e3];refine vC se.length (fun k (s:Int)=>(s,(k:Int))) (fun k s=>s=if (tB ti||tB fi)=true then 3 else if qMX se k=true then 3 else 0) (if (tB ti||tB fi)=true then 3 else 0) rfl ?_ ?_ ?_
   ·rw[if_neg (show ¬ qMX se 0=true from fun h=>by cases h)]
   ·intro k s hk hs;have hkr:k < se[k].length:=by rw[hrl k hk];omega
    refine zS (dW (show (k:Int) < (se.length:Int) by omega)) (qQ k rfl hk (qP hk (qN (h75 (by rw[hrl k hk];omega)) (qQ k rfl hkr (qP hkr (qN (h59 _ _) (qN (h58 _ (by simp)) (qA ⟨fnz [s,cond (tB se[k]) 3 0,cond (se[k][k] != 0) 3 0],by simp only[xO (show k < 2 ^ 62 by omega)];rfl,?_⟩))))))))
    have e4:qMX se (k+1)=(qMX se k||(tB se[k]||(se[k][k] != 0))):=by
     show (qMX se k||qHO (se.getD k []) k)=_;unfold qHO;rw[gDL hk,gDE hkr]
    rw[hs,e4];cases (tB ti||tB fi) <;> cases qMX se k <;> cases tB se[k] <;> cases (se[k][k] != 0) <;> rfl
   ·intro s hs;refine yH (mX (show ¬ (se.length:Int) < (se.length:Int) by omega)) (qA ⟨_,rfl,qA ?_⟩);rw[hs];rfl
end Go.Proofs.YtkmfigmiehpcpaaGreatDoor
