/- Plain laws of chapter 9: the bound. Conditions: none. -/
import Derived.Test.YtmkiipeghngchaaGreatDoorPU3
set_option linter.all false
set_option maxRecDepth 10000
set_option maxHeartbeats 100000000
namespace Go.Proofs.YtmkiipeghngchaaGreatDoor
open Go Go.Idl Go.Sv Go.Proofs
def ttK (ts:List Int):Nat->Int
 | 0=>0
 | k+1=>ttK ts k+ts.getD k 0
theorem qVQ {ts:List Int}(h:Rg ts 1000000):∀ k,0<=ttK ts k∧ttK ts k<=1000000*k
 | 0=>⟨zPO _,zPO _⟩
 | k+1=>by
   have:=qVQ h k;have:=h.get (by omega) k;unfold ttK;omega
def mxK (ts:List Int):Nat->Int
 | 0=>0
 | k+1=>if mxK ts k < ts.getD k 0 then ts.getD k 0 else mxK ts k
theorem q4A (ts:List Int):∀ k,k<=ts.length->0<=mxK ts k∧(∀ j,j < k->ts.getD j 0<=mxK ts k)∧(mxK ts k=0∨mxK ts k∈ts)
 | 0,_=>⟨zPO _,fun j h=>by omega,.inl rfl⟩
 | k+1,hk=>by
   obtain⟨h1,h2,h3⟩:=q4A ts k (by omega);unfold mxK;split
   ·refine⟨by omega,fun j hj=>?_,.inr ?_⟩
    ·by_cases e:j=k
     ·subst e;exact zPO _
     ·have:=h2 j (by omega);omega
    ·rw[vZ (by omega)];exact zPA _
   ·refine⟨h1,fun j hj=>?_,h3⟩;by_cases e:j=k
    ·subst e;omega
    ·exact h2 j (by omega)
theorem q88 (ts:List Int):mxK ts ts.length=mx ts:=by
 obtain⟨h1,h2,h3⟩:=q4A ts ts.length (zOA _);refine (q27 h1 (fun x hx=>?_) h3).symm;obtain⟨i,hi,rfl⟩:=zPS.1 hx;rw[<-vZ hi];exact h2 i hi
theorem q6B {ts:List Int}{k:Nat}(h:Rg ts 1000000)(hk:k < ts.length)(hl:ts.length<=35):IntKind.i64.wrap (ttK ts k+ts[k])=ttK ts (k+1):=by
 have h1:=qVQ h k;have h2:=h _ (zPA hk);rw[show ttK ts (k+1)=ttK ts k+ts.getD k 0 from rfl,vZ hk,qI4 (by omega) (by omega)]
theorem h46 {ts:List Int}(h:Rg ts 1000000)(hl:ts.length<=35):H46 ts=some (ttK ts ts.length):=by
 refine OkT.eq ?_;show OkT (G46 ts) _;unfold G46;refine tK ts.length (fun k (s:Int)=>(s,(k:Int))) (fun k s=>s=ttK ts k) 0 rfl rfl ?_ ?_
 ·intro k s hk hs;refine vY (qN3 (show (k:Int) < (ts.length:Int) by omega)) (yL k rfl hk (xJ hk (qI ⟨ttK ts (k+1),?_,rfl⟩)));rw[hs];simp only[q6B h hk hl,eB (show k < 2 ^ 62 by omega)]
 ·intro s hs;exact rE (qRG (show ¬ (ts.length:Int) < (ts.length:Int) by omega)) (qI ⟨_,rfl,qI hs⟩)
def upv (ts:List Int)(m:Int):Int:=IntKind.i64.wrap ((IntKind.i64.wrap (IntKind.i64.wrap (ttK ts ts.length+m) - 1)).tdiv m)
theorem q4W {ts:List Int}{m:Int}(hm:m≠0):q73 .i64 (IntKind.i64.wrap (IntKind.i64.wrap (ttK ts ts.length+m) - 1)) m=some (upv ts m):=if_neg hm
theorem h84 {ts:List Int}{m:Int}(h:Rg ts 1000000)(hl:ts.length<=35)(hm:m≠0):H84 (m,ts)=some (upv ts m):=by
 refine OkT.eq ?_;show OkT (G84 m ts) _;unfold G84;refine tK ts.length (fun k (s:Int)=>(s,(k:Int))) (fun k s=>s=ttK ts k) 0 rfl rfl ?_ ?_
 ·intro k s hk hs;refine vY (qN3 (show (k:Int) < (ts.length:Int) by omega)) (yL k rfl hk (xJ hk (qI ⟨ttK ts (k+1),?_,rfl⟩)));rw[hs];simp only[q6B h hk hl,eB (show k < 2 ^ 62 by omega)]
 ·intro s hs;refine rE (qRG (show ¬ (ts.length:Int) < (ts.length:Int) by omega)) (qI ⟨_,rfl,?_⟩);have hs:s=ttK ts ts.length:=hs;subst hs;have:H63 (ttK ts ts.length,m)=some (upv ts m):=OkT.eq (qZ (q4W hm) (qI rfl));exact qZ this (qI rfl)
theorem q1Y (ts:List Int):mx ([0]++ts)=mx ts:=by
 show (if mx ts < 0 then 0 else mx ts)=mx ts;have:=qGT ts;rw[if_neg (by omega)]
theorem h85 {ts:List Int}{m:Int}(h:Rg ts 1000000)(hl:ts.length<=35):H85 (m,ts)=some (mx ts):=by
 refine OkT.eq ?_;show OkT (G85 m ts) _;unfold G85;refine jO (fun c=>qI ?_) fun c=>vY (zOR (by omega)) (qZ (h83 (by simp) (by simp;omega) fun x hx=>?_) (qI (q1Y ts)))
 ·have:=zN9 c;rw[zQX this];rfl
 ·rcases zPD.1 hx with q | q
  ·rw[zPJ.1 q];exact zPO _
  ·exact (h x q).1
def bnd (ts:List Int)(m:Int):Int:=if mx ts < upv ts m then upv ts m else mx ts
theorem zEJ {ts:List Int}{m:Int}(hl:ts.length<=35)(hb:nK ts m≠0):H37 (ts,m)=some (0,nK ts m):=by
 refine OkT.eq ?_;show OkT (G37 ts m) _;unfold G37;exact qZ (h82 (by omega)) (vY (bne_iff_ne.2 hb) (qI rfl))
theorem h37 {ts:List Int}{m:Int}{M:Nat}(h:Vd ts m M):H37 (ts,m)=some (bnd ts m,0):=by
 have h1:=h.len;have h2:=h.m;have h3:=h.lo;have h4:=qGT ts;refine OkT.eq ?_;show OkT (G37 ts m) _;unfold G37;refine qZ (h82 (by omega)) (rE (by rw[h.bad];rfl) (qZ (h84 h.ts (by omega) (by omega)) (qZ (h85 h.ts (by omega)) (qI ?_))));unfold bnd
 cases c1:decide (0 < upv ts m) with
 | true =>
   have c1:=of_decide_eq_true c1
   cases c2:decide ((bif true then upv ts m else 0) < mx ts) with
   | true =>
     have c2:upv ts m < mx ts:=of_decide_eq_true c2;rw[if_neg (by omega)];rfl
   | false =>
     have c2:¬ upv ts m < mx ts:=of_decide_eq_false c2;split
     ·rfl
     ·show (upv ts m,(0:Int))=_;rw[show upv ts m=mx ts by omega]
 | false =>
   have c1:=of_decide_eq_false c1
   cases c2:decide ((bif false then upv ts m else 0) < mx ts) with
   | true=>rw[if_neg (by omega)];rfl
   | false =>
     have c2:¬ (0:Int) < mx ts:=of_decide_eq_false c2;rw[if_neg (by omega),show mx ts=0 by omega];rfl
theorem h40 {ts:List Int}{m:Int}{M:Nat}(h:Vd ts m M):H40 (ts,m)=some (bnd ts m):=by
 have h1:=h.len;have h2:=h.m;have h3:=h.lo;refine OkT.eq ?_;show OkT (G40 ts m) _;unfold G40;refine tK ts.length (fun k (s:Int)=>(s,(k:Int))) (fun k s=>s=mxK ts k) 0 rfl rfl ?_ ?_
 ·intro k s hk hs;refine vY (qN3 (show (k:Int) < (ts.length:Int) by omega)) (yL k rfl hk (xJ hk (qI ⟨mxK ts (k+1),?_,rfl⟩)));rw[hs];simp only[eB (show k < 2 ^ 62 by omega)];rw[show mxK ts (k+1)=if mxK ts k < ts.getD k 0 then ts.getD k 0 else mxK ts k from rfl,vZ hk]
  cases c:decide (mxK ts k < ts[k]) with
  | true=>rw[if_pos (of_decide_eq_true c)];rfl
  | false=>rw[if_neg (of_decide_eq_false c)];rfl
 ·intro s hs;refine rE (qRG (show ¬ (ts.length:Int) < (ts.length:Int) by omega)) (qI ⟨_,rfl,?_⟩);have hs:s=mxK ts ts.length:=hs;rw[q88] at hs;subst hs;refine qZ (h46 h.ts (by omega)) (qZ (q4W (by omega)) (qI ?_));unfold bnd
  cases c:decide (mx ts < upv ts m) with
  | true=>rw[if_pos (of_decide_eq_true c)];rfl
  | false=>rw[if_neg (of_decide_eq_false c)];rfl
end Go.Proofs.YtmkiipeghngchaaGreatDoor
