/- Plain laws of chapter 9: the bound. Conditions: none. -/
import Derived.Test.YtmkiipeghngchaaGreatDoorPU3
set_option linter.all false
set_option maxRecDepth 10000
set_option maxHeartbeats 100000000
namespace Go.Proofs.YtmkiipeghngchaaGreatDoor
open Go Go.Idl Go.Sv Go.Proofs
def ttK (ts:List Int):Nat->Int
 | 0=>0
 | k+1=>ttK ts k+ts.getD k 0
theorem qKI {ts:List Int}(h:Rg ts 1000000):∀ k,0<=ttK ts k∧ttK ts k<=1000000*k
 | 0=>⟨zP2 _,zP2 _⟩
 | k+1=>by
   have:=qKI h k;have:=h.get (by omega) k;unfold ttK;omega
def mxK (ts:List Int):Nat->Int
 | 0=>0
 | k+1=>if mxK ts k < ts.getD k 0 then ts.getD k 0 else mxK ts k
theorem q34 (ts:List Int):∀ k,k<=ts.length->0<=mxK ts k∧(∀ j,j < k->ts.getD j 0<=mxK ts k)∧(mxK ts k=0∨mxK ts k∈ts)
 | 0,_=>⟨zP2 _,fun j h=>by omega,.inl rfl⟩
 | k+1,hk=>by
   obtain⟨h1,h2,h3⟩:=q34 ts k (by omega);unfold mxK;split
   ·refine⟨by omega,fun j hj=>?_,.inr ?_⟩
    ·by_cases e:j=k
     ·subst e;exact zP2 _
     ·have:=h2 j (by omega);omega
    ·rw[jJ (by omega)];exact zPW _
   ·refine⟨h1,fun j hj=>?_,h3⟩;by_cases e:j=k
    ·subst e;omega
    ·exact h2 j (by omega)
theorem q9S (ts:List Int):mxK ts ts.length=mx ts:=by
 obtain⟨h1,h2,h3⟩:=q34 ts ts.length (zOV _);refine (q08 h1 (fun x hx=>?_) h3).symm;obtain⟨i,hi,rfl⟩:=zQA.1 hx;rw[<-jJ hi];exact h2 i hi
theorem q65 {ts:List Int}{k:Nat}(h:Rg ts 1000000)(hk:k < ts.length)(hl:ts.length<=35):IntKind.i64.wrap (ttK ts k+ts[k])=ttK ts (k+1):=by
 have h1:=qKI h k;have h2:=h _ (zPW hk);rw[show ttK ts (k+1)=ttK ts k+ts.getD k 0 from rfl,jJ hk,qBI (by omega) (by omega)]
theorem h46 {ts:List Int}(h:Rg ts 1000000)(hl:ts.length<=35):H46 ts=some (ttK ts ts.length):=by
 refine OkT.eq ?_;show OkT (G46 ts) _;unfold G46;refine qBZ ts.length (fun k (s:Int)=>(s,(k:Int))) (fun k s=>s=ttK ts k) 0 rfl rfl ?_ ?_
 ·intro k s hk hs;refine aR (qTR (show (k:Int) < (ts.length:Int) by omega)) (yY k rfl hk (kD hk (qR ⟨ttK ts (k+1),?_,rfl⟩)));rw[hs];simp only[q65 h hk hl,sV (show k < 2 ^ 62 by omega)]
 ·intro s hs;exact qJZ (qYM (show ¬ (ts.length:Int) < (ts.length:Int) by omega)) (qR ⟨_,rfl,qR hs⟩)
def upv (ts:List Int)(m:Int):Int:=IntKind.i64.wrap ((IntKind.i64.wrap (IntKind.i64.wrap (ttK ts ts.length+m) - 1)).tdiv m)
theorem q92 {ts:List Int}{m:Int}(hm:m≠0):q9A .i64 (IntKind.i64.wrap (IntKind.i64.wrap (ttK ts ts.length+m) - 1)) m=some (upv ts m):=if_neg hm
theorem h84 {ts:List Int}{m:Int}(h:Rg ts 1000000)(hl:ts.length<=35)(hm:m≠0):H84 (m,ts)=some (upv ts m):=by
 refine OkT.eq ?_;show OkT (G84 m ts) _;unfold G84;refine qBZ ts.length (fun k (s:Int)=>(s,(k:Int))) (fun k s=>s=ttK ts k) 0 rfl rfl ?_ ?_
 ·intro k s hk hs;refine aR (qTR (show (k:Int) < (ts.length:Int) by omega)) (yY k rfl hk (kD hk (qR ⟨ttK ts (k+1),?_,rfl⟩)));rw[hs];simp only[q65 h hk hl,sV (show k < 2 ^ 62 by omega)]
 ·intro s hs;refine qJZ (qYM (show ¬ (ts.length:Int) < (ts.length:Int) by omega)) (qR ⟨_,rfl,?_⟩);have hs:s=ttK ts ts.length:=hs;subst hs;have:H63 (ttK ts ts.length,m)=some (upv ts m):=OkT.eq (zS (q92 hm) (qR rfl));exact zS this (qR rfl)
theorem q3M (ts:List Int):mx ([0]++ts)=mx ts:=by
 show (if mx ts < 0 then 0 else mx ts)=mx ts;have:=pI ts;rw[if_neg (by omega)]
theorem h85 {ts:List Int}{m:Int}(h:Rg ts 1000000)(hl:ts.length<=35):H85 (m,ts)=some (mx ts):=by
 refine OkT.eq ?_;show OkT (G85 m ts) _;unfold G85;refine wT (fun c=>qR ?_) fun c=>aR (zPD (by omega)) (zS (h83 (by simp) (by simp;omega) fun x hx=>?_) (qR (q3M ts)))
 ·have:=zOU c;rw[zR6 this];rfl
 ·rcases zP0.1 hx with q | q
  ·rw[zP7.1 q];exact zP2 _
  ·exact (h x q).1
def bnd (ts:List Int)(m:Int):Int:=if mx ts < upv ts m then upv ts m else mx ts
theorem h37 {ts:List Int}{m:Int}{M:Nat}(h:Vd ts m M):H37 (ts,m)=some (bnd ts m,0):=by
 have h1:=h.len;have h2:=h.m;have h3:=h.lo;have h4:=pI ts;refine OkT.eq ?_;show OkT (G37 ts m) _;unfold G37;refine zS (h82 (by omega)) (qJZ (by rw[h.bad];rfl) (zS (h84 h.ts (by omega) (by omega)) (zS (h85 h.ts (by omega)) (qR ?_))));unfold bnd
 cases c1:decide (0 < upv ts m) with
 | true =>
   have c1:=of_decide_eq_true c1
   cases c2:decide ((bif true then upv ts m else 0) < mx ts) with
   | true =>
     have c2:upv ts m < mx ts:=of_decide_eq_true c2;rw[if_neg (by omega)];rfl
   | false =>
     have c2:¬ upv ts m < mx ts:=of_decide_eq_false c2;split
     ·rfl
     ·show (upv ts m,(0:Int))=_;rw[show upv ts m=mx ts by omega]
 | false =>
   have c1:=of_decide_eq_false c1
   cases c2:decide ((bif false then upv ts m else 0) < mx ts) with
   | true=>rw[if_neg (by omega)];rfl
   | false =>
     have c2:¬ (0:Int) < mx ts:=of_decide_eq_false c2;rw[if_neg (by omega),show mx ts=0 by omega];rfl
end Go.Proofs.YtmkiipeghngchaaGreatDoor
