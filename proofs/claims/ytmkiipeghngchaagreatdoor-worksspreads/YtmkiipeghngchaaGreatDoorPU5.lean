/- Plain laws of chapter 9: the search for the best list, what both come to. Conditions: none. -/
import Derived.Test.YtmkiipeghngchaaGreatDoorPU4
set_option linter.all false
set_option maxRecDepth 10000
set_option maxHeartbeats 100000000
namespace Go.Proofs.YtmkiipeghngchaaGreatDoor
open Go Go.Idl Go.Sv Go.Proofs
def nxK (b:List Int):Nat->Int
 | 0=>0
 | k+1=>if nxK b k < b.getD k 0+1 then b.getD k 0+1 else nxK b k
def nx (b:List Int):Int:=nxK b b.length
theorem qAJ {b:List Int}{k:Int}{j:Nat}(h:j < b.length):(b++[k]).getD j 0=b.getD j 0:=by
 rw[zPX,zQC h,<-zPX]
theorem nX {b:List Int}{k:Int}:(b++[k]).getD b.length 0=k:=by
 rw[zPX,zQJ (zOV _),zS8];rfl
theorem qWL {b:List Int}{k:Int}:∀ {j:Nat},j<=b.length->nxK (b++[k]) j=nxK b j
 | 0,_=>rfl
 | j+1,h=>by
   show (if nxK (b++[k]) j < _ then _ else _)=(if nxK b j < _ then _ else _);rw[qWL (by omega),qAJ (by omega)]
theorem zA5 {b:List Int}{k:Int}:nx (b++[k])=if nx b < k+1 then k+1 else nx b:=by
 unfold nx;rw[zPC];show (if nxK (b++[k]) b.length < _ then _ else _)=_;rw[qWL (zOV _),nX]
theorem q46 {b:List Int}{M:Nat}(h:∀ j (hj:j < b.length),∃ K:Nat,b[j]=(K:Int)∧K < M):∀ k,k<=b.length->0<=nxK b k∧nxK b k<=M
 | 0,_=>⟨zP2 _,by show (0:Int)<=_;omega⟩
 | k+1,hk=>by
   have:=q46 h k (by omega);obtain⟨K,h1,h2⟩:=h k (by omega);show 0<=(if nxK b k < b.getD k 0+1 then b.getD k 0+1 else nxK b k)∧(if nxK b k < b.getD k 0+1 then b.getD k 0+1 else nxK b k)<=M;rw[jJ (show k < b.length by omega),h1];split <;> omega
theorem q1Y {b:List Int}{M:Nat}(h:rJ M b=false):0<=nx b∧nx b<=M:=q46 (fun j hj=>oQ h j hj) _ (zOV _)
def cnt (M:Nat)(b:List Int):Nat:=if nx b+1 < M then (nx b+1).toNat else M
theorem cnt_lt {M k:Nat}{b:List Int}(h:rJ M b=false):k < cnt M b ↔ ((k:Int)<=nx b∧k < M):=by
 have:=q1Y h;unfold cnt;split <;> omega
theorem qHJ {M:Nat}{b:List Int}(hM:1<=M)(h:rJ M b=false):0 < cnt M b:=(cnt_lt h).2 ⟨by have:=q1Y h;omega,hM⟩
theorem uR {M k:Nat}{b:List Int}(h:rJ M b=false)(hk:k < M):rJ M (b++[(k:Int)])=false:=by
 unfold rJ at h ⊢;rw[List.any_append,h];unfold outs;simp;omega
def bst (f:Nat->Int×List Int):Nat->Int×List Int
 | 0=>(-1,[])
 | k+1=>if (bst f k).1 < 0∨(f k).1 < (bst f k).1 then f k else bst f k
theorem qPD {f:Nat->Int×List Int}{v:Int}(h0:0<=v):∀ {n:Nat},(∀ k,k < n->v<=(f k).1)->0 < n->v<=(bst f n).1
 | 0,_,h=>by omega
 | k+1,h,_=>by
   show v<=(if (bst f k).1 < 0∨(f k).1 < (bst f k).1 then f k else bst f k).1;split
   ·exact h k (by omega)
   ·rename_i hc;by_cases hk:k=0
    ·subst hk;exact absurd (.inl (show (-1:Int) < 0 by decide)) hc
    ·exact qPD h0 (fun j hj=>h j (by omega)) (by omega)
def upd (st:List Int×Int)(r:Int×List Int):List Int×Int:=if r.1 < st.2 then (r.2,r.1) else st
def q87 (f:Nat->Int×List Int)(st:List Int×Int):Nat->List Int×Int
 | 0=>st
 | k+1=>upd (q87 f st k) (f k)
theorem qRF {f:Nat->Int×List Int}{st:List Int×Int}:∀ {n:Nat},(∀ k,k < n->0<=(f k).1)->0 < n->q87 f st n=upd st (bst f n)
 | 0,_,h=>by omega
 | k+1,h,_=>by
   show upd (q87 f st k) (f k)=upd st (if (bst f k).1 < 0∨(f k).1 < (bst f k).1 then f k else bst f k);by_cases hk:k=0
   ·subst hk;rw[if_pos (.inl (show (-1:Int) < 0 by decide))];rfl
   ·have hb:=qPD (f:=f) (zP2 0) (n:=k) (fun j hj=>h j (by omega)) (by omega);rw[qRF (fun j hj=>h j (by omega)) (by omega)];by_cases hc:(f k).1 < (bst f k).1
    ·rw[if_pos (.inr hc)];unfold upd;by_cases h1:(bst f k).1 < st.2
     ·rw[if_pos h1,if_pos hc,if_pos (by omega)]
     ·rw[if_neg h1]
    ·rw[if_neg (by omega)];unfold upd;by_cases h1:(bst f k).1 < st.2
     ·rw[if_pos h1];exact if_neg hc
     ·rw[if_neg h1,if_neg (by omega)]
def sp (M:Nat)(ts:List Int):Nat->List Int->Int×List Int
 | 0,b=>(mx (lds M ts b b.length),b)
 | d+1,b=>bst (fun k=>sp M ts d (b++[(k:Int)])) (cnt M b)
theorem qJC {l ts a b:List Int}:∀ {k:Nat},(∀ j,j < k->a.getD j 0=b.getD j 0)->ldK l ts a k=ldK l ts b k
 | 0,_=>rfl
 | k+1,h=>by
   show ad (ldK l ts a k) _ _=ad (ldK l ts b k) _ _;rw[qJC fun j hj=>h j (by omega),h k (by omega)]
theorem qRM {l ts b:List Int}{k:Nat}:ldK l ts (b++[(k:Int)]) (b++[(k:Int)]).length=ad (ldK l ts b b.length) k (ts.getD b.length 0):=by
 rw[zPC];show ad (ldK l ts (b++[(k:Int)]) b.length) _ _=_;rw[qJC (b:=b) fun j hj=>qAJ hj,nX,zPV]
theorem q6U {M:Nat}{ts:List Int}(hM:1<=M)(ht:Rg ts 1000000):∀ (d:Nat) (b:List Int),rJ M b=false->mx (lds M ts b b.length)<=(sp M ts d b).1
 | 0,b,_=>zP2 _
 | d+1,b,hb=>by
   refine qPD (pI _) (fun k hk=>?_) (qHJ hM hb);have hk2:=(cnt_lt hb).1 hk;refine zSM ?_ (q6U hM ht d _ (uR hb hk2.2));unfold lds;rw[qRM];have:=qA4 (a:=b) (rg0 M) (zP2 _) ht b.length;exact qYC (ht.get (by omega) _).1 fun x hx=>(this x hx).1
theorem zA6 {M:Nat}{ts:List Int}(hM:1<=M)(ht:Rg ts 1000000)(d:Nat)(b:List Int)(hb:rJ M b=false):0<=(sp M ts d b).1:=zSM (pI _) (q6U hM ht d b hb)
end Go.Proofs.YtmkiipeghngchaaGreatDoor
