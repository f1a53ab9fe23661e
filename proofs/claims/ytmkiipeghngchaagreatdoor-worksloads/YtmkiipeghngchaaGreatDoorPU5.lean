/- Plain laws of chapter 9: the search for the best list, what both come to. Conditions: none. -/
import Derived.Test.YtmkiipeghngchaaGreatDoorPU4
set_option linter.all false
set_option maxRecDepth 10000
set_option maxHeartbeats 100000000
namespace Go.Proofs.YtmkiipeghngchaaGreatDoor
open Go Go.Idl Go.Sv Go.Proofs
def nxK (b:List Int):Nat->Int
 | 0=>0
 | k+1=>if nxK b k < b.getD k 0+1 then b.getD k 0+1 else nxK b k
def nx (b:List Int):Int:=nxK b b.length
theorem qO2 {b:List Int}{k:Int}{j:Nat}(h:j < b.length):(b++[k]).getD j 0=b.getD j 0:=by
 rw[zPN,zPP h,<-zPN]
theorem qKT {b:List Int}{k:Int}:(b++[k]).getD b.length 0=k:=by
 rw[zPN,zPY (zOA _),Nat.sub_self];rfl
theorem qUF {b:List Int}{k:Int}:∀ {j:Nat},j<=b.length->nxK (b++[k]) j=nxK b j
 | 0,_=>rfl
 | j+1,h=>by
   show (if nxK (b++[k]) j < _ then _ else _)=(if nxK b j < _ then _ else _);rw[qUF (by omega),qO2 (by omega)]
theorem q9H {b:List Int}{k:Int}:nx (b++[k])=if nx b < k+1 then k+1 else nx b:=by
 unfold nx;rw[zOW];show (if nxK (b++[k]) b.length < _ then _ else _)=_;rw[qUF (zOA _),qKT]
theorem qUB {b:List Int}{M:Nat}(h:∀ j (hj:j < b.length),∃ K:Nat,b[j]=(K:Int)∧K < M):∀ k,k<=b.length->0<=nxK b k∧nxK b k<=M
 | 0,_=>⟨zPO _,by show (0:Int)<=_;omega⟩
 | k+1,hk=>by
   have:=qUB h k (by omega);obtain⟨K,h1,h2⟩:=h k (by omega);show 0<=(if nxK b k < b.getD k 0+1 then b.getD k 0+1 else nxK b k)∧(if nxK b k < b.getD k 0+1 then b.getD k 0+1 else nxK b k)<=M;rw[vZ (show k < b.length by omega),h1];split <;> omega
theorem q0G {b:List Int}{M:Nat}(h:qLZ M b=false):0<=nx b∧nx b<=M:=qUB (fun j hj=>qAB h j hj) _ (zOA _)
def cnt (M:Nat)(b:List Int):Nat:=if nx b+1 < M then (nx b+1).toNat else M
theorem cnt_lt {M k:Nat}{b:List Int}(h:qLZ M b=false):k < cnt M b ↔ ((k:Int)<=nx b∧k < M):=by
 have:=q0G h;unfold cnt;split <;> omega
theorem qM7 {M:Nat}{b:List Int}(hM:1<=M)(h:qLZ M b=false):0 < cnt M b:=(cnt_lt h).2 ⟨by have:=q0G h;omega,hM⟩
theorem dS {M k:Nat}{b:List Int}(h:qLZ M b=false)(hk:k < M):qLZ M (b++[(k:Int)])=false:=by
 unfold qLZ at h ⊢;rw[List.any_append,h];unfold outs;simp;omega
def bst (f:Nat->Int×List Int):Nat->Int×List Int
 | 0=>(-1,[])
 | k+1=>if (bst f k).1 < 0∨(f k).1 < (bst f k).1 then f k else bst f k
theorem qVR {f:Nat->Int×List Int}{v:Int}(h0:0<=v):∀ {n:Nat},(∀ k,k < n->v<=(f k).1)->0 < n->v<=(bst f n).1
 | 0,_,h=>by omega
 | k+1,h,_=>by
   show v<=(if (bst f k).1 < 0∨(f k).1 < (bst f k).1 then f k else bst f k).1;split
   ·exact h k (by omega)
   ·rename_i hc;by_cases hk:k=0
    ·subst hk;exact absurd (.inl (show (-1:Int) < 0 by decide)) hc
    ·exact qVR h0 (fun j hj=>h j (by omega)) (by omega)
def upd (st:List Int×Int)(r:Int×List Int):List Int×Int:=if r.1 < st.2 then (r.2,r.1) else st
def q8L (f:Nat->Int×List Int)(st:List Int×Int):Nat->List Int×Int
 | 0=>st
 | k+1=>upd (q8L f st k) (f k)
theorem qQG {f:Nat->Int×List Int}{st:List Int×Int}:∀ {n:Nat},(∀ k,k < n->0<=(f k).1)->0 < n->q8L f st n=upd st (bst f n)
 | 0,_,h=>by omega
 | k+1,h,_=>by
   show upd (q8L f st k) (f k)=upd st (if (bst f k).1 < 0∨(f k).1 < (bst f k).1 then f k else bst f k);by_cases hk:k=0
   ·subst hk;rw[if_pos (.inl (show (-1:Int) < 0 by decide))];rfl
   ·have hb:=qVR (f:=f) (zPO 0) (n:=k) (fun j hj=>h j (by omega)) (by omega);rw[qQG (fun j hj=>h j (by omega)) (by omega)];by_cases hc:(f k).1 < (bst f k).1
    ·rw[if_pos (.inr hc)];unfold upd;by_cases h1:(bst f k).1 < st.2
     ·rw[if_pos h1,if_pos hc,if_pos (by omega)]
     ·rw[if_neg h1]
    ·rw[if_neg (by omega)];unfold upd;by_cases h1:(bst f k).1 < st.2
     ·rw[if_pos h1];exact if_neg hc
     ·rw[if_neg h1,if_neg (by omega)]
def sp (M:Nat)(ts:List Int):Nat->List Int->Int×List Int
 | 0,b=>(mx (lds M ts b b.length),b)
 | d+1,b=>bst (fun k=>sp M ts d (b++[(k:Int)])) (cnt M b)
theorem qLN {l ts a b:List Int}:∀ {k:Nat},(∀ j,j < k->a.getD j 0=b.getD j 0)->ldK l ts a k=ldK l ts b k
 | 0,_=>rfl
 | k+1,h=>by
   show ad (ldK l ts a k) _ _=ad (ldK l ts b k) _ _;rw[qLN fun j hj=>h j (by omega),h k (by omega)]
theorem qQ0 {l ts b:List Int}{k:Nat}:ldK l ts (b++[(k:Int)]) (b++[(k:Int)]).length=ad (ldK l ts b b.length) k (ts.getD b.length 0):=by
 rw[zOW];show ad (ldK l ts (b++[(k:Int)]) b.length) _ _=_;rw[qLN (b:=b) fun j hj=>qO2 hj,qKT,zPC]
theorem q6D {M:Nat}{ts:List Int}(hM:1<=M)(ht:Rg ts 1000000):∀ (d:Nat) (b:List Int),qLZ M b=false->mx (lds M ts b b.length)<=(sp M ts d b).1
 | 0,b,_=>zPO _
 | d+1,b,hb=>by
   refine qVR (qGT _) (fun k hk=>?_) (qM7 hM hb);have hk2:=(cnt_lt hb).1 hk;refine Int.le_trans ?_ (q6D hM ht d _ (dS hb hk2.2));unfold lds;rw[qQ0];have:=qED (a:=b) (rg0 M) (zPO _) ht b.length;exact q72 (ht.get (by omega) _).1 fun x hx=>(this x hx).1
theorem zB1 {M:Nat}{ts:List Int}(hM:1<=M)(ht:Rg ts 1000000)(d:Nat)(b:List Int)(hb:qLZ M b=false):0<=(sp M ts d b).1:=Int.le_trans (qGT _) (q6D hM ht d b hb)
theorem r41 {ts:List Int}{m:Int}{M:Nat}(h:Vd ts m M):∀ (d fuel:Nat) (b:List Int),d < fuel->b.length+d=ts.length->qLZ M b=false->R41 fuel (ts,m,b)=some (sp M ts d b)
 | d,0,b,hf,_,_=>by omega
 | 0,fuel+1,b,hf,hl,hb=>by
   have hlen:=h.len;refine OkT.eq ?_;show OkT (G41 (R41 fuel) ts m b) _;unfold G41;refine vY (by simp;omega) (qZ (h39 h (by omega)) (qI ?_));unfold cs;rw[if_neg (by omega),if_neg (by rw[hb];simp)];rfl
 | d+1,fuel+1,b,hf,hl,hb=>by
   have hlen:=h.len;have hm:=h.m;have hM:=h.hi;have hnx:=q0G hb;refine OkT.eq ?_;show OkT (G41 (R41 fuel) ts m b) _;unfold G41;refine rE (by simp;omega) ?_;refine tK b.length (fun k (s:Int)=>(s,(k:Int))) (fun k s=>s=nxK b k) 0 rfl rfl ?_ ?_
   ·intro k s hk hs;have hr:=qUB (fun j hj=>qAB hb j hj) k (by omega);obtain⟨K,q1,q2⟩:=qAB hb k hk;refine vY (qN3 (show (k:Int) < (b.length:Int) by omega)) (yL k rfl hk (xJ hk (qI ⟨nxK b (k+1),?_,rfl⟩)));rw[hs];have w:IntKind.i64.wrap (b[k]+1)=b[k]+1:=qI4 (by omega) (by omega);simp only[eB (show k < 2 ^ 62 by omega),w];rw[show nxK b (k+1)=if nxK b k < b.getD k 0+1 then b.getD k 0+1 else nxK b k from rfl,vZ hk]
    cases c:decide (nxK b k < b[k]+1) with
    | true=>rw[if_pos (of_decide_eq_true c)];rfl
    | false=>rw[if_neg (of_decide_eq_false c)];rfl
   ·intro s hs;refine rE (qRG (show ¬ (b.length:Int) < (b.length:Int) by omega)) (qI ⟨_,rfl,?_⟩);have hs:s=nx b:=hs;subst hs;refine tK (cnt M b) (fun k (s:Int×List Int)=>(s.1,s.2,(k:Int))) (fun k s=>s=bst (fun k=>sp M ts d (b++[(k:Int)])) k) (-1,[]) rfl rfl ?_ ?_
    ·rintro k ⟨v,w⟩ hk hs;have hk2:=(cnt_lt hb).1 hk;have hrec:R41 fuel (ts,m,b++[(k:Int)])=some (sp M ts d (b++[(k:Int)])):=r41 h d fuel _ (by omega) (by simp;omega) (dS hb hk2.2)
     have hst:∀ x6:Int×List Int,x6=sp M ts d (b++[(k:Int)])->OkT (zEP.ite (yC (decide (v < 0)) false) (zEP.ite (decide (x6.fst < v)) (zEP.ret (Sum.inl (x6.fst,x6.snd,IntKind.i64.wrap ((k:Int)+1)))) (zEP.ret (Sum.inl (v,w,IntKind.i64.wrap ((k:Int)+1))))) (zEP.ret (Sum.inl (x6.fst,x6.snd,IntKind.i64.wrap ((k:Int)+1)))):zEP (Int×List Int×Int⊕Int×List Int×Int⊕Int×List Int⊕Nat×Int×List Int×Int)) fun o=>∃ s':Int×List Int,o=.inl (s'.1,s'.2,((k+1:Nat):Int))∧s'=bst (fun k=>sp M ts d (b++[(k:Int)])) (k+1):=by
      intro x6 hx
      have hb1:bst (fun k=>sp M ts d (b++[(k:Int)])) (k+1)=if v < 0∨x6.1 < v then x6 else (v,w):=by
       show (if (bst _ k).1 < 0∨_ < (bst _ k).1 then _ else bst _ k)=_;rw[<-hs,hx]
      rw[hb1,eB (show k < 2 ^ 62 by omega)];refine jO (fun c=>jO (fun c2=>qI ⟨x6,rfl,?_⟩) fun c2=>qI ⟨(v,w),rfl,?_⟩) fun c=>qI ⟨x6,rfl,?_⟩
      ·rw[if_pos (.inr (of_decide_eq_true c2))]
      ·rw[q8A,zO0] at c;have:=of_decide_eq_false c;have:=of_decide_eq_false c2;rw[if_neg (by omega)]
      ·rw[q8A,zSU] at c;rw[if_pos (.inl (of_decide_eq_true c))]
     refine vY (decide_eq_true (show (k:Int)<=nx b from hk2.1)) (vY (qN3 (show (k:Int) < m by omega)) (jO (fun c=>?_) fun c=>vY (zOR (by omega)) (vY (zOR (by simp;omega)) ?_)))
     ·have hb0:b=[]:=zQX (zN9 c);subst hb0;exact qZ hrec (hst _ rfl)
     ·exact qZ hrec (hst _ rfl)
    ·rintro⟨v,w⟩ hs;have hend:¬ (((cnt M b:Nat):Int)<=nx b∧cnt M b < M):=fun q=>by have:=(cnt_lt hb).2 q;omega
     have hfin:OkT (zEP.ret (Sum.inr (Sum.inl (v,w,((cnt M b:Nat):Int)))):zEP (Int×List Int×Int⊕Int×List Int×Int⊕Int×List Int⊕Nat×Int×List Int×Int)) fun o=>∃ t,o=.inr t∧OkT (zEP.sum t (fun (s6:Int×List Int×Int)=>(zEP.ret (s6.fst,s6.snd.fst):zEP (Int×List Int))) fun (s6:Int×List Int⊕Nat×Int×List Int×Int)=>zEP.sum s6 (fun (s7:Int×List Int)=>zEP.ret (s7.fst,s7.snd)) fun (s7:Nat×Int×List Int×Int)=>zEP.fail) fun r=>r=sp M ts (d+1) b:=qI ⟨_,rfl,qI hs⟩
     refine jO (fun c=>rE (qRG ?_) hfin) fun c=>hfin
     have c:((cnt M b:Nat):Int)<=nx b:=of_decide_eq_true c;show ¬ ((cnt M b:Nat):Int) < m;omega
end Go.Proofs.YtmkiipeghngchaaGreatDoor
