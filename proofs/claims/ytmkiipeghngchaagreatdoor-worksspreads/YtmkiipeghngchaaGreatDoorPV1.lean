/- Plain laws of chapter 9: the best list is no worse than any. Conditions: none. -/
import Derived.Test.YtmkiipeghngchaaGreatDoorPU5
set_option linter.all false
set_option maxRecDepth 10000
set_option maxHeartbeats 100000000
namespace Go.Proofs.YtmkiipeghngchaaGreatDoor
open Go Go.Idl Go.Sv Go.Proofs
theorem qM5 {f:Nat->Int×List Int}:∀ {n y:Nat},(∀ k,k < n->0<=(f k).1)->y < n->(bst f n).1<=(f y).1
 | 0,y,_,h=>by omega
 | k+1,y,h,hy=>by
   show (if (bst f k).1 < 0∨(f k).1 < (bst f k).1 then f k else bst f k).1<=_;by_cases e:y=k
   ·subst e;split
    ·exact zP2 _
    ·omega
   ·have ih:=qM5 (f:=f) (n:=k) (y:=y) (fun j hj=>h j (by omega)) (by omega);have hb:=qPD (f:=f) (zP2 0) (n:=k) (fun j hj=>h j (by omega)) (by omega);split <;> omega
theorem zCS {b:List Int}{j:Nat}(h:j < b.length):b.getD j 0+1<=nx b:=by
 have key:∀ k,k<=b.length->∀ j,j < k->b.getD j 0+1<=nxK b k:=by
  intro k
  induction k with
  | zero=>intro _ j h;omega
  | succ k ih =>
    intro hk j hj;show _<=(if nxK b k < b.getD k 0+1 then b.getD k 0+1 else nxK b k);by_cases e:j=k
    ·subst e;split <;> omega
    ·have:=ih (by omega) j (by omega);split <;> omega
 exact key _ (zOV _) j h
def ldi (ts a:List Int)(i:Nat):Nat->Int
 | 0=>0
 | k+1=>ldi ts a i k+if (a.getD k 0).toNat=i then ts.getD k 0 else 0
theorem zAK {l:List Int}{i j:Nat}{t:Int}(hj:j < l.length):(ad l j t).getD i 0=l.getD i 0+if j=i then t else 0:=by
 unfold ad;rw[zPX,zPM];by_cases e:j=i
 ·subst e;rw[if_pos rfl,if_pos hj,if_pos rfl];rfl
 ·rw[if_neg e,if_neg e,Int.add_zero,<-zPX]
theorem qOH {M:Nat}{ts a:List Int}{i:Nat}:∀ {k:Nat},(∀ j,j < k->(a.getD j 0).toNat < M)->(lds M ts a k).getD i 0=ldi ts a i k
 | 0,_=>by
   show (List.replicate M (0:Int)).getD i 0=0;rw[zPX,zQ4];split <;> rfl
 | k+1,h=>by
   show (ad (lds M ts a k) _ _).getD i 0=ldi ts a i k+_;have hl:(lds M ts a k).length=M:=(gX _ _ _ _).trans zPY;rw[zAK (by rw[hl];exact h k (by omega)),qOH fun j hj=>h j (by omega)]
theorem qKN {M:Nat}{ts a:List Int}{k:Nat}{v:Int}(h0:0<=v)(h:∀ j,j < k->(a.getD j 0).toNat < M)(hv:∀ i,i < M->ldi ts a i k<=v):mx (lds M ts a k)<=v:=by
 have hl:(lds M ts a k).length=M:=(gX _ _ _ _).trans zPY;rcases qJQ (lds M ts a k) with q | q
 ·omega
 ·obtain⟨i,hi,e⟩:=zQA.1 q;rw[<-e,<-jJ hi,qOH h];exact hv i (by omega)
theorem q39 {M:Nat}{ts a:List Int}{k i:Nat}(h:∀ j,j < k->(a.getD j 0).toNat < M)(hi:i < M):ldi ts a i k<=mx (lds M ts a k):=by
 have hl:(lds M ts a k).length=M:=(gX _ _ _ _).trans zPY;rw[<-qOH h,jJ (by omega)];exact qJA (zPW _)
theorem qUB {ts a b:List Int}{σ:Nat->Nat}{M i:Nat}(hi:i < M)(hσ:∀ x y,x < M->y < M->σ x=σ y->x=y):∀ {k:Nat},(∀ j,j < k->(a.getD j 0).toNat < M∧(b.getD j 0).toNat=σ (a.getD j 0).toNat)->ldi ts b (σ i) k=ldi ts a i k
 | 0,_=>rfl
 | k+1,h=>by
   show ldi ts b (σ i) k+_=ldi ts a i k+_;obtain⟨h1,h2⟩:=h k (by omega);rw[qUB hi hσ fun j hj=>h j (by omega),h2];by_cases e:(a.getD k 0).toNat=i
   ·rw[if_pos (by rw[e]),if_pos e]
   ·rw[if_neg (fun q=>e (hσ _ _ h1 hi q)),if_neg e]
theorem qOX {ts b:List Int}{i:Nat}:∀ {k:Nat},(∀ j,j < k->(b.getD j 0).toNat≠i)->ldi ts b i k=0
 | 0,_=>rfl
 | k+1,h=>by
   show ldi ts b i k+_=0;rw[qOX fun j hj=>h j (by omega),if_neg (h k (by omega))];rfl
theorem gD {M:Nat}{a:List Int}(h:rJ M a=false)(j:Nat)(hj:j < a.length):(a.getD j 0).toNat < M∧a.getD j 0=((a.getD j 0).toNat:Int):=by
 obtain⟨K,q1,q2⟩:=oQ h j hj;rw[jJ hj,q1,zPV];exact⟨q2,rfl⟩
theorem zA2 {u v y z:Nat}(q:(if u=y then z else if u=z then y else u)=(if v=y then z else if v=z then y else v)):u=v:=by
 by_cases a:u=y
 ·rw[if_pos a] at q;by_cases b:v=y
  ·omega
  ·rw[if_neg b] at q;by_cases c:v=z
   ·rw[if_pos c] at q;omega
   ·rw[if_neg c] at q;omega
 ·rw[if_neg a] at q;by_cases c:u=z
  ·rw[if_pos c] at q;by_cases b:v=y
   ·rw[if_pos b] at q;omega
   ·rw[if_neg b] at q;by_cases d:v=z
    ·omega
    ·rw[if_neg d] at q;omega
  ·rw[if_neg c] at q;by_cases b:v=y
   ·rw[if_pos b] at q;omega
   ·rw[if_neg b] at q;by_cases d:v=z
    ·rw[if_pos d] at q;omega
    ·rw[if_neg d] at q;exact q
theorem qUS {M:Nat}{ts a:List Int}(hM:1<=M)(ht:Rg ts 1000000)(ha:rJ M a=false)(hla:a.length=ts.length):∀ (d:Nat) (b:List Int) (σ:Nat->Nat),b.length+d=ts.length->rJ M b=false->(∀ x,x < M->σ x < M)->(∀ x y,x < M->y < M->σ x=σ y->x=y)->(∀ j,j < b.length->b.getD j 0=(σ (a.getD j 0).toNat:Int))->(sp M ts d b).1<=mx (lds M ts a a.length)
 | 0,b,σ,hl,hb,h1,h2,h3=>by
   have hl:b.length=ts.length:=hl;show mx (lds M ts b b.length)<=_;have hab:b.length=a.length:=by omega
   refine qKN (pI _) (fun j hj=>(gD hb j hj).1) fun i hi=>?_
   by_cases e:∃ x,x < M∧σ x=i
   ·obtain⟨x,hx,rfl⟩:=e;rw[hab,qUB hx h2 fun j hj=>⟨(gD ha j hj).1,by rw[h3 j (by omega),zPV]⟩];exact q39 (fun j hj=>(gD ha j hj).1) hx
   ·rw[qOX fun j hj q=>e ⟨(a.getD j 0).toNat,(gD ha j (by omega)).1,by rw[<-q,h3 j hj,zPV]⟩];exact pI _
 | d+1,b,σ,hl,hb,h1,h2,h3=>by
   have hk:b.length < a.length:=by omega
   obtain⟨hx,_⟩:=gD ha b.length hk;have hnx:=q1Y hb;have hnn:∀ k,k < cnt M b->0<=(sp M ts d (b++[(k:Int)])).1:=fun k hk=>zA6 hM ht d _ (uR hb ((cnt_lt hb).1 hk).2)
   have hyM:=h1 _ hx;by_cases hy:(σ (a.getD b.length 0).toNat:Int)<=nx b
   ·refine zSM (qM5 hnn ((cnt_lt hb).2 ⟨hy,hyM⟩)) (qUS hM ht ha hla d _ σ (by simp;omega) (uR hb hyM) h1 h2 fun j hj=>?_);rw[zPC] at hj;by_cases e:j=b.length
    ·subst e;rw[nX]
    ·have hj:j < b.length+1:=hj;rw[qAJ (by omega),h3 j (by omega)]
   ·have hzM:(nx b).toNat < M:=by omega
    refine zSM (qM5 hnn ((cnt_lt hb).2 ⟨show ((nx b).toNat:Int)<=nx b by omega,hzM⟩)) (qUS hM ht ha hla d _ (fun x=>if σ x=σ (a.getD b.length 0).toNat then (nx b).toNat else if σ x=(nx b).toNat then σ (a.getD b.length 0).toNat else σ x) (by simp;omega) (uR hb hzM) (fun x hx=>?_) (fun x y hx hy q=>h2 x y hx hy ?_) fun j hj=>?_)
    ·have:=h1 x hx;split
     ·exact hzM
     ·split <;> assumption
    ·have q:(if σ x=σ (a.getD b.length 0).toNat then (nx b).toNat else if σ x=(nx b).toNat then σ (a.getD b.length 0).toNat else σ x)=(if σ y=σ (a.getD b.length 0).toNat then (nx b).toNat else if σ y=(nx b).toNat then σ (a.getD b.length 0).toNat else σ y):=q;exact zA2 q
    ·rw[zPC] at hj;have hj:j < b.length+1:=hj;by_cases e:j=b.length
     ·subst e;rw[nX];show _=((if σ (a.getD b.length 0).toNat=σ (a.getD b.length 0).toNat then (nx b).toNat else _:Nat):Int);rw[if_pos rfl]
     ·have hg:=zCS (b:=b) (j:=j) (by omega);have h4:=h3 j (by omega);rw[qAJ (by omega),h4];show _=((if σ (a.getD j 0).toNat=σ (a.getD b.length 0).toNat then (nx b).toNat else if σ (a.getD j 0).toNat=(nx b).toNat then σ (a.getD b.length 0).toNat else σ (a.getD j 0).toNat:Nat):Int);rw[if_neg (by omega),if_neg (by omega)]
theorem qX5 {f:Nat->Int×List Int}:∀ {n:Nat},0 < n->∃ k,k < n∧bst f n=f k
 | 0,h=>by omega
 | k+1,_=>by
   show ∃ j,j < k+1∧(if (bst f k).1 < 0∨(f k).1 < (bst f k).1 then f k else bst f k)=f j;by_cases hk:k=0
   ·subst hk;exact⟨0,by omega,if_pos (.inl (show (-1:Int) < 0 by decide))⟩
   ·obtain⟨j,h1,h2⟩:=qX5 (f:=f) (n:=k) (by omega);split
    ·exact⟨k,by omega,rfl⟩
    ·exact⟨j,by omega,h2⟩
theorem qDM {M:Nat}{ts:List Int}(hM:1<=M):∀ (d:Nat) (b:List Int),b.length+d=ts.length->rJ M b=false->rJ M (sp M ts d b).2=false∧(sp M ts d b).2.length=ts.length∧(sp M ts d b).1=mx (lds M ts (sp M ts d b).2 (sp M ts d b).2.length)
 | 0,b,hl,hb=>⟨hb,hl,rfl⟩
 | d+1,b,hl,hb=>by
   obtain⟨k,h1,h2⟩:=qX5 (f:=fun k=>sp M ts d (b++[(k:Int)])) (qHJ hM hb)
   have hl2:(b++[(k:Int)]).length+d=ts.length:=by
    rw[zPC];show b.length+1+d=_;omega
   have ih:=qDM hM d (b++[(k:Int)]) hl2 (uR hb ((cnt_lt hb).1 h1).2);show rJ M (bst (fun k=>sp M ts d (b++[(k:Int)])) (cnt M b)).2=false∧(bst (fun k=>sp M ts d (b++[(k:Int)])) (cnt M b)).2.length=ts.length∧(bst (fun k=>sp M ts d (b++[(k:Int)])) (cnt M b)).1=_;rw[h2];have h2:sp M ts (d+1) b=sp M ts d (b++[(k:Int)]):=h2;rw[h2];exact ih
def opt (M:Nat)(ts:List Int):Int:=(sp M ts ts.length []).1
theorem qVT {M:Nat}{ts a:List Int}(hM:1<=M)(ht:Rg ts 1000000)(ha:rJ M a=false)(hla:a.length=ts.length):opt M ts<=mx (lds M ts a a.length) :=
 qUS hM ht ha hla ts.length [] id (by simp) rfl (fun x hx=>hx) (fun x y _ _ h=>h) fun j hj=>by
  have hj:j < 0:=hj;omega
end Go.Proofs.YtmkiipeghngchaaGreatDoor
