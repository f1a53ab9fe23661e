/- Sequences: all orders are listed, the best one, the bound, set-up times one longer. Conditions: none. -/
import Derived.Test.YtmojbdabaigobaaGreatDoorSU6
set_option linter.all false
set_option maxRecDepth 10000
set_option maxHeartbeats 100000000
namespace Go.Proofs.YtmojbdabaigobaaGreatDoor
open Go Go.Idl Go.Sv Go.Proofs
def Ds (o:List Int):Prop:=∀ a b,a < b->b < o.length->o.getD a 0≠o.getD b 0
theorem q1Q {o:List Int}{n:Nat}(hl:o.length=n):Pm o ↔ InR o n∧Ds o:=by
 subst hl;exact qVN
theorem zBL {b:List Int}{x:Int}(hb:Ds b)(hx:x ∉ b):Ds (b++[x]):=fun i j hij hj=>by
 rw[zO0] at hj;have hj:j < b.length+1:=hj;rw[qBC (show i < b.length by omega)];by_cases q:j=b.length
 ·subst q;rw[pQ,gDE hij];exact fun e=>hx (e ▸ zP8 hij)
 ·rw[qBC (by omega)];exact hb i j hij (by omega)
theorem q29:Ds []:=fun a b _ h=>absurd h (zPM _)
theorem q7I {n:Nat}:∀ (d:Nat) (b:List Int),Ds b->∀ l∈od n d b,Ds l
 | 0,b,hb,l,hl=>by
   have hl:l∈[b]:=hl;rw[zPK.1 hl];exact hb
 | d+1,b,hb,l,hl=>by
   have key:∀ i,∀ l∈odF (fun i=>od n d (b++[(i:Int)])) b i,Ds l:=by
    intro i
    induction i with
    | zero=>intro l hl;cases hl
    | succ i ih =>
      intro l hl;rcases zPJ.1 hl with h | h
      ·exact ih l h
      ·split at h
       ·cases h
       ·rename_i hm;exact q7I d (b++[(i:Int)]) (zBL hb hm) l h
   exact key n l hl
theorem q39 {g:Nat->List (List Int)}{b l:List Int}{k:Nat}(h:l∈g k)(hm:(k:Int) ∉ b):∀ {i:Nat},k < i->l∈odF g b i
 | 0,hi=>absurd hi (zPM _)
 | i+1,hi=>by
   show l∈odF g b i++(if (i:Int)∈b then [] else g i);by_cases q:k=i
   ·subst q;rw[if_neg hm];exact zPJ.2 (.inr h)
   ·exact zPJ.2 (.inl (q39 h hm (by omega)))
theorem q3N {n:Nat}{p:List Int}(hp:Pm p)(hl:p.length=n):∀ (d:Nat) (b:List Int),b.length+d=n->(∀ j,j < b.length->p.getD j 0=b.getD j 0)->p∈od n d b
 | 0,b,hb,h=>by
   have e:p=b:=qW1 (by omega) fun j hj=>h j (by omega)
   rw[e];exact zPK.2 rfl
 | d+1,b,hb,h=>by
   have hbl:b.length < p.length:=by omega
   obtain⟨h1,h2,h3⟩:=hp b.length hbl
   obtain⟨K,hK⟩:∃ K:Nat,p.getD b.length 0=(K:Int):=⟨(p.getD b.length 0).toNat,by omega⟩
   refine q39 (k:=K) (q3N hp hl d (b++[(K:Int)]) (by simp;omega) fun j hj=>?_) (fun hm=>?_) (by omega)
   ·rw[zO0] at hj;have hj:j < b.length+1:=hj;by_cases q:j=b.length
    ·subst q;rw[pQ,hK]
    ·rw[qBC (by omega)];exact h j (by omega)
   ·obtain⟨j,hj,e⟩:=zPI.1 hm;refine h3 ((qKE (by omega)).2 ⟨j,hj,?_⟩);rw[h j hj,gDE hj,e,hK]
section
variable {ti fi:List Int}{se:List (List Int)}
theorem qLH:∀ {L:List (List Int)} {b:List Int},(∀ r:List Int×Int,r=L.foldl (uR ti fi se) (b,tm ti fi se b)->(r.1=b∨r.1∈L)∧r.2=tm ti fi se r.1∧r.2<=tm ti fi se b∧∀ l∈L,r.2<=tm ti fi se l)
 | [],b,r,hr=>by
   have hr:r=(b,tm ti fi se b):=hr;subst hr;exact⟨.inl rfl,rfl,Int.le_refl _,fun l h=>by cases h⟩
 | l::L,b,r,hr=>by
   have hr:r=L.foldl (uR ti fi se) (uR ti fi se (b,tm ti fi se b) l):=hr;by_cases h:tm ti fi se l < tm ti fi se b
   ·rw[show uR ti fi se (b,tm ti fi se b) l=(l,tm ti fi se l) from if_pos h] at hr;obtain⟨h1,h2,h3,h4⟩:=qLH r hr;refine⟨.inr ?_,h2,by omega,fun x hx=>?_⟩
    ·rcases h1 with h1 | h1
     ·rw[h1];exact zON
     ·exact zOK _ h1
    ·rcases zO1.1 hx with rfl | hx
     ·exact h3
     ·exact h4 x hx
   ·rw[show uR ti fi se (b,tm ti fi se b) l=(b,tm ti fi se b) from if_neg h] at hr;obtain⟨h1,h2,h3,h4⟩:=qLH r hr;refine⟨?_,h2,h3,fun x hx=>?_⟩
    ·rcases h1 with h1 | h1
     ·exact .inl h1
     ·exact .inr (zOK _ h1)
    ·rcases zO1.1 hx with rfl | hx
     ·omega
     ·exact h4 x hx
theorem zCT {n:Nat}(hn:1<=n):Pm (bq ti fi se n).1∧(bq ti fi se n).1.length=n∧∀ p,Pm p->p.length=n->tm ti fi se (bq ti fi se n).1<=tm ti fi se p:=by
 have hmem:=qW5 (n:=n) n [] (qLM _);have hds:=q7I (n:=n) n [] q29;have hne:od n n []≠[]:=zAS (n:=n) n 0 (by omega);have hall:=fun p (hp:Pm p) (hl:p.length=n)=>q3N hp hl n [] (by simp) fun j h=>absurd h (zPM _)
 unfold bq;generalize od n n []=L at *
 have hnil:∀ l∈L,l≠[]:=fun l hl e=>by
  have:=(hmem l hl).1;rw[e] at this;simp at this;omega
 cases L with
 | nil=>exact absurd rfl hne
 | cons l0 L =>
   have e2:uP ti fi se ([],0) l0=(l0,tm ti fi se l0):=if_pos (.inl rfl)
   have e3:(l0::L).foldl (uP ti fi se) ([],0)=L.foldl (uR ti fi se) (l0,tm ti fi se l0):=by
    show L.foldl _ (uP ti fi se ([],0) l0)=_;rw[e2,q55 (st:=(l0,tm ti fi se l0)) (hnil l0 zON) fun x hx=>hnil x (zOK _ hx)]
   rw[e3];obtain⟨h1,h2,h3,h4⟩:=qLH (L:=L) (b:=l0) _ rfl;generalize L.foldl (uR ti fi se) (l0,tm ti fi se l0)=r at *
   have hm:r.1∈l0::L:=by
    rcases h1 with h1 | h1
    ·rw[h1];exact zON
    ·exact zOK _ h1
   have hl:=(hmem _ hm).1;simp at hl;refine⟨(q1Q hl).2 ⟨(hmem _ hm).2,hds _ hm⟩,hl,fun p hp hpl=>?_⟩;rw[<-h2];rcases zO1.1 (hall p hp hpl) with e | h
   ·rw[e];exact h3
   ·exact h4 p h
theorem qW3:∀ (N:Nat) (l:List Int),l.Nodup->(∀ x∈l,0<=x∧x < N)->l.length<=N
 | 0,l,_,h=>by
   cases l with
   | nil=>exact zOI _
   | cons x l=>have:=h x zON;omega
 | N+1,l,hd,h=>by
   by_cases hN:(N:Int)∈l
   ·have h1:=qW3 N (l.erase (N:Int)) (hd.erase _) fun x hx=>by
     have hx2:=h x (List.mem_of_mem_erase hx)
     have hne:x≠(N:Int):=fun e=>by
      subst e;exact (List.Nodup.not_mem_erase hd) hx
     omega
    rw[List.length_erase_of_mem hN] at h1;omega
   ·have h1:=qW3 N l hd fun x hx=>by
     have hx2:=h x hx;have hne:x≠(N:Int):=fun e=>hN (e ▸ hx)
     omega
    omega
theorem qQL {o:List Int}(h:Ds o):o.Nodup:=by
 rw[zRG,List.pairwise_iff_getElem];intro i j hi hj hij e;refine h i j hij hj ?_;rw[gDE hi,gDE hj];exact e
theorem qZ4 {n:Nat}{x:Int}:x∈iota n ↔ 0<=x∧x < n:=by
 unfold iota;rw[zO6];constructor
 ·rintro⟨a,h1,rfl⟩;rw[zQZ] at h1;omega
 ·rintro⟨h1,h2⟩;exact⟨x.toNat,zQZ.2 (by omega),by omega⟩
theorem qSU (n:Nat):(iota n).Nodup:=by
 unfold iota;rw[zRG,List.pairwise_map];exact (zRG.1 List.nodup_range).imp fun h e=>h (by omega)
theorem q4R {o:List Int}(h:Pm o):o.Perm (iota o.length):=by
 obtain⟨h1,h2⟩:=(q1Q rfl).1 h;have hnd:=qQL h2
 have hin:∀ x∈o,0<=x∧x < o.length:=fun x hx=>by
  obtain⟨j,hj,rfl⟩:=zPI.1 hx;have:=h1 j hj;rw[gDE hj] at this;exact this
 rw[List.perm_ext_iff_of_nodup hnd (qSU _)];intro x;rw[qZ4];refine⟨hin x,fun hx=>Decidable.byContradiction fun hne=>?_⟩
 have:=qW3 o.length (x::o) (List.nodup_cons.2 ⟨hne,hnd⟩) fun y hy=>by
  rcases zO1.1 hy with rfl | hy
  ·exact hx
  ·exact hin y hy
 simp at this;omega
def sg (g:Int->Int):List Int->Int
 | []=>0
 | x::l=>g x+sg g l
theorem q6X {g:Int->Int}{a b:List Int}(h:a.Perm b):sg g a=sg g b:=by
 induction h with
 | nil=>rfl
 | cons x _ ih=>show g x+_=g x+_;rw[ih]
 | swap x y l=>show g y+(g x+_)=g x+(g y+_);omega
 | trans _ _ ih1 ih2=>rw[ih1,ih2]
theorem qXX {g:Int->Int}{x:Int}:∀ {a:List Int},sg g (a++[x])=sg g a+g x
 | []=>by show g x+0=0+g x;omega
 | y::a=>by
   show g y+sg g (a++[x])=g y+sg g a+g x;rw[qXX];omega
theorem q3I {i:Nat}:∀ {k a:Nat},a < k->a≠i->lsK fi se i k<=seG se a i
 | 0,a,h,_=>absurd h (zPM _)
 | k+1,a,h,hne=>by
   show (if k=i then lsK fi se i k else if seG se k i < lsK fi se i k then seG se k i else lsK fi se i k)<=_;by_cases q:a=k
   ·subst q;rw[if_neg hne];split <;> omega
   ·have:=q3I (i:=i) (k:=k) (a:=a) (by omega) hne;split
    ·exact this
    ·split <;> omega
theorem q3L {i:Nat}:∀ k,lsK fi se i k<=fi.getD i 0
 | 0=>Int.le_refl _
 | k+1=>by
   have:=q3L (i:=i) k;show (if k=i then lsK fi se i k else if seG se k i < lsK fi se i k then seG se k i else lsK fi se i k)<=_;split
   ·exact this
   ·split <;> omega
theorem q36 (n:Nat):∀ m,lsS fi se n m=sg (fun x=>lsK fi se x.toNat n) (iota m)
 | 0=>rfl
 | m+1=>by
   rw[q28,qXX,<-q36 n m];show lsS fi se n m+lsK fi se m n=lsS fi se n m+lsK fi se (m:Int).toNat n;rw[zQ6]
theorem q3F {p:List Int}{n:Nat}(hp:Pm p)(hl:p.length=n):∀ k,k<=n->sg (fun x=>lsK fi se x.toNat n) (p.take k)<=tmK fi se p k
 | 0,_=>by
   show (0:Int)<=0;omega
 | k+1,hk=>by
   have ih:=q3F hp hl k (by omega);have hkl:k < p.length:=by omega
   rw[q4L hkl,qXX];have hkin:=hp.inR k hkl;show _<=tmK fi se p k+if k=0 then fi.getD (p.getD k 0).toNat 0 else seG se (p.getD (k - 1) 0).toNat (p.getD k 0).toNat;rw[<-gDE hkl];split
   ·have:=q3L (fi:=fi) (se:=se) (i:=(p.getD k 0).toNat) n;omega
   ·have hk1:=hp.inR (k - 1) (by omega);have hne:=qGE hp (show k - 1 < p.length by omega) hkl (by omega);have:=q3I (fi:=fi) (se:=se) (i:=(p.getD k 0).toNat) (k:=n) (a:=(p.getD (k - 1) 0).toNat) (by omega) (by omega);omega
theorem qTZ {p:List Int}(hp:Pm p)(hl:p.length=ti.length):lst ti fi se<=tm ti fi se p:=by
 have h1:=q3F (fi:=fi) (se:=se) hp hl ti.length (zOI _);have h2:=q6X (g:=fun x=>lsK fi se x.toNat ti.length) (q4R hp);rw[hl,<-q36] at h2;rw[<-hl,zRA,hl,h2] at h1;unfold lst tm;rw[hl];omega
theorem q45 {o r:List Int}(h:Imp ti fi se o r):r.length=o.length:=by
 induction h with
 | done _=>rfl
 | step _ _ _ ih=>rw[ih,vB]
theorem q93 {o r:List Int}(h:Imp ti fi se o r):Pm o->Pm r∧tm ti fi se r<=tm ti fi se o∧∀ i k,i < k->k < r.length->tm ti fi se r<=tm ti fi se (sw r i k):=by
 induction h with
 | done hd=>exact fun hp=>⟨hp,Int.le_refl _,hd⟩
 | @step o r v a b hi hb _ ih =>
   intro hp;obtain⟨h1,h2,h3,h4⟩:=qPL hi hb;obtain⟨g1,g2,g3⟩:=ih (qWM hp (by omega) h2);have e:v=tm ti fi se (sw o a b):=h3;exact⟨g1,by omega,g3⟩
theorem q60 {o:List Int}{i k:Nat}(hi:i < o.length)(hk:k < o.length):sw o i k=sw o k i:=by
 refine qW1 (by rw[vB,vB]) fun j _=>?_
 rw[nE hi hk,nE hk hi];by_cases h1:k=j
 ·rw[if_pos h1];by_cases h2:i=j
  ·rw[if_pos h2,h2,h1]
  ·rw[if_neg h2,if_pos h1]
 ·rw[if_neg h1,if_neg h1]
end
def mrK (row:List Int)(a:Nat):Nat->List Int
 | 0=>[]
 | b+1=>mrK row a b++[if a=b then 0 else row.getD b 0+1]
def mse (se:List (List Int))(n:Nat):Nat->List (List Int)
 | 0=>[]
 | a+1=>mse se n a++[mrK (se.getD a []) a n]
def mfi (fi:List Int):Nat->List Int
 | 0=>[]
 | a+1=>mfi fi a++[fi.getD a 0+1]
theorem mK (row:List Int)(a:Nat):∀ b,(mrK row a b).length=b
 | 0=>rfl
 | b+1=>by
   show (mrK row a b++[_]).length=_;rw[zO0,mK];rfl
theorem wS (se:List (List Int))(n:Nat):∀ a,(mse se n a).length=a
 | 0=>rfl
 | a+1=>by
   show (mse se n a++[_]).length=_;rw[zO0,wS];rfl
theorem mU (fi:List Int):∀ a,(mfi fi a).length=a
 | 0=>rfl
 | a+1=>by
   show (mfi fi a++[_]).length=_;rw[zO0,mU];rfl
theorem qF8 {row:List Int}{a:Nat}:∀ {b j:Nat},j < b->(mrK row a b).getD j 0=if a=j then 0 else row.getD j 0+1
 | 0,j,h=>absurd h (zPM _)
 | b+1,j,h=>by
   show (mrK row a b++[if a=b then 0 else row.getD b 0+1]).getD j 0=_;by_cases q:j=b
   ·subst q;have:=pQ (b:=mrK row a j) (k:=if a=j then 0 else row.getD j 0+1);rw[mK] at this;exact this
   ·rw[qBC (by rw[mK];omega)];exact qF8 (by omega)
theorem qLO {fi:List Int}:∀ {a j:Nat},j < a->(mfi fi a).getD j 0=fi.getD j 0+1
 | 0,j,h=>absurd h (zPM _)
 | a+1,j,h=>by
   show (mfi fi a++[fi.getD a 0+1]).getD j 0=_;by_cases q:j=a
   ·subst q;have:=pQ (b:=mfi fi j) (k:=fi.getD j 0+1);rw[mU] at this;exact this
   ·rw[qBC (by rw[mU];omega)];exact qLO (by omega)
theorem qBW {se:List (List Int)}{n:Nat}:∀ {a j:Nat},j < a->(mse se n a).getD j []=mrK (se.getD j []) j n
 | 0,j,h=>absurd h (zPM _)
 | a+1,j,h=>by
   show (mse se n a++[mrK (se.getD a []) a n]).getD j []=_;by_cases q:j=a
   ·subst q;rw[zPH,zPX (by rw[wS];exact zOI _),wS,zSR];rfl
   ·rw[zPH,zP0 (by rw[wS];omega),<-zPH];exact qBW (by omega)
theorem zCD {l:List Int}(h:∀ j,j < l.length->0<=l.getD j 0∧l.getD j 0<=1000000):tB l=false:=by
 refine zQ7.2 fun x hx=>?_
 obtain⟨i,hi,rfl⟩:=zPI.1 hx;have:=h i hi;rw[gDE hi] at this;unfold outs;simp;exact this
def Mo (fi:List Int)(se:List (List Int))(n:Nat):Prop:=(∀ a,a < n->fi.getD a 0 < 1000000)∧∀ a b,a < n->b < n->seG se a b < 1000000
theorem zA6 {ti fi:List Int}{se:List (List Int)}(v:Vs ti fi se)(h:Mo fi se ti.length):qC8 ti (mfi fi ti.length) (mse se ti.length ti.length)=0:=by
 have hn1:=v.n1;have hn2:=v.n2;unfold qC8;rw[if_neg (by omega),if_neg (by omega),if_neg (by rw[mU,wS];omega),if_neg,if_neg,if_neg]
 ·rw[wS,qVH (n:=ti.length) fun k hk=>?_]
  ·decide
  ·unfold qHA;rw[qBW hk,qF8 hk,if_pos rfl,zCD fun j hj=>?_]
   ·rfl
   ·rw[mK] at hj;have h1:=v.se hk hj;have h2:=h.2 k j hk hj;unfold seG at h1 h2;rw[qF8 hj];split <;> omega
 ·rw[zCD (l:=ti) fun j hj=>v.tb.getD hj,zCD fun j hj=>?_]
  ·decide
  ·rw[mU] at hj;have h1:=v.fb.getD (show j < fi.length by rw[v.f];exact hj);have h2:=h.1 j hj;rw[qLO hj];omega
 ·rw[qVZ fun k hk=>?_]
  ·decide
  ·rw[wS] at hk;rw[qBW hk,mK];omega
theorem q8Z {ti fi:List Int}{se:List (List Int)}{p:List Int}(hp:Pm p)(hl:p.length=ti.length):tm ti (mfi fi ti.length) (mse se ti.length ti.length) p=tm ti fi se p+ti.length:=by
 have key:∀ k,k<=ti.length->tmK (mfi fi ti.length) (mse se ti.length ti.length) p k=tmK fi se p k+k:=by
  intro k
  induction k with
  | zero=>intro _;show (0:Int)=0+((0:Nat):Int);omega
  | succ k ih =>
    intro hk;have hkl:k < p.length:=by omega
    have h1:=hp.inR k hkl;show tmK _ _ p k+(if k=0 then _ else _)=tmK fi se p k+(if k=0 then _ else _)+_;rw[ih (by omega)];by_cases q:k=0
    ·rw[if_pos q,if_pos q,qLO (by omega)];omega
    ·have h2:=hp.inR (k - 1) (by omega);have hne:=qGE hp (show k - 1 < p.length by omega) hkl (by omega);rw[if_neg q,if_neg q];unfold seG;rw[qBW (by omega),qF8 (by omega),if_neg (by omega)];omega
 have:=key ti.length (zOI _);unfold tm;rw[hl,this];omega
theorem zDF {ti fi:List Int}{se:List (List Int)}:(bq ti (mfi fi ti.length) (mse se ti.length ti.length) ti.length).1=(bq ti fi se ti.length).1:=by
 have hmem:=qW5 (n:=ti.length) ti.length [] (qLM _);have hds:=q7I (n:=ti.length) ti.length [] q29;unfold bq;generalize od ti.length ti.length []=L at *
 have htm:∀ l∈L,tm ti (mfi fi ti.length) (mse se ti.length ti.length) l=tm ti fi se l+ti.length:=fun l hl=>by
  have hll:=(hmem l hl).1;simp at hll;exact q8Z ((q1Q hll).2 ⟨(hmem l hl).2,hds l hl⟩) hll
 have key:∀ (L:List (List Int)) (b:List Int) (w w':Int),(∀ l∈L,tm ti (mfi fi ti.length) (mse se ti.length ti.length) l=tm ti fi se l+ti.length)->(b≠[]->w'=w+ti.length)->(L.foldl (uP ti (mfi fi ti.length) (mse se ti.length ti.length)) (b,w')).1=(L.foldl (uP ti fi se) (b,w)).1:=by
  intro L
  induction L with
  | nil=>intro b w w' _ _;rfl
  | cons l L ih =>
    intro b w w' h hw;have hl:=h l zON;show (L.foldl _ (uP ti (mfi fi ti.length) (mse se ti.length ti.length) (b,w') l)).1=(L.foldl _ (uP ti fi se (b,w) l)).1;by_cases hb:b=[]
    ·rw[show uP ti (mfi fi ti.length) (mse se ti.length ti.length) (b,w') l=(l,tm ti (mfi fi ti.length) (mse se ti.length ti.length) l) from if_pos (.inl hb),show uP ti fi se (b,w) l=(l,tm ti fi se l) from if_pos (.inl hb)];exact ih _ _ _ (fun x hx=>h x (zOK _ hx)) fun _=>hl
    ·have hw2:=hw hb;by_cases hc:tm ti fi se l < w
     ·rw[show uP ti (mfi fi ti.length) (mse se ti.length ti.length) (b,w') l=(l,tm ti (mfi fi ti.length) (mse se ti.length ti.length) l) from if_pos (.inr (by show _ < w';omega)),show uP ti fi se (b,w) l=(l,tm ti fi se l) from if_pos (.inr hc)];exact ih _ _ _ (fun x hx=>h x (zOK _ hx)) fun _=>hl
     ·rw[show uP ti (mfi fi ti.length) (mse se ti.length ti.length) (b,w') l=(b,w') from if_neg (by rintro (q | q);exact hb q;have q:_ < w':=q;omega),show uP ti fi se (b,w) l=(b,w) from if_neg (by rintro (q | q);exact hb q;exact hc q)];exact ih _ _ _ (fun x hx=>h x (zOK _ hx)) hw
 exact key L [] 0 0 htm fun h=>absurd rfl h
end Go.Proofs.YtmojbdabaigobaaGreatDoor
