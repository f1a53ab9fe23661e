/- Sequences: all orders are listed, the best one, the bound, set-up times one longer. Conditions: none. -/
import Derived.Test.YtpnecffgnjijjaaGreatDoorSU6
set_option linter.all false
set_option maxRecDepth 10000
set_option maxHeartbeats 100000000
namespace Go.Proofs.YtpnecffgnjijjaaGreatDoor
open Go Go.Idl Go.Sv Go.Proofs
def Ds (o:List Int):Prop:=∀ a b,a < b->b < o.length->o.getD a 0≠o.getD b 0
theorem q5E {o:List Int}{n:Nat}(hl:o.length=n):Pm o ↔ InR o n∧Ds o:=by
 subst hl;exact qT4
theorem q4B {b:List Int}{x:Int}(hb:Ds b)(hx:x ∉ b):Ds (b++[x]):=fun i j hij hj=>by
 rw[zNK] at hj;have hj:j < b.length+1:=hj;rw[qD0 (show i < b.length by omega)];by_cases q:j=b.length
 ·subst q;rw[qBT,gDE hij];exact fun e=>hx (e ▸ zOG hij)
 ·rw[qD0 (by omega)];exact hb i j hij (by omega)
theorem q3I:Ds []:=fun a b _ h=>absurd h (zOU _)
theorem zAX {n:Nat}:∀ (d:Nat) (b:List Int),Ds b->∀ l∈od n d b,Ds l
 | 0,b,hb,l,hl=>by
   have hl:l∈[b]:=hl;rw[zNT.1 hl];exact hb
 | d+1,b,hb,l,hl=>by
   have key:∀ i,∀ l∈odF (fun i=>od n d (b++[(i:Int)])) b i,Ds l:=by
    intro i
    induction i with
    | zero=>intro l hl;cases hl
    | succ i ih =>
      intro l hl;rcases zNM.1 hl with h | h
      ·exact ih l h
      ·split at h
       ·cases h
       ·rename_i hm;exact zAX d (b++[(i:Int)]) (q4B hb hm) l h
   exact key n l hl
theorem q3U {g:Nat->List (List Int)}{b l:List Int}{k:Nat}(h:l∈g k)(hm:(k:Int) ∉ b):∀ {i:Nat},k < i->l∈odF g b i
 | 0,hi=>absurd hi (zOU _)
 | i+1,hi=>by
   show l∈odF g b i++(if (i:Int)∈b then [] else g i);by_cases q:k=i
   ·subst q;rw[if_neg hm];exact zNM.2 (.inr h)
   ·exact zNM.2 (.inl (q3U h hm (by omega)))
theorem q4D {n:Nat}{p:List Int}(hp:Pm p)(hl:p.length=n):∀ (d:Nat) (b:List Int),b.length+d=n->(∀ j,j < b.length->p.getD j 0=b.getD j 0)->p∈od n d b
 | 0,b,hb,h=>by
   have e:p=b:=qXY (by omega) fun j hj=>h j (by omega)
   rw[e];exact zNT.2 rfl
 | d+1,b,hb,h=>by
   have hbl:b.length < p.length:=by omega
   obtain⟨h1,h2,h3⟩:=hp b.length hbl
   obtain⟨K,hK⟩:∃ K:Nat,p.getD b.length 0=(K:Int):=⟨(p.getD b.length 0).toNat,by omega⟩
   refine q3U (k:=K) (q4D hp hl d (b++[(K:Int)]) (by simp;omega) fun j hj=>?_) (fun hm=>?_) (by omega)
   ·rw[zNK] at hj;have hj:j < b.length+1:=hj;by_cases q:j=b.length
    ·subst q;rw[qBT,hK]
    ·rw[qD0 (by omega)];exact h j (by omega)
   ·obtain⟨j,hj,e⟩:=zN3.1 hm;refine h3 ((qXT (by omega)).2 ⟨j,hj,?_⟩);rw[h j hj,gDE hj,e,hK]
section
variable {ti fi:List Int}{se:List (List Int)}
theorem qM1:∀ {L:List (List Int)} {b:List Int},(∀ r:List Int×Int,r=L.foldl (uR ti fi se) (b,tm ti fi se b)->(r.1=b∨r.1∈L)∧r.2=tm ti fi se r.1∧r.2<=tm ti fi se b∧∀ l∈L,r.2<=tm ti fi se l)
 | [],b,r,hr=>by
   have hr:r=(b,tm ti fi se b):=hr;subst hr;exact⟨.inl rfl,rfl,Int.le_refl _,fun l h=>by cases h⟩
 | l::L,b,r,hr=>by
   have hr:r=L.foldl (uR ti fi se) (uR ti fi se (b,tm ti fi se b) l):=hr;by_cases h:tm ti fi se l < tm ti fi se b
   ·rw[show uR ti fi se (b,tm ti fi se b) l=(l,tm ti fi se l) from if_pos h] at hr;obtain⟨h1,h2,h3,h4⟩:=qM1 r hr;refine⟨.inr ?_,h2,by omega,fun x hx=>?_⟩
    ·rcases h1 with h1 | h1
     ·rw[h1];exact zM5
     ·exact zM3 _ h1
    ·rcases zNF.1 hx with rfl | hx
     ·exact h3
     ·exact h4 x hx
   ·rw[show uR ti fi se (b,tm ti fi se b) l=(b,tm ti fi se b) from if_neg h] at hr;obtain⟨h1,h2,h3,h4⟩:=qM1 r hr;refine⟨?_,h2,h3,fun x hx=>?_⟩
    ·rcases h1 with h1 | h1
     ·exact .inl h1
     ·exact .inr (zM3 _ h1)
    ·rcases zNF.1 hx with rfl | hx
     ·omega
     ·exact h4 x hx
theorem zD0 {n:Nat}(hn:1<=n):Pm (bq ti fi se n).1∧(bq ti fi se n).1.length=n∧∀ p,Pm p->p.length=n->tm ti fi se (bq ti fi se n).1<=tm ti fi se p:=by
 have hmem:=qYF (n:=n) n [] (qG0 _);have hds:=zAX (n:=n) n [] q3I;have hne:od n n []≠[]:=q5H (n:=n) n 0 (by omega);have hall:=fun p (hp:Pm p) (hl:p.length=n)=>q4D hp hl n [] (by simp) fun j h=>absurd h (zOU _)
 unfold bq;generalize od n n []=L at *
 have hnil:∀ l∈L,l≠[]:=fun l hl e=>by
  have:=(hmem l hl).1;rw[e] at this;simp at this;omega
 cases L with
 | nil=>exact absurd rfl hne
 | cons l0 L =>
   have e2:uP ti fi se ([],0) l0=(l0,tm ti fi se l0):=if_pos (.inl rfl)
   have e3:(l0::L).foldl (uP ti fi se) ([],0)=L.foldl (uR ti fi se) (l0,tm ti fi se l0):=by
    show L.foldl _ (uP ti fi se ([],0) l0)=_;rw[e2,qTF (st:=(l0,tm ti fi se l0)) (hnil l0 zM5) fun x hx=>hnil x (zM3 _ hx)]
   rw[e3];obtain⟨h1,h2,h3,h4⟩:=qM1 (L:=L) (b:=l0) _ rfl;generalize L.foldl (uR ti fi se) (l0,tm ti fi se l0)=r at *
   have hm:r.1∈l0::L:=by
    rcases h1 with h1 | h1
    ·rw[h1];exact zM5
    ·exact zM3 _ h1
   have hl:=(hmem _ hm).1;simp at hl;refine⟨(q5E hl).2 ⟨(hmem _ hm).2,hds _ hm⟩,hl,fun p hp hpl=>?_⟩;rw[<-h2];rcases zNF.1 (hall p hp hpl) with e | h
   ·rw[e];exact h3
   ·exact h4 p h
theorem qXJ:∀ (N:Nat) (l:List Int),l.Nodup->(∀ x∈l,0<=x∧x < N)->l.length<=N
 | 0,l,_,h=>by
   cases l with
   | nil=>exact zM0 _
   | cons x l=>have:=h x zM5;omega
 | N+1,l,hd,h=>by
   by_cases hN:(N:Int)∈l
   ·have h1:=qXJ N (l.erase (N:Int)) (hd.erase _) fun x hx=>by
     have hx2:=h x (List.mem_of_mem_erase hx)
     have hne:x≠(N:Int):=fun e=>by
      subst e;exact (List.Nodup.not_mem_erase hd) hx
     omega
    rw[List.length_erase_of_mem hN] at h1;omega
   ·have h1:=qXJ N l hd fun x hx=>by
     have hx2:=h x hx;have hne:x≠(N:Int):=fun e=>hN (e ▸ hx)
     omega
    omega
theorem q0D {o:List Int}(h:Ds o):o.Nodup:=by
 rw[zQJ,List.pairwise_iff_getElem];intro i j hi hj hij e;refine h i j hij hj ?_;rw[gDE hi,gDE hj];exact e
theorem qZE {n:Nat}{x:Int}:x∈iota n ↔ 0<=x∧x < n:=by
 unfold iota;rw[zNO];constructor
 ·rintro⟨a,h1,rfl⟩;rw[zPH] at h1;omega
 ·rintro⟨h1,h2⟩;exact⟨x.toNat,zPH.2 (by omega),by omega⟩
theorem qRZ (n:Nat):(iota n).Nodup:=by
 unfold iota;rw[zQJ,List.pairwise_map];exact (zQJ.1 List.nodup_range).imp fun h e=>h (by omega)
theorem q4Y {o:List Int}(h:Pm o):o.Perm (iota o.length):=by
 obtain⟨h1,h2⟩:=(q5E rfl).1 h;have hnd:=q0D h2
 have hin:∀ x∈o,0<=x∧x < o.length:=fun x hx=>by
  obtain⟨j,hj,rfl⟩:=zN3.1 hx;have:=h1 j hj;rw[gDE hj] at this;exact this
 rw[List.perm_ext_iff_of_nodup hnd (qRZ _)];intro x;rw[qZE];refine⟨hin x,fun hx=>Decidable.byContradiction fun hne=>?_⟩
 have:=qXJ o.length (x::o) (List.nodup_cons.2 ⟨hne,hnd⟩) fun y hy=>by
  rcases zNF.1 hy with rfl | hy
  ·exact hx
  ·exact hin y hy
 simp at this;omega
def sg (g:Int->Int):List Int->Int
 | []=>0
 | x::l=>g x+sg g l
theorem q7Q {g:Int->Int}{a b:List Int}(h:a.Perm b):sg g a=sg g b:=by
 induction h with
 | nil=>rfl
 | cons x _ ih=>show g x+_=g x+_;rw[ih]
 | swap x y l=>show g y+(g x+_)=g x+(g y+_);omega
 | trans _ _ ih1 ih2=>rw[ih1,ih2]
theorem qVU {g:Int->Int}{x:Int}:∀ {a:List Int},sg g (a++[x])=sg g a+g x
 | []=>by show g x+0=0+g x;omega
 | y::a=>by
   show g y+sg g (a++[x])=g y+sg g a+g x;rw[qVU];omega
theorem q3P {i:Nat}:∀ {k a:Nat},a < k->a≠i->lsK fi se i k<=seG se a i
 | 0,a,h,_=>absurd h (zOU _)
 | k+1,a,h,hne=>by
   show (if k=i then lsK fi se i k else if seG se k i < lsK fi se i k then seG se k i else lsK fi se i k)<=_;by_cases q:a=k
   ·subst q;rw[if_neg hne];split <;> omega
   ·have:=q3P (i:=i) (k:=k) (a:=a) (by omega) hne;split
    ·exact this
    ·split <;> omega
theorem q3X {i:Nat}:∀ k,lsK fi se i k<=fi.getD i 0
 | 0=>Int.le_refl _
 | k+1=>by
   have:=q3X (i:=i) k;show (if k=i then lsK fi se i k else if seG se k i < lsK fi se i k then seG se k i else lsK fi se i k)<=_;split
   ·exact this
   ·split <;> omega
theorem q4R (n:Nat):∀ m,lsS fi se n m=sg (fun x=>lsK fi se x.toNat n) (iota m)
 | 0=>rfl
 | m+1=>by
   rw[q30,qVU,<-q4R n m];show lsS fi se n m+lsK fi se m n=lsS fi se n m+lsK fi se (m:Int).toNat n;rw[zPO]
theorem q2X {p:List Int}{n:Nat}(hp:Pm p)(hl:p.length=n):∀ k,k<=n->sg (fun x=>lsK fi se x.toNat n) (p.take k)<=tmK fi se p k
 | 0,_=>by
   show (0:Int)<=0;omega
 | k+1,hk=>by
   have ih:=q2X hp hl k (by omega);have hkl:k < p.length:=by omega
   rw[q3B hkl,qVU];have hkin:=hp.inR k hkl;show _<=tmK fi se p k+if k=0 then fi.getD (p.getD k 0).toNat 0 else seG se (p.getD (k - 1) 0).toNat (p.getD k 0).toNat;rw[<-gDE hkl];split
   ·have:=q3X (fi:=fi) (se:=se) (i:=(p.getD k 0).toNat) n;omega
   ·have hk1:=hp.inR (k - 1) (by omega);have hne:=qIX hp (show k - 1 < p.length by omega) hkl (by omega);have:=q3P (fi:=fi) (se:=se) (i:=(p.getD k 0).toNat) (k:=n) (a:=(p.getD (k - 1) 0).toNat) (by omega) (by omega);omega
theorem qX7 {p:List Int}(hp:Pm p)(hl:p.length=ti.length):lst ti fi se<=tm ti fi se p:=by
 have h1:=q2X (fi:=fi) (se:=se) hp hl ti.length (zM0 _);have h2:=q7Q (g:=fun x=>lsK fi se x.toNat ti.length) (q4Y hp);rw[hl,<-q4R] at h2;rw[<-hl,zPE,hl,h2] at h1;unfold lst tm;rw[hl];omega
theorem q5K {o r:List Int}(h:Imp ti fi se o r):r.length=o.length:=by
 induction h with
 | done _=>rfl
 | step _ _ _ ih=>rw[ih,uD]
theorem zAT {o r:List Int}(h:Imp ti fi se o r):Pm o->Pm r∧tm ti fi se r<=tm ti fi se o∧∀ i k,i < k->k < r.length->tm ti fi se r<=tm ti fi se (sw r i k):=by
 induction h with
 | done hd=>exact fun hp=>⟨hp,Int.le_refl _,hd⟩
 | @step o r v a b hi hb _ ih =>
   intro hp;obtain⟨h1,h2,h3,h4⟩:=qPX hi hb;obtain⟨g1,g2,g3⟩:=ih (qZ5 hp (by omega) h2);have e:v=tm ti fi se (sw o a b):=h3;exact⟨g1,by omega,g3⟩
end
end Go.Proofs.YtpnecffgnjijjaaGreatDoor
