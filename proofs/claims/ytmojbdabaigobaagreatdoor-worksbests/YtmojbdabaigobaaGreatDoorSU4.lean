/- Exchanges that improve a sequence. Conditions: none. -/
import Derived.Test.YtmojbdabaigobaaGreatDoorSU3
set_option linter.all false
set_option maxRecDepth 10000
set_option maxHeartbeats 100000000
namespace Go.Proofs.YtmojbdabaigobaaGreatDoor
open Go Go.Idl Go.Sv Go.Proofs
def sw (o:List Int)(i k:Nat):List Int:=(o.set i (o.getD k 0)).set k (o.getD i 0)
theorem vB (o:List Int)(i k:Nat):(sw o i k).length=o.length:=by
 unfold sw;rw[zPR,zPR]
theorem gS {l:List Int}{i j:Nat}{v:Int}(hi:i < l.length):(l.set i v).getD j 0=if i=j then v else l.getD j 0:=by
 by_cases h:i=j
 ·subst h;rw[if_pos rfl,gDE (by rw[zPR];exact hi),List.getElem_set_self]
 ·rw[if_neg h,zPH,zST h,<-zPH]
theorem nE {o:List Int}{i k j:Nat}(hi:i < o.length)(hk:k < o.length):(sw o i k).getD j 0=if k=j then o.getD i 0 else if i=j then o.getD k 0 else o.getD j 0:=by
 unfold sw;rw[gS (by rw[zPR];exact hk),gS hi]
theorem qW1 {a b:List Int}(hl:a.length=b.length)(h:∀ j,j < a.length->a.getD j 0=b.getD j 0):a=b:=by
 refine List.ext_getElem hl fun j h1 h2=>?_
 have:=h j h1;rw[gDE h1,gDE h2] at this;exact this
theorem zCQ {o:List Int}{i k:Nat}(hik:i < k)(hk:k < o.length):sw (sw o i k) i k=o:=by
 have hi:i < o.length:=by omega
 refine qW1 (by rw[vB,vB]) fun j _=>?_
 rw[nE (by rw[vB];exact hi) (by rw[vB];exact hk),nE hi hk,nE hi hk,nE hi hk];by_cases h1:k=j
 ·subst h1;rw[if_pos rfl,if_neg (show ¬ k=i by omega),if_pos rfl]
 ·rw[if_neg h1];by_cases h2:i=j
  ·subst h2;rw[if_pos rfl,if_pos rfl]
  ·rw[if_neg h2,if_neg h1,if_neg h2]
theorem qVN {o:List Int}:Pm o ↔ InR o o.length∧∀ a b,a < b->b < o.length->o.getD a 0≠o.getD b 0:=by
 constructor
 ·intro h;refine⟨h.inR,fun a b hab hb e=>?_⟩;exact (h b hb).2.2 ((qKE (by omega)).2 ⟨a,hab,e⟩)
 ·rintro⟨h1,h2⟩ k hk;refine⟨(h1 k hk).1,(h1 k hk).2,fun hm=>?_⟩;obtain⟨j,hj,e⟩:=(qKE (by omega)).1 hm;exact h2 j k hj hk e
theorem qGE {o:List Int}(h:Pm o){a b:Nat}(ha:a < o.length)(hb:b < o.length)(hab:a≠b):o.getD a 0≠o.getD b 0:=by
 have:=(qVN.1 h).2;by_cases q:a < b
 ·exact this a b q hb
 ·exact fun e=>this b a (by omega) ha e.symm
theorem qWM {o:List Int}{i k:Nat}(h:Pm o)(hi:i < o.length)(hk:k < o.length):Pm (sw o i k):=by
 refine qVN.2 ⟨fun j hj=>?_,fun a b hab hb=>?_⟩
 ·rw[vB] at hj ⊢;rw[nE hi hk];split
  ·exact h.inR i hi
  ·split
   ·exact h.inR k hk
   ·exact h.inR j hj
 ·rw[vB] at hb;rw[nE hi hk,nE hi hk];have ha:a < o.length:=by omega
  split
  ·rename_i e;subst e;rw[if_neg (by omega)];split
   ·exact qGE h hi hk (by omega)
   ·exact qGE h hi hb (by omega)
  ·rename_i e1;split
   ·rename_i e2;subst e2;split
    ·rename_i e3;subst e3;exact qGE h hk hi (by omega)
    ·rw[if_neg (by omega)];exact qGE h hk hb (by omega)
   ·rename_i e2;split
    ·exact qGE h ha hi (by omega)
    ·split
     ·exact qGE h ha hk (by omega)
     ·exact qGE h ha hb (by omega)
def lt2 (i k a b:Nat):Prop:=i < a∨(i=a∧k < b)
def Inv (f:Nat->Nat->Int)(M:Int)(S:Nat->Nat->Prop)(v:Int)(a b:Nat):Prop :=
 (b=0∧a=0∧v=M∧∀ i k,i < k->S i k->M<=f i k)∨(a < b∧S a b∧v=f a b∧v < M∧∀ i k,i < k->S i k->v < f i k∨(v=f i k∧(a < i∨(a=i∧b<=k))))
theorem q9G {f:Nat->Nat->Int}{M:Int}{S:Nat->Nat->Prop}(h:∀ i k,i < k->¬ S i k):Inv f M S M 0 0:=.inl ⟨rfl,rfl,rfl,fun i k hik hs=>absurd hs (h i k hik)⟩
theorem o5 {f:Nat->Nat->Int}{M v:Int}{a b:Nat}{S S':Nat->Nat->Prop}(h:Inv f M S v a b)(hS:∀ i k,i < k->(S' i k ↔ S i k)):Inv f M S' v a b:=by
 rcases h with ⟨h1,h2,h3,h4⟩ | ⟨h1,h2,h3,h4,h5⟩
 ·exact .inl ⟨h1,h2,h3,fun i k hik hs=>h4 i k hik ((hS i k hik).1 hs)⟩
 ·exact .inr ⟨h1,(hS a b h1).2 h2,h3,h4,fun i k hik hs=>h5 i k hik ((hS i k hik).1 hs)⟩
def upC (f:Nat->Nat->Int)(v:Int)(a b i k:Nat):Prop:=f i k < v∨(f i k=v∧b≠0∧lt2 i k a b)
theorem zA3 {f:Nat->Nat->Int}{M v:Int}{a b i k:Nat}{S S':Nat->Nat->Prop}(h:Inv f M S v a b)(hik:i < k)(hS:∀ x y,x < y->(S' x y ↔ S x y∨(x=i∧y=k)))(hc:upC f v a b i k):Inv f M S' (f i k) i k:=by
 have hvM:v<=M:=by rcases h with ⟨_,_,h3,_⟩ | ⟨_,_,_,h4,_⟩ <;> omega
 have hlt:f i k < M:=by
  rcases hc with hc | ⟨hc,hb,_⟩
  ·omega
  ·rcases h with ⟨h1,_⟩ | ⟨_,_,_,h4,_⟩
   ·exact absurd h1 hb
   ·omega
 refine .inr ⟨hik,(hS i k hik).2 (.inr ⟨rfl,rfl⟩),rfl,hlt,fun x y hxy hs=>?_⟩
 rcases (hS x y hxy).1 hs with hs | ⟨rfl,rfl⟩
 ·rcases hc with hc | ⟨hc,hb,hl⟩
  ·rcases h with ⟨_,_,h3,h4⟩ | ⟨_,_,_,_,h5⟩
   ·have:=h4 x y hxy hs;exact .inl (by omega)
   ·rcases h5 x y hxy hs with q | ⟨q,_⟩ <;> exact .inl (by omega)
  ·rcases h with ⟨h1,_⟩ | ⟨_,_,_,_,h5⟩
   ·exact absurd h1 hb
   ·unfold lt2 at hl
    rcases h5 x y hxy hs with q | ⟨q,q2⟩
    ·exact .inl (by omega)
    ·exact .inr ⟨by omega,by omega⟩
 ·exact .inr ⟨rfl,.inr ⟨rfl,zOI _⟩⟩
theorem q92 {f:Nat->Nat->Int}{M v:Int}{a b i k:Nat}{S S':Nat->Nat->Prop}(h:Inv f M S v a b)(hik:i < k)(hS:∀ x y,x < y->(S' x y ↔ S x y∨(x=i∧y=k)))(hc:¬ upC f v a b i k):Inv f M S' v a b:=by
 unfold upC lt2 at hc
 rcases h with ⟨h1,h2,h3,h4⟩ | ⟨h1,h2,h3,h4,h5⟩
 ·refine .inl ⟨h1,h2,h3,fun x y hxy hs=>?_⟩
  rcases (hS x y hxy).1 hs with hs | ⟨rfl,rfl⟩
  ·exact h4 x y hxy hs
  ·omega
 ·refine .inr ⟨h1,(hS a b h1).2 (.inl h2),h3,h4,fun x y hxy hs=>?_⟩
  rcases (hS x y hxy).1 hs with hs | ⟨rfl,rfl⟩
  ·exact h5 x y hxy hs
  ·omega
theorem q2H {f:Nat->Nat->Int}{M v v':Int}{a b a' b':Nat}{S:Nat->Nat->Prop}(h:Inv f M S v a b)(h':Inv f M S v' a' b'):v=v'∧a=a'∧b=b':=by
 rcases h with ⟨h1,h2,h3,h4⟩ | ⟨h1,h2,h3,h4,h5⟩
 ·rcases h' with ⟨g1,g2,g3,g4⟩ | ⟨g1,g2,g3,g4,g5⟩
  ·omega
  ·have:=h4 a' b' g1 g2;omega
 ·rcases h' with ⟨g1,g2,g3,g4⟩ | ⟨g1,g2,g3,g4,g5⟩
  ·have:=g4 a b h1 h2;omega
  ·have e1:=h5 a' b' g1 g2;have e2:=g5 a b h1 h2;omega
theorem q4E (f:Nat->Nat->Int)(M:Int):∀ m,∃ v a b,Inv f M (fun _ k=>k < m) v a b
 | 0=>⟨M,0,0,q9G fun i k _ h=>absurd h (zPM _)⟩
 | m+1=>by
   have key:∀ j,j<=m->∃ v a b,Inv f M (fun i k=>k < m∨(k=m∧i < j)) v a b:=by
    intro j
    induction j with
    | zero =>
      intro _;obtain⟨v,a,b,h⟩:=q4E f M m;exact⟨v,a,b,o5 h fun i k _=>⟨fun q=>by omega,fun q=>.inl q⟩⟩
    | succ j ih =>
      intro hj;obtain⟨v,a,b,h⟩:=ih (by omega);by_cases hc:upC f v a b j m
      ·exact⟨_,_,_,zA3 h (by omega) (fun x y _=>by omega) hc⟩
      ·exact⟨_,_,_,q92 h (show j < m by omega) (fun x y _=>by omega) hc⟩
   obtain⟨v,a,b,h⟩:=key m (zOI _);exact⟨v,a,b,o5 h fun i k hik=>by omega⟩
section
variable (ti fi:List Int)(se:List (List Int))
def fsw (o:List Int)(i k:Nat):Int:=tm ti fi se (sw o i k)
inductive Imp:List Int->List Int->Prop
 | done {o:List Int} (h:∀ i k,i < k->k < o.length->tm ti fi se o<=fsw ti fi se o i k):Imp o o
 | step {o r:List Int} {v:Int} {a b:Nat} (h:Inv (fsw ti fi se o) (tm ti fi se o) (fun _ k=>k < o.length) v a b) (hb:b≠0) (hr:Imp (sw o a b) r):Imp o r
end
theorem qPL {f:Nat->Nat->Int}{M v:Int}{a b:Nat}{S:Nat->Nat->Prop}(h:Inv f M S v a b)(hb:b≠0):a < b∧S a b∧v=f a b∧v < M:=by
 rcases h with ⟨h1,_⟩ | ⟨h1,h2,h3,h4,_⟩
 ·exact absurd h1 hb
 ·exact⟨h1,h2,h3,h4⟩
theorem qXO {f:Nat->Nat->Int}{M v:Int}{a:Nat}{S:Nat->Nat->Prop}(h:Inv f M S v a 0):a=0∧v=M∧∀ i k,i < k->S i k->M<=f i k:=by
 rcases h with ⟨_,h2,h3,h4⟩ | ⟨h1,_⟩
 ·exact⟨h2,h3,h4⟩
 ·omega
theorem q4O {ti fi:List Int}{se:List (List Int)}(v:Vs ti fi se):∀ (N:Nat) (o:List Int),Pm o->o.length=ti.length->(tm ti fi se o).toNat < N->∃ r,Imp ti fi se o r
 | 0,o,_,_,h=>absurd h (zPM _)
 | N+1,o,hp,hl,h=>by
   have hn:=v.n2;obtain⟨w,a,b,hi⟩:=q4E (fsw ti fi se o) (tm ti fi se o) o.length;by_cases hb:b=0
   ·subst hb;exact⟨o,.done fun i k hik hk=>(qXO hi).2.2 i k hik hk⟩
   ·obtain⟨h1,h2,h3,h4⟩:=qPL hi hb;have hps:=qWM hp (show a < o.length by omega) h2;have hr:=q1X v (o:=sw o a b) (by have:=hps.inR;rw[vB,hl] at this;exact this) (by rw[vB];omega);have e:tm ti fi se (sw o a b)=w:=h3.symm;obtain⟨r,hr2⟩:=q4O v N (sw o a b) hps (by rw[vB];exact hl) (by omega);exact⟨r,.step hi hb hr2⟩
end Go.Proofs.YtmojbdabaigobaaGreatDoor
