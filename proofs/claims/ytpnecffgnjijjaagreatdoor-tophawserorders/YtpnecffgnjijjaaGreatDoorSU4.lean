/- Exchanges that improve a sequence. Conditions: none. -/
import Derived.Test.YtpnecffgnjijjaaGreatDoorSU3
set_option linter.all false
set_option maxRecDepth 10000
set_option maxHeartbeats 100000000
namespace Go.Proofs.YtpnecffgnjijjaaGreatDoor
open Go Go.Idl Go.Sv Go.Proofs
def sw (o:List Int)(i k:Nat):List Int:=(o.set i (o.getD k 0)).set k (o.getD i 0)
theorem uD (o:List Int)(i k:Nat):(sw o i k).length=o.length:=by
 unfold sw;rw[zOB,zOB]
theorem gS {l:List Int}{i j:Nat}{v:Int}(hi:i < l.length):(l.set i v).getD j 0=if i=j then v else l.getD j 0:=by
 by_cases h:i=j
 ·subst h;rw[if_pos rfl,gDE (by rw[zOB];exact hi),List.getElem_set_self]
 ·rw[if_neg h,zOE,zRB h,<-zOE]
theorem qA4 {o:List Int}{i k j:Nat}(hi:i < o.length)(hk:k < o.length):(sw o i k).getD j 0=if k=j then o.getD i 0 else if i=j then o.getD k 0 else o.getD j 0:=by
 unfold sw;rw[gS (by rw[zOB];exact hk),gS hi]
theorem qXY {a b:List Int}(hl:a.length=b.length)(h:∀ j,j < a.length->a.getD j 0=b.getD j 0):a=b:=by
 refine List.ext_getElem hl fun j h1 h2=>?_
 have:=h j h1;rw[gDE h1,gDE h2] at this;exact this
theorem zCX {o:List Int}{i k:Nat}(hik:i < k)(hk:k < o.length):sw (sw o i k) i k=o:=by
 have hi:i < o.length:=by omega
 refine qXY (by rw[uD,uD]) fun j _=>?_
 rw[qA4 (by rw[uD];exact hi) (by rw[uD];exact hk),qA4 hi hk,qA4 hi hk,qA4 hi hk];by_cases h1:k=j
 ·subst h1;rw[if_pos rfl,if_neg (show ¬ k=i by omega),if_pos rfl]
 ·rw[if_neg h1];by_cases h2:i=j
  ·subst h2;rw[if_pos rfl,if_pos rfl]
  ·rw[if_neg h2,if_neg h1,if_neg h2]
theorem qT4 {o:List Int}:Pm o ↔ InR o o.length∧∀ a b,a < b->b < o.length->o.getD a 0≠o.getD b 0:=by
 constructor
 ·intro h;refine⟨h.inR,fun a b hab hb e=>?_⟩;exact (h b hb).2.2 ((qXT (by omega)).2 ⟨a,hab,e⟩)
 ·rintro⟨h1,h2⟩ k hk;refine⟨(h1 k hk).1,(h1 k hk).2,fun hm=>?_⟩;obtain⟨j,hj,e⟩:=(qXT (by omega)).1 hm;exact h2 j k hj hk e
theorem qIX {o:List Int}(h:Pm o){a b:Nat}(ha:a < o.length)(hb:b < o.length)(hab:a≠b):o.getD a 0≠o.getD b 0:=by
 have:=(qT4.1 h).2;by_cases q:a < b
 ·exact this a b q hb
 ·exact fun e=>this b a (by omega) ha e.symm
theorem qZ5 {o:List Int}{i k:Nat}(h:Pm o)(hi:i < o.length)(hk:k < o.length):Pm (sw o i k):=by
 refine qT4.2 ⟨fun j hj=>?_,fun a b hab hb=>?_⟩
 ·rw[uD] at hj ⊢;rw[qA4 hi hk];split
  ·exact h.inR i hi
  ·split
   ·exact h.inR k hk
   ·exact h.inR j hj
 ·rw[uD] at hb;rw[qA4 hi hk,qA4 hi hk];have ha:a < o.length:=by omega
  split
  ·rename_i e;subst e;rw[if_neg (by omega)];split
   ·exact qIX h hi hk (by omega)
   ·exact qIX h hi hb (by omega)
  ·rename_i e1;split
   ·rename_i e2;subst e2;split
    ·rename_i e3;subst e3;exact qIX h hk hi (by omega)
    ·rw[if_neg (by omega)];exact qIX h hk hb (by omega)
   ·rename_i e2;split
    ·exact qIX h ha hi (by omega)
    ·split
     ·exact qIX h ha hk (by omega)
     ·exact qIX h ha hb (by omega)
def lt2 (i k a b:Nat):Prop:=i < a∨(i=a∧k < b)
def Inv (f:Nat->Nat->Int)(M:Int)(S:Nat->Nat->Prop)(v:Int)(a b:Nat):Prop :=
 (b=0∧a=0∧v=M∧∀ i k,i < k->S i k->M<=f i k)∨(a < b∧S a b∧v=f a b∧v < M∧∀ i k,i < k->S i k->v < f i k∨(v=f i k∧(a < i∨(a=i∧b<=k))))
theorem zBA {f:Nat->Nat->Int}{M:Int}{S:Nat->Nat->Prop}(h:∀ i k,i < k->¬ S i k):Inv f M S M 0 0:=.inl ⟨rfl,rfl,rfl,fun i k hik hs=>absurd hs (h i k hik)⟩
theorem oN {f:Nat->Nat->Int}{M v:Int}{a b:Nat}{S S':Nat->Nat->Prop}(h:Inv f M S v a b)(hS:∀ i k,i < k->(S' i k ↔ S i k)):Inv f M S' v a b:=by
 rcases h with ⟨h1,h2,h3,h4⟩ | ⟨h1,h2,h3,h4,h5⟩
 ·exact .inl ⟨h1,h2,h3,fun i k hik hs=>h4 i k hik ((hS i k hik).1 hs)⟩
 ·exact .inr ⟨h1,(hS a b h1).2 h2,h3,h4,fun i k hik hs=>h5 i k hik ((hS i k hik).1 hs)⟩
def upC (f:Nat->Nat->Int)(v:Int)(a b i k:Nat):Prop:=f i k < v∨(f i k=v∧b≠0∧lt2 i k a b)
theorem q9Q {f:Nat->Nat->Int}{M v:Int}{a b i k:Nat}{S S':Nat->Nat->Prop}(h:Inv f M S v a b)(hik:i < k)(hS:∀ x y,x < y->(S' x y ↔ S x y∨(x=i∧y=k)))(hc:upC f v a b i k):Inv f M S' (f i k) i k:=by
 have hvM:v<=M:=by rcases h with ⟨_,_,h3,_⟩ | ⟨_,_,_,h4,_⟩ <;> omega
 have hlt:f i k < M:=by
  rcases hc with hc | ⟨hc,hb,_⟩
  ·omega
  ·rcases h with ⟨h1,_⟩ | ⟨_,_,_,h4,_⟩
   ·exact absurd h1 hb
   ·omega
 refine .inr ⟨hik,(hS i k hik).2 (.inr ⟨rfl,rfl⟩),rfl,hlt,fun x y hxy hs=>?_⟩
 rcases (hS x y hxy).1 hs with hs | ⟨rfl,rfl⟩
 ·rcases hc with hc | ⟨hc,hb,hl⟩
  ·rcases h with ⟨_,_,h3,h4⟩ | ⟨_,_,_,_,h5⟩
   ·have:=h4 x y hxy hs;exact .inl (by omega)
   ·rcases h5 x y hxy hs with q | ⟨q,_⟩ <;> exact .inl (by omega)
  ·rcases h with ⟨h1,_⟩ | ⟨_,_,_,_,h5⟩
   ·exact absurd h1 hb
   ·unfold lt2 at hl
    rcases h5 x y hxy hs with q | ⟨q,q2⟩
    ·exact .inl (by omega)
    ·exact .inr ⟨by omega,by omega⟩
 ·exact .inr ⟨rfl,.inr ⟨rfl,zM0 _⟩⟩
theorem q9J {f:Nat->Nat->Int}{M v:Int}{a b i k:Nat}{S S':Nat->Nat->Prop}(h:Inv f M S v a b)(hik:i < k)(hS:∀ x y,x < y->(S' x y ↔ S x y∨(x=i∧y=k)))(hc:¬ upC f v a b i k):Inv f M S' v a b:=by
 unfold upC lt2 at hc
 rcases h with ⟨h1,h2,h3,h4⟩ | ⟨h1,h2,h3,h4,h5⟩
 ·refine .inl ⟨h1,h2,h3,fun x y hxy hs=>?_⟩
  rcases (hS x y hxy).1 hs with hs | ⟨rfl,rfl⟩
  ·exact h4 x y hxy hs
  ·omega
 ·refine .inr ⟨h1,(hS a b h1).2 (.inl h2),h3,h4,fun x y hxy hs=>?_⟩
  rcases (hS x y hxy).1 hs with hs | ⟨rfl,rfl⟩
  ·exact h5 x y hxy hs
  ·omega
theorem q12 {f:Nat->Nat->Int}{M v v':Int}{a b a' b':Nat}{S:Nat->Nat->Prop}(h:Inv f M S v a b)(h':Inv f M S v' a' b'):v=v'∧a=a'∧b=b':=by
 rcases h with ⟨h1,h2,h3,h4⟩ | ⟨h1,h2,h3,h4,h5⟩
 ·rcases h' with ⟨g1,g2,g3,g4⟩ | ⟨g1,g2,g3,g4,g5⟩
  ·omega
  ·have:=h4 a' b' g1 g2;omega
 ·rcases h' with ⟨g1,g2,g3,g4⟩ | ⟨g1,g2,g3,g4,g5⟩
  ·have:=g4 a b h1 h2;omega
  ·have e1:=h5 a' b' g1 g2;have e2:=g5 a b h1 h2;omega
theorem q25 (f:Nat->Nat->Int)(M:Int):∀ m,∃ v a b,Inv f M (fun _ k=>k < m) v a b
 | 0=>⟨M,0,0,zBA fun i k _ h=>absurd h (zOU _)⟩
 | m+1=>by
   have key:∀ j,j<=m->∃ v a b,Inv f M (fun i k=>k < m∨(k=m∧i < j)) v a b:=by
    intro j
    induction j with
    | zero =>
      intro _;obtain⟨v,a,b,h⟩:=q25 f M m;exact⟨v,a,b,oN h fun i k _=>⟨fun q=>by omega,fun q=>.inl q⟩⟩
    | succ j ih =>
      intro hj;obtain⟨v,a,b,h⟩:=ih (by omega);by_cases hc:upC f v a b j m
      ·exact⟨_,_,_,q9Q h (by omega) (fun x y _=>by omega) hc⟩
      ·exact⟨_,_,_,q9J h (show j < m by omega) (fun x y _=>by omega) hc⟩
   obtain⟨v,a,b,h⟩:=key m (zM0 _);exact⟨v,a,b,oN h fun i k hik=>by omega⟩
section
variable (ti fi:List Int)(se:List (List Int))
def fsw (o:List Int)(i k:Nat):Int:=tm ti fi se (sw o i k)
inductive Imp:List Int->List Int->Prop
 | done {o:List Int} (h:∀ i k,i < k->k < o.length->tm ti fi se o<=fsw ti fi se o i k):Imp o o
 | step {o r:List Int} {v:Int} {a b:Nat} (h:Inv (fsw ti fi se o) (tm ti fi se o) (fun _ k=>k < o.length) v a b) (hb:b≠0) (hr:Imp (sw o a b) r):Imp o r
end
theorem qPX {f:Nat->Nat->Int}{M v:Int}{a b:Nat}{S:Nat->Nat->Prop}(h:Inv f M S v a b)(hb:b≠0):a < b∧S a b∧v=f a b∧v < M:=by
 rcases h with ⟨h1,_⟩ | ⟨h1,h2,h3,h4,_⟩
 ·exact absurd h1 hb
 ·exact⟨h1,h2,h3,h4⟩
theorem qWY {f:Nat->Nat->Int}{M v:Int}{a:Nat}{S:Nat->Nat->Prop}(h:Inv f M S v a 0):a=0∧v=M∧∀ i k,i < k->S i k->M<=f i k:=by
 rcases h with ⟨_,h2,h3,h4⟩ | ⟨h1,_⟩
 ·exact⟨h2,h3,h4⟩
 ·omega
theorem q4Q {ti fi:List Int}{se:List (List Int)}(v:Vs ti fi se):∀ (N:Nat) (o:List Int),Pm o->o.length=ti.length->(tm ti fi se o).toNat < N->∃ r,Imp ti fi se o r
 | 0,o,_,_,h=>absurd h (zOU _)
 | N+1,o,hp,hl,h=>by
   have hn:=v.n2;obtain⟨w,a,b,hi⟩:=q25 (fsw ti fi se o) (tm ti fi se o) o.length;by_cases hb:b=0
   ·subst hb;exact⟨o,.done fun i k hik hk=>(qWY hi).2.2 i k hik hk⟩
   ·obtain⟨h1,h2,h3,h4⟩:=qPX hi hb;have hps:=qZ5 hp (show a < o.length by omega) h2;have hr:=zA0 v (o:=sw o a b) (by have:=hps.inR;rw[uD,hl] at this;exact this) (by rw[uD];omega);have e:tm ti fi se (sw o a b)=w:=h3.symm;obtain⟨r,hr2⟩:=q4Q v N (sw o a b) hps (by rw[uD];exact hl) (by omega);exact⟨r,.step hi hb hr2⟩
end Go.Proofs.YtpnecffgnjijjaaGreatDoor
