/- Plain laws of chapter 9: all orders, and the best sequence, by the program and by the reference. Conditions: none. -/
import Derived.Test.YtpnecffgnjijjaaGreatDoorSU5
set_option linter.all false
set_option maxRecDepth 10000
set_option maxHeartbeats 100000000
namespace Go.Proofs.YtpnecffgnjijjaaGreatDoor
open Go Go.Idl Go.Sv Go.Proofs
def odF (g:Nat->List (List Int))(b:List Int):Nat->List (List Int)
 | 0=>[]
 | i+1=>odF g b i++if (i:Int)∈b then [] else g i
def od (n:Nat):Nat->List Int->List (List Int)
 | 0,b=>[b]
 | d+1,b=>odF (fun i=>od n d (b++[(i:Int)])) b n
theorem zES {b:List Int}{i:Int}(hl:b.length < 2 ^ 62):∃ k,H94 (b,i)=some k∧decide (0<=k)=decide (i∈b):=by
 suffices h:OkT (G94 b i) fun k=>decide (0<=k)=decide (i∈b) by
  obtain⟨k,h1,h2⟩:=h;exact⟨k,h1,h2⟩
 unfold G94;refine uO b.length (fun k=>b.getD k 0=i) (fun k=>.inr (.inl (k:Int))) (.inl (b.length:Int)) ?_ ?_ ?_ ?_
 ·intro k hk;refine xV (qAG (by omega)) (zH k rfl hk (zB hk ?_));rw[gDE hk];refine yV (fun q=>qC (.inl ⟨(beq_iff_eq.1 q).symm,rfl⟩)) fun q=>qC (.inr ⟨fun e=>beq_eq_false_iff_ne.1 q e.symm,?_⟩)
  rw[jC (show k < 2 ^ 62 by omega)]
 ·exact kD (qCY (by omega)) (qC rfl)
 ·intro k hk hp _;refine qC ?_;rw[gDE hk] at hp;rw[decide_eq_true (show (0:Int)<=(k:Int) by omega),decide_eq_true (hp ▸ zOG hk)]
 ·intro hn;refine qC ?_;rw[decide_eq_false (p:=i∈b) fun hm=>?_]
  ·rfl
  ·obtain⟨k,hk,e⟩:=zN3.1 hm;exact hn k hk (by rw[gDE hk];exact e)
theorem h116 {b:List Int}{i:Int}(hl:b.length < 2 ^ 62):H62 (b,i)=some (decide (i∈b)):=by
 obtain⟨k,h1,h2⟩:=zES (i:=i) hl;refine OkT.eq ?_;show OkT (G62 b i) _;unfold G62;exact zO h1 (qC h2)
def iota (k:Nat):List Int:=(List.range k).map fun i:Nat=>(i:Int)
theorem q30 (k:Nat):iota (k+1)=iota k++[(k:Int)]:=by
 unfold iota;rw[List.range_succ,zN6];rfl
theorem q4A {g:Nat->List (List Int)}{b:List Int}{k:Nat}(h:g k≠[])(hm:(k:Int) ∉ b):∀ {i:Nat},k < i->odF g b i≠[]
 | 0,hi=>absurd hi (zOU _)
 | i+1,hi=>by
   show odF g b i++(if (i:Int)∈b then [] else g i)≠[];by_cases q:k=i
   ·subst q;rw[if_neg hm];simp[h]
   ·have:=q4A h hm (i:=i) (by omega);simp[this]
theorem q5H {n:Nat}:∀ (d k:Nat),k+d=n->od n d (iota k)≠[]
 | 0,k,_=>by
   show [iota k]≠[];simp
 | d+1,k,h=>by
   refine q4A (k:=k) ?_ (fun hm=>?_) (by omega)
   ·show od n d (iota k++[(k:Int)])≠[];rw[<-q30];exact q5H d (k+1) (by omega)
   ·unfold iota at hm;simp at hm;obtain⟨a,h1,h2⟩:=hm;omega
theorem qYF {n:Nat}:∀ (d:Nat) (b:List Int),InR b n->∀ l∈od n d b,l.length=b.length+d∧InR l n
 | 0,b,hb,l,hl=>by
   have hl:l∈[b]:=hl;rw[zNT.1 hl];exact⟨rfl,hb⟩
 | d+1,b,hb,l,hl=>by
   have key:∀ i,i<=n->∀ l∈odF (fun i=>od n d (b++[(i:Int)])) b i,l.length=b.length+(d+1)∧InR l n:=by
    intro i
    induction i with
    | zero=>intro _ l hl;cases hl
    | succ i ih =>
      intro hi l hl;rcases zNM.1 hl with h | h
      ·exact ih (by omega) l h
      ·split at h
       ·cases h
       ·have hb2:InR (b++[(i:Int)]) n:=fun j hj=>by
         rw[zNK] at hj;have hj:j < b.length+1:=hj;by_cases q:j=b.length
         ·subst q;rw[qBT];omega
         ·rw[qD0 (by omega)];exact hb j (by omega)
        have:=qYF d (b++[(i:Int)]) hb2 l h;rw[zNK] at this;have t1:l.length=b.length+1+d:=this.1;exact⟨by omega,this.2⟩
   exact key n (zM0 _) l hl
section
variable (ti fi:List Int)(se:List (List Int))
def uR (st:List Int×Int)(l:List Int):List Int×Int:=if tm ti fi se l < st.2 then (l,tm ti fi se l) else st
def uP (st:List Int×Int)(l:List Int):List Int×Int:=if st.1=[]∨tm ti fi se l < st.2 then (l,tm ti fi se l) else st
def bq (n:Nat):List Int×Int:=(od n n []).foldl (uP ti fi se) ([],0)
end
section
variable {ti fi:List Int}{se:List (List Int)}
theorem qTF {L:List (List Int)}:∀ {st:List Int×Int},st.1≠[]->(∀ l∈L,l≠[])->L.foldl (uP ti fi se) st=L.foldl (uR ti fi se) st:=by
 induction L with
 | nil=>intro st _ _;rfl
 | cons l L ih =>
   intro st hs hl
   have e:uP ti fi se st l=uR ti fi se st l:=by
    unfold uP uR;by_cases h:tm ti fi se l < st.2
    ·rw[if_pos (.inr h),if_pos h]
    ·rw[if_neg h,if_neg (by rintro (q | q);exact hs q;exact h q)]
   show L.foldl _ (uP ti fi se st l)=L.foldl _ (uR ti fi se st l);rw[e];refine ih ?_ fun x hx=>hl x (zM3 _ hx)
   unfold uR;split
   ·exact hl l zM5
   ·exact hs
theorem qG0 (n:Nat):InR [] n:=fun j h=>absurd h (zOU _)
end
end Go.Proofs.YtpnecffgnjijjaaGreatDoor
