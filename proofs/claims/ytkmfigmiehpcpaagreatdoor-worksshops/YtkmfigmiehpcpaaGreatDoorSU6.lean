/- Plain laws of chapter 9: all orders, and the best sequence, by the program and by the reference. Conditions: none. -/
import Derived.Test.YtkmfigmiehpcpaaGreatDoorSU5
set_option linter.all false
set_option maxRecDepth 10000
set_option maxHeartbeats 100000000
namespace Go.Proofs.YtkmfigmiehpcpaaGreatDoor
open Go Go.Idl Go.Sv Go.Proofs
def odF (g:Nat->List (List Int))(b:List Int):Nat->List (List Int)
 | 0=>[]
 | i+1=>odF g b i++if (i:Int)∈b then [] else g i
def od (n:Nat):Nat->List Int->List (List Int)
 | 0,b=>[b]
 | d+1,b=>odF (fun i=>od n d (b++[(i:Int)])) b n
theorem qMN {g:Nat->List (List Int)}{b:List Int}{B:Nat}(h:∀ i,(g i).length<=B):∀ i,(odF g b i).length<=i*B
 | 0=>zPO _
 | i+1=>by
   show (odF g b i++_).length<=_;rw[zOG,zP1,Nat.one_mul];have h1:=qMN (b:=b) h i
   have h2:(if (i:Int)∈b then [] else g i).length<=B:=by
    split
    ·exact zPO _
    ·exact h i
   omega
theorem qPX {n:Nat}(hn:n<=8):∀ (d:Nat) (b:List Int),(od n d b).length<=8 ^ d
 | 0,b=>zNV _
 | d+1,b=>by
   refine zOH (qMN (B:=8 ^ d) (fun i=>qPX hn d _) n) ?_;rw[Nat.pow_succ,Nat.mul_comm];exact Nat.mul_le_mul_left _ hn
theorem zDV {b:List Int}{i:Int}(hl:b.length < 2 ^ 62):zJ8 (b,i)=some (decide (i∈b)):=by
 refine OkT.eq ?_;show OkT (zJ7 b i) _;unfold zJ7;refine vM b.length (fun k=>b.getD k 0=i) (fun k=>.inr (.inl true)) (.inl (b.length:Int)) ?_ ?_ ?_ ?_
 ·intro k hk;refine zS (dW (by omega)) (qQ k rfl hk (qP hk ?_));rw[gDE hk];refine zU (fun q=>qA (.inl ⟨beq_iff_eq.1 q,rfl⟩)) fun q=>qA (.inr ⟨beq_eq_false_iff_ne.1 q,?_⟩)
  rw[xO (show k < 2 ^ 62 by omega)]
 ·exact yH (mX (by omega)) (qA rfl)
 ·intro k hk hp _;refine qA ?_;rw[gDE hk] at hp;exact (decide_eq_true (hp ▸ zPE hk)).symm
 ·intro hn;refine qA (decide_eq_false fun hm=>?_).symm;obtain⟨k,hk,e⟩:=zPC.1 hm;exact hn k hk (by rw[gDE hk];exact e)
theorem zDT {b:List Int}{i:Int}(hl:b.length < 2 ^ 62):∃ k,zJY (b,i)=some k∧decide (0<=k)=decide (i∈b):=by
 suffices h:OkT (zJX b i) fun k=>decide (0<=k)=decide (i∈b) by
  obtain⟨k,h1,h2⟩:=h;exact⟨k,h1,h2⟩
 unfold zJX;refine vM b.length (fun k=>b.getD k 0=i) (fun k=>.inr (.inl (k:Int))) (.inl (b.length:Int)) ?_ ?_ ?_ ?_
 ·intro k hk;refine zS (dW (by omega)) (qQ k rfl hk (qP hk ?_));rw[gDE hk];refine zU (fun q=>qA (.inl ⟨(beq_iff_eq.1 q).symm,rfl⟩)) fun q=>qA (.inr ⟨fun e=>beq_eq_false_iff_ne.1 q e.symm,?_⟩)
  rw[xO (show k < 2 ^ 62 by omega)]
 ·exact yH (mX (by omega)) (qA rfl)
 ·intro k hk hp _;refine qA ?_;rw[gDE hk] at hp;rw[decide_eq_true (show (0:Int)<=(k:Int) by omega),decide_eq_true (hp ▸ zPE hk)]
 ·intro hn;refine qA ?_;rw[decide_eq_false (p:=i∈b) fun hm=>?_]
  ·rfl
  ·obtain⟨k,hk,e⟩:=zPC.1 hm;exact hn k hk (by rw[gDE hk];exact e)
theorem h116 {b:List Int}{i:Int}(hl:b.length < 2 ^ 62):zIA (b,i)=some (decide (i∈b)):=by
 obtain⟨k,h1,h2⟩:=zDT (i:=i) hl;refine OkT.eq ?_;show OkT (zJZ b i) _;unfold zJZ;exact qN h1 (qA h2)
theorem r81 {n:Nat}(hn:n<=5):∀ (d fuel:Nat) (b:List Int),d < fuel->b.length+d=n->R81 fuel ((n:Int),b)=some (od n d b)
 | d,0,b,hf,_=>by omega
 | 0,fuel+1,b,hf,hl=>by
   refine OkT.eq ?_;show OkT (G81 (R81 fuel) (n:Int) b) _;unfold G81;exact zS (by simp;omega) (qA rfl)
 | d+1,fuel+1,b,hf,hl=>by
   refine OkT.eq ?_;show OkT (G81 (R81 fuel) (n:Int) b) _;unfold G81;refine yH (by simp;omega) ?_;refine vC n (fun k (s:List (List Int))=>((k:Int),s)) (fun k s=>s=odF (fun i=>od n d (b++[(i:Int)])) b k) [] rfl rfl ?_ ?_
   ·rintro k s hk hs;have w1:IntKind.i64.wrap ((k:Int)+1)=((k+1:Nat):Int):=xO (by omega);refine zS (dW (show (k:Int) < (n:Int) by omega)) (qN (zDV (by omega)) ?_);by_cases hm:(k:Int)∈b
    ·refine yH (by simp[hm]) (qA ⟨s,by simp only[w1],?_⟩);show s=odF _ b k++if (k:Int)∈b then [] else _;rw[if_pos hm,zPN,hs]
    ·refine zS (by simp[hm]) ?_;have hrec:R81 fuel ((n:Int),b++[(k:Int)])=some (od n d (b++[(k:Int)])):=r81 hn d fuel _ (by omega) (by simp;omega);have hB:8 ^ d<=8 ^ 4:=Nat.pow_le_pow_right (by omega) (by omega);have hl1:=qMN (b:=b) (B:=8 ^ d) (fun i=>qPX (show n<=8 by omega) d (b++[(i:Int)])) k;have hl2:=qPX (show n<=8 by omega) d (b++[(k:Int)]);have hkB:k*8 ^ d<=5*8 ^ 4:=Nat.mul_le_mul (by omega) hB;rw[<-hs] at hl1
     have hst:∀ x4:List (List Int),x4=od n d (b++[(k:Int)])->OkT (zED.ite (x4.length.beq 0) (zED.ret (Sum.inl (IntKind.i64.wrap ((k:Int)+1),s))) (zED.ite ((s.length+x4.length).ble 1048576) (zED.ret (Sum.inl (IntKind.i64.wrap ((k:Int)+1),s++x4))) zED.fail):zED (Int×List (List Int)⊕Int×List (List Int)⊕List (List Int)⊕Nat×Int×List (List Int))) fun o=>∃ s':List (List Int),o=.inl (((k+1:Nat):Int),s')∧s'=odF (fun i=>od n d (b++[(i:Int)])) b (k+1):=by
      intro x4 hx
      have e:odF (fun i=>od n d (b++[(i:Int)])) b (k+1)=s++x4:=by
       show odF _ b k++(if (k:Int)∈b then [] else _)=_;rw[if_neg hm,hs,hx]
      rw[e,w1];refine zU (fun q=>qA ⟨s,rfl,?_⟩) fun q=>zS (zOA (by rw[hx];omega)) (qA ⟨s++x4,rfl,rfl⟩)
      rw[zQH (zNU q),zPN]
     refine zU (fun q=>?_) fun q=>zS (zOA (by omega)) (zS (zOA (by simp;omega)) ?_)
     ·have hb0:b=[]:=zQH (zNU q);subst hb0;exact qN hrec (hst _ rfl)
     ·exact qN hrec (hst _ rfl)
   ·intro s hs;exact yH (mX (show ¬ (n:Int) < (n:Int) by omega)) (qA ⟨_,rfl,qA hs⟩)
def iota (k:Nat):List Int:=(List.range k).map fun i:Nat=>(i:Int)
theorem q9M (k:Nat):iota (k+1)=iota k++[(k:Int)]:=by
 unfold iota;rw[List.range_succ,zO0];rfl
theorem q3N {g:Nat->List (List Int)}{b:List Int}{k:Nat}(h:g k≠[])(hm:(k:Int) ∉ b):∀ {i:Nat},k < i->odF g b i≠[]
 | 0,hi=>absurd hi (zP0 _)
 | i+1,hi=>by
   show odF g b i++(if (i:Int)∈b then [] else g i)≠[];by_cases q:k=i
   ·subst q;rw[if_neg hm];simp[h]
   ·have:=q3N h hm (i:=i) (by omega);simp[this]
theorem zAR {n:Nat}:∀ (d k:Nat),k+d=n->od n d (iota k)≠[]
 | 0,k,_=>by
   show [iota k]≠[];simp
 | d+1,k,h=>by
   refine q3N (k:=k) ?_ (fun hm=>?_) (by omega)
   ·show od n d (iota k++[(k:Int)])≠[];rw[<-q9M];exact zAR d (k+1) (by omega)
   ·unfold iota at hm;simp at hm;obtain⟨a,h1,h2⟩:=hm;omega
theorem qV0 {n:Nat}:∀ (d:Nat) (b:List Int),InR b n->∀ l∈od n d b,l.length=b.length+d∧InR l n
 | 0,b,hb,l,hl=>by
   have hl:l∈[b]:=hl;rw[zO2.1 hl];exact⟨rfl,hb⟩
 | d+1,b,hb,l,hl=>by
   have key:∀ i,i<=n->∀ l∈odF (fun i=>od n d (b++[(i:Int)])) b i,l.length=b.length+(d+1)∧InR l n:=by
    intro i
    induction i with
    | zero=>intro _ l hl;cases hl
    | succ i ih =>
      intro hi l hl;rcases zOZ.1 hl with h | h
      ·exact ih (by omega) l h
      ·split at h
       ·cases h
       ·have hb2:InR (b++[(i:Int)]) n:=fun j hj=>by
         rw[zOG] at hj;have hj:j < b.length+1:=hj;by_cases q:j=b.length
         ·subst q;rw[qWK];omega
         ·rw[q21 (by omega)];exact hb j (by omega)
        have:=qV0 d (b++[(i:Int)]) hb2 l h;rw[zOG] at this;have t1:l.length=b.length+1+d:=this.1;exact⟨by omega,this.2⟩
   exact key n (zNV _) l hl
section
variable (ti fi:List Int)(se:List (List Int))
def uR (st:List Int×Int)(l:List Int):List Int×Int:=if tm ti fi se l < st.2 then (l,tm ti fi se l) else st
def uP (st:List Int×Int)(l:List Int):List Int×Int:=if st.1=[]∨tm ti fi se l < st.2 then (l,tm ti fi se l) else st
def bq (n:Nat):List Int×Int:=(od n n []).foldl (uP ti fi se) ([],0)
end
section
variable {ti fi:List Int}{se:List (List Int)}
theorem q6T {L:List (List Int)}:∀ {st:List Int×Int},st.1≠[]->(∀ l∈L,l≠[])->L.foldl (uP ti fi se) st=L.foldl (uR ti fi se) st:=by
 induction L with
 | nil=>intro st _ _;rfl
 | cons l L ih =>
   intro st hs hl
   have e:uP ti fi se st l=uR ti fi se st l:=by
    unfold uP uR;by_cases h:tm ti fi se l < st.2
    ·rw[if_pos (.inr h),if_pos h]
    ·rw[if_neg h,if_neg (by rintro (q | q);exact hs q;exact h q)]
   show L.foldl _ (uP ti fi se st l)=L.foldl _ (uR ti fi se st l);rw[e];refine ih ?_ fun x hx=>hl x (zNZ _ hx)
   unfold uR;split
   ·exact hl l zN1
   ·exact hs
theorem qM4 (n:Nat):InR [] n:=fun j h=>absurd h (zP0 _)
theorem h34 (v:Vs ti fi se)(hn:ti.length<=5):H34 (ti,fi,se)=some (bq ti fi se ti.length).1:=by
 have hn1:=v.n1;refine OkT.eq ?_;show OkT (G34 (ti,fi,se)) _;unfold G34;dsimp only
 have h81:H81 ((ti.length:Int),[])=some (od ti.length ti.length []):=by
  have:=r81 hn ti.length 14 [] (by omega) (by simp);show R81 14 _=_;exact this
 refine qN h81 ?_;have hne:=zAR (n:=ti.length) ti.length 0 (by omega);have hne:od ti.length ti.length []≠[]:=hne;have hmem:=qV0 (n:=ti.length) ti.length [] (qM4 _);have hlen:=qPX (show ti.length<=8 by omega) ti.length [];have hB:8 ^ ti.length<=8 ^ 5:=Nat.pow_le_pow_right (by omega) hn;unfold bq;generalize od ti.length ti.length []=L at *;have hL0:0 < L.length:=List.length_pos_iff.2 hne
 have hM:∀ l∈L,H30 ((ti,fi,se),l)=some (tm ti fi se l):=fun l hl=>by
  have:=hmem l hl;exact h30 v this.2 (by rw[this.1];simp;omega)
 have h0:=zPE hL0;refine qQ 0 rfl hL0 (qP hL0 (qQ 0 rfl hL0 (qP hL0 (qN (hM _ h0) ?_))));refine vC L.length (fun k (s:List Int×Int)=>(s.1,s.2,(k:Int))) (fun k s=>s=(L.take k).foldl (uR ti fi se) (L[0],tm ti fi se L[0])) (L[0],tm ti fi se L[0]) rfl rfl ?_ ?_
 ·rintro k ⟨b,w⟩ hk hs;have hkm:=zPE hk;have w1:IntKind.i64.wrap ((k:Int)+1)=((k+1:Nat):Int):=xO (by omega)
  have e:(L.take (k+1)).foldl (uR ti fi se) (L[0],tm ti fi se L[0])=uR ti fi se (b,w) L[k]:=by
   rw[zSB,zNX hk,zSA,<-hs];rfl
  rw[e];refine zS (dW (show (k:Int) < (L.length:Int) by omega)) (qQ k rfl hk (qP hk (qN (hM _ hkm) ?_)));rw[w1];refine zU (fun q=>qQ k rfl hk (qP hk (qA ⟨(L[k],tm ti fi se L[k]),rfl,?_⟩))) fun q=>qA ⟨(b,w),rfl,?_⟩
  ·exact (if_pos (of_decide_eq_true q)).symm
  ·exact (if_neg (of_decide_eq_false q)).symm
 ·rintro⟨b,w⟩ hs;refine yH (mX (show ¬ (L.length:Int) < (L.length:Int) by omega)) (qA ⟨_,rfl,qA ?_⟩);show b=_
  have hall:∀ l∈L,l≠[]:=fun l hl e=>by
   have:=(hmem l hl).1;rw[e] at this;simp at this;omega
  rw[zQL] at hs
  cases L with
  | nil=>simp at hL0
  | cons l0 L =>
    have hl0:=hall l0 zN1;have hs:(b,w)=L.foldl (uR ti fi se) (uR ti fi se (l0,tm ti fi se l0) l0):=hs;have e1:uR ti fi se (l0,tm ti fi se l0) l0=(l0,tm ti fi se l0):=if_neg (Int.lt_irrefl _);have e2:uP ti fi se ([],0) l0=(l0,tm ti fi se l0):=if_pos (.inl rfl);show b=(L.foldl (uP ti fi se) (uP ti fi se ([],0) l0)).1;rw[e2,q6T (st:=(l0,tm ti fi se l0)) hl0 fun x hx=>hall x (zNZ _ hx)];rw[e1] at hs;rw[<-hs]
end
end Go.Proofs.YtkmfigmiehpcpaaGreatDoor
