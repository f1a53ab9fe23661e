/- Plain laws of chapter 9: small functions. Conditions: none. -/
import Derived.Test.YtmkiipeghngchaaGreatDoorPB9
import Derived.Test.YtmkiipeghngchaaGreatDoorPLQ
set_option linter.all false
set_option maxRecDepth 10000
set_option maxHeartbeats 100000000
namespace Go.Proofs.YtmkiipeghngchaaGreatDoor
open Go Go.Idl Go.Sv Go.Proofs
section
variable {R α β σ ρ τ:Type}
theorem qU4 {R S τ:Type}{F:S->Option (S⊕τ)}{K:τ->zEP R}{s s':S}(h:F s=some (.inl s')):zEP.bind (zO F s) K=zEP.bind (zO F s') K:=by
 rw[wG F s,h]
theorem qBY {R S τ:Type}{F:S->Option (S⊕τ)}{K:τ->zEP R}{s:S}{t:τ}(h:F s=some (.inr t)):zEP.bind (zO F s) K=K t:=by
 rw[wG F s,h];rfl
end
def outs (x a b:Int):Bool:=decide (x < a)||decide (b < x)
theorem h57 (x a b:Int):H57 (x,a,b)=some (outs x a b):=by
 show (G57 x a b).run=_;unfold G57 outs yC;cases decide (x < a) <;> rfl
theorem h59 (c:Bool)(k:Int):H59 (c,k)=some (cond c k 0):=by cases c <;> rfl
def fnz:List Int->Int
 | []=>0
 | x::l=>cond (x != 0) x (fnz l)
noncomputable def F58 (l:List Int)(s1:Int):Option (Int⊕(Int⊕Int⊕Nat×Int)):=zEP.ite (decide (s1 < (↑l.length:Int))) (zEP.bind (idx l.length s1) fun (x2:Nat)=>zEP.bind l[x2]? fun (x3:Int)=>zEP.ite (x3 != 0) (zEP.ret (Sum.inr (Sum.inr (Sum.inl x3)))) (zEP.ret (Sum.inl (IntKind.i64.wrap (s1+1))))) (zEP.ret (Sum.inr (Sum.inl s1)))
theorem h58 (l:List Int)(hl:l.length < 2 ^ 62):H58 l=some (fnz l):=by
 have key:∀ (m k:Nat),k+m=l.length->(zEP.bind (zO (F58 l) (k:Int)) fun (x1:Int⊕Int⊕Nat×Int)=>zEP.sum x1 (fun (s2:Int)=>(zEP.ret 0:zEP Int)) fun (s2:Int⊕Nat×Int)=>zEP.sum s2 (fun (s3:Int)=>zEP.ret s3) fun (s3:Nat×Int)=>zEP.fail)=zEP.ret (fnz (l.drop k)):=by
  intro m
  induction m with
  | zero =>
    intro k hk
    have hF:F58 l (k:Int)=some (.inr (.inl (k:Int))):=by
     unfold F58;rw[qRG (by omega)];rfl
    rw[qBY hF,List.drop_eq_nil_of_le (by omega)];rfl
  | succ m ih =>
    intro k hk;have hlt:k < l.length:=by omega
    rw[zQ7 hlt]
    cases hc:(l[k] != 0) with
    | true =>
      have hF:F58 l (k:Int)=some (.inr (.inr (.inl l[k]))):=by
       unfold F58;rw[qN3 (by omega),q3K,qTX hlt,qRN,zOC hlt,qRN,hc];rfl
      rw[qBY hF];unfold fnz;rw[hc];rfl
    | false =>
      have hF:F58 l (k:Int)=some (.inl ((k+1:Nat):Int)):=by
       unfold F58;rw[qN3 (by omega),q3K,qTX hlt,qRN,zOC hlt,qRN,hc,q6J,eB (by omega)];rfl
      rw[qU4 hF,ih (k+1) (by omega)];show zEP.ret (fnz (l.drop (k+1)))=zEP.ret (cond (l[k] != 0) l[k] (fnz (l.drop (k+1))));rw[hc];rfl
 exact key l.length 0 (by omega)
theorem qI4 {n:Int}(h0:-4611686018427387904<=n)(h1:n<=4611686018427387904):IntKind.i64.wrap n=n:=by
 have hw:IntKind.i64.wrap n=if (true&&decide (n % (18446744073709551616:Int) ≥ 9223372036854775808))=true then n % (18446744073709551616:Int) - 18446744073709551616 else n % (18446744073709551616:Int):=rfl;rw[hw];simp only[zSV,decide_eq_true_eq];split <;> omega
theorem zEL (b:Bool):yC b true=b:=rfl
theorem q8A (b:Bool):yC b false=!b:=rfl
theorem vZ {l:List Int}{i:Nat}(h:i < l.length):l.getD i 0=l[i]:=by
 rw[zPN,zOC h];rfl
theorem h69 {a b:Int}{l:List Int}(hl:l.length < 2 ^ 62):H69 (a,b,l)=some (cond (l.any fun x=>outs x a b) 3 0):=by
 refine OkT.eq ?_;show OkT (G69 a b l) _;unfold G69;refine qL9 l.length (fun k=>outs (l.getD k 0) a b=true) (fun k=>.inr (.inl (k:Int))) (.inl (l.length:Int)) ?_ ?_ ?_ ?_
 ·intro k hk;refine vY (qN3 (by omega)) (yL k rfl hk (xJ hk ?_));rw[vZ hk];unfold outs;refine jO (fun h=>jO (fun h2=>qI (.inl ⟨?_,rfl⟩)) fun h2=>qI (.inr ⟨?_,?_⟩)) fun h=>qI (.inl ⟨?_,rfl⟩)
  ·rw[h2,zSO]
  ·rw[q8A,zO0] at h;simp[h,h2]
  ·rw[eB (show k < 2 ^ 62 by omega)]
  ·rw[q8A,zSU] at h;rw[h,Bool.true_or]
 ·exact rE (qRG (by omega)) (qI rfl)
 ·intro k hk hp _;rw[vZ hk] at hp;show OkT (zEP.bind (H59 (decide (0<=(k:Int)),3)) fun (x6:Int)=>(zEP.ret x6:zEP Int)) _;refine qZ (h59 _ _) (qI ?_);rw[show (l.any fun x=>outs x a b)=true from List.any_eq_true.2 ⟨_,zPA hk,hp⟩,show decide (0<=(k:Int))=true from decide_eq_true (by omega)]
 ·intro hn;refine qI ?_;rw[show (l.any fun x=>outs x a b)=false from zQ5.2 fun x hx=>?_]
  ·rfl
  ·obtain⟨i,hi,rfl⟩:=zPS.1 hx;rw[<-vZ hi];exact hn i hi
theorem h72 {l:List Int}(hl:l.length < 2 ^ 62):H72 l=some (!(l.any fun x=>outs x 0 1000000)):=by
 refine OkT.eq ?_;show OkT (G72 l) _;unfold G72;refine qL9 l.length (fun k=>outs (l.getD k 0) 0 1000000=true) (fun k=>.inr (.inl false)) (.inl (l.length:Int)) ?_ ?_ ?_ ?_
 ·intro k hk;refine vY (qN3 (by omega)) (yL k rfl hk (xJ hk ?_));rw[vZ hk];refine qZ (h57 _ _ _) (jO (fun h=>qI (.inl ⟨h,rfl⟩)) fun h=>qI (.inr ⟨by simp[h],?_⟩));rw[eB (show k < 2 ^ 62 by omega)]
 ·exact rE (qRG (by omega)) (qI rfl)
 ·intro k hk hp _;rw[vZ hk] at hp;refine qI ?_;rw[show (l.any fun x=>outs x 0 1000000)=true from List.any_eq_true.2 ⟨_,zPA hk,hp⟩];rfl
 ·intro hn;refine qI ?_;rw[show (l.any fun x=>outs x 0 1000000)=false from zQ5.2 fun x hx=>?_]
  ·rfl
  ·obtain⟨i,hi,rfl⟩:=zPS.1 hx;rw[<-vZ hi];exact hn i hi
def nK (ts:List Int)(m:Int):Int:=cond (decide (32 < (ts.length:Int))) 5 (cond ((ts.any fun x=>outs x 0 1000000)||outs m 1 16) 3 0)
theorem h35 {ts:List Int}{m:Int}(hl:ts.length < 2 ^ 62):H35 (ts,m)=some (nK ts m):=by
 refine OkT.eq ?_;show OkT (G35 ts m) _;unfold G35 nK;refine jO (fun h=>qI (by rw[h];rfl)) fun h=>qZ (h72 hl) ?_
 rw[h]
 cases (ts.any fun x=>outs x 0 1000000) with
 | true=>exact qI rfl
 | false=>exact qZ (h57 _ _ _) (jO (fun h=>qI (by rw[h];rfl)) fun h=>qI (by rw[h];rfl))
theorem h75 {ts:List Int}(hl:ts.length < 2 ^ 62):H75 ts=some (cond (ts.any fun x=>outs x 0 1000000) 3 0):=OkT.eq (qZ (h69 hl) (qI rfl))
theorem h82 {ts:List Int}{m:Int}(hl:ts.length < 2 ^ 62):H82 (ts,m)=some (nK ts m):=by
 refine OkT.eq ?_;show OkT (G82 ts m) _;unfold G82 nK;refine qZ (h59 _ _) (qZ (h75 hl) (qZ (h69 (l:=[m]) (by simp)) (qZ (h58 _ (by simp)) (qI ?_))));rw[show ([m].any fun x=>outs x 1 16)=outs m 1 16 from zRR _];cases decide (32 < (ts.length:Int)) <;> cases (ts.any fun x=>outs x 0 1000000) <;> cases outs m 1 16 <;> rfl
theorem h45 {l:List Int}(hl:l.length < 2 ^ 62):H45 (l,l)=some true:=by
 refine OkT.eq ?_;show OkT (G45 l l) _;unfold G45;refine rE (by simp) ?_;refine qL9 l.length (fun k=>False) (fun k=>.inr (.inl false)) (.inl (l.length:Int)) ?_ ?_ ?_ ?_
 ·intro k hk;refine vY (qN3 (by omega)) (yL k rfl hk (xJ hk (yL k rfl hk (xJ hk (rE (by simp) (qI (.inr ⟨fun h=>h,?_⟩)))))));rw[eB (show k < 2 ^ 62 by omega)]
 ·exact rE (qRG (by omega)) (qI rfl)
 ·intro k hk hp _;exact hp.elim
 ·intro hn;exact qI rfl
theorem zBP {b:Int}(w:Int)(hb:b≠0):H16 (0,b,b,w)=some true:=by
 refine OkT.eq ?_;show OkT (G16 0 b b w) _;unfold G16;exact vY (by simp[hb]) (vY rfl (qI (by simp)))
theorem zDT (x:Int):H16 (x,0,0,x)=some true:=by
 refine OkT.eq ?_;show OkT (G16 x 0 0 x) _;unfold G16;exact rE rfl (vY rfl (qI (by simp)))
theorem zDN {b:Int}(w:List Int)(hb:b≠0):H17 ([],b,b,w)=some true:=by
 refine OkT.eq ?_;show OkT (G17 [] b b w) _;unfold G17;exact vY (by simp[hb]) (vY rfl (qI (by simp)))
theorem zEB {l:List Int}(hl:l.length < 2 ^ 62):H17 (l,0,0,l)=some true:=by
 refine OkT.eq ?_;show OkT (G17 l 0 0 l) _;unfold G17;exact rE rfl (vY rfl (qZ (h45 hl) (qI rfl)))
def mx:List Int->Int
 | []=>0
 | x::l=>if mx l < x then x else mx l
theorem qGT:∀ (l:List Int),0<=mx l
 | []=>zPO _
 | x::l=>by have:=qGT l;unfold mx;split <;> omega
theorem qYJ:∀ {l:List Int} {x:Int},x∈l->x<=mx l
 | y::l,x,h=>by
   rcases zOS.1 h with rfl | h
   ·unfold mx;split <;> omega
   ·have:=qYJ h;unfold mx;split <;> omega
theorem qOT:∀ (l:List Int),mx l=0∨mx l∈l
 | []=>.inl rfl
 | x::l=>by
   unfold mx;split
   ·exact .inr zOI
   ·rcases qOT l with h | h
    ·exact .inl h
    ·exact .inr (zOF _ h)
theorem q27 {l:List Int}{v:Int}(h0:0<=v)(h1:∀ x∈l,x<=v)(h2:v=0∨v∈l):mx l=v:=by
 have:=qGT l
 have h3:mx l<=v:=by
  rcases qOT l with h | h
  ·omega
  ·exact h1 _ h
 rcases h2 with h | h
 ·omega
 ·have:=qYJ h;omega
theorem h83 {l:List Int}(h:0 < l.length)(h2:l.length<=1000)(hn:∀ x∈l,0<=x):H83 l=some (mx l):=by
 refine OkT.eq (OkT.mono (Q:=fun m=>m∈l∧∀ (j:Nat) (hj:j < l.length),l[j]<=m) ?_ ?_)
 ·show OkT (G83 l) _;unfold G83;refine rE (decide_eq_false (by omega)) (yL 0 rfl h (xJ h ?_))
  refine tK (l.length - 1) (fun k s=>(s,((k+1:Nat):Int))) (fun k s=>s∈l∧∀ j (hj:j < l.length),j < k+1->l[j]<=s) l[0] rfl ⟨zPA h,fun j hj hk=>by
   have:j=0:=by omega
   subst this
   exact zPO _⟩ ?_ ?_
  ·intro k s hk ⟨h3,h4⟩;have hk1:k+1 < l.length:=by omega
   refine vY (qN3 (by simp only;omega)) (yL (k+1) rfl hk1 (xJ hk1 (qI ⟨bif decide (s < l[k+1]) then l[k+1] else s,by simp only[eB (show k+1 < 2 ^ 62 by omega)],?_⟩)))
   cases hd:decide (s < l[k+1]) with
   | true =>
     have hd:=of_decide_eq_true hd;refine⟨zPA hk1,fun j hj hjk=>?_⟩;show l[j]<=l[k+1];by_cases e:j=k+1
     ·subst e;exact zPO _
     ·have:=h4 j hj (by omega);omega
   | false =>
     have hd:=of_decide_eq_false hd;refine⟨h3,fun j hj hjk=>?_⟩;show l[j]<=s;by_cases e:j=k+1
     ·subst e;omega
     ·exact h4 j hj (by omega)
  ·intro s ⟨h3,h4⟩;refine rE (qRG (by simp only;omega)) (qI ⟨_,rfl,?_⟩);exact qI ⟨h3,fun j hj=>h4 j hj (by omega)⟩
 ·intro m ⟨h3,h4⟩
  exact (q27 (hn m h3) (fun x hx=>by
   obtain⟨i,hi,rfl⟩:=zPS.1 hx
   exact h4 i hi) (.inr h3)).symm
end Go.Proofs.YtmkiipeghngchaaGreatDoor
